/- Contracts of the library, laid at this program by the kit's lay-shelf and lay-plain. -/
import Derived.Shelf.Strings.Builder1
import Derived.Shelf.Strings.Builder2
import Derived.Shelf.Strings.OnBuilder
import Derived.Shelf.Small.Bits
import Derived.Shelf.Utf8.RuneCount
import Derived.Shelf.Strconv.Atoi
import Derived.Shelf.Strconv.Itoa0
import Derived.Shelf.Strconv.Itoa1
import Derived.Shelf.LaysM
import Derived.Shelf.Strconv.Itoa2
import Derived.Shelf.Strconv.Itoa3
import Derived.Shelf.Strconv.AtoiErrFast
import Derived.Shelf.Strconv.ParseIntEmpty
import Derived.Shelf.Strconv.AtoiFail
import Derived.Shelf.Strconv.Clone
import Derived.Shelf.Strconv.SyntaxError
import Derived.Shelf.LaysC
import Derived.Shelf.Strconv.ToError
import Derived.Shelf.Strconv.Lower
import Derived.Shelf.Strconv.ParseUint10
import Derived.Shelf.Strconv.ParseUint10Empty
import Derived.Shelf.Strconv.ParseUint10Any
import Derived.Shelf.Strconv.ParseInt10
import Derived.Shelf.Strconv.AtoiLong
import Derived.Shelf.Strconv.AtoiInnerAll
import Derived.Shelf.Strconv.RangeError
import Derived.Shelf.Strconv.ToErrorRange
import Derived.Shelf.Strconv.AtoiAll
import Derived.Shelf.Strconv.ErrVarAll
import Derived.Shelf.Strings.Search1
import Derived.Shelf.Strings.Search2
import Derived.Shelf.Strings.Search3
import Derived.Shelf.Strings.Cut
import Derived.Shelf.Strings.Count
import Derived.Shelf.Strings.Shaped
import Derived.Shelf.Strings.Split
import Derived.Shelf.Strings.SplitShaped
import Derived.Shelf.Unicode.Decode
import Derived.Shelf.Strings.RuneCount
import Derived.Shelf.Strings.Explode
import Derived.Shelf.Bits.Mul64
import Derived.Shelf.Unicode.DecodeSlow
import Derived.Shelf.Unicode.DecodeAny
import Derived.Ground.Names2Prog
import Derived.Shelf.Slices.ReverseS
import Derived.Shelf.Slices.SearchI
import Derived.Shelf.Slices.Cells
import Derived.Test.YtnhnlkljcfbhfaaGreatDoorProg
import Derived.Test.YtnhnlkljcfbhfaaGreatDoorZc
import Derived.Test.YtnhnlkljcfbhfaaGreatDoorRows
import Derived.Test.YtnhnlkljcfbhfaaGreatDoorZd
import Derived.Lib.Split
import Derived.Lib.Join
import Derived.Lib.IndexMore
namespace Go.Proofs
open Go.Shelf
def Tryz.lays156_ren : Go.Shelf.Ren := ⟨fun | 156 => 74 | 165 => 109 | 166 => 110 | 169 => 111 | 240 => 149 | 241 => 150 | 276 => 177 | 277 => 178 | n => n, fun | 31 => 27 | 9 => 9 | 3 => 3 | 4 => 4 | 0 => 0 | 20 => 20 | 72 => 170 | 76 => 98 | 70 => 168 | 37 => 84 | 75 => 97 | 127 => 204 | 164 => 235 | 5 => 5 | 80 => 172 | n => n, fun | n => n⟩
theorem Tryz.lays156 : Go.Proofs.Lays.n156 Tryz.prog Tryz.lays156_ren := {
  mixed := by kernel_rfl
  f156 := Tryz.func74.trans (congrArg some (by kernel_rfl))
  f165 := Tryz.func109.trans (congrArg some (by kernel_rfl))
  f166 := Tryz.func110.trans (congrArg some (by kernel_rfl))
  f169 := Tryz.func111.trans (congrArg some (by kernel_rfl))
  f240 := Tryz.func149.trans (congrArg some (by kernel_rfl))
  f241 := Tryz.func150.trans (congrArg some (by kernel_rfl))
  f276 := Tryz.func177.trans (congrArg some (by kernel_rfl))
  f277 := Tryz.func178.trans (congrArg some (by kernel_rfl))
  t0 := Tryz.underlying0
  a0 := Tryz.isAgg0
  z0 := Tryz.sizeOf0
  v0 := Tryz.zeroValue0
  t3 := Tryz.underlying3
  a3 := Tryz.isAgg3
  z3 := Tryz.sizeOf3
  v3 := Tryz.zeroValue3
  t4 := Tryz.underlying4
  a4 := Tryz.isAgg4
  z4 := Tryz.sizeOf4
  v4 := Tryz.zeroValue4
  t9 := Tryz.underlying9
  a9 := Tryz.isAgg9
  z9 := Tryz.sizeOf9
  v9 := Tryz.zeroValue9
  t20 := Tryz.underlying20
  a20 := Tryz.isAgg20
  z20 := Tryz.sizeOf20
  v20 := Tryz.zeroValue20
  t31 := Tryz.underlying27
  a31 := Tryz.isAgg27
  z31 := Tryz.sizeOf27
  v31 := Tryz.zeroValue27
  t37 := Tryz.underlying84
  a37 := Tryz.isAgg84
  z37 := Tryz.sizeOf84
  v37 := Tryz.zeroValue84
  t70 := Tryz.underlying168
  a70 := Tryz.isAgg168
  z70 := Tryz.sizeOf168
  v70 := Tryz.zeroValue168
  t72 := Tryz.underlying170
  a72 := Tryz.isAgg170
  z72 := Tryz.sizeOf170
  v72 := Tryz.zeroValue170
  t75 := Tryz.underlying97
  a75 := Tryz.isAgg97
  z75 := Tryz.sizeOf97
  v75 := Tryz.zeroValue97
  t76 := Tryz.underlying98
  a76 := Tryz.isAgg98
  z76 := Tryz.sizeOf98
  v76 := Tryz.zeroValue98
  t127 := Tryz.underlying204
  a127 := Tryz.isAgg204
  z127 := Tryz.sizeOf204
  v127 := Tryz.zeroValue204
  t164 := Tryz.underlying235
  a164 := Tryz.isAgg235
  z164 := Tryz.sizeOf235
  v164 := Tryz.zeroValue235 }
theorem Tryz.Builder_Extra_156 : Builder.Extra Tryz.prog Tryz.lays156_ren := {
  sizeBuilder := by kernel_rfl
  liesBuilder := by kernel_rfl
  t5 := Tryz.underlying5
  a5 := Tryz.isAgg5
  z5 := Tryz.sizeOf5
  v5 := Tryz.zeroValue5
  infoByte := by kernel_rfl
  cellsByte := by kernel_rfl
  sizeByte := by kernel_rfl
  neB5 := by decide }
open Go.RowKit in
theorem Tryz.strings_Join_none (a : Option Addr) (c : Nat) (sep : ByteArray) (w : World) :
    Calls Tryz.prog 74 #[.slice a 0 c, .string sep] w fun e w' => e = .returned (.string ⟨#[]⟩) ∧ w' = w := Any.strings_Join_none Tryz.lays156 Tryz.Builder_Extra_156 a c sep w
open Go.RowKit in
theorem Tryz.strings_Join (bk o c : Nat) (xs : List ByteArray) (sep : ByteArray) (w : World) (hcells : ∀ (j : Nat) x, xs[j]? = some x → w.cell? ⟨bk, o + j, none⟩ = some (.string x)) (hbk : bk < w.heap.size) (hN : xs.length ≤ 140737488355328) (hcap : xs.length ≤ c) (hlen : (Lib.join (xs.map (·.data.toList)) sep.data.toList).length ≤ 140737488355328) :
    Calls Tryz.prog 74 #[.slice (some ⟨bk, o, none⟩) xs.length c, .string sep] w fun e w' => e = .returned (.string ⟨(Lib.join (xs.map (·.data.toList)) sep.data.toList).toArray⟩) ∧ Below w.heap.size w w' := Any.strings_Join Tryz.lays156 Tryz.Builder_Extra_156 bk o c xs sep w hcells hbk hN hcap hlen
def Tryz.laysM171_ren : Go.Shelf.Ren := ⟨fun | 171 => 40 | 243 => 78 | 246 => 115 | 283 => 154 | 284 => 155 | 285 => 156 | 286 => 157 | 129 => 135 | 317 => 180 | 318 => 181 | 319 => 182 | 320 => 183 | 337 => 201 | 338 => 202 | n => n, fun | 3 => 3 | 9 => 9 | 2 => 2 | 4 => 4 | 171 => 209 | 0 => 0 | 53 => 124 | 37 => 84 | 5 => 5 | 173 => 211 | 212 => 239 | 51 => 181 | 20 => 20 | 213 => 240 | 46 => 145 | 232 => 265 | 233 => 266 | n => n, fun | 17 => 5 | 18 => 8 | 19 => 9 | n => n⟩
theorem Tryz.laysM171 : Go.Proofs.LaysM.n171 Tryz.prog Tryz.laysM171_ren := {
  mixed := by kernel_rfl
  f129 := Tryz.func135.trans (congrArg some (by kernel_rfl))
  f171 := Tryz.func40.trans (congrArg some (by kernel_rfl))
  f243 := Tryz.func78.trans (congrArg some (by kernel_rfl))
  f246 := Tryz.func115.trans (congrArg some (by kernel_rfl))
  f283 := Tryz.func154.trans (congrArg some (by kernel_rfl))
  f284 := Tryz.func155.trans (congrArg some (by kernel_rfl))
  f285 := Tryz.func156.trans (congrArg some (by kernel_rfl))
  f286 := Tryz.func157.trans (congrArg some (by kernel_rfl))
  f317 := Tryz.func180.trans (congrArg some (by kernel_rfl))
  f318 := Tryz.func181.trans (congrArg some (by kernel_rfl))
  f319 := Tryz.func182.trans (congrArg some (by kernel_rfl))
  f320 := Tryz.func183.trans (congrArg some (by kernel_rfl))
  f337 := Tryz.func201.trans (congrArg some (by kernel_rfl))
  f338 := Tryz.func202.trans (congrArg some (by kernel_rfl))
  t0 := Tryz.underlying0
  a0 := Tryz.isAgg0
  z0 := Tryz.sizeOf0
  v0 := Tryz.zeroValue0
  t2 := Tryz.underlying2
  a2 := Tryz.isAgg2
  z2 := Tryz.sizeOf2
  v2 := Tryz.zeroValue2
  t3 := Tryz.underlying3
  a3 := Tryz.isAgg3
  z3 := Tryz.sizeOf3
  v3 := Tryz.zeroValue3
  t4 := Tryz.underlying4
  a4 := Tryz.isAgg4
  z4 := Tryz.sizeOf4
  v4 := Tryz.zeroValue4
  t5 := Tryz.underlying5
  a5 := Tryz.isAgg5
  z5 := Tryz.sizeOf5
  v5 := Tryz.zeroValue5
  t9 := Tryz.underlying9
  a9 := Tryz.isAgg9
  z9 := Tryz.sizeOf9
  v9 := Tryz.zeroValue9
  t20 := Tryz.underlying20
  a20 := Tryz.isAgg20
  z20 := Tryz.sizeOf20
  v20 := Tryz.zeroValue20
  t37 := Tryz.underlying84
  a37 := Tryz.isAgg84
  z37 := Tryz.sizeOf84
  v37 := Tryz.zeroValue84
  t46 := Tryz.underlying145
  a46 := Tryz.isAgg145
  z46 := Tryz.sizeOf145
  v46 := Tryz.zeroValue145
  t51 := Tryz.underlying181
  a51 := Tryz.isAgg181
  z51 := Tryz.sizeOf181
  v51 := Tryz.zeroValue181
  t53 := Tryz.underlying124
  a53 := Tryz.isAgg124
  z53 := Tryz.sizeOf124
  v53 := Tryz.zeroValue124
  t171 := Tryz.underlying209
  a171 := Tryz.isAgg209
  z171 := Tryz.sizeOf209
  v171 := Tryz.zeroValue209
  t173 := Tryz.underlying211
  a173 := Tryz.isAgg211
  z173 := Tryz.sizeOf211
  v173 := Tryz.zeroValue211
  t212 := Tryz.underlying239
  a212 := Tryz.isAgg239
  z212 := Tryz.sizeOf239
  v212 := Tryz.zeroValue239
  t213 := Tryz.underlying240
  a213 := Tryz.isAgg240
  z213 := Tryz.sizeOf240
  t232 := Tryz.underlying265
  a232 := Tryz.isAgg265
  z232 := Tryz.sizeOf265
  v232 := Tryz.zeroValue265
  t233 := Tryz.underlying266
  a233 := Tryz.isAgg266
  z233 := Tryz.sizeOf266
  v233 := Tryz.zeroValue266
  g17 := by kernel_rfl
  g18 := by kernel_rfl
  g19 := by kernel_rfl
  i0 := by kernel_rfl
  i2 := by kernel_rfl
  i3 := by kernel_rfl
  i4 := by kernel_rfl
  i5 := by kernel_rfl
  i9 := by kernel_rfl
  i20 := by kernel_rfl
  i37 := by kernel_rfl
  i46 := by kernel_rfl
  i51 := by kernel_rfl
  i53 := by kernel_rfl
  i171 := by kernel_rfl
  i173 := by kernel_rfl
  i212 := by kernel_rfl
  i232 := by kernel_rfl
  i233 := by kernel_rfl
  m17 := by kernel_rfl
  m18 := by kernel_rfl
  m19 := by kernel_rfl }
open Go.RowKit Go.Sort Go.Lib in
theorem Tryz.strconv_Itoa (n : Int) (h0 : -9223372036854775808 ≤ n) (h1 : n ≤ 9223372036854775807) (w : World) (htab : Lib.TabIs Tryz.prog w "internal/strconv.uint64pow10" .u64 Lib.pow10Tab) :
    Calls Tryz.prog 40 #[.int .i64 n] w fun e w' => e = .returned (.string ⟨(Lib.itoa n).toArray⟩) ∧ ∃ k os, w' = grow (w.drewN k) os := Any.strconv_Itoa Tryz.laysM171 n h0 h1 w htab
def Tryz.laysC172_ren : Go.Shelf.Ren := ⟨fun | 172 => 44 | 244 => 80 | 245 => 81 | 247 => 117 | 279 => 118 | 280 => 119 | 281 => 120 | 282 => 121 | 287 => 162 | 316 => 163 | 171 => 40 | 205 => 164 | 321 => 186 | 322 => 187 | 243 => 78 | 246 => 115 | 283 => 154 | 284 => 155 | 285 => 156 | 286 => 157 | 129 => 135 | 317 => 180 | 318 => 181 | 319 => 182 | 320 => 183 | 337 => 201 | 338 => 202 | n => n, fun | 9 => 9 | 3 => 3 | 75 => 97 | 76 => 98 | 4 => 4 | 5 => 5 | 167 => 175 | 37 => 84 | 0 => 0 | 85 => 176 | 2 => 2 | 168 => 178 | 53 => 124 | 175 => 214 | 46 => 145 | 210 => 218 | 127 => 204 | 145 => 245 | 143 => 243 | 21 => 21 | 171 => 209 | 173 => 211 | 212 => 239 | 51 => 181 | 20 => 20 | 213 => 240 | 232 => 265 | 233 => 266 | 80 => 172 | n => n, fun | 15 => 2 | 16 => 3 | 17 => 5 | 18 => 8 | 19 => 9 | n => n⟩
theorem Tryz.laysC172 : Go.Proofs.LaysC.n172 Tryz.prog Tryz.laysC172_ren := {
  mixed := by kernel_rfl
  f129 := Tryz.func135.trans (congrArg some (by kernel_rfl))
  f171 := Tryz.func40.trans (congrArg some (by kernel_rfl))
  f172 := Tryz.func44.trans (congrArg some (by kernel_rfl))
  f205 := Tryz.func164.trans (congrArg some (by kernel_rfl))
  f243 := Tryz.func78.trans (congrArg some (by kernel_rfl))
  f244 := Tryz.func80.trans (congrArg some (by kernel_rfl))
  f245 := Tryz.func81.trans (congrArg some (by kernel_rfl))
  f246 := Tryz.func115.trans (congrArg some (by kernel_rfl))
  f247 := Tryz.func117.trans (congrArg some (by kernel_rfl))
  f279 := Tryz.func118.trans (congrArg some (by kernel_rfl))
  f280 := Tryz.func119.trans (congrArg some (by kernel_rfl))
  f281 := Tryz.func120.trans (congrArg some (by kernel_rfl))
  f282 := Tryz.func121.trans (congrArg some (by kernel_rfl))
  f283 := Tryz.func154.trans (congrArg some (by kernel_rfl))
  f284 := Tryz.func155.trans (congrArg some (by kernel_rfl))
  f285 := Tryz.func156.trans (congrArg some (by kernel_rfl))
  f286 := Tryz.func157.trans (congrArg some (by kernel_rfl))
  f287 := Tryz.func162.trans (congrArg some (by kernel_rfl))
  f316 := Tryz.func163.trans (congrArg some (by kernel_rfl))
  f317 := Tryz.func180.trans (congrArg some (by kernel_rfl))
  f318 := Tryz.func181.trans (congrArg some (by kernel_rfl))
  f319 := Tryz.func182.trans (congrArg some (by kernel_rfl))
  f320 := Tryz.func183.trans (congrArg some (by kernel_rfl))
  f321 := Tryz.func186.trans (congrArg some (by kernel_rfl))
  f322 := Tryz.func187.trans (congrArg some (by kernel_rfl))
  f337 := Tryz.func201.trans (congrArg some (by kernel_rfl))
  f338 := Tryz.func202.trans (congrArg some (by kernel_rfl))
  t0 := Tryz.underlying0
  a0 := Tryz.isAgg0
  z0 := Tryz.sizeOf0
  v0 := Tryz.zeroValue0
  t2 := Tryz.underlying2
  a2 := Tryz.isAgg2
  z2 := Tryz.sizeOf2
  v2 := Tryz.zeroValue2
  t3 := Tryz.underlying3
  a3 := Tryz.isAgg3
  z3 := Tryz.sizeOf3
  v3 := Tryz.zeroValue3
  t4 := Tryz.underlying4
  a4 := Tryz.isAgg4
  z4 := Tryz.sizeOf4
  v4 := Tryz.zeroValue4
  t5 := Tryz.underlying5
  a5 := Tryz.isAgg5
  z5 := Tryz.sizeOf5
  v5 := Tryz.zeroValue5
  t9 := Tryz.underlying9
  a9 := Tryz.isAgg9
  z9 := Tryz.sizeOf9
  v9 := Tryz.zeroValue9
  t20 := Tryz.underlying20
  a20 := Tryz.isAgg20
  z20 := Tryz.sizeOf20
  v20 := Tryz.zeroValue20
  t21 := Tryz.underlying21
  a21 := Tryz.isAgg21
  z21 := Tryz.sizeOf21
  v21 := Tryz.zeroValue21
  t37 := Tryz.underlying84
  a37 := Tryz.isAgg84
  z37 := Tryz.sizeOf84
  v37 := Tryz.zeroValue84
  t46 := Tryz.underlying145
  a46 := Tryz.isAgg145
  z46 := Tryz.sizeOf145
  v46 := Tryz.zeroValue145
  t51 := Tryz.underlying181
  a51 := Tryz.isAgg181
  z51 := Tryz.sizeOf181
  v51 := Tryz.zeroValue181
  t53 := Tryz.underlying124
  a53 := Tryz.isAgg124
  z53 := Tryz.sizeOf124
  v53 := Tryz.zeroValue124
  t75 := Tryz.underlying97
  a75 := Tryz.isAgg97
  z75 := Tryz.sizeOf97
  v75 := Tryz.zeroValue97
  t76 := Tryz.underlying98
  a76 := Tryz.isAgg98
  z76 := Tryz.sizeOf98
  v76 := Tryz.zeroValue98
  t85 := Tryz.underlying176
  a85 := Tryz.isAgg176
  z85 := Tryz.sizeOf176
  v85 := Tryz.zeroValue176
  t127 := Tryz.underlying204
  a127 := Tryz.isAgg204
  z127 := Tryz.sizeOf204
  v127 := Tryz.zeroValue204
  t143 := Tryz.underlying243
  a143 := Tryz.isAgg243
  z143 := Tryz.sizeOf243
  v143 := Tryz.zeroValue243
  t145 := Tryz.underlying245
  a145 := Tryz.isAgg245
  z145 := Tryz.sizeOf245
  v145 := Tryz.zeroValue245
  t167 := Tryz.underlying175
  a167 := Tryz.isAgg175
  z167 := Tryz.sizeOf175
  v167 := Tryz.zeroValue175
  t168 := Tryz.underlying178
  a168 := Tryz.isAgg178
  z168 := Tryz.sizeOf178
  v168 := Tryz.zeroValue178
  t171 := Tryz.underlying209
  a171 := Tryz.isAgg209
  z171 := Tryz.sizeOf209
  v171 := Tryz.zeroValue209
  t173 := Tryz.underlying211
  a173 := Tryz.isAgg211
  z173 := Tryz.sizeOf211
  v173 := Tryz.zeroValue211
  t175 := Tryz.underlying214
  a175 := Tryz.isAgg214
  z175 := Tryz.sizeOf214
  v175 := Tryz.zeroValue214
  t210 := Tryz.underlying218
  a210 := Tryz.isAgg218
  z210 := Tryz.sizeOf218
  v210 := Tryz.zeroValue218
  t212 := Tryz.underlying239
  a212 := Tryz.isAgg239
  z212 := Tryz.sizeOf239
  v212 := Tryz.zeroValue239
  t213 := Tryz.underlying240
  a213 := Tryz.isAgg240
  z213 := Tryz.sizeOf240
  t232 := Tryz.underlying265
  a232 := Tryz.isAgg265
  z232 := Tryz.sizeOf265
  v232 := Tryz.zeroValue265
  t233 := Tryz.underlying266
  a233 := Tryz.isAgg266
  z233 := Tryz.sizeOf266
  v233 := Tryz.zeroValue266
  g15 := by kernel_rfl
  g16 := by kernel_rfl
  g17 := by kernel_rfl
  g18 := by kernel_rfl
  g19 := by kernel_rfl
  t80 := Tryz.underlying172
  a80 := Tryz.isAgg172
  z80 := Tryz.sizeOf172
  v80 := Tryz.zeroValue172
  i0 := by kernel_rfl
  i2 := by kernel_rfl
  i3 := by kernel_rfl
  i4 := by kernel_rfl
  i5 := by kernel_rfl
  i9 := by kernel_rfl
  i20 := by kernel_rfl
  i21 := by kernel_rfl
  i37 := by kernel_rfl
  i46 := by kernel_rfl
  i51 := by kernel_rfl
  i53 := by kernel_rfl
  i75 := by kernel_rfl
  i76 := by kernel_rfl
  i80 := by kernel_rfl
  i85 := by kernel_rfl
  i127 := by kernel_rfl
  i143 := by kernel_rfl
  i145 := by kernel_rfl
  i167 := by kernel_rfl
  i168 := by kernel_rfl
  i171 := by kernel_rfl
  i173 := by kernel_rfl
  i175 := by kernel_rfl
  i210 := by kernel_rfl
  i212 := by kernel_rfl
  i232 := by kernel_rfl
  i233 := by kernel_rfl
  m15 := by kernel_rfl
  m16 := by kernel_rfl
  m17 := by kernel_rfl
  m18 := by kernel_rfl
  m19 := by kernel_rfl
  c0 := by kernel_rfl
  c2 := by kernel_rfl
  c3 := by kernel_rfl
  c4 := by kernel_rfl
  c5 := by kernel_rfl
  c9 := by kernel_rfl
  c20 := by kernel_rfl
  c21 := by kernel_rfl
  c37 := by kernel_rfl
  c46 := by kernel_rfl
  c51 := by kernel_rfl
  c53 := by kernel_rfl
  c75 := by kernel_rfl
  c76 := by kernel_rfl
  c80 := by kernel_rfl
  c85 := by kernel_rfl
  c127 := by kernel_rfl
  c143 := by kernel_rfl
  c145 := by kernel_rfl
  c167 := by kernel_rfl
  c168 := by kernel_rfl
  c171 := by kernel_rfl
  c173 := by kernel_rfl
  c175 := by kernel_rfl
  c210 := by kernel_rfl
  c212 := by kernel_rfl
  c213 := by kernel_rfl
  c232 := by kernel_rfl
  c233 := by kernel_rfl }
open Go.RowKit in
theorem Tryz.strconv_Atoi_ok (s : ByteArray) (hmax : s.size ≤ 9223372036854775806) (v : Int) (h : Lib.atoiAll s.data.toList = .ok v) (w : World) :
    Calls Tryz.prog 44 #[.string s] w fun e w' => e = .returned (.tuple #[.int .i64 v, .nilIface]) ∧ (w' = w ∨ ∃ t, w' = Lib.bytesWorld w 5 t) := Any.strconv_Atoi_ok Tryz.laysC172 s hmax v h w
open Go.RowKit in
theorem Tryz.strconv_Atoi_syntax (s : ByteArray) (hlim : s.size ≤ 281474976710656) (h : Lib.atoiAll s.data.toList = Lib.NumEnd.syntax) (ev : Value) (w : World) (hv : w.cell? ⟨2, 0, none⟩ = some ev) (hev : ev = .nilIface ∨ ∃ te pe, ev = .iface te pe) :
    Calls Tryz.prog 44 #[.string s] w fun e w' => ∃ N, e = .returned (.tuple #[.int .i64 (0), .iface 178 (.pointer (some ⟨N, 0, none⟩))]) ∧ w.heap.size ≤ N ∧ w'.heap[N]? = some (.cells #[.string ⟨#[65, 116, 111, 105]⟩, .string s, ev] 218 (0, 0)) ∧ Below w.heap.size w w' := Any.strconv_Atoi_syntax Tryz.laysC172 s hlim h ev w hv hev
open Go.RowKit in
theorem Tryz.strconv_Atoi_range (s : ByteArray) (hlim : s.size ≤ 281474976710656) (h : Lib.atoiAll s.data.toList = .range) (ev : Value) (w : World) (hv : w.cell? ⟨3, 0, none⟩ = some ev) (hev : ev = .nilIface ∨ ∃ te pe, ev = .iface te pe) :
    Calls Tryz.prog 44 #[.string s] w fun e w' => ∃ N, e = .returned (.tuple #[.int .i64 (Lib.atoiSat s.data.toList), .iface 178 (.pointer (some ⟨N, 0, none⟩))]) ∧ w.heap.size ≤ N ∧ w'.heap[N]? = some (.cells #[.string ⟨#[65, 116, 111, 105]⟩, .string s, ev] 218 (0, 0)) ∧ Below w.heap.size w w' := Any.strconv_Atoi_range Tryz.laysC172 s hlim h ev w hv hev
def Tryz.lays145_ren : Go.Shelf.Ren := ⟨fun | 145 => 43 | 220 => 79 | 219 => 116 | 217 => 158 | 225 => 159 | 224 => 160 | 267 => 161 | 266 => 184 | 314 => 185 | n => n, fun | 9 => 9 | 4 => 4 | 59 => 94 | 3 => 3 | 5 => 5 | 46 => 145 | 146 => 182 | 51 => 181 | n => n, fun | 1 => 1 | n => n⟩
theorem Tryz.lays145 : Go.Proofs.Lays.n145 Tryz.prog Tryz.lays145_ren := {
  mixed := by kernel_rfl
  f145 := Tryz.func43.trans (congrArg some (by kernel_rfl))
  f217 := Tryz.func158.trans (congrArg some (by kernel_rfl))
  f219 := Tryz.func116.trans (congrArg some (by kernel_rfl))
  f220 := Tryz.func79.trans (congrArg some (by kernel_rfl))
  f224 := Tryz.func160.trans (congrArg some (by kernel_rfl))
  f225 := Tryz.func159.trans (congrArg some (by kernel_rfl))
  f266 := Tryz.func184.trans (congrArg some (by kernel_rfl))
  f267 := Tryz.func161.trans (congrArg some (by kernel_rfl))
  f314 := Tryz.func185.trans (congrArg some (by kernel_rfl))
  t3 := Tryz.underlying3
  a3 := Tryz.isAgg3
  z3 := Tryz.sizeOf3
  v3 := Tryz.zeroValue3
  t4 := Tryz.underlying4
  a4 := Tryz.isAgg4
  z4 := Tryz.sizeOf4
  v4 := Tryz.zeroValue4
  t5 := Tryz.underlying5
  a5 := Tryz.isAgg5
  z5 := Tryz.sizeOf5
  v5 := Tryz.zeroValue5
  t9 := Tryz.underlying9
  a9 := Tryz.isAgg9
  z9 := Tryz.sizeOf9
  v9 := Tryz.zeroValue9
  t46 := Tryz.underlying145
  a46 := Tryz.isAgg145
  z46 := Tryz.sizeOf145
  v46 := Tryz.zeroValue145
  t51 := Tryz.underlying181
  a51 := Tryz.isAgg181
  z51 := Tryz.sizeOf181
  v51 := Tryz.zeroValue181
  t59 := Tryz.underlying94
  a59 := Tryz.isAgg94
  z59 := Tryz.sizeOf94
  v59 := Tryz.zeroValue94
  t146 := Tryz.underlying182
  a146 := Tryz.isAgg182
  z146 := Tryz.sizeOf182
  v146 := Tryz.zeroValue182
  g1 := by kernel_rfl }
open Go.RowKit Go.Lib in
theorem Tryz.strings_Cut (s sep : ByteArray) (m : Int) (w : World) (hs : s.size < 4294967281) (hm : w.cell? ⟨1, 0, none⟩ = some (.int .i64 m)) :
    Calls Tryz.prog 43 #[.string s, .string sep] w fun e w' => e = .returned (.tuple #[.string ⟨(Lib.cut s.data.toList sep.data.toList).1.toArray⟩, .string ⟨(Lib.cut s.data.toList sep.data.toList).2.1.toArray⟩, .bool (Lib.cut s.data.toList sep.data.toList).2.2]) ∧ ∃ n, w' = w.drewN n := Any.strings_Cut Tryz.lays145 s sep m w hs hm
def Tryz.lays146_ren : Go.Shelf.Ren := ⟨fun | 146 => 38 | 221 => 77 | 268 => 113 | 138 => 114 | 143 => 104 | 195 => 151 | 197 => 152 | 218 => 153 | 219 => 116 | 260 => 179 | 217 => 158 | 225 => 159 | 224 => 160 | 267 => 161 | 266 => 184 | 314 => 185 | n => n, fun | 9 => 9 | 31 => 27 | 3 => 3 | 4 => 4 | 0 => 0 | 105 => 206 | 21 => 21 | 5 => 5 | 46 => 145 | 119 => 256 | 139 => 259 | 138 => 258 | 146 => 182 | 51 => 181 | n => n, fun | 1 => 1 | 3 => 6 | 4 => 7 | n => n⟩
theorem Tryz.lays146 : Go.Proofs.Lays.n146 Tryz.prog Tryz.lays146_ren := {
  mixed := by kernel_rfl
  f138 := Tryz.func114.trans (congrArg some (by kernel_rfl))
  f143 := Tryz.func104.trans (congrArg some (by kernel_rfl))
  f146 := Tryz.func38.trans (congrArg some (by kernel_rfl))
  f195 := Tryz.func151.trans (congrArg some (by kernel_rfl))
  f197 := Tryz.func152.trans (congrArg some (by kernel_rfl))
  f217 := Tryz.func158.trans (congrArg some (by kernel_rfl))
  f218 := Tryz.func153.trans (congrArg some (by kernel_rfl))
  f219 := Tryz.func116.trans (congrArg some (by kernel_rfl))
  f221 := Tryz.func77.trans (congrArg some (by kernel_rfl))
  f224 := Tryz.func160.trans (congrArg some (by kernel_rfl))
  f225 := Tryz.func159.trans (congrArg some (by kernel_rfl))
  f260 := Tryz.func179.trans (congrArg some (by kernel_rfl))
  f266 := Tryz.func184.trans (congrArg some (by kernel_rfl))
  f267 := Tryz.func161.trans (congrArg some (by kernel_rfl))
  f268 := Tryz.func113.trans (congrArg some (by kernel_rfl))
  f314 := Tryz.func185.trans (congrArg some (by kernel_rfl))
  t0 := Tryz.underlying0
  a0 := Tryz.isAgg0
  z0 := Tryz.sizeOf0
  v0 := Tryz.zeroValue0
  t3 := Tryz.underlying3
  a3 := Tryz.isAgg3
  z3 := Tryz.sizeOf3
  v3 := Tryz.zeroValue3
  t4 := Tryz.underlying4
  a4 := Tryz.isAgg4
  z4 := Tryz.sizeOf4
  v4 := Tryz.zeroValue4
  t5 := Tryz.underlying5
  a5 := Tryz.isAgg5
  z5 := Tryz.sizeOf5
  v5 := Tryz.zeroValue5
  t9 := Tryz.underlying9
  a9 := Tryz.isAgg9
  z9 := Tryz.sizeOf9
  v9 := Tryz.zeroValue9
  t21 := Tryz.underlying21
  a21 := Tryz.isAgg21
  z21 := Tryz.sizeOf21
  v21 := Tryz.zeroValue21
  t31 := Tryz.underlying27
  a31 := Tryz.isAgg27
  z31 := Tryz.sizeOf27
  v31 := Tryz.zeroValue27
  t46 := Tryz.underlying145
  a46 := Tryz.isAgg145
  z46 := Tryz.sizeOf145
  v46 := Tryz.zeroValue145
  t51 := Tryz.underlying181
  a51 := Tryz.isAgg181
  z51 := Tryz.sizeOf181
  v51 := Tryz.zeroValue181
  t105 := Tryz.underlying206
  a105 := Tryz.isAgg206
  z105 := Tryz.sizeOf206
  v105 := Tryz.zeroValue206
  t119 := Tryz.underlying256
  a119 := Tryz.isAgg256
  z119 := Tryz.sizeOf256
  t138 := Tryz.underlying258
  a138 := Tryz.isAgg258
  z138 := Tryz.sizeOf258
  v138 := Tryz.zeroValue258
  t139 := Tryz.underlying259
  a139 := Tryz.isAgg259
  z139 := Tryz.sizeOf259
  v139 := Tryz.zeroValue259
  t146 := Tryz.underlying182
  a146 := Tryz.isAgg182
  z146 := Tryz.sizeOf182
  v146 := Tryz.zeroValue182
  g1 := by kernel_rfl
  g3 := by kernel_rfl
  g4 := by kernel_rfl }
open Go.RowKit Go.Lib in
theorem Tryz.strings_Split (s sep : ByteArray) (m : Int) (w : World) (hs : s.size < 4294967281) (hm : w.cell? ⟨1, 0, none⟩ = some (.int .i64 m)) (h1 : 1 ≤ sep.size) :
    Calls Tryz.prog 38 #[.string s, .string sep] w fun e w' =>
      e = .returned (.slice (some ⟨w.heap.size, 0, none⟩) (Lib.countB s sep + 1) (Lib.countB s sep + 1)) ∧ w' = w.alloc (.cells ((Lib.splitB sep 0 (Lib.countB s sep) s).map Value.string).toArray 9) := Any.strings_Split Tryz.lays146 (by kernel_rfl) s sep m w hs hm h1
end Go.Proofs
/- The library's calls at this program, answered by the kit's contracts; the laid tables as rows. -/
namespace Go.Proofs.YtnhnlkljcfbhfaaGreatDoor
open Go Go.Ab Go.RowKit
def rw0 : List AV := [.s (.int .u8 (80)), .s (.int .i64 (1)), .s (.string ⟨#[112, 97, 119, 110]⟩), .s (.int .u8 (78)), .s (.int .i64 (3)), .s (.string ⟨#[107, 110, 105, 103, 104, 116]⟩), .s (.int .u8 (66)), .s (.int .i64 (3)), .s (.string ⟨#[98, 105, 115, 104, 111, 112]⟩), .s (.int .u8 (82)), .s (.int .i64 (5)), .s (.string ⟨#[114, 111, 111, 107]⟩), .s (.int .u8 (81)), .s (.int .i64 (9)), .s (.string ⟨#[113, 117, 101, 101, 110]⟩), .s (.int .u8 (75)), .s (.int .i64 (0)), .s (.string ⟨#[107, 105, 110, 103]⟩), .s (.int .u8 (65)), .s (.int .i64 (0)), .s (.string ⟨#[102, 97, 105, 114, 121, 45, 97]⟩), .s (.int .u8 (67)), .s (.int .i64 (0)), .s (.string ⟨#[102, 97, 105, 114, 121, 45, 99]⟩), .s (.int .u8 (68)), .s (.int .i64 (0)), .s (.string ⟨#[102, 97, 105, 114, 121, 45, 100]⟩), .s (.int .u8 (69)), .s (.int .i64 (0)), .s (.string ⟨#[102, 97, 105, 114, 121, 45, 101]⟩), .s (.int .u8 (70)), .s (.int .i64 (0)), .s (.string ⟨#[102, 97, 105, 114, 121, 45, 102]⟩), .s (.int .u8 (71)), .s (.int .i64 (0)), .s (.string ⟨#[102, 97, 105, 114, 121, 45, 103]⟩), .s (.int .u8 (72)), .s (.int .i64 (0)), .s (.string ⟨#[102, 97, 105, 114, 121, 45, 104]⟩), .s (.int .u8 (73)), .s (.int .i64 (0)), .s (.string ⟨#[102, 97, 105, 114, 121, 45, 105]⟩), .s (.int .u8 (74)), .s (.int .i64 (0)), .s (.string ⟨#[102, 97, 105, 114, 121, 45, 106]⟩)]
def rw4 : List AV := [.s (.int .i64 (8)), .s (.int .i64 (8))]
def rw5 : List AV := [.s (.int .u64 (1)), .s (.int .u64 (10)), .s (.int .u64 (100)), .s (.int .u64 (1000)), .s (.int .u64 (10000)), .s (.int .u64 (100000)), .s (.int .u64 (1000000)), .s (.int .u64 (10000000)), .s (.int .u64 (100000000)), .s (.int .u64 (1000000000)), .s (.int .u64 (10000000000)), .s (.int .u64 (100000000000)), .s (.int .u64 (1000000000000)), .s (.int .u64 (10000000000000)), .s (.int .u64 (100000000000000)), .s (.int .u64 (1000000000000000)), .s (.int .u64 (10000000000000000)), .s (.int .u64 (100000000000000000)), .s (.int .u64 (1000000000000000000)), .s (.int .u64 (10000000000000000000))]
def rw8 : List AV := [.s (.int .u8 (0)), .s (.int .u8 (1)), .s (.int .u8 (28)), .s (.int .u8 (2)), .s (.int .u8 (29)), .s (.int .u8 (14)), .s (.int .u8 (24)), .s (.int .u8 (3)), .s (.int .u8 (30)), .s (.int .u8 (22)), .s (.int .u8 (20)), .s (.int .u8 (15)), .s (.int .u8 (25)), .s (.int .u8 (17)), .s (.int .u8 (4)), .s (.int .u8 (8)), .s (.int .u8 (31)), .s (.int .u8 (27)), .s (.int .u8 (13)), .s (.int .u8 (23)), .s (.int .u8 (21)), .s (.int .u8 (19)), .s (.int .u8 (16)), .s (.int .u8 (7)), .s (.int .u8 (26)), .s (.int .u8 (12)), .s (.int .u8 (18)), .s (.int .u8 (6)), .s (.int .u8 (11)), .s (.int .u8 (5)), .s (.int .u8 (10)), .s (.int .u8 (9))]
def rw9 : List AV := [.s (.int .u8 (0)), .s (.int .u8 (1)), .s (.int .u8 (56)), .s (.int .u8 (2)), .s (.int .u8 (57)), .s (.int .u8 (49)), .s (.int .u8 (28)), .s (.int .u8 (3)), .s (.int .u8 (61)), .s (.int .u8 (58)), .s (.int .u8 (42)), .s (.int .u8 (50)), .s (.int .u8 (38)), .s (.int .u8 (29)), .s (.int .u8 (17)), .s (.int .u8 (4)), .s (.int .u8 (62)), .s (.int .u8 (47)), .s (.int .u8 (59)), .s (.int .u8 (36)), .s (.int .u8 (45)), .s (.int .u8 (43)), .s (.int .u8 (51)), .s (.int .u8 (22)), .s (.int .u8 (53)), .s (.int .u8 (39)), .s (.int .u8 (33)), .s (.int .u8 (30)), .s (.int .u8 (24)), .s (.int .u8 (18)), .s (.int .u8 (12)), .s (.int .u8 (5)), .s (.int .u8 (63)), .s (.int .u8 (55)), .s (.int .u8 (48)), .s (.int .u8 (27)), .s (.int .u8 (60)), .s (.int .u8 (41)), .s (.int .u8 (37)), .s (.int .u8 (16)), .s (.int .u8 (46)), .s (.int .u8 (35)), .s (.int .u8 (44)), .s (.int .u8 (21)), .s (.int .u8 (52)), .s (.int .u8 (32)), .s (.int .u8 (23)), .s (.int .u8 (11)), .s (.int .u8 (54)), .s (.int .u8 (26)), .s (.int .u8 (40)), .s (.int .u8 (15)), .s (.int .u8 (34)), .s (.int .u8 (20)), .s (.int .u8 (31)), .s (.int .u8 (10)), .s (.int .u8 (25)), .s (.int .u8 (14)), .s (.int .u8 (19)), .s (.int .u8 (9)), .s (.int .u8 (13)), .s (.int .u8 (8)), .s (.int .u8 (7)), .s (.int .u8 (6))]
def rw10 : List AV := [.s (.int .i64 (1)), .s (.int .i64 (2)), .s (.int .i64 (2)), .s (.int .i64 (1)), .s (.int .i64 (2)), .s (.int .i64 (-1)), .s (.int .i64 (1)), .s (.int .i64 (-2)), .s (.int .i64 (-1)), .s (.int .i64 (-2)), .s (.int .i64 (-2)), .s (.int .i64 (-1)), .s (.int .i64 (-2)), .s (.int .i64 (1)), .s (.int .i64 (-1)), .s (.int .i64 (2))]
def rw11 : List AV := [.s (.int .i64 (1)), .s (.int .i64 (1)), .s (.int .i64 (-1)), .s (.int .i64 (1)), .s (.int .i64 (-1)), .s (.int .i64 (-1)), .s (.int .i64 (1)), .s (.int .i64 (-1))]
def rw12 : List AV := [.s (.int .i64 (1)), .s (.int .i64 (0)), .s (.int .i64 (0)), .s (.int .i64 (1)), .s (.int .i64 (-1)), .s (.int .i64 (0)), .s (.int .i64 (0)), .s (.int .i64 (-1))]
noncomputable def rowsR (m : Int) (e2 e3 : Value) (g : Nat) : Option (List AV) := match g with
  | 0 => some rw0
  | 1 => some [.s (.int .i64 m)]
  | 2 => some [.s e2]
  | 3 => some [.s e3]
  | 4 => some rw4
  | 5 => some rw5
  | 8 => some rw8
  | 9 => some rw9
  | 10 => some rw10
  | 11 => some rw11
  | 12 => some rw12
  | _ => none
def strsOf : List (List AV) → Option (List ByteArray)
  | [] => some []
  | r :: rs => match r, strsOf rs with
    | [.s (.string b)], some xs => some (b :: xs)
    | _, _ => none
noncomputable def joinC : List AV → Option (AS → Option (AV × AS))
  | [.sl o i n none, .s (.string sep)] => some fun σ => match σ.get o with
    | some (.cells _ es _ rows) => if es = 1 ∧ i + n ≤ rows.length ∧ n ≤ 140737488355328 then match strsOf ((rows.drop i).take n) with
      | some xs => if (Lib.join (xs.map (·.data.toList)) sep.data.toList).length ≤ 140737488355328 then some (.s (.string ⟨(Lib.join (xs.map (·.data.toList)) sep.data.toList).toArray⟩), σ) else none
      | none => none
      else none
    | _ => none
  | _ => none
noncomputable def atoiC : List AV → Option (AS → Option (AV × AS))
  | [.s (.string s)] => if s.size ≤ 281474976710656 then match Lib.atoiAll s.data.toList with
    | .ok v => some fun σ => some (.s (.tuple #[.int .i64 v, .nilIface]), σ)
    | Lib.NumEnd.syntax => some fun σ => some (.tup [.s (.int .i64 0), .ifc 178 (.ptr σ.newId 0 0)], σ.push .dead)
    | .range => some fun σ => some (.tup [.s (.int .i64 (Lib.atoiSat s.data.toList)), .ifc 178 (.ptr σ.newId 0 0)], σ.push .dead)
    else none
  | _ => none
/-- The digits of a number. -/
def decN : Nat → Nat → List UInt8
  | 0, _ => []
  | f + 1, n => if n < 10 then [UInt8.ofNat (48 + n)] else decN f (n / 10) ++ [UInt8.ofNat (48 + n % 10)]
def itoaN (n : Int) : List UInt8 := if n < 0 then 45 :: decN 30 n.natAbs else decN 30 n.toNat
noncomputable def itoaC : List AV → Option (AS → Option (AV × AS))
  | [.s (.int .i64 n)] => if -9223372036854775808 ≤ n ∧ n ≤ 9223372036854775807 then some fun σ => some (.s (.string ⟨(itoaN n).toArray⟩), σ) else none
  | _ => none
noncomputable def cutC : List AV → Option (AS → Option (AV × AS))
  | [.s (.string s), .s (.string sep)] => if s.size < 4294967281 then some fun σ => some (.s (.tuple #[.string ⟨(Lib.cut s.data.toList sep.data.toList).1.toArray⟩, .string ⟨(Lib.cut s.data.toList sep.data.toList).2.1.toArray⟩, .bool (Lib.cut s.data.toList sep.data.toList).2.2]), σ) else none
  | _ => none
noncomputable def splitC : List AV → Option (AS → Option (AV × AS))
  | [.s (.string s), .s (.string sep)] => if s.size < 4294967281 ∧ 1 ≤ sep.size then some fun σ => some (.sl σ.newId 0 (Lib.countB s sep + 1) none, σ.push (.cells 9 1 true ((Lib.splitB sep 0 (Lib.countB s sep) s).map fun b => [.s (.string b)]))) else none
  | _ => none
noncomputable def libs : List (FuncId × (List AV → Option (AS → Option (AV × AS)))) := [(74, joinC), (44, atoiC), (40, itoaC), (43, cutC), (38, splitC)]
noncomputable def glR (m : Int) (e2 e3 : Value) : Gl := ⟨rowsR m e2 e3, byF libs⟩
noncomputable def isTrue : Option (AV × AS) → Bool
  | some (.s (.bool true), _) => true
  | _ => false
theorem names_all : (Tryz.prog.funcs.all fun fn => !(fn.name == "runtime.NumGoroutine")) = true := by kernel_rfl
theorem fit : Fit Tryz.prog := ⟨fun f fn h => by
    have := Array.all_eq_true'.1 names_all fn (Array.mem_of_getElem? h)
    simpa using this, by kernel_rfl⟩
end Go.Proofs.YtnhnlkljcfbhfaaGreatDoor
/- The library's answers are the library's: each contract, shown. -/
namespace Go.Proofs.YtnhnlkljcfbhfaaGreatDoor
open Go Go.Ab Go.RowKit
theorem decN_eq : ∀ (f n : Nat), n < 10 ^ f → 0 < f → decN f n = Lib.decDigits n
  | 0, _, _, h => absurd h (Nat.lt_irrefl 0)
  | f + 1, n, h, _ => by
    rw [decN, Lib.decDigits]
    by_cases h10 : n < 10
    · rw [if_pos h10, dif_pos h10]
    · rw [if_neg h10, dif_neg h10]
      cases f with
      | zero => simp at h; omega
      | succ f => rw [decN_eq (f + 1) (n / 10) (by rw [Nat.pow_succ] at h; omega) (Nat.succ_pos f)]
theorem itoaN_eq {n : Int} (h0 : -9223372036854775808 ≤ n) (h1 : n ≤ 9223372036854775807) : itoaN n = Lib.itoa n := by
  have e : (10 : Nat) ^ 30 = 1000000000000000000000000000000 := by decide
  unfold itoaN Lib.itoa
  rw [decN_eq 30 n.natAbs (by omega) (by decide), decN_eq 30 n.toNat (by omega) (by decide)]
theorem body74 : Bodied Tryz.prog 74 := ⟨_, Tryz.func74, rfl⟩
theorem body44 : Bodied Tryz.prog 44 := ⟨_, Tryz.func44, rfl⟩
theorem body40 : Bodied Tryz.prog 40 := ⟨_, Tryz.func40, rfl⟩
theorem body43 : Bodied Tryz.prog 43 := ⟨_, Tryz.func43, rfl⟩
theorem body38 : Bodied Tryz.prog 38 := ⟨_, Tryz.func38, rfl⟩
theorem below_drawN (w : World) (n k : Nat) : Below k w (w.drewN n) := ⟨rfl, rfl, rfl, Nat.le_refl _, fun _ _ => rfl⟩
theorem below_grow (w : World) (os : Array Obj) : Below w.heap.size w (Go.Sort.grow w os) := ⟨rfl, rfl, rfl, by simp [Go.Sort.grow], fun k hk => by simp [Go.Sort.grow, Array.getElem?_append, hk]⟩
theorem below_bytes (w : World) (e : TypeId) (s : ByteArray) : Below w.heap.size w (Lib.bytesWorld w e s) := by
  have h1 : Below w.heap.size w (w.drew.alloc (.cells (Lib.bytesCells w e s) e)) := ((Below.refl _ w).drew).alloc (Nat.le_refl _) _
  unfold Lib.bytesWorld World.freeze
  rw [if_neg (by decide)]
  refine ⟨h1.os, h1.tape, h1.output, by simp, fun k hk => ?_⟩
  rw [Array.getElem?_modify, if_neg (by show w.heap.size ≠ k; omega)]
  exact h1.block k hk
theorem strsOf_spec : ∀ {rows : List (List AV)} {xs : List ByteArray}, strsOf rows = some xs → rows.flatten = (xs.map Value.string).map .s
  | [], xs, h => by simp only [strsOf, Option.some.injEq] at h; subst h; rfl
  | r :: rs, xs, h => by
    unfold strsOf at h
    split at h
    · rename_i b xs' hx
      cases h
      simp [strsOf_spec hx]
    · cases h
section
variable {m : Int} {e2 e3 : Value}
theorem join_ctr {al : List AV} {c : AS → Option (AV × AS)} (h : joinC al = some c) : Ctr Tryz.prog (glR m e2 e3) 74 al c := by
  unfold joinC at h
  split at h
  · rename_i o i n sep
    cases h
    refine Ctr.look body74 (fun σ v σ' hh => ?_) (fun σ v σ' hh N σ₂ hl => ?_)
    · split at hh
      · rename_i e es ex rows hg
        split at hh
        · rename_i hc
          obtain ⟨rfl, hle, hn⟩ := hc
          split at hh
          · rename_i xs hxs
            split at hh
            · rename_i hj
              cases hh
              refine ⟨rfl, _, rfl, fun B ρ w vs hG hrep hcs => ?_⟩
              cases hvs : vs with | mk vl => ?_
              rw [hvs] at hcs
              cases hcs with
              | cons h1 hr => cases hr with
                | cons h2 hr =>
                  cases hr; cases h2
                  cases h1 with
                  | @sl _ _ _ l hl =>
                    obtain ⟨k1, k2, ws, k3, k4, k5⟩ := own_cells hrep hg hl hle
                    rw [strsOf_spec hxs] at k3
                    have := k3.s_eq
                    subst this
                    obtain ⟨q1, q2, q3, q4, cc, q5, q6, q7⟩ := hrep.obj o _ l hg hl
                    have hxl : xs.length = n := by simpa using k4
                    have hj2 := Tryz.strings_Join l.blk (i * l.es) (l.cap - i) xs sep w (fun j x hx => by
                      rw [q1]
                      exact k5 j (.string x) (by rw [List.getElem?_map, hx]; rfl)) (hrep.new o l hl).2 (by omega) (by omega) hj
                    rw [hxl] at hj2
                    exact hj2
            · cases hh
          · cases hh
        · cases hh
      · cases hh
    · split at hh
      · rename_i hg
        simp only [hl.get _ _ hg]
        split at hh
        · rename_i hc
          rw [if_pos hc]
          split at hh
          · split at hh
            · rename_i hj
              cases hh
              rw [if_pos hj]
            · cases hh
          · cases hh
        · cases hh
      · cases hh
  · cases h
theorem itoa_ctr {al : List AV} {c : AS → Option (AV × AS)} (h : itoaC al = some c) : Ctr Tryz.prog (glR m e2 e3) 40 al c := by
  unfold itoaC at h
  split at h
  · rename_i n
    split at h
    · rename_i hb
      cases h
      refine Ctr.plain body40 fun B ρ w vs hG hk hcs => ?_
      cases hvs : vs with | mk vl => ?_
      rw [hvs] at hcs
      cases hcs with
      | cons h1 hr =>
        cases hr; cases h1
        rw [itoaN_eq hb.1 hb.2]
        refine (Tryz.strconv_Itoa n hb.1 hb.2 w ?_).mono fun e w' ⟨he, k, os, hw⟩ => ⟨he, ?_⟩
        · obtain ⟨cc, e, fz, h2, h3⟩ := hG.cells hk (g := 5) (vs := Lib.pow10Tab.map (.int .u64)) rfl
          unfold Lib.TabIs World.var?
          rw [show Tryz.prog.globalNamed "internal/strconv.uint64pow10" = some 5 by kernel_rfl]
          simp only [Option.bind_some, h2]
          rw [← h3]
        · rw [hw]
          have := below_grow (w.drewN k) os
          exact (below_drawN w k w.heap.size).trans this
    · cases h
  · cases h
theorem cut_ctr {al : List AV} {c : AS → Option (AV × AS)} (h : cutC al = some c) : Ctr Tryz.prog (glR m e2 e3) 43 al c := by
  unfold cutC at h
  split at h
  · rename_i s sep
    split at h
    · rename_i hb
      cases h
      refine Ctr.plain body43 fun B ρ w vs hG hk hcs => ?_
      cases hvs : vs with | mk vl => ?_
      rw [hvs] at hcs
      cases hcs with
      | cons h1 hr => cases hr with
        | cons h2 hr =>
          cases hr; cases h1; cases h2
          refine (Tryz.strings_Cut s sep m w hb (hG.cell hk (g := 1) rfl)).mono fun e w' ⟨he, n, hw⟩ => ⟨he, ?_⟩
          rw [hw]; exact below_drawN w n _
    · cases h
  · cases h
theorem split_ctr {al : List AV} {c : AS → Option (AV × AS)} (h : splitC al = some c) : Ctr Tryz.prog (glR m e2 e3) 38 al c := by
  unfold splitC at h
  split at h
  · rename_i s sep
    split at h
    · rename_i hb
      cases h
      refine ⟨body38, fun σ v σ' hh B ρ w vs hG hrep hcs k => ?_, fun σ v σ' hh N hN => ?_⟩
      · cases hh
        cases hvs : vs with | mk vl => ?_
        rw [hvs] at hcs
        cases hcs with
        | cons h1 hr => cases hr with
          | cons h2 hr =>
            cases hr; cases h1; cases h2
            have hlen := Lib.splitB_all sep hb.2 0 _ s rfl
            refine callsIn_wide.2 ((Tryz.strings_Split s sep m w hb.1 (hG.cell hrep.keep (g := 1) rfl) hb.2).mono fun e w' ⟨he, hw⟩ => ?_)
            subst hw
            refine ⟨ρ.ext σ.newId ⟨w.heap.size, Lib.countB s sep + 1, 1⟩, _, he, hrep.le_ext _, ?_, ?_⟩
            · have := Conc.sl (M := memOf B) (i := 0) (n := Lib.countB s sep + 1) (Rho.ext_self ρ σ.newId ⟨w.heap.size, Lib.countB s sep + 1, 1⟩)
              simpa using this
            · refine hrep.push rfl rfl rfl rfl rfl ⟨rfl, by simp [hlen], by simp [hlen], by simp, _, Array.getElem?_push_size, by simp [hlen], ?_⟩
              have e1 : ((Lib.splitB sep 0 (Lib.countB s sep) s).map fun b => [AV.s (.string b)]).flatten = ((Lib.splitB sep 0 (Lib.countB s sep) s).map Value.string).map .s := by
                induction Lib.splitB sep 0 (Lib.countB s sep) s with
                | nil => rfl
                | cons a l ih => simp [ih]
              rw [e1, List.take_of_length_le (by simp)]
              exact Concs.ofS _
      · cases hh
        exact ⟨[.push _], ⟨trivial, trivial⟩, rfl, fun σ₂ hl => by simp only [hl.newId]; rfl⟩
    · cases h
  · cases h
theorem dead_ctr {s : ByteArray} {k : Int} (hx : ∀ (B w : World) (ρ : Rho), GlOk (memOf B) ρ (glR m e2 e3) → (∀ b, b < B.heap.size → w.heap[b]? = B.heap[b]?) → Calls Tryz.prog 44 #[.string s] w fun e w' => ∃ N, e = .returned (.tuple #[.int .i64 k, .iface 178 (.pointer (some ⟨N, 0, none⟩))]) ∧ w.heap.size ≤ N ∧ N < w'.heap.size ∧ Below w.heap.size w w') :
    Ctr Tryz.prog (glR m e2 e3) 44 [.s (.string s)] (fun σ => some (.tup [.s (.int .i64 k), .ifc 178 (.ptr σ.newId 0 0)], σ.push .dead)) := by
  refine ⟨body44, fun σ v σ' hh B ρ w vs hG hrep hcs n => ?_, fun σ v σ' hh N hN => ?_⟩
  · cases hh
    cases hvs : vs with | mk vl => ?_
    rw [hvs] at hcs
    cases hcs with
    | cons h1 hr =>
      cases hr; cases h1
      refine callsIn_wide.2 ((hx B w ρ hG hrep.keep).mono fun e w' ⟨N, he, h1, h2, h3⟩ => ?_)
      refine ⟨ρ.ext σ.newId ⟨N, 0, 1⟩, _, he, hrep.le_ext _, .tup (.cons (.s _) (.cons (.ifc ?_) .nil)), hrep.pushDead h3 h1 h2⟩
      have := Conc.ptr (M := memOf B) (i := 0) (f := 0) (Rho.ext_self ρ σ.newId ⟨N, 0, 1⟩)
      simpa using this
  · cases hh
    exact ⟨[.push _], ⟨trivial, trivial⟩, rfl, fun σ₂ hl => by simp only [hl.newId]; rfl⟩
theorem atoi_ctr (h2 : e2 = .nilIface ∨ ∃ te pe, e2 = .iface te pe) (h3 : e3 = .nilIface ∨ ∃ te pe, e3 = .iface te pe) {al : List AV} {c : AS → Option (AV × AS)} (h : atoiC al = some c) : Ctr Tryz.prog (glR m e2 e3) 44 al c := by
  unfold atoiC at h
  split at h
  · rename_i s
    split at h
    · rename_i hb
      split at h
      · rename_i v hv
        cases h
        refine Ctr.plain body44 fun B ρ w vs hG hk hcs => ?_
        cases hvs : vs with | mk vl => ?_
        rw [hvs] at hcs
        cases hcs with
        | cons h1 hr =>
          cases hr; cases h1
          refine (Tryz.strconv_Atoi_ok s (by omega) v hv w).mono fun e w' ⟨he, hw⟩ => ⟨he, ?_⟩
          rcases hw with rfl | ⟨t, rfl⟩
          · exact Below.refl _ _
          · exact below_bytes w 5 t
      · rename_i hv
        cases h
        exact dead_ctr fun B w ρ hG hk => (Tryz.strconv_Atoi_syntax s hb hv e2 w (hG.cell hk (g := 2) rfl) h2).mono fun e w' ⟨N, he, h1, h4, h5⟩ => ⟨N, he, h1, (Array.getElem?_eq_some_iff.1 h4).1, h5⟩
      · rename_i hv
        cases h
        exact dead_ctr fun B w ρ hG hk => (Tryz.strconv_Atoi_range s hb hv e3 w (hG.cell hk (g := 3) rfl) h3).mono fun e w' ⟨N, he, h1, h4, h5⟩ => ⟨N, he, h1, (Array.getElem?_eq_some_iff.1 h4).1, h5⟩
    · cases h
  · cases h
theorem given (h2 : e2 = .nilIface ∨ ∃ te pe, e2 = .iface te pe) (h3 : e3 = .nilIface ∨ ∃ te pe, e3 = .iface te pe) : Given Tryz.prog (glR m e2 e3) := given_of fun p hp al c hc => by
  simp only [libs, List.mem_cons, List.not_mem_nil, or_false] at hp
  rcases hp with rfl | rfl | rfl | rfl | rfl
  · exact join_ctr hc
  · exact atoi_ctr h2 h3 hc
  · exact itoa_ctr hc
  · exact cut_ctr hc
  · exact split_ctr hc
end
#print axioms given
end Go.Proofs.YtnhnlkljcfbhfaaGreatDoor
/- The chapter's examples: one closed run. -/
namespace Go.Proofs.YtnhnlkljcfbhfaaGreatDoor
open Go Go.Ab
theorem known_run (m : Int) (e2 e3 : Value) : isTrue (runCall Tryz.prog (glR m e2 e3) 400 8 []) = true := by kernel_rfl
#print axioms known_run
end Go.Proofs.YtnhnlkljcfbhfaaGreatDoor
/- The table of the walks: the library's answers, and known(). -/
namespace Go.Proofs.YtnhnlkljcfbhfaaGreatDoor
open Go Go.Ab Go.RowKit
noncomputable def knownC : List AV → Option (AS → Option (AV × AS))
  | [] => some fun σ => some (.s (.bool true), σ)
  | _ => none
noncomputable def glK (m : Int) (e2 e3 : Value) : Gl := ⟨rowsR m e2 e3, byF ((8, knownC) :: libs)⟩
theorem ctr_rows {P : Program} {rows : Nat → Option (List AV)} {o1 o2 : FuncId → List AV → Option (AS → Option (AV × AS))} {f : FuncId} {al : List AV} {c : AS → Option (AV × AS)} (h : Ctr P ⟨rows, o1⟩ f al c) : Ctr P ⟨rows, o2⟩ f al c :=
  ⟨h.body, fun σ v σ' ho B ρ w vs hG hrep hc n => h.ok σ v σ' ho B ρ w vs hG hrep hc n, h.acts⟩
def isS : AV → Bool
  | .s _ => true
  | _ => false
theorem allS : ∀ {row : List AV}, row.all isS = true → ∃ vs : List Value, row = vs.map .s
  | [], _ => ⟨[], rfl⟩
  | a :: r, h => by
    rw [List.all_cons, Bool.and_eq_true] at h
    obtain ⟨vs, rfl⟩ := allS h.2
    cases a with
    | s v => exact ⟨v :: vs, rfl⟩
    | _ => cases h.1
theorem rowsR_s (m : Int) (e2 e3 : Value) {g : Nat} {row : List AV} (h : rowsR m e2 e3 g = some row) : ∃ vs : List Value, row = vs.map .s := by
  refine allS ?_
  unfold rowsR at h
  split at h <;> cases h <;> rfl
theorem glok_at {G : Gl} {B w : World} {ρ : Rho} (hG : GlOk (memOf B) ρ G) (hp : ∀ g row, G.rows g = some row → ∃ vs : List Value, row = vs.map .s) (hk : ∀ b, b < B.heap.size → w.heap[b]? = B.heap[b]?) : GlOk (memOf w) (fun _ => none) G := fun g row h => by
  obtain ⟨vs, rfl⟩ := hp g row h
  obtain ⟨c, e, fz, h1, h2⟩ := hG.cells hk h
  have hl : c.size = vs.length := by rw [← h2, Array.length_toList]
  refine ⟨.mk h1 (by simp) ?_, c, e, fz, h1, by simpa using hl⟩
  have : (c.toList.drop 0).take ([vs.map AV.s].length * (vs.map AV.s).length) = vs := by
    rw [List.drop_zero, h2, List.take_of_length_le (by simp)]
  rw [this]
  simpa using Concs.ofS vs
theorem body8 : Bodied Tryz.prog 8 := ⟨_, Tryz.func8, rfl⟩
section
variable {m : Int} {e2 e3 : Value}
theorem known_ctr (h2 : e2 = .nilIface ∨ ∃ te pe, e2 = .iface te pe) (h3 : e3 = .nilIface ∨ ∃ te pe, e3 = .iface te pe) {al : List AV} {c : AS → Option (AV × AS)} (h : knownC al = some c) : Ctr Tryz.prog (glR m e2 e3) 8 al c := by
  unfold knownC at h
  split at h
  · cases h
    obtain ⟨σk, hk⟩ : ∃ σ, runCall Tryz.prog (glR m e2 e3) 400 8 [] = some (.s (.bool true), σ) := by
      have := known_run m e2 e3
      generalize runCall Tryz.prog (glR m e2 e3) 400 8 [] = r at this
      unfold isTrue at this
      split at this
      · exact ⟨_, rfl⟩
      · cases this
    refine ⟨body8, fun σ v' σ' hv B ρ w vs hG hrep hc k => ?_, fun σ v' σ' hv N hN => ?_⟩
    · cases hv
      refine call_sound (exec_sound fit (given h2 h3) 400) (G := glR m e2 e3) (B := w) (ρ := fun _ => none) (σ := ⟨.e, 0, none⟩) («as» := []) ?_ (start_rep w) ?_ hk k (R := fun e w' => ∃ ρ' y, e = .returned y ∧ ρ.le ρ' ∧ Conc (memOf B) ρ' (.s (.bool true)) y ∧ Rep B ρ' σ w') (fun ρ' y w' _ hcy hrep' => ?_)
      · exact glok_at hG (fun g row h => rowsR_s m e2 e3 h) hrep.keep
      · cases hvs : vs.toList with
        | nil => exact .nil
        | cons a b => rw [hvs] at hc; cases hc
      · cases hcy
        exact ⟨ρ, _, rfl, Rho.le_refl ρ, .s _, hrep.after hrep'⟩
    · cases hv
      exact ⟨[], trivial, rfl, fun σ₂ _ => rfl⟩
  · cases h
theorem givenK (h2 : e2 = .nilIface ∨ ∃ te pe, e2 = .iface te pe) (h3 : e3 = .nilIface ∨ ∃ te pe, e3 = .iface te pe) : Given Tryz.prog (glK m e2 e3) := given_of fun p hp al c hc => by
  simp only [libs, List.mem_cons, List.not_mem_nil, or_false] at hp
  refine ctr_rows (o1 := (glR m e2 e3).orc) ?_
  rcases hp with rfl | rfl | rfl | rfl | rfl | rfl
  · exact known_ctr h2 h3 hc
  · exact join_ctr hc
  · exact atoi_ctr h2 h3 hc
  · exact itoa_ctr hc
  · exact cut_ctr hc
  · exact split_ctr hc
end
#print axioms givenK
end Go.Proofs.YtnhnlkljcfbhfaaGreatDoor
/- What the types of the program are. -/
namespace Go.Proofs.YtnhnlkljcfbhfaaGreatDoor
open Go.Ab
theorem row3 : rowN Tryz.prog 3 = some none := by kernel_rfl
theorem sz3 : sz Tryz.prog 3 = some 1 := by kernel_rfl
theorem zero3 : zeroOf Tryz.prog 3 = some [AV.s (Value.int IntKind.i64 (0))] := by kernel_rfl
theorem row4 : rowN Tryz.prog 4 = some none := by kernel_rfl
theorem sz4 : sz Tryz.prog 4 = some 1 := by kernel_rfl
theorem zero4 : zeroOf Tryz.prog 4 = some [AV.s (Value.bool false)] := by kernel_rfl
theorem row5 : rowN Tryz.prog 5 = some none := by kernel_rfl
theorem sz5 : sz Tryz.prog 5 = some 1 := by kernel_rfl
theorem zero5 : zeroOf Tryz.prog 5 = some [AV.s (Value.int IntKind.u8 (0))] := by kernel_rfl
theorem row9 : rowN Tryz.prog 9 = some none := by kernel_rfl
theorem sz9 : sz Tryz.prog 9 = some 1 := by kernel_rfl
theorem zero9 : zeroOf Tryz.prog 9 = some [AV.s (Value.string ⟨#[]⟩)] := by kernel_rfl
theorem row23 : rowN Tryz.prog 23 = some (some 2) := by kernel_rfl
theorem sz23 : sz Tryz.prog 23 = some 2 := by kernel_rfl
theorem zero23 : zeroOf Tryz.prog 23 = some [AV.s (Value.int IntKind.i64 (0)), AV.s (Value.int IntKind.i64 (0))] := by kernel_rfl
theorem fld23f0 : fldOf Tryz.prog 23 0 = some 0 := by kernel_rfl
theorem fld23f1 : fldOf Tryz.prog 23 1 = some 1 := by kernel_rfl
theorem row24 : rowN Tryz.prog 24 = some none := by kernel_rfl
theorem sz24 : sz Tryz.prog 24 = some 1 := by kernel_rfl
theorem zero24 : zeroOf Tryz.prog 24 = some [AV.s (Value.slice none 0 0)] := by kernel_rfl
theorem sl24 : sliceOf Tryz.prog 24 = some (81, 1) := by kernel_rfl
theorem el24 : elOf Tryz.prog 24 = some (81, 1, 1, [AV.s (Value.int IntKind.i8 (0))]) := by kernel_rfl
theorem row26 : rowN Tryz.prog 26 = some (some 3) := by kernel_rfl
theorem sz26 : sz Tryz.prog 26 = some 3 := by kernel_rfl
theorem zero26 : zeroOf Tryz.prog 26 = some [AV.s (Value.int IntKind.i64 (0)), AV.s (Value.int IntKind.i64 (0)), AV.s (Value.slice none 0 0)] := by kernel_rfl
theorem fld26f0 : fldOf Tryz.prog 26 0 = some 0 := by kernel_rfl
theorem fld26f1 : fldOf Tryz.prog 26 1 = some 2 := by kernel_rfl
theorem row27 : rowN Tryz.prog 27 = some none := by kernel_rfl
theorem sz27 : sz Tryz.prog 27 = some 1 := by kernel_rfl
theorem zero27 : zeroOf Tryz.prog 27 = some [AV.s (Value.slice none 0 0)] := by kernel_rfl
theorem sl27 : sliceOf Tryz.prog 27 = some (9, 1) := by kernel_rfl
theorem el27 : elOf Tryz.prog 27 = some (9, 1, 16, [AV.s (Value.string ⟨#[]⟩)]) := by kernel_rfl
theorem row40 : rowN Tryz.prog 40 = some (some 2) := by kernel_rfl
theorem sz40 : sz Tryz.prog 40 = some 2 := by kernel_rfl
theorem zero40 : zeroOf Tryz.prog 40 = some [AV.s (Value.int IntKind.i64 (0)), AV.s (Value.int IntKind.i64 (0))] := by kernel_rfl
theorem fld40f0 : fldOf Tryz.prog 40 0 = some 0 := by kernel_rfl
theorem fld40f1 : fldOf Tryz.prog 40 1 = some 1 := by kernel_rfl
theorem row52 : rowN Tryz.prog 52 = some none := by kernel_rfl
theorem sz52 : sz Tryz.prog 52 = some 1 := by kernel_rfl
theorem zero52 : zeroOf Tryz.prog 52 = some [AV.s (Value.slice none 0 0)] := by kernel_rfl
theorem sl52 : sliceOf Tryz.prog 52 = some (3, 1) := by kernel_rfl
theorem el52 : elOf Tryz.prog 52 = some (3, 1, 8, [AV.s (Value.int IntKind.i64 (0))]) := by kernel_rfl
theorem row53 : rowN Tryz.prog 53 = some none := by kernel_rfl
theorem sz53 : sz Tryz.prog 53 = some 1 := by kernel_rfl
theorem zero53 : zeroOf Tryz.prog 53 = some [AV.s (Value.slice none 0 0)] := by kernel_rfl
theorem sl53 : sliceOf Tryz.prog 53 = some (4, 1) := by kernel_rfl
theorem el53 : elOf Tryz.prog 53 = some (4, 1, 1, [AV.s (Value.bool false)]) := by kernel_rfl
theorem row55 : rowN Tryz.prog 55 = some (some 2) := by kernel_rfl
theorem sz55 : sz Tryz.prog 55 = some 2 := by kernel_rfl
theorem zero55 : zeroOf Tryz.prog 55 = some [AV.s (Value.slice none 0 0), AV.s (Value.slice none 0 0)] := by kernel_rfl
theorem fld55f0 : fldOf Tryz.prog 55 0 = some 0 := by kernel_rfl
theorem fld55f1 : fldOf Tryz.prog 55 1 = some 1 := by kernel_rfl
theorem row63 : rowN Tryz.prog 63 = some none := by kernel_rfl
theorem sz63 : sz Tryz.prog 63 = some 1 := by kernel_rfl
theorem zero63 : zeroOf Tryz.prog 63 = some [AV.s (Value.slice none 0 0)] := by kernel_rfl
theorem sl63 : sliceOf Tryz.prog 63 = some (65, 1) := by kernel_rfl
theorem el63 : elOf Tryz.prog 63 = some (65, 1, 24, [AV.s (Value.slice none 0 0)]) := by kernel_rfl
theorem row64 : rowN Tryz.prog 64 = some none := by kernel_rfl
theorem sz64 : sz Tryz.prog 64 = some 1 := by kernel_rfl
theorem zero64 : zeroOf Tryz.prog 64 = some [AV.s (Value.slice none 0 0)] := by kernel_rfl
theorem sl64 : sliceOf Tryz.prog 64 = some (73, 1) := by kernel_rfl
theorem el64 : elOf Tryz.prog 64 = some (73, 1, 8, [AV.s (Value.int IntKind.i64 (0))]) := by kernel_rfl
theorem row65 : rowN Tryz.prog 65 = some none := by kernel_rfl
theorem sz65 : sz Tryz.prog 65 = some 1 := by kernel_rfl
theorem zero65 : zeroOf Tryz.prog 65 = some [AV.s (Value.slice none 0 0)] := by kernel_rfl
theorem sl65 : sliceOf Tryz.prog 65 = some (122, 3) := by kernel_rfl
theorem el65 : elOf Tryz.prog 65 = some (122, 3, 24, [AV.s (Value.int IntKind.i64 (0)), AV.s (Value.int IntKind.i64 (0)), AV.s (Value.int IntKind.i64 (0))]) := by kernel_rfl
theorem row73 : rowN Tryz.prog 73 = some none := by kernel_rfl
theorem sz73 : sz Tryz.prog 73 = some 1 := by kernel_rfl
theorem zero73 : zeroOf Tryz.prog 73 = some [AV.s (Value.int IntKind.i64 (0))] := by kernel_rfl
theorem row76 : rowN Tryz.prog 76 = some (some 8) := by kernel_rfl
theorem sz76 : sz Tryz.prog 76 = some 8 := by kernel_rfl
theorem zero76 : zeroOf Tryz.prog 76 = some [AV.s (Value.int IntKind.i64 (0)), AV.s (Value.int IntKind.i64 (0)), AV.s (Value.slice none 0 0), AV.s (Value.bool false), AV.s (Value.int IntKind.u8 (0)), AV.s (Value.int IntKind.i64 (0)), AV.s (Value.int IntKind.i64 (0)), AV.s (Value.int IntKind.i64 (0))] := by kernel_rfl
theorem fld76f0 : fldOf Tryz.prog 76 0 = some 0 := by kernel_rfl
theorem fld76f1 : fldOf Tryz.prog 76 1 = some 2 := by kernel_rfl
theorem fld76f2 : fldOf Tryz.prog 76 2 = some 3 := by kernel_rfl
theorem fld76f3 : fldOf Tryz.prog 76 3 = some 4 := by kernel_rfl
theorem fld76f4 : fldOf Tryz.prog 76 4 = some 5 := by kernel_rfl
theorem fld76f5 : fldOf Tryz.prog 76 5 = some 6 := by kernel_rfl
theorem fld76f6 : fldOf Tryz.prog 76 6 = some 7 := by kernel_rfl
theorem row81 : rowN Tryz.prog 81 = some none := by kernel_rfl
theorem sz81 : sz Tryz.prog 81 = some 1 := by kernel_rfl
theorem zero81 : zeroOf Tryz.prog 81 = some [AV.s (Value.int IntKind.i8 (0))] := by kernel_rfl
theorem row84 : rowN Tryz.prog 84 = some none := by kernel_rfl
theorem sz84 : sz Tryz.prog 84 = some 1 := by kernel_rfl
theorem zero84 : zeroOf Tryz.prog 84 = some [AV.s (Value.slice none 0 0)] := by kernel_rfl
theorem sl84 : sliceOf Tryz.prog 84 = some (5, 1) := by kernel_rfl
theorem el84 : elOf Tryz.prog 84 = some (5, 1, 1, [AV.s (Value.int IntKind.u8 (0))]) := by kernel_rfl
theorem row92 : rowN Tryz.prog 92 = some (some 2) := by kernel_rfl
theorem sz92 : sz Tryz.prog 92 = some 2 := by kernel_rfl
theorem zero92 : zeroOf Tryz.prog 92 = some [AV.s (Value.string ⟨#[]⟩), AV.s (Value.string ⟨#[]⟩)] := by kernel_rfl
theorem arr92 : arrOf Tryz.prog 92 = some (2, 9, 1) := by kernel_rfl
theorem row112 : rowN Tryz.prog 112 = some none := by kernel_rfl
theorem sz112 : sz Tryz.prog 112 = some 1 := by kernel_rfl
theorem zero112 : zeroOf Tryz.prog 112 = some [AV.s (Value.slice none 0 0)] := by kernel_rfl
theorem sl112 : sliceOf Tryz.prog 112 = some (52, 1) := by kernel_rfl
theorem el112 : elOf Tryz.prog 112 = some (52, 1, 24, [AV.s (Value.slice none 0 0)]) := by kernel_rfl
theorem row122 : rowN Tryz.prog 122 = some (some 3) := by kernel_rfl
theorem sz122 : sz Tryz.prog 122 = some 3 := by kernel_rfl
theorem zero122 : zeroOf Tryz.prog 122 = some [AV.s (Value.int IntKind.i64 (0)), AV.s (Value.int IntKind.i64 (0)), AV.s (Value.int IntKind.i64 (0))] := by kernel_rfl
theorem fld122f0 : fldOf Tryz.prog 122 0 = some 0 := by kernel_rfl
theorem fld122f1 : fldOf Tryz.prog 122 1 = some 1 := by kernel_rfl
theorem fld122f2 : fldOf Tryz.prog 122 2 = some 2 := by kernel_rfl
theorem row127 : rowN Tryz.prog 127 = some (some 5) := by kernel_rfl
theorem sz127 : sz Tryz.prog 127 = some 5 := by kernel_rfl
theorem zero127 : zeroOf Tryz.prog 127 = some [AV.s (Value.int IntKind.u8 (0)), AV.s (Value.string ⟨#[]⟩), AV.s (Value.bool false), AV.s (Value.int IntKind.i64 (0)), AV.s (Value.int IntKind.i64 (0))] := by kernel_rfl
theorem fld127f0 : fldOf Tryz.prog 127 0 = some 0 := by kernel_rfl
theorem fld127f1 : fldOf Tryz.prog 127 1 = some 1 := by kernel_rfl
theorem fld127f2 : fldOf Tryz.prog 127 2 = some 2 := by kernel_rfl
theorem fld127f3 : fldOf Tryz.prog 127 3 = some 3 := by kernel_rfl
theorem fld127f4 : fldOf Tryz.prog 127 4 = some 4 := by kernel_rfl
theorem row128 : rowN Tryz.prog 128 = some (some 20) := by kernel_rfl
theorem sz128 : sz Tryz.prog 128 = some 20 := by kernel_rfl
theorem zero128 : zeroOf Tryz.prog 128 = some [AV.s (Value.int IntKind.u8 (0)), AV.s (Value.string ⟨#[]⟩), AV.s (Value.bool false), AV.s (Value.int IntKind.i64 (0)), AV.s (Value.int IntKind.i64 (0)), AV.s (Value.int IntKind.u8 (0)), AV.s (Value.string ⟨#[]⟩), AV.s (Value.bool false), AV.s (Value.int IntKind.i64 (0)), AV.s (Value.int IntKind.i64 (0)), AV.s (Value.int IntKind.u8 (0)), AV.s (Value.string ⟨#[]⟩), AV.s (Value.bool false), AV.s (Value.int IntKind.i64 (0)), AV.s (Value.int IntKind.i64 (0)), AV.s (Value.int IntKind.u8 (0)), AV.s (Value.string ⟨#[]⟩), AV.s (Value.bool false), AV.s (Value.int IntKind.i64 (0)), AV.s (Value.int IntKind.i64 (0))] := by kernel_rfl
theorem arr128 : arrOf Tryz.prog 128 = some (4, 127, 5) := by kernel_rfl
theorem row135 : rowN Tryz.prog 135 = some (some 3) := by kernel_rfl
theorem sz135 : sz Tryz.prog 135 = some 3 := by kernel_rfl
theorem zero135 : zeroOf Tryz.prog 135 = some [AV.s (Value.int IntKind.u8 (0)), AV.s (Value.int IntKind.i64 (0)), AV.s (Value.string ⟨#[]⟩)] := by kernel_rfl
theorem fld135f0 : fldOf Tryz.prog 135 0 = some 0 := by kernel_rfl
theorem fld135f1 : fldOf Tryz.prog 135 1 = some 1 := by kernel_rfl
theorem fld135f2 : fldOf Tryz.prog 135 2 = some 2 := by kernel_rfl
theorem row136 : rowN Tryz.prog 136 = some (some 45) := by kernel_rfl
theorem sz136 : sz Tryz.prog 136 = some 45 := by kernel_rfl
theorem zero136 : zeroOf Tryz.prog 136 = some [AV.s (Value.int IntKind.u8 (0)), AV.s (Value.int IntKind.i64 (0)), AV.s (Value.string ⟨#[]⟩), AV.s (Value.int IntKind.u8 (0)), AV.s (Value.int IntKind.i64 (0)), AV.s (Value.string ⟨#[]⟩), AV.s (Value.int IntKind.u8 (0)), AV.s (Value.int IntKind.i64 (0)), AV.s (Value.string ⟨#[]⟩), AV.s (Value.int IntKind.u8 (0)), AV.s (Value.int IntKind.i64 (0)), AV.s (Value.string ⟨#[]⟩), AV.s (Value.int IntKind.u8 (0)), AV.s (Value.int IntKind.i64 (0)), AV.s (Value.string ⟨#[]⟩), AV.s (Value.int IntKind.u8 (0)), AV.s (Value.int IntKind.i64 (0)), AV.s (Value.string ⟨#[]⟩), AV.s (Value.int IntKind.u8 (0)), AV.s (Value.int IntKind.i64 (0)), AV.s (Value.string ⟨#[]⟩), AV.s (Value.int IntKind.u8 (0)), AV.s (Value.int IntKind.i64 (0)), AV.s (Value.string ⟨#[]⟩), AV.s (Value.int IntKind.u8 (0)), AV.s (Value.int IntKind.i64 (0)), AV.s (Value.string ⟨#[]⟩), AV.s (Value.int IntKind.u8 (0)), AV.s (Value.int IntKind.i64 (0)), AV.s (Value.string ⟨#[]⟩), AV.s (Value.int IntKind.u8 (0)), AV.s (Value.int IntKind.i64 (0)), AV.s (Value.string ⟨#[]⟩), AV.s (Value.int IntKind.u8 (0)), AV.s (Value.int IntKind.i64 (0)), AV.s (Value.string ⟨#[]⟩), AV.s (Value.int IntKind.u8 (0)), AV.s (Value.int IntKind.i64 (0)), AV.s (Value.string ⟨#[]⟩), AV.s (Value.int IntKind.u8 (0)), AV.s (Value.int IntKind.i64 (0)), AV.s (Value.string ⟨#[]⟩), AV.s (Value.int IntKind.u8 (0)), AV.s (Value.int IntKind.i64 (0)), AV.s (Value.string ⟨#[]⟩)] := by kernel_rfl
theorem arr136 : arrOf Tryz.prog 136 = some (15, 135, 3) := by kernel_rfl
theorem row153 : rowN Tryz.prog 153 = some (some 3) := by kernel_rfl
theorem sz153 : sz Tryz.prog 153 = some 3 := by kernel_rfl
theorem zero153 : zeroOf Tryz.prog 153 = some [AV.s (Value.int IntKind.i64 (0)), AV.s (Value.int IntKind.i64 (0)), AV.s (Value.bool false)] := by kernel_rfl
theorem fld153f0 : fldOf Tryz.prog 153 0 = some 0 := by kernel_rfl
theorem fld153f1 : fldOf Tryz.prog 153 1 = some 1 := by kernel_rfl
theorem fld153f2 : fldOf Tryz.prog 153 2 = some 2 := by kernel_rfl
theorem row155 : rowN Tryz.prog 155 = some none := by kernel_rfl
theorem sz155 : sz Tryz.prog 155 = some 1 := by kernel_rfl
theorem zero155 : zeroOf Tryz.prog 155 = some [AV.s (Value.nilFunc)] := by kernel_rfl
theorem row157 : rowN Tryz.prog 157 = some none := by kernel_rfl
theorem sz157 : sz Tryz.prog 157 = some 1 := by kernel_rfl
theorem zero157 : zeroOf Tryz.prog 157 = some [AV.s (Value.nilFunc)] := by kernel_rfl
theorem row158 : rowN Tryz.prog 158 = some (some 8) := by kernel_rfl
theorem sz158 : sz Tryz.prog 158 = some 8 := by kernel_rfl
theorem zero158 : zeroOf Tryz.prog 158 = some [AV.s (Value.nilFunc), AV.s (Value.nilFunc), AV.s (Value.nilFunc), AV.s (Value.nilFunc), AV.s (Value.nilFunc), AV.s (Value.nilFunc), AV.s (Value.nilFunc), AV.s (Value.nilFunc)] := by kernel_rfl
theorem arr158 : arrOf Tryz.prog 158 = some (8, 157, 1) := by kernel_rfl
theorem row170 : rowN Tryz.prog 170 = some (some 2) := by kernel_rfl
theorem sz170 : sz Tryz.prog 170 = some 2 := by kernel_rfl
theorem zero170 : zeroOf Tryz.prog 170 = some [AV.s (Value.pointer none), AV.s (Value.slice none 0 0)] := by kernel_rfl
theorem fld170f0 : fldOf Tryz.prog 170 0 = some 0 := by kernel_rfl
theorem fld170f1 : fldOf Tryz.prog 170 1 = some 1 := by kernel_rfl
set_option maxRecDepth 100000
def rowTab : List (Nat × (Option Nat)) := [(3, none), (4, none), (5, none), (9, none), (23, (some 2)), (24, none), (26, (some 3)), (27, none), (40, (some 2)), (52, none), (53, none), (55, (some 2)), (63, none), (64, none), (65, none), (73, none), (76, (some 8)), (81, none), (84, none), (92, (some 2)), (112, none), (122, (some 3)), (127, (some 5)), (128, (some 20)), (135, (some 3)), (136, (some 45)), (153, (some 3)), (155, none), (157, none), (158, (some 8)), (170, (some 2))]
theorem rowF {t : Nat} {v : Option Nat} (h : fnd rowTab t = some v) : rowN Tryz.prog t = some v := fndF (f := rowN Tryz.prog) (List.forall_mem_cons.2 ⟨row3, List.forall_mem_cons.2 ⟨row4, List.forall_mem_cons.2 ⟨row5, List.forall_mem_cons.2 ⟨row9, List.forall_mem_cons.2 ⟨row23, List.forall_mem_cons.2 ⟨row24, List.forall_mem_cons.2 ⟨row26, List.forall_mem_cons.2 ⟨row27, List.forall_mem_cons.2 ⟨row40, List.forall_mem_cons.2 ⟨row52, List.forall_mem_cons.2 ⟨row53, List.forall_mem_cons.2 ⟨row55, List.forall_mem_cons.2 ⟨row63, List.forall_mem_cons.2 ⟨row64, List.forall_mem_cons.2 ⟨row65, List.forall_mem_cons.2 ⟨row73, List.forall_mem_cons.2 ⟨row76, List.forall_mem_cons.2 ⟨row81, List.forall_mem_cons.2 ⟨row84, List.forall_mem_cons.2 ⟨row92, List.forall_mem_cons.2 ⟨row112, List.forall_mem_cons.2 ⟨row122, List.forall_mem_cons.2 ⟨row127, List.forall_mem_cons.2 ⟨row128, List.forall_mem_cons.2 ⟨row135, List.forall_mem_cons.2 ⟨row136, List.forall_mem_cons.2 ⟨row153, List.forall_mem_cons.2 ⟨row155, List.forall_mem_cons.2 ⟨row157, List.forall_mem_cons.2 ⟨row158, List.forall_mem_cons.2 ⟨row170, fun _ h => absurd h (List.not_mem_nil)⟩⟩⟩⟩⟩⟩⟩⟩⟩⟩⟩⟩⟩⟩⟩⟩⟩⟩⟩⟩⟩⟩⟩⟩⟩⟩⟩⟩⟩⟩⟩) h
def szTab : List (Nat × (Nat)) := [(3, 1), (4, 1), (5, 1), (9, 1), (23, 2), (24, 1), (26, 3), (27, 1), (40, 2), (52, 1), (53, 1), (55, 2), (63, 1), (64, 1), (65, 1), (73, 1), (76, 8), (81, 1), (84, 1), (92, 2), (112, 1), (122, 3), (127, 5), (128, 20), (135, 3), (136, 45), (153, 3), (155, 1), (157, 1), (158, 8), (170, 2)]
theorem szF {t : Nat} {v : Nat} (h : fnd szTab t = some v) : sz Tryz.prog t = some v := fndF (f := sz Tryz.prog) (List.forall_mem_cons.2 ⟨sz3, List.forall_mem_cons.2 ⟨sz4, List.forall_mem_cons.2 ⟨sz5, List.forall_mem_cons.2 ⟨sz9, List.forall_mem_cons.2 ⟨sz23, List.forall_mem_cons.2 ⟨sz24, List.forall_mem_cons.2 ⟨sz26, List.forall_mem_cons.2 ⟨sz27, List.forall_mem_cons.2 ⟨sz40, List.forall_mem_cons.2 ⟨sz52, List.forall_mem_cons.2 ⟨sz53, List.forall_mem_cons.2 ⟨sz55, List.forall_mem_cons.2 ⟨sz63, List.forall_mem_cons.2 ⟨sz64, List.forall_mem_cons.2 ⟨sz65, List.forall_mem_cons.2 ⟨sz73, List.forall_mem_cons.2 ⟨sz76, List.forall_mem_cons.2 ⟨sz81, List.forall_mem_cons.2 ⟨sz84, List.forall_mem_cons.2 ⟨sz92, List.forall_mem_cons.2 ⟨sz112, List.forall_mem_cons.2 ⟨sz122, List.forall_mem_cons.2 ⟨sz127, List.forall_mem_cons.2 ⟨sz128, List.forall_mem_cons.2 ⟨sz135, List.forall_mem_cons.2 ⟨sz136, List.forall_mem_cons.2 ⟨sz153, List.forall_mem_cons.2 ⟨sz155, List.forall_mem_cons.2 ⟨sz157, List.forall_mem_cons.2 ⟨sz158, List.forall_mem_cons.2 ⟨sz170, fun _ h => absurd h (List.not_mem_nil)⟩⟩⟩⟩⟩⟩⟩⟩⟩⟩⟩⟩⟩⟩⟩⟩⟩⟩⟩⟩⟩⟩⟩⟩⟩⟩⟩⟩⟩⟩⟩) h
def zeroTab : List (Nat × (List AV)) := [(3, [AV.s (Value.int IntKind.i64 (0))]), (4, [AV.s (Value.bool false)]), (5, [AV.s (Value.int IntKind.u8 (0))]), (9, [AV.s (Value.string ⟨#[]⟩)]), (23, [AV.s (Value.int IntKind.i64 (0)), AV.s (Value.int IntKind.i64 (0))]), (24, [AV.s (Value.slice none 0 0)]), (26, [AV.s (Value.int IntKind.i64 (0)), AV.s (Value.int IntKind.i64 (0)), AV.s (Value.slice none 0 0)]), (27, [AV.s (Value.slice none 0 0)]), (40, [AV.s (Value.int IntKind.i64 (0)), AV.s (Value.int IntKind.i64 (0))]), (52, [AV.s (Value.slice none 0 0)]), (53, [AV.s (Value.slice none 0 0)]), (55, [AV.s (Value.slice none 0 0), AV.s (Value.slice none 0 0)]), (63, [AV.s (Value.slice none 0 0)]), (64, [AV.s (Value.slice none 0 0)]), (65, [AV.s (Value.slice none 0 0)]), (73, [AV.s (Value.int IntKind.i64 (0))]), (76, [AV.s (Value.int IntKind.i64 (0)), AV.s (Value.int IntKind.i64 (0)), AV.s (Value.slice none 0 0), AV.s (Value.bool false), AV.s (Value.int IntKind.u8 (0)), AV.s (Value.int IntKind.i64 (0)), AV.s (Value.int IntKind.i64 (0)), AV.s (Value.int IntKind.i64 (0))]), (81, [AV.s (Value.int IntKind.i8 (0))]), (84, [AV.s (Value.slice none 0 0)]), (92, [AV.s (Value.string ⟨#[]⟩), AV.s (Value.string ⟨#[]⟩)]), (112, [AV.s (Value.slice none 0 0)]), (122, [AV.s (Value.int IntKind.i64 (0)), AV.s (Value.int IntKind.i64 (0)), AV.s (Value.int IntKind.i64 (0))]), (127, [AV.s (Value.int IntKind.u8 (0)), AV.s (Value.string ⟨#[]⟩), AV.s (Value.bool false), AV.s (Value.int IntKind.i64 (0)), AV.s (Value.int IntKind.i64 (0))]), (128, [AV.s (Value.int IntKind.u8 (0)), AV.s (Value.string ⟨#[]⟩), AV.s (Value.bool false), AV.s (Value.int IntKind.i64 (0)), AV.s (Value.int IntKind.i64 (0)), AV.s (Value.int IntKind.u8 (0)), AV.s (Value.string ⟨#[]⟩), AV.s (Value.bool false), AV.s (Value.int IntKind.i64 (0)), AV.s (Value.int IntKind.i64 (0)), AV.s (Value.int IntKind.u8 (0)), AV.s (Value.string ⟨#[]⟩), AV.s (Value.bool false), AV.s (Value.int IntKind.i64 (0)), AV.s (Value.int IntKind.i64 (0)), AV.s (Value.int IntKind.u8 (0)), AV.s (Value.string ⟨#[]⟩), AV.s (Value.bool false), AV.s (Value.int IntKind.i64 (0)), AV.s (Value.int IntKind.i64 (0))]), (135, [AV.s (Value.int IntKind.u8 (0)), AV.s (Value.int IntKind.i64 (0)), AV.s (Value.string ⟨#[]⟩)]), (136, [AV.s (Value.int IntKind.u8 (0)), AV.s (Value.int IntKind.i64 (0)), AV.s (Value.string ⟨#[]⟩), AV.s (Value.int IntKind.u8 (0)), AV.s (Value.int IntKind.i64 (0)), AV.s (Value.string ⟨#[]⟩), AV.s (Value.int IntKind.u8 (0)), AV.s (Value.int IntKind.i64 (0)), AV.s (Value.string ⟨#[]⟩), AV.s (Value.int IntKind.u8 (0)), AV.s (Value.int IntKind.i64 (0)), AV.s (Value.string ⟨#[]⟩), AV.s (Value.int IntKind.u8 (0)), AV.s (Value.int IntKind.i64 (0)), AV.s (Value.string ⟨#[]⟩), AV.s (Value.int IntKind.u8 (0)), AV.s (Value.int IntKind.i64 (0)), AV.s (Value.string ⟨#[]⟩), AV.s (Value.int IntKind.u8 (0)), AV.s (Value.int IntKind.i64 (0)), AV.s (Value.string ⟨#[]⟩), AV.s (Value.int IntKind.u8 (0)), AV.s (Value.int IntKind.i64 (0)), AV.s (Value.string ⟨#[]⟩), AV.s (Value.int IntKind.u8 (0)), AV.s (Value.int IntKind.i64 (0)), AV.s (Value.string ⟨#[]⟩), AV.s (Value.int IntKind.u8 (0)), AV.s (Value.int IntKind.i64 (0)), AV.s (Value.string ⟨#[]⟩), AV.s (Value.int IntKind.u8 (0)), AV.s (Value.int IntKind.i64 (0)), AV.s (Value.string ⟨#[]⟩), AV.s (Value.int IntKind.u8 (0)), AV.s (Value.int IntKind.i64 (0)), AV.s (Value.string ⟨#[]⟩), AV.s (Value.int IntKind.u8 (0)), AV.s (Value.int IntKind.i64 (0)), AV.s (Value.string ⟨#[]⟩), AV.s (Value.int IntKind.u8 (0)), AV.s (Value.int IntKind.i64 (0)), AV.s (Value.string ⟨#[]⟩), AV.s (Value.int IntKind.u8 (0)), AV.s (Value.int IntKind.i64 (0)), AV.s (Value.string ⟨#[]⟩)]), (153, [AV.s (Value.int IntKind.i64 (0)), AV.s (Value.int IntKind.i64 (0)), AV.s (Value.bool false)]), (155, [AV.s (Value.nilFunc)]), (157, [AV.s (Value.nilFunc)]), (158, [AV.s (Value.nilFunc), AV.s (Value.nilFunc), AV.s (Value.nilFunc), AV.s (Value.nilFunc), AV.s (Value.nilFunc), AV.s (Value.nilFunc), AV.s (Value.nilFunc), AV.s (Value.nilFunc)]), (170, [AV.s (Value.pointer none), AV.s (Value.slice none 0 0)])]
theorem zeroF {t : Nat} {v : List AV} (h : fnd zeroTab t = some v) : zeroOf Tryz.prog t = some v := fndF (f := zeroOf Tryz.prog) (List.forall_mem_cons.2 ⟨zero3, List.forall_mem_cons.2 ⟨zero4, List.forall_mem_cons.2 ⟨zero5, List.forall_mem_cons.2 ⟨zero9, List.forall_mem_cons.2 ⟨zero23, List.forall_mem_cons.2 ⟨zero24, List.forall_mem_cons.2 ⟨zero26, List.forall_mem_cons.2 ⟨zero27, List.forall_mem_cons.2 ⟨zero40, List.forall_mem_cons.2 ⟨zero52, List.forall_mem_cons.2 ⟨zero53, List.forall_mem_cons.2 ⟨zero55, List.forall_mem_cons.2 ⟨zero63, List.forall_mem_cons.2 ⟨zero64, List.forall_mem_cons.2 ⟨zero65, List.forall_mem_cons.2 ⟨zero73, List.forall_mem_cons.2 ⟨zero76, List.forall_mem_cons.2 ⟨zero81, List.forall_mem_cons.2 ⟨zero84, List.forall_mem_cons.2 ⟨zero92, List.forall_mem_cons.2 ⟨zero112, List.forall_mem_cons.2 ⟨zero122, List.forall_mem_cons.2 ⟨zero127, List.forall_mem_cons.2 ⟨zero128, List.forall_mem_cons.2 ⟨zero135, List.forall_mem_cons.2 ⟨zero136, List.forall_mem_cons.2 ⟨zero153, List.forall_mem_cons.2 ⟨zero155, List.forall_mem_cons.2 ⟨zero157, List.forall_mem_cons.2 ⟨zero158, List.forall_mem_cons.2 ⟨zero170, fun _ h => absurd h (List.not_mem_nil)⟩⟩⟩⟩⟩⟩⟩⟩⟩⟩⟩⟩⟩⟩⟩⟩⟩⟩⟩⟩⟩⟩⟩⟩⟩⟩⟩⟩⟩⟩⟩) h
def slTab : List (Nat × (TypeId × Nat)) := [(24, (81, 1)), (27, (9, 1)), (52, (3, 1)), (53, (4, 1)), (63, (65, 1)), (64, (73, 1)), (65, (122, 3)), (84, (5, 1)), (112, (52, 1))]
theorem slF {t : Nat} {v : TypeId × Nat} (h : fnd slTab t = some v) : sliceOf Tryz.prog t = some v := fndF (f := sliceOf Tryz.prog) (List.forall_mem_cons.2 ⟨sl24, List.forall_mem_cons.2 ⟨sl27, List.forall_mem_cons.2 ⟨sl52, List.forall_mem_cons.2 ⟨sl53, List.forall_mem_cons.2 ⟨sl63, List.forall_mem_cons.2 ⟨sl64, List.forall_mem_cons.2 ⟨sl65, List.forall_mem_cons.2 ⟨sl84, List.forall_mem_cons.2 ⟨sl112, fun _ h => absurd h (List.not_mem_nil)⟩⟩⟩⟩⟩⟩⟩⟩⟩) h
def elTab : List (Nat × (TypeId × Nat × Nat × List AV)) := [(24, (81, 1, 1, [AV.s (Value.int IntKind.i8 (0))])), (27, (9, 1, 16, [AV.s (Value.string ⟨#[]⟩)])), (52, (3, 1, 8, [AV.s (Value.int IntKind.i64 (0))])), (53, (4, 1, 1, [AV.s (Value.bool false)])), (63, (65, 1, 24, [AV.s (Value.slice none 0 0)])), (64, (73, 1, 8, [AV.s (Value.int IntKind.i64 (0))])), (65, (122, 3, 24, [AV.s (Value.int IntKind.i64 (0)), AV.s (Value.int IntKind.i64 (0)), AV.s (Value.int IntKind.i64 (0))])), (84, (5, 1, 1, [AV.s (Value.int IntKind.u8 (0))])), (112, (52, 1, 24, [AV.s (Value.slice none 0 0)]))]
theorem elF {t : Nat} {v : TypeId × Nat × Nat × List AV} (h : fnd elTab t = some v) : elOf Tryz.prog t = some v := fndF (f := elOf Tryz.prog) (List.forall_mem_cons.2 ⟨el24, List.forall_mem_cons.2 ⟨el27, List.forall_mem_cons.2 ⟨el52, List.forall_mem_cons.2 ⟨el53, List.forall_mem_cons.2 ⟨el63, List.forall_mem_cons.2 ⟨el64, List.forall_mem_cons.2 ⟨el65, List.forall_mem_cons.2 ⟨el84, List.forall_mem_cons.2 ⟨el112, fun _ h => absurd h (List.not_mem_nil)⟩⟩⟩⟩⟩⟩⟩⟩⟩) h
def arrTab : List (Nat × (Nat × TypeId × Nat)) := [(92, (2, 9, 1)), (128, (4, 127, 5)), (136, (15, 135, 3)), (158, (8, 157, 1))]
theorem arrF {t : Nat} {v : Nat × TypeId × Nat} (h : fnd arrTab t = some v) : arrOf Tryz.prog t = some v := fndF (f := arrOf Tryz.prog) (List.forall_mem_cons.2 ⟨arr92, List.forall_mem_cons.2 ⟨arr128, List.forall_mem_cons.2 ⟨arr136, List.forall_mem_cons.2 ⟨arr158, fun _ h => absurd h (List.not_mem_nil)⟩⟩⟩⟩) h
def fldTab : List (Nat × List (Nat × Nat)) := [(23, [(0, 0), (1, 1)]), (26, [(0, 0), (1, 2)]), (40, [(0, 0), (1, 1)]), (55, [(0, 0), (1, 1)]), (76, [(0, 0), (1, 2), (2, 3), (3, 4), (4, 5), (5, 6), (6, 7)]), (122, [(0, 0), (1, 1), (2, 2)]), (127, [(0, 0), (1, 1), (2, 2), (3, 3), (4, 4)]), (135, [(0, 0), (1, 1), (2, 2)]), (153, [(0, 0), (1, 1), (2, 2)]), (170, [(0, 0), (1, 1)])]
theorem fldF {t f v : Nat} (h : fnd2 fldTab t f = some v) : fldOf Tryz.prog t f = some v := fnd2F (f := fldOf Tryz.prog) (List.forall_mem_cons.2 ⟨(show ∀ q ∈ ([(0, 0), (1, 1)] : List (Nat × Nat)), fldOf Tryz.prog 23 q.1 = some q.2 from List.forall_mem_cons.2 ⟨fld23f0, List.forall_mem_cons.2 ⟨fld23f1, fun _ h => absurd h (List.not_mem_nil)⟩⟩), List.forall_mem_cons.2 ⟨(show ∀ q ∈ ([(0, 0), (1, 2)] : List (Nat × Nat)), fldOf Tryz.prog 26 q.1 = some q.2 from List.forall_mem_cons.2 ⟨fld26f0, List.forall_mem_cons.2 ⟨fld26f1, fun _ h => absurd h (List.not_mem_nil)⟩⟩), List.forall_mem_cons.2 ⟨(show ∀ q ∈ ([(0, 0), (1, 1)] : List (Nat × Nat)), fldOf Tryz.prog 40 q.1 = some q.2 from List.forall_mem_cons.2 ⟨fld40f0, List.forall_mem_cons.2 ⟨fld40f1, fun _ h => absurd h (List.not_mem_nil)⟩⟩), List.forall_mem_cons.2 ⟨(show ∀ q ∈ ([(0, 0), (1, 1)] : List (Nat × Nat)), fldOf Tryz.prog 55 q.1 = some q.2 from List.forall_mem_cons.2 ⟨fld55f0, List.forall_mem_cons.2 ⟨fld55f1, fun _ h => absurd h (List.not_mem_nil)⟩⟩), List.forall_mem_cons.2 ⟨(show ∀ q ∈ ([(0, 0), (1, 2), (2, 3), (3, 4), (4, 5), (5, 6), (6, 7)] : List (Nat × Nat)), fldOf Tryz.prog 76 q.1 = some q.2 from List.forall_mem_cons.2 ⟨fld76f0, List.forall_mem_cons.2 ⟨fld76f1, List.forall_mem_cons.2 ⟨fld76f2, List.forall_mem_cons.2 ⟨fld76f3, List.forall_mem_cons.2 ⟨fld76f4, List.forall_mem_cons.2 ⟨fld76f5, List.forall_mem_cons.2 ⟨fld76f6, fun _ h => absurd h (List.not_mem_nil)⟩⟩⟩⟩⟩⟩⟩), List.forall_mem_cons.2 ⟨(show ∀ q ∈ ([(0, 0), (1, 1), (2, 2)] : List (Nat × Nat)), fldOf Tryz.prog 122 q.1 = some q.2 from List.forall_mem_cons.2 ⟨fld122f0, List.forall_mem_cons.2 ⟨fld122f1, List.forall_mem_cons.2 ⟨fld122f2, fun _ h => absurd h (List.not_mem_nil)⟩⟩⟩), List.forall_mem_cons.2 ⟨(show ∀ q ∈ ([(0, 0), (1, 1), (2, 2), (3, 3), (4, 4)] : List (Nat × Nat)), fldOf Tryz.prog 127 q.1 = some q.2 from List.forall_mem_cons.2 ⟨fld127f0, List.forall_mem_cons.2 ⟨fld127f1, List.forall_mem_cons.2 ⟨fld127f2, List.forall_mem_cons.2 ⟨fld127f3, List.forall_mem_cons.2 ⟨fld127f4, fun _ h => absurd h (List.not_mem_nil)⟩⟩⟩⟩⟩), List.forall_mem_cons.2 ⟨(show ∀ q ∈ ([(0, 0), (1, 1), (2, 2)] : List (Nat × Nat)), fldOf Tryz.prog 135 q.1 = some q.2 from List.forall_mem_cons.2 ⟨fld135f0, List.forall_mem_cons.2 ⟨fld135f1, List.forall_mem_cons.2 ⟨fld135f2, fun _ h => absurd h (List.not_mem_nil)⟩⟩⟩), List.forall_mem_cons.2 ⟨(show ∀ q ∈ ([(0, 0), (1, 1), (2, 2)] : List (Nat × Nat)), fldOf Tryz.prog 153 q.1 = some q.2 from List.forall_mem_cons.2 ⟨fld153f0, List.forall_mem_cons.2 ⟨fld153f1, List.forall_mem_cons.2 ⟨fld153f2, fun _ h => absurd h (List.not_mem_nil)⟩⟩⟩), List.forall_mem_cons.2 ⟨(show ∀ q ∈ ([(0, 0), (1, 1)] : List (Nat × Nat)), fldOf Tryz.prog 170 q.1 = some q.2 from List.forall_mem_cons.2 ⟨fld170f0, List.forall_mem_cons.2 ⟨fld170f1, fun _ h => absurd h (List.not_mem_nil)⟩⟩), fun _ h => absurd h (List.not_mem_nil)⟩⟩⟩⟩⟩⟩⟩⟩⟩⟩) h
end Go.Proofs.YtnhnlkljcfbhfaaGreatDoor
/- The law's own decimal. -/
namespace Go.Ab
theorem not_base {H : List (Nat × AObj)} {base k : Nat} (h : ∀ p ∈ H, p.1 < base) (hm : base + k ∈ H.map (·.1)) : False := by
  obtain ⟨p, hp, he⟩ := List.mem_map.1 hm
  have := h p hp
  omega
section rules
variable {P : Program} {G : Gl} {B : AS} {W : List Nat} {ops : Array Oper} {os : List Oper} {L : List (Nat × AV)} {N : Nat} {ds : List Nat} {H : List (Nat × AObj)} {Q : Cfg → Prop} {ty : TypeId} {pos : String} {af : Array Edge} {d : Nat}
theorem SL_addU {t yt : TypeId} {x y : Operand} {a b : Int} (hd : d < N) (hx : evL G L x = some (.s (.int .u64 a))) (hy : evL G L y = some (.s (.int .u64 b))) (h1 : 0 ≤ a + b) (h2 : a + b ≤ 18446744073709551615) (k : SL P G B W ops os ((d, .s (.int .u64 (a + b))) :: L) N ds H Q) :
    SL P G B W ops (⟨some d, .binOp .add t x y yt, ty, pos, af, none⟩ :: os) L N ds H Q :=
  SL_fast hd hx hy (by simp only [fastBin, if_true, IntWalk.u64_in _ ⟨h1, h2⟩]) k
theorem SL_quoU {t yt : TypeId} {x y : Operand} {a b : Int} (hd : d < N) (hx : evL G L x = some (.s (.int .u64 a))) (hy : evL G L y = some (.s (.int .u64 b))) (h0 : 0 ≤ a) (h1 : a ≤ 18446744073709551615) (hb : 1 ≤ b) (k : SL P G B W ops os ((d, .s (.int .u64 (a / b))) :: L) N ds H Q) :
    SL P G B W ops (⟨some d, .binOp .quo t x y yt, ty, pos, af, none⟩ :: os) L N ds H Q :=
  SL_bin hd hx hy rfl (by
    show evalP P (Op.intDiv .quo .u64 a b) = _
    unfold Op.intDiv
    rw [if_neg (by omega)]
    show some (Value.int .u64 (IntKind.u64.wrap (a.tdiv b))) = _
    rw [Int.tdiv_eq_ediv_of_nonneg h0, IntWalk.u64_in _ ⟨Int.ediv_nonneg h0 (by omega), Int.le_trans (Int.ediv_le_self b h0) h1⟩]) k
end rules
end Go.Ab
namespace Go.Proofs.YtnhnlkljcfbhfaaGreatDoor
open Go Go.Ab
theorem bd67 : (Tryz.prog.funcs[67]?).map (·.body.isNone) = some false := by rw [Tryz.func67]; rfl
theorem bd28 : (Tryz.prog.funcs[28]?).map (·.body.isNone) = some false := by rw [Tryz.func28]; rfl
theorem k124_5 : kinds2 Tryz.prog 124 5 = some (.u64, .u8) := by kernel_rfl
theorem k3_124 : kinds2 Tryz.prog 3 124 = some (.i64, .u64) := by kernel_rfl
/-- A number in decimal. -/
def decI (n : Int) : ByteArray := ⟨(decN 30 n.toNat).toArray⟩
theorem decN_len : ∀ (f n : Nat), (decN f n).length ≤ f
  | 0, _ => by simp [decN]
  | f + 1, n => by
    rw [decN]
    split
    · simp
    · have := decN_len f (n / 10); simp; omega
theorem decI_le (n : Int) : (decI n).size ≤ 30 := by
  show (decN 30 n.toNat).toArray.size ≤ 30
  simpa using decN_len 30 n.toNat
theorem catOk {a b : ByteArray} (h1 : a.size ≤ 30) (h2 : b.size ≤ 30) : a.size + b.size ≤ 9223372036854775807 := by omega
theorem decI_small {n : Int} (h0 : 0 ≤ n) (h : n < 10) : decI n = ⟨#[UInt8.ofNat (48 + n).toNat]⟩ := by
  unfold decI
  rw [decN, if_pos (by omega), show (48 + n).toNat = 48 + n.toNat by omega]
theorem decI_step {n : Int} (h : 10 ≤ n) (h2 : n ≤ 10000) : decI n = decI (n / 10) ++ ⟨#[UInt8.ofNat (48 + n % 10).toNat]⟩ := by
  have e : decN 30 n.toNat = decN 30 (n / 10).toNat ++ [UInt8.ofNat (48 + n % 10).toNat] := by
    have e30 : (10 : Nat) ^ 30 = 1000000000000000000000000000000 := by decide
    rw [decN_eq 30 _ (by omega) (by decide), decN_eq 30 _ (by omega) (by decide), Lib.decDigits, dif_neg (by omega), show (n / 10).toNat = n.toNat / 10 by omega, show (48 + n % 10).toNat = 48 + n.toNat % 10 by omega]
  unfold decI
  rw [e]
  apply ByteArray.ext
  simp
attribute [local irreducible] SC SL wpc wpl wpd wpf wpy wpn FnC FnW RdW SD
set_option maxRecDepth 100000
set_option pp.deepTerms false
set_option pp.maxSteps 900
set_option maxHeartbeats 2000000
theorem digits_fn {G : Gl} (ho : ∀ a, G.orc 67 [a] = none) : ∀ (k : Nat) (n : Int), 0 ≤ n → n ≤ 10000 → n ≤ k → FnC Tryz.prog G 67 [.s (.int .u64 n)] [] (fun v Hn => v = .s (.string (decI n)) ∧ Hn = []) := by
  intro k
  induction k with
  | zero =>
    intro n h0 h1 h2
    refine Fn_body (N := 20) (ho _) Tryz.func67 rfl rfl fun B => ?_
    repeat' (first
      | refine SL_bytes (by decide) (by rfl) (by repeat (first | exact .head _ | refine .tail _ ?_)) Tryz.underlying84 Tryz.underlying9 Tryz.underlying5 (Nat.le_of_ble_eq_true (by rfl)) (by rfl) ?_
      | refine SL_conv (by decide) (by rfl) k124_5 (IntWalk.u8_in _ ⟨by omega, by omega⟩) ?_
      | refine SL_addU (by decide) (by rfl) (by rfl) (by omega) (by omega) ?_
      | refine SC_seq ?_
      | refine SC_region ?_
      | refine SL_seq ?_
      | refine SL_move (by decide) (by rfl) ?_
      | refine SL_assign (by decide) (by rfl) ?_
      | (refine SL_lss (by decide) (by rfl) (by rfl) (fun hT => ?_) (fun hT => ?_) <;> first | (exfalso; omega) | skip)
      | refine SL_build1 (by decide) (by rfl) (elF (by rfl)) (by rfl) (by rfl) (fun id hid => ?_)
      | refine SC_cond_t (by rfl) ?_
      | refine SC_ret (fun tm σ hE hH => Post.intro (Hn := []) (.inr rfl) hE hH (by rfl) trivial List.nodup_nil (fun p hp => (by cases hp)) ?_)
      | fail)
    exact ⟨by rw [decI_small h0 (by omega)]; rfl, rfl⟩
  | succ k ih =>
    intro n h0 h1 h2
    have hrec : ∀ i : Int, 0 ≤ i → i ≤ 10000 → i ≤ k → FnC Tryz.prog G 67 [.s (.int .u64 i)] [] (fun v Hn => v = .s (.string (decI i)) ∧ Hn = []) := ih
    refine Fn_body (N := 20) (ho _) Tryz.func67 rfl rfl fun B => ?_
    repeat' (first
      | (refine SD_nil (fun tm σ hE hH => ⟨_, _, _, _, _, rfl, hE, hH, fun q hq => .inl (by rw [List.mem_singleton] at hq; subst hq; omega), ?_⟩); clear hE hH; clear tm σ; intro tm σ hE hH; refine SC.app ?_ hE hH; clear hE hH; clear tm σ)
      | (refine SL_call (by decide) (by rfl) bd67 (by rfl) (by rfl) (hrec _ (by omega) (by omega) (by omega)) trivial List.nodup_nil ?_; rintro _ _ _ ⟨rfl, rfl⟩; rw [List.nil_append])
      | refine SL_cat (by decide) (by rfl) (by rfl) (catOk (by first | exact decI_le _ | exact Nat.le_of_ble_eq_true (by rfl)) (by first | exact decI_le _ | exact Nat.le_of_ble_eq_true (by rfl))) ?_
      | refine SL_bytes (by decide) (by rfl) (by repeat (first | exact .head _ | refine .tail _ ?_)) Tryz.underlying84 Tryz.underlying9 Tryz.underlying5 (Nat.le_of_ble_eq_true (by rfl)) (by rfl) ?_
      | refine SL_conv (by decide) (by rfl) k124_5 (IntWalk.u8_in _ ⟨by omega, by omega⟩) ?_
      | refine SL_rem (by decide) (by rfl) (by rfl) (by omega) (by decide) ?_
      | refine SL_quoU (by decide) (by rfl) (by rfl) (by omega) (by omega) (by decide) ?_
      | refine SL_addU (by decide) (by rfl) (by rfl) (by omega) (by omega) ?_
      | refine SD_op (i := 10) [base + 7] [(6, base)] (by rfl) (by rfl) (fun _ h => h) (fun p hp => by rw [List.mem_singleton] at hp; subst hp; simp) (fun k hk => by cases hk) (.inl rfl) ?_
      | refine SD_op (i := 9) [base + 7] [(6, base)] (by rfl) (by rfl) (fun _ h => h) (fun p hp => by rw [List.mem_singleton] at hp; subst hp; simp) (fun k hk => by cases hk) (.inl rfl) ?_
      | refine SD_mkstr (i := 7) (j := 8) (by rfl) (by rfl) (by rfl) (by decide) (by decide) (by decide) (by rfl) el84 Tryz.underlying5 Tryz.underlying9 (fun p hp => by rw [List.mem_singleton] at hp; subst hp; simp) (fun p hp => by rw [List.mem_singleton] at hp; subst hp; simp) List.not_mem_nil (fun hm => not_base hb4 hm) (by simp at hb2; omega) (hb3 _ (by omega)) ?_
      | refine SD_op (i := 2) [] [(6, base)] (by rfl) (by rfl) (fun _ h => h) (fun p hp => by rw [List.mem_singleton] at hp; subst hp; simp) (fun k hk => ⟨base, by rw [List.mem_singleton] at hk; subst hk; exact List.mem_singleton.2 rfl, List.not_mem_nil, by simp at hb2; omega⟩) (.inl rfl) ?_
      | refine SD_opN (i := 6) [] [(6, base)] (by rfl) (by rfl) (fun _ h => h) (fun p hp => by cases hp) (fun k hk => by cases hk) ⟨_, _, base, rfl, rfl, rfl, rfl⟩ ?_
      | (refine SC_drawn (id := 3) (pl := [(0, []), (1, []), (3, []), (4, []), (5, []), (6, []), (2, [6]), (7, []), (8, []), (9, []), (10, [])]) (by kernel_rfl) (by kernel_rfl) ?_; intro B' base hb1 hb2 hb3 hb4)
      | refine SC_seq ?_
      | refine SC_region ?_
      | refine SL_seq ?_
      | refine SL_move (by decide) (by rfl) ?_
      | refine SL_assign (by decide) (by rfl) ?_
      | (refine SL_lss (by decide) (by rfl) (by rfl) (fun hT => ?_) (fun hT => ?_) <;> first | (exfalso; omega) | skip)
      | refine SL_build1 (by decide) (by rfl) (elF (by rfl)) (by rfl) (by rfl) (fun id hid => ?_)
      | refine SC_cond_t (by rfl) ?_
      | refine SC_cond_f (by rfl) ?_
      | (refine SC_skip' (fun tm σ hE hH => ?_); refine SC.app ?_ hE hH; clear hE hH; clear tm σ)
      | refine SC_ret (fun tm σ hE hH => Post.intro (Hn := []) (.inr rfl) hE hH (by rfl) trivial List.nodup_nil (fun p hp => (by cases hp)) ?_)
      | (refine SL_nil (fun tm σ hE hH => ⟨_, _, _, _, rfl, hE, hH, ?_⟩); clear hE hH; clear tm σ)
      | refine SD_op _ [] (by rfl) (by rfl) (fun _ h => h) (fun p hp => by cases hp) (fun k hk => by cases hk) (.inl rfl) ?_
      | fail)
    · exact ⟨by rw [decI_small h0 (by omega)]; rfl, rfl⟩
    · exact ⟨by rw [decI_step (by omega) h1]; rfl, rfl⟩
theorem decimal_fn {G : Gl} (ho : ∀ f a, G.orc f [a] = none ∨ f ≠ 67 ∧ f ≠ 28) (n : Int) (h0 : 0 ≤ n) (h1 : n ≤ 10000) : FnC Tryz.prog G 28 [.s (.int .i64 n)] [] (fun v Hn => v = .s (.string (decI n)) ∧ Hn = []) := by
  have h67 : ∀ a, G.orc 67 [a] = none := fun a => (ho 67 a).resolve_right (fun h => h.1 rfl)
  have h28 : ∀ a, G.orc 28 [a] = none := fun a => (ho 28 a).resolve_right (fun h => h.2 rfl)
  have hrec : ∀ i : Int, 0 ≤ i → i ≤ 10000 → i ≤ 10000 → FnC Tryz.prog G 67 [.s (.int .u64 i)] [] (fun v Hn => v = .s (.string (decI i)) ∧ Hn = []) := fun i a b c => digits_fn h67 10000 i a b c
  refine Fn_body (N := 13) (h28 _) Tryz.func28 rfl rfl fun B => ?_
  repeat' (first
    | (refine SL_call (by decide) (by rfl) bd67 (by rfl) (by rfl) (hrec _ (by omega) (by omega) (by omega)) trivial List.nodup_nil ?_; rintro _ _ _ ⟨rfl, rfl⟩; rw [List.nil_append])
    | refine SL_conv (by decide) (by rfl) k3_124 (IntWalk.u64_in _ ⟨by omega, by omega⟩) ?_
    | refine SC_seq ?_
    | refine SC_region ?_
    | refine SL_seq ?_
    | refine SL_move (by decide) (by rfl) ?_
    | refine SL_assign (by decide) (by rfl) ?_
    | (refine SL_lss (by decide) (by rfl) (by rfl) (fun hT => ?_) (fun hT => ?_) <;> first | (exfalso; omega) | skip)
    | refine SC_cond_f (by rfl) ?_
    | (refine SC_skip' (fun tm σ hE hH => ?_); refine SC.app ?_ hE hH; clear hE hH; clear tm σ)
    | refine SC_ret (fun tm σ hE hH => Post.intro (Hn := []) (.inr rfl) hE hH (by rfl) trivial List.nodup_nil (fun p hp => (by cases hp)) ?_)
    | fail)
  exact ⟨rfl, rfl⟩
end Go.Proofs.YtnhnlkljcfbhfaaGreatDoor
/- Lists of strings: few and same of the law. -/
namespace Go.Proofs.YtnhnlkljcfbhfaaGreatDoor
open Go Go.Ab
set_option maxRecDepth 100000
theorem len21 (s : ByteArray) (ty : TypeId) (pos : String) (af : Array Edge) : effPure Tryz.prog ⟨some 21, .call ⟨.builtin .len, #[.tmp 20], #[9]⟩, ty, pos, af, none⟩ (evC [(20, .s (.string s))]) = some (.s (.int .i64 s.size)) := by kernel_rfl
/-- A list of strings that came in. -/
def StV (xs : List ByteArray) (a : AV) : Prop := SlV 1 a (xs.map fun x => [.s (.string x)])
theorem strs_get (xs : List ByteArray) {k : Nat} (h : k < xs.length) : (xs.map fun x => [AV.s (.string x)])[k]? = some [.s (.string xs[k])] := by
  rw [List.getElem?_map, List.getElem?_eq_getElem h]; rfl
/-- At most g strings, of at most 100 bytes. -/
def fewS (xs : List ByteArray) (g : Nat) : Bool := decide (∀ x ∈ xs.take g, x.size ≤ 100) && decide (xs.length ≤ g)
attribute [local irreducible] SC SL wpc wpl wpd wpf wpy wpn FnC FnW RdW SD
set_option pp.deepTerms false
set_option pp.maxSteps 900
set_option maxHeartbeats 2000000
theorem few_fn {G : Gl} {xs : List ByteArray} {a : AV} (hsl : StV xs a) (hbig : xs.length ≤ 9223372036854775807) (g : Nat) (hg : g ≤ 100) (ho : G.orc 7 [a, .s (.int .i64 g)] = none) :
    FnC Tryz.prog G 7 [a, .s (.int .i64 g)] [] (fun v Hn => v = .s (.bool (fewS xs g)) ∧ Hn = []) := by
  unfold StV at hsl
  refine Fn_body (N := 27) ho Tryz.func7 rfl rfl fun B => ?_
  repeat' (first
    | refine SC_seq ?_
    | refine SC_block ?_
    | refine SC_region ?_
    | refine SL_seq ?_
    | refine SL_assign (by decide) (by rfl) ?_
    | fail)
  refine SC_loop (fun k : Nat => [(0, a), (1, .s (.int .i64 g)), (4, .s (.bool false)), (5, .s (.int .i64 k))]) (fun _ => []) (fun _ => []) (fun k => k ≤ xs.length ∧ k ≤ g ∧ ∀ x ∈ xs.take k, x.size ≤ 100) (fun k => xs.length - k) 0 ⟨by omega, by omega, by simp⟩ ⟨rfl, rfl, rfl, rfl, trivial⟩ trivial List.nodup_nil rfl ?_
  rintro k ⟨hk1, hk2, hk3⟩
  by_cases hlt : k < xs.length
  ·
    repeat' (first
      | refine SL_pure [(20, _)] (by decide) ⟨rfl, trivial⟩ (by rfl) (fun tm σ h1 => by unfold eff; simp only [effCall, effBuiltin, List.map_cons, List.map_nil, h1.ev (x := .tmp 20) rfl, effLenOp, isRef]; rfl) (fun _ _ h => by cases h) (len21 _ _ _ _) ?_
      | refine SC_seq ?_
      | refine SC_block ?_
      | refine SC_region ?_
      | refine SL_seq ?_
      | refine SL_run (by rfl) (by rfl) ?_
      | refine SL_move (by decide) (by rfl) ?_
      | refine SL_assign (by decide) (by rfl) ?_
      | refine SL_pick_t (by decide) (by rfl) (by rfl) ?_
      | refine SL_add (by decide) (by rfl) (by rfl) (by omega) (by omega) ?_
      | (refine SL_lss (by decide) (by rfl) (by rfl) (fun hT => ?_) (fun hT => ?_) <;> first | (exfalso; omega) | skip)
      | (refine SL_leq (by decide) (by rfl) (by rfl) (fun hT => ?_) (fun hT => ?_) <;> first | (exfalso; omega) | skip)
      | (refine SL_gtr (by decide) (by rfl) (by rfl) (fun hT => ?_) (fun hT => ?_) <;> first | (exfalso; omega) | skip)
      | refine SL_len_v (by decide) (by rfl) (by assumption) (by rfl) (slF (by rfl)) (by simp only [List.length_map]; first | rfl | assumption) ?_
      | refine SL_indexAddr_v (by decide) (by rfl) (by rfl) (by assumption) (slF (by rfl)) _ (by first | rfl | exact (Int.toNat_of_nonneg (by omega)).symm) (by simp only [List.length_map]; omega) (fun ad => ?_)
      | refine SL_load_r (by decide) (by rfl) (rowF (by rfl)) (by first | assumption | rfl | exact strs_get _ hlt) (by rfl) ?_
      | refine SC_cond_t (by rfl) ?_
      | refine SC_cond_f (by rfl) ?_
      | (refine SC_exit (fun tm σ hE hH => ?_); refine SC.app ?_ hE hH; clear hE hH; clear tm σ)
      | (refine SC_skip' (fun tm σ hE hH => ?_); refine SC.app ?_ hE hH; clear hE hH; clear tm σ)
      | refine SC_ret (fun tm σ hE hH => Post.intro (Hn := []) (.inr rfl) hE hH (by rfl) trivial List.nodup_nil (fun p hp => (by cases hp)) ?_)
      | fail)
    · refine ⟨?_, rfl⟩
      have hb : fewS xs g = false := by
        unfold fewS
        rw [Bool.and_eq_false_iff]; left
        rw [decide_eq_false_iff_not]
        intro hall
        have := hall xs[k] (by rw [List.mem_take_iff_getElem]; exact ⟨k, by omega, rfl⟩)
        omega
      rw [hb]; rfl
    · refine SL_nil fun tm σ hE hH => ⟨k + 1, by omega, ⟨by omega, by omega, ?_⟩, tm, σ, rfl, hE.sub ⟨rfl, rfl, rfl, rfl, trivial⟩, hH.sub trivial List.nodup_nil⟩
      intro x hx
      rw [List.take_succ_eq_append_getElem hlt, List.mem_append] at hx
      rcases hx with hx | hx
      · exact hk3 x hx
      · rw [List.mem_singleton] at hx
        subst hx; omega
    · refine ⟨?_, rfl⟩
      have hb : fewS xs g = false := by
        unfold fewS
        rw [Bool.and_eq_false_iff]; right
        rw [decide_eq_false_iff_not]
        omega
      rw [hb]; rfl
  ·
    repeat' (first
      | refine SC_seq ?_
      | refine SC_region ?_
      | refine SL_seq ?_
      | refine SL_not (by rfl) (by rfl) (by rfl) (by decide) ?_
      | refine SL_move (by decide) (by rfl) ?_
      | refine SL_assign (by decide) (by rfl) ?_
      | refine SL_pick_f (by decide) (by rfl) (by rfl) ?_
      | (refine SL_lss (by decide) (by rfl) (by rfl) (fun hT => ?_) (fun hT => ?_) <;> first | (exfalso; omega) | skip)
      | (refine SL_leq (by decide) (by rfl) (by rfl) (fun hT => ?_) (fun hT => ?_) <;> first | (exfalso; omega) | skip)
      | refine SL_len_v (by decide) (by rfl) (by assumption) (by rfl) (slF (by rfl)) (by simp only [List.length_map]; first | rfl | assumption) ?_
      | refine SC_cond_f (by rfl) ?_
      | (refine SC_exit (fun tm σ hE hH => ?_); refine SC.app ?_ hE hH; clear hE hH; clear tm σ)
      | refine SC_ret (fun tm σ hE hH => Post.intro (Hn := []) (.inr rfl) hE hH (by rfl) trivial List.nodup_nil (fun p hp => (by cases hp)) ?_)
      | fail)
    · refine ⟨?_, rfl⟩
      have hb : fewS xs g = true := by
        unfold fewS
        rw [Bool.and_eq_true, decide_eq_true_eq, decide_eq_true_eq]
        refine ⟨fun x hx => hk3 x ?_, by omega⟩
        rw [List.take_of_length_le (by omega)] at hx ⊢
        exact hx
      rw [hb]; rfl
end Go.Proofs.YtnhnlkljcfbhfaaGreatDoor
/- The plain law of names: which are valid, where one stands in a list, which lists may be. -/
namespace Go.Proofs.YtnhnlkljcfbhfaaGreatDoor
open Go Go.Ab
/-- A byte that may stand in a name. -/
def OkC (i c : Nat) : Prop := (97 ≤ c ∧ c ≤ 122) ∨ (65 ≤ c ∧ c ≤ 90) ∨ (0 < i ∧ ((48 ≤ c ∧ c ≤ 57) ∨ c = 45 ∨ c = 95))
instance (i c : Nat) : Decidable (OkC i c) := by unfold OkC; infer_instance
def okFrom : Nat → List UInt8 → Bool
  | _, [] => true
  | i, c :: r => decide (OkC i c.toNat) && okFrom (i + 1) r
def validN (s : ByteArray) : Bool := okFrom 0 s.data.toList && decide (1 ≤ s.size ∧ s.size ≤ 32)
theorem validN_size {s : ByteArray} (h : validN s = true) : 1 ≤ s.size := by
  unfold validN at h
  rw [Bool.and_eq_true, decide_eq_true_eq] at h
  exact h.2.1
theorem bytes_len (s : ByteArray) : s.data.toList.length = s.size := Array.length_toList
theorem okFrom_step {s : List UInt8} {k : Nat} (hk : k < s.length) : okFrom k (s.drop k) = (decide (OkC k s[k].toNat) && okFrom (k + 1) (s.drop (k + 1))) := by
  rw [List.drop_eq_getElem_cons hk]
  rfl
/-- Where a word stands first, or -1. -/
def idxFrom : Nat → List ByteArray → ByteArray → Int
  | _, [], _ => -1
  | i, x :: r, w => if w = x then i else idxFrom (i + 1) r w
theorem idxFrom_step {xs : List ByteArray} {k : Nat} (hk : k < xs.length) (w : ByteArray) : idxFrom k (xs.drop k) w = if w = xs[k] then (k : Int) else idxFrom (k + 1) (xs.drop (k + 1)) w := by
  rw [List.drop_eq_getElem_cons hk]
  rfl
theorem idxFrom_mem : ∀ (xs : List ByteArray) (i : Nat) (w : ByteArray), 0 ≤ idxFrom i xs w ↔ w ∈ xs
  | [], i, w => by simp [idxFrom]
  | x :: r, i, w => by
    unfold idxFrom
    split
    · rename_i h
      subst h
      simp
    · rename_i h
      rw [idxFrom_mem r (i + 1) w, List.mem_cons]
      exact ⟨.inr, fun h2 => h2.resolve_left h⟩
theorem idxFrom_lt : ∀ (xs : List ByteArray) (i : Nat) (w : ByteArray), -1 ≤ idxFrom i xs w ∧ (0 ≤ idxFrom i xs w → (i : Int) ≤ idxFrom i xs w) ∧ idxFrom i xs w < i + xs.length ∨ (idxFrom i xs w = -1 ∧ xs = [])
  | [], i, w => .inr ⟨rfl, rfl⟩
  | x :: r, i, w => by
    left
    unfold idxFrom
    split
    · simp only [List.length_cons]; omega
    · rcases idxFrom_lt r (i + 1) w with h | ⟨h, h2⟩
      · simp only [List.length_cons]; omega
      · rw [h]; simp only [List.length_cons]; omega
def idxS (xs : List ByteArray) (w : ByteArray) : Int := idxFrom 0 xs w
theorem idxS_mem {xs : List ByteArray} {w : ByteArray} : 0 ≤ idxS xs w ↔ w ∈ xs := idxFrom_mem xs 0 w
theorem idxS_lt (xs : List ByteArray) (w : ByteArray) : -1 ≤ idxS xs w ∧ (0 ≤ idxS xs w → idxS xs w < xs.length) := by
  unfold idxS
  rcases idxFrom_lt xs 0 w with h | ⟨h, h2⟩
  · omega
  · rw [h]; omega
def memB (p : List ByteArray) (x : ByteArray) : Bool := p.any fun y => decide (y = x)
theorem memB_iff {p : List ByteArray} {x : ByteArray} : memB p x = true ↔ x ∈ p := by
  unfold memB
  rw [List.any_eq_true]
  constructor
  · rintro ⟨y, hy, h⟩
    rw [decide_eq_true_eq] at h
    exact h ▸ hy
  · exact fun h => ⟨x, h, decide_eq_true rfl⟩
theorem memB_f {p : List ByteArray} {x : ByteArray} : memB p x = false ↔ x ∉ p := by
  rw [← memB_iff]; simp
/-- Valid names, all of them different. -/
def okN : List ByteArray → List ByteArray → Bool
  | _, [] => true
  | p, x :: r => validN x && !memB p x && okN (p ++ [x]) r
theorem okN_step {xs : List ByteArray} {k : Nat} (hk : k < xs.length) : okN (xs.take k) (xs.drop k) = (validN xs[k] && !memB (xs.take k) xs[k] && okN (xs.take (k + 1)) (xs.drop (k + 1))) := by
  rw [List.drop_eq_getElem_cons hk]
  conv => lhs; unfold okN
  rw [List.take_succ_eq_append_getElem hk]
theorem okN_valid : ∀ {r p : List ByteArray}, okN p r = true → ∀ x ∈ r, validN x = true
  | [], _, _, x, hx => by cases hx
  | y :: r, p, h, x, hx => by
    unfold okN at h
    simp only [Bool.and_eq_true] at h
    rcases List.mem_cons.1 hx with rfl | hx
    · exact h.1.1
    · exact okN_valid h.2 x hx
def namedB (xs : List ByteArray) (lo hi : Int) : Bool := okN [] xs && decide (lo ≤ xs.length ∧ (xs.length : Int) ≤ hi)
def byeS : ByteArray := ⟨#[98, 121, 101]⟩
def playersB (xs : List ByteArray) : Bool := namedB xs 2 12 && !memB xs byeS
theorem mem_take_iff {xs : List ByteArray} {k : Nat} {w : ByteArray} : w ∈ xs.take k ↔ ∃ j, ∃ h : j < xs.length, j < k ∧ xs[j] = w := by
  rw [List.mem_take_iff_getElem]
  constructor
  · rintro ⟨i, h, e⟩
    exact ⟨i, by omega, by omega, e⟩
  · rintro ⟨i, h, h2, e⟩
    exact ⟨i, by omega, e⟩
end Go.Proofs.YtnhnlkljcfbhfaaGreatDoor
/- Names: ValidName, Index, Contains, named, players, of the program and of the law. -/
namespace Go.Proofs.YtnhnlkljcfbhfaaGreatDoor
open Go Go.Ab
set_option maxRecDepth 100000
theorem bd54 : (Tryz.prog.funcs[54]?).map (·.body.isNone) = some false := by rw [Tryz.func54]; rfl
theorem bd51 : (Tryz.prog.funcs[51]?).map (·.body.isNone) = some false := by rw [Tryz.func51]; rfl
theorem bd25 : (Tryz.prog.funcs[25]?).map (·.body.isNone) = some false := by rw [Tryz.func25]; rfl
theorem bd49 : (Tryz.prog.funcs[49]?).map (·.body.isNone) = some false := by rw [Tryz.func49]; rfl
theorem bd82 : (Tryz.prog.funcs[82]?).map (·.body.isNone) = some false := by rw [Tryz.func82]; rfl
theorem strs_len0 (xs : List ByteArray) : (xs.map fun x => [AV.s (.string x)]).length = xs.length := List.length_map _
attribute [local irreducible] SC SL wpc wpl wpd wpf wpy wpn FnC FnW RdW SD SI
set_option pp.deepTerms false
set_option pp.maxSteps 900
set_option maxHeartbeats 4000000
theorem name_fn {G : Gl} (s : ByteArray) (hbig : s.size ≤ 9223372036854775807) (ho : ∀ a, G.orc 54 [a] = none) : FnC Tryz.prog G 54 [.s (.string s)] [] (fun v Hn => v = .s (.bool (validN s)) ∧ Hn = []) := by
  refine Fn_body (N := 56) (ho _) Tryz.func54 rfl rfl fun B => ?_
  repeat' (first
    | refine SL_len_s (by decide) (by rfl) (by rfl) Tryz.underlying9 ?_
    | refine SC_seq ?_
    | refine SC_block ?_
    | refine SC_region ?_
    | refine SL_seq ?_
    | refine SL_move (by decide) (by rfl) ?_
    | refine SL_assign (by decide) (by rfl) ?_
    | fail)
  refine SC_loop (fun k : Nat => [(0, .s (.string s)), (2, .s (.bool false)), (6, .s (.int .i64 s.size)), (7, .s (.int .i64 k))]) (fun _ => []) (fun _ => []) (fun k => k ≤ s.size ∧ okFrom 0 s.data.toList = okFrom k (s.data.toList.drop k)) (fun k => s.size - k) 0 ⟨by omega, rfl⟩ ⟨rfl, rfl, rfl, rfl, trivial⟩ trivial List.nodup_nil rfl ?_
  rintro k ⟨hk, hok⟩
  by_cases hlt : k < s.size
  · have hlt' : k < s.data.toList.length := by rw [bytes_len]; exact hlt
    obtain ⟨b, hbe⟩ : ∃ b, b = s.data.toList[k] := ⟨_, rfl⟩
    have hb : s.data.toList[k]? = some b := by rw [List.getElem?_eq_getElem hlt', hbe]
    have hst := okFrom_step hlt'
    rw [← hbe] at hst
    have hb256 := b.toNat_lt
    by_cases ho' : OkC k b.toNat
    · have ho2 := ho'
      unfold OkC at ho2
      have hok' : okFrom 0 s.data.toList = okFrom (k + 1) (s.data.toList.drop (k + 1)) := by rw [hok, hst, decide_eq_true ho', Bool.true_and]
      repeat' (first
        | refine SL_index_s (by decide) (by rfl) (by rfl) Tryz.underlying9 (i := k) (by rfl) hb ?_
        | refine SC_seq ?_
        | refine SC_block ?_
        | refine SC_region ?_
        | refine SL_seq ?_
        | refine SL_run (by rfl) (by rfl) ?_
        | refine SL_not (by rfl) (by rfl) (by rfl) (by decide) ?_
        | refine SL_notu (by rfl) (by rfl) (by decide) ?_
        | refine SL_move (by decide) (by rfl) ?_
        | refine SL_assign (by decide) (by rfl) ?_
        | refine SL_pick_t (by decide) (by rfl) (by rfl) ?_
        | refine SL_pick_f (by decide) (by rfl) (by rfl) ?_
        | refine SL_add (by decide) (by rfl) (by rfl) (by omega) (by omega) ?_
        | (refine SL_lss (by decide) (by rfl) (by rfl) (fun hT => ?_) (fun hT => ?_) <;> first | (exfalso; omega) | skip)
        | (refine SL_leq (by decide) (by rfl) (by rfl) (fun hT => ?_) (fun hT => ?_) <;> first | (exfalso; omega) | skip)
        | (refine SL_gtr (by decide) (by rfl) (by rfl) (fun hT => ?_) (fun hT => ?_) <;> first | (exfalso; omega) | skip)
        | (refine SL_geq (by decide) (by rfl) (by rfl) (fun hT => ?_) (fun hT => ?_) <;> first | (exfalso; omega) | skip)
        | (refine SL_eql (by decide) (by rfl) (by rfl) (fun hT => ?_) (fun hT => ?_) <;> first | (exfalso; omega) | skip)
        | refine SC_cond_t (by rfl) ?_
        | refine SC_cond_f (by rfl) ?_
        | (refine SC_skip' (fun tm σ hE hH => ?_); refine SC.app ?_ hE hH; clear hE hH; clear tm σ)
        | fail)
      all_goals exact SL_nil fun tm σ hE hH => ⟨k + 1, by omega, ⟨by omega, hok'⟩, tm, σ, rfl, hE.sub ⟨rfl, rfl, rfl, rfl, trivial⟩, hH.sub trivial List.nodup_nil⟩
    · have ho2 := ho'
      unfold OkC at ho2
      have hv : validN s = false := by
        unfold validN
        rw [hok, hst, decide_eq_false ho', Bool.false_and, Bool.false_and]
      repeat' (first
        | refine SL_index_s (by decide) (by rfl) (by rfl) Tryz.underlying9 (i := k) (by rfl) hb ?_
        | refine SC_seq ?_
        | refine SC_block ?_
        | refine SC_region ?_
        | refine SL_seq ?_
        | refine SL_run (by rfl) (by rfl) ?_
        | refine SL_not (by rfl) (by rfl) (by rfl) (by decide) ?_
        | refine SL_notu (by rfl) (by rfl) (by decide) ?_
        | refine SL_move (by decide) (by rfl) ?_
        | refine SL_assign (by decide) (by rfl) ?_
        | refine SL_pick_t (by decide) (by rfl) (by rfl) ?_
        | refine SL_pick_f (by decide) (by rfl) (by rfl) ?_
        | (refine SL_lss (by decide) (by rfl) (by rfl) (fun hT => ?_) (fun hT => ?_) <;> first | (exfalso; omega) | skip)
        | (refine SL_leq (by decide) (by rfl) (by rfl) (fun hT => ?_) (fun hT => ?_) <;> first | (exfalso; omega) | skip)
        | (refine SL_gtr (by decide) (by rfl) (by rfl) (fun hT => ?_) (fun hT => ?_) <;> first | (exfalso; omega) | skip)
        | (refine SL_geq (by decide) (by rfl) (by rfl) (fun hT => ?_) (fun hT => ?_) <;> first | (exfalso; omega) | skip)
        | (refine SL_eql (by decide) (by rfl) (by rfl) (fun hT => ?_) (fun hT => ?_) <;> first | (exfalso; omega) | skip)
        | refine SC_cond_t (by rfl) ?_
        | refine SC_cond_f (by rfl) ?_
        | (refine SC_skip' (fun tm σ hE hH => ?_); refine SC.app ?_ hE hH; clear hE hH; clear tm σ)
        | fail)
      all_goals refine SC_ret (fun tm σ hE hH => Post.intro (Hn := []) (.inr rfl) hE hH (by rfl) trivial List.nodup_nil (fun p hp => (by cases hp)) ?_)
      all_goals exact ⟨by rw [hv]; rfl, rfl⟩
  · obtain rfl : k = s.size := by omega
    have hz : okFrom 0 s.data.toList = true := by rw [hok, List.drop_eq_nil_of_le (by rw [bytes_len]; exact Nat.le_refl _)]; rfl
    by_cases hs : 1 ≤ s.size ∧ s.size ≤ 32
    · have hv : validN s = true := by unfold validN; rw [hz, decide_eq_true hs]; rfl
      repeat' (first
        | refine SL_len_s (by decide) (by rfl) (by rfl) Tryz.underlying9 ?_
        | refine SC_seq ?_
        | refine SC_region ?_
        | refine SL_seq ?_
        | refine SL_run (by rfl) (by rfl) ?_
        | refine SL_move (by decide) (by rfl) ?_
        | refine SL_assign (by decide) (by rfl) ?_
        | refine SL_pick_t (by decide) (by rfl) (by rfl) ?_
        | (refine SL_lss (by decide) (by rfl) (by rfl) (fun hT => ?_) (fun hT => ?_) <;> first | (exfalso; omega) | skip)
        | (refine SL_leq (by decide) (by rfl) (by rfl) (fun hT => ?_) (fun hT => ?_) <;> first | (exfalso; omega) | skip)
        | (refine SL_geq (by decide) (by rfl) (by rfl) (fun hT => ?_) (fun hT => ?_) <;> first | (exfalso; omega) | skip)
        | refine SC_cond_f (by rfl) ?_
        | (refine SC_exit (fun tm σ hE hH => ?_); refine SC.app ?_ hE hH; clear hE hH; clear tm σ)
        | fail)
      all_goals refine SC_ret (fun tm σ hE hH => Post.intro (Hn := []) (.inr rfl) hE hH (by rfl) trivial List.nodup_nil (fun p hp => (by cases hp)) ?_)
      all_goals exact ⟨by rw [hv]; rfl, rfl⟩
    · have hv : validN s = false := by unfold validN; rw [hz, decide_eq_false hs]; rfl
      repeat' (first
        | refine SL_len_s (by decide) (by rfl) (by rfl) Tryz.underlying9 ?_
        | refine SC_seq ?_
        | refine SC_region ?_
        | refine SL_seq ?_
        | refine SL_run (by rfl) (by rfl) ?_
        | refine SL_not (by rfl) (by rfl) (by rfl) (by decide) ?_
        | refine SL_move (by decide) (by rfl) ?_
        | refine SL_assign (by decide) (by rfl) ?_
        | refine SL_pick_t (by decide) (by rfl) (by rfl) ?_
        | refine SL_pick_f (by decide) (by rfl) (by rfl) ?_
        | (refine SL_lss (by decide) (by rfl) (by rfl) (fun hT => ?_) (fun hT => ?_) <;> first | (exfalso; omega) | skip)
        | (refine SL_leq (by decide) (by rfl) (by rfl) (fun hT => ?_) (fun hT => ?_) <;> first | (exfalso; omega) | skip)
        | (refine SL_geq (by decide) (by rfl) (by rfl) (fun hT => ?_) (fun hT => ?_) <;> first | (exfalso; omega) | skip)
        | refine SC_cond_f (by rfl) ?_
        | (refine SC_exit (fun tm σ hE hH => ?_); refine SC.app ?_ hE hH; clear hE hH; clear tm σ)
        | fail)
      all_goals refine SC_ret (fun tm σ hE hH => Post.intro (Hn := []) (.inr rfl) hE hH (by rfl) trivial List.nodup_nil (fun p hp => (by cases hp)) ?_)
      all_goals exact ⟨by rw [hv]; rfl, rfl⟩
theorem index_fn {G : Gl} {H0 : List (Nat × AObj)} (hnd0 : (H0.map (·.1)).Nodup) {xs : List ByteArray} {l : AV} (hsh : SlH H0 1 l (xs.map fun x => [.s (.string x)])) (hbig : xs.length ≤ 9223372036854775807) (w : ByteArray) (ho : G.orc 49 [l, .s (.string w)] = none) :
    FnC Tryz.prog G 49 [l, .s (.string w)] H0 (fun v Hn => v = .s (.int .i64 (idxS xs w)) ∧ Hn = []) := by
  refine Fn_body (N := 19) ho Tryz.func49 rfl rfl fun B => ?_
  repeat' (first
    | refine SL_len_h (by decide) (by rfl) hsh (by rfl) (slF (by rfl)) (strs_len0 _) ?_
    | refine SC_seq ?_
    | refine SC_block ?_
    | refine SC_region ?_
    | refine SL_seq ?_
    | refine SL_move (by decide) (by rfl) ?_
    | refine SL_assign (by decide) (by rfl) ?_
    | fail)
  refine SC_loop (fun k : Nat => [(0, l), (1, .s (.string w)), (7, .s (.int .i64 xs.length)), (8, .s (.int .i64 k))]) (fun _ => H0) (fun _ => []) (fun k => k ≤ xs.length ∧ idxS xs w = idxFrom k (xs.drop k) w) (fun k => xs.length - k) 0 ⟨by omega, rfl⟩ ⟨rfl, rfl, rfl, rfl, trivial⟩ (.refl _) hnd0 rfl ?_
  rintro k ⟨hk, hix⟩
  by_cases hlt : k < xs.length
  · rw [idxFrom_step hlt] at hix
    by_cases hw : w = xs[k]
    · rw [if_pos hw] at hix
      repeat' (first
        | (refine SL_seql (by decide) (by rfl) (by rfl) (fun hS => ?_) (fun hS => ?_) <;> first | (exact absurd (by assumption) hS) | (exact absurd hS (by assumption)) | skip)
        | refine SL_load_h (by decide) (by rfl) (by assumption) (fun p hp => hp) (rowF (by rfl)) (by first | exact strs_get _ hlt | exact strs_get _ hlt2) (by rfl) ?_
        | (refine SL_indexAddr_h (by decide) (by rfl) (by rfl) hsh (fun p hp => hp) (slF (by rfl)) _ (by first | rfl | exact (Int.toNat_of_nonneg (by omega)).symm) (by simp only [List.length_map]; omega) (fun pa hpa => ?_))
        | refine SC_seq ?_
        | refine SC_block ?_
        | refine SC_region ?_
        | refine SL_seq ?_
        | refine SL_move (by decide) (by rfl) ?_
        | refine SL_assign (by decide) (by rfl) ?_
        | (refine SL_lss (by decide) (by rfl) (by rfl) (fun hT => ?_) (fun hT => ?_) <;> first | (exfalso; omega) | skip)
        | refine SC_cond_t (by rfl) ?_
        | (refine SC_skip' (fun tm σ hE hH => ?_); refine SC.app ?_ hE hH; clear hE hH; clear tm σ)
        | fail)
      refine SC_ret (fun tm σ hE hH => Post.intro (Hn := []) (.inr rfl) hE hH (by rfl) trivial List.nodup_nil (fun p hp => (by cases hp)) ?_)
      exact ⟨by rw [hix]; rfl, rfl⟩
    · rw [if_neg hw] at hix
      repeat' (first
        | (refine SL_seql (by decide) (by rfl) (by rfl) (fun hS => ?_) (fun hS => ?_) <;> first | (exact absurd (by assumption) hS) | (exact absurd hS (by assumption)) | skip)
        | refine SL_load_h (by decide) (by rfl) (by assumption) (fun p hp => hp) (rowF (by rfl)) (by first | exact strs_get _ hlt | exact strs_get _ hlt2) (by rfl) ?_
        | (refine SL_indexAddr_h (by decide) (by rfl) (by rfl) hsh (fun p hp => hp) (slF (by rfl)) _ (by first | rfl | exact (Int.toNat_of_nonneg (by omega)).symm) (by simp only [List.length_map]; omega) (fun pa hpa => ?_))
        | refine SC_seq ?_
        | refine SC_block ?_
        | refine SC_region ?_
        | refine SL_seq ?_
        | refine SL_move (by decide) (by rfl) ?_
        | refine SL_assign (by decide) (by rfl) ?_
        | refine SL_add (by decide) (by rfl) (by rfl) (by omega) (by omega) ?_
        | (refine SL_lss (by decide) (by rfl) (by rfl) (fun hT => ?_) (fun hT => ?_) <;> first | (exfalso; omega) | skip)
        | refine SC_cond_t (by rfl) ?_
        | refine SC_cond_f (by rfl) ?_
        | (refine SC_skip' (fun tm σ hE hH => ?_); refine SC.app ?_ hE hH; clear hE hH; clear tm σ)
        | fail)
      exact SL_nil fun tm σ hE hH => ⟨k + 1, by omega, ⟨by omega, hix⟩, tm, σ, rfl, hE.sub ⟨rfl, rfl, rfl, rfl, trivial⟩, hH⟩
  · obtain rfl : k = xs.length := by omega
    rw [List.drop_eq_nil_of_le (Nat.le_refl _)] at hix
    repeat' (first
      | refine SC_seq ?_
      | refine SC_region ?_
      | refine SL_seq ?_
      | refine SL_assign (by decide) (by rfl) ?_
      | (refine SL_lss (by decide) (by rfl) (by rfl) (fun hT => ?_) (fun hT => ?_) <;> first | (exfalso; omega) | skip)
      | refine SC_cond_f (by rfl) ?_
      | (refine SC_exit (fun tm σ hE hH => ?_); refine SC.app ?_ hE hH; clear hE hH; clear tm σ)
      | fail)
    refine SC_ret (fun tm σ hE hH => Post.intro (Hn := []) (.inr rfl) hE hH (by rfl) trivial List.nodup_nil (fun p hp => (by cases hp)) ?_)
    exact ⟨by rw [hix]; rfl, rfl⟩
theorem contains_fn {G : Gl} {H0 : List (Nat × AObj)} (hnd0 : (H0.map (·.1)).Nodup) {xs : List ByteArray} {l : AV} (w : ByteArray) (ho : G.orc 82 [l, .s (.string w)] = none) (h49 : FnC Tryz.prog G 49 [l, .s (.string w)] H0 (fun v Hn => v = .s (.int .i64 (idxS xs w)) ∧ Hn = [])) :
    FnC Tryz.prog G 82 [l, .s (.string w)] H0 (fun v Hn => v = .s (.bool (memB xs w)) ∧ Hn = []) := by
  by_cases hm : w ∈ xs
  · have h0 := idxS_mem.2 hm
    refine Fn_body (N := 9) ho Tryz.func82 rfl rfl fun B => ?_
    repeat' (first
      | (refine SL_call (by decide) (by rfl) bd49 (by rfl) (by rfl) h49 (.refl _) hnd0 ?_; rintro _ _ _ ⟨rfl, rfl⟩; rw [List.nil_append])
      | refine SC_seq ?_
      | refine SC_region ?_
      | refine SL_seq ?_
      | refine SL_move (by decide) (by rfl) ?_
      | refine SL_assign (by decide) (by rfl) ?_
      | (refine SL_geq (by decide) (by rfl) (by rfl) (fun hT => ?_) (fun hT => ?_) <;> first | (exfalso; omega) | skip)
      | fail)
    refine SC_ret (fun tm σ hE hH => Post.intro (Hn := []) (.inr rfl) hE hH (by rfl) trivial List.nodup_nil (fun p hp => (by cases hp)) ?_)
    exact ⟨by rw [memB_iff.2 hm]; rfl, rfl⟩
  · have h0 : ¬ 0 ≤ idxS xs w := fun h => hm (idxS_mem.1 h)
    refine Fn_body (N := 9) ho Tryz.func82 rfl rfl fun B => ?_
    repeat' (first
      | (refine SL_call (by decide) (by rfl) bd49 (by rfl) (by rfl) h49 (.refl _) hnd0 ?_; rintro _ _ _ ⟨rfl, rfl⟩; rw [List.nil_append])
      | refine SC_seq ?_
      | refine SC_region ?_
      | refine SL_seq ?_
      | refine SL_move (by decide) (by rfl) ?_
      | refine SL_assign (by decide) (by rfl) ?_
      | (refine SL_geq (by decide) (by rfl) (by rfl) (fun hT => ?_) (fun hT => ?_) <;> first | (exfalso; omega) | skip)
      | fail)
    refine SC_ret (fun tm σ hE hH => Post.intro (Hn := []) (.inr rfl) hE hH (by rfl) trivial List.nodup_nil (fun p hp => (by cases hp)) ?_)
    exact ⟨by rw [memB_f.2 hm]; rfl, rfl⟩
/-- Nothing is in the beginning of length 0. -/
theorem index_0 {G : Gl} {a : Addr} {cap : Nat} (w : ByteArray) (ho : ∀ x y, G.orc 49 [x, y] = none) : FnC Tryz.prog G 49 [.rsl a 1 cap [], .s (.string w)] [] (fun v Hn => v = .s (.int .i64 (-1)) ∧ Hn = []) := by
  refine Fn_body (N := 19) (ho _ _) Tryz.func49 rfl rfl fun B => ?_
  repeat' (first
    | refine SC_seq ?_
    | refine SC_region ?_
    | refine SL_seq ?_
    | refine SL_move (by decide) (by rfl) ?_
    | refine SL_assign (by decide) (by rfl) ?_
    | fail)
  refine SL_len_rsl (by decide) (by rfl) (by rfl) (sliceOf_spec (slF (by rfl))).1 ?_
  repeat' (first
    | refine SC_block ?_
    | refine SL_seq ?_
    | refine SL_move (by decide) (by rfl) ?_
    | fail)
  refine SC_loop (fun _ : Unit => [(8, .s (.int .i64 0)), (7, .s (.int .i64 0))]) (fun _ => []) (fun _ => []) (fun _ => True) (fun _ => 0) () trivial ⟨rfl, rfl, trivial⟩ trivial List.nodup_nil rfl ?_
  rintro _ _
  repeat' (first
    | refine SC_seq ?_
    | refine SC_region ?_
    | refine SL_seq ?_
    | refine SL_assign (by decide) (by rfl) ?_
    | (refine SL_lss (by decide) (by rfl) (by rfl) (fun hT => ?_) (fun hT => ?_) <;> first | (exfalso; omega) | skip)
    | refine SC_cond_f (by rfl) ?_
    | (refine SC_exit (fun tm σ hE hH => ?_); refine SC.app ?_ hE hH; clear hE hH; clear tm σ)
    | fail)
  refine SC_ret (fun tm σ hE hH => Post.intro (Hn := []) (.inr rfl) hE hH (by rfl) trivial List.nodup_nil (fun p hp => (by cases hp)) ?_)
  exact ⟨rfl, rfl⟩
theorem contains_0 {G : Gl} {a : Addr} {cap : Nat} (w : ByteArray) (ho : ∀ x y, G.orc 82 [x, y] = none) (ho' : ∀ x y, G.orc 49 [x, y] = none) : FnC Tryz.prog G 82 [.rsl a 1 cap [], .s (.string w)] [] (fun v Hn => v = .s (.bool false) ∧ Hn = []) := by
  have h49 := index_0 (a := a) (cap := cap) w ho'
  have hnd0 := List.nodup_nil (α := Nat)
  refine Fn_body (N := 9) (ho _ _) Tryz.func82 rfl rfl fun B => ?_
  repeat' (first
    | (refine SL_call (by decide) (by rfl) bd49 (by rfl) (by rfl) h49 (.refl _) hnd0 ?_; rintro _ _ _ ⟨rfl, rfl⟩; rw [List.nil_append])
    | refine SC_seq ?_
    | refine SC_region ?_
    | refine SL_seq ?_
    | refine SL_move (by decide) (by rfl) ?_
    | refine SL_assign (by decide) (by rfl) ?_
    | (refine SL_geq (by decide) (by rfl) (by rfl) (fun hT => ?_) (fun hT => ?_) <;> first | (exfalso; omega) | skip)
    | fail)
  refine SC_ret (fun tm σ hE hH => Post.intro (Hn := []) (.inr rfl) hE hH (by rfl) trivial List.nodup_nil (fun p hp => (by cases hp)) ?_)
  exact ⟨rfl, rfl⟩
end Go.Proofs.YtnhnlkljcfbhfaaGreatDoor
/- Names: which lists may be. -/
namespace Go.Proofs.YtnhnlkljcfbhfaaGreatDoor
open Go Go.Ab
set_option maxRecDepth 100000
theorem bd22 : (Tryz.prog.funcs[22]?).map (·.body.isNone) = some false := by rw [Tryz.func22]; rfl
theorem bd47 : (Tryz.prog.funcs[47]?).map (·.body.isNone) = some false := by rw [Tryz.func47]; rfl
attribute [local irreducible] SC SL wpc wpl wpd wpf wpy wpn FnC FnW RdW SD SI
set_option pp.deepTerms false
set_option pp.maxSteps 900
set_option maxHeartbeats 4000000
theorem part_fn {G : Gl} {xs : List ByteArray} {ad : Addr} {cap k : Nat} (hk : k < xs.length) (hbig : xs.length ≤ 9223372036854775807) (ho : ∀ x y, G.orc 82 [x, y] = none) (ho' : ∀ x y, G.orc 49 [x, y] = none) :
    FnC Tryz.prog G 82 [.rsl ad 1 cap ((xs.map fun x => [AV.s (.string x)]).take k), .s (.string xs[k])] [] (fun v Hn => v = .s (.bool (memB (xs.take k) xs[k])) ∧ Hn = []) := by
  by_cases h0 : k = 0
  · subst h0
    exact contains_0 _ ho ho'
  · have hsh : SlH [] 1 (.rsl ad 1 cap ((xs.map fun x => [AV.s (.string x)]).take k)) ((xs.take k).map fun x => [AV.s (.string x)]) := by
      rw [List.map_take]
      exact .v (.rsl (by rw [List.length_take, List.length_map]; omega))
    exact contains_fn (H0 := []) List.nodup_nil _ (ho _ _) (index_fn (H0 := []) List.nodup_nil hsh (by rw [List.length_take]; omega) _ (ho' _ _))
theorem named_fn {G : Gl} {xs : List ByteArray} {l : AV} (hsk : SlK 1 l (xs.map fun x => [AV.s (.string x)])) (hbig : xs.length ≤ 9223372036854775807) (hsz : ∀ x ∈ xs, x.size ≤ 9223372036854775807) (lo hi : Int) (ho : ∀ x y z, G.orc 51 [x, y, z] = none) (ho1 : ∀ a, G.orc 54 [a] = none) (ho2 : ∀ x y, G.orc 82 [x, y] = none) (ho3 : ∀ x y, G.orc 49 [x, y] = none) :
    FnC Tryz.prog G 51 [l, .s (.int .i64 lo), .s (.int .i64 hi)] [] (fun v Hn => v = .s (.bool (namedB xs lo hi)) ∧ Hn = []) := by
  have hsl := hsk.v
  refine Fn_body (N := 37) (ho _ _ _) Tryz.func51 rfl rfl fun B => ?_
  repeat' (first
    | refine SL_len_v (by decide) (by rfl) (by assumption) (by rfl) (slF (by rfl)) (strs_len0 _) ?_
    | refine SC_seq ?_
    | refine SC_block ?_
    | refine SC_region ?_
    | refine SL_seq ?_
    | refine SL_move (by decide) (by rfl) ?_
    | refine SL_assign (by decide) (by rfl) ?_
    | fail)
  refine SC_loop (fun k : Nat => [(0, l), (1, .s (.int .i64 lo)), (2, .s (.int .i64 hi)), (6, .s (.bool false)), (9, l), (10, .s (.int .i64 xs.length)), (11, .s (.int .i64 k))]) (fun _ => []) (fun _ => []) (fun k => k ≤ xs.length ∧ okN [] xs = okN (xs.take k) (xs.drop k)) (fun k => xs.length - k) 0 ⟨by omega, rfl⟩ ⟨rfl, rfl, rfl, rfl, rfl, rfl, rfl, trivial⟩ trivial List.nodup_nil rfl ?_
  rintro k ⟨hk, hok⟩
  by_cases hlt : k < xs.length
  · obtain ⟨ad, cap, rfl, hcap⟩ : ∃ ad cap, l = .rsl ad 1 cap (xs.map fun x => [AV.s (.string x)]) ∧ (xs.map fun x => [AV.s (.string x)]).length ≤ cap := by
      generalize hr : (xs.map fun x => [AV.s (.string x)]) = rows at hsk
      cases hsk with
      | nil => rw [List.map_eq_nil_iff] at hr; subst hr; exact absurd hlt (by simp)
      | rsl h hc => exact ⟨_, _, rfl, hc⟩
    rw [okN_step hlt] at hok
    have h54 := name_fn (G := G) xs[k] (hsz _ (List.getElem_mem hlt)) ho1
    have h82a := part_fn (G := G) (ad := ad) (cap := cap) hlt hbig ho2 ho3
    cases hv : validN xs[k] with
    | false =>
      rw [hv] at h54 hok
      have hn : namedB xs lo hi = false := by unfold namedB; rw [hok]; rfl
      repeat' (first
        | (refine SL_call (by decide) (by rfl) bd54 (by rfl) (by rfl) (h54) trivial List.nodup_nil ?_; rintro _ _ _ ⟨rfl, rfl⟩; rw [List.nil_append])
        | refine SC_seq ?_
        | refine SC_block ?_
        | refine SC_region ?_
        | refine SL_seq ?_
        | refine SL_not (by rfl) (by rfl) (by rfl) (by decide) ?_
        | refine SL_move (by decide) (by rfl) ?_
        | refine SL_assign (by decide) (by rfl) ?_
        | refine SL_pick_t (by decide) (by rfl) (by rfl) ?_
        | refine SL_not_op (by decide) (by rfl) ?_
        | (refine SL_lss (by decide) (by rfl) (by rfl) (fun hT => ?_) (fun hT => ?_) <;> first | (exfalso; omega) | skip)
        | refine SL_indexAddr_v (by decide) (by rfl) (by rfl) (by assumption) (slF (by rfl)) _ (by first | rfl | exact (Int.toNat_of_nonneg (by omega)).symm) (by simp only [List.length_map]; omega) (fun ad => ?_)
        | refine SL_load_r (by decide) (by rfl) (rowF (by rfl)) (by first | assumption | rfl | exact strs_get _ hlt | exact strs_get _ hlt2) (by rfl) ?_
        | refine SC_cond_t (by rfl) ?_
        | (refine SC_skip' (fun tm σ hE hH => ?_); refine SC.app ?_ hE hH; clear hE hH; clear tm σ)
        | fail)
      refine SC_ret (fun tm σ hE hH => Post.intro (Hn := []) (.inr rfl) hE hH (by rfl) trivial List.nodup_nil (fun p hp => (by cases hp)) ?_)
      exact ⟨by rw [hn]; rfl, rfl⟩
    | true =>
      rw [hv] at h54 hok
      cases hm : memB (xs.take k) xs[k] with
      | true =>
        rw [hm] at h82a hok
        have hn : namedB xs lo hi = false := by unfold namedB; rw [hok]; rfl
        repeat' (first
          | (refine SL_slice_r (i := k) (by decide) (by rfl) (by rfl) (slF (by rfl)) (by rfl) (by rw [List.length_map]; omega) hcap ?_)
          | (refine SL_call (by decide) (by rfl) bd82 (by rfl) (by rfl) h82a trivial List.nodup_nil ?_; rintro _ _ _ ⟨rfl, rfl⟩; rw [List.nil_append])
          | (refine SL_call (by decide) (by rfl) bd54 (by rfl) (by rfl) (h54) trivial List.nodup_nil ?_; rintro _ _ _ ⟨rfl, rfl⟩; rw [List.nil_append])
          | refine SC_seq ?_
          | refine SC_block ?_
          | refine SC_region ?_
          | refine SL_seq ?_
          | refine SL_run (by rfl) (by rfl) ?_
          | refine SL_move (by decide) (by rfl) ?_
          | refine SL_assign (by decide) (by rfl) ?_
          | refine SL_pick_f (by decide) (by rfl) (by rfl) ?_
          | refine SL_not_op (by decide) (by rfl) ?_
          | (refine SL_lss (by decide) (by rfl) (by rfl) (fun hT => ?_) (fun hT => ?_) <;> first | (exfalso; omega) | skip)
          | refine SL_indexAddr_v (by decide) (by rfl) (by rfl) (by assumption) (slF (by rfl)) _ (by first | rfl | exact (Int.toNat_of_nonneg (by omega)).symm) (by simp only [List.length_map]; omega) (fun ad => ?_)
          | refine SL_load_r (by decide) (by rfl) (rowF (by rfl)) (by first | assumption | rfl | exact strs_get _ hlt | exact strs_get _ hlt2) (by rfl) ?_
          | refine SC_cond_t (by rfl) ?_
          | (refine SC_skip' (fun tm σ hE hH => ?_); refine SC.app ?_ hE hH; clear hE hH; clear tm σ)
          | fail)
        refine SC_ret (fun tm σ hE hH => Post.intro (Hn := []) (.inr rfl) hE hH (by rfl) trivial List.nodup_nil (fun p hp => (by cases hp)) ?_)
        exact ⟨by rw [hn]; rfl, rfl⟩
      | false =>
        rw [hm] at h82a hok
        repeat' (first
          | (refine SL_slice_r (i := k) (by decide) (by rfl) (by rfl) (slF (by rfl)) (by rfl) (by rw [List.length_map]; omega) hcap ?_)
          | (refine SL_call (by decide) (by rfl) bd82 (by rfl) (by rfl) h82a trivial List.nodup_nil ?_; rintro _ _ _ ⟨rfl, rfl⟩; rw [List.nil_append])
          | (refine SL_call (by decide) (by rfl) bd54 (by rfl) (by rfl) (h54) trivial List.nodup_nil ?_; rintro _ _ _ ⟨rfl, rfl⟩; rw [List.nil_append])
          | refine SC_seq ?_
          | refine SC_block ?_
          | refine SC_region ?_
          | refine SL_seq ?_
          | refine SL_run (by rfl) (by rfl) ?_
          | refine SL_move (by decide) (by rfl) ?_
          | refine SL_assign (by decide) (by rfl) ?_
          | refine SL_pick_f (by decide) (by rfl) (by rfl) ?_
          | refine SL_not_op (by decide) (by rfl) ?_
          | refine SL_add (by decide) (by rfl) (by rfl) (by omega) (by omega) ?_
          | (refine SL_lss (by decide) (by rfl) (by rfl) (fun hT => ?_) (fun hT => ?_) <;> first | (exfalso; omega) | skip)
          | refine SL_indexAddr_v (by decide) (by rfl) (by rfl) (by assumption) (slF (by rfl)) _ (by first | rfl | exact (Int.toNat_of_nonneg (by omega)).symm) (by simp only [List.length_map]; omega) (fun ad => ?_)
          | refine SL_load_r (by decide) (by rfl) (rowF (by rfl)) (by first | assumption | rfl | exact strs_get _ hlt | exact strs_get _ hlt2) (by rfl) ?_
          | refine SC_cond_t (by rfl) ?_
          | refine SC_cond_f (by rfl) ?_
          | (refine SC_skip' (fun tm σ hE hH => ?_); refine SC.app ?_ hE hH; clear hE hH; clear tm σ)
          | fail)
        exact SL_nil fun tm σ hE hH => ⟨k + 1, by omega, ⟨by omega, hok⟩, tm, σ, rfl, hE.sub ⟨rfl, rfl, rfl, rfl, rfl, rfl, rfl, trivial⟩, hH.sub trivial List.nodup_nil⟩
  · obtain rfl : k = xs.length := by omega
    rw [List.drop_eq_nil_of_le (Nat.le_refl _)] at hok
    by_cases hs : lo ≤ xs.length ∧ (xs.length : Int) ≤ hi
    · have hn : namedB xs lo hi = true := by unfold namedB; rw [hok, decide_eq_true hs]; rfl
      repeat' (first
        | refine SL_len_v (by decide) (by rfl) (by assumption) (by rfl) (slF (by rfl)) (strs_len0 _) ?_
        | refine SC_seq ?_
        | refine SC_region ?_
        | refine SL_seq ?_
        | refine SL_run (by rfl) (by rfl) ?_
        | refine SL_move (by decide) (by rfl) ?_
        | refine SL_assign (by decide) (by rfl) ?_
        | refine SL_pick_t (by decide) (by rfl) (by rfl) ?_
        | (refine SL_lss (by decide) (by rfl) (by rfl) (fun hT => ?_) (fun hT => ?_) <;> first | (exfalso; omega) | skip)
        | (refine SL_leq (by decide) (by rfl) (by rfl) (fun hT => ?_) (fun hT => ?_) <;> first | (exfalso; omega) | skip)
        | (refine SL_geq (by decide) (by rfl) (by rfl) (fun hT => ?_) (fun hT => ?_) <;> first | (exfalso; omega) | skip)
        | refine SC_cond_f (by rfl) ?_
        | (refine SC_exit (fun tm σ hE hH => ?_); refine SC.app ?_ hE hH; clear hE hH; clear tm σ)
        | fail)
      refine SC_ret (fun tm σ hE hH => Post.intro (Hn := []) (.inr rfl) hE hH (by rfl) trivial List.nodup_nil (fun p hp => (by cases hp)) ?_)
      exact ⟨by rw [hn]; rfl, rfl⟩
    · have hn : namedB xs lo hi = false := by unfold namedB; rw [hok, decide_eq_false hs]; rfl
      repeat' (first
        | refine SL_len_v (by decide) (by rfl) (by assumption) (by rfl) (slF (by rfl)) (strs_len0 _) ?_
        | refine SC_seq ?_
        | refine SC_region ?_
        | refine SL_seq ?_
        | refine SL_run (by rfl) (by rfl) ?_
        | refine SL_not (by rfl) (by rfl) (by rfl) (by decide) ?_
        | refine SL_move (by decide) (by rfl) ?_
        | refine SL_assign (by decide) (by rfl) ?_
        | refine SL_pick_t (by decide) (by rfl) (by rfl) ?_
        | refine SL_pick_f (by decide) (by rfl) (by rfl) ?_
        | (refine SL_lss (by decide) (by rfl) (by rfl) (fun hT => ?_) (fun hT => ?_) <;> first | (exfalso; omega) | skip)
        | (refine SL_leq (by decide) (by rfl) (by rfl) (fun hT => ?_) (fun hT => ?_) <;> first | (exfalso; omega) | skip)
        | (refine SL_geq (by decide) (by rfl) (by rfl) (fun hT => ?_) (fun hT => ?_) <;> first | (exfalso; omega) | skip)
        | refine SC_cond_f (by rfl) ?_
        | (refine SC_exit (fun tm σ hE hH => ?_); refine SC.app ?_ hE hH; clear hE hH; clear tm σ)
        | fail)
      all_goals refine SC_ret (fun tm σ hE hH => Post.intro (Hn := []) (.inr rfl) hE hH (by rfl) trivial List.nodup_nil (fun p hp => (by cases hp)) ?_)
      all_goals exact ⟨by rw [hn]; rfl, rfl⟩
theorem lnamed_fn {G : Gl} {xs : List ByteArray} {l : AV} (hsl : SlV 1 l (xs.map fun x => [AV.s (.string x)])) (hbig : xs.length ≤ 9223372036854775807) (hsz : ∀ x ∈ xs, x.size ≤ 9223372036854775807) (lo hi : Int) (ho : ∀ x y z, G.orc 25 [x, y, z] = none) (ho1 : ∀ a, G.orc 54 [a] = none) :
    FnC Tryz.prog G 25 [l, .s (.int .i64 lo), .s (.int .i64 hi)] [] (fun v Hn => v = .s (.bool (namedB xs lo hi)) ∧ Hn = []) := by
  have hsh : SlH [] 1 l (xs.map fun x => [AV.s (.string x)]) := .v hsl
  refine Fn_body (N := 45) (ho _ _ _) Tryz.func25 rfl rfl fun B => ?_
  repeat' (first
    | refine SC_seq ?_
    | refine SC_block ?_
    | refine SC_region ?_
    | refine SL_seq ?_
    | refine SL_assign (by decide) (by rfl) ?_
    | fail)
  refine SC_loop (fun k : Nat => [(0, l), (1, .s (.int .i64 lo)), (2, .s (.int .i64 hi)), (6, .s (.bool false)), (7, .s (.int .i64 k))]) (fun _ => []) (fun _ => []) (fun k => k ≤ xs.length ∧ okN [] xs = okN (xs.take k) (xs.drop k)) (fun k => xs.length - k) 0 ⟨by omega, rfl⟩ ⟨rfl, rfl, rfl, rfl, rfl, trivial⟩ trivial List.nodup_nil rfl ?_
  rintro k ⟨hk, hok⟩
  by_cases hlt : k < xs.length
  · rw [okN_step hlt] at hok
    have h54 := name_fn (G := G) xs[k] (hsz _ (List.getElem_mem hlt)) ho1
    cases hv : validN xs[k] with
    | false =>
      rw [hv] at h54 hok
      have hn : namedB xs lo hi = false := by unfold namedB; rw [hok]; rfl
      repeat' (first
        | refine SL_load_h (by decide) (by rfl) (by assumption) (fun p hp => hp) (rowF (by rfl)) (by first | exact strs_get _ hlt | exact strs_get _ hlt2) (by rfl) ?_
        | (refine SL_indexAddr_h (by decide) (by rfl) (by rfl) hsh (fun p hp => hp) (slF (by rfl)) _ (by first | rfl | exact (Int.toNat_of_nonneg (by omega)).symm) (by simp only [List.length_map]; omega) (fun pa hpa => ?_))
        | refine SL_len_h (by decide) (by rfl) hsh (by rfl) (slF (by rfl)) (strs_len0 _) ?_
        | (refine SL_call (by decide) (by rfl) bd54 (by rfl) (by rfl) (h54) trivial List.nodup_nil ?_; rintro _ _ _ ⟨rfl, rfl⟩; rw [List.nil_append])
        | refine SC_seq ?_
        | refine SC_block ?_
        | refine SC_region ?_
        | refine SL_seq ?_
        | refine SL_move (by decide) (by rfl) ?_
        | refine SL_assign (by decide) (by rfl) ?_
        | refine SL_not_op (by decide) (by rfl) ?_
        | (refine SL_lss (by decide) (by rfl) (by rfl) (fun hT => ?_) (fun hT => ?_) <;> first | (exfalso; omega) | skip)
        | refine SC_cond_t (by rfl) ?_
        | (refine SC_skip' (fun tm σ hE hH => ?_); refine SC.app ?_ hE hH; clear hE hH; clear tm σ)
        | fail)
      refine SC_ret (fun tm σ hE hH => Post.intro (Hn := []) (.inr rfl) hE hH (by rfl) trivial List.nodup_nil (fun p hp => (by cases hp)) ?_)
      exact ⟨by rw [hn]; rfl, rfl⟩
    | true =>
      rw [hv] at h54 hok
      repeat' (first
        | refine SL_load_h (by decide) (by rfl) (by assumption) (fun p hp => hp) (rowF (by rfl)) (by first | exact strs_get _ hlt | exact strs_get _ hlt2) (by rfl) ?_
        | (refine SL_indexAddr_h (by decide) (by rfl) (by rfl) hsh (fun p hp => hp) (slF (by rfl)) _ (by first | rfl | exact (Int.toNat_of_nonneg (by omega)).symm) (by simp only [List.length_map]; omega) (fun pa hpa => ?_))
        | refine SL_len_h (by decide) (by rfl) hsh (by rfl) (slF (by rfl)) (strs_len0 _) ?_
        | (refine SL_call (by decide) (by rfl) bd54 (by rfl) (by rfl) (h54) trivial List.nodup_nil ?_; rintro _ _ _ ⟨rfl, rfl⟩; rw [List.nil_append])
        | refine SC_seq ?_
        | refine SC_block ?_
        | refine SC_region ?_
        | refine SL_seq ?_
        | refine SL_move (by decide) (by rfl) ?_
        | refine SL_assign (by decide) (by rfl) ?_
        | refine SL_not_op (by decide) (by rfl) ?_
        | (refine SL_lss (by decide) (by rfl) (by rfl) (fun hT => ?_) (fun hT => ?_) <;> first | (exfalso; omega) | skip)
        | refine SC_cond_t (by rfl) ?_
        | refine SC_cond_f (by rfl) ?_
        | (refine SC_skip' (fun tm σ hE hH => ?_); refine SC.app ?_ hE hH; clear hE hH; clear tm σ)
        | fail)
      refine SC_loop (fun j : Nat => [(0, l), (1, .s (.int .i64 lo)), (2, .s (.int .i64 hi)), (6, .s (.bool false)), (7, .s (.int .i64 k)), (8, .s (.int .i64 j))]) (fun _ => []) (fun _ => []) (fun j => j ≤ k ∧ ∀ i, (h : i < xs.length) → i < j → xs[i] ≠ xs[k]) (fun j => k - j) 0 ⟨by omega, fun i _ h => by omega⟩ ⟨rfl, rfl, rfl, rfl, rfl, rfl, trivial⟩ trivial List.nodup_nil rfl ?_
      rintro j ⟨hj, hne⟩
      by_cases hjk : j < k
      · have hlt2 : j < xs.length := by omega
        by_cases he : xs[j] = xs[k]
        · have hm : memB (xs.take k) xs[k] = true := memB_iff.2 (mem_take_iff.2 ⟨j, hlt2, hjk, he⟩)
          have hn : namedB xs lo hi = false := by unfold namedB; rw [hok, hm]; rfl
          repeat' (first
            | (refine SL_seql (by decide) (by rfl) (by rfl) (fun hS => ?_) (fun hS => ?_) <;> first | (exact absurd (by assumption) hS) | (exact absurd hS (by assumption)) | skip)
            | refine SL_load_h (by decide) (by rfl) (by assumption) (fun p hp => hp) (rowF (by rfl)) (by first | exact strs_get _ hlt | exact strs_get _ hlt2) (by rfl) ?_
            | (refine SL_indexAddr_h (by decide) (by rfl) (by rfl) hsh (fun p hp => hp) (slF (by rfl)) _ (by first | rfl | exact (Int.toNat_of_nonneg (by omega)).symm) (by simp only [List.length_map]; omega) (fun pa hpa => ?_))
            | refine SC_seq ?_
            | refine SC_block ?_
            | refine SC_region ?_
            | refine SL_seq ?_
            | refine SL_move (by decide) (by rfl) ?_
            | refine SL_assign (by decide) (by rfl) ?_
            | (refine SL_lss (by decide) (by rfl) (by rfl) (fun hT => ?_) (fun hT => ?_) <;> first | (exfalso; omega) | skip)
            | refine SC_draw (by kernel_rfl) ?_
            | refine SC_cond_t (by rfl) ?_
            | (refine SC_skip' (fun tm σ hE hH => ?_); refine SC.app ?_ hE hH; clear hE hH; clear tm σ)
            | fail)
          refine SC_ret (fun tm σ hE hH => Post.intro (Hn := []) (.inr rfl) hE hH (by rfl) trivial List.nodup_nil (fun p hp => (by cases hp)) ?_)
          exact ⟨by rw [hn]; rfl, rfl⟩
        ·
          repeat' (first
            | (refine SL_seql (by decide) (by rfl) (by rfl) (fun hS => ?_) (fun hS => ?_) <;> first | (exact absurd (by assumption) hS) | (exact absurd hS (by assumption)) | skip)
            | refine SL_load_h (by decide) (by rfl) (by assumption) (fun p hp => hp) (rowF (by rfl)) (by first | exact strs_get _ hlt | exact strs_get _ hlt2) (by rfl) ?_
            | (refine SL_indexAddr_h (by decide) (by rfl) (by rfl) hsh (fun p hp => hp) (slF (by rfl)) _ (by first | rfl | exact (Int.toNat_of_nonneg (by omega)).symm) (by simp only [List.length_map]; omega) (fun pa hpa => ?_))
            | refine SC_seq ?_
            | refine SC_block ?_
            | refine SC_region ?_
            | refine SL_seq ?_
            | refine SL_move (by decide) (by rfl) ?_
            | refine SL_assign (by decide) (by rfl) ?_
            | refine SL_add (by decide) (by rfl) (by rfl) (by omega) (by omega) ?_
            | (refine SL_lss (by decide) (by rfl) (by rfl) (fun hT => ?_) (fun hT => ?_) <;> first | (exfalso; omega) | skip)
            | refine SC_draw (by kernel_rfl) ?_
            | refine SC_cond_t (by rfl) ?_
            | refine SC_cond_f (by rfl) ?_
            | (refine SC_skip' (fun tm σ hE hH => ?_); refine SC.app ?_ hE hH; clear hE hH; clear tm σ)
            | fail)
          refine SL_nil fun tm σ hE hH => ⟨j + 1, by omega, ⟨by omega, fun i hi1 hi2 => ?_⟩, tm, σ, rfl, hE.sub ⟨rfl, rfl, rfl, rfl, rfl, rfl, trivial⟩, hH.sub trivial List.nodup_nil⟩
          by_cases hij : i = j
          · subst hij; exact he
          · exact hne i hi1 (by omega)
      · obtain rfl : j = k := by omega
        have hm : memB (xs.take j) xs[j] = false := memB_f.2 fun h => by
          obtain ⟨i, h1, h2, h3⟩ := mem_take_iff.1 h
          exact hne i h1 h2 h3
        rw [hm] at hok
        repeat' (first
          | refine SC_seq ?_
          | refine SC_region ?_
          | refine SL_seq ?_
          | refine SL_move (by decide) (by rfl) ?_
          | refine SL_assign (by decide) (by rfl) ?_
          | refine SL_add (by decide) (by rfl) (by rfl) (by omega) (by omega) ?_
          | (refine SL_lss (by decide) (by rfl) (by rfl) (fun hT => ?_) (fun hT => ?_) <;> first | (exfalso; omega) | skip)
          | refine SC_cond_f (by rfl) ?_
          | (refine SC_exit (fun tm σ hE hH => ?_); refine SC.app ?_ hE hH; clear hE hH; clear tm σ)
          | fail)
        exact SL_nil fun tm σ hE hH => ⟨j + 1, by omega, ⟨by omega, hok⟩, tm, σ, rfl, hE.sub ⟨rfl, rfl, rfl, rfl, rfl, trivial⟩, hH.sub trivial List.nodup_nil⟩
  · obtain rfl : k = xs.length := by omega
    rw [List.drop_eq_nil_of_le (Nat.le_refl _)] at hok
    by_cases hs : lo ≤ xs.length ∧ (xs.length : Int) ≤ hi
    · have hn : namedB xs lo hi = true := by unfold namedB; rw [hok, decide_eq_true hs]; rfl
      repeat' (first
        | refine SL_len_h (by decide) (by rfl) hsh (by rfl) (slF (by rfl)) (strs_len0 _) ?_
        | refine SC_seq ?_
        | refine SC_region ?_
        | refine SL_seq ?_
        | refine SL_run (by rfl) (by rfl) ?_
        | refine SL_move (by decide) (by rfl) ?_
        | refine SL_assign (by decide) (by rfl) ?_
        | refine SL_pick_t (by decide) (by rfl) (by rfl) ?_
        | (refine SL_lss (by decide) (by rfl) (by rfl) (fun hT => ?_) (fun hT => ?_) <;> first | (exfalso; omega) | skip)
        | (refine SL_leq (by decide) (by rfl) (by rfl) (fun hT => ?_) (fun hT => ?_) <;> first | (exfalso; omega) | skip)
        | (refine SL_geq (by decide) (by rfl) (by rfl) (fun hT => ?_) (fun hT => ?_) <;> first | (exfalso; omega) | skip)
        | refine SC_cond_f (by rfl) ?_
        | (refine SC_exit (fun tm σ hE hH => ?_); refine SC.app ?_ hE hH; clear hE hH; clear tm σ)
        | fail)
      refine SC_ret (fun tm σ hE hH => Post.intro (Hn := []) (.inr rfl) hE hH (by rfl) trivial List.nodup_nil (fun p hp => (by cases hp)) ?_)
      exact ⟨by rw [hn]; rfl, rfl⟩
    · have hn : namedB xs lo hi = false := by unfold namedB; rw [hok, decide_eq_false hs]; rfl
      repeat' (first
        | refine SL_len_h (by decide) (by rfl) hsh (by rfl) (slF (by rfl)) (strs_len0 _) ?_
        | refine SC_seq ?_
        | refine SC_region ?_
        | refine SL_seq ?_
        | refine SL_run (by rfl) (by rfl) ?_
        | refine SL_not (by rfl) (by rfl) (by rfl) (by decide) ?_
        | refine SL_move (by decide) (by rfl) ?_
        | refine SL_assign (by decide) (by rfl) ?_
        | refine SL_pick_t (by decide) (by rfl) (by rfl) ?_
        | refine SL_pick_f (by decide) (by rfl) (by rfl) ?_
        | (refine SL_lss (by decide) (by rfl) (by rfl) (fun hT => ?_) (fun hT => ?_) <;> first | (exfalso; omega) | skip)
        | (refine SL_leq (by decide) (by rfl) (by rfl) (fun hT => ?_) (fun hT => ?_) <;> first | (exfalso; omega) | skip)
        | (refine SL_geq (by decide) (by rfl) (by rfl) (fun hT => ?_) (fun hT => ?_) <;> first | (exfalso; omega) | skip)
        | refine SC_cond_f (by rfl) ?_
        | (refine SC_exit (fun tm σ hE hH => ?_); refine SC.app ?_ hE hH; clear hE hH; clear tm σ)
        | fail)
      all_goals refine SC_ret (fun tm σ hE hH => Post.intro (Hn := []) (.inr rfl) hE hH (by rfl) trivial List.nodup_nil (fun p hp => (by cases hp)) ?_)
      all_goals exact ⟨by rw [hn]; rfl, rfl⟩
theorem players_fn {G : Gl} {xs : List ByteArray} {l : AV} (ho : ∀ x, G.orc 47 [x] = none) (h51' : FnC Tryz.prog G 51 [l, .s (.int .i64 2), .s (.int .i64 12)] [] (fun v Hn => v = .s (.bool (namedB xs 2 12)) ∧ Hn = []))
    (h82' : FnC Tryz.prog G 82 [l, .s (.string byeS)] [] (fun v Hn => v = .s (.bool (memB xs byeS)) ∧ Hn = [])) : FnC Tryz.prog G 47 [l] [] (fun v Hn => v = .s (.bool (playersB xs)) ∧ Hn = []) := by
  have h51 := h51'
  have h82a := h82'
  unfold byeS at h82a
  cases hn : namedB xs 2 12 with
  | false =>
    have hp : playersB xs = false := by unfold playersB; rw [hn]; rfl
    rw [hn] at h51
    refine Fn_body (N := 10) (ho _) Tryz.func47 rfl rfl fun B => ?_
    repeat' (first
      | (refine SL_call (by decide) (by rfl) bd51 (by rfl) (by rfl) (h51) trivial List.nodup_nil ?_; rintro _ _ _ ⟨rfl, rfl⟩; rw [List.nil_append])
      | refine SC_seq ?_
      | refine SC_region ?_
      | refine SL_seq ?_
      | refine SL_not (by rfl) (by rfl) (by rfl) (by decide) ?_
      | refine SL_move (by decide) (by rfl) ?_
      | refine SL_assign (by decide) (by rfl) ?_
      | refine SL_pick_f (by decide) (by rfl) (by rfl) ?_
      | fail)
    refine SC_ret (fun tm σ hE hH => Post.intro (Hn := []) (.inr rfl) hE hH (by rfl) trivial List.nodup_nil (fun p hp => (by cases hp)) ?_)
    exact ⟨by rw [hp]; rfl, rfl⟩
  | true =>
    rw [hn] at h51
    cases hm : memB xs byeS with
    | true =>
      have hp : playersB xs = false := by unfold playersB; rw [hn, hm]; rfl
      unfold byeS at hm
      rw [hm] at h82a
      refine Fn_body (N := 10) (ho _) Tryz.func47 rfl rfl fun B => ?_
      repeat' (first
        | (refine SL_call (by decide) (by rfl) bd82 (by rfl) (by rfl) h82a trivial List.nodup_nil ?_; rintro _ _ _ ⟨rfl, rfl⟩; rw [List.nil_append])
        | (refine SL_call (by decide) (by rfl) bd51 (by rfl) (by rfl) (h51) trivial List.nodup_nil ?_; rintro _ _ _ ⟨rfl, rfl⟩; rw [List.nil_append])
        | refine SC_seq ?_
        | refine SC_region ?_
        | refine SL_seq ?_
        | refine SL_run (by rfl) (by rfl) ?_
        | refine SL_move (by decide) (by rfl) ?_
        | refine SL_assign (by decide) (by rfl) ?_
        | refine SL_pick_t (by decide) (by rfl) (by rfl) ?_
        | refine SL_not_op (by decide) (by rfl) ?_
        | fail)
      refine SC_ret (fun tm σ hE hH => Post.intro (Hn := []) (.inr rfl) hE hH (by rfl) trivial List.nodup_nil (fun p hp => (by cases hp)) ?_)
      exact ⟨by rw [hp]; rfl, rfl⟩
    | false =>
      have hp : playersB xs = true := by unfold playersB; rw [hn, hm]; rfl
      unfold byeS at hm
      rw [hm] at h82a
      refine Fn_body (N := 10) (ho _) Tryz.func47 rfl rfl fun B => ?_
      repeat' (first
        | (refine SL_call (by decide) (by rfl) bd82 (by rfl) (by rfl) h82a trivial List.nodup_nil ?_; rintro _ _ _ ⟨rfl, rfl⟩; rw [List.nil_append])
        | (refine SL_call (by decide) (by rfl) bd51 (by rfl) (by rfl) (h51) trivial List.nodup_nil ?_; rintro _ _ _ ⟨rfl, rfl⟩; rw [List.nil_append])
        | refine SC_seq ?_
        | refine SC_region ?_
        | refine SL_seq ?_
        | refine SL_run (by rfl) (by rfl) ?_
        | refine SL_move (by decide) (by rfl) ?_
        | refine SL_assign (by decide) (by rfl) ?_
        | refine SL_pick_t (by decide) (by rfl) (by rfl) ?_
        | refine SL_not_op (by decide) (by rfl) ?_
        | fail)
      refine SC_ret (fun tm σ hE hH => Post.intro (Hn := []) (.inr rfl) hE hH (by rfl) trivial List.nodup_nil (fun p hp => (by cases hp)) ?_)
      exact ⟨by rw [hp]; rfl, rfl⟩
theorem lplayers_fn {G : Gl} {xs : List ByteArray} {l : AV} (hsl : SlV 1 l (xs.map fun x => [AV.s (.string x)])) (hbig : xs.length ≤ 9223372036854775807) (ho : ∀ x, G.orc 22 [x] = none) (h25 : FnC Tryz.prog G 25 [l, .s (.int .i64 2), .s (.int .i64 12)] [] (fun v Hn => v = .s (.bool (namedB xs 2 12)) ∧ Hn = [])) :
    FnC Tryz.prog G 22 [l] [] (fun v Hn => v = .s (.bool (playersB xs)) ∧ Hn = []) := by
  have hsh : SlH [] 1 l (xs.map fun x => [AV.s (.string x)]) := .v hsl
  refine Fn_body (N := 17) (ho _) Tryz.func22 rfl rfl fun B => ?_
  repeat' (first
    | refine SC_seq ?_
    | refine SC_block ?_
    | refine SC_region ?_
    | refine SL_seq ?_
    | refine SL_assign (by decide) (by rfl) ?_
    | fail)
  refine SC_loop (fun k : Nat => [(0, l), (2, .s (.bool false)), (3, .s (.int .i64 k))]) (fun _ => []) (fun _ => []) (fun k => k ≤ xs.length ∧ ∀ i, (h : i < xs.length) → i < k → xs[i] ≠ ⟨#[98, 121, 101]⟩) (fun k => xs.length - k) 0 ⟨by omega, fun i _ h => by omega⟩ ⟨rfl, rfl, rfl, trivial⟩ trivial List.nodup_nil rfl ?_
  rintro k ⟨hk, hne⟩
  by_cases hlt : k < xs.length
  · by_cases he : xs[k] = ⟨#[98, 121, 101]⟩
    · have hm : memB xs byeS = true := memB_iff.2 (by unfold byeS; exact he ▸ List.getElem_mem hlt)
      have hp : playersB xs = false := by unfold playersB; rw [hm]; simp
      repeat' (first
        | (refine SL_seql (by decide) (by rfl) (by rfl) (fun hS => ?_) (fun hS => ?_) <;> first | (exact absurd (by assumption) hS) | (exact absurd hS (by assumption)) | skip)
        | refine SL_load_h (by decide) (by rfl) (by assumption) (fun p hp => hp) (rowF (by rfl)) (by first | exact strs_get _ hlt | exact strs_get _ hlt2) (by rfl) ?_
        | (refine SL_indexAddr_h (by decide) (by rfl) (by rfl) hsh (fun p hp => hp) (slF (by rfl)) _ (by first | rfl | exact (Int.toNat_of_nonneg (by omega)).symm) (by simp only [List.length_map]; omega) (fun pa hpa => ?_))
        | refine SL_len_h (by decide) (by rfl) hsh (by rfl) (slF (by rfl)) (strs_len0 _) ?_
        | refine SC_seq ?_
        | refine SC_block ?_
        | refine SC_region ?_
        | refine SL_seq ?_
        | refine SL_move (by decide) (by rfl) ?_
        | refine SL_assign (by decide) (by rfl) ?_
        | (refine SL_lss (by decide) (by rfl) (by rfl) (fun hT => ?_) (fun hT => ?_) <;> first | (exfalso; omega) | skip)
        | refine SC_cond_t (by rfl) ?_
        | (refine SC_skip' (fun tm σ hE hH => ?_); refine SC.app ?_ hE hH; clear hE hH; clear tm σ)
        | fail)
      refine SC_ret (fun tm σ hE hH => Post.intro (Hn := []) (.inr rfl) hE hH (by rfl) trivial List.nodup_nil (fun p hp => (by cases hp)) ?_)
      exact ⟨by rw [hp]; rfl, rfl⟩
    ·
      repeat' (first
        | (refine SL_seql (by decide) (by rfl) (by rfl) (fun hS => ?_) (fun hS => ?_) <;> first | (exact absurd (by assumption) hS) | (exact absurd hS (by assumption)) | skip)
        | refine SL_load_h (by decide) (by rfl) (by assumption) (fun p hp => hp) (rowF (by rfl)) (by first | exact strs_get _ hlt | exact strs_get _ hlt2) (by rfl) ?_
        | (refine SL_indexAddr_h (by decide) (by rfl) (by rfl) hsh (fun p hp => hp) (slF (by rfl)) _ (by first | rfl | exact (Int.toNat_of_nonneg (by omega)).symm) (by simp only [List.length_map]; omega) (fun pa hpa => ?_))
        | refine SL_len_h (by decide) (by rfl) hsh (by rfl) (slF (by rfl)) (strs_len0 _) ?_
        | refine SC_seq ?_
        | refine SC_block ?_
        | refine SC_region ?_
        | refine SL_seq ?_
        | refine SL_move (by decide) (by rfl) ?_
        | refine SL_assign (by decide) (by rfl) ?_
        | refine SL_add (by decide) (by rfl) (by rfl) (by omega) (by omega) ?_
        | (refine SL_lss (by decide) (by rfl) (by rfl) (fun hT => ?_) (fun hT => ?_) <;> first | (exfalso; omega) | skip)
        | refine SC_cond_t (by rfl) ?_
        | refine SC_cond_f (by rfl) ?_
        | (refine SC_skip' (fun tm σ hE hH => ?_); refine SC.app ?_ hE hH; clear hE hH; clear tm σ)
        | fail)
      refine SL_nil fun tm σ hE hH => ⟨k + 1, by omega, ⟨by omega, fun i hi1 hi2 => ?_⟩, tm, σ, rfl, hE.sub ⟨rfl, rfl, rfl, trivial⟩, hH.sub trivial List.nodup_nil⟩
      by_cases hij : i = k
      · subst hij; exact he
      · exact hne i hi1 (by omega)
  · obtain rfl : k = xs.length := by omega
    have hm : memB xs byeS = false := memB_f.2 fun h => by
      obtain ⟨i, h1, h2⟩ := List.mem_iff_getElem.1 h
      exact hne i h1 h1 h2
    have hp : playersB xs = namedB xs 2 12 := by unfold playersB; rw [hm]; simp
    repeat' (first
      | refine SL_len_h (by decide) (by rfl) hsh (by rfl) (slF (by rfl)) (strs_len0 _) ?_
      | (refine SL_call (by decide) (by rfl) bd25 (by rfl) (by rfl) (h25) trivial List.nodup_nil ?_; rintro _ _ _ ⟨rfl, rfl⟩; rw [List.nil_append])
      | refine SC_seq ?_
      | refine SC_region ?_
      | refine SL_seq ?_
      | refine SL_move (by decide) (by rfl) ?_
      | refine SL_assign (by decide) (by rfl) ?_
      | (refine SL_lss (by decide) (by rfl) (by rfl) (fun hT => ?_) (fun hT => ?_) <;> first | (exfalso; omega) | skip)
      | refine SC_cond_f (by rfl) ?_
      | (refine SC_exit (fun tm σ hE hH => ?_); refine SC.app ?_ hE hH; clear hE hH; clear tm σ)
      | fail)
    refine SC_ret (fun tm σ hE hH => Post.intro (Hn := []) (.inr rfl) hE hH (by rfl) trivial List.nodup_nil (fun p hp => (by cases hp)) ?_)
    exact ⟨by rw [hp]; rfl, rfl⟩
end Go.Proofs.YtnhnlkljcfbhfaaGreatDoor
/- The pieces of a split, joined, are the string again. -/
namespace Go.Lib
theorem splitK_ne (sep : List UInt8) (k : Nat) (s : List UInt8) : ∃ y ys, splitK sep 0 k s = y :: ys := by
  cases k with
  | zero => exact ⟨_, _, rfl⟩
  | succ k =>
    unfold splitK
    split
    · exact ⟨_, _, rfl⟩
    · exact ⟨_, _, rfl⟩
theorem joinTail_cons (sep y : List UInt8) (ys : List (List UInt8)) : joinTail sep (y :: ys) = sep ++ join (y :: ys) sep := by
  rw [join_cons]; simp [joinTail]
/-- The pieces of a split, joined, are the string again. -/
theorem join_splitK (sep : List UInt8) : ∀ (k : Nat) (s : List UInt8), join (splitK sep 0 k s) sep = s
  | 0, s => join_one s sep
  | k + 1, s => by
    unfold splitK
    split
    · exact join_one s sep
    · rename_i h
      rcases index_spec s sep with ⟨h1, _⟩ | ⟨i, h1, h2, h3, _⟩
      · rw [h1] at h; exact absurd rfl h
      · rw [h1, join_cons, Int.toNat_natCast, Nat.add_zero]
        obtain ⟨y, ys, hy⟩ := splitK_ne sep k (s.drop (i + sep.length))
        rw [hy, joinTail_cons, ← hy, join_splitK sep k]
        have h4 : sep <+: s.drop i := List.isPrefixOf_iff_prefix.1 h3
        obtain ⟨t, ht⟩ := h4
        have h5 : s.drop (i + sep.length) = t := by
          rw [← List.drop_drop, ← ht]; simp
        rw [h5, ht, List.take_append_drop]
#print axioms join_splitK
end Go.Lib
/- The plain law of pairings: which are right, and their lines. -/
namespace Go.Proofs.YtnhnlkljcfbhfaaGreatDoor
open Go Go.Ab
def midS : ByteArray := ⟨#[32, 45, 32]⟩
def endS : ByteArray := ⟨#[32, 45, 32, 98, 121, 101]⟩
/-- What holds of a player of a right pairing. -/
def OkAt (n : Nat) (op : List Int) (wh : List Bool) (i : Nat) : Prop :=
  (op.getD i 0 = -1 ∧ wh.getD i false = false) ∨ (0 ≤ op.getD i 0 ∧ op.getD i 0 < n ∧ op.getD i 0 ≠ i ∧ op.getD (op.getD i 0).toNat 0 = i ∧ wh.getD i false ≠ wh.getD (op.getD i 0).toNat false)
instance (n : Nat) (op : List Int) (wh : List Bool) (i : Nat) : Decidable (OkAt n op wh i) := by unfold OkAt; infer_instance
def outAt (xs : List ByteArray) (op : List Int) (wh : List Bool) (i : Nat) : List ByteArray := if op.getD i 0 ≠ -1 ∧ wh.getD i false = true then [xs.getD i ⟨#[]⟩ ++ midS ++ xs.getD (op.getD i 0).toNat ⟨#[]⟩] else []
def byeAt (xs : List ByteArray) (op : List Int) (i : Nat) : List ByteArray := if op.getD i 0 = -1 then [xs.getD i ⟨#[]⟩] else []
def outsN (xs : List ByteArray) (op : List Int) (wh : List Bool) : Nat → List ByteArray
  | 0 => []
  | k + 1 => outsN xs op wh k ++ outAt xs op wh k
def byesN (xs : List ByteArray) (op : List Int) : Nat → List ByteArray
  | 0 => []
  | k + 1 => byesN xs op k ++ byeAt xs op k
/-- A pairing that is right. -/
structure Right (xs : List ByteArray) (op : List Int) (wh : List Bool) : Prop where
  lo : op.length = xs.length
  lw : wh.length = xs.length
  ok : ∀ i, i < xs.length → OkAt xs.length op wh i
  one : (byesN xs op xs.length).length ≤ 1
def linesP (xs : List ByteArray) (op : List Int) (wh : List Bool) : List ByteArray := outsN xs op wh xs.length ++ (byesN xs op xs.length).map (· ++ endS)
theorem bye_step {xs : List ByteArray} {op : List Int} {k : Nat} : byesN xs op (k + 1) = byesN xs op k ++ byeAt xs op k := rfl
theorem out_step {xs : List ByteArray} {op : List Int} {wh : List Bool} {k : Nat} : outsN xs op wh (k + 1) = outsN xs op wh k ++ outAt xs op wh k := rfl
theorem byesN_le (xs : List ByteArray) (op : List Int) {i k : Nat} (h : i ≤ k) : (byesN xs op i).length ≤ (byesN xs op k).length := by
  induction k with
  | zero =>
    obtain rfl : i = 0 := by omega
    exact Nat.le_refl _
  | succ k ih =>
    by_cases e : i = k + 1
    · subst e; exact Nat.le_refl _
    · have := ih (by omega)
      rw [bye_step, List.length_append]
      omega
theorem outsN_le (xs : List ByteArray) (op : List Int) (wh : List Bool) : ∀ k, (outsN xs op wh k).length ≤ k
  | 0 => Nat.le_refl 0
  | k + 1 => by
    unfold outsN
    rw [List.length_append]
    have := outsN_le xs op wh k
    have h2 : (outAt xs op wh k).length ≤ 1 := by unfold outAt; split <;> simp
    omega
theorem byesN_lek (xs : List ByteArray) (op : List Int) : ∀ k, (byesN xs op k).length ≤ k
  | 0 => Nat.le_refl 0
  | k + 1 => by
    unfold byesN
    rw [List.length_append]
    have := byesN_lek xs op k
    have h2 : (byeAt xs op k).length ≤ 1 := by unfold byeAt; split <;> simp
    omega
theorem outsN_mem {xs : List ByteArray} {op : List Int} {wh : List Bool} : ∀ {n i : Nat}, i < n → ∀ {y}, y ∈ outAt xs op wh i → y ∈ outsN xs op wh n
  | 0, i, h, y, _ => by omega
  | n + 1, i, h, y, hy => by
    unfold outsN
    rw [List.mem_append]
    by_cases e : i = n
    · subst e; exact .inr hy
    · exact .inl (outsN_mem (by omega) hy)
theorem byesN_all {xs : List ByteArray} {op : List Int} : ∀ n, (∀ i, i < n → op.getD i 0 = -1) → (byesN xs op n).length = n
  | 0, _ => rfl
  | n + 1, h => by
    unfold byesN byeAt
    rw [if_pos (h n (by omega)), List.length_append, byesN_all n (fun i hi => h i (by omega))]
    rfl
/-- A right pairing of two players or more has a line. -/
theorem Right.some {xs : List ByteArray} {op : List Int} {wh : List Bool} (h : Right xs op wh) (h2 : 2 ≤ xs.length) : outsN xs op wh xs.length ≠ [] := by
  intro he
  have hall : ∀ i, i < xs.length → op.getD i 0 = -1 := fun i hi => by
    apply Classical.byContradiction
    intro hne
    rcases h.ok i hi with ⟨h1, _⟩ | ⟨h1, h3, h4, h5, h6⟩
    · exact hne h1
    · cases hw : wh.getD i false with
      | true =>
        have : xs.getD i ⟨#[]⟩ ++ midS ++ xs.getD (op.getD i 0).toNat ⟨#[]⟩ ∈ outsN xs op wh xs.length := outsN_mem hi (by unfold outAt; rw [if_pos ⟨hne, hw⟩]; exact List.mem_singleton.2 rfl)
        rw [he] at this
        cases this
      | false =>
        have hw2 : wh.getD (op.getD i 0).toNat false = true := by
          cases h7 : wh.getD (op.getD i 0).toNat false with
          | true => rfl
          | false => rw [hw, h7] at h6; exact absurd rfl h6
        have hk : (op.getD i 0).toNat < xs.length := by omega
        have : xs.getD (op.getD i 0).toNat ⟨#[]⟩ ++ midS ++ xs.getD (op.getD (op.getD i 0).toNat 0).toNat ⟨#[]⟩ ∈ outsN xs op wh xs.length := outsN_mem hk (by unfold outAt; rw [if_pos ⟨by rw [h5]; omega, hw2⟩]; exact List.mem_singleton.2 rfl)
        rw [he] at this
        cases this
  have := h.one
  rw [byesN_all _ hall] at this
  omega
theorem linesP_len (xs : List ByteArray) (op : List Int) (wh : List Bool) : (linesP xs op wh).length ≤ 2 * xs.length := by
  unfold linesP
  rw [List.length_append, List.length_map]
  have h1 := outsN_le xs op wh xs.length
  have h2 := byesN_lek xs op xs.length
  omega
/-- Three words joined. -/
theorem join3 (a b : ByteArray) : (⟨(Lib.join ([a, ⟨#[45]⟩, b].map (·.data.toList)) [32]).toArray⟩ : ByteArray) = a ++ midS ++ b := by
  apply ByteArray.ext
  apply Array.ext'
  simp [Lib.join, Lib.joinTail, midS]
theorem join3b (a : ByteArray) : (⟨(Lib.join ([a, ⟨#[45]⟩, ⟨#[98, 121, 101]⟩].map (·.data.toList)) [32]).toArray⟩ : ByteArray) = a ++ endS := by
  apply ByteArray.ext
  apply Array.ext'
  simp [Lib.join, Lib.joinTail, endS]
end Go.Proofs.YtnhnlkljcfbhfaaGreatDoor
/- Points and values as texts: the law's own, and the program's. -/
namespace Go.Ab
section rules
variable {P : Program} {G : Gl} {B : AS} {W : List Nat} {ops : Array Oper} {os : List Oper} {L : List (Nat × AV)} {N : Nat} {ds : List Nat} {H : List (Nat × AObj)} {Q : Cfg → Prop} {ty : TypeId} {pos : String} {af : Array Edge} {d : Nat}
theorem SL_remV {t yt : TypeId} {x y : Operand} {a b : Int} (r : Int) (hd : d < N) (hx : evL G L x = some (.s (.int .i64 a))) (hy : evL G L y = some (.s (.int .i64 b))) (h0 : 0 ≤ a) (hb : 1 ≤ b) (hr : a % b = r) (k : SL P G B W ops os ((d, .s (.int .i64 r)) :: L) N ds H Q) :
    SL P G B W ops (⟨some d, .binOp .rem t x y yt, ty, pos, af, none⟩ :: os) L N ds H Q := SL_rem hd hx hy h0 hb (hr ▸ k)
/-- Two pairs of numbers are compared: one with nought. -/
theorem SL_ceql {t yt : TypeId} {x y : Operand} {a b : Int} (hd : d < N) (hx : evL G L x = some (.s (.agg #[.int .i64 a, .int .i64 b]))) (hy : evL G L y = some (.s (.agg #[.int .i64 0, .int .i64 0])))
    (hc : ∀ (x y : Operand) (a b : Int), evalP P (do eqGuard .eql t x y (.agg #[.int .i64 a, .int .i64 b]) (.agg #[.int .i64 0, .int .i64 0]); binOp .eql t (.agg #[.int .i64 a, .int .i64 b]) (.agg #[.int .i64 0, .int .i64 0])) = some (.bool (decide (a = 0 ∧ b = 0))))
    (ht : a = 0 → b = 0 → SL P G B W ops os ((d, .s (.bool true)) :: L) N ds H Q) (hf : ¬ (a = 0 ∧ b = 0) → SL P G B W ops os ((d, .s (.bool false)) :: L) N ds H Q) : SL P G B W ops (⟨some d, .binOp .eql t x y yt, ty, pos, af, none⟩ :: os) L N ds H Q := by
  by_cases h : a = 0 ∧ b = 0
  · refine SL_bin hd hx hy rfl (hc x y a b) ?_
    rw [decide_eq_true h]; exact ht h.1 h.2
  · refine SL_bin hd hx hy rfl (hc x y a b) ?_
    rw [decide_eq_false h]; exact hf h
end rules
end Go.Ab
namespace Go.Proofs.YtnhnlkljcfbhfaaGreatDoor
open Go Go.Ab
theorem bd40 : (Tryz.prog.funcs[40]?).map (·.body.isNone) = some false := by rw [Tryz.func40]; rfl
theorem bd16 : (Tryz.prog.funcs[16]?).map (·.body.isNone) = some false := by rw [Tryz.func16]; rfl
theorem bd17 : (Tryz.prog.funcs[17]?).map (·.body.isNone) = some false := by rw [Tryz.func17]; rfl
theorem bd14 : (Tryz.prog.funcs[14]?).map (·.body.isNone) = some false := by rw [Tryz.func14]; rfl
theorem bd15 : (Tryz.prog.funcs[15]?).map (·.body.isNone) = some false := by rw [Tryz.func15]; rfl
set_option maxRecDepth 100000
theorem ceq40_1 (x y : Operand) (n : Nat) (b : Int) : evalP Tryz.prog (do eqGuard .eql 40 x y (.agg #[.int .i64 (.ofNat (n + 1)), .int .i64 b]) (.agg #[.int .i64 0, .int .i64 0]); binOp .eql 40 (.agg #[.int .i64 (.ofNat (n + 1)), .int .i64 b]) (.agg #[.int .i64 0, .int .i64 0])) = some (.bool false) := by kernel_rfl
theorem ceq40_2 (x y : Operand) (n : Nat) (b : Int) : evalP Tryz.prog (do eqGuard .eql 40 x y (.agg #[.int .i64 (.negSucc n), .int .i64 b]) (.agg #[.int .i64 0, .int .i64 0]); binOp .eql 40 (.agg #[.int .i64 (.negSucc n), .int .i64 b]) (.agg #[.int .i64 0, .int .i64 0])) = some (.bool false) := by kernel_rfl
theorem ceq40_3 (x y : Operand) (n : Nat) : evalP Tryz.prog (do eqGuard .eql 40 x y (.agg #[.int .i64 0, .int .i64 (.ofNat (n + 1))]) (.agg #[.int .i64 0, .int .i64 0]); binOp .eql 40 (.agg #[.int .i64 0, .int .i64 (.ofNat (n + 1))]) (.agg #[.int .i64 0, .int .i64 0])) = some (.bool false) := by kernel_rfl
theorem ceq40_4 (x y : Operand) (n : Nat) : evalP Tryz.prog (do eqGuard .eql 40 x y (.agg #[.int .i64 0, .int .i64 (.negSucc n)]) (.agg #[.int .i64 0, .int .i64 0]); binOp .eql 40 (.agg #[.int .i64 0, .int .i64 (.negSucc n)]) (.agg #[.int .i64 0, .int .i64 0])) = some (.bool false) := by kernel_rfl
theorem ceq40_f (x y : Operand) : ∀ (a b : Int), ¬ (a = 0 ∧ b = 0) → evalP Tryz.prog (do eqGuard .eql 40 x y (.agg #[.int .i64 a, .int .i64 b]) (.agg #[.int .i64 0, .int .i64 0]); binOp .eql 40 (.agg #[.int .i64 a, .int .i64 b]) (.agg #[.int .i64 0, .int .i64 0])) = some (.bool false)
  | .ofNat (n + 1), b, _ => ceq40_1 x y n b
  | .negSucc n, b, _ => ceq40_2 x y n b
  | .ofNat 0, .ofNat (n + 1), _ => ceq40_3 x y n
  | .ofNat 0, .negSucc n, _ => ceq40_4 x y n
  | .ofNat 0, .ofNat 0, h => absurd ⟨rfl, rfl⟩ h
theorem ceq40 (x y : Operand) (a b : Int) : evalP Tryz.prog (do eqGuard .eql 40 x y (.agg #[.int .i64 a, .int .i64 b]) (.agg #[.int .i64 0, .int .i64 0]); binOp .eql 40 (.agg #[.int .i64 a, .int .i64 b]) (.agg #[.int .i64 0, .int .i64 0])) = some (.bool (decide (a = 0 ∧ b = 0))) := by
  by_cases h : a = 0 ∧ b = 0
  · obtain ⟨rfl, rfl⟩ := h
    kernel_rfl
  · rw [decide_eq_false h]
    exact ceq40_f x y a b h
def dotS (k : Int) : ByteArray := if k = 0 then ⟨#[46, 48]⟩ else ⟨#[46, 53]⟩
/-- The text of points. -/
def pts (n : Int) : Option ByteArray := if n < 0 ∨ 2000 < n then none else some (decI (n / 2) ++ dotS (n % 2))
/-- The text of a value. -/
def valS (r p : Int) : Option ByteArray :=
  if r = 0 ∧ p = 0 then some ⟨#[100, 114, 97, 119]⟩
  else if p < 0 ∨ 10000 < p then none
  else if r = 1 ∧ 1 ≤ p then some (⟨#[119, 105, 110, 32, 105, 110, 32]⟩ ++ decI p)
  else if r = -1 then some (⟨#[108, 111, 115, 115, 32, 105, 110, 32]⟩ ++ decI p)
  else none
attribute [local irreducible] SC SL wpc wpl wpd wpf wpy wpn FnC FnW RdW SD
set_option pp.deepTerms false
set_option pp.maxSteps 900
set_option maxHeartbeats 2000000
theorem points_t {G : Gl} (ho : ∀ f a, G.orc f [a] = none ∨ f ≠ 67 ∧ f ≠ 28 ∧ f ≠ 16) (n : Int) (s : ByteArray) (h : pts n = some s) : FnC Tryz.prog G 16 [.s (.int .i64 n)] [] (fun v Hn => v = .s (.tuple #[.string s, .bool true]) ∧ Hn = []) := by
  have h16 : ∀ a, G.orc 16 [a] = none := fun a => (ho 16 a).resolve_right (fun h => h.2.2 rfl)
  replace ho : ∀ f a, G.orc f [a] = none ∨ f ≠ 67 ∧ f ≠ 28 := fun f a => (ho f a).imp_right fun h => ⟨h.1, h.2.1⟩
  unfold pts at h
  split at h
  · cases h
  · rename_i hr
    cases h
    rcases Int.emod_two_eq n with hm | hm
    · refine Fn_body (N := 21) (h16 _) Tryz.func16 rfl rfl fun B => ?_
      repeat' (first
        | (refine SL_call (by decide) (by rfl) bd28 (by rfl) (by rfl) (decimal_fn ho _ (by omega) (by omega)) trivial List.nodup_nil ?_; rintro _ _ _ ⟨rfl, rfl⟩; rw [List.nil_append])
        | refine SL_cat (by decide) (by rfl) (by rfl) (catOk (by first | exact decI_le _ | exact Nat.le_of_ble_eq_true (by rfl)) (by first | exact decI_le _ | exact Nat.le_of_ble_eq_true (by rfl))) ?_
        | refine SL_quo (by decide) (by rfl) (by rfl) (by omega) (by omega) (by decide) ?_
        | refine SL_remV (r := 0) (by decide) (by rfl) (by rfl) (by omega) (by decide) (by omega) ?_
        | refine SC_seq ?_
        | refine SC_region ?_
        | refine SL_seq ?_
        | refine SL_run (by rfl) (by rfl) ?_
        | refine SL_move (by decide) (by rfl) ?_
        | refine SL_assign (by decide) (by rfl) ?_
        | refine SL_pick_f (by decide) (by rfl) (by rfl) ?_
        | (refine SL_lss (by decide) (by rfl) (by rfl) (fun hT => ?_) (fun hT => ?_) <;> first | (exfalso; omega) | skip)
        | (refine SL_gtr (by decide) (by rfl) (by rfl) (fun hT => ?_) (fun hT => ?_) <;> first | (exfalso; omega) | skip)
        | (refine SL_eql (by decide) (by rfl) (by rfl) (fun hT => ?_) (fun hT => ?_) <;> first | (exfalso; omega) | skip)
        | refine SC_cond_t (by rfl) ?_
        | refine SC_cond_f (by rfl) ?_
        | (refine SC_skip' (fun tm σ hE hH => ?_); refine SC.app ?_ hE hH; clear hE hH; clear tm σ)
        | refine SC_ret (fun tm σ hE hH => Post.intro (Hn := []) (.inr rfl) hE hH (by rfl) trivial List.nodup_nil (fun p hp => (by cases hp)) ?_)
        | fail)
      exact ⟨by rw [hm]; rfl, rfl⟩
    · refine Fn_body (N := 21) (h16 _) Tryz.func16 rfl rfl fun B => ?_
      repeat' (first
        | (refine SL_call (by decide) (by rfl) bd28 (by rfl) (by rfl) (decimal_fn ho _ (by omega) (by omega)) trivial List.nodup_nil ?_; rintro _ _ _ ⟨rfl, rfl⟩; rw [List.nil_append])
        | refine SL_cat (by decide) (by rfl) (by rfl) (catOk (by first | exact decI_le _ | exact Nat.le_of_ble_eq_true (by rfl)) (by first | exact decI_le _ | exact Nat.le_of_ble_eq_true (by rfl))) ?_
        | refine SL_quo (by decide) (by rfl) (by rfl) (by omega) (by omega) (by decide) ?_
        | refine SL_remV (r := 1) (by decide) (by rfl) (by rfl) (by omega) (by decide) (by omega) ?_
        | refine SC_seq ?_
        | refine SC_region ?_
        | refine SL_seq ?_
        | refine SL_run (by rfl) (by rfl) ?_
        | refine SL_move (by decide) (by rfl) ?_
        | refine SL_assign (by decide) (by rfl) ?_
        | refine SL_pick_f (by decide) (by rfl) (by rfl) ?_
        | (refine SL_lss (by decide) (by rfl) (by rfl) (fun hT => ?_) (fun hT => ?_) <;> first | (exfalso; omega) | skip)
        | (refine SL_gtr (by decide) (by rfl) (by rfl) (fun hT => ?_) (fun hT => ?_) <;> first | (exfalso; omega) | skip)
        | (refine SL_eql (by decide) (by rfl) (by rfl) (fun hT => ?_) (fun hT => ?_) <;> first | (exfalso; omega) | skip)
        | refine SC_cond_f (by rfl) ?_
        | (refine SC_skip' (fun tm σ hE hH => ?_); refine SC.app ?_ hE hH; clear hE hH; clear tm σ)
        | refine SC_ret (fun tm σ hE hH => Post.intro (Hn := []) (.inr rfl) hE hH (by rfl) trivial List.nodup_nil (fun p hp => (by cases hp)) ?_)
        | fail)
      exact ⟨by rw [hm]; rfl, rfl⟩
theorem points_f {G : Gl} (ho : ∀ f a, G.orc f [a] = none ∨ f ≠ 67 ∧ f ≠ 28 ∧ f ≠ 16) (n : Int) (h : pts n = none) : FnC Tryz.prog G 16 [.s (.int .i64 n)] [] (fun v Hn => v = .s (.tuple #[.string ⟨#[]⟩, .bool false]) ∧ Hn = []) := by
  have h16 : ∀ a, G.orc 16 [a] = none := fun a => (ho 16 a).resolve_right (fun h => h.2.2 rfl)
  replace ho : ∀ f a, G.orc f [a] = none ∨ f ≠ 67 ∧ f ≠ 28 := fun f a => (ho f a).imp_right fun h => ⟨h.1, h.2.1⟩
  unfold pts at h
  split at h
  · rename_i hr
    rcases hr with hr | hr
    · refine Fn_body (N := 21) (h16 _) Tryz.func16 rfl rfl fun B => ?_
      repeat' (first
        | refine SC_seq ?_
        | refine SC_region ?_
        | refine SL_seq ?_
        | refine SL_not (by rfl) (by rfl) (by rfl) (by decide) ?_
        | refine SL_move (by decide) (by rfl) ?_
        | refine SL_assign (by decide) (by rfl) ?_
        | refine SL_pick_t (by decide) (by rfl) (by rfl) ?_
        | (refine SL_lss (by decide) (by rfl) (by rfl) (fun hT => ?_) (fun hT => ?_) <;> first | (exfalso; omega) | skip)
        | refine SC_cond_t (by rfl) ?_
        | refine SC_ret (fun tm σ hE hH => Post.intro (Hn := []) (.inr rfl) hE hH (by rfl) trivial List.nodup_nil (fun p hp => (by cases hp)) ?_)
        | fail)
      exact ⟨rfl, rfl⟩
    · refine Fn_body (N := 21) (h16 _) Tryz.func16 rfl rfl fun B => ?_
      repeat' (first
        | refine SC_seq ?_
        | refine SC_region ?_
        | refine SL_seq ?_
        | refine SL_run (by rfl) (by rfl) ?_
        | refine SL_move (by decide) (by rfl) ?_
        | refine SL_assign (by decide) (by rfl) ?_
        | refine SL_pick_f (by decide) (by rfl) (by rfl) ?_
        | (refine SL_lss (by decide) (by rfl) (by rfl) (fun hT => ?_) (fun hT => ?_) <;> first | (exfalso; omega) | skip)
        | (refine SL_gtr (by decide) (by rfl) (by rfl) (fun hT => ?_) (fun hT => ?_) <;> first | (exfalso; omega) | skip)
        | refine SC_cond_t (by rfl) ?_
        | refine SC_ret (fun tm σ hE hH => Post.intro (Hn := []) (.inr rfl) hE hH (by rfl) trivial List.nodup_nil (fun p hp => (by cases hp)) ?_)
        | fail)
      exact ⟨rfl, rfl⟩
  · cases h
end Go.Proofs.YtnhnlkljcfbhfaaGreatDoor
/- Points and Value of the program, and the law's own value. -/
namespace Go.Proofs.YtnhnlkljcfbhfaaGreatDoor
open Go Go.Ab
set_option maxRecDepth 100000
attribute [local irreducible] SC SL wpc wpl wpd wpf wpy wpn FnC FnW RdW SD
set_option pp.deepTerms false
set_option pp.maxSteps 900
set_option maxHeartbeats 2000000
theorem b92 : effBuild Tryz.prog 92 [(0, .s (.string ⟨#[46, 48]⟩)), (1, .s (.string ⟨#[46, 53]⟩))] = some (.s (.agg #[.string ⟨#[46, 48]⟩, .string ⟨#[46, 53]⟩])) := by kernel_rfl
theorem b40 : effBuild Tryz.prog 40 [] = some (.s (.agg #[.int .i64 0, .int .i64 0])) := by kernel_rfl
theorem ix92_0 (ty : TypeId) (pos : String) (af : Array Edge) : effPure Tryz.prog ⟨some 16, .index 92 (.tmp 13) (.tmp 15), ty, pos, af, none⟩ (evC [(13, .s (.agg #[.string ⟨#[46, 48]⟩, .string ⟨#[46, 53]⟩])), (15, .s (.int .i64 0))]) = some (.s (.string ⟨#[46, 48]⟩)) := by kernel_rfl
theorem ix92_1 (ty : TypeId) (pos : String) (af : Array Edge) : effPure Tryz.prog ⟨some 16, .index 92 (.tmp 13) (.tmp 15), ty, pos, af, none⟩ (evC [(13, .s (.agg #[.string ⟨#[46, 48]⟩, .string ⟨#[46, 53]⟩])), (15, .s (.int .i64 1))]) = some (.s (.string ⟨#[46, 53]⟩)) := by kernel_rfl
theorem cells_2 (a b : Value) : cellsOf (.s (.agg #[a, b])) = [.s a, .s b] := rfl
theorem mk2 (a b : Value) : mkAgg ((List.drop 0 [AV.s a, AV.s b]).take 2) = .s (.agg #[a, b]) := rfl
def Dec (G : Gl) (f : FuncId) : Prop := ∀ n : Int, 0 ≤ n → n ≤ 10000 → FnC Tryz.prog G f [.s (.int .i64 n)] [] (fun v Hn => v = .s (.string (decI n)) ∧ Hn = [])
abbrev vv (r p : Int) : AV := .s (.agg #[.int .i64 r, .int .i64 p])
theorem value_t {G : Gl} (ho : ∀ a, G.orc 17 [a] = none) (h28 : Dec G 28) (r p : Int) (s : ByteArray) (h : valS r p = some s) : FnC Tryz.prog G 17 [vv r p] [] (fun v Hn => v = .s (.tuple #[.string s, .bool true]) ∧ Hn = []) := by
  unfold Dec at h28
  unfold valS at h
  split at h
  · rename_i h1
    cases h
    refine Fn_body (N := 34) (ho _) Tryz.func17 rfl rfl fun B => ?_
    repeat' (first
      | (refine SL_box (by decide) (by rfl) (by first | exact cells_2 _ _ | rfl) (fun b1 hid => ?_))
      | (refine SL_ceql (a := r) (b := p) (by decide) (by rfl) (by rfl) ceq40 (fun hr hp => ?_) (fun hrp => ?_) <;> first | (exfalso; omega) | skip)
      | refine SL_load_or (by decide) (by rfl) (by repeat (first | exact .head _ | refine .tail _ ?_)) (rowF (by rfl)) (by rfl) (Nat.le_of_ble_eq_true (by rfl)) (mk2 _ _) ?_
      | refine SL_build (by decide) (by rfl) b40 ?_
      | refine SC_seq ?_
      | refine SC_region ?_
      | refine SL_seq ?_
      | refine SL_assign (by decide) (by rfl) ?_
      | refine SC_cond_t (by rfl) ?_
      | refine SC_ret (fun tm σ hE hH => Post.intro (Hn := []) (.inr rfl) hE hH (by rfl) trivial List.nodup_nil (fun p hp => (by cases hp)) ?_)
      | fail)
    exact ⟨rfl, rfl⟩
  · split at h
    · cases h
    · split at h
      · rename_i h1 h2 h3
        cases h
        refine Fn_body (N := 34) (ho _) Tryz.func17 rfl rfl fun B => ?_
        repeat' (first
          | (refine SL_box (by decide) (by rfl) (by first | exact cells_2 _ _ | rfl) (fun b1 hid => ?_))
          | (refine SL_call (by decide) (by rfl) bd28 (by rfl) (by rfl) (h28 _ (by omega) (by omega)) trivial List.nodup_nil ?_; rintro _ _ _ ⟨rfl, rfl⟩; rw [List.nil_append])
          | (refine SL_ceql (a := r) (b := p) (by decide) (by rfl) (by rfl) ceq40 (fun hr hp => ?_) (fun hrp => ?_) <;> first | (exfalso; omega) | skip)
          | refine SL_load_or (by decide) (by rfl) (by repeat (first | exact .head _ | refine .tail _ ?_)) (rowF (by rfl)) (by rfl) (Nat.le_of_ble_eq_true (by rfl)) (mk2 _ _) ?_
          | refine SL_build (by decide) (by rfl) b40 ?_
          | refine SL_cat (by decide) (by rfl) (by rfl) (catOk (by first | exact decI_le _ | exact Nat.le_of_ble_eq_true (by rfl)) (by first | exact decI_le _ | exact Nat.le_of_ble_eq_true (by rfl))) ?_
          | refine SC_seq ?_
          | refine SC_region ?_
          | refine SL_seq ?_
          | refine SL_run (by rfl) (by rfl) ?_
          | refine SL_move (by decide) (by rfl) ?_
          | refine SL_assign (by decide) (by rfl) ?_
          | refine SL_pick_t (by decide) (by rfl) (by rfl) ?_
          | refine SL_pick_f (by decide) (by rfl) (by rfl) ?_
          | (refine SL_lss (by decide) (by rfl) (by rfl) (fun hT => ?_) (fun hT => ?_) <;> first | (exfalso; omega) | skip)
          | (refine SL_gtr (by decide) (by rfl) (by rfl) (fun hT => ?_) (fun hT => ?_) <;> first | (exfalso; omega) | skip)
          | (refine SL_geq (by decide) (by rfl) (by rfl) (fun hT => ?_) (fun hT => ?_) <;> first | (exfalso; omega) | skip)
          | (refine SL_eql (by decide) (by rfl) (by rfl) (fun hT => ?_) (fun hT => ?_) <;> first | (exfalso; omega) | skip)
          | refine SL_fieldAddr (by decide) (by rfl) (fldF (by rfl)) ?_
          | refine SL_load_o (by decide) (by rfl) (by repeat (first | exact .head _ | refine .tail _ ?_)) (rowF (by rfl)) (by first | assumption | rfl) (by rfl) ?_
          | refine SC_cond_t (by rfl) ?_
          | refine SC_cond_f (by rfl) ?_
          | (refine SC_skip' (fun tm σ hE hH => ?_); refine SC.app ?_ hE hH; clear hE hH; clear tm σ)
          | refine SC_ret (fun tm σ hE hH => Post.intro (Hn := []) (.inr rfl) hE hH (by rfl) trivial List.nodup_nil (fun p hp => (by cases hp)) ?_)
          | fail)
        exact ⟨rfl, rfl⟩
      · split at h
        · rename_i h1 h2 h3 h4
          cases h
          refine Fn_body (N := 34) (ho _) Tryz.func17 rfl rfl fun B => ?_
          repeat' (first
            | (refine SL_box (by decide) (by rfl) (by first | exact cells_2 _ _ | rfl) (fun b1 hid => ?_))
            | (refine SD_nil (fun tm σ hE hH => ⟨_, _, _, _, _, rfl, hE, hH, fun q hq => (by cases hq), ?_⟩); clear hE hH; clear tm σ; intro tm σ hE hH; refine SC.app ?_ hE hH; clear hE hH; clear tm σ)
            | (refine SL_call (by decide) (by rfl) bd28 (by rfl) (by rfl) (h28 _ (by omega) (by omega)) trivial List.nodup_nil ?_; rintro _ _ _ ⟨rfl, rfl⟩; rw [List.nil_append])
            | (refine SL_ceql (a := r) (b := p) (by decide) (by rfl) (by rfl) ceq40 (fun hr hp => ?_) (fun hrp => ?_) <;> first | (exfalso; omega) | skip)
            | refine SL_load_or (by decide) (by rfl) (by repeat (first | exact .head _ | refine .tail _ ?_)) (rowF (by rfl)) (by rfl) (Nat.le_of_ble_eq_true (by rfl)) (mk2 _ _) ?_
            | refine SL_build (by decide) (by rfl) b40 ?_
            | refine SL_cat (by decide) (by rfl) (by rfl) (catOk (by first | exact decI_le _ | exact Nat.le_of_ble_eq_true (by rfl)) (by first | exact decI_le _ | exact Nat.le_of_ble_eq_true (by rfl))) ?_
            | refine SD_op (i := 8) [] [(5, b1)] (by rfl) (by rfl) (fun _ h => h) (fun p hp => by rw [List.mem_singleton] at hp; subst hp; simp) (fun k hk => by cases hk) (.inl rfl) ?_
            | refine SD_op (i := 7) [] [(5, b1)] (by rfl) (by rfl) (fun _ h => h) (fun p hp => by rw [List.mem_singleton] at hp; subst hp; simp) (fun k hk => by cases hk) (.inl rfl) ?_
            | refine SD_op (i := 3) [] [(5, b1)] (by rfl) (by rfl) (fun _ h => h) (fun p hp => by rw [List.mem_singleton] at hp; subst hp; simp) (fun k hk => by cases hk) (.inl rfl) ?_
            | refine SD_op (i := 2) [] [(5, b1)] (by rfl) (by rfl) (fun _ h => h) (fun p hp => by rw [List.mem_singleton] at hp; subst hp; simp) (fun k hk => ⟨b1, by rw [List.mem_singleton] at hk; subst hk; exact List.mem_singleton.2 rfl, List.not_mem_nil, hb1lt'⟩) (.inl rfl) ?_
            | refine SD_op (i := 6) [] [(5, b1)] (by rfl) (by rfl) (fun _ h => h) (fun p hp => by rw [List.mem_singleton] at hp; subst hp; simp) (fun k hk => by cases hk) (.inl rfl) ?_
            | refine SD_op (i := 5) [] [(5, b1)] (by rfl) (by rfl) (fun _ h => h) (fun p hp => by cases hp) (fun k hk => by cases hk) (.inr ⟨_, _, b1, rfl, rfl, rfl, List.not_mem_nil, hb1lt', rfl⟩) ?_
            | (refine SC_drawn (id := 7) (pl := [(0, []), (1, []), (4, []), (5, []), (6, []), (2, [5]), (3, []), (7, []), (8, [])]) (by kernel_rfl) (by kernel_rfl) ?_; intro B' base hb1 hb2 hb3 hb4; have hb1lt := hb4 (b1, _) (List.mem_singleton.2 rfl); have hb1lt' : b1 < B'.next := (by dsimp only at hb1lt; omega))
            | refine SC_seq ?_
            | refine SC_region ?_
            | refine SL_seq ?_
            | refine SL_run (by rfl) (by rfl) ?_
            | refine SL_not (by rfl) (by rfl) (by rfl) (by decide) ?_
            | refine SL_move (by decide) (by rfl) ?_
            | refine SL_assign (by decide) (by rfl) ?_
            | refine SL_pick_f (by decide) (by rfl) (by rfl) ?_
            | (refine SL_lss (by decide) (by rfl) (by rfl) (fun hT => ?_) (fun hT => ?_) <;> first | (exfalso; omega) | skip)
            | (refine SL_gtr (by decide) (by rfl) (by rfl) (fun hT => ?_) (fun hT => ?_) <;> first | (exfalso; omega) | skip)
            | (refine SL_eql (by decide) (by rfl) (by rfl) (fun hT => ?_) (fun hT => ?_) <;> first | (exfalso; omega) | skip)
            | refine SL_fieldAddr (by decide) (by rfl) (fldF (by rfl)) ?_
            | refine SL_load_o (by decide) (by rfl) (by repeat (first | exact .head _ | refine .tail _ ?_)) (rowF (by rfl)) (by first | assumption | rfl) (by rfl) ?_
            | refine SC_cond_f (by rfl) ?_
            | (refine SC_skip' (fun tm σ hE hH => ?_); refine SC.app ?_ hE hH; clear hE hH; clear tm σ)
            | refine SC_ret (fun tm σ hE hH => Post.intro (Hn := []) (.inr rfl) hE hH (by rfl) trivial List.nodup_nil (fun p hp => (by cases hp)) ?_)
            | (refine SL_nil (fun tm σ hE hH => ⟨_, _, _, _, rfl, hE, hH, ?_⟩); clear hE hH; clear tm σ)
            | refine SD_op _ [] (by rfl) (by rfl) (fun _ h => h) (fun p hp => by cases hp) (fun k hk => by cases hk) (.inl rfl) ?_
            | fail)
          exact ⟨rfl, rfl⟩
        · cases h
theorem value_f {G : Gl} (ho : ∀ a, G.orc 17 [a] = none) (h28 : Dec G 28) (r p : Int) (h : valS r p = none) : FnC Tryz.prog G 17 [vv r p] [] (fun v Hn => (∃ x, v = .s (.tuple #[.string x, .bool false])) ∧ Hn = []) := by
  unfold Dec at h28
  unfold valS at h
  split at h
  · cases h
  · split at h
    · rename_i h1 h2
      refine Fn_body (N := 34) (ho _) Tryz.func17 rfl rfl fun B => ?_
      rcases h2 with h2 | h2
      ·
        repeat' (first
          | (refine SL_box (by decide) (by rfl) (by first | exact cells_2 _ _ | rfl) (fun b1 hid => ?_))
          | (refine SL_ceql (a := r) (b := p) (by decide) (by rfl) (by rfl) ceq40 (fun hr hp => ?_) (fun hrp => ?_) <;> first | (exfalso; omega) | skip)
          | refine SL_load_or (by decide) (by rfl) (by repeat (first | exact .head _ | refine .tail _ ?_)) (rowF (by rfl)) (by rfl) (Nat.le_of_ble_eq_true (by rfl)) (mk2 _ _) ?_
          | refine SL_build (by decide) (by rfl) b40 ?_
          | refine SC_seq ?_
          | refine SC_region ?_
          | refine SL_seq ?_
          | refine SL_not (by rfl) (by rfl) (by rfl) (by decide) ?_
          | refine SL_move (by decide) (by rfl) ?_
          | refine SL_assign (by decide) (by rfl) ?_
          | refine SL_pick_t (by decide) (by rfl) (by rfl) ?_
          | (refine SL_lss (by decide) (by rfl) (by rfl) (fun hT => ?_) (fun hT => ?_) <;> first | (exfalso; omega) | skip)
          | refine SL_fieldAddr (by decide) (by rfl) (fldF (by rfl)) ?_
          | refine SL_load_o (by decide) (by rfl) (by repeat (first | exact .head _ | refine .tail _ ?_)) (rowF (by rfl)) (by first | assumption | rfl) (by rfl) ?_
          | refine SC_cond_t (by rfl) ?_
          | refine SC_cond_f (by rfl) ?_
          | (refine SC_skip' (fun tm σ hE hH => ?_); refine SC.app ?_ hE hH; clear hE hH; clear tm σ)
          | refine SC_ret (fun tm σ hE hH => Post.intro (Hn := []) (.inr rfl) hE hH (by rfl) trivial List.nodup_nil (fun p hp => (by cases hp)) ?_)
          | fail)
        exact ⟨⟨_, rfl⟩, rfl⟩
      ·
        repeat' (first
          | (refine SL_box (by decide) (by rfl) (by first | exact cells_2 _ _ | rfl) (fun b1 hid => ?_))
          | (refine SL_ceql (a := r) (b := p) (by decide) (by rfl) (by rfl) ceq40 (fun hr hp => ?_) (fun hrp => ?_) <;> first | (exfalso; omega) | skip)
          | refine SL_load_or (by decide) (by rfl) (by repeat (first | exact .head _ | refine .tail _ ?_)) (rowF (by rfl)) (by rfl) (Nat.le_of_ble_eq_true (by rfl)) (mk2 _ _) ?_
          | refine SL_build (by decide) (by rfl) b40 ?_
          | refine SC_seq ?_
          | refine SC_region ?_
          | refine SL_seq ?_
          | refine SL_run (by rfl) (by rfl) ?_
          | refine SL_move (by decide) (by rfl) ?_
          | refine SL_assign (by decide) (by rfl) ?_
          | refine SL_pick_f (by decide) (by rfl) (by rfl) ?_
          | (refine SL_lss (by decide) (by rfl) (by rfl) (fun hT => ?_) (fun hT => ?_) <;> first | (exfalso; omega) | skip)
          | (refine SL_gtr (by decide) (by rfl) (by rfl) (fun hT => ?_) (fun hT => ?_) <;> first | (exfalso; omega) | skip)
          | refine SL_fieldAddr (by decide) (by rfl) (fldF (by rfl)) ?_
          | refine SL_load_o (by decide) (by rfl) (by repeat (first | exact .head _ | refine .tail _ ?_)) (rowF (by rfl)) (by first | assumption | rfl) (by rfl) ?_
          | refine SC_cond_t (by rfl) ?_
          | refine SC_cond_f (by rfl) ?_
          | (refine SC_skip' (fun tm σ hE hH => ?_); refine SC.app ?_ hE hH; clear hE hH; clear tm σ)
          | refine SC_ret (fun tm σ hE hH => Post.intro (Hn := []) (.inr rfl) hE hH (by rfl) trivial List.nodup_nil (fun p hp => (by cases hp)) ?_)
          | fail)
        exact ⟨⟨_, rfl⟩, rfl⟩
    · split at h
      · cases h
      · split at h
        · cases h
        · rename_i h1 h2 h3 h4
          refine Fn_body (N := 34) (ho _) Tryz.func17 rfl rfl fun B => ?_
          repeat' (first
            | (refine SL_box (by decide) (by rfl) (by first | exact cells_2 _ _ | rfl) (fun b1 hid => ?_))
            | (refine SD_nil (fun tm σ hE hH => ⟨_, _, _, _, _, rfl, hE, hH, fun q hq => (by cases hq), ?_⟩); clear hE hH; clear tm σ; intro tm σ hE hH; refine SC.app ?_ hE hH; clear hE hH; clear tm σ)
            | (refine SL_call (by decide) (by rfl) bd28 (by rfl) (by rfl) (h28 _ (by omega) (by omega)) trivial List.nodup_nil ?_; rintro _ _ _ ⟨rfl, rfl⟩; rw [List.nil_append])
            | (refine SL_ceql (a := r) (b := p) (by decide) (by rfl) (by rfl) ceq40 (fun hr hp => ?_) (fun hrp => ?_) <;> first | (exfalso; omega) | skip)
            | refine SL_load_or (by decide) (by rfl) (by repeat (first | exact .head _ | refine .tail _ ?_)) (rowF (by rfl)) (by rfl) (Nat.le_of_ble_eq_true (by rfl)) (mk2 _ _) ?_
            | refine SL_build (by decide) (by rfl) b40 ?_
            | refine SL_cat (by decide) (by rfl) (by rfl) (catOk (by first | exact decI_le _ | exact Nat.le_of_ble_eq_true (by rfl)) (by first | exact decI_le _ | exact Nat.le_of_ble_eq_true (by rfl))) ?_
            | refine SD_op (i := 8) [] [(5, b1)] (by rfl) (by rfl) (fun _ h => h) (fun p hp => by rw [List.mem_singleton] at hp; subst hp; simp) (fun k hk => by cases hk) (.inl rfl) ?_
            | refine SD_op (i := 7) [] [(5, b1)] (by rfl) (by rfl) (fun _ h => h) (fun p hp => by rw [List.mem_singleton] at hp; subst hp; simp) (fun k hk => by cases hk) (.inl rfl) ?_
            | refine SD_op (i := 3) [] [(5, b1)] (by rfl) (by rfl) (fun _ h => h) (fun p hp => by rw [List.mem_singleton] at hp; subst hp; simp) (fun k hk => by cases hk) (.inl rfl) ?_
            | refine SD_op (i := 2) [] [(5, b1)] (by rfl) (by rfl) (fun _ h => h) (fun p hp => by rw [List.mem_singleton] at hp; subst hp; simp) (fun k hk => ⟨b1, by rw [List.mem_singleton] at hk; subst hk; exact List.mem_singleton.2 rfl, List.not_mem_nil, hb1lt'⟩) (.inl rfl) ?_
            | refine SD_op (i := 6) [] [(5, b1)] (by rfl) (by rfl) (fun _ h => h) (fun p hp => by rw [List.mem_singleton] at hp; subst hp; simp) (fun k hk => by cases hk) (.inl rfl) ?_
            | refine SD_op (i := 5) [] [(5, b1)] (by rfl) (by rfl) (fun _ h => h) (fun p hp => by cases hp) (fun k hk => by cases hk) (.inr ⟨_, _, b1, rfl, rfl, rfl, List.not_mem_nil, hb1lt', rfl⟩) ?_
            | (refine SC_drawn (id := 7) (pl := [(0, []), (1, []), (4, []), (5, []), (6, []), (2, [5]), (3, []), (7, []), (8, [])]) (by kernel_rfl) (by kernel_rfl) ?_; intro B' base hb1 hb2 hb3 hb4; have hb1lt := hb4 (b1, _) (List.mem_singleton.2 rfl); have hb1lt' : b1 < B'.next := (by dsimp only at hb1lt; omega))
            | refine SC_seq ?_
            | refine SC_region ?_
            | refine SL_seq ?_
            | refine SL_run (by rfl) (by rfl) ?_
            | refine SL_not (by rfl) (by rfl) (by rfl) (by decide) ?_
            | refine SL_move (by decide) (by rfl) ?_
            | refine SL_assign (by decide) (by rfl) ?_
            | refine SL_pick_t (by decide) (by rfl) (by rfl) ?_
            | refine SL_pick_f (by decide) (by rfl) (by rfl) ?_
            | (refine SL_lss (by decide) (by rfl) (by rfl) (fun hT => ?_) (fun hT => ?_) <;> first | (exfalso; omega) | skip)
            | (refine SL_gtr (by decide) (by rfl) (by rfl) (fun hT => ?_) (fun hT => ?_) <;> first | (exfalso; omega) | skip)
            | (refine SL_geq (by decide) (by rfl) (by rfl) (fun hT => ?_) (fun hT => ?_) <;> first | (exfalso; omega) | skip)
            | (refine SL_eql (by decide) (by rfl) (by rfl) (fun hT => ?_) (fun hT => ?_) <;> first | (exfalso; omega) | skip)
            | refine SL_fieldAddr (by decide) (by rfl) (fldF (by rfl)) ?_
            | refine SL_load_o (by decide) (by rfl) (by repeat (first | exact .head _ | refine .tail _ ?_)) (rowF (by rfl)) (by first | assumption | rfl) (by rfl) ?_
            | refine SC_cond_f (by rfl) ?_
            | (refine SC_skip' (fun tm σ hE hH => ?_); refine SC.app ?_ hE hH; clear hE hH; clear tm σ)
            | refine SC_ret (fun tm σ hE hH => Post.intro (Hn := []) (.inr rfl) hE hH (by rfl) trivial List.nodup_nil (fun p hp => (by cases hp)) ?_)
            | (refine SL_nil (fun tm σ hE hH => ⟨_, _, _, _, rfl, hE, hH, ?_⟩); clear hE hH; clear tm σ)
            | refine SD_op _ [] (by rfl) (by rfl) (fun _ h => h) (fun p hp => by cases hp) (fun k hk => by cases hk) (.inl rfl) ?_
            | fail)
          all_goals exact ⟨⟨_, rfl⟩, rfl⟩
theorem Value_t {G : Gl} (ho : ∀ a, G.orc 15 [a] = none) (h40 : Dec G 40) (r p : Int) (s : ByteArray) (h : valS r p = some s) : FnC Tryz.prog G 15 [vv r p] [] (fun v Hn => v = .s (.tuple #[.string s, .int .i64 0]) ∧ Hn = []) := by
  unfold Dec at h40
  unfold valS at h
  split at h
  · rename_i h1
    cases h
    refine Fn_body (N := 38) (ho _) Tryz.func15 rfl rfl fun B => ?_
    repeat' (first
      | (refine SL_box (by decide) (by rfl) (by first | exact cells_2 _ _ | rfl) (fun b1 hid => ?_))
      | (refine SL_ceql (a := r) (b := p) (by decide) (by rfl) (by rfl) ceq40 (fun hr hp => ?_) (fun hrp => ?_) <;> first | (exfalso; omega) | skip)
      | refine SL_load_or (by decide) (by rfl) (by repeat (first | exact .head _ | refine .tail _ ?_)) (rowF (by rfl)) (by rfl) (Nat.le_of_ble_eq_true (by rfl)) (mk2 _ _) ?_
      | refine SL_build (by decide) (by rfl) b40 ?_
      | refine SC_seq ?_
      | refine SC_block ?_
      | refine SC_region ?_
      | refine SL_seq ?_
      | refine SL_assign (by decide) (by rfl) ?_
      | refine SC_cond_t (by rfl) ?_
      | refine SC_ret (fun tm σ hE hH => Post.intro (Hn := []) (.inr rfl) hE hH (by rfl) trivial List.nodup_nil (fun p hp => (by cases hp)) ?_)
      | fail)
    exact ⟨rfl, rfl⟩
  · split at h
    · cases h
    · split at h
      · rename_i h1 h2 h3
        cases h
        refine Fn_body (N := 38) (ho _) Tryz.func15 rfl rfl fun B => ?_
        repeat' (first
          | (refine SL_box (by decide) (by rfl) (by first | exact cells_2 _ _ | rfl) (fun b1 hid => ?_))
          | (refine SL_call (by decide) (by rfl) bd40 (by rfl) (by rfl) (h40 _ (by omega) (by omega)) trivial List.nodup_nil ?_; rintro _ _ _ ⟨rfl, rfl⟩; rw [List.nil_append])
          | (refine SL_ceql (a := r) (b := p) (by decide) (by rfl) (by rfl) ceq40 (fun hr hp => ?_) (fun hrp => ?_) <;> first | (exfalso; omega) | skip)
          | refine SL_load_or (by decide) (by rfl) (by repeat (first | exact .head _ | refine .tail _ ?_)) (rowF (by rfl)) (by rfl) (Nat.le_of_ble_eq_true (by rfl)) (mk2 _ _) ?_
          | refine SL_build (by decide) (by rfl) b40 ?_
          | refine SL_cat (by decide) (by rfl) (by rfl) (catOk (by first | exact decI_le _ | exact Nat.le_of_ble_eq_true (by rfl)) (by first | exact decI_le _ | exact Nat.le_of_ble_eq_true (by rfl))) ?_
          | refine SC_seq ?_
          | refine SC_block ?_
          | refine SC_region ?_
          | refine SL_seq ?_
          | refine SL_run (by rfl) (by rfl) ?_
          | refine SL_move (by decide) (by rfl) ?_
          | refine SL_assign (by decide) (by rfl) ?_
          | refine SL_pick_t (by decide) (by rfl) (by rfl) ?_
          | refine SL_pick_f (by decide) (by rfl) (by rfl) ?_
          | (refine SL_lss (by decide) (by rfl) (by rfl) (fun hT => ?_) (fun hT => ?_) <;> first | (exfalso; omega) | skip)
          | (refine SL_gtr (by decide) (by rfl) (by rfl) (fun hT => ?_) (fun hT => ?_) <;> first | (exfalso; omega) | skip)
          | (refine SL_eql (by decide) (by rfl) (by rfl) (fun hT => ?_) (fun hT => ?_) <;> first | (exfalso; omega) | skip)
          | refine SL_fieldAddr (by decide) (by rfl) (fldF (by rfl)) ?_
          | refine SL_load_o (by decide) (by rfl) (by repeat (first | exact .head _ | refine .tail _ ?_)) (rowF (by rfl)) (by first | assumption | rfl) (by rfl) ?_
          | refine SC_cond_t (by rfl) ?_
          | refine SC_cond_f (by rfl) ?_
          | refine SC_ret (fun tm σ hE hH => Post.intro (Hn := []) (.inr rfl) hE hH (by rfl) trivial List.nodup_nil (fun p hp => (by cases hp)) ?_)
          | fail)
        exact ⟨rfl, rfl⟩
      · split at h
        · rename_i h1 h2 h3 h4
          cases h
          refine Fn_body (N := 38) (ho _) Tryz.func15 rfl rfl fun B => ?_
          repeat' (first
            | (refine SL_box (by decide) (by rfl) (by first | exact cells_2 _ _ | rfl) (fun b1 hid => ?_))
            | (refine SL_call (by decide) (by rfl) bd40 (by rfl) (by rfl) (h40 _ (by omega) (by omega)) trivial List.nodup_nil ?_; rintro _ _ _ ⟨rfl, rfl⟩; rw [List.nil_append])
            | (refine SL_ceql (a := r) (b := p) (by decide) (by rfl) (by rfl) ceq40 (fun hr hp => ?_) (fun hrp => ?_) <;> first | (exfalso; omega) | skip)
            | refine SL_load_or (by decide) (by rfl) (by repeat (first | exact .head _ | refine .tail _ ?_)) (rowF (by rfl)) (by rfl) (Nat.le_of_ble_eq_true (by rfl)) (mk2 _ _) ?_
            | refine SL_build (by decide) (by rfl) b40 ?_
            | refine SL_cat (by decide) (by rfl) (by rfl) (catOk (by first | exact decI_le _ | exact Nat.le_of_ble_eq_true (by rfl)) (by first | exact decI_le _ | exact Nat.le_of_ble_eq_true (by rfl))) ?_
            | refine SC_seq ?_
            | refine SC_block ?_
            | refine SC_region ?_
            | refine SL_seq ?_
            | refine SL_run (by rfl) (by rfl) ?_
            | refine SL_not (by rfl) (by rfl) (by rfl) (by decide) ?_
            | refine SL_move (by decide) (by rfl) ?_
            | refine SL_assign (by decide) (by rfl) ?_
            | refine SL_pick_f (by decide) (by rfl) (by rfl) ?_
            | (refine SL_lss (by decide) (by rfl) (by rfl) (fun hT => ?_) (fun hT => ?_) <;> first | (exfalso; omega) | skip)
            | (refine SL_gtr (by decide) (by rfl) (by rfl) (fun hT => ?_) (fun hT => ?_) <;> first | (exfalso; omega) | skip)
            | (refine SL_eql (by decide) (by rfl) (by rfl) (fun hT => ?_) (fun hT => ?_) <;> first | (exfalso; omega) | skip)
            | refine SL_fieldAddr (by decide) (by rfl) (fldF (by rfl)) ?_
            | refine SL_load_o (by decide) (by rfl) (by repeat (first | exact .head _ | refine .tail _ ?_)) (rowF (by rfl)) (by first | assumption | rfl) (by rfl) ?_
            | refine SC_cond_t (by rfl) ?_
            | refine SC_cond_f (by rfl) ?_
            | refine SC_ret (fun tm σ hE hH => Post.intro (Hn := []) (.inr rfl) hE hH (by rfl) trivial List.nodup_nil (fun p hp => (by cases hp)) ?_)
            | fail)
          exact ⟨rfl, rfl⟩
        · cases h
theorem Value_f {G : Gl} (ho : ∀ a, G.orc 15 [a] = none) (r p : Int) (h : valS r p = none) : FnC Tryz.prog G 15 [vv r p] [] (fun v Hn => v = .s (.tuple #[.string ⟨#[]⟩, .int .i64 2]) ∧ Hn = []) := by
  unfold valS at h
  split at h
  · cases h
  · split at h
    · rename_i h1 h2
      refine Fn_body (N := 38) (ho _) Tryz.func15 rfl rfl fun B => ?_
      rcases h2 with h2 | h2
      ·
        repeat' (first
          | (refine SL_box (by decide) (by rfl) (by first | exact cells_2 _ _ | rfl) (fun b1 hid => ?_))
          | (refine SL_ceql (a := r) (b := p) (by decide) (by rfl) (by rfl) ceq40 (fun hr hp => ?_) (fun hrp => ?_) <;> first | (exfalso; omega) | skip)
          | refine SL_load_or (by decide) (by rfl) (by repeat (first | exact .head _ | refine .tail _ ?_)) (rowF (by rfl)) (by rfl) (Nat.le_of_ble_eq_true (by rfl)) (mk2 _ _) ?_
          | refine SL_build (by decide) (by rfl) b40 ?_
          | refine SC_seq ?_
          | refine SC_block ?_
          | refine SC_region ?_
          | refine SL_seq ?_
          | refine SL_not (by rfl) (by rfl) (by rfl) (by decide) ?_
          | refine SL_move (by decide) (by rfl) ?_
          | refine SL_assign (by decide) (by rfl) ?_
          | refine SL_pick_t (by decide) (by rfl) (by rfl) ?_
          | (refine SL_lss (by decide) (by rfl) (by rfl) (fun hT => ?_) (fun hT => ?_) <;> first | (exfalso; omega) | skip)
          | refine SL_fieldAddr (by decide) (by rfl) (fldF (by rfl)) ?_
          | refine SL_load_o (by decide) (by rfl) (by repeat (first | exact .head _ | refine .tail _ ?_)) (rowF (by rfl)) (by first | assumption | rfl) (by rfl) ?_
          | refine SC_cond_t (by rfl) ?_
          | refine SC_cond_f (by rfl) ?_
          | refine SC_ret (fun tm σ hE hH => Post.intro (Hn := []) (.inr rfl) hE hH (by rfl) trivial List.nodup_nil (fun p hp => (by cases hp)) ?_)
          | fail)
        exact ⟨rfl, rfl⟩
      ·
        repeat' (first
          | (refine SL_box (by decide) (by rfl) (by first | exact cells_2 _ _ | rfl) (fun b1 hid => ?_))
          | (refine SL_ceql (a := r) (b := p) (by decide) (by rfl) (by rfl) ceq40 (fun hr hp => ?_) (fun hrp => ?_) <;> first | (exfalso; omega) | skip)
          | refine SL_load_or (by decide) (by rfl) (by repeat (first | exact .head _ | refine .tail _ ?_)) (rowF (by rfl)) (by rfl) (Nat.le_of_ble_eq_true (by rfl)) (mk2 _ _) ?_
          | refine SL_build (by decide) (by rfl) b40 ?_
          | refine SC_seq ?_
          | refine SC_block ?_
          | refine SC_region ?_
          | refine SL_seq ?_
          | refine SL_run (by rfl) (by rfl) ?_
          | refine SL_move (by decide) (by rfl) ?_
          | refine SL_assign (by decide) (by rfl) ?_
          | refine SL_pick_f (by decide) (by rfl) (by rfl) ?_
          | (refine SL_lss (by decide) (by rfl) (by rfl) (fun hT => ?_) (fun hT => ?_) <;> first | (exfalso; omega) | skip)
          | (refine SL_gtr (by decide) (by rfl) (by rfl) (fun hT => ?_) (fun hT => ?_) <;> first | (exfalso; omega) | skip)
          | refine SL_fieldAddr (by decide) (by rfl) (fldF (by rfl)) ?_
          | refine SL_load_o (by decide) (by rfl) (by repeat (first | exact .head _ | refine .tail _ ?_)) (rowF (by rfl)) (by first | assumption | rfl) (by rfl) ?_
          | refine SC_cond_t (by rfl) ?_
          | refine SC_cond_f (by rfl) ?_
          | refine SC_ret (fun tm σ hE hH => Post.intro (Hn := []) (.inr rfl) hE hH (by rfl) trivial List.nodup_nil (fun p hp => (by cases hp)) ?_)
          | fail)
        exact ⟨rfl, rfl⟩
    · split at h
      · cases h
      · split at h
        · cases h
        · rename_i h1 h2 h3 h4
          refine Fn_body (N := 38) (ho _) Tryz.func15 rfl rfl fun B => ?_
          repeat' (first
            | (refine SL_box (by decide) (by rfl) (by first | exact cells_2 _ _ | rfl) (fun b1 hid => ?_))
            | (refine SL_ceql (a := r) (b := p) (by decide) (by rfl) (by rfl) ceq40 (fun hr hp => ?_) (fun hrp => ?_) <;> first | (exfalso; omega) | skip)
            | refine SL_load_or (by decide) (by rfl) (by repeat (first | exact .head _ | refine .tail _ ?_)) (rowF (by rfl)) (by rfl) (Nat.le_of_ble_eq_true (by rfl)) (mk2 _ _) ?_
            | refine SL_build (by decide) (by rfl) b40 ?_
            | refine SC_seq ?_
            | refine SC_block ?_
            | refine SC_region ?_
            | refine SL_seq ?_
            | refine SL_run (by rfl) (by rfl) ?_
            | refine SL_not (by rfl) (by rfl) (by rfl) (by decide) ?_
            | refine SL_move (by decide) (by rfl) ?_
            | refine SL_assign (by decide) (by rfl) ?_
            | refine SL_pick_t (by decide) (by rfl) (by rfl) ?_
            | refine SL_pick_f (by decide) (by rfl) (by rfl) ?_
            | (refine SL_lss (by decide) (by rfl) (by rfl) (fun hT => ?_) (fun hT => ?_) <;> first | (exfalso; omega) | skip)
            | (refine SL_gtr (by decide) (by rfl) (by rfl) (fun hT => ?_) (fun hT => ?_) <;> first | (exfalso; omega) | skip)
            | (refine SL_eql (by decide) (by rfl) (by rfl) (fun hT => ?_) (fun hT => ?_) <;> first | (exfalso; omega) | skip)
            | refine SL_fieldAddr (by decide) (by rfl) (fldF (by rfl)) ?_
            | refine SL_load_o (by decide) (by rfl) (by repeat (first | exact .head _ | refine .tail _ ?_)) (rowF (by rfl)) (by first | assumption | rfl) (by rfl) ?_
            | refine SC_cond_f (by rfl) ?_
            | (refine SC_skip' (fun tm σ hE hH => ?_); refine SC.app ?_ hE hH; clear hE hH; clear tm σ)
            | refine SC_ret (fun tm σ hE hH => Post.intro (Hn := []) (.inr rfl) hE hH (by rfl) trivial List.nodup_nil (fun p hp => (by cases hp)) ?_)
            | fail)
          all_goals exact ⟨rfl, rfl⟩
end Go.Proofs.YtnhnlkljcfbhfaaGreatDoor
/- Which boards are valid. -/
namespace Go.Proofs.YtnhnlkljcfbhfaaGreatDoor
open Go Go.Ab
set_option maxRecDepth 100000
theorem bd112 : (Tryz.prog.funcs[112]?).map (·.body.isNone) = some false := by rw [Tryz.func112]; rfl
theorem bd75 : (Tryz.prog.funcs[75]?).map (·.body.isNone) = some false := by rw [Tryz.func75]; rfl
theorem bd34 : (Tryz.prog.funcs[34]?).map (·.body.isNone) = some false := by rw [Tryz.func34]; rfl
theorem bd37 : (Tryz.prog.funcs[37]?).map (·.body.isNone) = some false := by rw [Tryz.func37]; rfl
theorem bd36 : (Tryz.prog.funcs[36]?).map (·.body.isNone) = some false := by rw [Tryz.func36]; rfl
theorem bd76 : (Tryz.prog.funcs[76]?).map (·.body.isNone) = some false := by rw [Tryz.func76]; rfl
theorem bd35 : (Tryz.prog.funcs[35]?).map (·.body.isNone) = some false := by rw [Tryz.func35]; rfl
theorem mk2b (a b : Value) (l : AV) : mkAgg ((List.drop 0 [AV.s a, AV.s b, l]).take 2) = .s (.agg #[a, b]) := rfl
theorem mkb (a b l : AV) : mkAgg ((List.drop 0 [a, b, l]).take 3) = mkAgg [a, b, l] := rfl
/-- A board. -/
abbrev brd (f r : Int) (l : AV) : AV := mkAgg [.s (.int .i64 f), .s (.int .i64 r), l]
theorem cells_b (a b : Value) (l : AV) : cellsOf (mkAgg [.s a, .s b, l]) = [.s a, .s b, l] := by cases l <;> rfl
def OkSz (f r : Int) : Prop := 3 ≤ f ∧ f ≤ 8 ∧ 3 ≤ r ∧ r ≤ 8
attribute [local irreducible] SC SL wpc wpl wpd wpf wpy wpn FnC FnW RdW SD
set_option pp.deepTerms false
set_option pp.maxSteps 900
set_option maxHeartbeats 2000000
theorem side_t {G : Gl} (ho : ∀ a, G.orc 112 [a] = none) (n : Int) (h0 : 3 ≤ n) (h1 : n ≤ 8) : FnC Tryz.prog G 112 [.s (.int .i64 n)] [] (fun v Hn => v = .s (.bool true) ∧ Hn = []) := by
  refine Fn_body (N := 9) (ho _) Tryz.func112 rfl rfl fun B => ?_
  repeat' (first
    | refine SC_seq ?_
    | refine SC_region ?_
    | refine SL_seq ?_
    | refine SL_run (by rfl) (by rfl) ?_
    | refine SL_move (by decide) (by rfl) ?_
    | refine SL_assign (by decide) (by rfl) ?_
    | refine SL_pick_t (by decide) (by rfl) (by rfl) ?_
    | (refine SL_leq (by decide) (by rfl) (by rfl) (fun hT => ?_) (fun hT => ?_) <;> first | (exfalso; omega) | skip)
    | (refine SL_geq (by decide) (by rfl) (by rfl) (fun hT => ?_) (fun hT => ?_) <;> first | (exfalso; omega) | skip)
    | refine SC_ret (fun tm σ hE hH => Post.intro (Hn := []) (.inr rfl) hE hH (by rfl) trivial List.nodup_nil (fun p hp => (by cases hp)) ?_)
    | fail)
  exact ⟨rfl, rfl⟩
theorem side_f {G : Gl} (ho : ∀ a, G.orc 112 [a] = none) (n : Int) (h0 : n < 3 ∨ 8 < n) : FnC Tryz.prog G 112 [.s (.int .i64 n)] [] (fun v Hn => v = .s (.bool false) ∧ Hn = []) := by
  refine Fn_body (N := 9) (ho _) Tryz.func112 rfl rfl fun B => ?_
  repeat' (first
    | refine SC_seq ?_
    | refine SC_region ?_
    | refine SL_seq ?_
    | refine SL_run (by rfl) (by rfl) ?_
    | refine SL_not (by rfl) (by rfl) (by rfl) (by decide) ?_
    | refine SL_move (by decide) (by rfl) ?_
    | refine SL_assign (by decide) (by rfl) ?_
    | refine SL_pick_t (by decide) (by rfl) (by rfl) ?_
    | refine SL_pick_f (by decide) (by rfl) (by rfl) ?_
    | (refine SL_leq (by decide) (by rfl) (by rfl) (fun hT => ?_) (fun hT => ?_) <;> first | (exfalso; omega) | skip)
    | (refine SL_geq (by decide) (by rfl) (by rfl) (fun hT => ?_) (fun hT => ?_) <;> first | (exfalso; omega) | skip)
    | refine SC_ret (fun tm σ hE hH => Post.intro (Hn := []) (.inr rfl) hE hH (by rfl) trivial List.nodup_nil (fun p hp => (by cases hp)) ?_)
    | fail)
  all_goals exact ⟨rfl, rfl⟩
theorem pieceV_t {G : Gl} (ho : ∀ a, G.orc 37 [a] = none) (n : Int) (h0 : -15 ≤ n) (h1 : n ≤ 15) : FnC Tryz.prog G 37 [.s (.int .i8 n)] [] (fun v Hn => v = .s (.bool true) ∧ Hn = []) := by
  refine Fn_body (N := 9) (ho _) Tryz.func37 rfl rfl fun B => ?_
  repeat' (first
    | refine SC_seq ?_
    | refine SC_region ?_
    | refine SL_seq ?_
    | refine SL_run (by rfl) (by rfl) ?_
    | refine SL_move (by decide) (by rfl) ?_
    | refine SL_assign (by decide) (by rfl) ?_
    | refine SL_pick_t (by decide) (by rfl) (by rfl) ?_
    | (refine SL_leq (by decide) (by rfl) (by rfl) (fun hT => ?_) (fun hT => ?_) <;> first | (exfalso; omega) | skip)
    | (refine SL_geq (by decide) (by rfl) (by rfl) (fun hT => ?_) (fun hT => ?_) <;> first | (exfalso; omega) | skip)
    | refine SC_ret (fun tm σ hE hH => Post.intro (Hn := []) (.inr rfl) hE hH (by rfl) trivial List.nodup_nil (fun p hp => (by cases hp)) ?_)
    | fail)
  exact ⟨rfl, rfl⟩
theorem pieceV_f {G : Gl} (ho : ∀ a, G.orc 37 [a] = none) (n : Int) (h0 : n < -15 ∨ 15 < n) : FnC Tryz.prog G 37 [.s (.int .i8 n)] [] (fun v Hn => v = .s (.bool false) ∧ Hn = []) := by
  refine Fn_body (N := 9) (ho _) Tryz.func37 rfl rfl fun B => ?_
  repeat' (first
    | refine SC_seq ?_
    | refine SC_region ?_
    | refine SL_seq ?_
    | refine SL_run (by rfl) (by rfl) ?_
    | refine SL_not (by rfl) (by rfl) (by rfl) (by decide) ?_
    | refine SL_move (by decide) (by rfl) ?_
    | refine SL_assign (by decide) (by rfl) ?_
    | refine SL_pick_t (by decide) (by rfl) (by rfl) ?_
    | refine SL_pick_f (by decide) (by rfl) (by rfl) ?_
    | (refine SL_leq (by decide) (by rfl) (by rfl) (fun hT => ?_) (fun hT => ?_) <;> first | (exfalso; omega) | skip)
    | (refine SL_geq (by decide) (by rfl) (by rfl) (fun hT => ?_) (fun hT => ?_) <;> first | (exfalso; omega) | skip)
    | refine SC_ret (fun tm σ hE hH => Post.intro (Hn := []) (.inr rfl) hE hH (by rfl) trivial List.nodup_nil (fun p hp => (by cases hp)) ?_)
    | fail)
  all_goals exact ⟨rfl, rfl⟩
abbrev sz (f r : Int) : AV := .s (.agg #[.int .i64 f, .int .i64 r])
theorem size_t {G : Gl} (ho : ∀ a, G.orc 75 [a] = none) (ho' : ∀ a, G.orc 112 [a] = none) {f r : Int} (h : OkSz f r) : FnC Tryz.prog G 75 [sz f r] [] (fun v Hn => v = .s (.bool true) ∧ Hn = []) := by
  obtain ⟨h1, h2, h3, h4⟩ := h
  have h112t := side_t ho'
  have h112f := side_f ho'
  refine Fn_body (N := 11) (ho _) Tryz.func75 rfl rfl fun B => ?_
  repeat' (first
    | (refine SL_box (by decide) (by rfl) (by first | exact cells_2 _ _ | exact cells_b _ _ _) (fun b1 hid => ?_))
    | (refine SL_call (by decide) (by rfl) bd112 (by rfl) (by rfl) (h112t _ (by omega) (by omega)) trivial List.nodup_nil ?_; rintro _ _ _ ⟨rfl, rfl⟩; rw [List.nil_append])
    | refine SC_seq ?_
    | refine SC_region ?_
    | refine SL_seq ?_
    | refine SL_run (by rfl) (by rfl) ?_
    | refine SL_move (by decide) (by rfl) ?_
    | refine SL_assign (by decide) (by rfl) ?_
    | refine SL_pick_t (by decide) (by rfl) (by rfl) ?_
    | refine SL_fieldAddr (by decide) (by rfl) (fldF (by rfl)) ?_
    | refine SL_load_o (by decide) (by rfl) (by repeat (first | exact .head _ | refine .tail _ ?_)) (rowF (by rfl)) (by first | assumption | rfl | exact ps_get _ hlt) (by rfl) ?_
    | refine SC_ret (fun tm σ hE hH => Post.intro (Hn := []) (.inr rfl) hE hH (by rfl) trivial List.nodup_nil (fun p hp => (by cases hp)) ?_)
    | fail)
  exact ⟨rfl, rfl⟩
theorem size_f {G : Gl} (ho : ∀ a, G.orc 75 [a] = none) (ho' : ∀ a, G.orc 112 [a] = none) {f r : Int} (h : ¬ OkSz f r) : FnC Tryz.prog G 75 [sz f r] [] (fun v Hn => v = .s (.bool false) ∧ Hn = []) := by
  have h112t := side_t ho'
  have h112f := side_f ho'
  unfold OkSz at h
  by_cases hf : 3 ≤ f ∧ f ≤ 8
  · refine Fn_body (N := 11) (ho _) Tryz.func75 rfl rfl fun B => ?_
    repeat' (first
      | (refine SL_box (by decide) (by rfl) (by first | exact cells_2 _ _ | exact cells_b _ _ _) (fun b1 hid => ?_))
      | (refine SL_call (by decide) (by rfl) bd112 (by rfl) (by rfl) (h112f _ (by omega)) trivial List.nodup_nil ?_; rintro _ _ _ ⟨rfl, rfl⟩; rw [List.nil_append])
      | (refine SL_call (by decide) (by rfl) bd112 (by rfl) (by rfl) (h112t _ (by omega) (by omega)) trivial List.nodup_nil ?_; rintro _ _ _ ⟨rfl, rfl⟩; rw [List.nil_append])
      | refine SC_seq ?_
      | refine SC_region ?_
      | refine SL_seq ?_
      | refine SL_run (by rfl) (by rfl) ?_
      | refine SL_move (by decide) (by rfl) ?_
      | refine SL_assign (by decide) (by rfl) ?_
      | refine SL_pick_t (by decide) (by rfl) (by rfl) ?_
      | refine SL_fieldAddr (by decide) (by rfl) (fldF (by rfl)) ?_
      | refine SL_load_o (by decide) (by rfl) (by repeat (first | exact .head _ | refine .tail _ ?_)) (rowF (by rfl)) (by first | assumption | rfl | exact ps_get _ hlt) (by rfl) ?_
      | refine SC_ret (fun tm σ hE hH => Post.intro (Hn := []) (.inr rfl) hE hH (by rfl) trivial List.nodup_nil (fun p hp => (by cases hp)) ?_)
      | fail)
    exact ⟨rfl, rfl⟩
  · refine Fn_body (N := 11) (ho _) Tryz.func75 rfl rfl fun B => ?_
    repeat' (first
      | (refine SL_box (by decide) (by rfl) (by first | exact cells_2 _ _ | exact cells_b _ _ _) (fun b1 hid => ?_))
      | (refine SL_call (by decide) (by rfl) bd112 (by rfl) (by rfl) (h112f _ (by omega)) trivial List.nodup_nil ?_; rintro _ _ _ ⟨rfl, rfl⟩; rw [List.nil_append])
      | refine SC_seq ?_
      | refine SC_region ?_
      | refine SL_seq ?_
      | refine SL_not (by rfl) (by rfl) (by rfl) (by decide) ?_
      | refine SL_move (by decide) (by rfl) ?_
      | refine SL_assign (by decide) (by rfl) ?_
      | refine SL_pick_f (by decide) (by rfl) (by rfl) ?_
      | refine SL_fieldAddr (by decide) (by rfl) (fldF (by rfl)) ?_
      | refine SL_load_o (by decide) (by rfl) (by repeat (first | exact .head _ | refine .tail _ ?_)) (rowF (by rfl)) (by first | assumption | rfl | exact ps_get _ hlt) (by rfl) ?_
      | refine SC_ret (fun tm σ hE hH => Post.intro (Hn := []) (.inr rfl) hE hH (by rfl) trivial List.nodup_nil (fun p hp => (by cases hp)) ?_)
      | fail)
    exact ⟨rfl, rfl⟩
theorem count_t {G : Gl} (ho : ∀ a, G.orc 34 [a] = none) {f r : Int} (h75 : FnC Tryz.prog G 75 [sz f r] [] (fun v Hn => v = .s (.bool true) ∧ Hn = [])) (h : OkSz f r) : FnC Tryz.prog G 34 [sz f r] [] (fun v Hn => v = .s (.tuple #[.int .i64 (f * r), .int .i64 0]) ∧ Hn = []) := by
  obtain ⟨h1, h2, h3, h4⟩ := h
  have hm : 0 ≤ f * r ∧ f * r ≤ 64 := by
    obtain ⟨a, rfl⟩ : ∃ a : Nat, f = a := ⟨f.toNat, by omega⟩
    obtain ⟨b, rfl⟩ : ∃ b : Nat, r = b := ⟨r.toNat, by omega⟩
    have : a * b ≤ 8 * 8 := Nat.mul_le_mul (by omega) (by omega)
    rw [← Int.natCast_mul]; omega
  refine Fn_body (N := 12) (ho _) Tryz.func34 rfl rfl fun B => ?_
  repeat' (first
    | (refine SL_box (by decide) (by rfl) (by first | exact cells_2 _ _ | exact cells_b _ _ _) (fun b1 hid => ?_))
    | refine SL_load_or (by decide) (by rfl) (by repeat (first | exact .head _ | refine .tail _ ?_)) (rowF (by rfl)) (by rfl) (Nat.le_of_ble_eq_true (by rfl)) (by first | exact mk2 _ _ | exact mk2b _ _ _ | exact mkb _ _ _) ?_
    | (refine SL_call (by decide) (by rfl) bd75 (by rfl) (by rfl) (h75) trivial List.nodup_nil ?_; rintro _ _ _ ⟨rfl, rfl⟩; rw [List.nil_append])
    | refine SC_seq ?_
    | refine SC_region ?_
    | refine SL_seq ?_
    | refine SL_assign (by decide) (by rfl) ?_
    | refine SL_not_op (by decide) (by rfl) ?_
    | refine SL_fieldAddr (by decide) (by rfl) (fldF (by rfl)) ?_
    | refine SL_load_o (by decide) (by rfl) (by repeat (first | exact .head _ | refine .tail _ ?_)) (rowF (by rfl)) (by first | assumption | rfl | exact ps_get _ hlt) (by rfl) ?_
    | refine SC_cond_f (by rfl) ?_
    | (refine SC_skip' (fun tm σ hE hH => ?_); refine SC.app ?_ hE hH; clear hE hH; clear tm σ)
    | fail)
  refine SL_mul (by decide) (by rfl) (by rfl) (by omega) (by omega) ?_
  repeat' (first
    | refine SL_seq ?_
    | refine SL_assign (by decide) (by rfl) ?_
    | refine SC_ret (fun tm σ hE hH => Post.intro (Hn := []) (.inr rfl) hE hH (by rfl) trivial List.nodup_nil (fun p hp => (by cases hp)) ?_)
    | fail)
  exact ⟨rfl, rfl⟩
theorem count_f {G : Gl} (ho : ∀ a, G.orc 34 [a] = none) {f r : Int} (h75 : FnC Tryz.prog G 75 [sz f r] [] (fun v Hn => v = .s (.bool false) ∧ Hn = [])) : FnC Tryz.prog G 34 [sz f r] [] (fun v Hn => v = .s (.tuple #[.int .i64 0, .int .i64 2]) ∧ Hn = []) := by
  refine Fn_body (N := 12) (ho _) Tryz.func34 rfl rfl fun B => ?_
  repeat' (first
    | (refine SL_box (by decide) (by rfl) (by first | exact cells_2 _ _ | exact cells_b _ _ _) (fun b1 hid => ?_))
    | refine SL_load_or (by decide) (by rfl) (by repeat (first | exact .head _ | refine .tail _ ?_)) (rowF (by rfl)) (by rfl) (Nat.le_of_ble_eq_true (by rfl)) (by first | exact mk2 _ _ | exact mk2b _ _ _ | exact mkb _ _ _) ?_
    | (refine SL_call (by decide) (by rfl) bd75 (by rfl) (by rfl) (h75) trivial List.nodup_nil ?_; rintro _ _ _ ⟨rfl, rfl⟩; rw [List.nil_append])
    | refine SC_seq ?_
    | refine SC_region ?_
    | refine SL_seq ?_
    | refine SL_assign (by decide) (by rfl) ?_
    | refine SL_not_op (by decide) (by rfl) ?_
    | refine SC_cond_t (by rfl) ?_
    | refine SC_ret (fun tm σ hE hH => Post.intro (Hn := []) (.inr rfl) hE hH (by rfl) trivial List.nodup_nil (fun p hp => (by cases hp)) ?_)
    | fail)
  exact ⟨rfl, rfl⟩
end Go.Proofs.YtnhnlkljcfbhfaaGreatDoor
