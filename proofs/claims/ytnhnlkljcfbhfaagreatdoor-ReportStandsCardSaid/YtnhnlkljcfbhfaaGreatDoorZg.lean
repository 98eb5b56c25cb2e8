/- tiebreak.Standings. -/
import Derived.Test.YtnhnlkljcfbhfaaGreatDoorZf
import Derived.Shelf.Strings.Builder1
import Derived.Shelf.Strings.Builder2
import Derived.Shelf.Strings.OnBuilder
import Derived.Shelf.Small.Bits
import Derived.Shelf.Utf8.RuneCount
import Derived.Shelf.Strconv.Atoi
import Derived.Shelf.Strconv.Itoa0
import Derived.Shelf.Strconv.Itoa1
import Derived.Shelf.LaysM
import Derived.Shelf.Strconv.Itoa2
import Derived.Shelf.Strconv.Itoa3
import Derived.Shelf.Strconv.AtoiErrFast
import Derived.Shelf.Strconv.ParseIntEmpty
import Derived.Shelf.Strconv.AtoiFail
import Derived.Shelf.Strconv.Clone
import Derived.Shelf.Strconv.SyntaxError
import Derived.Shelf.LaysC
import Derived.Shelf.Strconv.ToError
import Derived.Shelf.Strconv.Lower
import Derived.Shelf.Strconv.ParseUint10
import Derived.Shelf.Strconv.ParseUint10Empty
import Derived.Shelf.Strconv.ParseUint10Any
import Derived.Shelf.Strconv.ParseInt10
import Derived.Shelf.Strconv.AtoiLong
import Derived.Shelf.Strconv.AtoiInnerAll
import Derived.Shelf.Strconv.RangeError
import Derived.Shelf.Strconv.ToErrorRange
import Derived.Shelf.Strconv.AtoiAll
import Derived.Shelf.Strconv.ErrVarAll
import Derived.Shelf.Strings.Search1
import Derived.Shelf.Strings.Search2
import Derived.Shelf.Strings.Search3
import Derived.Shelf.Strings.Cut
import Derived.Shelf.Strings.Count
import Derived.Shelf.Strings.Shaped
import Derived.Shelf.Strings.Split
import Derived.Shelf.Strings.SplitShaped
import Derived.Shelf.Unicode.Decode
import Derived.Shelf.Strings.RuneCount
import Derived.Shelf.Strings.Explode
import Derived.Shelf.Bits.Mul64
import Derived.Shelf.Unicode.DecodeSlow
import Derived.Shelf.Unicode.DecodeAny
import Derived.Ground.Names2Prog
import Derived.Shelf.Slices.ReverseS
import Derived.Shelf.Slices.SearchI
import Derived.Shelf.Slices.Cells
import Derived.Test.YtnhnlkljcfbhfaaGreatDoorProg
import Derived.Test.YtnhnlkljcfbhfaaGreatDoorZc
import Derived.Test.YtnhnlkljcfbhfaaGreatDoorRows
import Derived.Test.YtnhnlkljcfbhfaaGreatDoorZe
import Derived.Test.YtnhnlkljcfbhfaaGreatDoorZd
namespace Go.Proofs.YtnhnlkljcfbhfaaGreatDoor.Tb
open Go Go.Ab
attribute [local irreducible] SC SL wpc wpl wpd wpf wpy wpn FnC FnW RdW SD
set_option maxRecDepth 100000
set_option maxHeartbeats 4000000
abbrev nilV : AV := .s (.slice none 0 0)
def KR (K : Nat) (ids : List Nat) (x : AV) (m : Nat) : List (List AV) := krows K ids ++ [x] :: List.replicate m [nilV]
theorem KR_get (K : Nat) (ids : List Nat) (x : AV) {m i : Nat} (h : i = ids.length) : (KR K ids x m)[i]? = some [x] := by
  unfold KR krows; rw [List.getElem?_append_right (by simp; omega)]; simp [h]
theorem KR_set (K : Nat) (ids : List Nat) (x v : AV) {m i : Nat} (h : i = ids.length) : (KR K ids x m).set i (writeRow [x] 0 [v]) = KR K ids v m := by
  unfold KR krows; rw [List.set_append_right _ _ (by simp; omega)]; simp [h, writeRow]
theorem KR_0 (K : Nat) (ids : List Nat) (m : Nat) (h : 0 < m) : krows K ids ++ List.replicate m [nilV] = KR K ids nilV (m - 1) := by
  unfold KR; obtain ⟨j, rfl⟩ : ∃ j, m = j + 1 := ⟨m - 1, by omega⟩
  rw [List.replicate_succ]; rfl
theorem KR_end (K : Nat) (ids : List Nat) (id m : Nat) : KR K ids (.sl id 0 K none) m = krows K (ids ++ [id]) ++ List.replicate m [nilV] := by
  unfold KR krows; simp
def ordV (i : Nat) : Option Nat → AV
  | none => nilV
  | some o => .sl o 0 i none
def ordH (i : Nat) : Option Nat → List (Nat × AObj)
  | none => []
  | some o => [(o, .cells 3 1 false (ints (iota i)))]
theorem Keys.snoc {KH : List (Nat × AObj)} {i K : Nat} {ids : List Nat} {ek : Bool} {key : Nat → List Int} (h : Keys KH i K ids ek key) (hl : (key i).length = K) (cur : Nat) : Keys ((cur, .cells 3 1 ek (ints (key i))) :: KH) (i + 1) K (ids ++ [cur]) ek key where
  len := by rw [List.length_append, h.len]; rfl
  klen := fun j hj => by
    by_cases e : j = i
    · rw [e]; exact hl
    · exact h.klen j (by omega)
  mem := fun j id hj => by
    have hlen := h.len
    by_cases e : j < i
    · rw [List.getElem?_append_left (by omega)] at hj
      exact .tail _ (h.mem j id hj)
    · rw [List.getElem?_append_right (by omega)] at hj
      by_cases e2 : j = i
      · subst e2
        rw [hlen, Nat.sub_self] at hj
        simp at hj; subst hj
        exact .head _
      · rw [List.getElem?_eq_none (by simp; omega)] at hj
        cases hj
theorem standT_fn {G : Gl} {rs : List (List Sc)} {ra : AV} {xs : List AV} (h : RV rs ra xs) (hf : ∀ gs ∈ rs, gs.length ≤ 12) (ho : ∀ f x y, offT f = true → G.orc f (x :: y) = none) {n : Nat} (hv : VOk n rs) (hr : rs.length ≤ 10) {ka : AV} {ks : List Int} (hk : SlV 1 ka (ints ks)) (hkc : ∀ ad cap, ka = .rsl ad 1 cap (ints ks) → ks.length ≤ cap) (hkok : KOk ks) (hn24 : n ≤ 24) :
    FnC Tryz.prog G 26 [.s (.int .i64 n), ra, ka] [] (fun v Hn => ∃ oid pid ord pls, v = .tup [.sl oid 0 n none, .sl pid 0 n none, .s (.int .i64 0)] ∧ Hn = [(oid, .cells 3 1 false (ints ord)), (pid, .cells 3 1 true (ints pls))] ∧ ord.Perm (iota n) ∧ SortIn (ltK (keyOf rs ks)) ord 0 n ∧ pls.length = n ∧ ∀ a, a < n → pls.getD (ord.getD a 0).toNat 0 = plOf (keyOf rs ks) ord a) := by
  have hil := ints_len ks
  have hst := hkok.st
  have hk7 := hkok.2.2
  have h11 : FnC Tryz.prog G 55 [.s (.int .i64 n), ra] [] (fun v Hn => v = .s (.bool true) ∧ Hn = []) := by
    have := valid_fn h n (G := G) (ho _ _ _ (by rfl))
    rw [validB_t hv] at this; exact this
  have h27 : ∀ k ∈ ks, FnC Tryz.prog G 56 [.s (.int .i64 k)] [] (fun v Hn => v = .s (.bool true) ∧ Hn = []) := fun k hkm => by
    have := known27 (G := G) ho k
    rw [decide_eq_true (hkok.1 k hkm)] at this; exact this
  have h26 := scores_fn h hf hv (G := G) (ho _ _ _ (by rfl)) (fun _ => ho _ _ _ (by rfl)) (fun _ _ _ => ho _ _ _ (by rfl))
  have hn2 := hv.1
  have hgok : ∀ gs ∈ rs, ∀ g ∈ gs, GOk n g := fun gs hgs g hgg => (hv.2.2.2 gs hgs).1 g hgg
  have hgp : ∀ gs ∈ rs, ∀ g ∈ gs, 0 ≤ g.p ∧ g.p ≤ 2 := fun gs hgs g hgg => (hgok gs hgs g hgg).2.2.2.2
  have h28A : ∀ i : Nat, i < n → ∀ (ida j : Nat), j < ks.length → FnC Tryz.prog G 59 [.sl ida 0 n none, ra, .s (.int .i64 (ks.getD j 0)), .s (.int .i64 i)] [(ida, .cells 3 1 true (tab n (fun x => sumT rs x)))] (fun v Hn => v = .s (.int .i64 (kval rs i (ks.getD j 0))) ∧ Hn = []) := fun i hi ida j hj => by
    have h1 := evU_one hv.2.2.2 i (by omega) rs.length (Nat.le_refl _)
    have h2 := foesL_le (fun x => sumT rs x) (evU rs i rs.length)
    have hkj := hkok.1 _ (getD_mem hj)
    have h28 := value_fn (G := G) h hgp ho (fun x => sumT rs x) (sumT_F hf hv) i hi (evU_lt hgok i rs.length (Nat.le_refl _)) (by omega) (by omega) (by omega) (ks.getD j 0).toNat (by omega) (by omega) ida
    rw [show (((ks.getD j 0).toNat : Nat) : Int) = ks.getD j 0 by omega] at h28
    exact h28.mono fun v Hn ⟨m, hv1, hv2, hv3⟩ => ⟨by rw [hv1, tie_eq (evU_bd hgp i rs.length (Nat.le_refl _)) hv2]; rfl, hv3⟩
  refine Fn_body (N := 137) (ho _ _ _ (by rfl)) Tryz.func26 rfl rfl fun B => ?_
  repeat' (first
    | refine SL_len_v (by decide) (by rfl) hk (by rfl) sl64 hil ?_
    | (refine SL_call (by decide) (by rfl) bd11 (by rfl) (by rfl) (h11) trivial List.nodup_nil ?_; rintro _ _ _ ⟨rfl, rfl⟩; rw [List.nil_append])
    | refine SC_seq ?_
    | refine SC_block ?_
    | refine SC_region ?_
    | refine SL_seq ?_
    | refine SL_run (by rfl) (by rfl) ?_
    | refine SL_move (by decide) (by rfl) ?_
    | refine SL_assign (by decide) (by rfl) ?_
    | refine SL_pick_f (by decide) (by rfl) (by rfl) ?_
    | refine SL_not_op (by decide) (by rfl) ?_
    | (refine SL_gtr (by decide) (by rfl) (by rfl) (fun hT => ?_) (fun hT => ?_) <;> first | (exfalso; omega) | skip)
    | refine SC_cond_f (by rfl) ?_
    | (refine SC_skip' (fun tm σ hE hH => ?_); refine SC.app ?_ hE hH; clear hE hH; clear tm σ)
    | fail)
  refine SC_loop (fun j : Nat => [(0, .s (.int .i64 n)), (1, ra), (2, ka), (6, nilV), (7, nilV), (27, ka), (28, .s (.int .i64 ks.length)), (29, .s (.int .i64 j))]) (fun _ => []) (fun _ => []) (fun j => j ≤ ks.length) (fun j => ks.length - j) 0 (by omega) ⟨rfl, rfl, rfl, rfl, rfl, rfl, rfl, rfl, trivial⟩ trivial List.nodup_nil rfl ?_
  intro j hj
  by_cases hjlt : j < ks.length
  · obtain ⟨ad, cap, rfl⟩ : ∃ ad cap, ka = .rsl ad 1 cap (ints ks) := by
      generalize hrw : ints ks = rows at hk
      cases hk with
      | nil => rw [hrw] at hil; simp at hil; omega
      | rsl hp => exact ⟨_, _, rfl⟩
    have hcap := hkc ad cap rfl
    have hcon : ∀ j, j < ks.length → FnC Tryz.prog G 57 [.rsl ad 1 cap ((ints ks).take j), .s (.int .i64 (ks.getD j 0))] [] (fun v Hn => v = .s (.bool false) ∧ Hn = []) := fun j hj => by
      have := contains_fn (G := G) ho (ks.take j) (by rw [List.length_take]; omega) ad cap (ks.getD j 0)
      rw [show ints (ks.take j) = (ints ks).take j by unfold ints; rw [List.map_take]] at this
      rw [decide_eq_false (fun hm => by
        obtain ⟨i, h1, h2, h3⟩ := take_mem.1 hm
        exact (hst j hj).2 i h1 h3)] at this
      exact this
    repeat' (first
      | refine SL_indexAddr_v (by decide) (by rfl) (by rfl) hk sl64 j (by omega) (by omega) (fun ad => ?_)
      | refine SL_slice_r (i := j) (by decide) (by rfl) (by rfl) sl64 (by rfl) (by omega) (by omega) ?_
      | (refine SL_call (by decide) (by rfl) bd29 (by rfl) (by rfl) (hcon j (by omega)) trivial List.nodup_nil ?_; rintro _ _ _ ⟨rfl, rfl⟩; rw [List.nil_append])
      | (refine SL_call (by decide) (by rfl) bd27 (by rfl) (by rfl) (h27 _ (getD_mem (by omega))) trivial List.nodup_nil ?_; rintro _ _ _ ⟨rfl, rfl⟩; rw [List.nil_append])
      | refine SC_seq ?_
      | refine SC_block ?_
      | refine SC_region ?_
      | refine SL_seq ?_
      | refine SL_run (by rfl) (by rfl) ?_
      | refine SL_move (by decide) (by rfl) ?_
      | refine SL_assign (by decide) (by rfl) ?_
      | refine SL_pick_f (by decide) (by rfl) (by rfl) ?_
      | refine SL_not_op (by decide) (by rfl) ?_
      | refine SL_add (by decide) (by rfl) (by rfl) (by omega) (by omega) ?_
      | (refine SL_lss (by decide) (by rfl) (by rfl) (fun hT => ?_) (fun hT => ?_) <;> first | (exfalso; omega) | skip)
      | refine SL_load_r (by decide) (by rfl) (rowF (by rfl)) (by first | assumption | rfl | exact ints_getD _ (by omega) | exact tab_get _ _ (by omega) | exact ints_getD _ (by rw [List.length_set]; omega) | exact KR_get _ _ _ (by omega)) (by rfl) ?_
      | refine SC_cond_t (by rfl) ?_
      | refine SC_cond_f (by rfl) ?_
      | (refine SC_skip' (fun tm σ hE hH => ?_); refine SC.app ?_ hE hH; clear hE hH; clear tm σ)
      | fail)
    exact SL_nil fun tm σ hE hH => ⟨j + 1, by omega, by omega, tm, σ, rfl, hE.sub ⟨rfl, rfl, rfl, rfl, rfl, rfl, rfl, rfl, trivial⟩, hH⟩
  obtain rfl : j = ks.length := by omega
  repeat' (first
    | (refine SL_call (by decide) (by rfl) bd26 (by rfl) (by rfl) h26 trivial List.nodup_nil ?_; rintro _ _ hB26 ⟨ida, rfl, rfl⟩; simp only [List.cons_append, List.nil_append])
    | refine SC_seq ?_
    | refine SC_block ?_
    | refine SC_region ?_
    | refine SL_seq ?_
    | refine SL_move (by decide) (by rfl) ?_
    | refine SL_assign (by decide) (by rfl) ?_
    | (refine SL_lss (by decide) (by rfl) (by rfl) (fun hT => ?_) (fun hT => ?_) <;> first | (exfalso; omega) | skip)
    | refine SL_len_sl (by decide) (by rfl) (by rfl) (sliceOf_spec (slF (by rfl))).1 ?_
    | refine SL_load_o (by decide) (by rfl) (by repeat (first | exact .head _ | refine .tail _ ?_)) (rowF (by rfl)) (by first | assumption | rfl | exact ints_getD _ (by omega) | exact tab_get _ _ (by omega) | exact ints_getD _ (by rw [List.length_set]; omega) | exact KR_get _ _ _ (by omega)) (by rfl) ?_
    | refine SL_store_box (by rfl) (by rfl) (by first | exact cells_3 _ _ _ | rfl) (by repeat (first | exact .head | apply Upd.tail)) (by first | exact .inl (by assumption) | exact .inr (by simp)) (by rfl) (szF (by rfl)) (by rfl) ?_
    | refine SL_alloc (by decide) (zeroF (by rfl)) (fun id hid => ?_)
    | refine SL_makeSlice (by decide) (by rfl) (by rfl) (elF (by rfl)) (by omega) (by omega) (by omega) (by omega) (fun id hid => ?_)
    | refine SC_cond_f (by rfl) ?_
    | (refine SC_exit (fun tm σ hE hH => ?_); refine SC.app ?_ hE hH; clear hE hH; clear tm σ)
    | fail)
  rename_i kid hkid
  obtain ⟨kb, hkb, rfl⟩ : ∃ b, B.next ≤ b ∧ b = id := ⟨id, hid, rfl⟩
  refine SC_nd fun hnd0 => ?_
  have hidaB : B.next ≤ ida := hB26 (ida, _) (.head _)
  refine SC_loop (fun u : Nat × List Nat × List (Nat × AObj) × Option Nat => [(0, .s (.int .i64 n)), (1, ra), (2, ka), (6, ordV u.1 u.2.2.2), (7, nilV), (11, .sl ida 0 n none), (12, .ptr kb 0 0), (51, .s (.int .i64 n)), (52, .s (.int .i64 u.1))])
    (fun u => (kb, .cells 112 1 true [[.sl kid 0 n none]]) :: (kid, .cells 52 1 true (krows (1 + ks.length) u.2.1 ++ List.replicate (n - u.1) [nilV])) :: (ida, .cells 3 1 true (tab n (fun x => sumT rs x))) :: (ordH u.1 u.2.2.2 ++ u.2.2.1)) (fun _ => [])
    (fun u => u.1 ≤ n ∧ Keys u.2.2.1 u.1 (1 + ks.length) u.2.1 ks.isEmpty (keyOf rs ks) ∧ (u.2.2.2 = none → u.1 = 0) ∧ ∀ o, u.2.2.2 = some o → B.next ≤ o) (fun u => n - u.1) (0, [], [], none)
    ⟨Nat.zero_le _, ⟨rfl, fun i hi => absurd hi (Nat.not_lt_zero _), fun i id hi => (by cases hi)⟩, fun _ => rfl, fun o h => (by cases h)⟩ ⟨rfl, rfl, rfl, rfl, rfl, rfl, rfl, rfl, rfl, trivial⟩ (.refl _) hnd0 rfl ?_
  rintro ⟨i, ids, KH, oid⟩ ⟨hi, hkeys, ho0, hoo⟩
  dsimp only at hi hkeys ho0 hoo ⊢
  have hidl := hkeys.len
  by_cases hilt : i < n
  · rw [KR_0 _ _ _ (by omega)]
    repeat' (first
      | refine SD_op (i := 8) [kid, base + 6] [] (by rfl) (by rfl) (fun x hx => List.mem_cons_of_mem _ hx) (fun p hp => by cases hp) (fun k hk => by cases hk) (.inl rfl) ?_
      | refine SD_build1 (i := 6) (by rfl) (by rfl) (by decide) (by rfl) el52 (by rfl) (fun p hp => by cases hp) (by simp) (fun hm => hnotbase hb4 hm) (by simp at hb2; omega) (hb3 _ (by omega)) ?_
      | (refine SC_drawn (id := 14) (pl := [(0, []), (1, []), (2, []), (3, []), (4, []), (5, []), (6, []), (7, []), (8, [])]) (by kernel_rfl) (by kernel_rfl) ?_; intro B' base hb1 hb2 hb3 hb4)
      | refine SC_seq ?_
      | refine SC_block ?_
      | refine SC_region ?_
      | refine SL_seq ?_
      | refine SL_move (by decide) (by rfl) ?_
      | refine SL_assign (by decide) (by rfl) ?_
      | (refine SL_lss (by decide) (by rfl) (by rfl) (fun hT => ?_) (fun hT => ?_) <;> first | (exfalso; omega) | skip)
      | refine SL_indexAddr_0 (by decide) (by rfl) (by rfl) (by repeat (first | exact .head _ | refine .tail _ ?_)) (slF (by rfl)) _ (by first | rfl | exact (Int.toNat_of_nonneg (by omega)).symm) (by omega) ?_
      | refine SL_load_o (by decide) (by rfl) (by repeat (first | exact .head _ | refine .tail _ ?_)) (rowF (by rfl)) (by first | assumption | rfl | exact ints_getD _ (by omega) | exact tab_get _ _ (by omega) | exact ints_getD _ (by rw [List.length_set]; omega) | exact KR_get _ _ _ (by omega)) (by rfl) ?_
      | refine SL_store_n (by rfl) (by rfl) (by repeat (first | exact .head _ | refine .tail _ ?_)) (by first | assumption | rfl | exact ints_getD _ (by omega) | exact tab_get _ _ (by omega) | exact ints_getD _ (by rw [List.length_set]; omega) | exact KR_get _ _ _ (by omega)) (by rfl) (by first | exact KR_set _ _ _ _ (by omega) | exact ints_set _ _ _ _ | rfl) (by repeat (first | exact .head | apply Upd.tail)) (by first | exact .inl (by assumption) | exact .inr (by simp)) (szF (by rfl)) (Nat.le_of_ble_eq_true (by rfl)) (by rfl) ?_
      | refine SC_cond_t (by rfl) ?_
      | (refine SC_skip' (fun tm σ hE hH => ?_); refine SC.app ?_ hE hH; clear hE hH; clear tm σ)
      | (refine SL_nil (fun tm σ hE hH => ⟨_, _, _, _, rfl, hE, hH, ?_⟩); clear hE hH; clear tm σ)
      | refine SD_op _ [] (by rfl) (by rfl) (fun _ h => h) (fun p hp => by cases hp) (fun k hk => by cases hk) (.inl rfl) ?_
      | fail)
    refine SD_nil fun tm2 σ2 hE2 hH2 => ⟨_, _, _, _, _, rfl, hE2, hH2, fun q hq => ?_, fun tm3 σ3 hE3 hH3 => ?_⟩
    · simp only [List.mem_cons, List.not_mem_nil, or_false] at hq
      rcases hq with rfl | rfl
      · exact .inl hkid
      · exact .inl (by omega)
    have hbase : B.next ≤ base + 6 := by omega
    refine SC.app ?_ hE3 hH3
    clear hE2 hH2 hE3 hH3 hb3 hb4
    clear tm2 σ2 tm3 σ3
    repeat' (first
      | refine SL_len_v (by decide) (by rfl) hk (by rfl) sl64 hil ?_
      | refine SC_seq ?_
      | refine SC_block ?_
      | refine SC_region ?_
      | refine SL_seq ?_
      | refine SL_move (by decide) (by rfl) ?_
      | fail)
    have h28 := h28A i hilt
    refine SC_nd fun hnd1 => ?_
    refine SC_loop (fun v : Nat × Nat × Bool => [(0, .s (.int .i64 n)), (1, ra), (2, ka), (6, ordV i oid), (7, nilV), (11, .sl ida 0 n none), (12, .ptr kb 0 0), (13, .s (.int .i64 i)), (51, .s (.int .i64 n)), (52, .s (.int .i64 i)), (63, ka), (64, .s (.int .i64 ks.length)), (65, .s (.int .i64 v.1))])
      (fun v => (v.2.1, .cells 3 1 v.2.2 (ints ((keyOf rs ks i).take (1 + v.1)))) :: (kb, .cells 112 1 true [[.sl kid 0 n none]]) :: (kid, .cells 52 1 true (KR (1 + ks.length) ids (.sl v.2.1 0 (1 + v.1) none) (n - i - 1))) :: (ida, .cells 3 1 true (tab n (fun x => sumT rs x))) :: (ordH i oid ++ KH)) (fun _ => [])
      (fun v => v.1 ≤ ks.length ∧ v.2.2 = decide (v.1 = 0) ∧ B.next ≤ v.2.1) (fun v => ks.length - v.1) (0, base + 6, true) ⟨Nat.zero_le _, rfl, hbase⟩ ⟨rfl, rfl, rfl, rfl, rfl, rfl, rfl, rfl, rfl, rfl, rfl, rfl, rfl, trivial⟩ (.refl _) hnd1 rfl ?_
    clear hnd1 hbase
    rintro ⟨j, cur, e⟩ ⟨hj, he, hcur⟩
    dsimp only at hj he hcur ⊢
    by_cases hjlt : j < ks.length
    · refine SC_nd fun hnd2 => ?_
      have hne1 : cur ≠ kb := fun e => (List.nodup_cons.1 hnd2).1 (by rw [e]; exact .head _)
      have hne2 : cur ≠ kid := fun e => (List.nodup_cons.1 hnd2).1 (by rw [e]; exact .tail _ (.head _))
      by_cases hj0 : j = 0
      · obtain rfl : e = true := by rw [he, hj0]; rfl
        repeat' (first
          | (refine SL_append1_grow (len := 1 + j) (by decide) (by rfl) (by rfl) (.tail _ (.head _)) (by rw [ints_len, List.length_take, keyOf_len]; omega) (.head _) el52 (sliceOf_spec sl52).1 (by rfl) (by omega) (by omega) (fun id hid => ?_))
          | (refine SL_call (by decide) (by rfl) bd28 (by rfl) (by rfl) (h28 ida j hjlt) ⟨.tail _ (.tail _ (.tail _ (.head _))), trivial⟩ (by simp) ?_; rintro _ _ _ ⟨rfl, rfl⟩; rw [List.nil_append])
          | refine SD_op (i := 14) [kid, cur, base + 11] [(5, kid), (4, kid), (2, kb), (0, kb)] (by rfl) (by rfl) (fun x hx => List.mem_cons_of_mem _ hx) (fun p hp => by simp only [List.mem_cons, List.not_mem_nil, or_false] at hp; rcases hp with rfl | rfl | rfl | rfl <;> simp) (fun k hk => by cases hk) (.inl rfl) ?_
          | refine SD_op (i := 13) [cur, base + 11] [(5, kid), (4, kid), (2, kb), (0, kb)] (by rfl) (by rfl) (fun _ h => h) (fun p hp => by simp only [List.mem_cons, List.not_mem_nil, or_false] at hp; rcases hp with rfl | rfl | rfl | rfl <;> simp) (fun k hk => by cases hk) (.inl rfl) ?_
          | refine SD_op (i := 12) [cur, base + 11] [(5, kid), (4, kid), (2, kb), (0, kb)] (by rfl) (by rfl) (fun x hx => List.mem_cons_of_mem _ hx) (fun p hp => by simp only [List.mem_cons, List.not_mem_nil, or_false] at hp; rcases hp with rfl | rfl | rfl | rfl <;> simp) (fun k hk => by rw [List.mem_singleton] at hk; subst hk; exact ⟨kb, by simp, by simp only [List.mem_cons, List.not_mem_nil, or_false]; omega, by omega⟩) (.inl rfl) ?_
          | refine SD_build1 (i := 11) (by rfl) (by rfl) (by decide) (by rfl) el52 (by rfl) (fun p hp => by simp only [List.mem_cons, List.not_mem_nil, or_false] at hp; rcases hp with rfl | rfl | rfl | rfl <;> simp) (by simp) (fun hm => hnotbase hb4 hm) (by omega) (hb3 _ (by omega)) ?_
          | refine SD_op (i := 10) [] [(5, kid), (4, kid), (2, kb), (0, kb)] (by rfl) (by rfl) (fun _ h => h) (fun p hp => by simp only [List.mem_cons, List.not_mem_nil, or_false] at hp; rcases hp with rfl | rfl | rfl | rfl <;> simp) (fun k hk => by simp only [List.mem_cons, List.not_mem_nil, or_false] at hk; rcases hk with rfl | rfl | rfl | rfl; exact ⟨kid, .head _, by simp, by omega⟩; exact ⟨kid, .tail _ (.head _), by simp, by omega⟩; exact ⟨kb, .tail _ (.tail _ (.head _)), by simp, by omega⟩; exact ⟨kb, .tail _ (.tail _ (.tail _ (.head _))), by simp, by omega⟩) (.inl rfl) ?_
          | refine SD_op (i := 9) [] [(5, kid), (4, kid), (2, kb), (0, kb)] (by rfl) (by rfl) (fun _ h => h) (fun p hp => by simp only [List.mem_cons, List.not_mem_nil, or_false] at hp; rcases hp with rfl | rfl | rfl | rfl <;> simp) (fun k hk => by cases hk) (.inl rfl) ?_
          | refine SD_op (i := 8) [] [(5, kid), (4, kid), (2, kb), (0, kb)] (by rfl) (by rfl) (fun _ h => h) (fun p hp => by simp only [List.mem_cons, List.not_mem_nil, or_false] at hp; rcases hp with rfl | rfl | rfl | rfl <;> simp) (fun k hk => by cases hk) (.inl rfl) ?_
          | refine SD_op (i := 7) [] [(5, kid), (4, kid), (2, kb), (0, kb)] (by rfl) (by rfl) (fun _ h => h) (fun p hp => by simp only [List.mem_cons, List.not_mem_nil, or_false] at hp; rcases hp with rfl | rfl | rfl | rfl <;> simp) (fun k hk => by cases hk) (.inl rfl) ?_
          | refine SD_op (i := 6) [] [(5, kid), (4, kid), (2, kb), (0, kb)] (by rfl) (by rfl) (fun _ h => h) (fun p hp => by simp only [List.mem_cons, List.not_mem_nil, or_false] at hp; rcases hp with rfl | rfl | rfl | rfl <;> simp) (fun k hk => by cases hk) (.inl rfl) ?_
          | refine SD_op (i := 5) [] [(5, kid), (4, kid), (2, kb), (0, kb)] (by rfl) (by rfl) (fun _ h => h) (fun p hp => by simp only [List.mem_cons, List.not_mem_nil, or_false] at hp; rcases hp with rfl | rfl | rfl <;> simp) (fun k hk => by cases hk) (.inr ⟨.tmp 73, .ptr kid i 0, kid, rfl, rfl, rfl, by simp, by omega, rfl⟩) ?_
          | refine SD_op (i := 4) [] [(4, kid), (2, kb), (0, kb)] (by rfl) (by rfl) (fun _ h => h) (fun p hp => by simp only [List.mem_cons, List.not_mem_nil, or_false] at hp; rcases hp with rfl | rfl <;> simp) (fun k hk => by cases hk) (.inr ⟨.tmp 71, .sl kid 0 n none, kid, rfl, rfl, rfl, by simp, by omega, rfl⟩) ?_
          | refine SD_op (i := 3) [] [(2, kb), (0, kb)] (by rfl) (by rfl) (fun _ h => h) (fun p hp => by simp only [List.mem_cons, List.not_mem_nil, or_false] at hp; rcases hp with rfl | rfl <;> simp) (fun k hk => by cases hk) (.inl rfl) ?_
          | refine SD_op (i := 2) [] [(2, kb), (0, kb)] (by rfl) (by rfl) (fun _ h => h) (fun p hp => by simp only [List.mem_cons, List.not_mem_nil, or_false] at hp; rcases hp with rfl <;> simp) (fun k hk => by cases hk) (.inr ⟨.tmp 12, .ptr kb 0 0, kb, rfl, rfl, rfl, by simp, by omega, rfl⟩) ?_
          | refine SD_op (i := 1) [] [(0, kb)] (by rfl) (by rfl) (fun _ h => h) (fun p hp => by simp only [List.mem_cons, List.not_mem_nil, or_false] at hp; rcases hp with rfl <;> simp) (fun k hk => by cases hk) (.inl rfl) ?_
          | refine SD_op (i := 0) [] [(0, kb)] (by rfl) (by rfl) (fun _ h => h) (fun p hp => by cases hp) (fun k hk => by cases hk) (.inr ⟨.tmp 12, .ptr kb 0 0, kb, rfl, rfl, rfl, by simp, by omega, rfl⟩) ?_
          | (refine SC_drawn (id := 18) (pl := [(0, []), (1, []), (2, []), (3, []), (4, []), (5, []), (6, []), (7, []), (8, []), (9, []), (10, [5, 4, 2, 0]), (11, []), (12, [0]), (13, []), (14, [])]) (by kernel_rfl) (by kernel_rfl) ?_; intro B2 base hb1 hb2 hb3 hb4; have hkblt : kb < base := hb4 (kb, _) (.tail _ (.head _)); have hkidlt : kid < base := hb4 (kid, _) (.tail _ (.tail _ (.head _))); have hcurlt : cur < base := hb4 (cur, _) (.head _); have hB2 : base + 15 ≤ B2.next := hb2)
          | refine SL_indexAddr_v (by decide) (by rfl) (by rfl) hk sl64 j (by omega) (by omega) (fun ad => ?_)
          | refine SC_seq ?_
          | refine SC_block ?_
          | refine SC_region ?_
          | refine SL_seq ?_
          | refine SL_move (by decide) (by rfl) ?_
          | refine SL_assign (by decide) (by rfl) ?_
          | (refine SL_lss (by decide) (by rfl) (by rfl) (fun hT => ?_) (fun hT => ?_) <;> first | (exfalso; omega) | skip)
          | refine SL_indexAddr_0 (by decide) (by rfl) (by rfl) (by repeat (first | exact .head _ | refine .tail _ ?_)) (slF (by rfl)) _ (by first | rfl | exact (Int.toNat_of_nonneg (by omega)).symm) (by omega) ?_
          | refine SL_load_r (by decide) (by rfl) (rowF (by rfl)) (by first | assumption | rfl | exact ints_getD _ (by omega) | exact tab_get _ _ (by omega) | exact ints_getD _ (by rw [List.length_set]; omega) | exact KR_get _ _ _ (by omega)) (by rfl) ?_
          | refine SL_load_o (by decide) (by rfl) (by repeat (first | exact .head _ | refine .tail _ ?_)) (rowF (by rfl)) (by first | assumption | rfl | exact ints_getD _ (by omega) | exact tab_get _ _ (by omega) | exact ints_getD _ (by rw [List.length_set]; omega) | exact KR_get _ _ _ (by omega)) (by rfl) ?_
          | refine SL_store_n (by rfl) (by rfl) (by repeat (first | exact .head _ | refine .tail _ ?_)) (by first | assumption | rfl | exact ints_getD _ (by omega) | exact tab_get _ _ (by omega) | exact ints_getD _ (by rw [List.length_set]; omega) | exact KR_get _ _ _ (by omega)) (by rfl) (by first | exact KR_set _ _ _ _ (by omega) | exact ints_set _ _ _ _ | rfl) (by repeat (first | exact .head | apply Upd.tail)) (by first | exact .inl (by assumption) | exact .inr (by simp)) (szF (by rfl)) (Nat.le_of_ble_eq_true (by rfl)) (by rfl) ?_
          | refine SC_cond_t (by rfl) ?_
          | (refine SC_skip' (fun tm σ hE hH => ?_); refine SC.app ?_ hE hH; clear hE hH; clear tm σ)
          | (refine SL_nil (fun tm σ hE hH => ⟨_, _, _, _, rfl, hE, hH, ?_⟩); clear hE hH; clear tm σ)
          | fail)
        refine SD_nil fun tm2 σ2 hE2 hH2 => ⟨_, _, _, _, _, rfl, hE2, hH2, fun q hq => ?_, fun tm3 σ3 hE3 hH3 => ?_⟩
        · simp only [List.mem_cons, List.not_mem_nil, or_false] at hq
          rcases hq with rfl | rfl | rfl
          · exact .inl hkid
          · exact .inl hcur
          · exact .inl (by omega)
        have hidB : B.next ≤ id := by omega
        refine SC.app ?_ hE3 hH3
        clear hE2 hH2 hE3 hH3 hb3 hb4
        clear tm2 σ2 tm3 σ3
        repeat' (first
          | refine SC_region ?_
          | refine SL_move (by decide) (by rfl) ?_
          | refine SL_add (by decide) (by rfl) (by rfl) (by omega) (by omega) ?_
          | fail)
        have htk : ints ((keyOf rs ks i).take (1 + j)) ++ [[AV.s (.int .i64 (kval rs i (ks.getD j 0)))]] = ints ((keyOf rs ks i).take (1 + (j + 1))) := by
          rw [ints_snoc, show 1 + (j + 1) = (1 + j) + 1 by omega, List.take_succ_eq_append_getElem (by rw [keyOf_len]; omega)]
          congr 3
          unfold keyOf
          simp only [show 1 + j = j + 1 by omega, List.getElem_cons_succ, List.getElem_map]
          rw [getD_at _ hjlt]
        refine SL_nil fun tm σ hE hH => ⟨(j + 1, id, false), by show ks.length - (j + 1) < ks.length - j; omega, ⟨by show j + 1 ≤ _; omega, by simp, hidB⟩, tm, σ, rfl, hE.sub ⟨rfl, rfl, rfl, rfl, rfl, rfl, rfl, rfl, rfl, rfl, rfl, rfl, rfl, trivial⟩, ?_⟩
        dsimp only
        rw [← htk]
        exact hH.subl (.cons_cons _ (.cons _ (.cons _ (.refl _))))
      · obtain rfl : e = false := by rw [he]; exact decide_eq_false hj0
        repeat' (first
          | (refine SL_append1_own (len := 1 + j) (by decide) (by rfl) (by rfl) (.tail .head) (by rw [ints_len, List.length_take, keyOf_len]; omega) (.inr (by simp)) (.head _) el52 (sliceOf_spec sl52).1 (by rfl) (by omega) (by omega) (fun id hid => ?_))
          | (refine SL_call (by decide) (by rfl) bd28 (by rfl) (by rfl) (h28 ida j hjlt) ⟨.tail _ (.tail _ (.tail _ (.head _))), trivial⟩ (by simp) ?_; rintro _ _ _ ⟨rfl, rfl⟩; rw [List.nil_append])
          | refine SD_op (i := 14) [kid, cur, base + 11] [(5, kid), (4, kid), (2, kb), (0, kb)] (by rfl) (by rfl) (fun x hx => List.mem_cons_of_mem _ hx) (fun p hp => by simp only [List.mem_cons, List.not_mem_nil, or_false] at hp; rcases hp with rfl | rfl | rfl | rfl <;> simp) (fun k hk => by cases hk) (.inl rfl) ?_
          | refine SD_op (i := 13) [cur, base + 11] [(5, kid), (4, kid), (2, kb), (0, kb)] (by rfl) (by rfl) (fun _ h => h) (fun p hp => by simp only [List.mem_cons, List.not_mem_nil, or_false] at hp; rcases hp with rfl | rfl | rfl | rfl <;> simp) (fun k hk => by cases hk) (.inl rfl) ?_
          | refine SD_op (i := 12) [cur, base + 11] [(5, kid), (4, kid), (2, kb), (0, kb)] (by rfl) (by rfl) (fun x hx => List.mem_cons_of_mem _ hx) (fun p hp => by simp only [List.mem_cons, List.not_mem_nil, or_false] at hp; rcases hp with rfl | rfl | rfl | rfl <;> simp) (fun k hk => by rw [List.mem_singleton] at hk; subst hk; exact ⟨kb, by simp, by simp only [List.mem_cons, List.not_mem_nil, or_false]; omega, by omega⟩) (.inl rfl) ?_
          | refine SD_build1 (i := 11) (by rfl) (by rfl) (by decide) (by rfl) el52 (by rfl) (fun p hp => by simp only [List.mem_cons, List.not_mem_nil, or_false] at hp; rcases hp with rfl | rfl | rfl | rfl <;> simp) (by simp) (fun hm => hnotbase hb4 hm) (by omega) (hb3 _ (by omega)) ?_
          | refine SD_op (i := 10) [] [(5, kid), (4, kid), (2, kb), (0, kb)] (by rfl) (by rfl) (fun _ h => h) (fun p hp => by simp only [List.mem_cons, List.not_mem_nil, or_false] at hp; rcases hp with rfl | rfl | rfl | rfl <;> simp) (fun k hk => by simp only [List.mem_cons, List.not_mem_nil, or_false] at hk; rcases hk with rfl | rfl | rfl | rfl; exact ⟨kid, .head _, by simp, by omega⟩; exact ⟨kid, .tail _ (.head _), by simp, by omega⟩; exact ⟨kb, .tail _ (.tail _ (.head _)), by simp, by omega⟩; exact ⟨kb, .tail _ (.tail _ (.tail _ (.head _))), by simp, by omega⟩) (.inl rfl) ?_
          | refine SD_op (i := 9) [] [(5, kid), (4, kid), (2, kb), (0, kb)] (by rfl) (by rfl) (fun _ h => h) (fun p hp => by simp only [List.mem_cons, List.not_mem_nil, or_false] at hp; rcases hp with rfl | rfl | rfl | rfl <;> simp) (fun k hk => by cases hk) (.inl rfl) ?_
          | refine SD_op (i := 8) [] [(5, kid), (4, kid), (2, kb), (0, kb)] (by rfl) (by rfl) (fun _ h => h) (fun p hp => by simp only [List.mem_cons, List.not_mem_nil, or_false] at hp; rcases hp with rfl | rfl | rfl | rfl <;> simp) (fun k hk => by cases hk) (.inl rfl) ?_
          | refine SD_op (i := 7) [] [(5, kid), (4, kid), (2, kb), (0, kb)] (by rfl) (by rfl) (fun _ h => h) (fun p hp => by simp only [List.mem_cons, List.not_mem_nil, or_false] at hp; rcases hp with rfl | rfl | rfl | rfl <;> simp) (fun k hk => by cases hk) (.inl rfl) ?_
          | refine SD_op (i := 6) [] [(5, kid), (4, kid), (2, kb), (0, kb)] (by rfl) (by rfl) (fun _ h => h) (fun p hp => by simp only [List.mem_cons, List.not_mem_nil, or_false] at hp; rcases hp with rfl | rfl | rfl | rfl <;> simp) (fun k hk => by cases hk) (.inl rfl) ?_
          | refine SD_op (i := 5) [] [(5, kid), (4, kid), (2, kb), (0, kb)] (by rfl) (by rfl) (fun _ h => h) (fun p hp => by simp only [List.mem_cons, List.not_mem_nil, or_false] at hp; rcases hp with rfl | rfl | rfl <;> simp) (fun k hk => by cases hk) (.inr ⟨.tmp 73, .ptr kid i 0, kid, rfl, rfl, rfl, by simp, by omega, rfl⟩) ?_
          | refine SD_op (i := 4) [] [(4, kid), (2, kb), (0, kb)] (by rfl) (by rfl) (fun _ h => h) (fun p hp => by simp only [List.mem_cons, List.not_mem_nil, or_false] at hp; rcases hp with rfl | rfl <;> simp) (fun k hk => by cases hk) (.inr ⟨.tmp 71, .sl kid 0 n none, kid, rfl, rfl, rfl, by simp, by omega, rfl⟩) ?_
          | refine SD_op (i := 3) [] [(2, kb), (0, kb)] (by rfl) (by rfl) (fun _ h => h) (fun p hp => by simp only [List.mem_cons, List.not_mem_nil, or_false] at hp; rcases hp with rfl | rfl <;> simp) (fun k hk => by cases hk) (.inl rfl) ?_
          | refine SD_op (i := 2) [] [(2, kb), (0, kb)] (by rfl) (by rfl) (fun _ h => h) (fun p hp => by simp only [List.mem_cons, List.not_mem_nil, or_false] at hp; rcases hp with rfl <;> simp) (fun k hk => by cases hk) (.inr ⟨.tmp 12, .ptr kb 0 0, kb, rfl, rfl, rfl, by simp, by omega, rfl⟩) ?_
          | refine SD_op (i := 1) [] [(0, kb)] (by rfl) (by rfl) (fun _ h => h) (fun p hp => by simp only [List.mem_cons, List.not_mem_nil, or_false] at hp; rcases hp with rfl <;> simp) (fun k hk => by cases hk) (.inl rfl) ?_
          | refine SD_op (i := 0) [] [(0, kb)] (by rfl) (by rfl) (fun _ h => h) (fun p hp => by cases hp) (fun k hk => by cases hk) (.inr ⟨.tmp 12, .ptr kb 0 0, kb, rfl, rfl, rfl, by simp, by omega, rfl⟩) ?_
          | (refine SC_drawn (id := 18) (pl := [(0, []), (1, []), (2, []), (3, []), (4, []), (5, []), (6, []), (7, []), (8, []), (9, []), (10, [5, 4, 2, 0]), (11, []), (12, [0]), (13, []), (14, [])]) (by kernel_rfl) (by kernel_rfl) ?_; intro B2 base hb1 hb2 hb3 hb4; have hkblt : kb < base := hb4 (kb, _) (.tail _ (.head _)); have hkidlt : kid < base := hb4 (kid, _) (.tail _ (.tail _ (.head _))); have hcurlt : cur < base := hb4 (cur, _) (.head _); have hB2 : base + 15 ≤ B2.next := hb2)
          | refine SL_indexAddr_v (by decide) (by rfl) (by rfl) hk sl64 j (by omega) (by omega) (fun ad => ?_)
          | refine SC_seq ?_
          | refine SC_block ?_
          | refine SC_region ?_
          | refine SL_seq ?_
          | refine SL_move (by decide) (by rfl) ?_
          | refine SL_assign (by decide) (by rfl) ?_
          | (refine SL_lss (by decide) (by rfl) (by rfl) (fun hT => ?_) (fun hT => ?_) <;> first | (exfalso; omega) | skip)
          | refine SL_indexAddr_0 (by decide) (by rfl) (by rfl) (by repeat (first | exact .head _ | refine .tail _ ?_)) (slF (by rfl)) _ (by first | rfl | exact (Int.toNat_of_nonneg (by omega)).symm) (by omega) ?_
          | refine SL_load_r (by decide) (by rfl) (rowF (by rfl)) (by first | assumption | rfl | exact ints_getD _ (by omega) | exact tab_get _ _ (by omega) | exact ints_getD _ (by rw [List.length_set]; omega) | exact KR_get _ _ _ (by omega)) (by rfl) ?_
          | refine SL_load_o (by decide) (by rfl) (by repeat (first | exact .head _ | refine .tail _ ?_)) (rowF (by rfl)) (by first | assumption | rfl | exact ints_getD _ (by omega) | exact tab_get _ _ (by omega) | exact ints_getD _ (by rw [List.length_set]; omega) | exact KR_get _ _ _ (by omega)) (by rfl) ?_
          | refine SL_store_n (by rfl) (by rfl) (by repeat (first | exact .head _ | refine .tail _ ?_)) (by first | assumption | rfl | exact ints_getD _ (by omega) | exact tab_get _ _ (by omega) | exact ints_getD _ (by rw [List.length_set]; omega) | exact KR_get _ _ _ (by omega)) (by rfl) (by first | exact KR_set _ _ _ _ (by omega) | exact ints_set _ _ _ _ | rfl) (by repeat (first | exact .head | apply Upd.tail)) (by first | exact .inl (by assumption) | exact .inr (by simp)) (szF (by rfl)) (Nat.le_of_ble_eq_true (by rfl)) (by rfl) ?_
          | refine SC_cond_t (by rfl) ?_
          | (refine SC_skip' (fun tm σ hE hH => ?_); refine SC.app ?_ hE hH; clear hE hH; clear tm σ)
          | (refine SL_nil (fun tm σ hE hH => ⟨_, _, _, _, rfl, hE, hH, ?_⟩); clear hE hH; clear tm σ)
          | fail)
        refine SD_nil fun tm2 σ2 hE2 hH2 => ⟨_, _, _, _, _, rfl, hE2, hH2, fun q hq => ?_, fun tm3 σ3 hE3 hH3 => ?_⟩
        · simp only [List.mem_cons, List.not_mem_nil, or_false] at hq
          rcases hq with rfl | rfl | rfl
          · exact .inl hkid
          · exact .inl hcur
          · exact .inl (by omega)
        have hidB : B.next ≤ id := by omega
        refine SC.app ?_ hE3 hH3
        clear hE2 hH2 hE3 hH3 hb3 hb4
        clear tm2 σ2 tm3 σ3
        repeat' (first
          | refine SC_region ?_
          | refine SL_move (by decide) (by rfl) ?_
          | refine SL_add (by decide) (by rfl) (by rfl) (by omega) (by omega) ?_
          | fail)
        have htk : ints ((keyOf rs ks i).take (1 + j)) ++ [[AV.s (.int .i64 (kval rs i (ks.getD j 0)))]] = ints ((keyOf rs ks i).take (1 + (j + 1))) := by
          rw [ints_snoc, show 1 + (j + 1) = (1 + j) + 1 by omega, List.take_succ_eq_append_getElem (by rw [keyOf_len]; omega)]
          congr 3
          unfold keyOf
          simp only [show 1 + j = j + 1 by omega, List.getElem_cons_succ, List.getElem_map]
          rw [getD_at _ hjlt]
        refine SL_nil fun tm σ hE hH => ⟨(j + 1, id, false), by show ks.length - (j + 1) < ks.length - j; omega, ⟨by show j + 1 ≤ _; omega, by simp, hidB⟩, tm, σ, rfl, hE.sub ⟨rfl, rfl, rfl, rfl, rfl, rfl, rfl, rfl, rfl, rfl, rfl, rfl, rfl, trivial⟩, ?_⟩
        dsimp only
        rw [← htk]
        exact hH.subl (.cons_cons _ (.cons _ (.cons _ (.refl _))))
    · obtain rfl : j = ks.length := by omega
      have hkl : (keyOf rs ks i).take (1 + ks.length) = keyOf rs ks i := List.take_of_length_le (by rw [keyOf_len]; omega)
      have hee : e = ks.isEmpty := by rw [he]; cases ks <;> simp
      rw [hkl, KR_end, hee]
      cases oid with
      | none =>
        obtain rfl : i = 0 := ho0 rfl
        dsimp only [ordV, ordH, List.nil_append]
        repeat' (first
          | refine SC_seq ?_
          | refine SC_region ?_
          | refine SL_seq ?_
          | (refine SL_nil (fun tm σ hE hH => ?_); refine SC.app ?_ hE hH; clear hE hH; clear tm σ)
          | refine SL_move (by decide) (by rfl) ?_
          | refine SL_assign (by decide) (by rfl) ?_
          | refine SL_add (by decide) (by rfl) (by rfl) (by omega) (by omega) ?_
          | (refine SL_lss (by decide) (by rfl) (by rfl) (fun hT => ?_) (fun hT => ?_) <;> first | (exfalso; omega) | skip)
          | refine SL_build1 (by decide) (by rfl) (elF (by rfl)) (by rfl) (by rfl) (fun id hid => ?_)
          | refine SL_append1_nil (by decide) (by rfl) (by rfl) (by repeat (first | exact .head _ | refine .tail _ ?_)) (elF (by rfl)) (sliceOf_spec (slF (by rfl))).1 (by rfl) (by decide) (fun id hid => ?_)
          | refine SC_cond_f (by rfl) ?_
          | (refine SC_exit (fun tm σ hE hH => ?_); refine SC.app ?_ hE hH; clear hE hH; clear tm σ)
          | fail)
        refine SL_nil fun tm σ hE hH => ⟨(0 + 1, ids ++ [cur], (cur, .cells 3 1 ks.isEmpty (ints (keyOf rs ks 0))) :: KH, some id), by show n - (0 + 1) < n - 0; omega, ⟨by show 0 + 1 ≤ n; omega, hkeys.snoc (keyOf_len rs ks 0) cur, fun h => (by cases h), fun o h => (by cases h; assumption)⟩, tm, σ, rfl, hE.sub ⟨rfl, rfl, rfl, rfl, rfl, rfl, rfl, rfl, rfl, trivial⟩, ?_⟩
        dsimp only [ordH]
        rw [← iota_next, ← ints_snoc]
        exact (hH.subl (H' := (id, _) :: (cur, _) :: (kb, _) :: (kid, _) :: (ida, _) :: KH) (.cons_cons _ (.cons _ (.cons_cons _ (.cons_cons _ (.cons_cons _ (.cons_cons _ (.refl _)))))))).perm (List.perm_append_comm_assoc [(id, _), (cur, _)] [(kb, _), (kid, _), (ida, _)] KH)

      | some o =>
        have hoB := hoo o rfl
        dsimp only [ordV, ordH, List.cons_append, List.nil_append]
        repeat' (first
          | (refine SL_append1_own (len := i) (by decide) (by rfl) (by rfl) (.tail (.tail (.tail (.tail (.tail .head))))) (by rw [ints_len]; simp [iota]) (.inl hoB) (.head _) el52 (sliceOf_spec sl52).1 (by rfl) (by omega) (by omega) (fun id hid => ?_))
          | refine SC_seq ?_
          | refine SC_region ?_
          | refine SL_seq ?_
          | (refine SL_nil (fun tm σ hE hH => ?_); refine SC.app ?_ hE hH; clear hE hH; clear tm σ)
          | refine SL_move (by decide) (by rfl) ?_
          | refine SL_assign (by decide) (by rfl) ?_
          | refine SL_add (by decide) (by rfl) (by rfl) (by omega) (by omega) ?_
          | (refine SL_lss (by decide) (by rfl) (by rfl) (fun hT => ?_) (fun hT => ?_) <;> first | (exfalso; omega) | skip)
          | refine SL_build1 (by decide) (by rfl) (elF (by rfl)) (by rfl) (by rfl) (fun id hid => ?_)
          | refine SC_cond_f (by rfl) ?_
          | (refine SC_exit (fun tm σ hE hH => ?_); refine SC.app ?_ hE hH; clear hE hH; clear tm σ)
          | fail)
        refine SL_nil fun tm σ hE hH => ⟨(i + 1, ids ++ [cur], (cur, .cells 3 1 ks.isEmpty (ints (keyOf rs ks i))) :: KH, some id), by show n - (i + 1) < n - i; omega, ⟨by show i + 1 ≤ n; omega, hkeys.snoc (keyOf_len rs ks i) cur, fun h => (by cases h), fun o h => (by cases h; assumption)⟩, tm, σ, rfl, hE.sub ⟨rfl, rfl, rfl, rfl, rfl, rfl, rfl, rfl, rfl, trivial⟩, ?_⟩
        dsimp only [ordH]
        rw [← iota_next, ← ints_snoc]
        exact (hH.subl (H' := (id, _) :: (cur, _) :: (kb, _) :: (kid, _) :: (ida, _) :: KH) (.cons_cons _ (.cons _ (.cons_cons _ (.cons_cons _ (.cons_cons _ (.cons_cons _ (.cons _ (.refl _))))))))).perm (List.perm_append_comm_assoc [(id, _), (cur, _)] [(kb, _), (kid, _), (ida, _)] KH)

  · obtain rfl : i = n := by omega
    obtain ⟨o, rfl⟩ : ∃ o, oid = some o := by
      cases oid with
      | none => have := ho0 rfl; omega
      | some o => exact ⟨o, rfl⟩
    have hoB := hoo o rfl
    dsimp only [ordV, ordH]
    rw [Nat.sub_self, List.replicate_zero, List.append_nil]
    refine SC_perm (List.perm_append_comm_assoc [(kb, _), (kid, _), (ida, _)] [(o, _)] KH) (SC_nd fun hndA => ?_)
    dsimp only [List.cons_append, List.nil_append] at hndA ⊢
    have hndK : ((keysH kb kid i (1 + ks.length) ids KH).map (·.1)).Nodup := hndA.sublist (.cons _ (.cons_cons _ (.cons_cons _ (.cons _ (.refl _)))))
    have h30 := sortF_fn ho (cmpK ho hkeys (by omega) kb kid) (iota i) i (iota_len i) (fun x hx => iota_mem hx) false o hn24 (iota_nodup i)
    repeat' (first
      | (refine SL_callW2 (H0 := [(o, _)]) (Hr := (kb, _) :: (kid, _) :: (ida, _) :: KH) (Hx := keysH kb kid i (1 + ks.length) ids KH) (M := [o]) (by decide) (by rfl) (bl_of bd30) (by rfl) (by rfl) h30 (fun p hp => List.Sublist.subset (.cons_cons _ (.cons_cons _ (.cons _ (.refl _)))) hp) hndK (fun x hx => by rw [List.mem_singleton] at hx; subst hx; exact ⟨.inl hoB, List.mem_singleton.2 rfl⟩) ?_; intro v0 Hn0 hB0 hR0; clear hB0; obtain ⟨ord, rfl, hop, hos⟩ := hR0; simp only [List.cons_append, List.nil_append])
      | refine SL_makeFunc (by decide) (by rfl) (by rfl) ?_
      | refine SC_seq ?_
      | refine SC_block ?_
      | refine SC_region ?_
      | refine SL_seq ?_
      | refine SL_move (by decide) (by rfl) ?_
      | refine SL_assign (by decide) (by rfl) ?_
      | (refine SL_lss (by decide) (by rfl) (by rfl) (fun hT => ?_) (fun hT => ?_) <;> first | (exfalso; omega) | skip)
      | refine SL_len_sl (by decide) (by rfl) (by rfl) (sliceOf_spec (slF (by rfl))).1 ?_
      | refine SL_makeSlice (by decide) (by rfl) (by rfl) (elF (by rfl)) (by omega) (by omega) (by omega) (by omega) (fun id hid => ?_)
      | refine SC_cond_f (by rfl) ?_
      | (refine SC_exit (fun tm σ hE hH => ?_); refine SC.app ?_ hE hH; clear hE hH; clear tm σ)
      | fail)
    rename_i hpid
    obtain ⟨pid, hpid, rfl⟩ : ∃ b, B.next ≤ b ∧ b = id := ⟨id, hid, rfl⟩
    refine SC_nd fun hndp => ?_
    have hol : ord.length = i := by rw [hop.length_eq, iota_len]
    have hon : ord.Nodup := hop.symm.nodup (iota_nodup i)
    have hom : ∀ a, a < i → 0 ≤ ord.getD a 0 ∧ ord.getD a 0 < i := fun a ha => iota_mem (hop.subset (getD_mem (by omega)))
    refine SC_loop (fun u : Nat × List Int => [(6, .sl o 0 i none), (7, .sl pid 0 i none), (12, .ptr kb 0 0), (94, .sl o 0 i none), (95, .s (.int .i64 i)), (96, .s (.int .i64 u.1))])
      (fun u => (pid, .cells 3 1 true (ints u.2)) :: (o, .cells 3 1 false (ints ord)) :: (kb, .cells 112 1 true [[.sl kid 0 i none]]) :: (kid, .cells 52 1 true (krows (1 + ks.length) ids)) :: (ida, .cells 3 1 true (tab i (fun x => sumT rs x))) :: KH) (fun _ => [])
      (fun u => u.1 ≤ i ∧ u.2.length = i ∧ ∀ a, a < u.1 → u.2.getD (ord.getD a 0).toNat 0 = plOf (keyOf rs ks) ord a) (fun u => i - u.1) (0, List.replicate i 0) ⟨Nat.zero_le _, by simp, fun a ha => absurd ha (Nat.not_lt_zero _)⟩ ⟨rfl, rfl, rfl, rfl, rfl, rfl, trivial⟩ (by rw [← ints_zero]; exact .refl _) hndp rfl ?_
    rintro ⟨a, pls⟩ ⟨ha, hpl, hpa⟩
    dsimp only at ha hpl hpa ⊢
    by_cases halt : a < i
    · obtain ⟨x, hx⟩ : ∃ x : Nat, ord.getD a 0 = x := ⟨(ord.getD a 0).toNat, by have := hom a halt; omega⟩
      have hxi : x < i := by have := hom a halt; omega
      have hgx : (ints ord)[a]? = some [.s (.int .i64 x)] := by rw [ints_getD _ (by omega), hx]
      obtain ⟨idx, hix, hgkx, hmx⟩ := hkeys.at_ hxi
      by_cases ha0 : a = 0
      · subst ha0
        repeat' (first
          | (refine SD_nil (fun tm σ hE hH => ⟨[], _, _, _, _, rfl, hE, hH, fun _ h => (by cases h), ?_⟩); clear hE hH; clear tm σ; intro tm σ hE hH; refine SC.app ?_ hE hH; clear hE hH; clear tm σ)
          | (refine SC_drawn (id := 28) (pl := [(0, []), (1, []), (2, []), (3, []), (4, []), (5, []), (6, []), (7, []), (8, []), (9, []), (10, []), (11, []), (12, []), (13, []), (14, []), (15, []), (16, [])]) (by kernel_rfl) (by kernel_rfl) ?_; intro B' base hb1 hb2 hb3 hb4)
          | refine SC_seq ?_
          | refine SC_block ?_
          | refine SC_region ?_
          | refine SL_seq ?_
          | refine SL_not (by rfl) (by rfl) (by rfl) (by decide) ?_
          | refine SL_move (by decide) (by rfl) ?_
          | refine SL_assign (by decide) (by rfl) ?_
          | refine SL_pick_f (by decide) (by rfl) (by rfl) ?_
          | refine SL_add (by decide) (by rfl) (by rfl) (by omega) (by omega) ?_
          | (refine SL_lss (by decide) (by rfl) (by rfl) (fun hT => ?_) (fun hT => ?_) <;> first | (exfalso; omega) | skip)
          | (refine SL_gtr (by decide) (by rfl) (by rfl) (fun hT => ?_) (fun hT => ?_) <;> first | (exfalso; omega) | skip)
          | refine SL_indexAddr_0 (by decide) (by rfl) (by rfl) (by repeat (first | exact .head _ | refine .tail _ ?_)) (slF (by rfl)) _ (by first | rfl | exact (Int.toNat_of_nonneg (by omega)).symm) (by omega) ?_
          | refine SL_load_o (by decide) (by rfl) (by repeat (first | exact .head _ | refine .tail _ ?_)) (rowF (by rfl)) (by first | assumption | rfl | exact ints_getD _ (by omega) | exact tab_get _ _ (by omega) | exact ints_getD _ (by rw [List.length_set]; omega) | exact KR_get _ _ _ (by omega)) (by rfl) ?_
          | refine SL_store_n (by rfl) (by rfl) (by repeat (first | exact .head _ | refine .tail _ ?_)) (by first | assumption | rfl | exact ints_getD _ (by omega) | exact tab_get _ _ (by omega) | exact ints_getD _ (by rw [List.length_set]; omega) | exact KR_get _ _ _ (by omega)) (by rfl) (by first | exact KR_set _ _ _ _ (by omega) | exact ints_set _ _ _ _ | rfl) (by repeat (first | exact .head | apply Upd.tail)) (by first | exact .inl (by assumption) | exact .inr (by simp)) (szF (by rfl)) (Nat.le_of_ble_eq_true (by rfl)) (by rfl) ?_
          | refine SC_cond_t (by rfl) ?_
          | refine SC_cond_f (by rfl) ?_
          | (refine SC_skip' (fun tm σ hE hH => ?_); refine SC.app ?_ hE hH; clear hE hH; clear tm σ)
          | (refine SL_nil (fun tm σ hE hH => ⟨_, _, _, _, rfl, hE, hH, ?_⟩); clear hE hH; clear tm σ)
          | refine SD_op _ [] (by rfl) (by rfl) (fun _ h => h) (fun p hp => by cases hp) (fun k hk => by cases hk) (.inl rfl) ?_
          | fail)
        exact SL_nil fun tm σ hE hH => ⟨(0 + 1, pls.set x (((0 : Nat) : Int) + 1)), by show i - (0 + 1) < i - 0; omega, ⟨by show 0 + 1 ≤ i; omega, by show (pls.set x _).length = i; rw [List.length_set]; exact hpl, place_0 hol hpl hon hom hx (by omega)⟩, tm, σ, rfl, hE.sub ⟨rfl, rfl, rfl, rfl, rfl, rfl, trivial⟩, hH⟩
      · obtain ⟨y, hy⟩ : ∃ y : Nat, ord.getD (a - 1) 0 = y := ⟨(ord.getD (a - 1) 0).toNat, by have := hom (a - 1) (by omega); omega⟩
        have hyi : y < i := by have := hom (a - 1) (by omega); omega
        have hgy : (ints ord)[a - 1]? = some [.s (.int .i64 y)] := by rw [ints_getD _ (by omega), hy]
        obtain ⟨idy, hiy, hgky, hmy⟩ := hkeys.at_ hyi
        have hxy : x ≠ y := fun e => getD_ne hon (p := a) (q := a - 1) (by omega) (by omega) (by omega) (by rw [hx, hy, e])
        repeat' (first
          | (refine SL_indexAddr_0 (by decide) (by rfl) (by rfl) (.tail _ (.head _)) sl52 (a - 1) (by omega) (by omega) ?_)
          | (refine SD_nil (fun tm σ hE hH => ⟨[], _, _, _, _, rfl, hE, hH, fun _ h => (by cases h), ?_⟩); clear hE hH; clear tm σ; intro tm σ hE hH; refine SC.app ?_ hE hH; clear hE hH; clear tm σ)
          | (refine SL_call (by decide) (by rfl) bd35 (by rfl) (by rfl) (equal_fn ho (keyOf rs ks x) (keyOf rs ks y) (1 + ks.length) (keyOf_len _ _ _) (keyOf_len _ _ _) (by omega) _ idx idy ks.isEmpty ks.isEmpty (.tail _ (.tail _ (.tail _ (.tail _ (.tail _ hmx))))) (.tail _ (.tail _ (.tail _ (.tail _ (.tail _ hmy)))))) (.refl _) hndp ?_; rintro _ _ _ ⟨rfl, rfl⟩; rw [List.nil_append]; refine SL_bool (i := 121) (by rfl) (fun hT => ?_) (fun hT => ?_))
          | (refine SC_drawn (id := 28) (pl := [(0, []), (1, []), (2, []), (3, []), (4, []), (5, []), (6, []), (7, []), (8, []), (9, []), (10, []), (11, []), (12, []), (13, []), (14, []), (15, []), (16, [])]) (by kernel_rfl) (by kernel_rfl) ?_; intro B' base hb1 hb2 hb3 hb4)
          | refine SC_seq ?_
          | refine SC_block ?_
          | refine SC_region ?_
          | refine SL_seq ?_
          | (refine SL_nil (fun tm σ hE hH => ?_); refine SC.app ?_ hE hH; clear hE hH; clear tm σ)
          | refine SL_run (by rfl) (by rfl) ?_
          | refine SL_move (by decide) (by rfl) ?_
          | refine SL_assign (by decide) (by rfl) ?_
          | refine SL_pick_t (by decide) (by rfl) (by rfl) ?_
          | refine SL_add (by decide) (by rfl) (by rfl) (by omega) (by omega) ?_
          | refine SL_sub (by decide) (by rfl) (by rfl) (by omega) (by omega) ?_
          | (refine SL_lss (by decide) (by rfl) (by rfl) (fun hT => ?_) (fun hT => ?_) <;> first | (exfalso; omega) | skip)
          | (refine SL_gtr (by decide) (by rfl) (by rfl) (fun hT => ?_) (fun hT => ?_) <;> first | (exfalso; omega) | skip)
          | refine SL_indexAddr_0 (by decide) (by rfl) (by rfl) (by repeat (first | exact .head _ | refine .tail _ ?_)) (slF (by rfl)) _ (by first | rfl | exact (Int.toNat_of_nonneg (by omega)).symm) (by omega) ?_
          | refine SL_load_o (by decide) (by rfl) (by repeat (first | exact .head _ | refine .tail _ ?_)) (rowF (by rfl)) (by first | assumption | rfl | exact ints_getD _ (by omega) | exact tab_get _ _ (by omega) | exact ints_getD _ (by rw [List.length_set]; omega) | exact KR_get _ _ _ (by omega)) (by rfl) ?_
          | refine SL_store_n (by rfl) (by rfl) (by repeat (first | exact .head _ | refine .tail _ ?_)) (by first | assumption | rfl | exact ints_getD _ (by omega) | exact tab_get _ _ (by omega) | exact ints_getD _ (by rw [List.length_set]; omega) | exact KR_get _ _ _ (by omega)) (by rfl) (by first | exact KR_set _ _ _ _ (by omega) | exact ints_set _ _ _ _ | rfl) (by repeat (first | exact .head | apply Upd.tail)) (by first | exact .inl (by assumption) | exact .inr (by simp)) (szF (by rfl)) (Nat.le_of_ble_eq_true (by rfl)) (by rfl) ?_
          | refine SC_cond_t (by rfl) ?_
          | refine SC_cond_f (by rfl) ?_
          | (refine SC_skip' (fun tm σ hE hH => ?_); refine SC.app ?_ hE hH; clear hE hH; clear tm σ)
          | (refine SL_nil (fun tm σ hE hH => ⟨_, _, _, _, rfl, hE, hH, ?_⟩); clear hE hH; clear tm σ)
          | refine SD_op _ [] (by rfl) (by rfl) (fun _ h => h) (fun p hp => by cases hp) (fun k hk => by cases hk) (.inl rfl) ?_
          | fail)
        · exact SL_nil fun tm σ hE hH => ⟨(a + 1, (pls.set x ((a : Int) + 1)).set x ((pls.set x ((a : Int) + 1)).getD y 0)), by show i - (a + 1) < i - a; omega, ⟨by show a + 1 ≤ i; omega, by show (List.set (List.set pls x _) x _).length = i; rw [List.length_set, List.length_set]; exact hpl, place_eq hol hpl hon hom hx hy halt (by omega) hxy hpa (of_decide_eq_true hT) _⟩, tm, σ, rfl, hE.sub ⟨rfl, rfl, rfl, rfl, rfl, rfl, trivial⟩, hH⟩
        · exact SL_nil fun tm σ hE hH => ⟨(a + 1, pls.set x ((a : Int) + 1)), by show i - (a + 1) < i - a; omega, ⟨by show a + 1 ≤ i; omega, by show (pls.set x _).length = i; rw [List.length_set]; exact hpl, place_ne hol hpl hon hom hx hy halt (by omega) hpa (of_decide_eq_false hT)⟩, tm, σ, rfl, hE.sub ⟨rfl, rfl, rfl, rfl, rfl, rfl, trivial⟩, hH⟩
    · obtain rfl : a = i := by omega
      repeat' (first
        | refine SC_seq ?_
        | refine SC_region ?_
        | refine SL_seq ?_
        | refine SL_move (by decide) (by rfl) ?_
        | refine SL_assign (by decide) (by rfl) ?_
        | (refine SL_lss (by decide) (by rfl) (by rfl) (fun hT => ?_) (fun hT => ?_) <;> first | (exfalso; omega) | skip)
        | refine SC_cond_f (by rfl) ?_
        | (refine SC_exit (fun tm σ hE hH => ?_); refine SC.app ?_ hE hH; clear hE hH; clear tm σ)
        | fail)
      refine SC_ret (fun tm σ hE hH => Post.intro (Hn := [(o, _), (pid, _)]) (.inr rfl) hE hH (by rfl) ⟨.tail _ (.head _), .head _, trivial⟩ ?_ ?_ ⟨o, pid, ord, pls, rfl, rfl, hop, hos, hpl, hpa⟩)
      · exact (List.perm_append_comm (l₁ := [pid]) (l₂ := [o])).nodup (hH.nodup.sublist (.cons_cons _ (.cons_cons _ (List.nil_sublist _))))
      · intro p hp
        simp only [List.mem_cons, List.not_mem_nil, or_false] at hp
        rcases hp with rfl | rfl
        · exact hoB
        · exact hpid
end Go.Proofs.YtnhnlkljcfbhfaaGreatDoor.Tb
/- tiebreak.Standings, where the arguments are not valid. -/
namespace Go.Proofs.YtnhnlkljcfbhfaaGreatDoor.Tb
open Go Go.Ab
attribute [local irreducible] SC SL wpc wpl wpd wpf wpy wpn FnC FnW RdW SD
set_option maxRecDepth 100000
set_option maxHeartbeats 4000000
theorem standF_fn {G : Gl} {rs : List (List Sc)} {ra : AV} {xs : List AV} (h : RV rs ra xs) (ho : ∀ f x y, offT f = true → G.orc f (x :: y) = none) {n : Int} {ka : AV} {ks : List Int} (hk : SlV 1 ka (ints ks)) (hkc : ∀ ad cap, ka = .rsl ad 1 cap (ints ks) → ks.length ≤ cap) (hkl : ks.length ≤ 1000) (hbad : ¬ (VOk n rs ∧ KOk ks)) :
    FnC Tryz.prog G 26 [.s (.int .i64 n), ra, ka] [] (fun v Hn => v = .s (.tuple #[.slice none 0 0, .slice none 0 0, .int .i64 2]) ∧ Hn = []) := by
  have hil := ints_len ks
  have h11 := valid_fn h n (G := G) (ho _ _ _ (by rfl))
  by_cases hv : VOk n rs
  · rw [validB_t hv] at h11
    have hkb : ¬ KOk ks := fun h => hbad ⟨hv, h⟩
    refine Fn_body (N := 137) (ho _ _ _ (by rfl)) Tryz.func26 rfl rfl fun B => ?_
    by_cases h7 : ks.length ≤ 7
    ·
      repeat' (first
        | refine SL_len_v (by decide) (by rfl) hk (by rfl) sl64 hil ?_
        | (refine SL_call (by decide) (by rfl) bd11 (by rfl) (by rfl) (h11) trivial List.nodup_nil ?_; rintro _ _ _ ⟨rfl, rfl⟩; rw [List.nil_append])
        | refine SC_seq ?_
        | refine SC_block ?_
        | refine SC_region ?_
        | refine SL_seq ?_
        | refine SL_run (by rfl) (by rfl) ?_
        | refine SL_move (by decide) (by rfl) ?_
        | refine SL_assign (by decide) (by rfl) ?_
        | refine SL_pick_f (by decide) (by rfl) (by rfl) ?_
        | refine SL_not_op (by decide) (by rfl) ?_
        | (refine SL_gtr (by decide) (by rfl) (by rfl) (fun hT => ?_) (fun hT => ?_) <;> first | (exfalso; omega) | skip)
        | refine SC_cond_f (by rfl) ?_
        | (refine SC_skip' (fun tm σ hE hH => ?_); refine SC.app ?_ hE hH; clear hE hH; clear tm σ)
        | fail)
      refine SC_loop (fun j : Nat => [(0, .s (.int .i64 n)), (1, ra), (2, ka), (27, ka), (28, .s (.int .i64 ks.length)), (29, .s (.int .i64 j))]) (fun _ => []) (fun _ => []) (fun j => j ≤ ks.length ∧ KSt ks j) (fun j => ks.length - j) 0 ⟨by omega, fun i hi => by omega⟩ ⟨rfl, rfl, rfl, rfl, rfl, rfl, trivial⟩ trivial List.nodup_nil rfl ?_
      rintro j ⟨hj, hst⟩
      by_cases hjlt : j < ks.length
      · obtain ⟨ad, cap, rfl⟩ : ∃ ad cap, ka = .rsl ad 1 cap (ints ks) := by
          generalize hrw : ints ks = rows at hk
          cases hk with
          | nil => rw [hrw] at hil; simp at hil; omega
          | rsl hp => exact ⟨_, _, rfl⟩
        have hcap := hkc ad cap rfl
        have h27 := known27 (G := G) ho (ks.getD j 0)
        have hcon := contains_fn (G := G) ho (ks.take j) (by rw [List.length_take]; omega) ad cap (ks.getD j 0)
        rw [show ints (ks.take j) = (ints ks).take j by unfold ints; rw [List.map_take]] at hcon
        by_cases hr : 1 ≤ ks.getD j 0 ∧ ks.getD j 0 ≤ 7
        · rw [decide_eq_true hr] at h27
          by_cases hm : ks.getD j 0 ∈ ks.take j
          · rw [decide_eq_true hm] at hcon
            repeat' (first
              | refine SL_indexAddr_v (by decide) (by rfl) (by rfl) hk sl64 j (by omega) (by omega) (fun ad => ?_)
              | refine SL_slice_r (i := j) (by decide) (by rfl) (by rfl) sl64 (by rfl) (by omega) (by omega) ?_
              | (refine SL_call (by decide) (by rfl) bd29 (by rfl) (by rfl) (hcon) trivial List.nodup_nil ?_; rintro _ _ _ ⟨rfl, rfl⟩; rw [List.nil_append])
              | (refine SL_call (by decide) (by rfl) bd27 (by rfl) (by rfl) (h27) trivial List.nodup_nil ?_; rintro _ _ _ ⟨rfl, rfl⟩; rw [List.nil_append])
              | refine SC_seq ?_
              | refine SC_block ?_
              | refine SC_region ?_
              | refine SL_seq ?_
              | refine SL_run (by rfl) (by rfl) ?_
              | refine SL_move (by decide) (by rfl) ?_
              | refine SL_assign (by decide) (by rfl) ?_
              | refine SL_pick_f (by decide) (by rfl) (by rfl) ?_
              | refine SL_not_op (by decide) (by rfl) ?_
              | (refine SL_lss (by decide) (by rfl) (by rfl) (fun hT => ?_) (fun hT => ?_) <;> first | (exfalso; omega) | skip)
              | refine SL_load_r (by decide) (by rfl) (rowF (by rfl)) (by first | assumption | rfl | exact ints_getD _ (by omega)) (by rfl) ?_
              | refine SC_cond_t (by rfl) ?_
              | (refine SC_skip' (fun tm σ hE hH => ?_); refine SC.app ?_ hE hH; clear hE hH; clear tm σ)
              | fail)
            exact SC_ret (fun tm σ hE hH => Post.intro (Hn := []) (.inr rfl) hE hH (by rfl) trivial List.nodup_nil (fun p hp => by cases hp) ⟨rfl, rfl⟩)
          · rw [decide_eq_false hm] at hcon
            repeat' (first
              | refine SL_indexAddr_v (by decide) (by rfl) (by rfl) hk sl64 j (by omega) (by omega) (fun ad => ?_)
              | refine SL_slice_r (i := j) (by decide) (by rfl) (by rfl) sl64 (by rfl) (by omega) (by omega) ?_
              | (refine SL_call (by decide) (by rfl) bd29 (by rfl) (by rfl) (hcon) trivial List.nodup_nil ?_; rintro _ _ _ ⟨rfl, rfl⟩; rw [List.nil_append])
              | (refine SL_call (by decide) (by rfl) bd27 (by rfl) (by rfl) (h27) trivial List.nodup_nil ?_; rintro _ _ _ ⟨rfl, rfl⟩; rw [List.nil_append])
              | refine SC_seq ?_
              | refine SC_block ?_
              | refine SC_region ?_
              | refine SL_seq ?_
              | refine SL_run (by rfl) (by rfl) ?_
              | refine SL_move (by decide) (by rfl) ?_
              | refine SL_assign (by decide) (by rfl) ?_
              | refine SL_pick_f (by decide) (by rfl) (by rfl) ?_
              | refine SL_not_op (by decide) (by rfl) ?_
              | refine SL_add (by decide) (by rfl) (by rfl) (by omega) (by omega) ?_
              | (refine SL_lss (by decide) (by rfl) (by rfl) (fun hT => ?_) (fun hT => ?_) <;> first | (exfalso; omega) | skip)
              | refine SL_load_r (by decide) (by rfl) (rowF (by rfl)) (by first | assumption | rfl | exact ints_getD _ (by omega)) (by rfl) ?_
              | refine SC_cond_t (by rfl) ?_
              | refine SC_cond_f (by rfl) ?_
              | (refine SC_skip' (fun tm σ hE hH => ?_); refine SC.app ?_ hE hH; clear hE hH; clear tm σ)
              | fail)
            exact SL_nil fun tm σ hE hH => ⟨j + 1, by omega, ⟨by omega, hst.next hr fun i hi he => hm (take_mem.2 ⟨i, hi, by omega, he⟩)⟩, tm, σ, rfl, hE.sub ⟨rfl, rfl, rfl, rfl, rfl, rfl, trivial⟩, hH⟩
        · rw [decide_eq_false hr] at h27
          repeat' (first
            | refine SL_indexAddr_v (by decide) (by rfl) (by rfl) hk sl64 j (by omega) (by omega) (fun ad => ?_)
            | (refine SL_call (by decide) (by rfl) bd27 (by rfl) (by rfl) (h27) trivial List.nodup_nil ?_; rintro _ _ _ ⟨rfl, rfl⟩; rw [List.nil_append])
            | refine SC_seq ?_
            | refine SC_block ?_
            | refine SC_region ?_
            | refine SL_seq ?_
            | refine SL_not (by rfl) (by rfl) (by rfl) (by decide) ?_
            | refine SL_move (by decide) (by rfl) ?_
            | refine SL_assign (by decide) (by rfl) ?_
            | refine SL_pick_t (by decide) (by rfl) (by rfl) ?_
            | refine SL_not_op (by decide) (by rfl) ?_
            | (refine SL_lss (by decide) (by rfl) (by rfl) (fun hT => ?_) (fun hT => ?_) <;> first | (exfalso; omega) | skip)
            | refine SL_load_r (by decide) (by rfl) (rowF (by rfl)) (by first | assumption | rfl | exact ints_getD _ (by omega)) (by rfl) ?_
            | refine SC_cond_t (by rfl) ?_
            | (refine SC_skip' (fun tm σ hE hH => ?_); refine SC.app ?_ hE hH; clear hE hH; clear tm σ)
            | fail)
          exact SC_ret (fun tm σ hE hH => Post.intro (Hn := []) (.inr rfl) hE hH (by rfl) trivial List.nodup_nil (fun p hp => by cases hp) ⟨rfl, rfl⟩)
      · obtain rfl : j = ks.length := by omega
        exact absurd (hst.ok h7) hkb
    ·
      repeat' (first
        | refine SL_len_v (by decide) (by rfl) hk (by rfl) sl64 hil ?_
        | (refine SL_call (by decide) (by rfl) bd11 (by rfl) (by rfl) (h11) trivial List.nodup_nil ?_; rintro _ _ _ ⟨rfl, rfl⟩; rw [List.nil_append])
        | refine SC_seq ?_
        | refine SC_region ?_
        | refine SL_seq ?_
        | refine SL_run (by rfl) (by rfl) ?_
        | refine SL_move (by decide) (by rfl) ?_
        | refine SL_assign (by decide) (by rfl) ?_
        | refine SL_pick_f (by decide) (by rfl) (by rfl) ?_
        | refine SL_not_op (by decide) (by rfl) ?_
        | (refine SL_gtr (by decide) (by rfl) (by rfl) (fun hT => ?_) (fun hT => ?_) <;> first | (exfalso; omega) | skip)
        | refine SC_cond_t (by rfl) ?_
        | fail)
      exact SC_ret (fun tm σ hE hH => Post.intro (Hn := []) (.inr rfl) hE hH (by rfl) trivial List.nodup_nil (fun p hp => by cases hp) ⟨rfl, rfl⟩)
  · rw [validB_f hv] at h11
    refine Fn_body (N := 137) (ho _ _ _ (by rfl)) Tryz.func26 rfl rfl fun B => ?_
    repeat' (first
      | (refine SL_call (by decide) (by rfl) bd11 (by rfl) (by rfl) (h11) trivial List.nodup_nil ?_; rintro _ _ _ ⟨rfl, rfl⟩; rw [List.nil_append])
      | refine SC_seq ?_
      | refine SC_region ?_
      | refine SL_seq ?_
      | refine SL_not (by rfl) (by rfl) (by rfl) (by decide) ?_
      | refine SL_move (by decide) (by rfl) ?_
      | refine SL_assign (by decide) (by rfl) ?_
      | refine SL_pick_t (by decide) (by rfl) (by rfl) ?_
      | refine SL_not_op (by decide) (by rfl) ?_
      | refine SC_cond_t (by rfl) ?_
      | fail)
    exact SC_ret (fun tm σ hE hH => Post.intro (Hn := []) (.inr rfl) hE hH (by rfl) trivial List.nodup_nil (fun p hp => by cases hp) ⟨rfl, rfl⟩)
end Go.Proofs.YtnhnlkljcfbhfaaGreatDoor.Tb
/- Contracts of the library, laid at this program by the kit's lay-shelf and lay-plain. -/
namespace Go.Proofs
open Go.Shelf
def Tryz.lays156_ren : Go.Shelf.Ren := ⟨fun | 156 => 74 | 165 => 109 | 166 => 110 | 169 => 111 | 240 => 149 | 241 => 150 | 276 => 177 | 277 => 178 | n => n, fun | 31 => 27 | 9 => 9 | 3 => 3 | 4 => 4 | 0 => 0 | 20 => 20 | 72 => 170 | 76 => 98 | 70 => 168 | 37 => 84 | 75 => 97 | 127 => 204 | 164 => 235 | 5 => 5 | 80 => 172 | n => n, fun | n => n⟩
theorem Tryz.lays156 : Go.Proofs.Lays.n156 Tryz.prog Tryz.lays156_ren := {
  mixed := by kernel_rfl
  f156 := Tryz.func74.trans (congrArg some (by kernel_rfl))
  f165 := Tryz.func109.trans (congrArg some (by kernel_rfl))
  f166 := Tryz.func110.trans (congrArg some (by kernel_rfl))
  f169 := Tryz.func111.trans (congrArg some (by kernel_rfl))
  f240 := Tryz.func149.trans (congrArg some (by kernel_rfl))
  f241 := Tryz.func150.trans (congrArg some (by kernel_rfl))
  f276 := Tryz.func177.trans (congrArg some (by kernel_rfl))
  f277 := Tryz.func178.trans (congrArg some (by kernel_rfl))
  t0 := Tryz.underlying0
  a0 := Tryz.isAgg0
  z0 := Tryz.sizeOf0
  v0 := Tryz.zeroValue0
  t3 := Tryz.underlying3
  a3 := Tryz.isAgg3
  z3 := Tryz.sizeOf3
  v3 := Tryz.zeroValue3
  t4 := Tryz.underlying4
  a4 := Tryz.isAgg4
  z4 := Tryz.sizeOf4
  v4 := Tryz.zeroValue4
  t9 := Tryz.underlying9
  a9 := Tryz.isAgg9
  z9 := Tryz.sizeOf9
  v9 := Tryz.zeroValue9
  t20 := Tryz.underlying20
  a20 := Tryz.isAgg20
  z20 := Tryz.sizeOf20
  v20 := Tryz.zeroValue20
  t31 := Tryz.underlying27
  a31 := Tryz.isAgg27
  z31 := Tryz.sizeOf27
  v31 := Tryz.zeroValue27
  t37 := Tryz.underlying84
  a37 := Tryz.isAgg84
  z37 := Tryz.sizeOf84
  v37 := Tryz.zeroValue84
  t70 := Tryz.underlying168
  a70 := Tryz.isAgg168
  z70 := Tryz.sizeOf168
  v70 := Tryz.zeroValue168
  t72 := Tryz.underlying170
  a72 := Tryz.isAgg170
  z72 := Tryz.sizeOf170
  v72 := Tryz.zeroValue170
  t75 := Tryz.underlying97
  a75 := Tryz.isAgg97
  z75 := Tryz.sizeOf97
  v75 := Tryz.zeroValue97
  t76 := Tryz.underlying98
  a76 := Tryz.isAgg98
  z76 := Tryz.sizeOf98
  v76 := Tryz.zeroValue98
  t127 := Tryz.underlying204
  a127 := Tryz.isAgg204
  z127 := Tryz.sizeOf204
  v127 := Tryz.zeroValue204
  t164 := Tryz.underlying235
  a164 := Tryz.isAgg235
  z164 := Tryz.sizeOf235
  v164 := Tryz.zeroValue235 }
theorem Tryz.Builder_Extra_156 : Builder.Extra Tryz.prog Tryz.lays156_ren := {
  sizeBuilder := by kernel_rfl
  liesBuilder := by kernel_rfl
  t5 := Tryz.underlying5
  a5 := Tryz.isAgg5
  z5 := Tryz.sizeOf5
  v5 := Tryz.zeroValue5
  infoByte := by kernel_rfl
  cellsByte := by kernel_rfl
  sizeByte := by kernel_rfl
  neB5 := by decide }
open Go.RowKit in
theorem Tryz.strings_Join_none (a : Option Addr) (c : Nat) (sep : ByteArray) (w : World) :
    Calls Tryz.prog 74 #[.slice a 0 c, .string sep] w fun e w' => e = .returned (.string ⟨#[]⟩) ∧ w' = w := Any.strings_Join_none Tryz.lays156 Tryz.Builder_Extra_156 a c sep w
open Go.RowKit in
theorem Tryz.strings_Join (bk o c : Nat) (xs : List ByteArray) (sep : ByteArray) (w : World) (hcells : ∀ (j : Nat) x, xs[j]? = some x → w.cell? ⟨bk, o + j, none⟩ = some (.string x)) (hbk : bk < w.heap.size) (hN : xs.length ≤ 140737488355328) (hcap : xs.length ≤ c) (hlen : (Lib.join (xs.map (·.data.toList)) sep.data.toList).length ≤ 140737488355328) :
    Calls Tryz.prog 74 #[.slice (some ⟨bk, o, none⟩) xs.length c, .string sep] w fun e w' => e = .returned (.string ⟨(Lib.join (xs.map (·.data.toList)) sep.data.toList).toArray⟩) ∧ Below w.heap.size w w' := Any.strings_Join Tryz.lays156 Tryz.Builder_Extra_156 bk o c xs sep w hcells hbk hN hcap hlen
def Tryz.laysM171_ren : Go.Shelf.Ren := ⟨fun | 171 => 40 | 243 => 78 | 246 => 115 | 283 => 154 | 284 => 155 | 285 => 156 | 286 => 157 | 129 => 135 | 317 => 180 | 318 => 181 | 319 => 182 | 320 => 183 | 337 => 201 | 338 => 202 | n => n, fun | 3 => 3 | 9 => 9 | 2 => 2 | 4 => 4 | 171 => 209 | 0 => 0 | 53 => 124 | 37 => 84 | 5 => 5 | 173 => 211 | 212 => 239 | 51 => 181 | 20 => 20 | 213 => 240 | 46 => 145 | 232 => 265 | 233 => 266 | n => n, fun | 17 => 5 | 18 => 8 | 19 => 9 | n => n⟩
theorem Tryz.laysM171 : Go.Proofs.LaysM.n171 Tryz.prog Tryz.laysM171_ren := {
  mixed := by kernel_rfl
  f129 := Tryz.func135.trans (congrArg some (by kernel_rfl))
  f171 := Tryz.func40.trans (congrArg some (by kernel_rfl))
  f243 := Tryz.func78.trans (congrArg some (by kernel_rfl))
  f246 := Tryz.func115.trans (congrArg some (by kernel_rfl))
  f283 := Tryz.func154.trans (congrArg some (by kernel_rfl))
  f284 := Tryz.func155.trans (congrArg some (by kernel_rfl))
  f285 := Tryz.func156.trans (congrArg some (by kernel_rfl))
  f286 := Tryz.func157.trans (congrArg some (by kernel_rfl))
  f317 := Tryz.func180.trans (congrArg some (by kernel_rfl))
  f318 := Tryz.func181.trans (congrArg some (by kernel_rfl))
  f319 := Tryz.func182.trans (congrArg some (by kernel_rfl))
  f320 := Tryz.func183.trans (congrArg some (by kernel_rfl))
  f337 := Tryz.func201.trans (congrArg some (by kernel_rfl))
  f338 := Tryz.func202.trans (congrArg some (by kernel_rfl))
  t0 := Tryz.underlying0
  a0 := Tryz.isAgg0
  z0 := Tryz.sizeOf0
  v0 := Tryz.zeroValue0
  t2 := Tryz.underlying2
  a2 := Tryz.isAgg2
  z2 := Tryz.sizeOf2
  v2 := Tryz.zeroValue2
  t3 := Tryz.underlying3
  a3 := Tryz.isAgg3
  z3 := Tryz.sizeOf3
  v3 := Tryz.zeroValue3
  t4 := Tryz.underlying4
  a4 := Tryz.isAgg4
  z4 := Tryz.sizeOf4
  v4 := Tryz.zeroValue4
  t5 := Tryz.underlying5
  a5 := Tryz.isAgg5
  z5 := Tryz.sizeOf5
  v5 := Tryz.zeroValue5
  t9 := Tryz.underlying9
  a9 := Tryz.isAgg9
  z9 := Tryz.sizeOf9
  v9 := Tryz.zeroValue9
  t20 := Tryz.underlying20
  a20 := Tryz.isAgg20
  z20 := Tryz.sizeOf20
  v20 := Tryz.zeroValue20
  t37 := Tryz.underlying84
  a37 := Tryz.isAgg84
  z37 := Tryz.sizeOf84
  v37 := Tryz.zeroValue84
  t46 := Tryz.underlying145
  a46 := Tryz.isAgg145
  z46 := Tryz.sizeOf145
  v46 := Tryz.zeroValue145
  t51 := Tryz.underlying181
  a51 := Tryz.isAgg181
  z51 := Tryz.sizeOf181
  v51 := Tryz.zeroValue181
  t53 := Tryz.underlying124
  a53 := Tryz.isAgg124
  z53 := Tryz.sizeOf124
  v53 := Tryz.zeroValue124
  t171 := Tryz.underlying209
  a171 := Tryz.isAgg209
  z171 := Tryz.sizeOf209
  v171 := Tryz.zeroValue209
  t173 := Tryz.underlying211
  a173 := Tryz.isAgg211
  z173 := Tryz.sizeOf211
  v173 := Tryz.zeroValue211
  t212 := Tryz.underlying239
  a212 := Tryz.isAgg239
  z212 := Tryz.sizeOf239
  v212 := Tryz.zeroValue239
  t213 := Tryz.underlying240
  a213 := Tryz.isAgg240
  z213 := Tryz.sizeOf240
  t232 := Tryz.underlying265
  a232 := Tryz.isAgg265
  z232 := Tryz.sizeOf265
  v232 := Tryz.zeroValue265
  t233 := Tryz.underlying266
  a233 := Tryz.isAgg266
  z233 := Tryz.sizeOf266
  v233 := Tryz.zeroValue266
  g17 := by kernel_rfl
  g18 := by kernel_rfl
  g19 := by kernel_rfl
  i0 := by kernel_rfl
  i2 := by kernel_rfl
  i3 := by kernel_rfl
  i4 := by kernel_rfl
  i5 := by kernel_rfl
  i9 := by kernel_rfl
  i20 := by kernel_rfl
  i37 := by kernel_rfl
  i46 := by kernel_rfl
  i51 := by kernel_rfl
  i53 := by kernel_rfl
  i171 := by kernel_rfl
  i173 := by kernel_rfl
  i212 := by kernel_rfl
  i232 := by kernel_rfl
  i233 := by kernel_rfl
  m17 := by kernel_rfl
  m18 := by kernel_rfl
  m19 := by kernel_rfl }
open Go.RowKit Go.Sort Go.Lib in
theorem Tryz.strconv_Itoa (n : Int) (h0 : -9223372036854775808 ≤ n) (h1 : n ≤ 9223372036854775807) (w : World) (htab : Lib.TabIs Tryz.prog w "internal/strconv.uint64pow10" .u64 Lib.pow10Tab) :
    Calls Tryz.prog 40 #[.int .i64 n] w fun e w' => e = .returned (.string ⟨(Lib.itoa n).toArray⟩) ∧ ∃ k os, w' = grow (w.drewN k) os := Any.strconv_Itoa Tryz.laysM171 n h0 h1 w htab
def Tryz.laysC172_ren : Go.Shelf.Ren := ⟨fun | 172 => 44 | 244 => 80 | 245 => 81 | 247 => 117 | 279 => 118 | 280 => 119 | 281 => 120 | 282 => 121 | 287 => 162 | 316 => 163 | 171 => 40 | 205 => 164 | 321 => 186 | 322 => 187 | 243 => 78 | 246 => 115 | 283 => 154 | 284 => 155 | 285 => 156 | 286 => 157 | 129 => 135 | 317 => 180 | 318 => 181 | 319 => 182 | 320 => 183 | 337 => 201 | 338 => 202 | n => n, fun | 9 => 9 | 3 => 3 | 75 => 97 | 76 => 98 | 4 => 4 | 5 => 5 | 167 => 175 | 37 => 84 | 0 => 0 | 85 => 176 | 2 => 2 | 168 => 178 | 53 => 124 | 175 => 214 | 46 => 145 | 210 => 218 | 127 => 204 | 145 => 245 | 143 => 243 | 21 => 21 | 171 => 209 | 173 => 211 | 212 => 239 | 51 => 181 | 20 => 20 | 213 => 240 | 232 => 265 | 233 => 266 | 80 => 172 | n => n, fun | 15 => 2 | 16 => 3 | 17 => 5 | 18 => 8 | 19 => 9 | n => n⟩
theorem Tryz.laysC172 : Go.Proofs.LaysC.n172 Tryz.prog Tryz.laysC172_ren := {
  mixed := by kernel_rfl
  f129 := Tryz.func135.trans (congrArg some (by kernel_rfl))
  f171 := Tryz.func40.trans (congrArg some (by kernel_rfl))
  f172 := Tryz.func44.trans (congrArg some (by kernel_rfl))
  f205 := Tryz.func164.trans (congrArg some (by kernel_rfl))
  f243 := Tryz.func78.trans (congrArg some (by kernel_rfl))
  f244 := Tryz.func80.trans (congrArg some (by kernel_rfl))
  f245 := Tryz.func81.trans (congrArg some (by kernel_rfl))
  f246 := Tryz.func115.trans (congrArg some (by kernel_rfl))
  f247 := Tryz.func117.trans (congrArg some (by kernel_rfl))
  f279 := Tryz.func118.trans (congrArg some (by kernel_rfl))
  f280 := Tryz.func119.trans (congrArg some (by kernel_rfl))
  f281 := Tryz.func120.trans (congrArg some (by kernel_rfl))
  f282 := Tryz.func121.trans (congrArg some (by kernel_rfl))
  f283 := Tryz.func154.trans (congrArg some (by kernel_rfl))
  f284 := Tryz.func155.trans (congrArg some (by kernel_rfl))
  f285 := Tryz.func156.trans (congrArg some (by kernel_rfl))
  f286 := Tryz.func157.trans (congrArg some (by kernel_rfl))
  f287 := Tryz.func162.trans (congrArg some (by kernel_rfl))
  f316 := Tryz.func163.trans (congrArg some (by kernel_rfl))
  f317 := Tryz.func180.trans (congrArg some (by kernel_rfl))
  f318 := Tryz.func181.trans (congrArg some (by kernel_rfl))
  f319 := Tryz.func182.trans (congrArg some (by kernel_rfl))
  f320 := Tryz.func183.trans (congrArg some (by kernel_rfl))
  f321 := Tryz.func186.trans (congrArg some (by kernel_rfl))
  f322 := Tryz.func187.trans (congrArg some (by kernel_rfl))
  f337 := Tryz.func201.trans (congrArg some (by kernel_rfl))
  f338 := Tryz.func202.trans (congrArg some (by kernel_rfl))
  t0 := Tryz.underlying0
  a0 := Tryz.isAgg0
  z0 := Tryz.sizeOf0
  v0 := Tryz.zeroValue0
  t2 := Tryz.underlying2
  a2 := Tryz.isAgg2
  z2 := Tryz.sizeOf2
  v2 := Tryz.zeroValue2
  t3 := Tryz.underlying3
  a3 := Tryz.isAgg3
  z3 := Tryz.sizeOf3
  v3 := Tryz.zeroValue3
  t4 := Tryz.underlying4
  a4 := Tryz.isAgg4
  z4 := Tryz.sizeOf4
  v4 := Tryz.zeroValue4
  t5 := Tryz.underlying5
  a5 := Tryz.isAgg5
  z5 := Tryz.sizeOf5
  v5 := Tryz.zeroValue5
  t9 := Tryz.underlying9
  a9 := Tryz.isAgg9
  z9 := Tryz.sizeOf9
  v9 := Tryz.zeroValue9
  t20 := Tryz.underlying20
  a20 := Tryz.isAgg20
  z20 := Tryz.sizeOf20
  v20 := Tryz.zeroValue20
  t21 := Tryz.underlying21
  a21 := Tryz.isAgg21
  z21 := Tryz.sizeOf21
  v21 := Tryz.zeroValue21
  t37 := Tryz.underlying84
  a37 := Tryz.isAgg84
  z37 := Tryz.sizeOf84
  v37 := Tryz.zeroValue84
  t46 := Tryz.underlying145
  a46 := Tryz.isAgg145
  z46 := Tryz.sizeOf145
  v46 := Tryz.zeroValue145
  t51 := Tryz.underlying181
  a51 := Tryz.isAgg181
  z51 := Tryz.sizeOf181
  v51 := Tryz.zeroValue181
  t53 := Tryz.underlying124
  a53 := Tryz.isAgg124
  z53 := Tryz.sizeOf124
  v53 := Tryz.zeroValue124
  t75 := Tryz.underlying97
  a75 := Tryz.isAgg97
  z75 := Tryz.sizeOf97
  v75 := Tryz.zeroValue97
  t76 := Tryz.underlying98
  a76 := Tryz.isAgg98
  z76 := Tryz.sizeOf98
  v76 := Tryz.zeroValue98
  t85 := Tryz.underlying176
  a85 := Tryz.isAgg176
  z85 := Tryz.sizeOf176
  v85 := Tryz.zeroValue176
  t127 := Tryz.underlying204
  a127 := Tryz.isAgg204
  z127 := Tryz.sizeOf204
  v127 := Tryz.zeroValue204
  t143 := Tryz.underlying243
  a143 := Tryz.isAgg243
  z143 := Tryz.sizeOf243
  v143 := Tryz.zeroValue243
  t145 := Tryz.underlying245
  a145 := Tryz.isAgg245
  z145 := Tryz.sizeOf245
  v145 := Tryz.zeroValue245
  t167 := Tryz.underlying175
  a167 := Tryz.isAgg175
  z167 := Tryz.sizeOf175
  v167 := Tryz.zeroValue175
  t168 := Tryz.underlying178
  a168 := Tryz.isAgg178
  z168 := Tryz.sizeOf178
  v168 := Tryz.zeroValue178
  t171 := Tryz.underlying209
  a171 := Tryz.isAgg209
  z171 := Tryz.sizeOf209
  v171 := Tryz.zeroValue209
  t173 := Tryz.underlying211
  a173 := Tryz.isAgg211
  z173 := Tryz.sizeOf211
  v173 := Tryz.zeroValue211
  t175 := Tryz.underlying214
  a175 := Tryz.isAgg214
  z175 := Tryz.sizeOf214
  v175 := Tryz.zeroValue214
  t210 := Tryz.underlying218
  a210 := Tryz.isAgg218
  z210 := Tryz.sizeOf218
  v210 := Tryz.zeroValue218
  t212 := Tryz.underlying239
  a212 := Tryz.isAgg239
  z212 := Tryz.sizeOf239
  v212 := Tryz.zeroValue239
  t213 := Tryz.underlying240
  a213 := Tryz.isAgg240
  z213 := Tryz.sizeOf240
  t232 := Tryz.underlying265
  a232 := Tryz.isAgg265
  z232 := Tryz.sizeOf265
  v232 := Tryz.zeroValue265
  t233 := Tryz.underlying266
  a233 := Tryz.isAgg266
  z233 := Tryz.sizeOf266
  v233 := Tryz.zeroValue266
  g15 := by kernel_rfl
  g16 := by kernel_rfl
  g17 := by kernel_rfl
  g18 := by kernel_rfl
  g19 := by kernel_rfl
  t80 := Tryz.underlying172
  a80 := Tryz.isAgg172
  z80 := Tryz.sizeOf172
  v80 := Tryz.zeroValue172
  i0 := by kernel_rfl
  i2 := by kernel_rfl
  i3 := by kernel_rfl
  i4 := by kernel_rfl
  i5 := by kernel_rfl
  i9 := by kernel_rfl
  i20 := by kernel_rfl
  i21 := by kernel_rfl
  i37 := by kernel_rfl
  i46 := by kernel_rfl
  i51 := by kernel_rfl
  i53 := by kernel_rfl
  i75 := by kernel_rfl
  i76 := by kernel_rfl
  i80 := by kernel_rfl
  i85 := by kernel_rfl
  i127 := by kernel_rfl
  i143 := by kernel_rfl
  i145 := by kernel_rfl
  i167 := by kernel_rfl
  i168 := by kernel_rfl
  i171 := by kernel_rfl
  i173 := by kernel_rfl
  i175 := by kernel_rfl
  i210 := by kernel_rfl
  i212 := by kernel_rfl
  i232 := by kernel_rfl
  i233 := by kernel_rfl
  m15 := by kernel_rfl
  m16 := by kernel_rfl
  m17 := by kernel_rfl
  m18 := by kernel_rfl
  m19 := by kernel_rfl
  c0 := by kernel_rfl
  c2 := by kernel_rfl
  c3 := by kernel_rfl
  c4 := by kernel_rfl
  c5 := by kernel_rfl
  c9 := by kernel_rfl
  c20 := by kernel_rfl
  c21 := by kernel_rfl
  c37 := by kernel_rfl
  c46 := by kernel_rfl
  c51 := by kernel_rfl
  c53 := by kernel_rfl
  c75 := by kernel_rfl
  c76 := by kernel_rfl
  c80 := by kernel_rfl
  c85 := by kernel_rfl
  c127 := by kernel_rfl
  c143 := by kernel_rfl
  c145 := by kernel_rfl
  c167 := by kernel_rfl
  c168 := by kernel_rfl
  c171 := by kernel_rfl
  c173 := by kernel_rfl
  c175 := by kernel_rfl
  c210 := by kernel_rfl
  c212 := by kernel_rfl
  c213 := by kernel_rfl
  c232 := by kernel_rfl
  c233 := by kernel_rfl }
open Go.RowKit in
theorem Tryz.strconv_Atoi_ok (s : ByteArray) (hmax : s.size ≤ 9223372036854775806) (v : Int) (h : Lib.atoiAll s.data.toList = .ok v) (w : World) :
    Calls Tryz.prog 44 #[.string s] w fun e w' => e = .returned (.tuple #[.int .i64 v, .nilIface]) ∧ (w' = w ∨ ∃ t, w' = Lib.bytesWorld w 5 t) := Any.strconv_Atoi_ok Tryz.laysC172 s hmax v h w
open Go.RowKit in
theorem Tryz.strconv_Atoi_syntax (s : ByteArray) (hlim : s.size ≤ 281474976710656) (h : Lib.atoiAll s.data.toList = Lib.NumEnd.syntax) (ev : Value) (w : World) (hv : w.cell? ⟨2, 0, none⟩ = some ev) (hev : ev = .nilIface ∨ ∃ te pe, ev = .iface te pe) :
    Calls Tryz.prog 44 #[.string s] w fun e w' => ∃ N, e = .returned (.tuple #[.int .i64 (0), .iface 178 (.pointer (some ⟨N, 0, none⟩))]) ∧ w.heap.size ≤ N ∧ w'.heap[N]? = some (.cells #[.string ⟨#[65, 116, 111, 105]⟩, .string s, ev] 218 (0, 0)) ∧ Below w.heap.size w w' := Any.strconv_Atoi_syntax Tryz.laysC172 s hlim h ev w hv hev
open Go.RowKit in
theorem Tryz.strconv_Atoi_range (s : ByteArray) (hlim : s.size ≤ 281474976710656) (h : Lib.atoiAll s.data.toList = .range) (ev : Value) (w : World) (hv : w.cell? ⟨3, 0, none⟩ = some ev) (hev : ev = .nilIface ∨ ∃ te pe, ev = .iface te pe) :
    Calls Tryz.prog 44 #[.string s] w fun e w' => ∃ N, e = .returned (.tuple #[.int .i64 (Lib.atoiSat s.data.toList), .iface 178 (.pointer (some ⟨N, 0, none⟩))]) ∧ w.heap.size ≤ N ∧ w'.heap[N]? = some (.cells #[.string ⟨#[65, 116, 111, 105]⟩, .string s, ev] 218 (0, 0)) ∧ Below w.heap.size w w' := Any.strconv_Atoi_range Tryz.laysC172 s hlim h ev w hv hev
def Tryz.lays145_ren : Go.Shelf.Ren := ⟨fun | 145 => 43 | 220 => 79 | 219 => 116 | 217 => 158 | 225 => 159 | 224 => 160 | 267 => 161 | 266 => 184 | 314 => 185 | n => n, fun | 9 => 9 | 4 => 4 | 59 => 94 | 3 => 3 | 5 => 5 | 46 => 145 | 146 => 182 | 51 => 181 | n => n, fun | 1 => 1 | n => n⟩
theorem Tryz.lays145 : Go.Proofs.Lays.n145 Tryz.prog Tryz.lays145_ren := {
  mixed := by kernel_rfl
  f145 := Tryz.func43.trans (congrArg some (by kernel_rfl))
  f217 := Tryz.func158.trans (congrArg some (by kernel_rfl))
  f219 := Tryz.func116.trans (congrArg some (by kernel_rfl))
  f220 := Tryz.func79.trans (congrArg some (by kernel_rfl))
  f224 := Tryz.func160.trans (congrArg some (by kernel_rfl))
  f225 := Tryz.func159.trans (congrArg some (by kernel_rfl))
  f266 := Tryz.func184.trans (congrArg some (by kernel_rfl))
  f267 := Tryz.func161.trans (congrArg some (by kernel_rfl))
  f314 := Tryz.func185.trans (congrArg some (by kernel_rfl))
  t3 := Tryz.underlying3
  a3 := Tryz.isAgg3
  z3 := Tryz.sizeOf3
  v3 := Tryz.zeroValue3
  t4 := Tryz.underlying4
  a4 := Tryz.isAgg4
  z4 := Tryz.sizeOf4
  v4 := Tryz.zeroValue4
  t5 := Tryz.underlying5
  a5 := Tryz.isAgg5
  z5 := Tryz.sizeOf5
  v5 := Tryz.zeroValue5
  t9 := Tryz.underlying9
  a9 := Tryz.isAgg9
  z9 := Tryz.sizeOf9
  v9 := Tryz.zeroValue9
  t46 := Tryz.underlying145
  a46 := Tryz.isAgg145
  z46 := Tryz.sizeOf145
  v46 := Tryz.zeroValue145
  t51 := Tryz.underlying181
  a51 := Tryz.isAgg181
  z51 := Tryz.sizeOf181
  v51 := Tryz.zeroValue181
  t59 := Tryz.underlying94
  a59 := Tryz.isAgg94
  z59 := Tryz.sizeOf94
  v59 := Tryz.zeroValue94
  t146 := Tryz.underlying182
  a146 := Tryz.isAgg182
  z146 := Tryz.sizeOf182
  v146 := Tryz.zeroValue182
  g1 := by kernel_rfl }
open Go.RowKit Go.Lib in
theorem Tryz.strings_Cut (s sep : ByteArray) (m : Int) (w : World) (hs : s.size < 4294967281) (hm : w.cell? ⟨1, 0, none⟩ = some (.int .i64 m)) :
    Calls Tryz.prog 43 #[.string s, .string sep] w fun e w' => e = .returned (.tuple #[.string ⟨(Lib.cut s.data.toList sep.data.toList).1.toArray⟩, .string ⟨(Lib.cut s.data.toList sep.data.toList).2.1.toArray⟩, .bool (Lib.cut s.data.toList sep.data.toList).2.2]) ∧ ∃ n, w' = w.drewN n := Any.strings_Cut Tryz.lays145 s sep m w hs hm
def Tryz.lays146_ren : Go.Shelf.Ren := ⟨fun | 146 => 38 | 221 => 77 | 268 => 113 | 138 => 114 | 143 => 104 | 195 => 151 | 197 => 152 | 218 => 153 | 219 => 116 | 260 => 179 | 217 => 158 | 225 => 159 | 224 => 160 | 267 => 161 | 266 => 184 | 314 => 185 | n => n, fun | 9 => 9 | 31 => 27 | 3 => 3 | 4 => 4 | 0 => 0 | 105 => 206 | 21 => 21 | 5 => 5 | 46 => 145 | 119 => 256 | 139 => 259 | 138 => 258 | 146 => 182 | 51 => 181 | n => n, fun | 1 => 1 | 3 => 6 | 4 => 7 | n => n⟩
theorem Tryz.lays146 : Go.Proofs.Lays.n146 Tryz.prog Tryz.lays146_ren := {
  mixed := by kernel_rfl
  f138 := Tryz.func114.trans (congrArg some (by kernel_rfl))
  f143 := Tryz.func104.trans (congrArg some (by kernel_rfl))
  f146 := Tryz.func38.trans (congrArg some (by kernel_rfl))
  f195 := Tryz.func151.trans (congrArg some (by kernel_rfl))
  f197 := Tryz.func152.trans (congrArg some (by kernel_rfl))
  f217 := Tryz.func158.trans (congrArg some (by kernel_rfl))
  f218 := Tryz.func153.trans (congrArg some (by kernel_rfl))
  f219 := Tryz.func116.trans (congrArg some (by kernel_rfl))
  f221 := Tryz.func77.trans (congrArg some (by kernel_rfl))
  f224 := Tryz.func160.trans (congrArg some (by kernel_rfl))
  f225 := Tryz.func159.trans (congrArg some (by kernel_rfl))
  f260 := Tryz.func179.trans (congrArg some (by kernel_rfl))
  f266 := Tryz.func184.trans (congrArg some (by kernel_rfl))
  f267 := Tryz.func161.trans (congrArg some (by kernel_rfl))
  f268 := Tryz.func113.trans (congrArg some (by kernel_rfl))
  f314 := Tryz.func185.trans (congrArg some (by kernel_rfl))
  t0 := Tryz.underlying0
  a0 := Tryz.isAgg0
  z0 := Tryz.sizeOf0
  v0 := Tryz.zeroValue0
  t3 := Tryz.underlying3
  a3 := Tryz.isAgg3
  z3 := Tryz.sizeOf3
  v3 := Tryz.zeroValue3
  t4 := Tryz.underlying4
  a4 := Tryz.isAgg4
  z4 := Tryz.sizeOf4
  v4 := Tryz.zeroValue4
  t5 := Tryz.underlying5
  a5 := Tryz.isAgg5
  z5 := Tryz.sizeOf5
  v5 := Tryz.zeroValue5
  t9 := Tryz.underlying9
  a9 := Tryz.isAgg9
  z9 := Tryz.sizeOf9
  v9 := Tryz.zeroValue9
  t21 := Tryz.underlying21
  a21 := Tryz.isAgg21
  z21 := Tryz.sizeOf21
  v21 := Tryz.zeroValue21
  t31 := Tryz.underlying27
  a31 := Tryz.isAgg27
  z31 := Tryz.sizeOf27
  v31 := Tryz.zeroValue27
  t46 := Tryz.underlying145
  a46 := Tryz.isAgg145
  z46 := Tryz.sizeOf145
  v46 := Tryz.zeroValue145
  t51 := Tryz.underlying181
  a51 := Tryz.isAgg181
  z51 := Tryz.sizeOf181
  v51 := Tryz.zeroValue181
  t105 := Tryz.underlying206
  a105 := Tryz.isAgg206
  z105 := Tryz.sizeOf206
  v105 := Tryz.zeroValue206
  t119 := Tryz.underlying256
  a119 := Tryz.isAgg256
  z119 := Tryz.sizeOf256
  t138 := Tryz.underlying258
  a138 := Tryz.isAgg258
  z138 := Tryz.sizeOf258
  v138 := Tryz.zeroValue258
  t139 := Tryz.underlying259
  a139 := Tryz.isAgg259
  z139 := Tryz.sizeOf259
  v139 := Tryz.zeroValue259
  t146 := Tryz.underlying182
  a146 := Tryz.isAgg182
  z146 := Tryz.sizeOf182
  v146 := Tryz.zeroValue182
  g1 := by kernel_rfl
  g3 := by kernel_rfl
  g4 := by kernel_rfl }
open Go.RowKit Go.Lib in
theorem Tryz.strings_Split (s sep : ByteArray) (m : Int) (w : World) (hs : s.size < 4294967281) (hm : w.cell? ⟨1, 0, none⟩ = some (.int .i64 m)) (h1 : 1 ≤ sep.size) :
    Calls Tryz.prog 38 #[.string s, .string sep] w fun e w' =>
      e = .returned (.slice (some ⟨w.heap.size, 0, none⟩) (Lib.countB s sep + 1) (Lib.countB s sep + 1)) ∧ w' = w.alloc (.cells ((Lib.splitB sep 0 (Lib.countB s sep) s).map Value.string).toArray 9) := Any.strings_Split Tryz.lays146 (by kernel_rfl) s sep m w hs hm h1
end Go.Proofs
/- The library's calls at this program, answered by the kit's contracts; the laid tables as rows. -/
namespace Go.Proofs.YtnhnlkljcfbhfaaGreatDoor
open Go Go.Ab Go.RowKit
def rw0 : List AV := [.s (.int .u8 (80)), .s (.int .i64 (1)), .s (.string ⟨#[112, 97, 119, 110]⟩), .s (.int .u8 (78)), .s (.int .i64 (3)), .s (.string ⟨#[107, 110, 105, 103, 104, 116]⟩), .s (.int .u8 (66)), .s (.int .i64 (3)), .s (.string ⟨#[98, 105, 115, 104, 111, 112]⟩), .s (.int .u8 (82)), .s (.int .i64 (5)), .s (.string ⟨#[114, 111, 111, 107]⟩), .s (.int .u8 (81)), .s (.int .i64 (9)), .s (.string ⟨#[113, 117, 101, 101, 110]⟩), .s (.int .u8 (75)), .s (.int .i64 (0)), .s (.string ⟨#[107, 105, 110, 103]⟩), .s (.int .u8 (65)), .s (.int .i64 (0)), .s (.string ⟨#[102, 97, 105, 114, 121, 45, 97]⟩), .s (.int .u8 (67)), .s (.int .i64 (0)), .s (.string ⟨#[102, 97, 105, 114, 121, 45, 99]⟩), .s (.int .u8 (68)), .s (.int .i64 (0)), .s (.string ⟨#[102, 97, 105, 114, 121, 45, 100]⟩), .s (.int .u8 (69)), .s (.int .i64 (0)), .s (.string ⟨#[102, 97, 105, 114, 121, 45, 101]⟩), .s (.int .u8 (70)), .s (.int .i64 (0)), .s (.string ⟨#[102, 97, 105, 114, 121, 45, 102]⟩), .s (.int .u8 (71)), .s (.int .i64 (0)), .s (.string ⟨#[102, 97, 105, 114, 121, 45, 103]⟩), .s (.int .u8 (72)), .s (.int .i64 (0)), .s (.string ⟨#[102, 97, 105, 114, 121, 45, 104]⟩), .s (.int .u8 (73)), .s (.int .i64 (0)), .s (.string ⟨#[102, 97, 105, 114, 121, 45, 105]⟩), .s (.int .u8 (74)), .s (.int .i64 (0)), .s (.string ⟨#[102, 97, 105, 114, 121, 45, 106]⟩)]
def rw4 : List AV := [.s (.int .i64 (8)), .s (.int .i64 (8))]
def rw5 : List AV := [.s (.int .u64 (1)), .s (.int .u64 (10)), .s (.int .u64 (100)), .s (.int .u64 (1000)), .s (.int .u64 (10000)), .s (.int .u64 (100000)), .s (.int .u64 (1000000)), .s (.int .u64 (10000000)), .s (.int .u64 (100000000)), .s (.int .u64 (1000000000)), .s (.int .u64 (10000000000)), .s (.int .u64 (100000000000)), .s (.int .u64 (1000000000000)), .s (.int .u64 (10000000000000)), .s (.int .u64 (100000000000000)), .s (.int .u64 (1000000000000000)), .s (.int .u64 (10000000000000000)), .s (.int .u64 (100000000000000000)), .s (.int .u64 (1000000000000000000)), .s (.int .u64 (10000000000000000000))]
def rw8 : List AV := [.s (.int .u8 (0)), .s (.int .u8 (1)), .s (.int .u8 (28)), .s (.int .u8 (2)), .s (.int .u8 (29)), .s (.int .u8 (14)), .s (.int .u8 (24)), .s (.int .u8 (3)), .s (.int .u8 (30)), .s (.int .u8 (22)), .s (.int .u8 (20)), .s (.int .u8 (15)), .s (.int .u8 (25)), .s (.int .u8 (17)), .s (.int .u8 (4)), .s (.int .u8 (8)), .s (.int .u8 (31)), .s (.int .u8 (27)), .s (.int .u8 (13)), .s (.int .u8 (23)), .s (.int .u8 (21)), .s (.int .u8 (19)), .s (.int .u8 (16)), .s (.int .u8 (7)), .s (.int .u8 (26)), .s (.int .u8 (12)), .s (.int .u8 (18)), .s (.int .u8 (6)), .s (.int .u8 (11)), .s (.int .u8 (5)), .s (.int .u8 (10)), .s (.int .u8 (9))]
def rw9 : List AV := [.s (.int .u8 (0)), .s (.int .u8 (1)), .s (.int .u8 (56)), .s (.int .u8 (2)), .s (.int .u8 (57)), .s (.int .u8 (49)), .s (.int .u8 (28)), .s (.int .u8 (3)), .s (.int .u8 (61)), .s (.int .u8 (58)), .s (.int .u8 (42)), .s (.int .u8 (50)), .s (.int .u8 (38)), .s (.int .u8 (29)), .s (.int .u8 (17)), .s (.int .u8 (4)), .s (.int .u8 (62)), .s (.int .u8 (47)), .s (.int .u8 (59)), .s (.int .u8 (36)), .s (.int .u8 (45)), .s (.int .u8 (43)), .s (.int .u8 (51)), .s (.int .u8 (22)), .s (.int .u8 (53)), .s (.int .u8 (39)), .s (.int .u8 (33)), .s (.int .u8 (30)), .s (.int .u8 (24)), .s (.int .u8 (18)), .s (.int .u8 (12)), .s (.int .u8 (5)), .s (.int .u8 (63)), .s (.int .u8 (55)), .s (.int .u8 (48)), .s (.int .u8 (27)), .s (.int .u8 (60)), .s (.int .u8 (41)), .s (.int .u8 (37)), .s (.int .u8 (16)), .s (.int .u8 (46)), .s (.int .u8 (35)), .s (.int .u8 (44)), .s (.int .u8 (21)), .s (.int .u8 (52)), .s (.int .u8 (32)), .s (.int .u8 (23)), .s (.int .u8 (11)), .s (.int .u8 (54)), .s (.int .u8 (26)), .s (.int .u8 (40)), .s (.int .u8 (15)), .s (.int .u8 (34)), .s (.int .u8 (20)), .s (.int .u8 (31)), .s (.int .u8 (10)), .s (.int .u8 (25)), .s (.int .u8 (14)), .s (.int .u8 (19)), .s (.int .u8 (9)), .s (.int .u8 (13)), .s (.int .u8 (8)), .s (.int .u8 (7)), .s (.int .u8 (6))]
def rw10 : List AV := [.s (.int .i64 (1)), .s (.int .i64 (2)), .s (.int .i64 (2)), .s (.int .i64 (1)), .s (.int .i64 (2)), .s (.int .i64 (-1)), .s (.int .i64 (1)), .s (.int .i64 (-2)), .s (.int .i64 (-1)), .s (.int .i64 (-2)), .s (.int .i64 (-2)), .s (.int .i64 (-1)), .s (.int .i64 (-2)), .s (.int .i64 (1)), .s (.int .i64 (-1)), .s (.int .i64 (2))]
def rw11 : List AV := [.s (.int .i64 (1)), .s (.int .i64 (1)), .s (.int .i64 (-1)), .s (.int .i64 (1)), .s (.int .i64 (-1)), .s (.int .i64 (-1)), .s (.int .i64 (1)), .s (.int .i64 (-1))]
def rw12 : List AV := [.s (.int .i64 (1)), .s (.int .i64 (0)), .s (.int .i64 (0)), .s (.int .i64 (1)), .s (.int .i64 (-1)), .s (.int .i64 (0)), .s (.int .i64 (0)), .s (.int .i64 (-1))]
noncomputable def rowsR (m : Int) (e2 e3 : Value) (g : Nat) : Option (List AV) := match g with
  | 0 => some rw0
  | 1 => some [.s (.int .i64 m)]
  | 2 => some [.s e2]
  | 3 => some [.s e3]
  | 4 => some rw4
  | 5 => some rw5
  | 8 => some rw8
  | 9 => some rw9
  | 10 => some rw10
  | 11 => some rw11
  | 12 => some rw12
  | _ => none
def strsOf : List (List AV) → Option (List ByteArray)
  | [] => some []
  | r :: rs => match r, strsOf rs with
    | [.s (.string b)], some xs => some (b :: xs)
    | _, _ => none
noncomputable def joinC : List AV → Option (AS → Option (AV × AS))
  | [.sl o i n none, .s (.string sep)] => some fun σ => match σ.get o with
    | some (.cells _ es _ rows) => if es = 1 ∧ i + n ≤ rows.length ∧ n ≤ 140737488355328 then match strsOf ((rows.drop i).take n) with
      | some xs => if (Lib.join (xs.map (·.data.toList)) sep.data.toList).length ≤ 140737488355328 then some (.s (.string ⟨(Lib.join (xs.map (·.data.toList)) sep.data.toList).toArray⟩), σ) else none
      | none => none
      else none
    | _ => none
  | _ => none
noncomputable def atoiC : List AV → Option (AS → Option (AV × AS))
  | [.s (.string s)] => if s.size ≤ 281474976710656 then match Lib.atoiAll s.data.toList with
    | .ok v => some fun σ => some (.s (.tuple #[.int .i64 v, .nilIface]), σ)
    | Lib.NumEnd.syntax => some fun σ => some (.tup [.s (.int .i64 0), .ifc 178 (.ptr σ.newId 0 0)], σ.push .dead)
    | .range => some fun σ => some (.tup [.s (.int .i64 (Lib.atoiSat s.data.toList)), .ifc 178 (.ptr σ.newId 0 0)], σ.push .dead)
    else none
  | _ => none
def decN : Nat → Nat → List UInt8
  | 0, _ => []
  | f + 1, n => if n < 10 then [UInt8.ofNat (48 + n)] else decN f (n / 10) ++ [UInt8.ofNat (48 + n % 10)]
def itoaN (n : Int) : List UInt8 := if n < 0 then 45 :: decN 30 n.natAbs else decN 30 n.toNat
noncomputable def itoaC : List AV → Option (AS → Option (AV × AS))
  | [.s (.int .i64 n)] => if -9223372036854775808 ≤ n ∧ n ≤ 9223372036854775807 then some fun σ => some (.s (.string ⟨(itoaN n).toArray⟩), σ) else none
  | _ => none
noncomputable def cutC : List AV → Option (AS → Option (AV × AS))
  | [.s (.string s), .s (.string sep)] => if s.size < 4294967281 then some fun σ => some (.s (.tuple #[.string ⟨(Lib.cut s.data.toList sep.data.toList).1.toArray⟩, .string ⟨(Lib.cut s.data.toList sep.data.toList).2.1.toArray⟩, .bool (Lib.cut s.data.toList sep.data.toList).2.2]), σ) else none
  | _ => none
noncomputable def splitC : List AV → Option (AS → Option (AV × AS))
  | [.s (.string s), .s (.string sep)] => if s.size < 4294967281 ∧ 1 ≤ sep.size then some fun σ => some (.sl σ.newId 0 (Lib.countB s sep + 1) none, σ.push (.cells 9 1 true ((Lib.splitB sep 0 (Lib.countB s sep) s).map fun b => [.s (.string b)]))) else none
  | _ => none
noncomputable def libs : List (FuncId × (List AV → Option (AS → Option (AV × AS)))) := [(74, joinC), (44, atoiC), (40, itoaC), (43, cutC), (38, splitC)]
noncomputable def glR (m : Int) (e2 e3 : Value) : Gl := ⟨rowsR m e2 e3, byF libs⟩
noncomputable def isTrue : Option (AV × AS) → Bool
  | some (.s (.bool true), _) => true
  | _ => false
theorem names_all : (Tryz.prog.funcs.all fun fn => !(fn.name == "runtime.NumGoroutine")) = true := by kernel_rfl
theorem fit : Fit Tryz.prog := ⟨fun f fn h => by
    have := Array.all_eq_true'.1 names_all fn (Array.mem_of_getElem? h)
    simpa using this, by kernel_rfl⟩
end Go.Proofs.YtnhnlkljcfbhfaaGreatDoor
/- The library's answers are the library's: each contract, shown. -/
namespace Go.Proofs.YtnhnlkljcfbhfaaGreatDoor
open Go Go.Ab Go.RowKit
theorem decN_eq : ∀ (f n : Nat), n < 10 ^ f → 0 < f → decN f n = Lib.decDigits n
  | 0, _, _, h => absurd h (Nat.lt_irrefl 0)
  | f + 1, n, h, _ => by
    rw [decN, Lib.decDigits]
    by_cases h10 : n < 10
    · rw [if_pos h10, dif_pos h10]
    · rw [if_neg h10, dif_neg h10]
      cases f with
      | zero => simp at h; omega
      | succ f => rw [decN_eq (f + 1) (n / 10) (by rw [Nat.pow_succ] at h; omega) (Nat.succ_pos f)]
theorem itoaN_eq {n : Int} (h0 : -9223372036854775808 ≤ n) (h1 : n ≤ 9223372036854775807) : itoaN n = Lib.itoa n := by
  have e : (10 : Nat) ^ 30 = 1000000000000000000000000000000 := by decide
  unfold itoaN Lib.itoa
  rw [decN_eq 30 n.natAbs (by omega) (by decide), decN_eq 30 n.toNat (by omega) (by decide)]
theorem body74 : Bodied Tryz.prog 74 := ⟨_, Tryz.func74, rfl⟩
theorem body44 : Bodied Tryz.prog 44 := ⟨_, Tryz.func44, rfl⟩
theorem body40 : Bodied Tryz.prog 40 := ⟨_, Tryz.func40, rfl⟩
theorem body43 : Bodied Tryz.prog 43 := ⟨_, Tryz.func43, rfl⟩
theorem body38 : Bodied Tryz.prog 38 := ⟨_, Tryz.func38, rfl⟩
theorem below_drawN (w : World) (n k : Nat) : Below k w (w.drewN n) := ⟨rfl, rfl, rfl, Nat.le_refl _, fun _ _ => rfl⟩
theorem below_grow (w : World) (os : Array Obj) : Below w.heap.size w (Go.Sort.grow w os) := ⟨rfl, rfl, rfl, by simp [Go.Sort.grow], fun k hk => by simp [Go.Sort.grow, Array.getElem?_append, hk]⟩
theorem below_bytes (w : World) (e : TypeId) (s : ByteArray) : Below w.heap.size w (Lib.bytesWorld w e s) := by
  have h1 : Below w.heap.size w (w.drew.alloc (.cells (Lib.bytesCells w e s) e)) := ((Below.refl _ w).drew).alloc (Nat.le_refl _) _
  unfold Lib.bytesWorld World.freeze
  rw [if_neg (by decide)]
  refine ⟨h1.os, h1.tape, h1.output, by simp, fun k hk => ?_⟩
  rw [Array.getElem?_modify, if_neg (by show w.heap.size ≠ k; omega)]
  exact h1.block k hk
theorem strsOf_spec : ∀ {rows : List (List AV)} {xs : List ByteArray}, strsOf rows = some xs → rows.flatten = (xs.map Value.string).map .s
  | [], xs, h => by simp only [strsOf, Option.some.injEq] at h; subst h; rfl
  | r :: rs, xs, h => by
    unfold strsOf at h
    split at h
    · rename_i b xs' hx
      cases h
      simp [strsOf_spec hx]
    · cases h
section
variable {m : Int} {e2 e3 : Value}
theorem join_ctr {al : List AV} {c : AS → Option (AV × AS)} (h : joinC al = some c) : Ctr Tryz.prog (glR m e2 e3) 74 al c := by
  unfold joinC at h
  split at h
  · rename_i o i n sep
    cases h
    refine Ctr.look body74 (fun σ v σ' hh => ?_) (fun σ v σ' hh N σ₂ hl => ?_)
    · split at hh
      · rename_i e es ex rows hg
        split at hh
        · rename_i hc
          obtain ⟨rfl, hle, hn⟩ := hc
          split at hh
          · rename_i xs hxs
            split at hh
            · rename_i hj
              cases hh
              refine ⟨rfl, _, rfl, fun B ρ w vs hG hrep hcs => ?_⟩
              cases hvs : vs with | mk vl => ?_
              rw [hvs] at hcs
              cases hcs with
              | cons h1 hr => cases hr with
                | cons h2 hr =>
                  cases hr; cases h2
                  cases h1 with
                  | @sl _ _ _ l hl =>
                    obtain ⟨k1, k2, ws, k3, k4, k5⟩ := own_cells hrep hg hl hle
                    rw [strsOf_spec hxs] at k3
                    have := k3.s_eq
                    subst this
                    obtain ⟨q1, q2, q3, q4, cc, q5, q6, q7⟩ := hrep.obj o _ l hg hl
                    have hxl : xs.length = n := by simpa using k4
                    have hj2 := Tryz.strings_Join l.blk (i * l.es) (l.cap - i) xs sep w (fun j x hx => by
                      rw [q1]
                      exact k5 j (.string x) (by rw [List.getElem?_map, hx]; rfl)) (hrep.new o l hl).2 (by omega) (by omega) hj
                    rw [hxl] at hj2
                    exact hj2
            · cases hh
          · cases hh
        · cases hh
      · cases hh
    · split at hh
      · rename_i hg
        simp only [hl.get _ _ hg]
        split at hh
        · rename_i hc
          rw [if_pos hc]
          split at hh
          · split at hh
            · rename_i hj
              cases hh
              rw [if_pos hj]
            · cases hh
          · cases hh
        · cases hh
      · cases hh
  · cases h
theorem itoa_ctr {al : List AV} {c : AS → Option (AV × AS)} (h : itoaC al = some c) : Ctr Tryz.prog (glR m e2 e3) 40 al c := by
  unfold itoaC at h
  split at h
  · rename_i n
    split at h
    · rename_i hb
      cases h
      refine Ctr.plain body40 fun B ρ w vs hG hk hcs => ?_
      cases hvs : vs with | mk vl => ?_
      rw [hvs] at hcs
      cases hcs with
      | cons h1 hr =>
        cases hr; cases h1
        rw [itoaN_eq hb.1 hb.2]
        refine (Tryz.strconv_Itoa n hb.1 hb.2 w ?_).mono fun e w' ⟨he, k, os, hw⟩ => ⟨he, ?_⟩
        · obtain ⟨cc, e, fz, h2, h3⟩ := hG.cells hk (g := 5) (vs := Lib.pow10Tab.map (.int .u64)) rfl
          unfold Lib.TabIs World.var?
          rw [show Tryz.prog.globalNamed "internal/strconv.uint64pow10" = some 5 by kernel_rfl]
          simp only [Option.bind_some, h2]
          rw [← h3]
        · rw [hw]
          have := below_grow (w.drewN k) os
          exact (below_drawN w k w.heap.size).trans this
    · cases h
  · cases h
theorem cut_ctr {al : List AV} {c : AS → Option (AV × AS)} (h : cutC al = some c) : Ctr Tryz.prog (glR m e2 e3) 43 al c := by
  unfold cutC at h
  split at h
  · rename_i s sep
    split at h
    · rename_i hb
      cases h
      refine Ctr.plain body43 fun B ρ w vs hG hk hcs => ?_
      cases hvs : vs with | mk vl => ?_
      rw [hvs] at hcs
      cases hcs with
      | cons h1 hr => cases hr with
        | cons h2 hr =>
          cases hr; cases h1; cases h2
          refine (Tryz.strings_Cut s sep m w hb (hG.cell hk (g := 1) rfl)).mono fun e w' ⟨he, n, hw⟩ => ⟨he, ?_⟩
          rw [hw]; exact below_drawN w n _
    · cases h
  · cases h
theorem split_ctr {al : List AV} {c : AS → Option (AV × AS)} (h : splitC al = some c) : Ctr Tryz.prog (glR m e2 e3) 38 al c := by
  unfold splitC at h
  split at h
  · rename_i s sep
    split at h
    · rename_i hb
      cases h
      refine ⟨body38, fun σ v σ' hh B ρ w vs hG hrep hcs k => ?_, fun σ v σ' hh N hN => ?_⟩
      · cases hh
        cases hvs : vs with | mk vl => ?_
        rw [hvs] at hcs
        cases hcs with
        | cons h1 hr => cases hr with
          | cons h2 hr =>
            cases hr; cases h1; cases h2
            have hlen := Lib.splitB_all sep hb.2 0 _ s rfl
            refine callsIn_wide.2 ((Tryz.strings_Split s sep m w hb.1 (hG.cell hrep.keep (g := 1) rfl) hb.2).mono fun e w' ⟨he, hw⟩ => ?_)
            subst hw
            refine ⟨ρ.ext σ.newId ⟨w.heap.size, Lib.countB s sep + 1, 1⟩, _, he, hrep.le_ext _, ?_, ?_⟩
            · have := Conc.sl (M := memOf B) (i := 0) (n := Lib.countB s sep + 1) (Rho.ext_self ρ σ.newId ⟨w.heap.size, Lib.countB s sep + 1, 1⟩)
              simpa using this
            · refine hrep.push rfl rfl rfl rfl rfl ⟨rfl, by simp [hlen], by simp [hlen], by simp, _, Array.getElem?_push_size, by simp [hlen], ?_⟩
              have e1 : ((Lib.splitB sep 0 (Lib.countB s sep) s).map fun b => [AV.s (.string b)]).flatten = ((Lib.splitB sep 0 (Lib.countB s sep) s).map Value.string).map .s := by
                induction Lib.splitB sep 0 (Lib.countB s sep) s with
                | nil => rfl
                | cons a l ih => simp [ih]
              rw [e1, List.take_of_length_le (by simp)]
              exact Concs.ofS _
      · cases hh
        exact ⟨[.push _], ⟨trivial, trivial⟩, rfl, fun σ₂ hl => by simp only [hl.newId]; rfl⟩
    · cases h
  · cases h
theorem dead_ctr {s : ByteArray} {k : Int} (hx : ∀ (B w : World) (ρ : Rho), GlOk (memOf B) ρ (glR m e2 e3) → (∀ b, b < B.heap.size → w.heap[b]? = B.heap[b]?) → Calls Tryz.prog 44 #[.string s] w fun e w' => ∃ N, e = .returned (.tuple #[.int .i64 k, .iface 178 (.pointer (some ⟨N, 0, none⟩))]) ∧ w.heap.size ≤ N ∧ N < w'.heap.size ∧ Below w.heap.size w w') :
    Ctr Tryz.prog (glR m e2 e3) 44 [.s (.string s)] (fun σ => some (.tup [.s (.int .i64 k), .ifc 178 (.ptr σ.newId 0 0)], σ.push .dead)) := by
  refine ⟨body44, fun σ v σ' hh B ρ w vs hG hrep hcs n => ?_, fun σ v σ' hh N hN => ?_⟩
  · cases hh
    cases hvs : vs with | mk vl => ?_
    rw [hvs] at hcs
    cases hcs with
    | cons h1 hr =>
      cases hr; cases h1
      refine callsIn_wide.2 ((hx B w ρ hG hrep.keep).mono fun e w' ⟨N, he, h1, h2, h3⟩ => ?_)
      refine ⟨ρ.ext σ.newId ⟨N, 0, 1⟩, _, he, hrep.le_ext _, .tup (.cons (.s _) (.cons (.ifc ?_) .nil)), hrep.pushDead h3 h1 h2⟩
      have := Conc.ptr (M := memOf B) (i := 0) (f := 0) (Rho.ext_self ρ σ.newId ⟨N, 0, 1⟩)
      simpa using this
  · cases hh
    exact ⟨[.push _], ⟨trivial, trivial⟩, rfl, fun σ₂ hl => by simp only [hl.newId]; rfl⟩
theorem atoi_ctr (h2 : e2 = .nilIface ∨ ∃ te pe, e2 = .iface te pe) (h3 : e3 = .nilIface ∨ ∃ te pe, e3 = .iface te pe) {al : List AV} {c : AS → Option (AV × AS)} (h : atoiC al = some c) : Ctr Tryz.prog (glR m e2 e3) 44 al c := by
  unfold atoiC at h
  split at h
  · rename_i s
    split at h
    · rename_i hb
      split at h
      · rename_i v hv
        cases h
        refine Ctr.plain body44 fun B ρ w vs hG hk hcs => ?_
        cases hvs : vs with | mk vl => ?_
        rw [hvs] at hcs
        cases hcs with
        | cons h1 hr =>
          cases hr; cases h1
          refine (Tryz.strconv_Atoi_ok s (by omega) v hv w).mono fun e w' ⟨he, hw⟩ => ⟨he, ?_⟩
          rcases hw with rfl | ⟨t, rfl⟩
          · exact Below.refl _ _
          · exact below_bytes w 5 t
      · rename_i hv
        cases h
        exact dead_ctr fun B w ρ hG hk => (Tryz.strconv_Atoi_syntax s hb hv e2 w (hG.cell hk (g := 2) rfl) h2).mono fun e w' ⟨N, he, h1, h4, h5⟩ => ⟨N, he, h1, (Array.getElem?_eq_some_iff.1 h4).1, h5⟩
      · rename_i hv
        cases h
        exact dead_ctr fun B w ρ hG hk => (Tryz.strconv_Atoi_range s hb hv e3 w (hG.cell hk (g := 3) rfl) h3).mono fun e w' ⟨N, he, h1, h4, h5⟩ => ⟨N, he, h1, (Array.getElem?_eq_some_iff.1 h4).1, h5⟩
    · cases h
  · cases h
theorem given (h2 : e2 = .nilIface ∨ ∃ te pe, e2 = .iface te pe) (h3 : e3 = .nilIface ∨ ∃ te pe, e3 = .iface te pe) : Given Tryz.prog (glR m e2 e3) := given_of fun p hp al c hc => by
  simp only [libs, List.mem_cons, List.not_mem_nil, or_false] at hp
  rcases hp with rfl | rfl | rfl | rfl | rfl
  · exact join_ctr hc
  · exact atoi_ctr h2 h3 hc
  · exact itoa_ctr hc
  · exact cut_ctr hc
  · exact split_ctr hc
end
#print axioms given
end Go.Proofs.YtnhnlkljcfbhfaaGreatDoor
/- The chapter's examples: one closed run. -/
namespace Go.Proofs.YtnhnlkljcfbhfaaGreatDoor
open Go Go.Ab
theorem known_run (m : Int) (e2 e3 : Value) : isTrue (runCall Tryz.prog (glR m e2 e3) 400 8 []) = true := by kernel_rfl
#print axioms known_run
end Go.Proofs.YtnhnlkljcfbhfaaGreatDoor
/- The table of the walks: the library's answers, and known(). -/
namespace Go.Proofs.YtnhnlkljcfbhfaaGreatDoor
open Go Go.Ab Go.RowKit
noncomputable def knownC : List AV → Option (AS → Option (AV × AS))
  | [] => some fun σ => some (.s (.bool true), σ)
  | _ => none
noncomputable def glK (m : Int) (e2 e3 : Value) : Gl := ⟨rowsR m e2 e3, byF ((8, knownC) :: libs)⟩
theorem ctr_rows {P : Program} {rows : Nat → Option (List AV)} {o1 o2 : FuncId → List AV → Option (AS → Option (AV × AS))} {f : FuncId} {al : List AV} {c : AS → Option (AV × AS)} (h : Ctr P ⟨rows, o1⟩ f al c) : Ctr P ⟨rows, o2⟩ f al c :=
  ⟨h.body, fun σ v σ' ho B ρ w vs hG hrep hc n => h.ok σ v σ' ho B ρ w vs hG hrep hc n, h.acts⟩
def isS : AV → Bool
  | .s _ => true
  | _ => false
theorem allS : ∀ {row : List AV}, row.all isS = true → ∃ vs : List Value, row = vs.map .s
  | [], _ => ⟨[], rfl⟩
  | a :: r, h => by
    rw [List.all_cons, Bool.and_eq_true] at h
    obtain ⟨vs, rfl⟩ := allS h.2
    cases a with
    | s v => exact ⟨v :: vs, rfl⟩
    | _ => cases h.1
theorem rowsR_s (m : Int) (e2 e3 : Value) {g : Nat} {row : List AV} (h : rowsR m e2 e3 g = some row) : ∃ vs : List Value, row = vs.map .s := by
  refine allS ?_
  unfold rowsR at h
  split at h <;> cases h <;> rfl
theorem glok_at {G : Gl} {B w : World} {ρ : Rho} (hG : GlOk (memOf B) ρ G) (hp : ∀ g row, G.rows g = some row → ∃ vs : List Value, row = vs.map .s) (hk : ∀ b, b < B.heap.size → w.heap[b]? = B.heap[b]?) : GlOk (memOf w) (fun _ => none) G := fun g row h => by
  obtain ⟨vs, rfl⟩ := hp g row h
  obtain ⟨c, e, fz, h1, h2⟩ := hG.cells hk h
  have hl : c.size = vs.length := by rw [← h2, Array.length_toList]
  refine ⟨.mk h1 (by simp) ?_, c, e, fz, h1, by simpa using hl⟩
  have : (c.toList.drop 0).take ([vs.map AV.s].length * (vs.map AV.s).length) = vs := by
    rw [List.drop_zero, h2, List.take_of_length_le (by simp)]
  rw [this]
  simpa using Concs.ofS vs
theorem body8 : Bodied Tryz.prog 8 := ⟨_, Tryz.func8, rfl⟩
section
variable {m : Int} {e2 e3 : Value}
theorem known_ctr (h2 : e2 = .nilIface ∨ ∃ te pe, e2 = .iface te pe) (h3 : e3 = .nilIface ∨ ∃ te pe, e3 = .iface te pe) {al : List AV} {c : AS → Option (AV × AS)} (h : knownC al = some c) : Ctr Tryz.prog (glR m e2 e3) 8 al c := by
  unfold knownC at h
  split at h
  · cases h
    obtain ⟨σk, hk⟩ : ∃ σ, runCall Tryz.prog (glR m e2 e3) 400 8 [] = some (.s (.bool true), σ) := by
      have := known_run m e2 e3
      generalize runCall Tryz.prog (glR m e2 e3) 400 8 [] = r at this
      unfold isTrue at this
      split at this
      · exact ⟨_, rfl⟩
      · cases this
    refine ⟨body8, fun σ v' σ' hv B ρ w vs hG hrep hc k => ?_, fun σ v' σ' hv N hN => ?_⟩
    · cases hv
      refine call_sound (exec_sound fit (given h2 h3) 400) (G := glR m e2 e3) (B := w) (ρ := fun _ => none) (σ := ⟨.e, 0, none⟩) («as» := []) ?_ (start_rep w) ?_ hk k (R := fun e w' => ∃ ρ' y, e = .returned y ∧ ρ.le ρ' ∧ Conc (memOf B) ρ' (.s (.bool true)) y ∧ Rep B ρ' σ w') (fun ρ' y w' _ hcy hrep' => ?_)
      · exact glok_at hG (fun g row h => rowsR_s m e2 e3 h) hrep.keep
      · cases hvs : vs.toList with
        | nil => exact .nil
        | cons a b => rw [hvs] at hc; cases hc
      · cases hcy
        exact ⟨ρ, _, rfl, Rho.le_refl ρ, .s _, hrep.after hrep'⟩
    · cases hv
      exact ⟨[], trivial, rfl, fun σ₂ _ => rfl⟩
  · cases h
theorem givenK (h2 : e2 = .nilIface ∨ ∃ te pe, e2 = .iface te pe) (h3 : e3 = .nilIface ∨ ∃ te pe, e3 = .iface te pe) : Given Tryz.prog (glK m e2 e3) := given_of fun p hp al c hc => by
  simp only [libs, List.mem_cons, List.not_mem_nil, or_false] at hp
  refine ctr_rows (o1 := (glR m e2 e3).orc) ?_
  rcases hp with rfl | rfl | rfl | rfl | rfl | rfl
  · exact known_ctr h2 h3 hc
  · exact join_ctr hc
  · exact atoi_ctr h2 h3 hc
  · exact itoa_ctr hc
  · exact cut_ctr hc
  · exact split_ctr hc
end
#print axioms givenK
end Go.Proofs.YtnhnlkljcfbhfaaGreatDoor
/- The law's own decimal. -/
namespace Go.Ab
theorem not_base {H : List (Nat × AObj)} {base k : Nat} (h : ∀ p ∈ H, p.1 < base) (hm : base + k ∈ H.map (·.1)) : False := by
  obtain ⟨p, hp, he⟩ := List.mem_map.1 hm
  have := h p hp
  omega
section rules
variable {P : Program} {G : Gl} {B : AS} {W : List Nat} {ops : Array Oper} {os : List Oper} {L : List (Nat × AV)} {N : Nat} {ds : List Nat} {H : List (Nat × AObj)} {Q : Cfg → Prop} {ty : TypeId} {pos : String} {af : Array Edge} {d : Nat}
theorem SL_addU {t yt : TypeId} {x y : Operand} {a b : Int} (hd : d < N) (hx : evL G L x = some (.s (.int .u64 a))) (hy : evL G L y = some (.s (.int .u64 b))) (h1 : 0 ≤ a + b) (h2 : a + b ≤ 18446744073709551615) (k : SL P G B W ops os ((d, .s (.int .u64 (a + b))) :: L) N ds H Q) :
    SL P G B W ops (⟨some d, .binOp .add t x y yt, ty, pos, af, none⟩ :: os) L N ds H Q :=
  SL_fast hd hx hy (by simp only [fastBin, if_true, IntWalk.u64_in _ ⟨h1, h2⟩]) k
theorem SL_quoU {t yt : TypeId} {x y : Operand} {a b : Int} (hd : d < N) (hx : evL G L x = some (.s (.int .u64 a))) (hy : evL G L y = some (.s (.int .u64 b))) (h0 : 0 ≤ a) (h1 : a ≤ 18446744073709551615) (hb : 1 ≤ b) (k : SL P G B W ops os ((d, .s (.int .u64 (a / b))) :: L) N ds H Q) :
    SL P G B W ops (⟨some d, .binOp .quo t x y yt, ty, pos, af, none⟩ :: os) L N ds H Q :=
  SL_bin hd hx hy rfl (by
    show evalP P (Op.intDiv .quo .u64 a b) = _
    unfold Op.intDiv
    rw [if_neg (by omega)]
    show some (Value.int .u64 (IntKind.u64.wrap (a.tdiv b))) = _
    rw [Int.tdiv_eq_ediv_of_nonneg h0, IntWalk.u64_in _ ⟨Int.ediv_nonneg h0 (by omega), Int.le_trans (Int.ediv_le_self b h0) h1⟩]) k
end rules
end Go.Ab
namespace Go.Proofs.YtnhnlkljcfbhfaaGreatDoor
open Go Go.Ab
theorem bd67 : (Tryz.prog.funcs[67]?).map (·.body.isNone) = some false := by rw [Tryz.func67]; rfl
theorem bd28 : (Tryz.prog.funcs[28]?).map (·.body.isNone) = some false := by rw [Tryz.func28]; rfl
theorem k124_5 : kinds2 Tryz.prog 124 5 = some (.u64, .u8) := by kernel_rfl
theorem k3_124 : kinds2 Tryz.prog 3 124 = some (.i64, .u64) := by kernel_rfl
def decI (n : Int) : ByteArray := ⟨(decN 30 n.toNat).toArray⟩
theorem decN_len : ∀ (f n : Nat), (decN f n).length ≤ f
  | 0, _ => by simp [decN]
  | f + 1, n => by
    rw [decN]
    split
    · simp
    · have := decN_len f (n / 10); simp; omega
theorem decI_le (n : Int) : (decI n).size ≤ 30 := by
  show (decN 30 n.toNat).toArray.size ≤ 30
  simpa using decN_len 30 n.toNat
theorem catOk {a b : ByteArray} (h1 : a.size ≤ 30) (h2 : b.size ≤ 30) : a.size + b.size ≤ 9223372036854775807 := by omega
theorem decI_small {n : Int} (h0 : 0 ≤ n) (h : n < 10) : decI n = ⟨#[UInt8.ofNat (48 + n).toNat]⟩ := by
  unfold decI
  rw [decN, if_pos (by omega), show (48 + n).toNat = 48 + n.toNat by omega]
theorem decI_step {n : Int} (h : 10 ≤ n) (h2 : n ≤ 10000) : decI n = decI (n / 10) ++ ⟨#[UInt8.ofNat (48 + n % 10).toNat]⟩ := by
  have e : decN 30 n.toNat = decN 30 (n / 10).toNat ++ [UInt8.ofNat (48 + n % 10).toNat] := by
    have e30 : (10 : Nat) ^ 30 = 1000000000000000000000000000000 := by decide
    rw [decN_eq 30 _ (by omega) (by decide), decN_eq 30 _ (by omega) (by decide), Lib.decDigits, dif_neg (by omega), show (n / 10).toNat = n.toNat / 10 by omega, show (48 + n % 10).toNat = 48 + n.toNat % 10 by omega]
  unfold decI
  rw [e]
  apply ByteArray.ext
  simp
attribute [local irreducible] SC SL wpc wpl wpd wpf wpy wpn FnC FnW RdW SD
set_option maxRecDepth 100000
set_option maxHeartbeats 2000000
theorem digits_fn {G : Gl} (ho : ∀ a, G.orc 67 [a] = none) : ∀ (k : Nat) (n : Int), 0 ≤ n → n ≤ 10000 → n ≤ k → FnC Tryz.prog G 67 [.s (.int .u64 n)] [] (fun v Hn => v = .s (.string (decI n)) ∧ Hn = []) := by
  intro k
  induction k with
  | zero =>
    intro n h0 h1 h2
    refine Fn_body (N := 20) (ho _) Tryz.func67 rfl rfl fun B => ?_
    repeat' (first
      | refine SL_bytes (by decide) (by rfl) (by repeat (first | exact .head _ | refine .tail _ ?_)) Tryz.underlying84 Tryz.underlying9 Tryz.underlying5 (Nat.le_of_ble_eq_true (by rfl)) (by rfl) ?_
      | refine SL_conv (by decide) (by rfl) k124_5 (IntWalk.u8_in _ ⟨by omega, by omega⟩) ?_
      | refine SL_addU (by decide) (by rfl) (by rfl) (by omega) (by omega) ?_
      | refine SC_seq ?_
      | refine SC_region ?_
      | refine SL_seq ?_
      | refine SL_move (by decide) (by rfl) ?_
      | refine SL_assign (by decide) (by rfl) ?_
      | (refine SL_lss (by decide) (by rfl) (by rfl) (fun hT => ?_) (fun hT => ?_) <;> first | (exfalso; omega) | skip)
      | refine SL_build1 (by decide) (by rfl) (elF (by rfl)) (by rfl) (by rfl) (fun id hid => ?_)
      | refine SC_cond_t (by rfl) ?_
      | refine SC_ret (fun tm σ hE hH => Post.intro (Hn := []) (.inr rfl) hE hH (by rfl) trivial List.nodup_nil (fun p hp => (by cases hp)) ?_)
      | fail)
    exact ⟨by rw [decI_small h0 (by omega)]; rfl, rfl⟩
  | succ k ih =>
    intro n h0 h1 h2
    have hrec : ∀ i : Int, 0 ≤ i → i ≤ 10000 → i ≤ k → FnC Tryz.prog G 67 [.s (.int .u64 i)] [] (fun v Hn => v = .s (.string (decI i)) ∧ Hn = []) := ih
    refine Fn_body (N := 20) (ho _) Tryz.func67 rfl rfl fun B => ?_
    repeat' (first
      | (refine SD_nil (fun tm σ hE hH => ⟨_, _, _, _, _, rfl, hE, hH, fun q hq => .inl (by rw [List.mem_singleton] at hq; subst hq; omega), ?_⟩); clear hE hH; clear tm σ; intro tm σ hE hH; refine SC.app ?_ hE hH; clear hE hH; clear tm σ)
      | (refine SL_call (by decide) (by rfl) bd67 (by rfl) (by rfl) (hrec _ (by omega) (by omega) (by omega)) trivial List.nodup_nil ?_; rintro _ _ _ ⟨rfl, rfl⟩; rw [List.nil_append])
      | refine SL_cat (by decide) (by rfl) (by rfl) (catOk (by first | exact decI_le _ | exact Nat.le_of_ble_eq_true (by rfl)) (by first | exact decI_le _ | exact Nat.le_of_ble_eq_true (by rfl))) ?_
      | refine SL_bytes (by decide) (by rfl) (by repeat (first | exact .head _ | refine .tail _ ?_)) Tryz.underlying84 Tryz.underlying9 Tryz.underlying5 (Nat.le_of_ble_eq_true (by rfl)) (by rfl) ?_
      | refine SL_conv (by decide) (by rfl) k124_5 (IntWalk.u8_in _ ⟨by omega, by omega⟩) ?_
      | refine SL_rem (by decide) (by rfl) (by rfl) (by omega) (by decide) ?_
      | refine SL_quoU (by decide) (by rfl) (by rfl) (by omega) (by omega) (by decide) ?_
      | refine SL_addU (by decide) (by rfl) (by rfl) (by omega) (by omega) ?_
      | refine SD_op (i := 10) [base + 7] [(6, base)] (by rfl) (by rfl) (fun _ h => h) (fun p hp => by rw [List.mem_singleton] at hp; subst hp; simp) (fun k hk => by cases hk) (.inl rfl) ?_
      | refine SD_op (i := 9) [base + 7] [(6, base)] (by rfl) (by rfl) (fun _ h => h) (fun p hp => by rw [List.mem_singleton] at hp; subst hp; simp) (fun k hk => by cases hk) (.inl rfl) ?_
      | refine SD_mkstr (i := 7) (j := 8) (by rfl) (by rfl) (by rfl) (by decide) (by decide) (by decide) (by rfl) el84 Tryz.underlying5 Tryz.underlying9 (fun p hp => by rw [List.mem_singleton] at hp; subst hp; simp) (fun p hp => by rw [List.mem_singleton] at hp; subst hp; simp) List.not_mem_nil (fun hm => not_base hb4 hm) (by simp at hb2; omega) (hb3 _ (by omega)) ?_
      | refine SD_op (i := 2) [] [(6, base)] (by rfl) (by rfl) (fun _ h => h) (fun p hp => by rw [List.mem_singleton] at hp; subst hp; simp) (fun k hk => ⟨base, by rw [List.mem_singleton] at hk; subst hk; exact List.mem_singleton.2 rfl, List.not_mem_nil, by simp at hb2; omega⟩) (.inl rfl) ?_
      | refine SD_opN (i := 6) [] [(6, base)] (by rfl) (by rfl) (fun _ h => h) (fun p hp => by cases hp) (fun k hk => by cases hk) ⟨_, _, base, rfl, rfl, rfl, rfl⟩ ?_
      | (refine SC_drawn (id := 3) (pl := [(0, []), (1, []), (3, []), (4, []), (5, []), (6, []), (2, [6]), (7, []), (8, []), (9, []), (10, [])]) (by kernel_rfl) (by kernel_rfl) ?_; intro B' base hb1 hb2 hb3 hb4)
      | refine SC_seq ?_
      | refine SC_region ?_
      | refine SL_seq ?_
      | refine SL_move (by decide) (by rfl) ?_
      | refine SL_assign (by decide) (by rfl) ?_
      | (refine SL_lss (by decide) (by rfl) (by rfl) (fun hT => ?_) (fun hT => ?_) <;> first | (exfalso; omega) | skip)
      | refine SL_build1 (by decide) (by rfl) (elF (by rfl)) (by rfl) (by rfl) (fun id hid => ?_)
      | refine SC_cond_t (by rfl) ?_
      | refine SC_cond_f (by rfl) ?_
      | (refine SC_skip' (fun tm σ hE hH => ?_); refine SC.app ?_ hE hH; clear hE hH; clear tm σ)
      | refine SC_ret (fun tm σ hE hH => Post.intro (Hn := []) (.inr rfl) hE hH (by rfl) trivial List.nodup_nil (fun p hp => (by cases hp)) ?_)
      | (refine SL_nil (fun tm σ hE hH => ⟨_, _, _, _, rfl, hE, hH, ?_⟩); clear hE hH; clear tm σ)
      | refine SD_op _ [] (by rfl) (by rfl) (fun _ h => h) (fun p hp => by cases hp) (fun k hk => by cases hk) (.inl rfl) ?_
      | fail)
    · exact ⟨by rw [decI_small h0 (by omega)]; rfl, rfl⟩
    · exact ⟨by rw [decI_step (by omega) h1]; rfl, rfl⟩
theorem decimal_fn {G : Gl} (ho : ∀ f a, G.orc f [a] = none ∨ f ≠ 67 ∧ f ≠ 28) (n : Int) (h0 : 0 ≤ n) (h1 : n ≤ 10000) : FnC Tryz.prog G 28 [.s (.int .i64 n)] [] (fun v Hn => v = .s (.string (decI n)) ∧ Hn = []) := by
  have h67 : ∀ a, G.orc 67 [a] = none := fun a => (ho 67 a).resolve_right (fun h => h.1 rfl)
  have h28 : ∀ a, G.orc 28 [a] = none := fun a => (ho 28 a).resolve_right (fun h => h.2 rfl)
  have hrec : ∀ i : Int, 0 ≤ i → i ≤ 10000 → i ≤ 10000 → FnC Tryz.prog G 67 [.s (.int .u64 i)] [] (fun v Hn => v = .s (.string (decI i)) ∧ Hn = []) := fun i a b c => digits_fn h67 10000 i a b c
  refine Fn_body (N := 13) (h28 _) Tryz.func28 rfl rfl fun B => ?_
  repeat' (first
    | (refine SL_call (by decide) (by rfl) bd67 (by rfl) (by rfl) (hrec _ (by omega) (by omega) (by omega)) trivial List.nodup_nil ?_; rintro _ _ _ ⟨rfl, rfl⟩; rw [List.nil_append])
    | refine SL_conv (by decide) (by rfl) k3_124 (IntWalk.u64_in _ ⟨by omega, by omega⟩) ?_
    | refine SC_seq ?_
    | refine SC_region ?_
    | refine SL_seq ?_
    | refine SL_move (by decide) (by rfl) ?_
    | refine SL_assign (by decide) (by rfl) ?_
    | (refine SL_lss (by decide) (by rfl) (by rfl) (fun hT => ?_) (fun hT => ?_) <;> first | (exfalso; omega) | skip)
    | refine SC_cond_f (by rfl) ?_
    | (refine SC_skip' (fun tm σ hE hH => ?_); refine SC.app ?_ hE hH; clear hE hH; clear tm σ)
    | refine SC_ret (fun tm σ hE hH => Post.intro (Hn := []) (.inr rfl) hE hH (by rfl) trivial List.nodup_nil (fun p hp => (by cases hp)) ?_)
    | fail)
  exact ⟨rfl, rfl⟩
end Go.Proofs.YtnhnlkljcfbhfaaGreatDoor
/- Points and values as texts: the law's own, and the program's. -/
namespace Go.Ab
section rules
variable {P : Program} {G : Gl} {B : AS} {W : List Nat} {ops : Array Oper} {os : List Oper} {L : List (Nat × AV)} {N : Nat} {ds : List Nat} {H : List (Nat × AObj)} {Q : Cfg → Prop} {ty : TypeId} {pos : String} {af : Array Edge} {d : Nat}
theorem SL_remV {t yt : TypeId} {x y : Operand} {a b : Int} (r : Int) (hd : d < N) (hx : evL G L x = some (.s (.int .i64 a))) (hy : evL G L y = some (.s (.int .i64 b))) (h0 : 0 ≤ a) (hb : 1 ≤ b) (hr : a % b = r) (k : SL P G B W ops os ((d, .s (.int .i64 r)) :: L) N ds H Q) :
    SL P G B W ops (⟨some d, .binOp .rem t x y yt, ty, pos, af, none⟩ :: os) L N ds H Q := SL_rem hd hx hy h0 hb (hr ▸ k)
theorem SL_ceql {t yt : TypeId} {x y : Operand} {a b : Int} (hd : d < N) (hx : evL G L x = some (.s (.agg #[.int .i64 a, .int .i64 b]))) (hy : evL G L y = some (.s (.agg #[.int .i64 0, .int .i64 0])))
    (hc : ∀ (x y : Operand) (a b : Int), evalP P (do eqGuard .eql t x y (.agg #[.int .i64 a, .int .i64 b]) (.agg #[.int .i64 0, .int .i64 0]); binOp .eql t (.agg #[.int .i64 a, .int .i64 b]) (.agg #[.int .i64 0, .int .i64 0])) = some (.bool (decide (a = 0 ∧ b = 0))))
    (ht : a = 0 → b = 0 → SL P G B W ops os ((d, .s (.bool true)) :: L) N ds H Q) (hf : ¬ (a = 0 ∧ b = 0) → SL P G B W ops os ((d, .s (.bool false)) :: L) N ds H Q) : SL P G B W ops (⟨some d, .binOp .eql t x y yt, ty, pos, af, none⟩ :: os) L N ds H Q := by
  by_cases h : a = 0 ∧ b = 0
  · refine SL_bin hd hx hy rfl (hc x y a b) ?_
    rw [decide_eq_true h]; exact ht h.1 h.2
  · refine SL_bin hd hx hy rfl (hc x y a b) ?_
    rw [decide_eq_false h]; exact hf h
end rules
end Go.Ab
namespace Go.Proofs.YtnhnlkljcfbhfaaGreatDoor
open Go Go.Ab
theorem bd40 : (Tryz.prog.funcs[40]?).map (·.body.isNone) = some false := by rw [Tryz.func40]; rfl
theorem bd16 : (Tryz.prog.funcs[16]?).map (·.body.isNone) = some false := by rw [Tryz.func16]; rfl
theorem bd17 : (Tryz.prog.funcs[17]?).map (·.body.isNone) = some false := by rw [Tryz.func17]; rfl
theorem bd14 : (Tryz.prog.funcs[14]?).map (·.body.isNone) = some false := by rw [Tryz.func14]; rfl
theorem bd15 : (Tryz.prog.funcs[15]?).map (·.body.isNone) = some false := by rw [Tryz.func15]; rfl
set_option maxRecDepth 100000
theorem ceq40_1 (x y : Operand) (n : Nat) (b : Int) : evalP Tryz.prog (do eqGuard .eql 40 x y (.agg #[.int .i64 (.ofNat (n + 1)), .int .i64 b]) (.agg #[.int .i64 0, .int .i64 0]); binOp .eql 40 (.agg #[.int .i64 (.ofNat (n + 1)), .int .i64 b]) (.agg #[.int .i64 0, .int .i64 0])) = some (.bool false) := by kernel_rfl
theorem ceq40_2 (x y : Operand) (n : Nat) (b : Int) : evalP Tryz.prog (do eqGuard .eql 40 x y (.agg #[.int .i64 (.negSucc n), .int .i64 b]) (.agg #[.int .i64 0, .int .i64 0]); binOp .eql 40 (.agg #[.int .i64 (.negSucc n), .int .i64 b]) (.agg #[.int .i64 0, .int .i64 0])) = some (.bool false) := by kernel_rfl
theorem ceq40_3 (x y : Operand) (n : Nat) : evalP Tryz.prog (do eqGuard .eql 40 x y (.agg #[.int .i64 0, .int .i64 (.ofNat (n + 1))]) (.agg #[.int .i64 0, .int .i64 0]); binOp .eql 40 (.agg #[.int .i64 0, .int .i64 (.ofNat (n + 1))]) (.agg #[.int .i64 0, .int .i64 0])) = some (.bool false) := by kernel_rfl
theorem ceq40_4 (x y : Operand) (n : Nat) : evalP Tryz.prog (do eqGuard .eql 40 x y (.agg #[.int .i64 0, .int .i64 (.negSucc n)]) (.agg #[.int .i64 0, .int .i64 0]); binOp .eql 40 (.agg #[.int .i64 0, .int .i64 (.negSucc n)]) (.agg #[.int .i64 0, .int .i64 0])) = some (.bool false) := by kernel_rfl
theorem ceq40_f (x y : Operand) : ∀ (a b : Int), ¬ (a = 0 ∧ b = 0) → evalP Tryz.prog (do eqGuard .eql 40 x y (.agg #[.int .i64 a, .int .i64 b]) (.agg #[.int .i64 0, .int .i64 0]); binOp .eql 40 (.agg #[.int .i64 a, .int .i64 b]) (.agg #[.int .i64 0, .int .i64 0])) = some (.bool false)
  | .ofNat (n + 1), b, _ => ceq40_1 x y n b
  | .negSucc n, b, _ => ceq40_2 x y n b
  | .ofNat 0, .ofNat (n + 1), _ => ceq40_3 x y n
  | .ofNat 0, .negSucc n, _ => ceq40_4 x y n
  | .ofNat 0, .ofNat 0, h => absurd ⟨rfl, rfl⟩ h
theorem ceq40 (x y : Operand) (a b : Int) : evalP Tryz.prog (do eqGuard .eql 40 x y (.agg #[.int .i64 a, .int .i64 b]) (.agg #[.int .i64 0, .int .i64 0]); binOp .eql 40 (.agg #[.int .i64 a, .int .i64 b]) (.agg #[.int .i64 0, .int .i64 0])) = some (.bool (decide (a = 0 ∧ b = 0))) := by
  by_cases h : a = 0 ∧ b = 0
  · obtain ⟨rfl, rfl⟩ := h
    kernel_rfl
  · rw [decide_eq_false h]
    exact ceq40_f x y a b h
def dotS (k : Int) : ByteArray := if k = 0 then ⟨#[46, 48]⟩ else ⟨#[46, 53]⟩
def pts (n : Int) : Option ByteArray := if n < 0 ∨ 2000 < n then none else some (decI (n / 2) ++ dotS (n % 2))
def valS (r p : Int) : Option ByteArray :=
  if r = 0 ∧ p = 0 then some ⟨#[100, 114, 97, 119]⟩
  else if p < 0 ∨ 10000 < p then none
  else if r = 1 ∧ 1 ≤ p then some (⟨#[119, 105, 110, 32, 105, 110, 32]⟩ ++ decI p)
  else if r = -1 then some (⟨#[108, 111, 115, 115, 32, 105, 110, 32]⟩ ++ decI p)
  else none
attribute [local irreducible] SC SL wpc wpl wpd wpf wpy wpn FnC FnW RdW SD
set_option maxHeartbeats 2000000
theorem points_t {G : Gl} (ho : ∀ f a, G.orc f [a] = none ∨ f ≠ 67 ∧ f ≠ 28 ∧ f ≠ 16) (n : Int) (s : ByteArray) (h : pts n = some s) : FnC Tryz.prog G 16 [.s (.int .i64 n)] [] (fun v Hn => v = .s (.tuple #[.string s, .bool true]) ∧ Hn = []) := by
  have h16 : ∀ a, G.orc 16 [a] = none := fun a => (ho 16 a).resolve_right (fun h => h.2.2 rfl)
  replace ho : ∀ f a, G.orc f [a] = none ∨ f ≠ 67 ∧ f ≠ 28 := fun f a => (ho f a).imp_right fun h => ⟨h.1, h.2.1⟩
  unfold pts at h
  split at h
  · cases h
  · rename_i hr
    cases h
    rcases Int.emod_two_eq n with hm | hm
    · refine Fn_body (N := 21) (h16 _) Tryz.func16 rfl rfl fun B => ?_
      repeat' (first
        | (refine SL_call (by decide) (by rfl) bd28 (by rfl) (by rfl) (decimal_fn ho _ (by omega) (by omega)) trivial List.nodup_nil ?_; rintro _ _ _ ⟨rfl, rfl⟩; rw [List.nil_append])
        | refine SL_cat (by decide) (by rfl) (by rfl) (catOk (by first | exact decI_le _ | exact Nat.le_of_ble_eq_true (by rfl)) (by first | exact decI_le _ | exact Nat.le_of_ble_eq_true (by rfl))) ?_
        | refine SL_quo (by decide) (by rfl) (by rfl) (by omega) (by omega) (by decide) ?_
        | refine SL_remV (r := 0) (by decide) (by rfl) (by rfl) (by omega) (by decide) (by omega) ?_
        | refine SC_seq ?_
        | refine SC_region ?_
        | refine SL_seq ?_
        | refine SL_run (by rfl) (by rfl) ?_
        | refine SL_move (by decide) (by rfl) ?_
        | refine SL_assign (by decide) (by rfl) ?_
        | refine SL_pick_f (by decide) (by rfl) (by rfl) ?_
        | (refine SL_lss (by decide) (by rfl) (by rfl) (fun hT => ?_) (fun hT => ?_) <;> first | (exfalso; omega) | skip)
        | (refine SL_gtr (by decide) (by rfl) (by rfl) (fun hT => ?_) (fun hT => ?_) <;> first | (exfalso; omega) | skip)
        | (refine SL_eql (by decide) (by rfl) (by rfl) (fun hT => ?_) (fun hT => ?_) <;> first | (exfalso; omega) | skip)
        | refine SC_cond_t (by rfl) ?_
        | refine SC_cond_f (by rfl) ?_
        | (refine SC_skip' (fun tm σ hE hH => ?_); refine SC.app ?_ hE hH; clear hE hH; clear tm σ)
        | refine SC_ret (fun tm σ hE hH => Post.intro (Hn := []) (.inr rfl) hE hH (by rfl) trivial List.nodup_nil (fun p hp => (by cases hp)) ?_)
        | fail)
      exact ⟨by rw [hm]; rfl, rfl⟩
    · refine Fn_body (N := 21) (h16 _) Tryz.func16 rfl rfl fun B => ?_
      repeat' (first
        | (refine SL_call (by decide) (by rfl) bd28 (by rfl) (by rfl) (decimal_fn ho _ (by omega) (by omega)) trivial List.nodup_nil ?_; rintro _ _ _ ⟨rfl, rfl⟩; rw [List.nil_append])
        | refine SL_cat (by decide) (by rfl) (by rfl) (catOk (by first | exact decI_le _ | exact Nat.le_of_ble_eq_true (by rfl)) (by first | exact decI_le _ | exact Nat.le_of_ble_eq_true (by rfl))) ?_
        | refine SL_quo (by decide) (by rfl) (by rfl) (by omega) (by omega) (by decide) ?_
        | refine SL_remV (r := 1) (by decide) (by rfl) (by rfl) (by omega) (by decide) (by omega) ?_
        | refine SC_seq ?_
        | refine SC_region ?_
        | refine SL_seq ?_
        | refine SL_run (by rfl) (by rfl) ?_
        | refine SL_move (by decide) (by rfl) ?_
        | refine SL_assign (by decide) (by rfl) ?_
        | refine SL_pick_f (by decide) (by rfl) (by rfl) ?_
        | (refine SL_lss (by decide) (by rfl) (by rfl) (fun hT => ?_) (fun hT => ?_) <;> first | (exfalso; omega) | skip)
        | (refine SL_gtr (by decide) (by rfl) (by rfl) (fun hT => ?_) (fun hT => ?_) <;> first | (exfalso; omega) | skip)
        | (refine SL_eql (by decide) (by rfl) (by rfl) (fun hT => ?_) (fun hT => ?_) <;> first | (exfalso; omega) | skip)
        | refine SC_cond_f (by rfl) ?_
        | (refine SC_skip' (fun tm σ hE hH => ?_); refine SC.app ?_ hE hH; clear hE hH; clear tm σ)
        | refine SC_ret (fun tm σ hE hH => Post.intro (Hn := []) (.inr rfl) hE hH (by rfl) trivial List.nodup_nil (fun p hp => (by cases hp)) ?_)
        | fail)
      exact ⟨by rw [hm]; rfl, rfl⟩
theorem points_f {G : Gl} (ho : ∀ f a, G.orc f [a] = none ∨ f ≠ 67 ∧ f ≠ 28 ∧ f ≠ 16) (n : Int) (h : pts n = none) : FnC Tryz.prog G 16 [.s (.int .i64 n)] [] (fun v Hn => v = .s (.tuple #[.string ⟨#[]⟩, .bool false]) ∧ Hn = []) := by
  have h16 : ∀ a, G.orc 16 [a] = none := fun a => (ho 16 a).resolve_right (fun h => h.2.2 rfl)
  replace ho : ∀ f a, G.orc f [a] = none ∨ f ≠ 67 ∧ f ≠ 28 := fun f a => (ho f a).imp_right fun h => ⟨h.1, h.2.1⟩
  unfold pts at h
  split at h
  · rename_i hr
    rcases hr with hr | hr
    · refine Fn_body (N := 21) (h16 _) Tryz.func16 rfl rfl fun B => ?_
      repeat' (first
        | refine SC_seq ?_
        | refine SC_region ?_
        | refine SL_seq ?_
        | refine SL_not (by rfl) (by rfl) (by rfl) (by decide) ?_
        | refine SL_move (by decide) (by rfl) ?_
        | refine SL_assign (by decide) (by rfl) ?_
        | refine SL_pick_t (by decide) (by rfl) (by rfl) ?_
        | (refine SL_lss (by decide) (by rfl) (by rfl) (fun hT => ?_) (fun hT => ?_) <;> first | (exfalso; omega) | skip)
        | refine SC_cond_t (by rfl) ?_
        | refine SC_ret (fun tm σ hE hH => Post.intro (Hn := []) (.inr rfl) hE hH (by rfl) trivial List.nodup_nil (fun p hp => (by cases hp)) ?_)
        | fail)
      exact ⟨rfl, rfl⟩
    · refine Fn_body (N := 21) (h16 _) Tryz.func16 rfl rfl fun B => ?_
      repeat' (first
        | refine SC_seq ?_
        | refine SC_region ?_
        | refine SL_seq ?_
        | refine SL_run (by rfl) (by rfl) ?_
        | refine SL_move (by decide) (by rfl) ?_
        | refine SL_assign (by decide) (by rfl) ?_
        | refine SL_pick_f (by decide) (by rfl) (by rfl) ?_
        | (refine SL_lss (by decide) (by rfl) (by rfl) (fun hT => ?_) (fun hT => ?_) <;> first | (exfalso; omega) | skip)
        | (refine SL_gtr (by decide) (by rfl) (by rfl) (fun hT => ?_) (fun hT => ?_) <;> first | (exfalso; omega) | skip)
        | refine SC_cond_t (by rfl) ?_
        | refine SC_ret (fun tm σ hE hH => Post.intro (Hn := []) (.inr rfl) hE hH (by rfl) trivial List.nodup_nil (fun p hp => (by cases hp)) ?_)
        | fail)
      exact ⟨rfl, rfl⟩
  · cases h
end Go.Proofs.YtnhnlkljcfbhfaaGreatDoor
/- Points of the program, alone. -/
namespace Go.Proofs.YtnhnlkljcfbhfaaGreatDoor
open Go Go.Ab
set_option maxRecDepth 100000
attribute [local irreducible] SC SL wpc wpl wpd wpf wpy wpn FnC FnW RdW SD
set_option maxHeartbeats 2000000
theorem b92 : effBuild Tryz.prog 92 [(0, .s (.string ⟨#[46, 48]⟩)), (1, .s (.string ⟨#[46, 53]⟩))] = some (.s (.agg #[.string ⟨#[46, 48]⟩, .string ⟨#[46, 53]⟩])) := by kernel_rfl
theorem b40 : effBuild Tryz.prog 40 [] = some (.s (.agg #[.int .i64 0, .int .i64 0])) := by kernel_rfl
theorem ix92_0 (ty : TypeId) (pos : String) (af : Array Edge) : effPure Tryz.prog ⟨some 16, .index 92 (.tmp 13) (.tmp 15), ty, pos, af, none⟩ (evC [(13, .s (.agg #[.string ⟨#[46, 48]⟩, .string ⟨#[46, 53]⟩])), (15, .s (.int .i64 0))]) = some (.s (.string ⟨#[46, 48]⟩)) := by kernel_rfl
theorem ix92_1 (ty : TypeId) (pos : String) (af : Array Edge) : effPure Tryz.prog ⟨some 16, .index 92 (.tmp 13) (.tmp 15), ty, pos, af, none⟩ (evC [(13, .s (.agg #[.string ⟨#[46, 48]⟩, .string ⟨#[46, 53]⟩])), (15, .s (.int .i64 1))]) = some (.s (.string ⟨#[46, 53]⟩)) := by kernel_rfl
theorem cells_2 (a b : Value) : cellsOf (.s (.agg #[a, b])) = [.s a, .s b] := rfl
theorem mk2 (a b : Value) : mkAgg ((List.drop 0 [AV.s a, AV.s b]).take 2) = .s (.agg #[a, b]) := rfl
def Dec (G : Gl) (f : FuncId) : Prop := ∀ n : Int, 0 ≤ n → n ≤ 10000 → FnC Tryz.prog G f [.s (.int .i64 n)] [] (fun v Hn => v = .s (.string (decI n)) ∧ Hn = [])
theorem Points_t {G : Gl} (ho : ∀ a, G.orc 14 [a] = none) (h40 : Dec G 40) (n : Int) (s : ByteArray) (h : pts n = some s) : FnC Tryz.prog G 14 [.s (.int .i64 n)] [] (fun v Hn => v = .s (.tuple #[.string s, .int .i64 0]) ∧ Hn = []) := by
  unfold Dec at h40
  unfold pts at h
  split at h
  · cases h
  · rename_i hr
    cases h
    rcases Int.emod_two_eq n with hm | hm
    · refine Fn_body (N := 18) (ho _) Tryz.func14 rfl rfl fun B => ?_
      repeat' (first
        | (refine SD_nil (fun tm σ hE hH => ⟨_, _, _, _, _, rfl, hE, hH, fun q hq => (by cases hq), ?_⟩); clear hE hH; clear tm σ; intro tm σ hE hH; refine SC.app ?_ hE hH; clear hE hH; clear tm σ)
        | (refine SL_call (by decide) (by rfl) bd40 (by rfl) (by rfl) (h40 _ (by omega) (by omega)) trivial List.nodup_nil ?_; rintro _ _ _ ⟨rfl, rfl⟩; rw [List.nil_append])
        | refine SL_pure (v := .s (.string ⟨#[46, 48]⟩)) [(13, .s (.agg #[.string ⟨#[46, 48]⟩, .string ⟨#[46, 53]⟩])), (15, .s (.int .i64 0))] (by decide) ⟨rfl, rfl, trivial⟩ (by rfl) (fun tm σ h1 => by unfold eff; simp only [effIndexOp, h1.ev (x := .tmp 13) rfl]) (fun _ _ h => by cases h) (ix92_0 _ _ _) ?_
        | refine SL_build (by decide) (by rfl) b92 ?_
        | refine SL_cat (by decide) (by rfl) (by rfl) (catOk (by first | exact decI_le _ | exact Nat.le_of_ble_eq_true (by rfl)) (by first | exact decI_le _ | exact Nat.le_of_ble_eq_true (by rfl))) ?_
        | refine SL_quo (by decide) (by rfl) (by rfl) (by omega) (by omega) (by decide) ?_
        | refine SL_remV (r := 0) (by decide) (by rfl) (by rfl) (by omega) (by decide) (by omega) ?_
        | (refine SC_drawn (id := 3) (pl := [(0, []), (1, []), (3, []), (4, []), (5, []), (6, []), (2, []), (7, []), (8, []), (9, [])]) (by kernel_rfl) (by kernel_rfl) ?_; intro B' base hb1 hb2 hb3 hb4)
        | refine SC_seq ?_
        | refine SC_region ?_
        | refine SL_seq ?_
        | refine SL_run (by rfl) (by rfl) ?_
        | refine SL_move (by decide) (by rfl) ?_
        | refine SL_assign (by decide) (by rfl) ?_
        | refine SL_pick_f (by decide) (by rfl) (by rfl) ?_
        | (refine SL_lss (by decide) (by rfl) (by rfl) (fun hT => ?_) (fun hT => ?_) <;> first | (exfalso; omega) | skip)
        | (refine SL_gtr (by decide) (by rfl) (by rfl) (fun hT => ?_) (fun hT => ?_) <;> first | (exfalso; omega) | skip)
        | refine SC_cond_f (by rfl) ?_
        | (refine SC_skip' (fun tm σ hE hH => ?_); refine SC.app ?_ hE hH; clear hE hH; clear tm σ)
        | refine SC_ret (fun tm σ hE hH => Post.intro (Hn := []) (.inr rfl) hE hH (by rfl) trivial List.nodup_nil (fun p hp => (by cases hp)) ?_)
        | (refine SL_nil (fun tm σ hE hH => ⟨_, _, _, _, rfl, hE, hH, ?_⟩); clear hE hH; clear tm σ)
        | refine SD_op _ [] (by rfl) (by rfl) (fun _ h => h) (fun p hp => by cases hp) (fun k hk => by cases hk) (.inl rfl) ?_
        | fail)
      exact ⟨by rw [hm]; rfl, rfl⟩
    · refine Fn_body (N := 18) (ho _) Tryz.func14 rfl rfl fun B => ?_
      repeat' (first
        | (refine SD_nil (fun tm σ hE hH => ⟨_, _, _, _, _, rfl, hE, hH, fun q hq => (by cases hq), ?_⟩); clear hE hH; clear tm σ; intro tm σ hE hH; refine SC.app ?_ hE hH; clear hE hH; clear tm σ)
        | (refine SL_call (by decide) (by rfl) bd40 (by rfl) (by rfl) (h40 _ (by omega) (by omega)) trivial List.nodup_nil ?_; rintro _ _ _ ⟨rfl, rfl⟩; rw [List.nil_append])
        | refine SL_pure (v := .s (.string ⟨#[46, 53]⟩)) [(13, .s (.agg #[.string ⟨#[46, 48]⟩, .string ⟨#[46, 53]⟩])), (15, .s (.int .i64 1))] (by decide) ⟨rfl, rfl, trivial⟩ (by rfl) (fun tm σ h1 => by unfold eff; simp only [effIndexOp, h1.ev (x := .tmp 13) rfl]) (fun _ _ h => by cases h) (ix92_1 _ _ _) ?_
        | refine SL_build (by decide) (by rfl) b92 ?_
        | refine SL_cat (by decide) (by rfl) (by rfl) (catOk (by first | exact decI_le _ | exact Nat.le_of_ble_eq_true (by rfl)) (by first | exact decI_le _ | exact Nat.le_of_ble_eq_true (by rfl))) ?_
        | refine SL_quo (by decide) (by rfl) (by rfl) (by omega) (by omega) (by decide) ?_
        | refine SL_remV (r := 1) (by decide) (by rfl) (by rfl) (by omega) (by decide) (by omega) ?_
        | (refine SC_drawn (id := 3) (pl := [(0, []), (1, []), (3, []), (4, []), (5, []), (6, []), (2, []), (7, []), (8, []), (9, [])]) (by kernel_rfl) (by kernel_rfl) ?_; intro B' base hb1 hb2 hb3 hb4)
        | refine SC_seq ?_
        | refine SC_region ?_
        | refine SL_seq ?_
        | refine SL_run (by rfl) (by rfl) ?_
        | refine SL_move (by decide) (by rfl) ?_
        | refine SL_assign (by decide) (by rfl) ?_
        | refine SL_pick_f (by decide) (by rfl) (by rfl) ?_
        | (refine SL_lss (by decide) (by rfl) (by rfl) (fun hT => ?_) (fun hT => ?_) <;> first | (exfalso; omega) | skip)
        | (refine SL_gtr (by decide) (by rfl) (by rfl) (fun hT => ?_) (fun hT => ?_) <;> first | (exfalso; omega) | skip)
        | refine SC_cond_f (by rfl) ?_
        | (refine SC_skip' (fun tm σ hE hH => ?_); refine SC.app ?_ hE hH; clear hE hH; clear tm σ)
        | refine SC_ret (fun tm σ hE hH => Post.intro (Hn := []) (.inr rfl) hE hH (by rfl) trivial List.nodup_nil (fun p hp => (by cases hp)) ?_)
        | (refine SL_nil (fun tm σ hE hH => ⟨_, _, _, _, rfl, hE, hH, ?_⟩); clear hE hH; clear tm σ)
        | refine SD_op _ [] (by rfl) (by rfl) (fun _ h => h) (fun p hp => by cases hp) (fun k hk => by cases hk) (.inl rfl) ?_
        | fail)
      exact ⟨by rw [hm]; rfl, rfl⟩
end Go.Proofs.YtnhnlkljcfbhfaaGreatDoor
/- The plain law of standings: the words of a line, joined; the values are small; one order alone is sorted. -/
namespace Go.Proofs.YtnhnlkljcfbhfaaGreatDoor.Tb
open Go Go.Ab
def spS : ByteArray := ⟨#[32]⟩
def joinW (ws : List ByteArray) : ByteArray := ⟨(Lib.join (ws.map (·.data.toList)) [32]).toArray⟩
theorem joinW_snoc {x : ByteArray} {ws : List ByteArray} (y : ByteArray) : joinW (x :: ws ++ [y]) = joinW (x :: ws) ++ spS ++ y := by
  unfold joinW
  apply ByteArray.ext
  apply Array.ext'
  simp [Lib.join_cons, Lib.joinTail, spS]
theorem joinW_one (x : ByteArray) : joinW [x] = x := by
  unfold joinW
  apply ByteArray.ext
  apply Array.ext'
  simp [Lib.join_one]
def ptS (n : Int) : ByteArray := (YtnhnlkljcfbhfaaGreatDoor.pts n).getD ⟨#[]⟩
theorem ptS_eq {n : Int} (h0 : 0 ≤ n) (h1 : n ≤ 2000) : YtnhnlkljcfbhfaaGreatDoor.pts n = some (ptS n) := by
  unfold ptS YtnhnlkljcfbhfaaGreatDoor.pts
  rw [if_neg (by omega)]
  rfl
theorem decI_30 (n : Int) : (decI n).size ≤ 30 := by
  have := decN_len 30 n.toNat
  unfold decI
  rw [show (⟨(decN 30 n.toNat).toArray⟩ : ByteArray).size = (decN 30 n.toNat).toArray.size from rfl, List.size_toArray]
  exact this
theorem ptS_32 {n : Int} (h0 : 0 ≤ n) (h1 : n ≤ 2000) : (ptS n).size ≤ 32 := by
  unfold ptS YtnhnlkljcfbhfaaGreatDoor.pts
  rw [if_neg (by omega)]
  simp only [Option.getD_some]
  rw [ByteArray.size_append]
  have := decI_30 (n / 2)
  have h2 : (YtnhnlkljcfbhfaaGreatDoor.dotS (n % 2)).size = 2 := by unfold YtnhnlkljcfbhfaaGreatDoor.dotS; split <;> rfl
  omega
def wordsL (rs : List (List Sc)) (ks : List Int) (xs : List ByteArray) (i : Nat) (pl : Int) (j : Nat) : List ByteArray :=
  decI pl :: xs.getD i ⟨#[]⟩ :: ptS (sumT rs i) :: (ks.take j).map fun k => decI (kval rs i k)
theorem wordsL_len (rs : List (List Sc)) (ks : List Int) (xs : List ByteArray) (i : Nat) (pl : Int) {j : Nat} (h : j ≤ ks.length) : (wordsL rs ks xs i pl j).length = 3 + j := by
  unfold wordsL
  simp [Nat.min_eq_left h]
  omega
theorem wordsL_next {rs : List (List Sc)} {ks : List Int} (xs : List ByteArray) (i : Nat) (pl : Int) {j : Nat} (h : j < ks.length) : wordsL rs ks xs i pl (j + 1) = wordsL rs ks xs i pl j ++ [decI (kval rs i (ks.getD j 0))] := by
  unfold wordsL
  rw [List.take_succ_eq_append_getElem h, List.map_append, getD_at _ h]
  rfl
def lineW (rs : List (List Sc)) (ks : List Int) (xs : List ByteArray) (i : Nat) (pl : Int) (j : Nat) : ByteArray := joinW (wordsL rs ks xs i pl j)
theorem lineW_next {rs : List (List Sc)} {ks : List Int} (xs : List ByteArray) (i : Nat) (pl : Int) {j : Nat} (h : j < ks.length) : lineW rs ks xs i pl (j + 1) = lineW rs ks xs i pl j ++ spS ++ decI (kval rs i (ks.getD j 0)) := by
  unfold lineW
  rw [wordsL_next xs i pl h]
  exact joinW_snoc _
theorem lineW_0 (rs : List (List Sc)) (ks : List Int) (xs : List ByteArray) (i : Nat) (pl : Int) : lineW rs ks xs i pl 0 = decI pl ++ spS ++ xs.getD i ⟨#[]⟩ ++ spS ++ ptS (sumT rs i) := by
  unfold lineW wordsL
  rw [List.take_zero, List.map_nil]
  rw [show [decI pl, xs.getD i ⟨#[]⟩, ptS (sumT rs i)] = decI pl :: [xs.getD i ⟨#[]⟩] ++ [ptS (sumT rs i)] from rfl, joinW_snoc, show [decI pl, xs.getD i ⟨#[]⟩] = decI pl :: [] ++ [xs.getD i ⟨#[]⟩] from rfl, joinW_snoc, joinW_one]
theorem lineW_size {rs : List (List Sc)} {ks : List Int} {xs : List ByteArray} {i : Nat} {pl : Int} (hx : (xs.getD i ⟨#[]⟩).size ≤ 100) (hs : 0 ≤ sumT rs i ∧ sumT rs i ≤ 1000) : ∀ {j : Nat}, j ≤ ks.length → (lineW rs ks xs i pl j).size ≤ 164 + 31 * j
  | 0, _ => by
    rw [lineW_0]
    simp only [ByteArray.size_append]
    have h1 := decI_30 pl
    have h2 := ptS_32 hs.1 (by omega)
    have h3 : spS.size = 1 := rfl
    omega
  | j + 1, h => by
    rw [lineW_next xs i pl (by omega)]
    simp only [ByteArray.size_append]
    have h1 := lineW_size (ks := ks) hx hs (pl := pl) (j := j) (by omega)
    have h2 := decI_30 (kval rs i (ks.getD j 0))
    have h3 : spS.size = 1 := rfl
    omega
def linesS (rs : List (List Sc)) (ks : List Int) (xs : List ByteArray) (ord pls : List Int) (a : Nat) : List ByteArray :=
  (ord.take a).map fun x => lineW rs ks xs x.toNat (pls.getD x.toNat 0) ks.length
theorem linesS_len (rs : List (List Sc)) (ks : List Int) (xs : List ByteArray) (ord pls : List Int) {a : Nat} (h : a ≤ ord.length) : (linesS rs ks xs ord pls a).length = a := by
  unfold linesS
  rw [List.length_map, List.length_take]; omega
theorem linesS_next {rs : List (List Sc)} {ks : List Int} {xs : List ByteArray} {ord pls : List Int} {a : Nat} (h : a < ord.length) : linesS rs ks xs ord pls (a + 1) = linesS rs ks xs ord pls a ++ [lineW rs ks xs (ord.getD a 0).toNat (pls.getD (ord.getD a 0).toNat 0) ks.length] := by
  unfold linesS
  rw [List.take_succ_eq_append_getElem h, List.map_append, getD_at _ h]
  rfl
theorem sum_mem : ∀ {l : List Int}, (∀ x ∈ l, 0 ≤ x) → ∀ {y}, y ∈ l → y ≤ l.sum
  | [], _, y, h => by cases h
  | x :: l, hn, y, h => by
    have h1 : 0 ≤ l.sum := sum_nn fun z hz => hn z (List.mem_cons_of_mem _ hz)
    have h2 := hn x List.mem_cons_self
    rw [List.sum_cons]
    rcases List.mem_cons.1 h with rfl | h
    · omega
    · have := sum_mem (fun z hz => hn z (List.mem_cons_of_mem _ hz)) h
      omega
where sum_nn : ∀ {l : List Int}, (∀ x ∈ l, 0 ≤ x) → 0 ≤ l.sum
  | [], _ => by simp
  | x :: l, hn => by
    have h1 := sum_nn (l := l) fun z hz => hn z (List.mem_cons_of_mem _ hz)
    have h2 := hn x List.mem_cons_self
    rw [List.sum_cons]; omega
theorem sum_two : ∀ {l : List Int}, (∀ x ∈ l, 0 ≤ x) → ∀ {y z : Int}, y ∈ l → (∀ x ∈ l, z ≤ x) → 2 ≤ l.length → z + y ≤ l.sum
  | [], _, y, z, h, _, _ => by cases h
  | x :: l, hn, y, z, h, hz, h2 => by
    have hl : ∀ x ∈ l, 0 ≤ x := fun u hu => hn u (List.mem_cons_of_mem _ hu)
    rw [List.sum_cons]
    rcases List.mem_cons.1 h with rfl | h
    · cases l with
      | nil => simp at h2
      | cons u l =>
        have h3 := hz u (.tail _ (.head _))
        have h4 := sum_mem hl (y := u) (.head _)
        omega
    · have h3 := hz x (.head _)
      have h4 := sum_mem hl h
      omega
theorem lawV_bd {F : Nat → Int} {i m R : Nat} {es : List Ev} (hF : ∀ x, x < m → 0 ≤ F x ∧ F x ≤ 1000) (hi : i < m) (hp : ∀ e ∈ es, (0 ≤ e.p ∧ e.p ≤ 2)) (hev : ∀ e ∈ es, e.o < m) (hel : es.length ≤ 10) (hpr : 0 ≤ progE R es ∧ progE R es ≤ 20000) (k : Nat) :
    0 ≤ lawV (LS.of F i es) (progE R es) k ∧ lawV (LS.of F i es) (progE R es) k ≤ 20000 := by
  have hok := LS.ok hF i es (fun e he => ⟨hp e he, hev e he⟩)
  obtain ⟨h1, h2, h3, h4, h5, h6, h7, h8⟩ := hok
  have ht := of_total F i es
  have hm := of_many F i es
  have hl := of_low F i es
  have hg := of_high F i es
  have hn := foes_bd hF hev
  have hnn : ∀ x ∈ foesL F es, 0 ≤ x := fun x hx => (hn x hx).1
  unfold lawV
  split
  · omega
  · refine ⟨?_, by omega⟩
    by_cases h0 : foesL F es = []
    · rw [hl.1 h0]; omega
    · have := sum_mem hnn (hl.2 h0).1
      omega
  · split
    · omega
    · rename_i h2m
      refine ⟨?_, by omega⟩
      have h0 : foesL F es ≠ [] := fun e => by rw [hm, e] at h2m; simp at h2m
      have := sum_two hnn (hg.2 h0).1 (hl.2 h0).2 (by omega)
      omega
  · omega
  · exact hpr
  · omega
  · omega
theorem ltK_asym {key : Nat → List Int} {x y : Int} (h : ltK key x y) (h2 : ltK key y x) : False := by
  unfold ltK at h h2
  have := lexC_neg (key y.toNat) (key x.toNat)
  omega
theorem sort_head {lt : Int → Int → Prop} {x : Int} {c : List Int} {n : Nat} (h : SortIn lt (x :: c) 0 n) (hn : n = (x :: c).length) : (∀ y ∈ c, lt x y) ∧ SortIn lt c 0 c.length := by
  subst hn
  refine ⟨fun y hy => ?_, fun p q h1 h2 h3 => ?_⟩
  · obtain ⟨i, hi, rfl⟩ := List.mem_iff_getElem.1 hy
    have := h 0 (i + 1) (Nat.le_refl _) (by omega) (by simp; omega)
    rwa [show (x :: c).getD 0 0 = x from rfl, show (x :: c).getD (i + 1) 0 = c.getD i 0 from rfl, getD_at _ hi] at this
  · exact h (p + 1) (q + 1) (by omega) (by omega) (by simp; omega)
theorem sort_one {lt : Int → Int → Prop} (ha : ∀ x y, lt x y → lt y x → False) : ∀ {c d : List Int}, c.Perm d → SortIn lt c 0 c.length → SortIn lt d 0 d.length → c = d
  | [], d, hp, _, _ => (List.nil_perm.1 hp).symm
  | x :: c, [], hp, _, _ => by have := hp.length_eq; simp at this
  | x :: c, y :: d, hp, hc, hd => by
    obtain ⟨h1, h2⟩ := sort_head hc rfl
    obtain ⟨h3, h4⟩ := sort_head hd rfl
    have e : x = y := by
      apply Classical.byContradiction
      intro hne
      have hx : x ∈ d := (List.mem_cons.1 (hp.mem_iff.1 List.mem_cons_self)).resolve_left hne
      have hy : y ∈ c := (List.mem_cons.1 (hp.mem_iff.2 List.mem_cons_self)).resolve_left fun e => hne e.symm
      exact ha x y (h1 y hy) (h3 x hx)
    subst e
    rw [sort_one ha (List.Perm.cons_inv hp) h2 h4]
structure Stood (rs : List (List Sc)) (ks : List Int) (n : Nat) (ord pls : List Int) : Prop where
  perm : ord.Perm (iota n)
  sort : SortIn (ltK (keyOf rs ks)) ord 0 n
  plen : pls.length = n
  at_ : ∀ a, a < n → pls.getD (ord.getD a 0).toNat 0 = plOf (keyOf rs ks) ord a
theorem Stood.len {rs : List (List Sc)} {ks : List Int} {n : Nat} {ord pls : List Int} (h : Stood rs ks n ord pls) : ord.length = n := by rw [h.perm.length_eq, iota_len]
theorem Stood.mem {rs : List (List Sc)} {ks : List Int} {n : Nat} {ord pls : List Int} (h : Stood rs ks n ord pls) {a : Nat} (ha : a < n) : ∃ i : Nat, i < n ∧ ord.getD a 0 = i := by
  have hl := h.len
  have := iota_mem (h.perm.mem_iff.1 (getD_mem (l := ord) (i := a) (by omega)))
  exact ⟨(ord.getD a 0).toNat, by omega, by omega⟩
theorem Stood.one {rs : List (List Sc)} {ks : List Int} {n : Nat} {o1 p1 o2 p2 : List Int} (h1 : Stood rs ks n o1 p1) (h2 : Stood rs ks n o2 p2) : o1 = o2 ∧ p1 = p2 := by
  have e : o1 = o2 := sort_one (fun x y => ltK_asym) (h1.perm.trans h2.perm.symm) (by rw [h1.len]; exact h1.sort) (by rw [h2.len]; exact h2.sort)
  subst e
  refine ⟨rfl, ?_⟩
  apply List.ext_getElem?
  intro j
  by_cases hj : j < n
  · have hm : (j : Int) ∈ o1 := h1.perm.mem_iff.2 (by unfold iota; exact List.mem_map.2 ⟨j, List.mem_range.2 hj, rfl⟩)
    obtain ⟨a, ha, hea⟩ := List.mem_iff_getElem.1 hm
    have hl := h1.len
    have hga : o1.getD a 0 = (j : Int) := by rw [getD_at _ ha, hea]
    have e1 := h1.at_ a (by omega)
    have e2 := h2.at_ a (by omega)
    rw [hga, Int.toNat_natCast] at e1 e2
    have l1 := h1.plen
    have l2 := h2.plen
    rw [getD_at _ (by omega)] at e1 e2
    rw [List.getElem?_eq_getElem (by omega), List.getElem?_eq_getElem (by omega), e1, e2]
  · have l1 := h1.plen
    have l2 := h2.plen
    rw [List.getElem?_eq_none (by omega), List.getElem?_eq_none (by omega)]
theorem plOf_bd (key : Nat → List Int) (ord : List Int) : ∀ a, 1 ≤ plOf key ord a ∧ plOf key ord a ≤ a + 1
  | 0 => by unfold plOf; omega
  | a + 1 => by
    unfold plOf
    have := plOf_bd key ord a
    split <;> omega
end Go.Proofs.YtnhnlkljcfbhfaaGreatDoor.Tb
/- Lists of strings: few and same of the law. -/
namespace Go.Proofs.YtnhnlkljcfbhfaaGreatDoor
open Go Go.Ab
set_option maxRecDepth 100000
theorem len21 (s : ByteArray) (ty : TypeId) (pos : String) (af : Array Edge) : effPure Tryz.prog ⟨some 21, .call ⟨.builtin .len, #[.tmp 20], #[9]⟩, ty, pos, af, none⟩ (evC [(20, .s (.string s))]) = some (.s (.int .i64 s.size)) := by kernel_rfl
def StV (xs : List ByteArray) (a : AV) : Prop := SlV 1 a (xs.map fun x => [.s (.string x)])
theorem strs_get (xs : List ByteArray) {k : Nat} (h : k < xs.length) : (xs.map fun x => [AV.s (.string x)])[k]? = some [.s (.string xs[k])] := by
  rw [List.getElem?_map, List.getElem?_eq_getElem h]; rfl
def fewS (xs : List ByteArray) (g : Nat) : Bool := decide (∀ x ∈ xs.take g, x.size ≤ 100) && decide (xs.length ≤ g)
attribute [local irreducible] SC SL wpc wpl wpd wpf wpy wpn FnC FnW RdW SD
set_option maxHeartbeats 2000000
theorem few_fn {G : Gl} {xs : List ByteArray} {a : AV} (hsl : StV xs a) (hbig : xs.length ≤ 9223372036854775807) (g : Nat) (hg : g ≤ 100) (ho : G.orc 7 [a, .s (.int .i64 g)] = none) :
    FnC Tryz.prog G 7 [a, .s (.int .i64 g)] [] (fun v Hn => v = .s (.bool (fewS xs g)) ∧ Hn = []) := by
  unfold StV at hsl
  refine Fn_body (N := 27) ho Tryz.func7 rfl rfl fun B => ?_
  repeat' (first
    | refine SC_seq ?_
    | refine SC_block ?_
    | refine SC_region ?_
    | refine SL_seq ?_
    | refine SL_assign (by decide) (by rfl) ?_
    | fail)
  refine SC_loop (fun k : Nat => [(0, a), (1, .s (.int .i64 g)), (4, .s (.bool false)), (5, .s (.int .i64 k))]) (fun _ => []) (fun _ => []) (fun k => k ≤ xs.length ∧ k ≤ g ∧ ∀ x ∈ xs.take k, x.size ≤ 100) (fun k => xs.length - k) 0 ⟨by omega, by omega, by simp⟩ ⟨rfl, rfl, rfl, rfl, trivial⟩ trivial List.nodup_nil rfl ?_
  rintro k ⟨hk1, hk2, hk3⟩
  by_cases hlt : k < xs.length
  ·
    repeat' (first
      | refine SL_pure [(20, _)] (by decide) ⟨rfl, trivial⟩ (by rfl) (fun tm σ h1 => by unfold eff; simp only [effCall, effBuiltin, List.map_cons, List.map_nil, h1.ev (x := .tmp 20) rfl, effLenOp, isRef]; rfl) (fun _ _ h => by cases h) (len21 _ _ _ _) ?_
      | refine SC_seq ?_
      | refine SC_block ?_
      | refine SC_region ?_
      | refine SL_seq ?_
      | refine SL_run (by rfl) (by rfl) ?_
      | refine SL_move (by decide) (by rfl) ?_
      | refine SL_assign (by decide) (by rfl) ?_
      | refine SL_pick_t (by decide) (by rfl) (by rfl) ?_
      | refine SL_add (by decide) (by rfl) (by rfl) (by omega) (by omega) ?_
      | (refine SL_lss (by decide) (by rfl) (by rfl) (fun hT => ?_) (fun hT => ?_) <;> first | (exfalso; omega) | skip)
      | (refine SL_leq (by decide) (by rfl) (by rfl) (fun hT => ?_) (fun hT => ?_) <;> first | (exfalso; omega) | skip)
      | (refine SL_gtr (by decide) (by rfl) (by rfl) (fun hT => ?_) (fun hT => ?_) <;> first | (exfalso; omega) | skip)
      | refine SL_len_v (by decide) (by rfl) (by assumption) (by rfl) (slF (by rfl)) (by simp only [List.length_map]; first | rfl | assumption) ?_
      | refine SL_indexAddr_v (by decide) (by rfl) (by rfl) (by assumption) (slF (by rfl)) _ (by first | rfl | exact (Int.toNat_of_nonneg (by omega)).symm) (by simp only [List.length_map]; omega) (fun ad => ?_)
      | refine SL_load_r (by decide) (by rfl) (rowF (by rfl)) (by first | assumption | rfl | exact strs_get _ hlt) (by rfl) ?_
      | refine SC_cond_t (by rfl) ?_
      | refine SC_cond_f (by rfl) ?_
      | (refine SC_exit (fun tm σ hE hH => ?_); refine SC.app ?_ hE hH; clear hE hH; clear tm σ)
      | (refine SC_skip' (fun tm σ hE hH => ?_); refine SC.app ?_ hE hH; clear hE hH; clear tm σ)
      | refine SC_ret (fun tm σ hE hH => Post.intro (Hn := []) (.inr rfl) hE hH (by rfl) trivial List.nodup_nil (fun p hp => (by cases hp)) ?_)
      | fail)
    · refine ⟨?_, rfl⟩
      have hb : fewS xs g = false := by
        unfold fewS
        rw [Bool.and_eq_false_iff]; left
        rw [decide_eq_false_iff_not]
        intro hall
        have := hall xs[k] (by rw [List.mem_take_iff_getElem]; exact ⟨k, by omega, rfl⟩)
        omega
      rw [hb]; rfl
    · refine SL_nil fun tm σ hE hH => ⟨k + 1, by omega, ⟨by omega, by omega, ?_⟩, tm, σ, rfl, hE.sub ⟨rfl, rfl, rfl, rfl, trivial⟩, hH.sub trivial List.nodup_nil⟩
      intro x hx
      rw [List.take_succ_eq_append_getElem hlt, List.mem_append] at hx
      rcases hx with hx | hx
      · exact hk3 x hx
      · rw [List.mem_singleton] at hx
        subst hx; omega
    · refine ⟨?_, rfl⟩
      have hb : fewS xs g = false := by
        unfold fewS
        rw [Bool.and_eq_false_iff]; right
        rw [decide_eq_false_iff_not]
        omega
      rw [hb]; rfl
  ·
    repeat' (first
      | refine SC_seq ?_
      | refine SC_region ?_
      | refine SL_seq ?_
      | refine SL_not (by rfl) (by rfl) (by rfl) (by decide) ?_
      | refine SL_move (by decide) (by rfl) ?_
      | refine SL_assign (by decide) (by rfl) ?_
      | refine SL_pick_f (by decide) (by rfl) (by rfl) ?_
      | (refine SL_lss (by decide) (by rfl) (by rfl) (fun hT => ?_) (fun hT => ?_) <;> first | (exfalso; omega) | skip)
      | (refine SL_leq (by decide) (by rfl) (by rfl) (fun hT => ?_) (fun hT => ?_) <;> first | (exfalso; omega) | skip)
      | refine SL_len_v (by decide) (by rfl) (by assumption) (by rfl) (slF (by rfl)) (by simp only [List.length_map]; first | rfl | assumption) ?_
      | refine SC_cond_f (by rfl) ?_
      | (refine SC_exit (fun tm σ hE hH => ?_); refine SC.app ?_ hE hH; clear hE hH; clear tm σ)
      | refine SC_ret (fun tm σ hE hH => Post.intro (Hn := []) (.inr rfl) hE hH (by rfl) trivial List.nodup_nil (fun p hp => (by cases hp)) ?_)
      | fail)
    · refine ⟨?_, rfl⟩
      have hb : fewS xs g = true := by
        unfold fewS
        rw [Bool.and_eq_true, decide_eq_true_eq, decide_eq_true_eq]
        refine ⟨fun x hx => hk3 x ?_, by omega⟩
        rw [List.take_of_length_le (by omega)] at hx ⊢
        exact hx
      rw [hb]; rfl
end Go.Proofs.YtnhnlkljcfbhfaaGreatDoor
/- The plain law of names: which are valid, where one stands in a list, which lists may be. -/
namespace Go.Proofs.YtnhnlkljcfbhfaaGreatDoor
open Go Go.Ab
def OkC (i c : Nat) : Prop := (97 ≤ c ∧ c ≤ 122) ∨ (65 ≤ c ∧ c ≤ 90) ∨ (0 < i ∧ ((48 ≤ c ∧ c ≤ 57) ∨ c = 45 ∨ c = 95))
instance (i c : Nat) : Decidable (OkC i c) := by unfold OkC; infer_instance
def okFrom : Nat → List UInt8 → Bool
  | _, [] => true
  | i, c :: r => decide (OkC i c.toNat) && okFrom (i + 1) r
def validN (s : ByteArray) : Bool := okFrom 0 s.data.toList && decide (1 ≤ s.size ∧ s.size ≤ 32)
theorem validN_size {s : ByteArray} (h : validN s = true) : 1 ≤ s.size := by
  unfold validN at h
  rw [Bool.and_eq_true, decide_eq_true_eq] at h
  exact h.2.1
theorem bytes_len (s : ByteArray) : s.data.toList.length = s.size := Array.length_toList
theorem okFrom_step {s : List UInt8} {k : Nat} (hk : k < s.length) : okFrom k (s.drop k) = (decide (OkC k s[k].toNat) && okFrom (k + 1) (s.drop (k + 1))) := by
  rw [List.drop_eq_getElem_cons hk]
  rfl
def idxFrom : Nat → List ByteArray → ByteArray → Int
  | _, [], _ => -1
  | i, x :: r, w => if w = x then i else idxFrom (i + 1) r w
theorem idxFrom_step {xs : List ByteArray} {k : Nat} (hk : k < xs.length) (w : ByteArray) : idxFrom k (xs.drop k) w = if w = xs[k] then (k : Int) else idxFrom (k + 1) (xs.drop (k + 1)) w := by
  rw [List.drop_eq_getElem_cons hk]
  rfl
theorem idxFrom_mem : ∀ (xs : List ByteArray) (i : Nat) (w : ByteArray), 0 ≤ idxFrom i xs w ↔ w ∈ xs
  | [], i, w => by simp [idxFrom]
  | x :: r, i, w => by
    unfold idxFrom
    split
    · rename_i h
      subst h
      simp
    · rename_i h
      rw [idxFrom_mem r (i + 1) w, List.mem_cons]
      exact ⟨.inr, fun h2 => h2.resolve_left h⟩
theorem idxFrom_lt : ∀ (xs : List ByteArray) (i : Nat) (w : ByteArray), -1 ≤ idxFrom i xs w ∧ (0 ≤ idxFrom i xs w → (i : Int) ≤ idxFrom i xs w) ∧ idxFrom i xs w < i + xs.length ∨ (idxFrom i xs w = -1 ∧ xs = [])
  | [], i, w => .inr ⟨rfl, rfl⟩
  | x :: r, i, w => by
    left
    unfold idxFrom
    split
    · simp only [List.length_cons]; omega
    · rcases idxFrom_lt r (i + 1) w with h | ⟨h, h2⟩
      · simp only [List.length_cons]; omega
      · rw [h]; simp only [List.length_cons]; omega
def idxS (xs : List ByteArray) (w : ByteArray) : Int := idxFrom 0 xs w
theorem idxS_mem {xs : List ByteArray} {w : ByteArray} : 0 ≤ idxS xs w ↔ w ∈ xs := idxFrom_mem xs 0 w
theorem idxS_lt (xs : List ByteArray) (w : ByteArray) : -1 ≤ idxS xs w ∧ (0 ≤ idxS xs w → idxS xs w < xs.length) := by
  unfold idxS
  rcases idxFrom_lt xs 0 w with h | ⟨h, h2⟩
  · omega
  · rw [h]; omega
def memB (p : List ByteArray) (x : ByteArray) : Bool := p.any fun y => decide (y = x)
theorem memB_iff {p : List ByteArray} {x : ByteArray} : memB p x = true ↔ x ∈ p := by
  unfold memB
  rw [List.any_eq_true]
  constructor
  · rintro ⟨y, hy, h⟩
    rw [decide_eq_true_eq] at h
    exact h ▸ hy
  · exact fun h => ⟨x, h, decide_eq_true rfl⟩
theorem memB_f {p : List ByteArray} {x : ByteArray} : memB p x = false ↔ x ∉ p := by
  rw [← memB_iff]; simp
def okN : List ByteArray → List ByteArray → Bool
  | _, [] => true
  | p, x :: r => validN x && !memB p x && okN (p ++ [x]) r
theorem okN_step {xs : List ByteArray} {k : Nat} (hk : k < xs.length) : okN (xs.take k) (xs.drop k) = (validN xs[k] && !memB (xs.take k) xs[k] && okN (xs.take (k + 1)) (xs.drop (k + 1))) := by
  rw [List.drop_eq_getElem_cons hk]
  conv => lhs; unfold okN
  rw [List.take_succ_eq_append_getElem hk]
theorem okN_valid : ∀ {r p : List ByteArray}, okN p r = true → ∀ x ∈ r, validN x = true
  | [], _, _, x, hx => by cases hx
  | y :: r, p, h, x, hx => by
    unfold okN at h
    simp only [Bool.and_eq_true] at h
    rcases List.mem_cons.1 hx with rfl | hx
    · exact h.1.1
    · exact okN_valid h.2 x hx
def namedB (xs : List ByteArray) (lo hi : Int) : Bool := okN [] xs && decide (lo ≤ xs.length ∧ (xs.length : Int) ≤ hi)
def byeS : ByteArray := ⟨#[98, 121, 101]⟩
def playersB (xs : List ByteArray) : Bool := namedB xs 2 12 && !memB xs byeS
theorem mem_take_iff {xs : List ByteArray} {k : Nat} {w : ByteArray} : w ∈ xs.take k ↔ ∃ j, ∃ h : j < xs.length, j < k ∧ xs[j] = w := by
  rw [List.mem_take_iff_getElem]
  constructor
  · rintro ⟨i, h, e⟩
    exact ⟨i, by omega, by omega, e⟩
  · rintro ⟨i, h, h2, e⟩
    exact ⟨i, by omega, e⟩
end Go.Proofs.YtnhnlkljcfbhfaaGreatDoor
/- Names: ValidName, Index, Contains, named, players, of the program and of the law. -/
namespace Go.Proofs.YtnhnlkljcfbhfaaGreatDoor
open Go Go.Ab
set_option maxRecDepth 100000
theorem bd54 : (Tryz.prog.funcs[54]?).map (·.body.isNone) = some false := by rw [Tryz.func54]; rfl
theorem bd51 : (Tryz.prog.funcs[51]?).map (·.body.isNone) = some false := by rw [Tryz.func51]; rfl
theorem bd25 : (Tryz.prog.funcs[25]?).map (·.body.isNone) = some false := by rw [Tryz.func25]; rfl
theorem bd49 : (Tryz.prog.funcs[49]?).map (·.body.isNone) = some false := by rw [Tryz.func49]; rfl
theorem bd82 : (Tryz.prog.funcs[82]?).map (·.body.isNone) = some false := by rw [Tryz.func82]; rfl
theorem strs_len0 (xs : List ByteArray) : (xs.map fun x => [AV.s (.string x)]).length = xs.length := List.length_map _
attribute [local irreducible] SC SL wpc wpl wpd wpf wpy wpn FnC FnW RdW SD SI
set_option maxHeartbeats 4000000
theorem name_fn {G : Gl} (s : ByteArray) (hbig : s.size ≤ 9223372036854775807) (ho : ∀ a, G.orc 54 [a] = none) : FnC Tryz.prog G 54 [.s (.string s)] [] (fun v Hn => v = .s (.bool (validN s)) ∧ Hn = []) := by
  refine Fn_body (N := 56) (ho _) Tryz.func54 rfl rfl fun B => ?_
  repeat' (first
    | refine SL_len_s (by decide) (by rfl) (by rfl) Tryz.underlying9 ?_
    | refine SC_seq ?_
    | refine SC_block ?_
    | refine SC_region ?_
    | refine SL_seq ?_
    | refine SL_move (by decide) (by rfl) ?_
    | refine SL_assign (by decide) (by rfl) ?_
    | fail)
  refine SC_loop (fun k : Nat => [(0, .s (.string s)), (2, .s (.bool false)), (6, .s (.int .i64 s.size)), (7, .s (.int .i64 k))]) (fun _ => []) (fun _ => []) (fun k => k ≤ s.size ∧ okFrom 0 s.data.toList = okFrom k (s.data.toList.drop k)) (fun k => s.size - k) 0 ⟨by omega, rfl⟩ ⟨rfl, rfl, rfl, rfl, trivial⟩ trivial List.nodup_nil rfl ?_
  rintro k ⟨hk, hok⟩
  by_cases hlt : k < s.size
  · have hlt' : k < s.data.toList.length := by rw [bytes_len]; exact hlt
    obtain ⟨b, hbe⟩ : ∃ b, b = s.data.toList[k] := ⟨_, rfl⟩
    have hb : s.data.toList[k]? = some b := by rw [List.getElem?_eq_getElem hlt', hbe]
    have hst := okFrom_step hlt'
    rw [← hbe] at hst
    have hb256 := b.toNat_lt
    by_cases ho' : OkC k b.toNat
    · have ho2 := ho'
      unfold OkC at ho2
      have hok' : okFrom 0 s.data.toList = okFrom (k + 1) (s.data.toList.drop (k + 1)) := by rw [hok, hst, decide_eq_true ho', Bool.true_and]
      repeat' (first
        | refine SL_index_s (by decide) (by rfl) (by rfl) Tryz.underlying9 (i := k) (by rfl) hb ?_
        | refine SC_seq ?_
        | refine SC_block ?_
        | refine SC_region ?_
        | refine SL_seq ?_
        | refine SL_run (by rfl) (by rfl) ?_
        | refine SL_not (by rfl) (by rfl) (by rfl) (by decide) ?_
        | refine SL_notu (by rfl) (by rfl) (by decide) ?_
        | refine SL_move (by decide) (by rfl) ?_
        | refine SL_assign (by decide) (by rfl) ?_
        | refine SL_pick_t (by decide) (by rfl) (by rfl) ?_
        | refine SL_pick_f (by decide) (by rfl) (by rfl) ?_
        | refine SL_add (by decide) (by rfl) (by rfl) (by omega) (by omega) ?_
        | (refine SL_lss (by decide) (by rfl) (by rfl) (fun hT => ?_) (fun hT => ?_) <;> first | (exfalso; omega) | skip)
        | (refine SL_leq (by decide) (by rfl) (by rfl) (fun hT => ?_) (fun hT => ?_) <;> first | (exfalso; omega) | skip)
        | (refine SL_gtr (by decide) (by rfl) (by rfl) (fun hT => ?_) (fun hT => ?_) <;> first | (exfalso; omega) | skip)
        | (refine SL_geq (by decide) (by rfl) (by rfl) (fun hT => ?_) (fun hT => ?_) <;> first | (exfalso; omega) | skip)
        | (refine SL_eql (by decide) (by rfl) (by rfl) (fun hT => ?_) (fun hT => ?_) <;> first | (exfalso; omega) | skip)
        | refine SC_cond_t (by rfl) ?_
        | refine SC_cond_f (by rfl) ?_
        | (refine SC_skip' (fun tm σ hE hH => ?_); refine SC.app ?_ hE hH; clear hE hH; clear tm σ)
        | fail)
      all_goals exact SL_nil fun tm σ hE hH => ⟨k + 1, by omega, ⟨by omega, hok'⟩, tm, σ, rfl, hE.sub ⟨rfl, rfl, rfl, rfl, trivial⟩, hH.sub trivial List.nodup_nil⟩
    · have ho2 := ho'
      unfold OkC at ho2
      have hv : validN s = false := by
        unfold validN
        rw [hok, hst, decide_eq_false ho', Bool.false_and, Bool.false_and]
      repeat' (first
        | refine SL_index_s (by decide) (by rfl) (by rfl) Tryz.underlying9 (i := k) (by rfl) hb ?_
        | refine SC_seq ?_
        | refine SC_block ?_
        | refine SC_region ?_
        | refine SL_seq ?_
        | refine SL_run (by rfl) (by rfl) ?_
        | refine SL_not (by rfl) (by rfl) (by rfl) (by decide) ?_
        | refine SL_notu (by rfl) (by rfl) (by decide) ?_
        | refine SL_move (by decide) (by rfl) ?_
        | refine SL_assign (by decide) (by rfl) ?_
        | refine SL_pick_t (by decide) (by rfl) (by rfl) ?_
        | refine SL_pick_f (by decide) (by rfl) (by rfl) ?_
        | (refine SL_lss (by decide) (by rfl) (by rfl) (fun hT => ?_) (fun hT => ?_) <;> first | (exfalso; omega) | skip)
        | (refine SL_leq (by decide) (by rfl) (by rfl) (fun hT => ?_) (fun hT => ?_) <;> first | (exfalso; omega) | skip)
        | (refine SL_gtr (by decide) (by rfl) (by rfl) (fun hT => ?_) (fun hT => ?_) <;> first | (exfalso; omega) | skip)
        | (refine SL_geq (by decide) (by rfl) (by rfl) (fun hT => ?_) (fun hT => ?_) <;> first | (exfalso; omega) | skip)
        | (refine SL_eql (by decide) (by rfl) (by rfl) (fun hT => ?_) (fun hT => ?_) <;> first | (exfalso; omega) | skip)
        | refine SC_cond_t (by rfl) ?_
        | refine SC_cond_f (by rfl) ?_
        | (refine SC_skip' (fun tm σ hE hH => ?_); refine SC.app ?_ hE hH; clear hE hH; clear tm σ)
        | fail)
      all_goals refine SC_ret (fun tm σ hE hH => Post.intro (Hn := []) (.inr rfl) hE hH (by rfl) trivial List.nodup_nil (fun p hp => (by cases hp)) ?_)
      all_goals exact ⟨by rw [hv]; rfl, rfl⟩
  · obtain rfl : k = s.size := by omega
    have hz : okFrom 0 s.data.toList = true := by rw [hok, List.drop_eq_nil_of_le (by rw [bytes_len]; exact Nat.le_refl _)]; rfl
    by_cases hs : 1 ≤ s.size ∧ s.size ≤ 32
    · have hv : validN s = true := by unfold validN; rw [hz, decide_eq_true hs]; rfl
      repeat' (first
        | refine SL_len_s (by decide) (by rfl) (by rfl) Tryz.underlying9 ?_
        | refine SC_seq ?_
        | refine SC_region ?_
        | refine SL_seq ?_
        | refine SL_run (by rfl) (by rfl) ?_
        | refine SL_move (by decide) (by rfl) ?_
        | refine SL_assign (by decide) (by rfl) ?_
        | refine SL_pick_t (by decide) (by rfl) (by rfl) ?_
        | (refine SL_lss (by decide) (by rfl) (by rfl) (fun hT => ?_) (fun hT => ?_) <;> first | (exfalso; omega) | skip)
        | (refine SL_leq (by decide) (by rfl) (by rfl) (fun hT => ?_) (fun hT => ?_) <;> first | (exfalso; omega) | skip)
        | (refine SL_geq (by decide) (by rfl) (by rfl) (fun hT => ?_) (fun hT => ?_) <;> first | (exfalso; omega) | skip)
        | refine SC_cond_f (by rfl) ?_
        | (refine SC_exit (fun tm σ hE hH => ?_); refine SC.app ?_ hE hH; clear hE hH; clear tm σ)
        | fail)
      all_goals refine SC_ret (fun tm σ hE hH => Post.intro (Hn := []) (.inr rfl) hE hH (by rfl) trivial List.nodup_nil (fun p hp => (by cases hp)) ?_)
      all_goals exact ⟨by rw [hv]; rfl, rfl⟩
    · have hv : validN s = false := by unfold validN; rw [hz, decide_eq_false hs]; rfl
      repeat' (first
        | refine SL_len_s (by decide) (by rfl) (by rfl) Tryz.underlying9 ?_
        | refine SC_seq ?_
        | refine SC_region ?_
        | refine SL_seq ?_
        | refine SL_run (by rfl) (by rfl) ?_
        | refine SL_not (by rfl) (by rfl) (by rfl) (by decide) ?_
        | refine SL_move (by decide) (by rfl) ?_
        | refine SL_assign (by decide) (by rfl) ?_
        | refine SL_pick_t (by decide) (by rfl) (by rfl) ?_
        | refine SL_pick_f (by decide) (by rfl) (by rfl) ?_
        | (refine SL_lss (by decide) (by rfl) (by rfl) (fun hT => ?_) (fun hT => ?_) <;> first | (exfalso; omega) | skip)
        | (refine SL_leq (by decide) (by rfl) (by rfl) (fun hT => ?_) (fun hT => ?_) <;> first | (exfalso; omega) | skip)
        | (refine SL_geq (by decide) (by rfl) (by rfl) (fun hT => ?_) (fun hT => ?_) <;> first | (exfalso; omega) | skip)
        | refine SC_cond_f (by rfl) ?_
        | (refine SC_exit (fun tm σ hE hH => ?_); refine SC.app ?_ hE hH; clear hE hH; clear tm σ)
        | fail)
      all_goals refine SC_ret (fun tm σ hE hH => Post.intro (Hn := []) (.inr rfl) hE hH (by rfl) trivial List.nodup_nil (fun p hp => (by cases hp)) ?_)
      all_goals exact ⟨by rw [hv]; rfl, rfl⟩
theorem index_fn {G : Gl} {H0 : List (Nat × AObj)} (hnd0 : (H0.map (·.1)).Nodup) {xs : List ByteArray} {l : AV} (hsh : SlH H0 1 l (xs.map fun x => [.s (.string x)])) (hbig : xs.length ≤ 9223372036854775807) (w : ByteArray) (ho : G.orc 49 [l, .s (.string w)] = none) :
    FnC Tryz.prog G 49 [l, .s (.string w)] H0 (fun v Hn => v = .s (.int .i64 (idxS xs w)) ∧ Hn = []) := by
  refine Fn_body (N := 19) ho Tryz.func49 rfl rfl fun B => ?_
  repeat' (first
    | refine SL_len_h (by decide) (by rfl) hsh (by rfl) (slF (by rfl)) (strs_len0 _) ?_
    | refine SC_seq ?_
    | refine SC_block ?_
    | refine SC_region ?_
    | refine SL_seq ?_
    | refine SL_move (by decide) (by rfl) ?_
    | refine SL_assign (by decide) (by rfl) ?_
    | fail)
  refine SC_loop (fun k : Nat => [(0, l), (1, .s (.string w)), (7, .s (.int .i64 xs.length)), (8, .s (.int .i64 k))]) (fun _ => H0) (fun _ => []) (fun k => k ≤ xs.length ∧ idxS xs w = idxFrom k (xs.drop k) w) (fun k => xs.length - k) 0 ⟨by omega, rfl⟩ ⟨rfl, rfl, rfl, rfl, trivial⟩ (.refl _) hnd0 rfl ?_
  rintro k ⟨hk, hix⟩
  by_cases hlt : k < xs.length
  · rw [idxFrom_step hlt] at hix
    by_cases hw : w = xs[k]
    · rw [if_pos hw] at hix
      repeat' (first
        | (refine SL_seql (by decide) (by rfl) (by rfl) (fun hS => ?_) (fun hS => ?_) <;> first | (exact absurd (by assumption) hS) | (exact absurd hS (by assumption)) | skip)
        | refine SL_load_h (by decide) (by rfl) (by assumption) (fun p hp => hp) (rowF (by rfl)) (by first | exact strs_get _ hlt | exact strs_get _ hlt2) (by rfl) ?_
        | (refine SL_indexAddr_h (by decide) (by rfl) (by rfl) hsh (fun p hp => hp) (slF (by rfl)) _ (by first | rfl | exact (Int.toNat_of_nonneg (by omega)).symm) (by simp only [List.length_map]; omega) (fun pa hpa => ?_))
        | refine SC_seq ?_
        | refine SC_block ?_
        | refine SC_region ?_
        | refine SL_seq ?_
        | refine SL_move (by decide) (by rfl) ?_
        | refine SL_assign (by decide) (by rfl) ?_
        | (refine SL_lss (by decide) (by rfl) (by rfl) (fun hT => ?_) (fun hT => ?_) <;> first | (exfalso; omega) | skip)
        | refine SC_cond_t (by rfl) ?_
        | (refine SC_skip' (fun tm σ hE hH => ?_); refine SC.app ?_ hE hH; clear hE hH; clear tm σ)
        | fail)
      refine SC_ret (fun tm σ hE hH => Post.intro (Hn := []) (.inr rfl) hE hH (by rfl) trivial List.nodup_nil (fun p hp => (by cases hp)) ?_)
      exact ⟨by rw [hix]; rfl, rfl⟩
    · rw [if_neg hw] at hix
      repeat' (first
        | (refine SL_seql (by decide) (by rfl) (by rfl) (fun hS => ?_) (fun hS => ?_) <;> first | (exact absurd (by assumption) hS) | (exact absurd hS (by assumption)) | skip)
        | refine SL_load_h (by decide) (by rfl) (by assumption) (fun p hp => hp) (rowF (by rfl)) (by first | exact strs_get _ hlt | exact strs_get _ hlt2) (by rfl) ?_
        | (refine SL_indexAddr_h (by decide) (by rfl) (by rfl) hsh (fun p hp => hp) (slF (by rfl)) _ (by first | rfl | exact (Int.toNat_of_nonneg (by omega)).symm) (by simp only [List.length_map]; omega) (fun pa hpa => ?_))
        | refine SC_seq ?_
        | refine SC_block ?_
        | refine SC_region ?_
        | refine SL_seq ?_
        | refine SL_move (by decide) (by rfl) ?_
        | refine SL_assign (by decide) (by rfl) ?_
        | refine SL_add (by decide) (by rfl) (by rfl) (by omega) (by omega) ?_
        | (refine SL_lss (by decide) (by rfl) (by rfl) (fun hT => ?_) (fun hT => ?_) <;> first | (exfalso; omega) | skip)
        | refine SC_cond_t (by rfl) ?_
        | refine SC_cond_f (by rfl) ?_
        | (refine SC_skip' (fun tm σ hE hH => ?_); refine SC.app ?_ hE hH; clear hE hH; clear tm σ)
        | fail)
      exact SL_nil fun tm σ hE hH => ⟨k + 1, by omega, ⟨by omega, hix⟩, tm, σ, rfl, hE.sub ⟨rfl, rfl, rfl, rfl, trivial⟩, hH⟩
  · obtain rfl : k = xs.length := by omega
    rw [List.drop_eq_nil_of_le (Nat.le_refl _)] at hix
    repeat' (first
      | refine SC_seq ?_
      | refine SC_region ?_
      | refine SL_seq ?_
      | refine SL_assign (by decide) (by rfl) ?_
      | (refine SL_lss (by decide) (by rfl) (by rfl) (fun hT => ?_) (fun hT => ?_) <;> first | (exfalso; omega) | skip)
      | refine SC_cond_f (by rfl) ?_
      | (refine SC_exit (fun tm σ hE hH => ?_); refine SC.app ?_ hE hH; clear hE hH; clear tm σ)
      | fail)
    refine SC_ret (fun tm σ hE hH => Post.intro (Hn := []) (.inr rfl) hE hH (by rfl) trivial List.nodup_nil (fun p hp => (by cases hp)) ?_)
    exact ⟨by rw [hix]; rfl, rfl⟩
theorem contains_fn {G : Gl} {H0 : List (Nat × AObj)} (hnd0 : (H0.map (·.1)).Nodup) {xs : List ByteArray} {l : AV} (w : ByteArray) (ho : G.orc 82 [l, .s (.string w)] = none) (h49 : FnC Tryz.prog G 49 [l, .s (.string w)] H0 (fun v Hn => v = .s (.int .i64 (idxS xs w)) ∧ Hn = [])) :
    FnC Tryz.prog G 82 [l, .s (.string w)] H0 (fun v Hn => v = .s (.bool (memB xs w)) ∧ Hn = []) := by
  by_cases hm : w ∈ xs
  · have h0 := idxS_mem.2 hm
    refine Fn_body (N := 9) ho Tryz.func82 rfl rfl fun B => ?_
    repeat' (first
      | (refine SL_call (by decide) (by rfl) bd49 (by rfl) (by rfl) h49 (.refl _) hnd0 ?_; rintro _ _ _ ⟨rfl, rfl⟩; rw [List.nil_append])
      | refine SC_seq ?_
      | refine SC_region ?_
      | refine SL_seq ?_
      | refine SL_move (by decide) (by rfl) ?_
      | refine SL_assign (by decide) (by rfl) ?_
      | (refine SL_geq (by decide) (by rfl) (by rfl) (fun hT => ?_) (fun hT => ?_) <;> first | (exfalso; omega) | skip)
      | fail)
    refine SC_ret (fun tm σ hE hH => Post.intro (Hn := []) (.inr rfl) hE hH (by rfl) trivial List.nodup_nil (fun p hp => (by cases hp)) ?_)
    exact ⟨by rw [memB_iff.2 hm]; rfl, rfl⟩
  · have h0 : ¬ 0 ≤ idxS xs w := fun h => hm (idxS_mem.1 h)
    refine Fn_body (N := 9) ho Tryz.func82 rfl rfl fun B => ?_
    repeat' (first
      | (refine SL_call (by decide) (by rfl) bd49 (by rfl) (by rfl) h49 (.refl _) hnd0 ?_; rintro _ _ _ ⟨rfl, rfl⟩; rw [List.nil_append])
      | refine SC_seq ?_
      | refine SC_region ?_
      | refine SL_seq ?_
      | refine SL_move (by decide) (by rfl) ?_
      | refine SL_assign (by decide) (by rfl) ?_
      | (refine SL_geq (by decide) (by rfl) (by rfl) (fun hT => ?_) (fun hT => ?_) <;> first | (exfalso; omega) | skip)
      | fail)
    refine SC_ret (fun tm σ hE hH => Post.intro (Hn := []) (.inr rfl) hE hH (by rfl) trivial List.nodup_nil (fun p hp => (by cases hp)) ?_)
    exact ⟨by rw [memB_f.2 hm]; rfl, rfl⟩
theorem index_0 {G : Gl} {a : Addr} {cap : Nat} (w : ByteArray) (ho : ∀ x y, G.orc 49 [x, y] = none) : FnC Tryz.prog G 49 [.rsl a 1 cap [], .s (.string w)] [] (fun v Hn => v = .s (.int .i64 (-1)) ∧ Hn = []) := by
  refine Fn_body (N := 19) (ho _ _) Tryz.func49 rfl rfl fun B => ?_
  repeat' (first
    | refine SC_seq ?_
    | refine SC_region ?_
    | refine SL_seq ?_
    | refine SL_move (by decide) (by rfl) ?_
    | refine SL_assign (by decide) (by rfl) ?_
    | fail)
  refine SL_len_rsl (by decide) (by rfl) (by rfl) (sliceOf_spec (slF (by rfl))).1 ?_
  repeat' (first
    | refine SC_block ?_
    | refine SL_seq ?_
    | refine SL_move (by decide) (by rfl) ?_
    | fail)
  refine SC_loop (fun _ : Unit => [(8, .s (.int .i64 0)), (7, .s (.int .i64 0))]) (fun _ => []) (fun _ => []) (fun _ => True) (fun _ => 0) () trivial ⟨rfl, rfl, trivial⟩ trivial List.nodup_nil rfl ?_
  rintro _ _
  repeat' (first
    | refine SC_seq ?_
    | refine SC_region ?_
    | refine SL_seq ?_
    | refine SL_assign (by decide) (by rfl) ?_
    | (refine SL_lss (by decide) (by rfl) (by rfl) (fun hT => ?_) (fun hT => ?_) <;> first | (exfalso; omega) | skip)
    | refine SC_cond_f (by rfl) ?_
    | (refine SC_exit (fun tm σ hE hH => ?_); refine SC.app ?_ hE hH; clear hE hH; clear tm σ)
    | fail)
  refine SC_ret (fun tm σ hE hH => Post.intro (Hn := []) (.inr rfl) hE hH (by rfl) trivial List.nodup_nil (fun p hp => (by cases hp)) ?_)
  exact ⟨rfl, rfl⟩
theorem contains_0 {G : Gl} {a : Addr} {cap : Nat} (w : ByteArray) (ho : ∀ x y, G.orc 82 [x, y] = none) (ho' : ∀ x y, G.orc 49 [x, y] = none) : FnC Tryz.prog G 82 [.rsl a 1 cap [], .s (.string w)] [] (fun v Hn => v = .s (.bool false) ∧ Hn = []) := by
  have h49 := index_0 (a := a) (cap := cap) w ho'
  have hnd0 := List.nodup_nil (α := Nat)
  refine Fn_body (N := 9) (ho _ _) Tryz.func82 rfl rfl fun B => ?_
  repeat' (first
    | (refine SL_call (by decide) (by rfl) bd49 (by rfl) (by rfl) h49 (.refl _) hnd0 ?_; rintro _ _ _ ⟨rfl, rfl⟩; rw [List.nil_append])
    | refine SC_seq ?_
    | refine SC_region ?_
    | refine SL_seq ?_
    | refine SL_move (by decide) (by rfl) ?_
    | refine SL_assign (by decide) (by rfl) ?_
    | (refine SL_geq (by decide) (by rfl) (by rfl) (fun hT => ?_) (fun hT => ?_) <;> first | (exfalso; omega) | skip)
    | fail)
  refine SC_ret (fun tm σ hE hH => Post.intro (Hn := []) (.inr rfl) hE hH (by rfl) trivial List.nodup_nil (fun p hp => (by cases hp)) ?_)
  exact ⟨rfl, rfl⟩
end Go.Proofs.YtnhnlkljcfbhfaaGreatDoor
