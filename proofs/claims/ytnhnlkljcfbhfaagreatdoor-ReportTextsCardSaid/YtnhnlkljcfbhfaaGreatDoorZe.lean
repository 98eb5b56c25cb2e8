/- What the listed tables are, as rows: for all laws of this seat. -/
import Derived.Test.YtnhnlkljcfbhfaaGreatDoorZd
import Derived.Test.YtnhnlkljcfbhfaaGreatDoorCards
import Derived.Test.YtnhnlkljcfbhfaaGreatDoorTie
import Derived.Test.YtnhnlkljcfbhfaaGreatDoorZc
import Derived.LaidMore
import Derived.Lay
import Derived.ProofKit
import Derived.Stop.Joined
import Derived.SevenTiedAt
namespace Go.Proofs.YtnhnlkljcfbhfaaGreatDoor
open Go Go.Ab Go.ChangeShapes Go.WideShapes Go.ChangeAt Go.WideElems Go.RowKit
def laidT : List (String × DataW Unit) := [("caissa/piece.kinds", Rows.laid_caissa_piece_kinds), ("math/bits.deBruijn32tab", Rows.laid_math_bits_deBruijn32tab), ("math/bits.deBruijn64tab", Rows.laid_math_bits_deBruijn64tab), ("internal/strconv.uint64pow10", Rows.laid_internal_strconv_uint64pow10), ("unicode/utf8.acceptRanges", Rows.laid_unicode_utf8_acceptRanges), ("caissa/ray.straight", Rows.laid_caissa_ray_straight), ("caissa/ray.diagonal", Rows.laid_caissa_ray_diagonal), ("caissa/ray.leaps", Rows.laid_caissa_ray_leaps), ("strconv.ErrRange", Rows.laid_strconv_ErrRange), ("strconv.ErrSyntax", Rows.laid_strconv_ErrSyntax), ("caissa/position.full", Rows.laid_caissa_position_full), ("unicode/utf8.first", Rows.laid_unicode_utf8_first)]
theorem gn0 : Tryz.prog.globalNamed "caissa/piece.kinds" = some 0 := by kernel_rfl
theorem gn2 : Tryz.prog.globalNamed "strconv.ErrSyntax" = some 2 := by kernel_rfl
theorem gn3 : Tryz.prog.globalNamed "strconv.ErrRange" = some 3 := by kernel_rfl
theorem gn4 : Tryz.prog.globalNamed "caissa/position.full" = some 4 := by kernel_rfl
theorem gn5 : Tryz.prog.globalNamed "internal/strconv.uint64pow10" = some 5 := by kernel_rfl
theorem gn8 : Tryz.prog.globalNamed "math/bits.deBruijn32tab" = some 8 := by kernel_rfl
theorem gn9 : Tryz.prog.globalNamed "math/bits.deBruijn64tab" = some 9 := by kernel_rfl
theorem gn10 : Tryz.prog.globalNamed "caissa/ray.leaps" = some 10 := by kernel_rfl
theorem gn11 : Tryz.prog.globalNamed "caissa/ray.diagonal" = some 11 := by kernel_rfl
theorem gn12 : Tryz.prog.globalNamed "caissa/ray.straight" = some 12 := by kernel_rfl
theorem gt0 : (Tryz.prog.globals[0]?).map (·.type) = some 136 := by kernel_rfl
theorem gt2 : (Tryz.prog.globals[2]?).map (·.type) = some 97 := by kernel_rfl
theorem gt3 : (Tryz.prog.globals[3]?).map (·.type) = some 97 := by kernel_rfl
theorem gt4 : (Tryz.prog.globals[4]?).map (·.type) = some 23 := by kernel_rfl
theorem gt5 : (Tryz.prog.globals[5]?).map (·.type) = some 239 := by kernel_rfl
theorem gt8 : (Tryz.prog.globals[8]?).map (·.type) = some 265 := by kernel_rfl
theorem gt9 : (Tryz.prog.globals[9]?).map (·.type) = some 266 := by kernel_rfl
theorem gt10 : (Tryz.prog.globals[10]?).map (·.type) = some 278 := by kernel_rfl
theorem gt11 : (Tryz.prog.globals[11]?).map (·.type) = some 280 := by kernel_rfl
theorem gt12 : (Tryz.prog.globals[12]?).map (·.type) = some 280 := by kernel_rfl
theorem dc0 : (datCells Tryz.prog 5 136 Rows.laid_caissa_piece_kinds).map (·.map AV.s) = some rw0 := by kernel_rfl
theorem dc4 : (datCells Tryz.prog 5 23 Rows.laid_caissa_position_full).map (·.map AV.s) = some rw4 := by kernel_rfl
theorem dc5 : (datCells Tryz.prog 5 239 Rows.laid_internal_strconv_uint64pow10).map (·.map AV.s) = some rw5 := by kernel_rfl
theorem dc8 : (datCells Tryz.prog 5 265 Rows.laid_math_bits_deBruijn32tab).map (·.map AV.s) = some rw8 := by kernel_rfl
theorem dc9 : (datCells Tryz.prog 5 266 Rows.laid_math_bits_deBruijn64tab).map (·.map AV.s) = some rw9 := by kernel_rfl
theorem dc10 : (datCells Tryz.prog 5 278 Rows.laid_caissa_ray_leaps).map (·.map AV.s) = some rw10 := by kernel_rfl
theorem dc11 : (datCells Tryz.prog 5 280 Rows.laid_caissa_ray_diagonal).map (·.map AV.s) = some rw11 := by kernel_rfl
theorem dc12 : (datCells Tryz.prog 5 280 Rows.laid_caissa_ray_straight).map (·.map AV.s) = some rw12 := by kernel_rfl
theorem held_dat {w : World} {enc : TypeId × Value → Unit} {spare : Nat → Bool} {held : Bool} {nm : String} {g g' : Nat} {t t' : TypeId} {cs : Array Value} {fuel : Nat} {d : DataW Unit} {ps : List MemPlace} {row : List AV} (hn : Tryz.prog.globalNamed nm = some g) (ht : (Tryz.prog.globals[g]?).map (·.type) = some t) (hc : (datCells Tryz.prog 5 t d).map (·.map AV.s) = some row)
    (hg : Tryz.prog.globalNamed nm = some g') (ht' : (Tryz.prog.globals[g']?).map (·.type) = some t') (hv : w.var? Tryz.prog nm = some cs) (hd : DataW.trod enc Tryz.prog w 0 spare held fuel t' cs.toList = some (d, ps)) : Held w g row := by
  obtain rfl := Option.some.inj (hn.symm.trans hg)
  obtain rfl := Option.some.inj (ht.symm.trans ht')
  obtain ⟨vs, hvs, rfl⟩ := Option.map_eq_some_iff.1 hc
  exact Held.of_dat hg hv hd hvs rfl
theorem held_err {w : World} {enc : TypeId × Value → Unit} {spare : Nat → Bool} {held : Bool} {nm nt : String} {g g' : Nat} {t' : TypeId} {cs : Array Value} {fuel : Nat} {d : DataW Unit} {ps : List MemPlace} (hn : Tryz.prog.globalNamed nm = some g) (ht : (Tryz.prog.globals[g]?).map (·.type) = some 97)
    (hg : Tryz.prog.globalNamed nm = some g') (ht' : (Tryz.prog.globals[g']?).map (·.type) = some t') (hv : w.var? Tryz.prog nm = some cs) (hd : DataW.trod enc Tryz.prog w 0 spare held fuel t' cs.toList = some (.iface nt d, ps)) : ∃ v, Held w g [.s v] ∧ (v = .nilIface ∨ ∃ te pe, v = .iface te pe) := by
  obtain rfl := Option.some.inj (hn.symm.trans hg)
  obtain rfl := Option.some.inj (ht.symm.trans ht')
  exact Held.of_err hg hv Tryz.underlying97 hd
theorem held_max {w : World} (hs : w.ShapedOpen Tryz.prog) : ∃ m, Held w 1 [.s (.int .i64 m)] := by
  obtain ⟨m, hm⟩ := Go.Proofs.cell_of_shapedOpen_int (g := 1) (zero := #[.int .i64 0]) (t := 3) hs (of_decide_eq_true (by kernel_rfl)) (by kernel_rfl) rfl (by kernel_rfl) (by kernel_rfl) Tryz.underlying3
  obtain ⟨cs, hh, hsz, _⟩ := hs.1 1 #[.int .i64 0] 3 (of_decide_eq_true (by kernel_rfl)) (by kernel_rfl)
  refine ⟨m, [.int .i64 m], rfl, cs, 3, _, hh, ?_⟩
  have h1 : cs.size = 1 := hsz
  simp only [World.cell?, hh] at hm
  obtain ⟨l⟩ := cs
  match l, h1 with
  | [v], _ => simpa using hm
theorem of_laid {W : World} (h : laidMetH Tryz.prog laidT W) (hs : W.ShapedOpen Tryz.prog) : ∃ m e2 e3, GlOk (memOf W) (fun _ => none) (glK m e2 e3) ∧ (e2 = .nilIface ∨ ∃ te pe, e2 = .iface te pe) ∧ (e3 = .nilIface ∨ ∃ te pe, e3 = .iface te pe) := by
  rw [MakeChecks.laidMetH_plain _ _ _ (by kernel_rfl)] at h
  obtain ⟨ps, ⟨_, _, _, _, _, _, hg0, ht0, hv0, hd0, ⟨_, _, _, _, _, _, hg8, ht8, hv8, hd8, ⟨_, _, _, _, _, _, hg9, ht9, hv9, hd9, ⟨_, _, _, _, _, _, hg5, ht5, hv5, hd5, ⟨_, _, _, _, _, _, _, _, _, _, ⟨_, _, _, _, _, _, hg12, ht12, hv12, hd12, ⟨_, _, _, _, _, _, hg11, ht11, hv11, hd11, ⟨_, _, _, _, _, _, hg10, ht10, hv10, hd10, ⟨_, _, _, _, _, _, hg3, ht3, hv3, hd3, ⟨_, _, _, _, _, _, hg2, ht2, hv2, hd2, ⟨_, _, _, _, _, _, hg4, ht4, hv4, hd4, _, _⟩, _⟩, _⟩, _⟩, _⟩, _⟩, _⟩, _⟩, _⟩, _⟩, _⟩, _, _⟩ := h
  have k0 := held_dat gn0 gt0 dc0 hg0 ht0 hv0 hd0
  have k8 := held_dat gn8 gt8 dc8 hg8 ht8 hv8 hd8
  have k9 := held_dat gn9 gt9 dc9 hg9 ht9 hv9 hd9
  have k5 := held_dat gn5 gt5 dc5 hg5 ht5 hv5 hd5
  have k12 := held_dat gn12 gt12 dc12 hg12 ht12 hv12 hd12
  have k11 := held_dat gn11 gt11 dc11 hg11 ht11 hv11 hd11
  have k10 := held_dat gn10 gt10 dc10 hg10 ht10 hv10 hd10
  have k4 := held_dat gn4 gt4 dc4 hg4 ht4 hv4 hd4
  obtain ⟨e3, k3, q3⟩ := held_err gn3 gt3 hg3 ht3 hv3 hd3
  obtain ⟨e2, k2, q2⟩ := held_err gn2 gt2 hg2 ht2 hv2 hd2
  obtain ⟨m, k1⟩ := held_max hs
  refine ⟨m, e2, e3, fun g row hr => ?_, q2, q3⟩
  have hr' : rowsR m e2 e3 g = some row := hr
  unfold rowsR at hr'
  split at hr' <;> cases hr'
  · exact k0.mem
  · exact k1.mem
  · exact k2.mem
  · exact k3.mem
  · exact k4.mem
  · exact k5.mem
  · exact k8.mem
  · exact k9.mem
  · exact k10.mem
  · exact k11.mem
  · exact k12.mem
theorem own : ownKnob Tryz.prog.godebug = none := by kernel_rfl
theorem laidOut : laidOutB Tryz.prog = true := by kernel_rfl
theorem run_of {m : Int} {e2 e3 : Value} {f : FuncId} {args : List AV} (h : FnC Tryz.prog (glK m e2 e3) f args [] (fun v Hn => v = .s (.bool true) ∧ Hn = [])) : ∃ n σ, runCall Tryz.prog (glK m e2 e3) n f args = some (.s (.bool true), σ) := by
  obtain ⟨n, v, σ, h1, Hn, _, _, rfl, _⟩ := wpf_run (h ⟨.e, 0, none⟩ (.start rfl (fun id _ => by simp [Tr.get_e]) List.nodup_nil (fun p hp => by cases hp)))
  exact ⟨n, σ, h1⟩
theorem shaped_wit (os : Os) : (World.laidAll Tryz.prog os laidT).Shaped Tryz.prog := World.shaped_of_ZipB (by kernel_rfl) (by kernel_rfl)
theorem met_wit (os : Os) (args : Array Value) : laidMetH Tryz.prog laidT ((World.laidAll Tryz.prog os laidT).forCall (fun _ _ => 0) ⟨#[], args, []⟩).memory := by
  rw [MakeChecks.laidMetH_plain _ _ _ (by kernel_rfl)]; exact laidMet_laidAll _ (by kernel_rfl) (by kernel_rfl)
end Go.Proofs.YtnhnlkljcfbhfaaGreatDoor
