/- The law TournamentNone holds: for all numbers white and points, called with the listed tables as the program's text lays them, it returns true, and its arguments read as before. -/
import Derived.Test.YthdgpkhljpfpiaaGreatDoorRun
import Derived.Test.YthdgpkhljpfpiaaGreatDoorCards
import Derived.Test.YthdgpkhljpfpiaaGreatDoorTie
import Derived.LaidMore
import Derived.Stop.Joined
import Derived.SevenTiedAt
namespace Go.Proofs.YthdgpkhljpfpiaaGreatDoor
open Go Go.Ab Go.ChangeShapes Go.WideShapes Go.ChangeAt Go.WideElems Go.RowKit

theorem own : ownKnob Tryz.prog.godebug = none := by kernel_rfl
theorem g32 : Tryz.prog.globalNamed "math/bits.deBruijn32tab" = some 0 := by kernel_rfl
theorem g64 : Tryz.prog.globalNamed "math/bits.deBruijn64tab" = some 1 := by kernel_rfl
theorem gLim : Tryz.prog.globalNamed "caissa/rating.limits" = some 2 := by kernel_rfl
def laid3 : List (String × DataW Unit) := [("math/bits.deBruijn32tab", Rows.laid_math_bits_deBruijn32tab), ("math/bits.deBruijn64tab", Rows.laid_math_bits_deBruijn64tab), ("caissa/rating.limits", Rows.laid_caissa_rating_limits)]
theorem t32 : isArr Tryz.prog 32 .u8 (typeOf Tryz.prog 0) = true := by kernel_rfl
theorem t64 : isArr Tryz.prog 64 .u8 (typeOf Tryz.prog 1) = true := by kernel_rfl
theorem tLim : isArr Tryz.prog 42 .i64 (typeOf Tryz.prog 2) = true := by kernel_rfl

theorem door_met (os : Os) (args : Array Value) : laidMetH Tryz.prog laid3 ((World.doorLaid Tryz.prog 400 os).forCall (fun _ _ => 0) ⟨#[], args, []⟩).memory :=
  laidMetH_of_parts3 (fuel := 8) (laidMet_of_run' 8 (by kernel_rfl) (by kernel_rfl)) (by kernel_rfl) (by kernel_rfl)

theorem of_laid {W : World} (h : laidMetH Tryz.prog laid3 W) : GlOk (memOf W) (fun _ => none) tabs := by
  rw [MakeChecks.laidMetH_plain _ _ _ (by kernel_rfl)] at h
  obtain ⟨ps, ⟨g0, t0, cs0, f0, p0, q0, hg0, ht0, hv0, hd0, ⟨g1, t1, cs1, f1, p1, q1, hg1, ht1, hv1, hd1, ⟨g2, t2, cs2, f2, p2, q2, hg2, ht2, hv2, hd2, _, _⟩, _⟩, _⟩, _, _⟩ := h
  obtain rfl := Option.some.inj (g32.symm.trans hg0)
  obtain rfl := Option.some.inj (g64.symm.trans hg1)
  obtain rfl := Option.some.inj (gLim.symm.trans hg2)
  obtain ⟨e0, a0, b0, c0, d0⟩ := isArr_spec (typeOf_eq ht0 ▸ t32)
  obtain ⟨e1, a1, b1, c1, d1⟩ := isArr_spec (typeOf_eq ht1 ▸ t64)
  obtain ⟨e2, a2, b2, c2, d2⟩ := isArr_spec (typeOf_eq ht2 ▸ tLim)
  intro g row hr
  match g, hr with
  | 0, hr =>
    cases hr
    exact table_mem (ns := [0, 1, 28, 2, 29, 14, 24, 3, 30, 22, 20, 15, 25, 17, 4, 8, 31, 27, 13, 23, 21, 19, 16, 7, 26, 12, 18, 6, 11, 5, 10, 9]) hg0 hv0 a0 b0 c0 d0 hd0 rfl
  | 1, hr =>
    cases hr
    exact table_mem (ns := [0, 1, 56, 2, 57, 49, 28, 3, 61, 58, 42, 50, 38, 29, 17, 4, 62, 47, 59, 36, 45, 43, 51, 22, 53, 39, 33, 30, 24, 18, 12, 5, 63, 55, 48, 27, 60, 41, 37, 16, 46, 35, 44, 21, 52, 32, 23, 11, 54, 26, 40, 15, 34, 20, 31, 10, 25, 14, 19, 9, 13, 8, 7, 6]) hg1 hv1 a1 b1 c1 d1 hd1 rfl
  | 2, hr =>
    cases hr
    exact table_mem (ns := [3, 10, 17, 25, 32, 39, 46, 53, 61, 68, 76, 83, 91, 98, 106, 113, 121, 129, 137, 145, 153, 162, 170, 179, 188, 197, 206, 215, 225, 235, 245, 256, 267, 278, 290, 302, 315, 328, 344, 357, 374, 391]) hg2 hv2 a2 b2 c2 d2 hd2 rfl
  | n + 3, hr => cases hr

theorem law_some (white points : Int) : ∃ σ, runCall Tryz.prog tabs 400 3 [.s (.int .i64 white), .s (.int .i64 points)] = some (.s (.bool true), σ) := by
  have h := law_run white points
  generalize runCall Tryz.prog tabs 400 3 [.s (.int .i64 white), .s (.int .i64 points)] = r at h
  unfold isTrue at h
  split at h
  · exact ⟨_, rfl⟩
  · cases h
theorem given : Given Tryz.prog tabs := Given.none _
theorem laidOut : laidOutB Tryz.prog = true := by kernel_rfl
theorem law_spec : LawSpec Rows.tournamentNoneSpec 2 := ⟨rfl, fun H ds hl => by
  match ds, hl with
  | [d1, d2], _ => exact ⟨rfl, rfl, rfl⟩⟩
theorem readable3 : (Tryz.prog.readableRec 3 && decide (3 < Tryz.prog.types.size)) = true := by kernel_rfl

set_option maxRecDepth 100000 in
theorem lifted (os : Os) (started : os.Started) (H : Type) (enc : TypeId × Value → H) :
    ReturnsInHanded {} Tryz.checked os 3 .any (fun w args => (Rows.tournamentNoneSpec.pre enc Tryz.prog Tryz.f3 [] false w args ∧ laidMetH Tryz.prog laid3 w) ∧ sizedMet enc Tryz.prog Tryz.f3 (OpenSpec.ofChange Rows.tournamentNoneSpec) false w args)
      (Rows.tournamentNoneSpec.post enc Tryz.prog Tryz.f3 false true false false) := by
  refine returnsInHanded_of_change_and (C := Tryz.checked) (X := fun w _ => laidMetH Tryz.prog laid3 w) (fun _ _ _ hh h => h.of_heap hh) own started (by kernel_rfl) Tryz.func3
    (ChangeSpec.witness_shaped (enc := enc) (C := Tryz.checked) (os := os) (X := fun w _ => laidMetH Tryz.prog laid3 w) false (World.doorLaid Tryz.prog 400 os) #[.int .i64 0, .int .i64 0] 8 rfl (World.shaped_of_RefB (by kernel_rfl) (by kernel_rfl)) (by kernel_rfl) (by kernel_rfl) (by kernel_rfl) (door_met os _)) ?_
  intro W base args ds gs before hval0 hW _ _ hL _
  have hval : ∀ (j : Nat) t v, Tryz.f3.params[j]? = some t → args[j]? = some v → Value.okWide Tryz.prog W .any base t v := hval0
  have hW' := hW
  obtain ⟨p, q, hA0, hV, rfl, hfz, hnd⟩ := hW
  have hA : DataW.TrodAll enc Tryz.prog W 0 (fun _ => true) true Tryz.f3.params.toList args.toList ds p := hA0
  rw [Tryz.params3] at hA hval
  obtain ⟨v0, v1, d0, d1, p0, p1, rfl, rfl, rfl, h0, h1⟩ := trodAll_two hA
  obtain ⟨white, rfl, rfl, rfl, w0⟩ := open_int Tryz.underlying3 (hval 0 3 v0 rfl rfl) h0
  obtain ⟨points, rfl, rfl, rfl, w1⟩ := open_int Tryz.underlying3 (hval 1 3 v1 rfl rfl) h1
  obtain ⟨σ, hrun⟩ := law_some white points
  have hr3 := readable3
  simp only [Bool.and_eq_true, decide_eq_true_eq] at hr3
  refine (run_law fit given hrun (of_laid hL) (.cons (.s _) (.cons (.s _) .nil))).mono fun e W' ⟨ρ, σ, he, hrep⟩ => ⟨_, he, ?_⟩
  refine law_post (f := Tryz.f3) (by rw [Tryz.params3]; exact law_spec) laidOut (fun t ht => ?_) (bt := 4) rfl Tryz.underlying4 hW' hrep
  rw [Tryz.params3] at ht
  have : t = 3 := by simpa using ht
  subst this
  exact hr3

theorem law_row : Rows.TournamentNoneSaid :=
  OpenClaim.holds_of_wide 3 Tryz.f3 rfl rfl rfl rfl rfl rfl rfl ⟨rfl, rfl, rfl, rfl, rfl⟩ rfl rfl rfl rfl rfl (by kernel_rfl) Tryz.func3 (by kernel_rfl)
    (of_decide_eq_true (by kernel_rfl)) (by unfold Func.isWrapper; first | (rw [if_pos (by decide +kernel)]; kernel_rfl) | (rw [if_neg (by decide +kernel)]; exact ⟨rfl, rfl⟩))
    (fun os started H enc _ => lifted os started H enc)

/-- The card. -/
theorem card_holds : Rows.TournamentNoneCardSaid :=
  Claim7.holds_tied_plain_at .later [] [.data, .data, .data] true (true, "0304c684369f57ea9bed6fceace8d953276e7693ecb70c0995640c66b3131e31") false
    law_row (fun _ h => by cases h) (by kernel_rfl) (fun _ h => by cases h) tournamentNone_row_tie rfl ⟨rfl, rfl⟩ (by kernel_rfl) rfl
    (fun f fn hf hfn => by
      obtain rfl : f = 3 := Option.some.inj ((show Tryz.prog.funcNamed "caissa/caissalaw46.TournamentNone" = some 3 by kernel_rfl).symm.trans hf) |>.symm
      obtain rfl : fn = Tryz.f3 := (Option.some.inj (Tryz.func3.symm.trans hfn)).symm
      exact ⟨by kernel_rfl, fun j t ht => by
        rw [Tryz.params3] at ht
        have hm : t ∈ [3, 3] := by simpa using Array.mem_of_getElem? ht
        have hall : ([3, 3].all fun u => !Tryz.prog.wantsStandIn u) = true := by kernel_rfl
        exact (show Tryz.prog.wantsStandIn t = false by simpa using List.all_eq_true.1 hall t hm)⟩)
    (by kernel_rfl)
#print axioms card_holds
end Go.Proofs.YthdgpkhljpfpiaaGreatDoor
