/- The law TiebreakScores holds: for every number of players and all rounds it returns true, and its arguments read as before. -/
import Derived.Test.YtldckcopeiginaaLaw3
import Derived.Test.YtldckcopeiginaaIn
import Derived.Stop.Joined
import Derived.SevenTiedAt
import Derived.ProofKit
namespace Go.Proofs.Ytldckcopeiginaa
open Go Go.Ab Go.ChangeShapes Go.WideShapes Go.ChangeAt Go.WideElems Go.RowKit

theorem spec3 : LawSpec Rows.tiebreakScoresSpec 2 := ⟨rfl, fun H ds hl => by
  match ds, hl with
  | [d1, d2], _ => exact ⟨rfl, rfl, rfl⟩⟩
theorem readable_3 : ([3, 22].all fun t => Try.prog.readableRec t && decide (t < Try.prog.types.size)) = true := by kernel_rfl

set_option maxRecDepth 100000 in
theorem lifted3 (os : Os) (started : os.Started) (H : Type) (enc : TypeId × Value → H) :
    ReturnsInHanded {} Try.checked os 3 .any (Rows.tiebreakScoresSpec.pre6 enc Try.prog Try.f3 Rows.tiebreakScoresRow.domain false) (Rows.tiebreakScoresSpec.post enc Try.prog Try.f3 false true false false) := by
  refine returnsInHanded_of_change (C := Try.checked) own started (by kernel_rfl) Try.func3
    (ChangeSpec.witness6 (enc := enc) (C := Try.checked) false ⟨#[], #[.int .i64 0, .slice none 0 0], []⟩ 8 (by kernel_rfl) (by kernel_rfl) (by kernel_rfl) (by kernel_rfl)) ?_
  intro W base args ds gs before hval0 hW _ _
  have hval : ∀ (j : Nat) t v, Try.f3.params[j]? = some t → args[j]? = some v → Value.okWide Try.prog W .any base t v := hval0
  have hW' := hW
  obtain ⟨p, q, hA0, hV, rfl, hfz, hnd⟩ := hW
  have hA : DataW.TrodAll enc Try.prog W 0 (fun _ => true) true Try.f3.params.toList args.toList ds p := hA0
  rw [Try.params3] at hA hval
  obtain ⟨v0, v1, d0, d1, p0, p1, rfl, rfl, rfl, h0, h1⟩ := trodAll_two hA
  obtain ⟨n, rfl, rfl, rfl, w0⟩ := open_int desc3 (hval 0 3 v0 rfl rfl) h0
  obtain ⟨a, hc, hty⟩ := open_one desc22 plain22 (hval 1 22 v1 rfl rfl) h1
  obtain ⟨rs, xs, hrv⟩ := ty_rounds hty
  obtain ⟨k, σ, hrun⟩ := run_of (law3_fn hrv n)
  have hr3 := readable_3
  refine (run_law fit given9 hrun (fun _ _ hr => by cases hr) (.cons (.s _) (.cons hc .nil))).mono fun e W' ⟨ρ, σ, he, hrep⟩ => ⟨_, he, ?_⟩
  refine law_post (f := Try.f3) (by rw [Try.params3]; exact spec3) laidOut (fun t ht => ?_) (bt := 4) rfl (by kernel_rfl) hW' hrep
  rw [Try.params3] at ht
  have := List.all_eq_true.1 hr3 t (by simpa using ht)
  simpa only [Bool.and_eq_true, decide_eq_true_eq] using this

theorem tiebreakScores_holds : Rows.TiebreakScoresSaid :=
  OpenClaim.holds_of_wide 3 Try.f3 rfl rfl rfl rfl rfl rfl rfl ⟨rfl, rfl, rfl, rfl, rfl⟩ rfl rfl rfl rfl rfl (by kernel_rfl) Try.func3 (by kernel_rfl)
    (of_decide_eq_true (by kernel_rfl)) (by unfold Func.isWrapper; first | (rw [if_pos (by decide +kernel)]; kernel_rfl) | (rw [if_neg (by decide +kernel)]; exact ⟨rfl, rfl⟩))
    (fun os started H enc _ => lifted3 os started H enc)
#print axioms tiebreakScores_holds
end Go.Proofs.Ytldckcopeiginaa
