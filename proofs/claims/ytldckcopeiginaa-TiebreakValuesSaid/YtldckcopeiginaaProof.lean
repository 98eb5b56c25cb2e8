/- The law TiebreakValues holds: for every number of players, all rounds, every kind and every player it returns true, and its arguments read as before. -/
import Derived.Test.YtldckcopeiginaaZe
import Derived.Stop.Joined
import Derived.SevenTiedAt
import Derived.ProofKit
namespace Go.Proofs.Ytldckcopeiginaa
open Go Go.Ab Go.ChangeShapes Go.WideShapes Go.ChangeAt Go.WideElems Go.RowKit

theorem spec4 : LawSpec Rows.tiebreakValuesSpec 4 := ⟨rfl, fun H ds hl => by
  match ds, hl with
  | [d1, d2, d3, d4], _ => exact ⟨rfl, rfl, rfl⟩⟩
theorem readable_4 : ([3, 22, 32, 3].all fun t => Try.prog.readableRec t && decide (t < Try.prog.types.size)) = true := by kernel_rfl
theorem desc32 : Try.prog.underlying 32 = some (.int .i64) := by kernel_rfl

set_option maxRecDepth 100000 in
theorem lifted4 (os : Os) (started : os.Started) (H : Type) (enc : TypeId × Value → H) :
    ReturnsInHanded {} Try.checked os 4 .any (Rows.tiebreakValuesSpec.pre6 enc Try.prog Try.f4 Rows.tiebreakValuesRow.domain false) (Rows.tiebreakValuesSpec.post enc Try.prog Try.f4 false true false false) := by
  refine returnsInHanded_of_change (C := Try.checked) own started (by kernel_rfl) Try.func4
    (ChangeSpec.witness6 (enc := enc) (C := Try.checked) false ⟨#[], #[.int .i64 0, .slice none 0 0, .int .i64 0, .int .i64 0], []⟩ 8 (by kernel_rfl) (by kernel_rfl) (by kernel_rfl) (by kernel_rfl)) ?_
  intro W base args ds gs before hval0 hW _ _
  have hval : ∀ (j : Nat) t v, Try.f4.params[j]? = some t → args[j]? = some v → Value.okWide Try.prog W .any base t v := hval0
  have hW' := hW
  obtain ⟨p, q, hA0, hV, rfl, hfz, hnd⟩ := hW
  have hA : DataW.TrodAll enc Try.prog W 0 (fun _ => true) true Try.f4.params.toList args.toList ds p := hA0
  rw [Try.params4] at hA hval
  obtain ⟨v0, vs0, d0, ds0, p0, q0, ha0, rfl, rfl, h0, hA1⟩ := trodAll_cons hA
  obtain ⟨v1, vs1, d1, ds1, p1, q1, rfl, rfl, rfl, h1, hA2⟩ := trodAll_cons hA1
  obtain ⟨v2, vs2, d2, ds2, p2, q2, rfl, rfl, rfl, h2, hA3⟩ := trodAll_cons hA2
  obtain ⟨v3, vs3, d3, ds3, p3, q3, rfl, rfl, rfl, h3, hA4⟩ := trodAll_cons hA3
  obtain ⟨rfl, rfl, rfl⟩ := trodAll_nil hA4
  obtain rfl : args = #[v0, v1, v2, v3] := by cases args; simp_all
  obtain ⟨n, rfl, rfl, rfl, w0⟩ := open_int desc3 (hval 0 3 v0 rfl rfl) h0
  obtain ⟨k, rfl, rfl, rfl, w2⟩ := open_int desc32 (hval 2 32 v2 rfl rfl) h2
  obtain ⟨i, rfl, rfl, rfl, w3⟩ := open_int desc3 (hval 3 3 v3 rfl rfl) h3
  obtain ⟨a, hc, hty⟩ := open_one desc22 plain22 (hval 1 22 v1 rfl rfl) h1
  obtain ⟨rs, xs, hrv⟩ := ty_rounds hty
  obtain ⟨m, σ, hrun⟩ := run_of (law4_fn hrv n k i)
  have hr4 := readable_4
  refine (run_law fit given9 hrun (fun _ _ hr => by cases hr) (.cons (.s _) (.cons hc (.cons (.s _) (.cons (.s _) .nil))))).mono fun e W' ⟨ρ, σ, he, hrep⟩ => ⟨_, he, ?_⟩
  refine law_post (f := Try.f4) (by rw [Try.params4]; exact spec4) laidOut (fun t ht => ?_) (bt := 4) rfl (by kernel_rfl) hW' hrep
  rw [Try.params4] at ht
  have := List.all_eq_true.1 hr4 t (by simpa using ht)
  simpa only [Bool.and_eq_true, decide_eq_true_eq] using this

theorem tiebreakValues_holds : Rows.TiebreakValuesSaid :=
  OpenClaim.holds_of_wide 4 Try.f4 rfl rfl rfl rfl rfl rfl rfl ⟨rfl, rfl, rfl, rfl, rfl⟩ rfl rfl rfl rfl rfl (by kernel_rfl) Try.func4 (by kernel_rfl)
    (of_decide_eq_true (by kernel_rfl)) (by unfold Func.isWrapper; first | (rw [if_pos (by decide +kernel)]; kernel_rfl) | (rw [if_neg (by decide +kernel)]; exact ⟨rfl, rfl⟩))
    (fun os started H enc _ => lifted4 os started H enc)
#print axioms tiebreakValues_holds
end Go.Proofs.Ytldckcopeiginaa
