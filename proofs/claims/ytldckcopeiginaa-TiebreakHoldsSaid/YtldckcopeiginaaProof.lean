/- The law TiebreakHolds holds: for every number of players, all rounds, kinds and indexes it returns true, and its arguments read as before. -/
import Derived.Test.YtldckcopeiginaaZg
import Derived.Test.YtldckcopeiginaaZf
import Derived.Stop.Joined
import Derived.SevenTiedAt
import Derived.ProofKit
namespace Go.Proofs.Ytldckcopeiginaa
open Go Go.Ab Go.ChangeShapes Go.WideShapes Go.ChangeAt Go.WideElems Go.RowKit

theorem spec6 : LawSpec Rows.tiebreakHoldsSpec 6 := ⟨rfl, fun H ds hl => by
  match ds, hl with
  | [d1, d2, d3, d4, d5, d6], _ => exact ⟨rfl, rfl, rfl⟩⟩
theorem readable_6 : ([3, 22, 37, 32, 5].all fun t => Try.prog.readableRec t && decide (t < Try.prog.types.size)) = true := by kernel_rfl

theorem desc5 : Try.prog.underlying 5 = some (.int .u8) := by kernel_rfl
theorem u8_bd {a : Int} (h : (Lit.int .u8 a).wf = true) : 0 ≤ a ∧ a ≤ 255 := by
  have h' : IntKind.u8.min ≤ a ∧ a ≤ IntKind.u8.max := by simpa [Lit.wf] using h
  exact h'
theorem run_of' {G : Gl} {f : FuncId} {args : List AV} (h : FnC Try.prog G f args [] (fun v Hn => v = .s (.bool true) ∧ Hn = [])) : ∃ n σ, runCall Try.prog G n f args = some (.s (.bool true), σ) := run15 h
set_option maxRecDepth 100000 in
theorem lifted6 (os : Os) (started : os.Started) (H : Type) (enc : TypeId × Value → H) :
    ReturnsInHanded {} Try.checked os 6 .any (Rows.tiebreakHoldsSpec.pre6 enc Try.prog Try.f6 Rows.tiebreakHoldsRow.domain false) (Rows.tiebreakHoldsSpec.post enc Try.prog Try.f6 false true false false) := by
  refine returnsInHanded_of_change (C := Try.checked) own started (by kernel_rfl) Try.func6
    (ChangeSpec.witness6 (enc := enc) (C := Try.checked) false ⟨#[], #[.int .i64 0, .slice none 0 0, .slice none 0 0, .int .i64 0, .int .u8 0, .int .u8 0], []⟩ 8 (by kernel_rfl) (by kernel_rfl) (by kernel_rfl) (by kernel_rfl)) ?_
  intro W base args ds gs before hval0 hW _ _
  have hval : ∀ (j : Nat) t v, Try.f6.params[j]? = some t → args[j]? = some v → Value.okWide Try.prog W .any base t v := hval0
  have hW' := hW
  obtain ⟨p, q, hA0, hV, rfl, hfz, hnd⟩ := hW
  have hA : DataW.TrodAll enc Try.prog W 0 (fun _ => true) true Try.f6.params.toList args.toList ds p := hA0
  rw [Try.params6] at hA hval
  obtain ⟨v0, vs0, d0, ds0, p0, q0, ha0, rfl, rfl, h0, hA1⟩ := trodAll_cons hA
  obtain ⟨v1, vs1, d1, ds1, p1, q1, rfl, rfl, rfl, h1, hA2⟩ := trodAll_cons hA1
  obtain ⟨v2, vs2, d2, ds2, p2, q2, rfl, rfl, rfl, h2, hA3⟩ := trodAll_cons hA2
  obtain ⟨v3, vs3, d3, ds3, p3, q3, rfl, rfl, rfl, h3, hA4⟩ := trodAll_cons hA3
  obtain ⟨v4, vs4, d4, ds4, p4, q4, rfl, rfl, rfl, h4, hA5⟩ := trodAll_cons hA4
  obtain ⟨v5, vs5, d5, ds5, p5, q5, rfl, rfl, rfl, h5, hA6⟩ := trodAll_cons hA5
  obtain ⟨rfl, rfl, rfl⟩ := trodAll_nil hA6
  obtain rfl : args = #[v0, v1, v2, v3, v4, v5] := by cases args; simp_all
  obtain ⟨n, rfl, rfl, rfl, w0⟩ := open_int desc3 (hval 0 3 v0 rfl rfl) h0
  obtain ⟨more, rfl, rfl, rfl, w3⟩ := open_int desc32 (hval 3 32 v3 rfl rfl) h3
  obtain ⟨a, rfl, rfl, rfl, w4⟩ := open_int desc5 (hval 4 5 v4 rfl rfl) h4
  obtain ⟨b, rfl, rfl, rfl, w5⟩ := open_int desc5 (hval 5 5 v5 rfl rfl) h5
  obtain ⟨ra, hc, hty⟩ := open_one desc22 plain22 (hval 1 22 v1 rfl rfl) h1
  obtain ⟨rs, xs, hrv⟩ := ty_rounds hty
  obtain ⟨ka, hcb, htyb⟩ := open_one desc37 plain37 (hval 2 37 v2 rfl rfl) h2
  obtain ⟨ks, hks, hkc, hkl⟩ := ty_kinds htyb
  have hr6 := readable_6
  have hpost : ∀ e W', (∃ ρ σ, e = Ending.returned (.bool true) ∧ Rep W ρ σ W') → ∃ v, e = Ending.returned v ∧ Rows.tiebreakHoldsSpec.post enc Try.prog Try.f6 false true false false W #[.int .i64 n, v1, v2, .int .i64 more, .int .u8 a, .int .u8 b] v W' := fun e W' ⟨ρ, σ, he, hrep⟩ => by
    refine ⟨_, he, ?_⟩
    refine law_post (f := Try.f6) (by rw [Try.params6]; exact spec6) laidOut (fun t ht => ?_) (bt := 4) rfl (by kernel_rfl) hW' hrep
    rw [Try.params6] at ht
    have := List.all_eq_true.1 hr6 t (by simpa using ht)
    simpa only [Bool.and_eq_true, decide_eq_true_eq] using this
  have hargs : Concs (memOf W) (fun _ => none) [.s (.int .i64 n), ra, ka, .s (.int .i64 more), .s (.int .u8 a), .s (.int .u8 b)] [.int .i64 n, v1, v2, .int .i64 more, .int .u8 a, .int .u8 b] := .cons (.s _) (.cons hc (.cons hcb (.cons (.s _) (.cons (.s _) (.cons (.s _) .nil)))))
  by_cases hall : fewB rs 12 = true ∧ rs.length ≤ 10 ∧ n ≤ 24 ∧ VOk n rs ∧ ks.length ≤ 6 ∧ KOk ks
  · obtain ⟨hfew, hr, hn24, hv, hk6, hko⟩ := hall
    obtain ⟨m, rfl⟩ : ∃ m : Nat, n = m := ⟨n.toNat, by have := hv.1; omega⟩
    obtain ⟨k, σ, hrun⟩ := run_of' (law6_good hrv hfew hr hv (by omega) hks hkc hk6 hko more a b (u8_bd w4).1 (u8_bd w4).2 (u8_bd w5).1 (u8_bd w5).2)
    exact (run_law fit (gl6_given hrv (few_all hfew) hv hr (by omega)) hrun (fun _ _ hr => by cases hr) hargs).mono hpost
  · obtain ⟨k, σ, hrun⟩ := run_of' (law6_bad hrv n hks hkl more a b hall)
    exact (run_law fit given9 hrun (fun _ _ hr => by cases hr) hargs).mono hpost

theorem tiebreakHolds_holds : Rows.TiebreakHoldsSaid :=
  OpenClaim.holds_of_wide 6 Try.f6 rfl rfl rfl rfl rfl rfl rfl ⟨rfl, rfl, rfl, rfl, rfl⟩ rfl rfl rfl rfl rfl (by kernel_rfl) Try.func6 (by kernel_rfl)
    (of_decide_eq_true (by kernel_rfl)) (by unfold Func.isWrapper; first | (rw [if_pos (by decide +kernel)]; kernel_rfl) | (rw [if_neg (by decide +kernel)]; exact ⟨rfl, rfl⟩))
    (fun os started H enc _ => lifted6 os started H enc)
#print axioms tiebreakHolds_holds
end Go.Proofs.Ytldckcopeiginaa
