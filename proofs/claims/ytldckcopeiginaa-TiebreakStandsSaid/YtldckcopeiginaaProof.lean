/- The law TiebreakStands holds: for every number of players, all rounds and all kinds it returns true, and its arguments read as before. -/
import Derived.Test.YtldckcopeiginaaZf
import Derived.Stop.Joined
import Derived.SevenTiedAt
import Derived.ProofKit
namespace Go.Proofs.Ytldckcopeiginaa
open Go Go.Ab Go.ChangeShapes Go.WideShapes Go.ChangeAt Go.WideElems Go.RowKit

theorem spec5 : LawSpec Rows.tiebreakStandsSpec 3 := ⟨rfl, fun H ds hl => by
  match ds, hl with
  | [d1, d2, d3], _ => exact ⟨rfl, rfl, rfl⟩⟩
theorem readable_5 : ([3, 22, 37].all fun t => Try.prog.readableRec t && decide (t < Try.prog.types.size)) = true := by kernel_rfl
theorem desc37 : Try.prog.underlying 37 = some (.slice 32) := by kernel_rfl
theorem plain37 : plainTy Try.prog 8 37 = true := by kernel_rfl
theorem cells32 : Try.prog.cellsOf 32 = 1 := by kernel_rfl
theorem desc32 : Try.prog.underlying 32 = some (.int .i64) := by kernel_rfl

theorem nums_of : ∀ (rows : List (List AV)), (∀ r ∈ rows, Ty Try.prog 32 r) → ∃ ks : List Int, rows = ints ks
  | [], _ => ⟨[], rfl⟩
  | r :: rows, h => by
    obtain ⟨k, rfl⟩ := ty_int desc32 (h r List.mem_cons_self)
    obtain ⟨ks, rfl⟩ := nums_of rows fun r hr => h r (List.mem_cons_of_mem _ hr)
    exact ⟨k :: ks, rfl⟩
theorem ty_kinds {a : AV} (h : Ty Try.prog 37 [a]) : ∃ ks : List Int, SlV 1 a (ints ks) ∧ (∀ ad cap, a = .rsl ad 1 cap (ints ks) → ks.length ≤ cap) ∧ ks.length ≤ 9223372036854775807 := by
  cases h with
  | empty h hc => exact ⟨[], .nil, fun _ _ h => (by cases h), by simp⟩
  | rsl h hp hn hc hl hr =>
    rw [desc37] at h; cases h
    rw [cells32] at hl ⊢
    obtain ⟨ks, rfl⟩ := nums_of _ hr
    rw [ints_len] at hn
    exact ⟨ks, .rsl hp, fun ad cap h => (by cases h; exact hn), Nat.le_trans hn (le_max hc)⟩
  | int h hw => rw [desc37] at h; cases h
  | bool h => rw [desc37] at h; cases h
  | str h => rw [desc37] at h; cases h
  | struct h => rw [desc37] at h; cases h
  | array h => rw [desc37] at h; cases h

set_option maxRecDepth 100000 in
theorem lifted5 (os : Os) (started : os.Started) (H : Type) (enc : TypeId × Value → H) :
    ReturnsInHanded {} Try.checked os 5 .any (Rows.tiebreakStandsSpec.pre6 enc Try.prog Try.f5 Rows.tiebreakStandsRow.domain false) (Rows.tiebreakStandsSpec.post enc Try.prog Try.f5 false true false false) := by
  refine returnsInHanded_of_change (C := Try.checked) own started (by kernel_rfl) Try.func5
    (ChangeSpec.witness6 (enc := enc) (C := Try.checked) false ⟨#[], #[.int .i64 0, .slice none 0 0, .slice none 0 0], []⟩ 8 (by kernel_rfl) (by kernel_rfl) (by kernel_rfl) (by kernel_rfl)) ?_
  intro W base args ds gs before hval0 hW _ _
  have hval : ∀ (j : Nat) t v, Try.f5.params[j]? = some t → args[j]? = some v → Value.okWide Try.prog W .any base t v := hval0
  have hW' := hW
  obtain ⟨p, q, hA0, hV, rfl, hfz, hnd⟩ := hW
  have hA : DataW.TrodAll enc Try.prog W 0 (fun _ => true) true Try.f5.params.toList args.toList ds p := hA0
  rw [Try.params5] at hA hval
  obtain ⟨v0, vs0, d0, ds0, p0, q0, ha0, rfl, rfl, h0, hA1⟩ := trodAll_cons hA
  obtain ⟨v1, vs1, d1, ds1, p1, q1, rfl, rfl, rfl, h1, hA2⟩ := trodAll_cons hA1
  obtain ⟨v2, vs2, d2, ds2, p2, q2, rfl, rfl, rfl, h2, hA3⟩ := trodAll_cons hA2
  obtain ⟨rfl, rfl, rfl⟩ := trodAll_nil hA3
  obtain rfl : args = #[v0, v1, v2] := by cases args; simp_all
  obtain ⟨n, rfl, rfl, rfl, w0⟩ := open_int desc3 (hval 0 3 v0 rfl rfl) h0
  obtain ⟨a, hc, hty⟩ := open_one desc22 plain22 (hval 1 22 v1 rfl rfl) h1
  obtain ⟨rs, xs, hrv⟩ := ty_rounds hty
  obtain ⟨b, hcb, htyb⟩ := open_one desc37 plain37 (hval 2 37 v2 rfl rfl) h2
  obtain ⟨ks, hks, hkc, hkl⟩ := ty_kinds htyb
  obtain ⟨m, σ, hrun⟩ := run_of (law5_fn hrv n hks hkc hkl)
  have hr5 := readable_5
  refine (run_law fit given9 hrun (fun _ _ hr => by cases hr) (.cons (.s _) (.cons hc (.cons hcb .nil)))).mono fun e W' ⟨ρ, σ, he, hrep⟩ => ⟨_, he, ?_⟩
  refine law_post (f := Try.f5) (by rw [Try.params5]; exact spec5) laidOut (fun t ht => ?_) (bt := 4) rfl (by kernel_rfl) hW' hrep
  rw [Try.params5] at ht
  have := List.all_eq_true.1 hr5 t (by simpa using ht)
  simpa only [Bool.and_eq_true, decide_eq_true_eq] using this

theorem tiebreakStands_holds : Rows.TiebreakStandsSaid :=
  OpenClaim.holds_of_wide 5 Try.f5 rfl rfl rfl rfl rfl rfl rfl ⟨rfl, rfl, rfl, rfl, rfl⟩ rfl rfl rfl rfl rfl (by kernel_rfl) Try.func5 (by kernel_rfl)
    (of_decide_eq_true (by kernel_rfl)) (by unfold Func.isWrapper; first | (rw [if_pos (by decide +kernel)]; kernel_rfl) | (rw [if_neg (by decide +kernel)]; exact ⟨rfl, rfl⟩))
    (fun os started H enc _ => lifted5 os started H enc)
#print axioms tiebreakStands_holds
end Go.Proofs.Ytldckcopeiginaa
