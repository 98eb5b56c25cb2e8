/- The law TiebreakFields holds: for all names, ratings and rounds it returns true, and its arguments read as before. -/
import Derived.Test.YtldckcopeiginaaZf
import Derived.Test.YtldckcopeiginaaZe
import Derived.Test.YtldckcopeiginaaZd
import Derived.Stop.Joined
import Derived.SevenTiedAt
import Derived.ProofKit
namespace Go.Proofs.Ytldckcopeiginaa
open Go Go.Ab Go.ChangeShapes Go.WideShapes Go.ChangeAt Go.WideElems Go.RowKit

theorem spec7 : LawSpec Rows.tiebreakFieldsSpec 3 := ⟨rfl, fun H ds hl => by
  match ds, hl with
  | [d1, d2, d3], _ => exact ⟨rfl, rfl, rfl⟩⟩
theorem readable_7 : ([49, 25, 22].all fun t => Try.prog.readableRec t && decide (t < Try.prog.types.size)) = true := by kernel_rfl
theorem plain49 : plainTy Try.prog 8 49 = true := by kernel_rfl
theorem plain25 : plainTy Try.prog 8 25 = true := by kernel_rfl
theorem desc49 : Try.prog.underlying 49 = some (.slice 9) := by kernel_rfl
theorem desc25 : Try.prog.underlying 25 = some (.slice 3) := by kernel_rfl
theorem desc9 : Try.prog.underlying 9 = some .string := by kernel_rfl
theorem co9 : Try.prog.cellsOf 9 = 1 := by kernel_rfl
theorem ty_strs {a : AV} (h : Ty Try.prog 49 [a]) : ∃ xs : List ByteArray, SlV 1 a (strs xs) ∧ xs.length ≤ 9223372036854775807 ∧ ∀ x ∈ xs, x.size ≤ 9223372036854775807 := by
  obtain ⟨l, rows, hl2, hsl, hrows, hbig⟩ := h.slice_inv desc49
  cases hl2
  rw [co9] at hsl hrows
  obtain ⟨xs, rfl⟩ := rows_form (Q := fun r => r.length = 1 ∧ Ty Try.prog 9 r) (F := fun p : ByteArray => [AV.s (.string p)]) (fun r hr => by
    obtain ⟨n, hn, -⟩ := hr.2.str_inv desc9
    exact ⟨n, hn⟩) rows hrows
  refine ⟨xs, hsl.v, by rwa [List.length_map] at hbig, fun x hx => ?_⟩
  obtain ⟨n, hn, hle⟩ := (hrows [AV.s (.string x)] (List.mem_map.2 ⟨x, hx, rfl⟩)).2.str_inv desc9
  cases hn
  exact hle
theorem ty_nums {a : AV} (h : Ty Try.prog 25 [a]) : ∃ xs : List Int, SlV 1 a (ints xs) ∧ xs.length ≤ 9223372036854775807 := by
  obtain ⟨l, rows, hl2, hsl, hrows, hbig⟩ := h.slice_inv desc25
  cases hl2
  rw [cells3i] at hsl hrows
  obtain ⟨xs, rfl⟩ := rows_form (Q := fun r => r.length = 1 ∧ Ty Try.prog 3 r) (F := fun p : Int => [AV.s (.int .i64 p)]) (fun r hr => by
    obtain ⟨n, hn, -⟩ := hr.2.int_inv desc3
    exact ⟨n, hn⟩) rows hrows
  exact ⟨xs, hsl.v, by rwa [List.length_map] at hbig⟩
theorem run_f {f : FuncId} {args : List AV} (h : FnC Try.prog glf f args [] (fun v Hn => v = .s (.bool true) ∧ Hn = [])) : ∃ n σ, runCall Try.prog glf n f args = some (.s (.bool true), σ) := by
  obtain ⟨n, v, σ, h1, Hn, _, _, rfl, _⟩ := wpf_run (h ⟨.e, 0, none⟩ (.start rfl (fun id _ => by simp [Tr.get_e]) List.nodup_nil (fun p hp => by cases hp)))
  exact ⟨n, σ, h1⟩
set_option maxRecDepth 100000 in
theorem lifted7 (os : Os) (started : os.Started) (H : Type) (enc : TypeId × Value → H) :
    ReturnsInHanded {} Try.checked os 7 .any (Rows.tiebreakFieldsSpec.pre6 enc Try.prog Try.f7 Rows.tiebreakFieldsRow.domain false) (Rows.tiebreakFieldsSpec.post enc Try.prog Try.f7 false true false false) := by
  refine returnsInHanded_of_change (C := Try.checked) own started (by kernel_rfl) Try.func7
    (ChangeSpec.witness6 (enc := enc) (C := Try.checked) false ⟨#[], #[.slice none 0 0, .slice none 0 0, .slice none 0 0], []⟩ 8 (by kernel_rfl) (by kernel_rfl) (by kernel_rfl) (by kernel_rfl)) ?_
  intro W base args ds gs before hval0 hW _ _
  have hval : ∀ (j : Nat) t v, Try.f7.params[j]? = some t → args[j]? = some v → Value.okWide Try.prog W .any base t v := hval0
  have hW' := hW
  obtain ⟨p, q, hA0, hV, rfl, hfz, hnd⟩ := hW
  have hA : DataW.TrodAll enc Try.prog W 0 (fun _ => true) true Try.f7.params.toList args.toList ds p := hA0
  rw [Try.params7] at hA hval
  obtain ⟨v0, vs0, d0, ds0, p0, q0, ha0, rfl, rfl, h0, hA1⟩ := trodAll_cons hA
  obtain ⟨v1, vs1, d1, ds1, p1, q1, rfl, rfl, rfl, h1, hA2⟩ := trodAll_cons hA1
  obtain ⟨v2, vs2, d2, ds2, p2, q2, rfl, rfl, rfl, h2, hA3⟩ := trodAll_cons hA2
  obtain ⟨rfl, rfl, rfl⟩ := trodAll_nil hA3
  obtain rfl : args = #[v0, v1, v2] := by cases args; simp_all
  obtain ⟨na, hcn, htn⟩ := open_one desc49 plain49 (hval 0 49 v0 rfl rfl) h0
  obtain ⟨names, hns, hnl, hnb⟩ := ty_strs htn
  obtain ⟨ra, hcr, htr⟩ := open_one desc25 plain25 (hval 1 25 v1 rfl rfl) h1
  obtain ⟨ratings, hrs, hrl⟩ := ty_nums htr
  obtain ⟨rv, hc, hty⟩ := open_one desc22 plain22 (hval 2 22 v2 rfl rfl) h2
  obtain ⟨rs, xs, hrv⟩ := ty_rounds hty
  obtain ⟨k, σ, hrun⟩ := run_f (law7_fn hns hrs hrv hnl hrl hnb)
  have hr7 := readable_7
  refine (run_law fit givenf hrun (fun _ _ hr => by cases hr) (.cons hcn (.cons hcr (.cons hc .nil)))).mono fun e W' ⟨ρ, σ, he, hrep⟩ => ⟨_, he, ?_⟩
  refine law_post (f := Try.f7) (by rw [Try.params7]; exact spec7) laidOut (fun t ht => ?_) (bt := 4) rfl (by kernel_rfl) hW' hrep
  rw [Try.params7] at ht
  have := List.all_eq_true.1 hr7 t (by simpa using ht)
  simpa only [Bool.and_eq_true, decide_eq_true_eq] using this

theorem tiebreakFields_holds : Rows.TiebreakFieldsSaid :=
  OpenClaim.holds_of_wide 7 Try.f7 rfl rfl rfl rfl rfl rfl rfl ⟨rfl, rfl, rfl, rfl, rfl⟩ rfl rfl rfl rfl rfl (by kernel_rfl) Try.func7 (by kernel_rfl)
    (of_decide_eq_true (by kernel_rfl)) (by unfold Func.isWrapper; first | (rw [if_pos (by decide +kernel)]; kernel_rfl) | (rw [if_neg (by decide +kernel)]; exact ⟨rfl, rfl⟩))
    (fun os started H enc _ => lifted7 os started H enc)
#print axioms tiebreakFields_holds
end Go.Proofs.Ytldckcopeiginaa
