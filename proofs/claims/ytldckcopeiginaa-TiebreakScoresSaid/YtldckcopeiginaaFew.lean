/- few and its like. -/
import Derived.Test.YtldckcopeiginaaData
namespace Go.Proofs.Ytldckcopeiginaa
open Go.Ab
attribute [local irreducible] SC SL wpc wpl wpd wpf wpy wpn FnC
set_option maxRecDepth 100000
set_option pp.deepTerms false
set_option pp.maxSteps 900
theorem List.mem_take_of_lt {α : Type} {l : List α} {k n : Nat} (h : k < l.length) (hn : k < n) : l[k] ∈ l.take n := by
  rw [List.mem_take_iff_getElem]
  exact ⟨k, by omega, rfl⟩
theorem few_fn {G : Gl} {rs : List (List Sc)} {ra : AV} {xs : List AV} (h : RV rs ra xs) (g : Int) (ho : G.orc 8 [ra, .s (.int .i64 g)] = none) :
    FnC Try.prog G 8 [ra, .s (.int .i64 g)] [] (fun v Hn => v = .s (.bool (fewB rs g)) ∧ Hn = []) := by
  have hsl := h.sl
  have hlen := h.len
  have hbig := h.big
  refine Fn_body (N := 26) ho Try.func8 rfl rfl fun B => ?_
  repeat' (first
    | refine SC_seq ?_
    | refine SC_block ?_
    | refine SC_region ?_
    | refine SL_seq ?_
    | refine SL_run (by rfl) (by rfl) ?_
    | refine SL_not (by rfl) (by rfl) (by rfl) (by decide) ?_
    | refine SL_move (by decide) (by rfl) ?_
    | refine SL_assign (by decide) (by rfl) ?_
    | refine SL_pick_t (by decide) (by rfl) (by rfl) ?_
    | refine SL_pick_f (by decide) (by rfl) (by rfl) ?_
    | refine SL_not_op (by decide) (by rfl) ?_
    | refine SL_add (by decide) (by rfl) (by rfl) (by omega) (by omega) ?_
    | refine SL_sub (by decide) (by rfl) (by rfl) (by omega) (by omega) ?_
    | (refine SL_lss (by decide) (by rfl) (by rfl) (fun hT => ?_) (fun hT => ?_) <;> first | (exfalso; omega) | skip)
    | (refine SL_leq (by decide) (by rfl) (by rfl) (fun hT => ?_) (fun hT => ?_) <;> first | (exfalso; omega) | skip)
    | (refine SL_gtr (by decide) (by rfl) (by rfl) (fun hT => ?_) (fun hT => ?_) <;> first | (exfalso; omega) | skip)
    | (refine SL_geq (by decide) (by rfl) (by rfl) (fun hT => ?_) (fun hT => ?_) <;> first | (exfalso; omega) | skip)
    | (refine SL_eql (by decide) (by rfl) (by rfl) (fun hT => ?_) (fun hT => ?_) <;> first | (exfalso; omega) | skip)
    | (refine SL_neq (by decide) (by rfl) (by rfl) (fun hT => ?_) (fun hT => ?_) <;> first | (exfalso; omega) | skip)
    | refine SL_extract_tup (by decide) (by rfl) (by rfl) ?_
    | refine SL_extract_s (by decide) (by rfl) (by rfl) ?_
    | refine SL_fieldAddr (by decide) (by rfl) (by first | exact fld46f0 | exact fld46f1 | exact fld46f2 | exact fld54f0 | exact fld54f1 | exact fld54f2 | exact fld54f3 | exact fld54f4 | exact fld54f5 | exact fld54f6 | exact fld54f7 | exact fld73f0 | exact fld73f1 | exact fld73f2) ?_
    | refine SL_fieldAddr_r (by decide) (by rfl) (by first | exact fld46f0 | exact fld46f1 | exact fld46f2 | exact fld54f0 | exact fld54f1 | exact fld54f2 | exact fld54f3 | exact fld54f4 | exact fld54f5 | exact fld54f6 | exact fld54f7 | exact fld73f0 | exact fld73f1 | exact fld73f2) ?_
    | refine SL_len_v (by decide) (by rfl) (by assumption) (by rfl) (by first | exact sl22 | exact sl25 | exact sl37 | exact sl41 | exact sl44 | exact sl49 | exact sl50 | exact sl64) (by simp only [List.length_map]; first | rfl | assumption) ?_
    | refine SL_indexAddr_v (by decide) (by rfl) (by rfl) (by assumption) (by first | exact sl22 | exact sl25 | exact sl37 | exact sl41 | exact sl44 | exact sl49 | exact sl50 | exact sl64) _ (by rfl) (by simp only [List.length_map]; omega) (fun ad => ?_)
    | refine SL_indexAddr_o (by decide) (by rfl) (by rfl) (by simp only [List.mem_cons, true_or, or_true]) (by first | exact sl22 | exact sl25 | exact sl37 | exact sl41 | exact sl44 | exact sl49 | exact sl50 | exact sl64) _ (by rfl) (by omega) ?_
    | refine SL_load_r (by decide) (by rfl) (by first | exact row3 | exact row4 | exact row9 | exact row22 | exact row25 | exact row32 | exact row37 | exact row41 | exact row44 | exact row46 | exact row49 | exact row50 | exact row54 | exact row64 | exact row73 | exact row80 | exact row81 | exact row82 | exact row84 | exact row85 | exact row107) (by assumption) (by rfl) ?_
    | refine SL_load_rr (by decide) (by rfl) (by first | exact row3 | exact row4 | exact row9 | exact row22 | exact row25 | exact row32 | exact row37 | exact row41 | exact row44 | exact row46 | exact row49 | exact row50 | exact row54 | exact row64 | exact row73 | exact row80 | exact row81 | exact row82 | exact row84 | exact row85 | exact row107) (by assumption) (by decide) (by rfl) ?_
    | refine SC_cond_t (by rfl) ?_
    | refine SC_cond_f (by rfl) ?_
    | (refine SC_exit (fun tm σ hE hH => ?_); refine SC.app ?_ hE hH)
    | (refine SC_skip' (fun tm σ hE hH => ?_); refine SC.app ?_ hE hH)
    | refine SC_ret (fun tm σ hE hH => Post.intro (Hn := []) (.inr rfl) hE hH (by rfl) trivial List.nodup_nil (fun p hp => (by cases hp)) ?_))
  refine SC_loop (fun k : Nat => [(0, ra), (1, .s (.int .i64 g)), (4, .s (.bool false)), (5, .s (.int .i64 k))]) (fun _ => []) (fun _ => []) (fun k => k ≤ rs.length ∧ k ≤ 32 ∧ ∀ gs ∈ rs.take k, (gs.length : Int) ≤ g) (fun k => rs.length - k) 0 ⟨by omega, by omega, by simp⟩ ⟨rfl, rfl, rfl, rfl, trivial⟩ trivial List.nodup_nil rfl ?_
  rintro k ⟨hk1, hk2, hk3⟩
  by_cases hlt : k < rs.length
  · obtain ⟨x, hx, hgx⟩ := h.row hlt
    unfold GV at hgx
    repeat' (first
      | refine SC_seq ?_
      | refine SC_block ?_
      | refine SC_region ?_
      | refine SL_seq ?_
      | refine SL_run (by rfl) (by rfl) ?_
      | refine SL_not (by rfl) (by rfl) (by rfl) (by decide) ?_
      | refine SL_move (by decide) (by rfl) ?_
      | refine SL_assign (by decide) (by rfl) ?_
      | refine SL_pick_t (by decide) (by rfl) (by rfl) ?_
      | refine SL_pick_f (by decide) (by rfl) (by rfl) ?_
      | refine SL_not_op (by decide) (by rfl) ?_
      | refine SL_add (by decide) (by rfl) (by rfl) (by omega) (by omega) ?_
      | refine SL_sub (by decide) (by rfl) (by rfl) (by omega) (by omega) ?_
      | (refine SL_lss (by decide) (by rfl) (by rfl) (fun hT => ?_) (fun hT => ?_) <;> first | (exfalso; omega) | skip)
      | (refine SL_leq (by decide) (by rfl) (by rfl) (fun hT => ?_) (fun hT => ?_) <;> first | (exfalso; omega) | skip)
      | (refine SL_gtr (by decide) (by rfl) (by rfl) (fun hT => ?_) (fun hT => ?_) <;> first | (exfalso; omega) | skip)
      | (refine SL_geq (by decide) (by rfl) (by rfl) (fun hT => ?_) (fun hT => ?_) <;> first | (exfalso; omega) | skip)
      | (refine SL_eql (by decide) (by rfl) (by rfl) (fun hT => ?_) (fun hT => ?_) <;> first | (exfalso; omega) | skip)
      | (refine SL_neq (by decide) (by rfl) (by rfl) (fun hT => ?_) (fun hT => ?_) <;> first | (exfalso; omega) | skip)
      | refine SL_extract_tup (by decide) (by rfl) (by rfl) ?_
      | refine SL_extract_s (by decide) (by rfl) (by rfl) ?_
      | refine SL_fieldAddr (by decide) (by rfl) (by first | exact fld46f0 | exact fld46f1 | exact fld46f2 | exact fld54f0 | exact fld54f1 | exact fld54f2 | exact fld54f3 | exact fld54f4 | exact fld54f5 | exact fld54f6 | exact fld54f7 | exact fld73f0 | exact fld73f1 | exact fld73f2) ?_
      | refine SL_fieldAddr_r (by decide) (by rfl) (by first | exact fld46f0 | exact fld46f1 | exact fld46f2 | exact fld54f0 | exact fld54f1 | exact fld54f2 | exact fld54f3 | exact fld54f4 | exact fld54f5 | exact fld54f6 | exact fld54f7 | exact fld73f0 | exact fld73f1 | exact fld73f2) ?_
      | refine SL_len_v (by decide) (by rfl) (by assumption) (by rfl) (by first | exact sl22 | exact sl25 | exact sl37 | exact sl41 | exact sl44 | exact sl49 | exact sl50 | exact sl64) (by simp only [List.length_map]; first | rfl | assumption) ?_
      | refine SL_indexAddr_v (by decide) (by rfl) (by rfl) (by assumption) (by first | exact sl22 | exact sl25 | exact sl37 | exact sl41 | exact sl44 | exact sl49 | exact sl50 | exact sl64) _ (by rfl) (by simp only [List.length_map]; omega) (fun ad => ?_)
      | refine SL_indexAddr_o (by decide) (by rfl) (by rfl) (by simp only [List.mem_cons, true_or, or_true]) (by first | exact sl22 | exact sl25 | exact sl37 | exact sl41 | exact sl44 | exact sl49 | exact sl50 | exact sl64) _ (by rfl) (by omega) ?_
      | refine SL_load_r (by decide) (by rfl) (by first | exact row3 | exact row4 | exact row9 | exact row22 | exact row25 | exact row32 | exact row37 | exact row41 | exact row44 | exact row46 | exact row49 | exact row50 | exact row54 | exact row64 | exact row73 | exact row80 | exact row81 | exact row82 | exact row84 | exact row85 | exact row107) (by assumption) (by rfl) ?_
      | refine SL_load_rr (by decide) (by rfl) (by first | exact row3 | exact row4 | exact row9 | exact row22 | exact row25 | exact row32 | exact row37 | exact row41 | exact row44 | exact row46 | exact row49 | exact row50 | exact row54 | exact row64 | exact row73 | exact row80 | exact row81 | exact row82 | exact row84 | exact row85 | exact row107) (by assumption) (by decide) (by rfl) ?_
      | refine SC_cond_t (by rfl) ?_
      | refine SC_cond_f (by rfl) ?_
      | (refine SC_exit (fun tm σ hE hH => ?_); refine SC.app ?_ hE hH)
      | (refine SC_skip' (fun tm σ hE hH => ?_); refine SC.app ?_ hE hH)
      | refine SC_ret (fun tm σ hE hH => Post.intro (Hn := []) (.inr rfl) hE hH (by rfl) trivial List.nodup_nil (fun p hp => (by cases hp)) ?_))
    · refine ⟨?_, rfl⟩
      have hb : fewB rs g = false := by
        unfold fewB
        rw [Bool.and_eq_false_iff]; left
        rw [decide_eq_false_iff_not]
        intro hall
        have := hall rs[k] (List.mem_take_of_lt hlt (by omega))
        omega
      rw [hb]; rfl
    · refine SL_nil fun tm σ hE hH => ⟨k + 1, by omega, ⟨by omega, by omega, ?_⟩, tm, σ, rfl, hE.sub ⟨rfl, rfl, rfl, rfl, trivial⟩, hH.sub trivial List.nodup_nil⟩
      intro gs hgs
      rw [List.take_succ_eq_append_getElem hlt, List.mem_append] at hgs
      rcases hgs with hgs | hgs
      · exact hk3 gs hgs
      · rw [List.mem_singleton] at hgs
        subst hgs; omega
    · refine ⟨?_, rfl⟩
      have hb : fewB rs g = false := by
        unfold fewB
        rw [Bool.and_eq_false_iff]; right
        rw [decide_eq_false_iff_not]
        omega
      rw [hb]; rfl
  ·
    repeat' (first
      | refine SC_seq ?_
      | refine SC_block ?_
      | refine SC_region ?_
      | refine SL_seq ?_
      | refine SL_run (by rfl) (by rfl) ?_
      | refine SL_not (by rfl) (by rfl) (by rfl) (by decide) ?_
      | refine SL_move (by decide) (by rfl) ?_
      | refine SL_assign (by decide) (by rfl) ?_
      | refine SL_pick_t (by decide) (by rfl) (by rfl) ?_
      | refine SL_pick_f (by decide) (by rfl) (by rfl) ?_
      | refine SL_not_op (by decide) (by rfl) ?_
      | refine SL_add (by decide) (by rfl) (by rfl) (by omega) (by omega) ?_
      | refine SL_sub (by decide) (by rfl) (by rfl) (by omega) (by omega) ?_
      | (refine SL_lss (by decide) (by rfl) (by rfl) (fun hT => ?_) (fun hT => ?_) <;> first | (exfalso; omega) | skip)
      | (refine SL_leq (by decide) (by rfl) (by rfl) (fun hT => ?_) (fun hT => ?_) <;> first | (exfalso; omega) | skip)
      | (refine SL_gtr (by decide) (by rfl) (by rfl) (fun hT => ?_) (fun hT => ?_) <;> first | (exfalso; omega) | skip)
      | (refine SL_geq (by decide) (by rfl) (by rfl) (fun hT => ?_) (fun hT => ?_) <;> first | (exfalso; omega) | skip)
      | (refine SL_eql (by decide) (by rfl) (by rfl) (fun hT => ?_) (fun hT => ?_) <;> first | (exfalso; omega) | skip)
      | (refine SL_neq (by decide) (by rfl) (by rfl) (fun hT => ?_) (fun hT => ?_) <;> first | (exfalso; omega) | skip)
      | refine SL_extract_tup (by decide) (by rfl) (by rfl) ?_
      | refine SL_extract_s (by decide) (by rfl) (by rfl) ?_
      | refine SL_fieldAddr (by decide) (by rfl) (by first | exact fld46f0 | exact fld46f1 | exact fld46f2 | exact fld54f0 | exact fld54f1 | exact fld54f2 | exact fld54f3 | exact fld54f4 | exact fld54f5 | exact fld54f6 | exact fld54f7 | exact fld73f0 | exact fld73f1 | exact fld73f2) ?_
      | refine SL_fieldAddr_r (by decide) (by rfl) (by first | exact fld46f0 | exact fld46f1 | exact fld46f2 | exact fld54f0 | exact fld54f1 | exact fld54f2 | exact fld54f3 | exact fld54f4 | exact fld54f5 | exact fld54f6 | exact fld54f7 | exact fld73f0 | exact fld73f1 | exact fld73f2) ?_
      | refine SL_len_v (by decide) (by rfl) (by assumption) (by rfl) (by first | exact sl22 | exact sl25 | exact sl37 | exact sl41 | exact sl44 | exact sl49 | exact sl50 | exact sl64) (by simp only [List.length_map]; first | rfl | assumption) ?_
      | refine SL_indexAddr_v (by decide) (by rfl) (by rfl) (by assumption) (by first | exact sl22 | exact sl25 | exact sl37 | exact sl41 | exact sl44 | exact sl49 | exact sl50 | exact sl64) _ (by rfl) (by simp only [List.length_map]; omega) (fun ad => ?_)
      | refine SL_indexAddr_o (by decide) (by rfl) (by rfl) (by simp only [List.mem_cons, true_or, or_true]) (by first | exact sl22 | exact sl25 | exact sl37 | exact sl41 | exact sl44 | exact sl49 | exact sl50 | exact sl64) _ (by rfl) (by omega) ?_
      | refine SL_load_r (by decide) (by rfl) (by first | exact row3 | exact row4 | exact row9 | exact row22 | exact row25 | exact row32 | exact row37 | exact row41 | exact row44 | exact row46 | exact row49 | exact row50 | exact row54 | exact row64 | exact row73 | exact row80 | exact row81 | exact row82 | exact row84 | exact row85 | exact row107) (by assumption) (by rfl) ?_
      | refine SL_load_rr (by decide) (by rfl) (by first | exact row3 | exact row4 | exact row9 | exact row22 | exact row25 | exact row32 | exact row37 | exact row41 | exact row44 | exact row46 | exact row49 | exact row50 | exact row54 | exact row64 | exact row73 | exact row80 | exact row81 | exact row82 | exact row84 | exact row85 | exact row107) (by assumption) (by decide) (by rfl) ?_
      | refine SC_cond_t (by rfl) ?_
      | refine SC_cond_f (by rfl) ?_
      | (refine SC_exit (fun tm σ hE hH => ?_); refine SC.app ?_ hE hH)
      | (refine SC_skip' (fun tm σ hE hH => ?_); refine SC.app ?_ hE hH)
      | refine SC_ret (fun tm σ hE hH => Post.intro (Hn := []) (.inr rfl) hE hH (by rfl) trivial List.nodup_nil (fun p hp => (by cases hp)) ?_))
    · refine ⟨?_, rfl⟩
      have hb : fewB rs g = true := by
        unfold fewB
        rw [Bool.and_eq_true, decide_eq_true_eq, decide_eq_true_eq]
        refine ⟨fun gs hgs => hk3 gs ?_, by omega⟩
        rw [List.take_of_length_le (by omega)] at hgs ⊢
        exact hgs
      rw [hb]; rfl
    · refine ⟨?_, rfl⟩
      have hb : fewB rs g = false := by
        unfold fewB
        rw [Bool.and_eq_false_iff]; right
        rw [decide_eq_false_iff_not]
        omega
      rw [hb]; rfl
end Go.Proofs.Ytldckcopeiginaa
