/- TiebreakValues, walked. -/
import Derived.Test.YtldckcopeiginaaZe
import Derived.Test.YtldckcopeiginaaZc
import Derived.Test.YtldckcopeiginaaRows
import Derived.Test.YtldckcopeiginaaZd
namespace Go.Proofs.Ytldckcopeiginaa
open Go.Ab
attribute [local irreducible] SC SL wpc wpl wpd wpf wpy wpn FnC FnW RdW SD
set_option maxRecDepth 100000
set_option pp.deepTerms false
set_option pp.maxSteps 900
set_option maxHeartbeats 4000000
/-- A player is in at most one game of a round. -/
theorem ev1_count (k : Nat) (i : Int) (hi : 0 ≤ i) (g : Sc) : (ev1 k i g).length ≤ (pl g).count i := by
  unfold ev1
  split
  · rename_i h; subst h; unfold pl; split <;> simp
  · split
    · rename_i h1 h2; subst h2; unfold pl; rw [if_pos hi]; simp
    · simp
theorem evR_count (k : Nat) (i : Int) (hi : 0 ≤ i) (gs : List Sc) : (evR k i gs).length ≤ (gs.flatMap pl).count i := by
  induction gs with
  | nil => simp [evR]
  | cons g gs ih =>
    have := ev1_count k i hi g
    unfold evR at ih ⊢
    rw [List.flatMap_cons, List.flatMap_cons, List.length_append, List.count_append]
    omega
theorem evU_one {n : Int} {rs : List (List Sc)} (h : ∀ gs ∈ rs, ROk n gs) (i : Int) (hi : 0 ≤ i) : ∀ k, k ≤ rs.length → (evU rs i k).length ≤ k
  | 0, _ => by simp [evU]
  | k + 1, hk => by
    have h1 := evU_one h i hi k (by omega)
    have h2 := evR_count k i hi rs[k]
    have h3 := List.nodup_iff_count.1 (h rs[k] (List.getElem_mem hk)).2 i
    rw [evU_next hk, List.length_append]; omega
theorem foesL_le (F : Nat → Int) (es : List Ev) : (foesL F es).length ≤ es.length := by
  unfold foesL; rw [List.length_map]; exact List.length_filter_le _ _
theorem sumT_F {rs : List (List Sc)} (hf : ∀ gs ∈ rs, gs.length ≤ 12) {m : Nat} (hv : VOk m rs) : ∀ x : Nat, x < m → 0 ≤ sumT rs x ∧ sumT rs x ≤ 1000 := fun x _ => by
  have h1 := sumT_bd hf (fun gs hgs g hgg => ((hv.2.2.2 gs hgs).1 g hgg).2.2.2.2) x
  have h2 := hv.2.2.1
  omega
theorem known27 {G : Gl} (ho : ∀ f x y, G.orc f (x :: y) = none) (k : Int) : FnC Try.prog G 27 [.s (.int .i64 k)] [] (fun v Hn => v = .s (.bool (decide (1 ≤ k ∧ k ≤ 7))) ∧ Hn = []) := by
  refine Fn_body (N := 9) (ho _ _ _) Try.func27 rfl rfl fun B => ?_
  repeat' (first
    | refine SC_seq ?_
    | refine SC_region ?_
    | refine SL_seq ?_
    | refine SL_run (by rfl) (by rfl) ?_
    | refine SL_not (by rfl) (by rfl) (by rfl) (by decide) ?_
    | refine SL_move (by decide) (by rfl) ?_
    | refine SL_assign (by decide) (by rfl) ?_
    | refine SL_pick_t (by decide) (by rfl) (by rfl) ?_
    | refine SL_pick_f (by decide) (by rfl) (by rfl) ?_
    | (refine SL_leq (by decide) (by rfl) (by rfl) (fun hT => ?_) (fun hT => ?_) <;> first | (exfalso; omega) | skip)
    | (refine SL_geq (by decide) (by rfl) (by rfl) (fun hT => ?_) (fun hT => ?_) <;> first | (exfalso; omega) | skip)
    | fail)
  all_goals refine SC_ret (fun tm σ hE hH => Post.intro (Hn := []) (.inr rfl) hE hH (by rfl) trivial List.nodup_nil (fun p hp => by cases hp) ⟨?_, rfl⟩)
  all_goals first
    | (rw [decide_eq_true (by omega)]; rfl)
    | (rw [decide_eq_false (by omega)]; rfl)
section
variable {G : Gl} {rs : List (List Sc)} {ra : AV} {xs : List AV} (h : RV rs ra xs) (hf : ∀ gs ∈ rs, gs.length ≤ 12) (ho : ∀ f x y, G.orc f (x :: y) = none)
include h hf ho in
theorem api15_t {m : Nat} (hv : VOk m rs) (hr : rs.length ≤ 10) (i : Nat) (hi : i < m) (k : Nat) (hk1 : 1 ≤ k) (hk7 : k ≤ 7) :
    FnC Try.prog G 15 [.s (.int .i64 m), ra, .s (.int .i64 k), .s (.int .i64 i)] [] (fun v Hn => ∃ n, v = .s (.tuple #[.int .i64 n, .int .i64 0]) ∧ n = lawV (LS.of (fun x => sumT rs x) i (evU rs i rs.length)) (progE rs.length (evU rs i rs.length)) k ∧ Hn = []) := by
  have h11 : FnC Try.prog G 11 [.s (.int .i64 m), ra] [] (fun v Hn => v = .s (.bool true) ∧ Hn = []) := by
    have := valid_fn h m (G := G) (ho _ _ _)
    rw [validB_t hv] at this; exact this
  have h27 : FnC Try.prog G 27 [.s (.int .i64 k)] [] (fun v Hn => v = .s (.bool true) ∧ Hn = []) := by
    have := known27 (G := G) ho k
    rw [decide_eq_true (by omega)] at this; exact this
  have h26 := scores_fn h hf hv (G := G) (ho _ _ _) (fun _ => ho _ _ _) (fun _ _ _ => ho _ _ _)
  have hgok : ∀ gs ∈ rs, ∀ g ∈ gs, GOk m g := fun gs hgs g hgg => (hv.2.2.2 gs hgs).1 g hgg
  have hgp : ∀ gs ∈ rs, ∀ g ∈ gs, 0 ≤ g.p ∧ g.p ≤ 2 := fun gs hgs g hgg => (hgok gs hgs g hgg).2.2.2.2
  have h1 := evU_one hv.2.2.2 i (by omega) rs.length (Nat.le_refl _)
  have h2 := foesL_le (fun x => sumT rs x) (evU rs i rs.length)
  have h28 := value_fn (G := G) h hgp ho (fun x => sumT rs x) (sumT_F hf hv) i hi (evU_lt hgok i rs.length (Nat.le_refl _)) (by omega) (by omega) (by omega) k hk1 hk7
  refine Fn_body (N := 35) (ho _ _ _) Try.func15 rfl rfl fun B => ?_
  repeat' (first
    | (refine SL_call (by decide) (by rfl) bd28 (by rfl) (by rfl) (h28 ida) ⟨.head _, trivial⟩ (by simp) ?_; rintro _ _ _ ⟨n28, rfl, hn28, rfl⟩; rw [List.nil_append])
    | (refine SL_call (by decide) (by rfl) bd26 (by rfl) (by rfl) h26 trivial List.nodup_nil ?_; rintro _ _ hB26 ⟨ida, rfl, rfl⟩; simp only [List.cons_append, List.nil_append])
    | (refine SL_call (by decide) (by rfl) bd27 (by rfl) (by rfl) (h27) trivial List.nodup_nil ?_; rintro _ _ _ ⟨rfl, rfl⟩; rw [List.nil_append])
    | (refine SL_call (by decide) (by rfl) bd11 (by rfl) (by rfl) (h11) trivial List.nodup_nil ?_; rintro _ _ _ ⟨rfl, rfl⟩; rw [List.nil_append])
    | refine SC_seq ?_
    | refine SC_region ?_
    | refine SL_seq ?_
    | refine SL_run (by rfl) (by rfl) ?_
    | refine SL_move (by decide) (by rfl) ?_
    | refine SL_assign (by decide) (by rfl) ?_
    | refine SL_pick_f (by decide) (by rfl) (by rfl) ?_
    | refine SL_not_op (by decide) (by rfl) ?_
    | (refine SL_lss (by decide) (by rfl) (by rfl) (fun hT => ?_) (fun hT => ?_) <;> first | (exfalso; omega) | skip)
    | (refine SL_geq (by decide) (by rfl) (by rfl) (fun hT => ?_) (fun hT => ?_) <;> first | (exfalso; omega) | skip)
    | refine SC_cond_f (by rfl) ?_
    | (refine SC_skip' (fun tm σ hE hH => ?_); refine SC.app ?_ hE hH; clear hE hH; clear tm σ)
    | fail)
  refine SC_ret (fun tm σ hE hH => Post.intro (Hn := []) (.inr rfl) hE hH (by rfl) trivial List.nodup_nil (fun p hp => by cases hp) ⟨_, rfl, ?_, rfl⟩)
  exact tie_eq (evU_bd hgp i rs.length (Nat.le_refl _)) hn28
omit hf in
include h ho in
theorem api15_f {n k i : Int} (hb : ¬ (VOk n rs ∧ 0 ≤ i ∧ i < n ∧ 1 ≤ k ∧ k ≤ 7)) :
    FnC Try.prog G 15 [.s (.int .i64 n), ra, .s (.int .i64 k), .s (.int .i64 i)] [] (fun v Hn => v = .s (.tuple #[.int .i64 0, .int .i64 2]) ∧ Hn = []) := by
  have h11 := valid_fn h n (G := G) (ho _ _ _)
  have h27 := known27 (G := G) ho k
  by_cases hv : VOk n rs
  · rw [validB_t hv] at h11
    by_cases hk : 1 ≤ k ∧ k ≤ 7
    · rw [decide_eq_true hk] at h27
      have hb' : ¬ (0 ≤ i ∧ i < n) := fun h => hb ⟨hv, h.1, h.2, hk⟩
      refine Fn_body (N := 35) (ho _ _ _) Try.func15 rfl rfl fun B => ?_
      repeat' (first
        | (refine SL_call (by decide) (by rfl) bd11 (by rfl) (by rfl) (h11) trivial List.nodup_nil ?_; rintro _ _ _ ⟨rfl, rfl⟩; rw [List.nil_append])
        | refine SC_seq ?_
        | refine SC_region ?_
        | refine SL_seq ?_
        | refine SL_run (by rfl) (by rfl) ?_
        | refine SL_not (by rfl) (by rfl) (by rfl) (by decide) ?_
        | refine SL_move (by decide) (by rfl) ?_
        | refine SL_assign (by decide) (by rfl) ?_
        | refine SL_pick_t (by decide) (by rfl) (by rfl) ?_
        | refine SL_pick_f (by decide) (by rfl) (by rfl) ?_
        | refine SL_not_op (by decide) (by rfl) ?_
        | (refine SL_lss (by decide) (by rfl) (by rfl) (fun hT => ?_) (fun hT => ?_) <;> first | (exfalso; omega) | skip)
        | (refine SL_geq (by decide) (by rfl) (by rfl) (fun hT => ?_) (fun hT => ?_) <;> first | (exfalso; omega) | skip)
        | refine SC_cond_t (by rfl) ?_
        | fail)
      all_goals first
        | (exfalso; omega)
        | exact SC_ret (fun tm σ hE hH => Post.intro (Hn := []) (.inr rfl) hE hH (by rfl) trivial List.nodup_nil (fun p hp => by cases hp) ⟨rfl, rfl⟩)
    · rw [decide_eq_false hk] at h27
      refine Fn_body (N := 35) (ho _ _ _) Try.func15 rfl rfl fun B => ?_
      repeat' (first
        | (refine SL_call (by decide) (by rfl) bd27 (by rfl) (by rfl) (h27) trivial List.nodup_nil ?_; rintro _ _ _ ⟨rfl, rfl⟩; rw [List.nil_append])
        | (refine SL_call (by decide) (by rfl) bd11 (by rfl) (by rfl) (h11) trivial List.nodup_nil ?_; rintro _ _ _ ⟨rfl, rfl⟩; rw [List.nil_append])
        | refine SC_seq ?_
        | refine SC_region ?_
        | refine SL_seq ?_
        | refine SL_run (by rfl) (by rfl) ?_
        | refine SL_not (by rfl) (by rfl) (by rfl) (by decide) ?_
        | refine SL_move (by decide) (by rfl) ?_
        | refine SL_assign (by decide) (by rfl) ?_
        | refine SL_pick_t (by decide) (by rfl) (by rfl) ?_
        | refine SL_pick_f (by decide) (by rfl) (by rfl) ?_
        | refine SL_not_op (by decide) (by rfl) ?_
        | (refine SL_lss (by decide) (by rfl) (by rfl) (fun hT => ?_) (fun hT => ?_) <;> first | (exfalso; omega) | skip)
        | (refine SL_geq (by decide) (by rfl) (by rfl) (fun hT => ?_) (fun hT => ?_) <;> first | (exfalso; omega) | skip)
        | refine SC_cond_t (by rfl) ?_
        | fail)
      all_goals exact SC_ret (fun tm σ hE hH => Post.intro (Hn := []) (.inr rfl) hE hH (by rfl) trivial List.nodup_nil (fun p hp => by cases hp) ⟨rfl, rfl⟩)
  · rw [validB_f hv] at h11
    refine Fn_body (N := 35) (ho _ _ _) Try.func15 rfl rfl fun B => ?_
    repeat' (first
      | (refine SL_call (by decide) (by rfl) bd11 (by rfl) (by rfl) (h11) trivial List.nodup_nil ?_; rintro _ _ _ ⟨rfl, rfl⟩; rw [List.nil_append])
      | refine SC_seq ?_
      | refine SC_region ?_
      | refine SL_seq ?_
      | refine SL_not (by rfl) (by rfl) (by rfl) (by decide) ?_
      | refine SL_move (by decide) (by rfl) ?_
      | refine SL_assign (by decide) (by rfl) ?_
      | refine SL_pick_t (by decide) (by rfl) (by rfl) ?_
      | refine SL_not_op (by decide) (by rfl) ?_
      | refine SC_cond_t (by rfl) ?_
      | fail)
    all_goals exact SC_ret (fun tm σ hE hH => Post.intro (Hn := []) (.inr rfl) hE hH (by rfl) trivial List.nodup_nil (fun p hp => by cases hp) ⟨rfl, rfl⟩)
end
theorem law4_fn {rs : List (List Sc)} {ra : AV} {xs : List AV} (h : RV rs ra xs) (n k i : Int) :
    FnC Try.prog (oneOrc 9 (.bool true)) 4 [.s (.int .i64 n), ra, .s (.int .i64 k), .s (.int .i64 i)] [] (fun v Hn => v = .s (.bool true) ∧ Hn = []) := by
  have ho : ∀ f a b, (oneOrc 9 (.bool true)).orc f (a :: b) = none := fun f a b => oneOrc_off (by simp)
  have h9 : FnC Try.prog (oneOrc 9 (.bool true)) 9 [] [] (fun v Hn => v = .s (.bool true) ∧ Hn = []) := Fn_orc (oneOrc_at _ _) ⟨rfl, rfl⟩
  generalize oneOrc 9 (.bool true) = G at ho h9 ⊢
  have h8 := few_fn (G := G) h 12 (ho _ _ _)
  have hsl := h.sl
  have hlen := h.len
  have hbig := h.big
  cases hfew : fewB rs 12 with
  | false =>
    rw [hfew] at h8
    refine Fn_body (N := 74) (ho _ _ _) Try.func4 rfl rfl fun B => ?_
    repeat' (first
      | (refine SL_call (by decide) (by rfl) bd9 (by rfl) (by rfl) (h9) trivial List.nodup_nil ?_; rintro _ _ _ ⟨rfl, rfl⟩; rw [List.nil_append])
      | (refine SL_call (by decide) (by rfl) bd8 (by rfl) (by rfl) (h8) trivial List.nodup_nil ?_; rintro _ _ _ ⟨rfl, rfl⟩; rw [List.nil_append])
      | refine SC_seq ?_
      | refine SC_region ?_
      | refine SL_seq ?_
      | refine SL_not (by rfl) (by rfl) (by rfl) (by decide) ?_
      | refine SL_move (by decide) (by rfl) ?_
      | refine SL_assign (by decide) (by rfl) ?_
      | refine SL_pick_t (by decide) (by rfl) (by rfl) ?_
      | refine SL_not_op (by decide) (by rfl) ?_
      | refine SC_cond_t (by rfl) ?_
      | fail)
    all_goals exact SC_ret (fun tm σ hE hH => Post.intro (Hn := []) (.inr rfl) hE hH (by rfl) trivial List.nodup_nil (fun p hp => by cases hp) ⟨rfl, rfl⟩)
  | true =>
    rw [hfew] at h8
    have hf := few_all hfew
    by_cases hr : rs.length ≤ 10
    · by_cases hall : VOk n rs ∧ 0 ≤ i ∧ i < n ∧ 1 ≤ k ∧ k ≤ 7
      · obtain ⟨hv, hi0, hin, hk1, hk7⟩ := hall
        obtain ⟨m, rfl⟩ : ∃ m : Nat, n = m := ⟨n.toNat, by omega⟩
        obtain ⟨i, rfl⟩ : ∃ j : Nat, i = j := ⟨i.toNat, by omega⟩
        obtain ⟨k, rfl⟩ : ∃ j : Nat, k = j := ⟨k.toNat, by omega⟩
        have h12 : FnC Try.prog G 12 [.s (.int .i64 m), ra] [] (fun v Hn => v = .s (.bool true) ∧ Hn = []) := by
          have := lawValid_fn h hf m (G := G) (ho _ _ _)
          rw [validB_t hv] at this; exact this
        have h15t := api15_t (G := G) h hf ho hv hr i (by omega) k (by omega) (by omega)
        have h14 := lawScores_fn h hf hv (G := G) (ho _ _ _) (fun _ _ => ho _ _ _)
        have h16 := lawValue_fn (G := G) h hf hv ho (fun x => sumT rs x) (sumT_F hf hv) i (by omega) k (by omega) (by omega)
        refine Fn_body (N := 74) (ho _ _ _) Try.func4 rfl rfl fun B => ?_
        repeat' (first
          | (refine SL_call (by decide) (by rfl) bd16 (by rfl) (by rfl) (h16 idb) ⟨.head _, trivial⟩ (by simp) ?_; rintro _ _ _ ⟨rfl, rfl⟩; rw [List.nil_append])
          | (refine SL_call (by decide) (by rfl) bd14 (by rfl) (by rfl) h14 trivial List.nodup_nil ?_; rintro _ _ hB14 ⟨idb, rfl, rfl⟩; simp only [List.cons_append, List.nil_append])
          | (refine SL_call (by decide) (by rfl) bd15 (by rfl) (by rfl) h15t trivial List.nodup_nil ?_; rintro _ _ _ ⟨n15, rfl, hn15, rfl⟩; rw [List.nil_append])
          | (refine SL_call (by decide) (by rfl) bd12 (by rfl) (by rfl) (h12) trivial List.nodup_nil ?_; rintro _ _ _ ⟨rfl, rfl⟩; rw [List.nil_append])
          | (refine SL_call (by decide) (by rfl) bd9 (by rfl) (by rfl) (h9) trivial List.nodup_nil ?_; rintro _ _ _ ⟨rfl, rfl⟩; rw [List.nil_append])
          | (refine SL_call (by decide) (by rfl) bd8 (by rfl) (by rfl) (h8) trivial List.nodup_nil ?_; rintro _ _ _ ⟨rfl, rfl⟩; rw [List.nil_append])
          | refine SC_seq ?_
          | refine SC_region ?_
          | refine SL_seq ?_
          | refine SL_run (by rfl) (by rfl) ?_
          | refine SL_move (by decide) (by rfl) ?_
          | refine SL_assign (by decide) (by rfl) ?_
          | refine SL_pick_t (by decide) (by rfl) (by rfl) ?_
          | refine SL_pick_f (by decide) (by rfl) (by rfl) ?_
          | refine SL_not_op (by decide) (by rfl) ?_
          | (refine SL_lss (by decide) (by rfl) (by rfl) (fun hT => ?_) (fun hT => ?_) <;> first | (exfalso; omega) | skip)
          | (refine SL_gtr (by decide) (by rfl) (by rfl) (fun hT => ?_) (fun hT => ?_) <;> first | (exfalso; omega) | skip)
          | (refine SL_geq (by decide) (by rfl) (by rfl) (fun hT => ?_) (fun hT => ?_) <;> first | (exfalso; omega) | skip)
          | (refine SL_eql (by decide) (by rfl) (by rfl) (fun hT => ?_) (fun hT => ?_) <;> first | (exfalso; omega) | skip)
          | refine SL_extract_s (by decide) (by rfl) (by rfl) ?_
          | refine SL_len_v (by decide) (by rfl) (by assumption) (by rfl) (slF (by rfl)) (by simp only [List.length_map]; first | rfl | assumption) ?_
          | refine SC_cond_f (by rfl) ?_
          | (refine SC_skip' (fun tm σ hE hH => ?_); refine SC.app ?_ hE hH; clear hE hH; clear tm σ)
          | fail)
        all_goals exact SC_ret (fun tm σ hE hH => Post.intro (Hn := []) (.inr rfl) hE hH (by rfl) trivial List.nodup_nil (fun p hp => by cases hp) ⟨rfl, rfl⟩)
      · have h15 := api15_f (G := G) h ho hall
        have h12 := lawValid_fn h hf n (G := G) (ho _ _ _)
        by_cases hv : VOk n rs
        · rw [validB_t hv] at h12
          have hall' : ¬ (0 ≤ i ∧ i < n ∧ 1 ≤ k ∧ k ≤ 7) := fun h => hall ⟨hv, h⟩
          refine Fn_body (N := 74) (ho _ _ _) Try.func4 rfl rfl fun B => ?_
          repeat' (first
            | (refine SL_call (by decide) (by rfl) bd15 (by rfl) (by rfl) (h15) trivial List.nodup_nil ?_; rintro _ _ _ ⟨rfl, rfl⟩; rw [List.nil_append])
            | (refine SL_call (by decide) (by rfl) bd12 (by rfl) (by rfl) (h12) trivial List.nodup_nil ?_; rintro _ _ _ ⟨rfl, rfl⟩; rw [List.nil_append])
            | (refine SL_call (by decide) (by rfl) bd9 (by rfl) (by rfl) (h9) trivial List.nodup_nil ?_; rintro _ _ _ ⟨rfl, rfl⟩; rw [List.nil_append])
            | (refine SL_call (by decide) (by rfl) bd8 (by rfl) (by rfl) (h8) trivial List.nodup_nil ?_; rintro _ _ _ ⟨rfl, rfl⟩; rw [List.nil_append])
            | refine SC_seq ?_
            | refine SC_region ?_
            | refine SL_seq ?_
            | refine SL_run (by rfl) (by rfl) ?_
            | refine SL_not (by rfl) (by rfl) (by rfl) (by decide) ?_
            | refine SL_move (by decide) (by rfl) ?_
            | refine SL_assign (by decide) (by rfl) ?_
            | refine SL_pick_t (by decide) (by rfl) (by rfl) ?_
            | refine SL_pick_f (by decide) (by rfl) (by rfl) ?_
            | refine SL_not_op (by decide) (by rfl) ?_
            | (refine SL_lss (by decide) (by rfl) (by rfl) (fun hT => ?_) (fun hT => ?_) <;> first | (exfalso; omega) | skip)
            | (refine SL_gtr (by decide) (by rfl) (by rfl) (fun hT => ?_) (fun hT => ?_) <;> first | (exfalso; omega) | skip)
            | (refine SL_geq (by decide) (by rfl) (by rfl) (fun hT => ?_) (fun hT => ?_) <;> first | (exfalso; omega) | skip)
            | (refine SL_eql (by decide) (by rfl) (by rfl) (fun hT => ?_) (fun hT => ?_) <;> first | (exfalso; omega) | skip)
            | refine SL_extract_s (by decide) (by rfl) (by rfl) ?_
            | refine SL_len_v (by decide) (by rfl) (by assumption) (by rfl) (slF (by rfl)) (by simp only [List.length_map]; first | rfl | assumption) ?_
            | refine SC_cond_t (by rfl) ?_
            | refine SC_cond_f (by rfl) ?_
            | (refine SC_skip' (fun tm σ hE hH => ?_); refine SC.app ?_ hE hH; clear hE hH; clear tm σ)
            | fail)
          all_goals first
            | (exfalso; omega)
            | exact SC_ret (fun tm σ hE hH => Post.intro (Hn := []) (.inr rfl) hE hH (by rfl) trivial List.nodup_nil (fun p hp => by cases hp) ⟨rfl, rfl⟩)
        · rw [validB_f hv] at h12
          refine Fn_body (N := 74) (ho _ _ _) Try.func4 rfl rfl fun B => ?_
          repeat' (first
            | (refine SL_call (by decide) (by rfl) bd15 (by rfl) (by rfl) (h15) trivial List.nodup_nil ?_; rintro _ _ _ ⟨rfl, rfl⟩; rw [List.nil_append])
            | (refine SL_call (by decide) (by rfl) bd12 (by rfl) (by rfl) (h12) trivial List.nodup_nil ?_; rintro _ _ _ ⟨rfl, rfl⟩; rw [List.nil_append])
            | (refine SL_call (by decide) (by rfl) bd9 (by rfl) (by rfl) (h9) trivial List.nodup_nil ?_; rintro _ _ _ ⟨rfl, rfl⟩; rw [List.nil_append])
            | (refine SL_call (by decide) (by rfl) bd8 (by rfl) (by rfl) (h8) trivial List.nodup_nil ?_; rintro _ _ _ ⟨rfl, rfl⟩; rw [List.nil_append])
            | refine SC_seq ?_
            | refine SC_region ?_
            | refine SL_seq ?_
            | refine SL_run (by rfl) (by rfl) ?_
            | refine SL_not (by rfl) (by rfl) (by rfl) (by decide) ?_
            | refine SL_move (by decide) (by rfl) ?_
            | refine SL_assign (by decide) (by rfl) ?_
            | refine SL_pick_t (by decide) (by rfl) (by rfl) ?_
            | refine SL_pick_f (by decide) (by rfl) (by rfl) ?_
            | refine SL_not_op (by decide) (by rfl) ?_
            | (refine SL_gtr (by decide) (by rfl) (by rfl) (fun hT => ?_) (fun hT => ?_) <;> first | (exfalso; omega) | skip)
            | (refine SL_eql (by decide) (by rfl) (by rfl) (fun hT => ?_) (fun hT => ?_) <;> first | (exfalso; omega) | skip)
            | refine SL_extract_s (by decide) (by rfl) (by rfl) ?_
            | refine SL_len_v (by decide) (by rfl) (by assumption) (by rfl) (slF (by rfl)) (by simp only [List.length_map]; first | rfl | assumption) ?_
            | refine SC_cond_t (by rfl) ?_
            | refine SC_cond_f (by rfl) ?_
            | (refine SC_skip' (fun tm σ hE hH => ?_); refine SC.app ?_ hE hH; clear hE hH; clear tm σ)
            | fail)
          all_goals exact SC_ret (fun tm σ hE hH => Post.intro (Hn := []) (.inr rfl) hE hH (by rfl) trivial List.nodup_nil (fun p hp => by cases hp) ⟨rfl, rfl⟩)
    · refine Fn_body (N := 74) (ho _ _ _) Try.func4 rfl rfl fun B => ?_
      repeat' (first
        | (refine SL_call (by decide) (by rfl) bd9 (by rfl) (by rfl) (h9) trivial List.nodup_nil ?_; rintro _ _ _ ⟨rfl, rfl⟩; rw [List.nil_append])
        | (refine SL_call (by decide) (by rfl) bd8 (by rfl) (by rfl) (h8) trivial List.nodup_nil ?_; rintro _ _ _ ⟨rfl, rfl⟩; rw [List.nil_append])
        | refine SC_seq ?_
        | refine SC_region ?_
        | refine SL_seq ?_
        | refine SL_run (by rfl) (by rfl) ?_
        | refine SL_move (by decide) (by rfl) ?_
        | refine SL_assign (by decide) (by rfl) ?_
        | refine SL_pick_f (by decide) (by rfl) (by rfl) ?_
        | refine SL_not_op (by decide) (by rfl) ?_
        | (refine SL_gtr (by decide) (by rfl) (by rfl) (fun hT => ?_) (fun hT => ?_) <;> first | (exfalso; omega) | skip)
        | refine SL_len_v (by decide) (by rfl) (by assumption) (by rfl) (slF (by rfl)) (by simp only [List.length_map]; first | rfl | assumption) ?_
        | refine SC_cond_t (by rfl) ?_
        | fail)
      all_goals exact SC_ret (fun tm σ hE hH => Post.intro (Hn := []) (.inr rfl) hE hH (by rfl) trivial List.nodup_nil (fun p hp => by cases hp) ⟨rfl, rfl⟩)
end Go.Proofs.Ytldckcopeiginaa
/- Which kinds are valid. -/
namespace Go.Proofs.Ytldckcopeiginaa
open Go.Ab
attribute [local irreducible] SC SL wpc wpl wpd wpf wpy wpn FnC FnW RdW SD
set_option maxRecDepth 100000
set_option pp.deepTerms false
set_option pp.maxSteps 900
set_option maxHeartbeats 2000000
theorem mem_getD {l : List Int} {k : Int} (h : k ∈ l) : ∃ j, j < l.length ∧ l.getD j 0 = k := by
  obtain ⟨j, hj, he⟩ := List.mem_iff_getElem.1 h
  exact ⟨j, hj, by rw [getD_at _ hj]; exact he⟩
theorem index_fn {G : Gl} (ho : ∀ f x y, G.orc f (x :: y) = none) (l : List Int) (hl : l.length ≤ 9223372036854775807) (ad : Addr) (cap : Nat) (k : Int) :
    FnC Try.prog G 54 [.rsl ad 1 cap (ints l), .s (.int .i64 k)] [] (fun v Hn => (∃ x : Int, v = .s (.int .i64 x) ∧ (0 ≤ x ↔ k ∈ l)) ∧ Hn = []) := by
  have hil := ints_len l
  refine Fn_body (N := 19) (ho _ _ _) Try.func54 rfl rfl fun B => ?_
  repeat' (first
    | refine SL_len_rsl (by decide) (by rfl) (by rfl) (sliceOf_spec sl37).1 ?_
    | refine SC_seq ?_
    | refine SC_block ?_
    | refine SC_region ?_
    | refine SL_seq ?_
    | refine SL_move (by decide) (by rfl) ?_
    | refine SL_assign (by decide) (by rfl) ?_
    | fail)
  refine SC_loop (fun j : Nat => [(0, .rsl ad 1 cap (ints l)), (1, .s (.int .i64 k)), (7, .s (.int .i64 (ints l).length)), (8, .s (.int .i64 j))]) (fun _ => []) (fun _ => []) (fun j => j ≤ l.length ∧ ∀ i, i < j → l.getD i 0 ≠ k) (fun j => l.length - j) 0 ⟨by omega, fun i hi => by omega⟩ ⟨rfl, rfl, rfl, rfl, trivial⟩ trivial List.nodup_nil rfl ?_
  rintro j ⟨hj, hne⟩
  by_cases hlt : j < l.length
  ·
    repeat' (first
      | refine SL_indexAddr_r (by decide) (by rfl) (by rfl) sl37 j (by omega) (by omega) ?_
      | refine SC_seq ?_
      | refine SC_block ?_
      | refine SC_region ?_
      | refine SL_seq ?_
      | refine SL_move (by decide) (by rfl) ?_
      | refine SL_assign (by decide) (by rfl) ?_
      | refine SL_add (by decide) (by rfl) (by rfl) (by omega) (by omega) ?_
      | (refine SL_lss (by decide) (by rfl) (by rfl) (fun hT => ?_) (fun hT => ?_) <;> first | (exfalso; omega) | skip)
      | (refine SL_eql (by decide) (by rfl) (by rfl) (fun hT => ?_) (fun hT => ?_) <;> first | (exfalso; omega) | skip)
      | refine SL_load_r (by decide) (by rfl) (rowF (by rfl)) (by first | assumption | rfl | exact ints_getD _ (by omega)) (by rfl) ?_
      | refine SC_cond_t (by rfl) ?_
      | refine SC_cond_f (by rfl) ?_
      | (refine SC_skip' (fun tm σ hE hH => ?_); refine SC.app ?_ hE hH; clear hE hH; clear tm σ)
      | fail)
    · refine SC_ret (fun tm σ hE hH => Post.intro (Hn := []) (.inr rfl) hE hH (by rfl) trivial List.nodup_nil (fun p hp => by cases hp) ⟨⟨_, rfl, ?_⟩, rfl⟩)
      exact ⟨fun _ => by rw [hT]; exact getD_mem hlt, fun _ => by omega⟩
    · exact SL_nil fun tm σ hE hH => ⟨j + 1, by omega, ⟨by omega, fun i hi => by
        by_cases e : i = j
        · subst e; exact fun h => hT h.symm
        · exact hne i (by omega)⟩, tm, σ, rfl, hE.sub ⟨rfl, rfl, rfl, rfl, trivial⟩, hH⟩
  · obtain rfl : j = l.length := by omega
    repeat' (first
      | refine SC_seq ?_
      | refine SC_region ?_
      | refine SL_seq ?_
      | refine SL_assign (by decide) (by rfl) ?_
      | (refine SL_lss (by decide) (by rfl) (by rfl) (fun hT => ?_) (fun hT => ?_) <;> first | (exfalso; omega) | skip)
      | refine SC_cond_f (by rfl) ?_
      | (refine SC_exit (fun tm σ hE hH => ?_); refine SC.app ?_ hE hH; clear hE hH; clear tm σ)
      | fail)
    refine SC_ret (fun tm σ hE hH => Post.intro (Hn := []) (.inr rfl) hE hH (by rfl) trivial List.nodup_nil (fun p hp => by cases hp) ⟨⟨-1, rfl, ?_⟩, rfl⟩)
    refine ⟨fun h => by omega, fun h => ?_⟩
    obtain ⟨i, hi, he⟩ := mem_getD h
    exact absurd he (hne i hi)
theorem contains_fn {G : Gl} (ho : ∀ f x y, G.orc f (x :: y) = none) (l : List Int) (hl : l.length ≤ 9223372036854775807) (ad : Addr) (cap : Nat) (k : Int) :
    FnC Try.prog G 29 [.rsl ad 1 cap (ints l), .s (.int .i64 k)] [] (fun v Hn => v = .s (.bool (decide (k ∈ l))) ∧ Hn = []) := by
  have h54 := index_fn ho l hl ad cap k
  refine Fn_body (N := 9) (ho _ _ _) Try.func29 rfl rfl fun B => ?_
  repeat' (first
    | (refine SL_call (by decide) (by rfl) bd54 (by rfl) (by rfl) h54 trivial List.nodup_nil ?_; rintro _ _ _ ⟨⟨x, rfl, hx⟩, rfl⟩; rw [List.nil_append])
    | refine SC_seq ?_
    | refine SC_region ?_
    | refine SL_seq ?_
    | refine SL_move (by decide) (by rfl) ?_
    | refine SL_assign (by decide) (by rfl) ?_
    | (refine SL_geq (by decide) (by rfl) (by rfl) (fun hT => ?_) (fun hT => ?_) <;> first | (exfalso; omega) | skip)
    | fail)
  · refine SC_ret (fun tm σ hE hH => Post.intro (Hn := []) (.inr rfl) hE hH (by rfl) trivial List.nodup_nil (fun p hp => by cases hp) ⟨?_, rfl⟩)
    rw [decide_eq_true (hx.1 (by omega))]; rfl
  · refine SC_ret (fun tm σ hE hH => Post.intro (Hn := []) (.inr rfl) hE hH (by rfl) trivial List.nodup_nil (fun p hp => by cases hp) ⟨?_, rfl⟩)
    rw [decide_eq_false (fun h => by have := hx.2 h; omega)]; rfl
/-- Kinds that are valid. -/
def KOk (ks : List Int) : Prop := (∀ k ∈ ks, 1 ≤ k ∧ k ≤ 7) ∧ ks.Nodup ∧ ks.length ≤ 7
theorem take_mem {l : List Int} {j : Nat} {k : Int} : k ∈ l.take j ↔ ∃ i, i < j ∧ i < l.length ∧ l.getD i 0 = k := by
  constructor
  · intro h
    obtain ⟨i, hi, he⟩ := List.mem_iff_getElem.1 h
    rw [List.length_take] at hi
    rw [List.getElem_take] at he
    exact ⟨i, by omega, by omega, by rw [getD_at _ (by omega)]; exact he⟩
  · rintro ⟨i, h1, h2, he⟩
    rw [getD_at _ h2] at he
    exact List.mem_iff_getElem.2 ⟨i, by rw [List.length_take]; omega, by rw [List.getElem_take]; exact he⟩
def KSt (ks : List Int) (j : Nat) : Prop := ∀ i, i < j → (1 ≤ ks.getD i 0 ∧ ks.getD i 0 ≤ 7) ∧ ∀ h, h < i → ks.getD h 0 ≠ ks.getD i 0
theorem KSt.ok {ks : List Int} (h : KSt ks ks.length) (hl : ks.length ≤ 7) : KOk ks := by
  refine ⟨fun k hk => ?_, ?_, hl⟩
  · obtain ⟨j, hj, rfl⟩ := mem_getD hk
    exact (h j hj).1
  · refine List.pairwise_iff_getElem.2 fun i j hi hj hij => ?_
    have := (h j hj).2 i hij
    rwa [getD_at _ hi, getD_at _ hj] at this
theorem KOk.st {ks : List Int} (h : KOk ks) : KSt ks ks.length := fun i hi => ⟨h.1 _ (getD_mem hi), fun j hj => getD_ne h.2.1 (by omega) hi (by omega)⟩
theorem KSt.next {ks : List Int} {j : Nat} (h : KSt ks j) (h1 : 1 ≤ ks.getD j 0 ∧ ks.getD j 0 ≤ 7) (h2 : ∀ i, i < j → ks.getD i 0 ≠ ks.getD j 0) : KSt ks (j + 1) := fun i hi => by
  by_cases e : i = j
  · subst e; exact ⟨h1, h2⟩
  · exact h i (by omega)
noncomputable def kindsB (ks : List Int) : Bool := @decide (KOk ks) (Classical.propDecidable _)
theorem kindsB_t {ks : List Int} (h : KOk ks) : kindsB ks = true := by unfold kindsB; exact @decide_eq_true _ (Classical.propDecidable _) h
theorem kindsB_f {ks : List Int} (h : ¬ KOk ks) : kindsB ks = false := by unfold kindsB; exact @decide_eq_false _ (Classical.propDecidable _) h
theorem kinds_fn {G : Gl} (ho : ∀ f x y, G.orc f (x :: y) = none) {ka : AV} {ks : List Int} (hk : SlV 1 ka (ints ks)) (hl : ks.length ≤ 9223372036854775807) : FnC Try.prog G 18 [ka] [] (fun v Hn => v = .s (.bool (kindsB ks)) ∧ Hn = []) := by
  have hil := ints_len ks
  refine Fn_body (N := 40) (ho _ _ _) Try.func18 rfl rfl fun B => ?_
  repeat' (first
    | refine SC_seq ?_
    | refine SC_block ?_
    | refine SC_region ?_
    | refine SL_seq ?_
    | refine SL_assign (by decide) (by rfl) ?_
    | fail)
  refine SC_loop (fun j : Nat => [(0, ka), (3, .s (.int .i64 j))]) (fun _ => []) (fun _ => []) (fun j => j ≤ ks.length ∧ KSt ks j) (fun j => ks.length - j) 0 ⟨by omega, fun i hi => by omega⟩ ⟨rfl, rfl, trivial⟩ trivial List.nodup_nil rfl ?_
  rintro j ⟨hj, hst⟩
  by_cases hlt : j < ks.length
  ·
    repeat' (first
      | refine SL_len_v (by decide) (by rfl) hk (by rfl) sl37 hil ?_
      | refine SL_indexAddr_v (by decide) (by rfl) (by rfl) hk sl37 j (by omega) (by omega) (fun ad => ?_)
      | refine SC_seq ?_
      | refine SC_block ?_
      | refine SC_region ?_
      | refine SL_seq ?_
      | refine SL_run (by rfl) (by rfl) ?_
      | refine SL_not (by rfl) (by rfl) (by rfl) (by decide) ?_
      | refine SL_move (by decide) (by rfl) ?_
      | refine SL_assign (by decide) (by rfl) ?_
      | refine SL_pick_t (by decide) (by rfl) (by rfl) ?_
      | refine SL_pick_f (by decide) (by rfl) (by rfl) ?_
      | (refine SL_lss (by decide) (by rfl) (by rfl) (fun hT => ?_) (fun hT => ?_) <;> first | (exfalso; omega) | skip)
      | (refine SL_gtr (by decide) (by rfl) (by rfl) (fun hT => ?_) (fun hT => ?_) <;> first | (exfalso; omega) | skip)
      | refine SL_load_r (by decide) (by rfl) (rowF (by rfl)) (by first | assumption | rfl | exact ints_getD _ (by omega)) (by rfl) ?_
      | refine SC_cond_t (by rfl) ?_
      | refine SC_cond_f (by rfl) ?_
      | (refine SC_skip' (fun tm σ hE hH => ?_); refine SC.app ?_ hE hH; clear hE hH; clear tm σ)
      | fail)
    · refine SC_ret (fun tm σ hE hH => Post.intro (Hn := []) (.inr rfl) hE hH (by rfl) trivial List.nodup_nil (fun p hp => by cases hp) ⟨?_, rfl⟩)
      rw [kindsB_f fun h => by have := (h.st j hlt).1; omega]; rfl
    · refine SC_ret (fun tm σ hE hH => Post.intro (Hn := []) (.inr rfl) hE hH (by rfl) trivial List.nodup_nil (fun p hp => by cases hp) ⟨?_, rfl⟩)
      rw [kindsB_f fun h => by have := (h.st j hlt).1; omega]; rfl
    · refine SC_loop (fun i : Nat => [(0, ka), (3, .s (.int .i64 j)), (4, .s (.int .i64 i))]) (fun _ => []) (fun _ => []) (fun i => i ≤ j ∧ ∀ h, h < i → ks.getD h 0 ≠ ks.getD j 0) (fun i => j - i) 0 ⟨by omega, fun h hh => by omega⟩ ⟨rfl, rfl, rfl, trivial⟩ trivial List.nodup_nil rfl ?_
      rintro i ⟨hi, hne⟩
      by_cases hij : i < j
      ·
        repeat' (first
          | refine SL_indexAddr_v (by decide) (by rfl) (by rfl) hk sl37 i (by omega) (by omega) (fun ad => ?_)
          | refine SL_indexAddr_v (by decide) (by rfl) (by rfl) hk sl37 j (by omega) (by omega) (fun ad => ?_)
          | refine SC_seq ?_
          | refine SC_block ?_
          | refine SC_region ?_
          | refine SL_seq ?_
          | refine SL_move (by decide) (by rfl) ?_
          | refine SL_assign (by decide) (by rfl) ?_
          | refine SL_add (by decide) (by rfl) (by rfl) (by omega) (by omega) ?_
          | (refine SL_lss (by decide) (by rfl) (by rfl) (fun hT => ?_) (fun hT => ?_) <;> first | (exfalso; omega) | skip)
          | (refine SL_eql (by decide) (by rfl) (by rfl) (fun hT => ?_) (fun hT => ?_) <;> first | (exfalso; omega) | skip)
          | refine SL_load_r (by decide) (by rfl) (rowF (by rfl)) (by first | assumption | rfl | exact ints_getD _ (by omega)) (by rfl) ?_
          | refine SC_draw (by kernel_rfl) ?_
          | refine SC_cond_t (by rfl) ?_
          | refine SC_cond_f (by rfl) ?_
          | (refine SC_skip' (fun tm σ hE hH => ?_); refine SC.app ?_ hE hH; clear hE hH; clear tm σ)
          | fail)
        · refine SC_ret (fun tm σ hE hH => Post.intro (Hn := []) (.inr rfl) hE hH (by rfl) trivial List.nodup_nil (fun p hp => by cases hp) ⟨?_, rfl⟩)
          rw [kindsB_f fun h => (h.st j hlt).2 i hij (by assumption)]; rfl
        · exact SL_nil fun tm σ hE hH => ⟨i + 1, by omega, ⟨by omega, fun h hh => by
            by_cases e : h = i
            · subst e; assumption
            · exact hne h (by omega)⟩, tm, σ, rfl, hE.sub ⟨rfl, rfl, rfl, trivial⟩, hH⟩
      · obtain rfl : i = j := by omega
        repeat' (first
          | refine SC_seq ?_
          | refine SC_region ?_
          | refine SL_seq ?_
          | refine SL_move (by decide) (by rfl) ?_
          | refine SL_assign (by decide) (by rfl) ?_
          | refine SL_add (by decide) (by rfl) (by rfl) (by omega) (by omega) ?_
          | (refine SL_lss (by decide) (by rfl) (by rfl) (fun hT => ?_) (fun hT => ?_) <;> first | (exfalso; omega) | skip)
          | refine SC_cond_f (by rfl) ?_
          | (refine SC_exit (fun tm σ hE hH => ?_); refine SC.app ?_ hE hH; clear hE hH; clear tm σ)
          | fail)
        exact SL_nil fun tm σ hE hH => ⟨i + 1, by omega, ⟨by omega, hst.next ⟨by omega, by omega⟩ hne⟩, tm, σ, rfl, hE.sub ⟨rfl, rfl, trivial⟩, hH⟩
  · obtain rfl : j = ks.length := by omega
    repeat' (first
      | refine SL_len_v (by decide) (by rfl) hk (by rfl) sl37 hil ?_
      | refine SC_seq ?_
      | refine SC_region ?_
      | refine SL_seq ?_
      | refine SL_move (by decide) (by rfl) ?_
      | refine SL_assign (by decide) (by rfl) ?_
      | (refine SL_lss (by decide) (by rfl) (by rfl) (fun hT => ?_) (fun hT => ?_) <;> first | (exfalso; omega) | skip)
      | (refine SL_leq (by decide) (by rfl) (by rfl) (fun hT => ?_) (fun hT => ?_) <;> first | (exfalso; omega) | skip)
      | refine SC_cond_f (by rfl) ?_
      | (refine SC_exit (fun tm σ hE hH => ?_); refine SC.app ?_ hE hH; clear hE hH; clear tm σ)
      | fail)
    · refine SC_ret (fun tm σ hE hH => Post.intro (Hn := []) (.inr rfl) hE hH (by rfl) trivial List.nodup_nil (fun p hp => by cases hp) ⟨?_, rfl⟩)
      rw [kindsB_t (hst.ok (by omega))]; rfl
    · refine SC_ret (fun tm σ hE hH => Post.intro (Hn := []) (.inr rfl) hE hH (by rfl) trivial List.nodup_nil (fun p hp => by cases hp) ⟨?_, rfl⟩)
      rw [kindsB_f fun h => by have := h.2.2; omega]; rfl
end Go.Proofs.Ytldckcopeiginaa
/- The examples of the chapter hold: the run of known() gives true. -/
namespace Go.Proofs.Ytldckcopeiginaa
open Go.Ab
theorem names_all : (Try.prog.funcs.all fun fn => !(fn.name == "runtime.NumGoroutine")) = true := by kernel_rfl
theorem fit : Fit Try.prog := ⟨fun f fn h => by
    have := Array.all_eq_true'.1 names_all fn (Array.mem_of_getElem? h)
    simpa using this, by kernel_rfl⟩
noncomputable def isTrue : Option (AV × AS) → Bool
  | some (.s (.bool true), _) => true
  | _ => false
theorem known_run : isTrue (runCall Try.prog ⟨fun _ => none, fun _ _ => none⟩ 400 9 []) = true := by kernel_rfl
theorem known_some : ∃ σ, runCall Try.prog ⟨fun _ => none, fun _ _ => none⟩ 400 9 [] = some (.s (.bool true), σ) := by
  have h := known_run
  generalize runCall Try.prog ⟨fun _ => none, fun _ _ => none⟩ 400 9 [] = r at h
  unfold isTrue at h
  split at h
  · exact ⟨_, rfl⟩
  · cases h
end Go.Proofs.Ytldckcopeiginaa
/- What comes in as rounds is a list of lists of games. -/
namespace Go.Proofs.Ytldckcopeiginaa
open Go Go.Ab Go.ChangeShapes Go.WideShapes Go.WideElems Go.RowKit
theorem plain22 : plainTy Try.prog 8 22 = true := by kernel_rfl
theorem cells44 : Try.prog.cellsOf 44 = 1 := by kernel_rfl
theorem cells46 : Try.prog.cellsOf 46 = 3 := by kernel_rfl
theorem cells3i : Try.prog.cellsOf 3 = 1 := by kernel_rfl
theorem desc3 : Try.prog.underlying 3 = some (.int .i64) := by kernel_rfl
theorem desc22 : Try.prog.underlying 22 = some (.slice 44) := by kernel_rfl
theorem desc44 : Try.prog.underlying 44 = some (.slice 46) := by kernel_rfl
def isOffs (fs : Option TypeDesc) (l : List (TypeId × Nat)) : Bool := match fs with
  | some (.struct fs) => (fs.toList.map fun f => (f.type, f.offset)) == l
  | _ => false
theorem offs46 : isOffs (Try.prog.underlying 46) [(3, 0), (3, 1), (3, 2)] = true := by kernel_rfl
/-- A value of a slice's type, that comes in, is one cell. -/
theorem open_one {P : Program} {H : Type} {enc : TypeId × Value → H} {w : World} {r : Reach} {b0 : Nat} {spare : Nat → Bool} {held : Bool} {n : Nat} {t e : TypeId} {v : Value} {d : DataW H} {ps : List MemPlace} (ht : P.underlying t = some (.slice e)) (hp : plainTy P n t = true) (hval : Value.okWide P w r b0 t v) (hd : DataW.Trod enc P w 0 spare held t v d ps) :
    ∃ a, Conc (memOf w) (fun _ => none) a v ∧ Ty P t [a] := by
  obtain ⟨a, hc, hty⟩ := open_value hp hval hd
  obtain ⟨x, len, cap, rfl⟩ := okWide_slice ht hval
  cases a with
  | agg l => cases hc
  | s v => cases hc; exact ⟨_, .s _, hty⟩
  | _ => exact ⟨_, hc, hty⟩
theorem ty_int {t : TypeId} (ht : Try.prog.underlying t = some (.int .i64)) {args : List AV} (h : Ty Try.prog t args) : ∃ n, args = [.s (.int .i64 n)] := by
  cases h with
  | int h hw => rw [ht] at h; cases h; exact ⟨_, rfl⟩
  | bool h => rw [ht] at h; cases h
  | str h => rw [ht] at h; cases h
  | empty h => rw [ht] at h; cases h
  | rsl h => rw [ht] at h; cases h
  | struct h => rw [ht] at h; cases h
  | array h => rw [ht] at h; cases h
theorem len3 {α : Type} : ∀ {l : List α}, l.length = 3 → ∃ a b c, l = [a, b, c]
  | [a, b, c], _ => ⟨a, b, c, rfl⟩
  | [], h => by cases h
  | [_], h => by cases h
  | [_, _], h => by cases h
  | _ :: _ :: _ :: _ :: _, h => by simp at h
theorem ty_game {args : List AV} (h : Ty Try.prog 46 args) : ∃ g, args = cells3 g := by
  have ho := offs46
  unfold isOffs at ho
  cases h with
  | struct h hl hf =>
    rw [h] at ho
    rw [cells46] at hl
    simp only [beq_iff_eq] at ho
    obtain ⟨a, b, c, rfl⟩ := len3 hl
    have hm : ∀ p ∈ [((3 : TypeId), 0), (3, 1), (3, 2)], Ty Try.prog p.1 (([a, b, c].drop p.2).take (Try.prog.cellsOf p.1)) := fun p hp => by
      rw [← ho] at hp
      obtain ⟨f, hfm, rfl⟩ := List.mem_map.1 hp
      exact hf f hfm
    have h0 := hm (3, 0) (by simp)
    have h1 := hm (3, 1) (by simp)
    have h2 := hm (3, 2) (by simp)
    simp only [cells3i] at h0 h1 h2
    obtain ⟨x, hx⟩ := ty_int desc3 h0
    obtain ⟨y, hy⟩ := ty_int desc3 h1
    obtain ⟨z, hz⟩ := ty_int desc3 h2
    simp at hx hy hz
    subst hx hy hz
    exact ⟨⟨x, y, z⟩, rfl⟩
  | int h hw => rw [h] at ho; cases ho
  | bool h => rw [h] at ho; cases ho
  | str h => rw [h] at ho; cases ho
  | empty h => rw [h] at ho; cases ho
  | rsl h => rw [h] at ho; cases ho
  | array h => rw [h] at ho; cases ho
theorem le_max {n : Nat} (h : n ≤ maxLen) : n ≤ 9223372036854775807 := by unfold maxLen at h; omega
theorem games_of : ∀ (rows : List (List AV)), (∀ r ∈ rows, Ty Try.prog 46 r) → ∃ gs : List Sc, rows = gs.map cells3
  | [], _ => ⟨[], rfl⟩
  | r :: rows, h => by
    obtain ⟨g, rfl⟩ := ty_game (h r List.mem_cons_self)
    obtain ⟨gs, rfl⟩ := games_of rows fun r hr => h r (List.mem_cons_of_mem _ hr)
    exact ⟨g :: gs, rfl⟩
theorem ty_round {x : AV} (h : Ty Try.prog 44 [x]) : ∃ gs, GV gs x ∧ gs.length ≤ 9223372036854775807 := by
  cases h with
  | empty h hc => exact ⟨[], .nil, by simp⟩
  | rsl h hp hn hc hl hr =>
    rw [desc44] at h; cases h
    obtain ⟨gs, rfl⟩ := games_of _ hr
    rw [cells46]
    refine ⟨gs, .rsl hp, ?_⟩
    rw [List.length_map] at hn
    exact Nat.le_trans hn (le_max hc)
  | int h hw => rw [desc44] at h; cases h
  | bool h => rw [desc44] at h; cases h
  | str h => rw [desc44] at h; cases h
  | struct h => rw [desc44] at h; cases h
  | array h => rw [desc44] at h; cases h
theorem rounds_of : ∀ (rows : List (List AV)), (∀ r ∈ rows, r.length = 1 ∧ Ty Try.prog 44 r) → ∃ (xs : List AV) (rs : List (List Sc)), rows = (xs.map fun x => [x]) ∧ xs.length = rs.length ∧ (∀ (i : Nat) (h : i < rs.length) (h' : i < xs.length), GV rs[i] xs[i]) ∧ ∀ gs ∈ rs, gs.length ≤ 9223372036854775807
  | [], _ => ⟨[], [], rfl, rfl, fun i h => (by cases h), fun gs h => (by cases h)⟩
  | r :: rows, h => by
    obtain ⟨h1, h2⟩ := h r List.mem_cons_self
    obtain ⟨xs, rs, rfl, hlen, hat, heach⟩ := rounds_of rows fun r hr => h r (List.mem_cons_of_mem _ hr)
    match r, h1 with
    | [x], _ =>
      obtain ⟨gs, hg, hb⟩ := ty_round h2
      refine ⟨x :: xs, gs :: rs, rfl, by simp [hlen], fun i hi hi' => ?_, fun g hg' => ?_⟩
      · cases i with
        | zero => exact hg
        | succ i => exact hat i (by simpa using hi) (by simpa using hi')
      · rcases List.mem_cons.1 hg' with rfl | hg'
        · exact hb
        · exact heach g hg'
theorem ty_rounds {a : AV} (h : Ty Try.prog 22 [a]) : ∃ rs xs, RV rs a xs := by
  cases h with
  | empty h hc => exact ⟨[], [], ⟨.nil, rfl, fun i hi => (by cases hi), by simp, fun gs hg => (by cases hg)⟩⟩
  | rsl h hp hn hc hl hr =>
    rw [desc22] at h; cases h
    rw [cells44] at hl ⊢
    obtain ⟨xs, rs, rfl, hlen, hat, heach⟩ := rounds_of _ fun r hr' => ⟨hl r hr', hr r hr'⟩
    refine ⟨rs, xs, ⟨.rsl hp, hlen, hat, ?_, heach⟩⟩
    rw [List.length_map, hlen] at hn
    exact Nat.le_trans hn (le_max hc)
  | int h hw => rw [desc22] at h; cases h
  | bool h => rw [desc22] at h; cases h
  | str h => rw [desc22] at h; cases h
  | struct h => rw [desc22] at h; cases h
  | array h => rw [desc22] at h; cases h

/-- The law's frame: from a contract to a run. -/
theorem given9 : Given Try.prog (oneOrc 9 (.bool true)) := by
  obtain ⟨σ, h⟩ := known_some
  exact oneOrc_given fit Try.func9 (by rfl) h
theorem run_of {f : FuncId} {args : List AV} (h : FnC Try.prog (oneOrc 9 (.bool true)) f args [] (fun v Hn => v = .s (.bool true) ∧ Hn = [])) : ∃ n σ, runCall Try.prog (oneOrc 9 (.bool true)) n f args = some (.s (.bool true), σ) := by
  obtain ⟨n, v, σ, h1, Hn, _, _, rfl, _⟩ := wpf_run (h ⟨.e, 0, none⟩ (.start rfl (fun id _ => by simp [Tr.get_e]) List.nodup_nil (fun p hp => by cases hp)))
  exact ⟨n, σ, h1⟩
theorem laidOut : laidOutB Try.prog = true := by kernel_rfl
theorem own : ownKnob Try.prog.godebug = none := by kernel_rfl
end Go.Proofs.Ytldckcopeiginaa
/- Value on rounds of one's own. -/
namespace Go.Proofs.Ytldckcopeiginaa
open Go Go.Ab
def OwnR (σ : AS) (a : AV) (rs : List (List Sc)) : Prop := ∃ xs : List AV, OwnS σ 1 a (xs.map fun x => [x]) ∧ xs.length = rs.length ∧ ∀ (i : Nat) (h : i < rs.length) (h' : i < xs.length), OwnS σ 3 xs[i] (rs[i].map cells3)
theorem cells3_inj : ∀ {gs gs' : List Sc}, gs.map cells3 = gs'.map cells3 → gs = gs'
  | [], [], _ => rfl
  | [], _ :: _, h => by simp at h
  | _ :: _, [], h => by simp at h
  | ⟨a, b, c⟩ :: gs, ⟨a', b', c'⟩ :: gs', h => by
    simp only [List.map_cons, List.cons.injEq, cells3, AV.s.injEq, Value.int.injEq, true_and, and_true] at h
    obtain ⟨⟨rfl, rfl, rfl⟩, h⟩ := h
    rw [cells3_inj h]
theorem OwnR.uniq {σ : AS} {a : AV} {rs rs' : List (List Sc)} (h : OwnR σ a rs) (h' : OwnR σ a rs') : rs = rs' := by
  obtain ⟨xs, h1, h2, h3⟩ := h
  obtain ⟨xs', h1', h2', h3'⟩ := h'
  have e := h1.uniq h1'
  have e2 : xs = xs' := by
    have h := congrArg (List.map fun r : List AV => r.headD uv) e
    rw [List.map_map, List.map_map] at h
    have hid : ((fun r : List AV => r.headD uv) ∘ fun x => [x]) = id := rfl
    rw [hid, List.map_id, List.map_id] at h
    exact h
  subst e2
  refine List.ext_getElem (h2.symm.trans h2') fun i hi hi' => ?_
  exact cells3_inj ((h3 i hi (by omega)).uniq (h3' i hi' (by omega)))
theorem OwnR.le {σ σ₂ : AS} {N : Nat} {a : AV} {rs : List (List Sc)} (h : OwnR σ a rs) (hl : Le N σ σ₂) : OwnR σ₂ a rs := by
  obtain ⟨xs, h1, h2, h3⟩ := h
  exact ⟨xs, h1.le hl, h2, fun i h h' => (h3 i h h').le hl⟩
theorem ownS_lift {σ : AS} {es : Nat} {a : AV} {rows : List (List AV)} (h : OwnS σ es a rows) {B w : World} {ρ ρ' : Rho} {v : Value} (hrep : Rep B ρ σ w) (hc : Conc (memOf B) ρ a v) {Q : List (List AV) → Prop}
    (f : ∀ vs, Concs (memOf B) ρ rows.flatten vs → ∃ rows', rows'.length = rows.length ∧ (∀ r ∈ rows', r.length = es) ∧ Q rows' ∧ Concs (memOf w) ρ' rows'.flatten vs) : ∃ a' rows', Q rows' ∧ SlV es a' rows' ∧ Conc (memOf w) ρ' a' v := by
  rcases h.laid hrep hc with ⟨rfl, rfl, rfl⟩ | ⟨b, cap, hcap, rfl, c, e, hm, hl, hcs⟩
  · obtain ⟨rows', h1, h2, h3, h4⟩ := f [] .nil
    obtain rfl := List.eq_nil_of_length_eq_zero h1
    exact ⟨_, [], h3, .nil, .s _⟩
  · obtain ⟨rows', h1, h2, h3, h4⟩ := f _ hcs
    by_cases h0 : rows'.length = 0
    · obtain rfl := List.eq_nil_of_length_eq_zero h0
      rw [← h1]
      exact ⟨.s (.slice (some ⟨b, 0, none⟩) 0 cap), [], h3, .nil, .s _⟩
    · refine ⟨.rsl ⟨b, 0, none⟩ es cap rows', rows', h3, .rsl (by omega), ?_⟩
      rw [← h1] at hcs h4 hcap ⊢
      exact .rsl (.mk hm h2 (by rw [List.drop_zero]; exact h4)) hcap
theorem round_lift {σ : AS} {x : AV} {gs : List Sc} (h : OwnS σ 3 x (gs.map cells3)) {B w : World} {ρ ρ' : Rho} {v : Value} (hrep : Rep B ρ σ w) (hc : Conc (memOf B) ρ x v) : ∃ x', GV gs x' ∧ Conc (memOf w) ρ' x' v := by
  obtain ⟨a', rows', rfl, h2, h3⟩ := ownS_lift h (ρ' := ρ') hrep hc (Q := fun r => r = gs.map cells3) fun vs hvs => ⟨_, rfl, fun r hr => by
    obtain ⟨g, _, rfl⟩ := List.mem_map.1 hr; rfl, rfl, hvs.plain fun a ha => by
    obtain ⟨r, hr, har⟩ := List.mem_flatten.1 ha
    obtain ⟨g, _, rfl⟩ := List.mem_map.1 hr
    simp only [cells3, List.mem_cons, List.not_mem_nil, or_false] at har
    rcases har with rfl | rfl | rfl <;> exact ⟨_, rfl⟩⟩
  exact ⟨a', h2, h3⟩
theorem rounds_lift {σ : AS} {B w : World} {ρ ρ' : Rho} (hrep : Rep B ρ σ w) : ∀ {xs : List AV} {rs : List (List Sc)} {vs : List Value}, xs.length = rs.length → (∀ (i : Nat) (h : i < rs.length) (h' : i < xs.length), OwnS σ 3 xs[i] (rs[i].map cells3)) →
    Concs (memOf B) ρ (xs.map fun x => [x]).flatten vs → ∃ xs' : List AV, xs'.length = rs.length ∧ (∀ (i : Nat) (h : i < rs.length) (h' : i < xs'.length), GV rs[i] xs'[i]) ∧ Concs (memOf w) ρ' (xs'.map fun x => [x]).flatten vs
  | [], [], _, _, _, h => by cases h; exact ⟨[], rfl, fun i h => (by cases h), .nil⟩
  | x :: xs, gs :: rs, _, hl, ho, h => by
    rw [List.map_cons, List.flatten_cons, List.singleton_append] at h
    cases h with
    | cons hx ht =>
      obtain ⟨x', h1, h2⟩ := round_lift (ρ' := ρ') (ho 0 (by simp) (by simp)) hrep hx
      obtain ⟨xs', h3, h4, h5⟩ := rounds_lift (ρ' := ρ') hrep (by simpa using hl) (fun i h h' => ho (i + 1) (by simpa using h) (by simpa using h')) ht
      refine ⟨x' :: xs', by simp [h3], fun i h h' => ?_, .cons h2 h5⟩
      cases i with
      | zero => exact h1
      | succ i => exact h4 i (by simpa using h) (by simpa using h')
  | [], _ :: _, _, h, _, _ => by simp at h
  | _ :: _, [], _, h, _, _ => by simp at h
theorem OwnR.lift {σ : AS} {a : AV} {rs : List (List Sc)} (h : OwnR σ a rs) (hr : rs.length ≤ 10) (hf : ∀ gs ∈ rs, gs.length ≤ 12) {B w : World} {ρ ρ' : Rho} {v : Value} (hrep : Rep B ρ σ w) (hc : Conc (memOf B) ρ a v) :
    ∃ a' xs', RV rs a' xs' ∧ Conc (memOf w) ρ' a' v := by
  obtain ⟨xs, h1, h2, h3⟩ := h
  obtain ⟨a', rows', ⟨xs', rfl, h4, h5⟩, h6, h7⟩ := ownS_lift h1 (ρ' := ρ') hrep hc (Q := fun r => ∃ xs' : List AV, r = (xs'.map fun x => [x]) ∧ xs'.length = rs.length ∧ (∀ (i : Nat) (h : i < rs.length) (h' : i < xs'.length), GV rs[i] xs'[i])) fun vs hvs => by
    obtain ⟨xs', h4, h5, h6⟩ := rounds_lift (ρ' := ρ') hrep h2 h3 hvs
    exact ⟨_, by simp [h4, h2], fun r hr => by obtain ⟨x, _, rfl⟩ := List.mem_map.1 hr; rfl, ⟨xs', rfl, h4, h5⟩, h6⟩
  exact ⟨a', xs', ⟨h6, h4, h5, by omega, fun gs hgs => by have := hf gs hgs; omega⟩, h7⟩

/-! ### The contract -/
def valT (rs : List (List Sc)) (i k : Nat) : Int := lawV (LS.of (fun x => sumT rs x) i (evU rs i rs.length)) (progE rs.length (evU rs i rs.length)) k
def Own15 (n : Int) (a : AV) (k i : Int) (σ : AS) (rs : List (List Sc)) : Prop := OwnR σ a rs ∧ VOk n rs ∧ rs.length ≤ 10 ∧ (∀ gs ∈ rs, gs.length ≤ 12) ∧ 0 ≤ i ∧ i < n ∧ 1 ≤ k ∧ k ≤ 7
open Classical in
noncomputable def own15 (n : Int) (a : AV) (k i : Int) (σ : AS) : Option (AV × AS) :=
  if h : ∃ rs, Own15 n a k i σ rs then some (.s (.tuple #[.int .i64 (valT h.choose i.toNat k.toNat), .int .i64 0]), σ) else none
theorem own15_of {n : Int} {a : AV} {k i : Int} {σ : AS} {rs : List (List Sc)} (h : Own15 n a k i σ rs) : own15 n a k i σ = some (.s (.tuple #[.int .i64 (valT rs i.toNat k.toNat), .int .i64 0]), σ) := by
  unfold own15
  have hh : ∃ rs, Own15 n a k i σ rs := ⟨rs, h⟩
  rw [dif_pos hh, hh.choose_spec.1.uniq h.1]
theorem own15_some {n : Int} {a : AV} {k i : Int} {σ : AS} {x : AV × AS} (h : own15 n a k i σ = some x) : ∃ rs, Own15 n a k i σ rs ∧ x = (.s (.tuple #[.int .i64 (valT rs i.toNat k.toNat), .int .i64 0]), σ) := by
  unfold own15 at h
  split at h
  · rename_i hh
    cases h
    exact ⟨_, hh.choose_spec, rfl⟩
  · cases h
theorem run15 {G : Gl} {v : AV} {f : FuncId} {args : List AV} (h : FnC Try.prog G f args [] (fun x Hn => x = v ∧ Hn = [])) : ∃ n σ, runCall Try.prog G n f args = some (v, σ) := by
  obtain ⟨n, v', σ, h1, Hn, _, _, rfl, _⟩ := wpf_run (h ⟨.e, 0, none⟩ (.start rfl (fun id _ => by simp [Tr.get_e]) List.nodup_nil (fun p hp => by cases hp)))
  exact ⟨n, σ, h1⟩
theorem own15_ctr (n : Int) (a : AV) (k i : Int) : Ctr Try.prog (oneOrc 9 (.bool true)) 15 [.s (.int .i64 n), a, .s (.int .i64 k), .s (.int .i64 i)] (own15 n a k i) := by
  refine own_ctr fit given9 (fun _ => rfl) ⟨_, Try.func15, rfl⟩ (fun σ v σ' h => ?_) (fun σ v σ' h N σ₂ hl => ?_)
  · obtain ⟨rs, ⟨h1, h2, h3, h4, h5, h6, h7, h8⟩, he⟩ := own15_some h
    cases he
    refine ⟨rfl, _, rfl, fun B ρ w vs hrep hc => ?_⟩
    cases hc with
    | cons hn hc => cases hc with
      | cons ha hc => cases hc with
        | cons hk hc => cases hc with
          | cons hi hc =>
            cases hc; cases hn; cases hk; cases hi
            obtain ⟨a', xs', h9, h10⟩ := h1.lift (ρ' := fun _ => none) h3 h4 hrep ha
            obtain ⟨m, rfl⟩ : ∃ m : Nat, n = m := ⟨n.toNat, by omega⟩
            obtain ⟨i, rfl⟩ : ∃ j : Nat, i = j := ⟨i.toNat, by omega⟩
            obtain ⟨k, rfl⟩ : ∃ j : Nat, k = j := ⟨k.toNat, by omega⟩
            have h15 := api15_t (G := oneOrc 9 (.bool true)) h9 h4 (fun f a b => oneOrc_off (by simp)) h2 h3 i (by omega) k (by omega) (by omega)
            obtain ⟨nn, σk, hrun⟩ := run15 (h15.mono fun v Hn hv => (by
              obtain ⟨x, rfl, rfl, rfl⟩ := hv
              exact ⟨rfl, rfl⟩ : v = .s (.tuple #[.int .i64 (valT rs (i : Int).toNat (k : Int).toNat), .int .i64 0]) ∧ Hn = []))
            exact ⟨_, nn, σk, .cons (.s _) (.cons h10 (.cons (.s _) (.cons (.s _) .nil))), hrun⟩
  · obtain ⟨rs, h1, he⟩ := own15_some h
    cases he
    exact own15_of ⟨h1.1.le hl, h1.2⟩
#print axioms own15_ctr
end Go.Proofs.Ytldckcopeiginaa
/- The places along an order. -/
namespace Go.Proofs.Ytldckcopeiginaa
open Go.Ab
/-- The value of a kind for a player. -/
def kval (rs : List (List Sc)) (i : Nat) (k : Int) : Int := lawV (LS.of (fun x => sumT rs x) i (evU rs i rs.length)) (progE rs.length (evU rs i rs.length)) k.toNat
def keyOf (rs : List (List Sc)) (ks : List Int) (i : Nat) : List Int := sumT rs i :: ks.map (kval rs i)
theorem keyOf_len (rs : List (List Sc)) (ks : List Int) (i : Nat) : (keyOf rs ks i).length = 1 + ks.length := by simp [keyOf]; omega
def iota (n : Nat) : List Int := (List.range n).map fun x : Nat => (x : Int)
theorem iota_len (n : Nat) : (iota n).length = n := by simp [iota]
theorem iota_nodup (n : Nat) : (iota n).Nodup := by
  refine List.pairwise_iff_getElem.2 fun i j hi hj hij => ?_
  simp [iota]; omega
theorem iota_mem {n : Nat} {x : Int} (h : x ∈ iota n) : 0 ≤ x ∧ x < n := by
  unfold iota at h
  obtain ⟨y, hy, rfl⟩ := List.mem_map.1 h
  have := List.mem_range.1 hy
  omega
theorem iota_next (i : Nat) : iota i ++ [(i : Int)] = iota (i + 1) := by unfold iota; rw [List.range_succ]; simp
/-- The place of the player at a. -/
def plOf (key : Nat → List Int) (ord : List Int) : Nat → Int
  | 0 => 1
  | a + 1 => if key (ord.getD (a + 1) 0).toNat = key (ord.getD a 0).toNat then plOf key ord a else a + 2
theorem plOf_pos (key : Nat → List Int) (ord : List Int) {a : Nat} (h : 0 < a) : plOf key ord a = if key (ord.getD a 0).toNat = key (ord.getD (a - 1) 0).toNat then plOf key ord (a - 1) else a + 1 := by
  obtain ⟨b, rfl⟩ : ∃ b, a = b + 1 := ⟨a - 1, by omega⟩
  show (if _ then _ else _) = _
  rw [Nat.add_sub_cancel]
  split
  · rfl
  · show (b : Int) + 2 = ((b + 1 : Nat) : Int) + 1
    omega
theorem place_set {ord pls : List Int} {i a x : Nat} {f : Nat → Int} (hol : ord.length = i) (hpl : pls.length = i) (hon : ord.Nodup) (hbd : ∀ a, a < i → 0 ≤ ord.getD a 0 ∧ ord.getD a 0 < i) (hx : ord.getD a 0 = x) (ha : a < i) (hpa : ∀ b, b < a → pls.getD (ord.getD b 0).toNat 0 = f b) {v : Int} (hv : v = f a) :
    ∀ b, b < a + 1 → (pls.set x v).getD (ord.getD b 0).toNat 0 = f b := by
  intro b hb
  have hxi := hbd a ha
  rw [getD_set _ _ _ (by omega)]
  by_cases e : b = a
  · subst e
    rw [hx, Int.toNat_natCast, if_pos rfl, hv]
  · have hne := getD_ne hon (p := b) (q := a) (by omega) (by omega) e
    have hbb := hbd b (by omega)
    rw [if_neg (by omega)]
    exact hpa b (by omega)
theorem place_eq {ord pls : List Int} {i a x y : Nat} {key : Nat → List Int} (hol : ord.length = i) (hpl : pls.length = i) (hon : ord.Nodup) (hbd : ∀ a, a < i → 0 ≤ ord.getD a 0 ∧ ord.getD a 0 < i) (hx : ord.getD a 0 = x) (hy : ord.getD (a - 1) 0 = y) (ha : a < i) (ha0 : 0 < a) (hxy : x ≠ y) (hpa : ∀ b, b < a → pls.getD (ord.getD b 0).toNat 0 = plOf key ord b) (hk : key x = key y) (w : Int) :
    ∀ b, b < a + 1 → ((pls.set x w).set x ((pls.set x w).getD y 0)).getD (ord.getD b 0).toNat 0 = plOf key ord b := by
  rw [List.set_set]
  have hxi := hbd a ha
  refine place_set hol hpl hon hbd hx ha hpa ?_
  rw [getD_set _ _ _ (by omega), if_neg (fun e => hxy e.symm), plOf_pos _ _ ha0, hx, hy, Int.toNat_natCast, Int.toNat_natCast, if_pos hk]
  have := hpa (a - 1) (by omega)
  rwa [hy, Int.toNat_natCast] at this
theorem place_ne {ord pls : List Int} {i a x y : Nat} {key : Nat → List Int} (hol : ord.length = i) (hpl : pls.length = i) (hon : ord.Nodup) (hbd : ∀ a, a < i → 0 ≤ ord.getD a 0 ∧ ord.getD a 0 < i) (hx : ord.getD a 0 = x) (hy : ord.getD (a - 1) 0 = y) (ha : a < i) (ha0 : 0 < a) (hpa : ∀ b, b < a → pls.getD (ord.getD b 0).toNat 0 = plOf key ord b) (hk : key x ≠ key y) :
    ∀ b, b < a + 1 → (pls.set x ((a : Int) + 1)).getD (ord.getD b 0).toNat 0 = plOf key ord b := by
  refine place_set hol hpl hon hbd hx ha hpa ?_
  rw [plOf_pos _ _ ha0, hx, hy, Int.toNat_natCast, Int.toNat_natCast, if_neg hk]
theorem place_0 {ord pls : List Int} {i x : Nat} {key : Nat → List Int} (hol : ord.length = i) (hpl : pls.length = i) (hon : ord.Nodup) (hbd : ∀ a, a < i → 0 ≤ ord.getD a 0 ∧ ord.getD a 0 < i) (hx : ord.getD 0 0 = x) (ha : 0 < i) :
    ∀ b, b < 0 + 1 → (pls.set x (((0 : Nat) : Int) + 1)).getD (ord.getD b 0).toNat 0 = plOf key ord b :=
  place_set hol hpl hon hbd hx ha (fun b hb => absurd hb (Nat.not_lt_zero _)) rfl
end Go.Proofs.Ytldckcopeiginaa
/- The law's own order. -/
namespace Go.Proofs.Ytldckcopeiginaa
open Go.Ab
attribute [local irreducible] SC SL wpc wpl wpd wpf wpy wpn FnC FnW RdW SD
set_option maxRecDepth 100000
set_option pp.deepTerms false
set_option pp.maxSteps 900
set_option maxHeartbeats 4000000
theorem lex_at {a b : List Int} {k : Nat} (ha : k < a.length) (hb : k < b.length) : lexC (a.drop k) (b.drop k) = if a.getD k 0 = b.getD k 0 then lexC (a.drop (k + 1)) (b.drop (k + 1)) else cmp3 (a.getD k 0) (b.getD k 0) := by
  rw [drop_getD ha, drop_getD hb]
  conv => lhs; unfold lexC
theorem slV_id {es : Nat} {a : AV} {rows : List (List AV)} (h : SlV es a rows) : idOf a = none := by cases h <;> rfl
theorem ahead_fn {G : Gl} {rs : List (List Sc)} {ra : AV} {xs : List AV} (h : RV rs ra xs) (hf : ∀ gs ∈ rs, gs.length ≤ 12) (ho : ∀ f x y, G.orc f (x :: y) = none) {n : Nat} (hv : VOk n rs) {ka : AV} {ks : List Int} (hk : SlV 1 ka (ints ks)) (hkok : KOk ks) (a b : Nat) (ha : a < n) (hb : b < n) (sc : Nat) :
    FnC Try.prog G 19 [.sl sc 0 n none, ra, ka, .s (.int .i64 a), .s (.int .i64 b)] [(sc, .cells 3 1 true (tab n (fun x => sumT rs x)))] (fun v Hn => v = .s (.bool (decide (lexC (keyOf rs ks b) (keyOf rs ks a) < 0))) ∧ Hn = []) := by
  have hil := ints_len ks
  have hk7 := hkok.2.2
  have h16 : ∀ i : Nat, i < n → ∀ j : Nat, j < ks.length → FnC Try.prog G 16 [.sl sc 0 n none, ra, .s (.int .i64 (ks.getD j 0)), .s (.int .i64 i)] [(sc, .cells 3 1 true (tab n (fun x => sumT rs x)))] (fun v Hn => v = .s (.int .i64 (kval rs i (ks.getD j 0))) ∧ Hn = []) := fun i hi j hj => by
    have hkj := hkok.1 _ (getD_mem hj)
    have := lawValue_fn (G := G) h hf hv ho (fun x => sumT rs x) (sumT_F hf hv) i hi (ks.getD j 0).toNat (by omega) (by omega) sc
    rw [show (((ks.getD j 0).toNat : Nat) : Int) = ks.getD j 0 by omega] at this
    exact this
  have hL0 : lexC (keyOf rs ks b) (keyOf rs ks a) = if sumT rs b = sumT rs a then lexC ((keyOf rs ks b).drop 1) ((keyOf rs ks a).drop 1) else cmp3 (sumT rs b) (sumT rs a) := by
    conv => lhs; unfold keyOf lexC
    rfl
  have hkg : ∀ i j : Nat, j < ks.length → (keyOf rs ks i).getD (1 + j) 0 = kval rs i (ks.getD j 0) := fun i j hj => by
    rw [getD_at _ (by rw [keyOf_len]; omega), getD_at _ hj]
    unfold keyOf
    simp only [show 1 + j = j + 1 by omega, List.getElem_cons_succ, List.getElem_map]
  refine Fn_body (N := 60) (ho _ _ _) Try.func19 rfl rfl fun B => ?_
  have hidk := slV_id hk
  repeat' (first
    | refine SC_seq ?_
    | refine SC_block ?_
    | refine SC_region ?_
    | refine SL_seq ?_
    | refine SL_move (by decide) (by rfl) ?_
    | refine SL_assign (by decide) (by rfl) ?_
    | (refine SL_gtr (by decide) (by rfl) (by rfl) (fun hT => ?_) (fun hT => ?_) <;> first | (exfalso; omega) | skip)
    | (refine SL_neq (by decide) (by rfl) (by rfl) (fun hT => ?_) (fun hT => ?_) <;> first | (exfalso; omega) | skip)
    | refine SL_indexAddr_0 (by decide) (by rfl) (by rfl) (by repeat (first | exact .head _ | refine .tail _ ?_)) (slF (by rfl)) _ (by first | rfl | exact (Int.toNat_of_nonneg (by omega)).symm) (by omega) ?_
    | refine SL_load_o (by decide) (by rfl) (by repeat (first | exact .head _ | refine .tail _ ?_)) (rowF (by rfl)) (by first | assumption | rfl | exact tab_get _ _ (by omega) | exact ints_getD _ (by omega)) (by rfl) ?_
    | refine SC_draw (by kernel_rfl) ?_
    | refine SC_cond_t (by rfl) ?_
    | refine SC_cond_f (by rfl) ?_
    | (refine SC_skip' (fun tm σ hE hH => ?_); refine SC.app ?_ hE hH; clear hE hH; clear tm σ)
    | fail)
  · refine SC_ret (fun tm σ hE hH => Post.intro (Hn := []) (.inr rfl) hE hH (by rfl) trivial List.nodup_nil (fun p hp => by cases hp) ⟨?_, rfl⟩)
    rw [hL0, if_neg (by omega)]; unfold cmp3; rw [if_pos (by omega)]; rfl
  · refine SC_ret (fun tm σ hE hH => Post.intro (Hn := []) (.inr rfl) hE hH (by rfl) trivial List.nodup_nil (fun p hp => by cases hp) ⟨?_, rfl⟩)
    rw [hL0, if_neg (by omega)]; unfold cmp3; rw [if_neg (by omega), if_pos (by omega)]; rfl
  refine SC_loop (fun j : Nat => [(0, .sl sc 0 n none), (1, ra), (2, ka), (3, .s (.int .i64 a)), (4, .s (.int .i64 b)), (11, .s (.int .i64 j))]) (fun _ => [(sc, .cells 3 1 true (tab n (fun x => sumT rs x)))]) (fun _ => []) (fun j => j ≤ ks.length ∧ lexC (keyOf rs ks b) (keyOf rs ks a) = lexC ((keyOf rs ks b).drop (1 + j)) ((keyOf rs ks a).drop (1 + j))) (fun j => ks.length - j) 0 ⟨by omega, by rw [hL0, if_pos (by omega)]⟩ ⟨rfl, rfl, rfl, rfl, rfl, rfl, trivial⟩ ⟨.head _, trivial⟩ (by simp) rfl ?_
  rintro j ⟨hj, hlex⟩
  by_cases hjlt : j < ks.length
  · rw [lex_at (by rw [keyOf_len]; omega) (by rw [keyOf_len]; omega), hkg b j hjlt, hkg a j hjlt] at hlex
    repeat' (first
      | (refine SD_nil (fun tm σ hE hH => ⟨[], _, _, _, _, rfl, hE, hH, fun _ h => (by cases h), ?_⟩); clear hE hH; clear tm σ; intro tm σ hE hH; refine SC.app ?_ hE hH; clear hE hH; clear tm σ)
      | (refine SL_call (by decide) (by rfl) bd16 (by rfl) (by rfl) (h16 b hb j hjlt) ⟨.head _, trivial⟩ (by simp) ?_; rintro _ _ _ ⟨rfl, rfl⟩; rw [List.nil_append])
      | (refine SL_call (by decide) (by rfl) bd16 (by rfl) (by rfl) (h16 a ha j hjlt) ⟨.head _, trivial⟩ (by simp) ?_; rintro _ _ _ ⟨rfl, rfl⟩; rw [List.nil_append])
      | refine SD_op (i := 7) [] [(13, sc), (12, sc)] (by rfl) (by rfl) (fun _ h => h) (fun p hp => by simp only [List.mem_cons, List.not_mem_nil, or_false] at hp; rcases hp with rfl | rfl <;> simp) (fun k hk => by simp only [List.mem_cons, List.not_mem_nil, or_false] at hk; rcases hk with rfl | rfl; exact ⟨sc, .head _, by simp, hscB⟩; exact ⟨sc, .tail _ (.head _), by simp, hscB⟩) (.inl rfl) ?_
      | refine SD_op (i := 17) [] [(13, sc), (12, sc)] (by rfl) (by rfl) (fun _ h => h) (fun p hp => by simp only [List.mem_cons, List.not_mem_nil, or_false] at hp; rcases hp with rfl | rfl <;> simp) (fun k hk => by cases hk) (.inl rfl) ?_
      | refine SD_op (i := 16) [] [(13, sc), (12, sc)] (by rfl) (by rfl) (fun _ h => h) (fun p hp => by simp only [List.mem_cons, List.not_mem_nil, or_false] at hp; rcases hp with rfl | rfl <;> simp) (fun k hk => by cases hk) (.inl rfl) ?_
      | refine SD_op (i := 15) [] [(13, sc), (12, sc)] (by rfl) (by rfl) (fun _ h => h) (fun p hp => by simp only [List.mem_cons, List.not_mem_nil, or_false] at hp; rcases hp with rfl | rfl <;> simp) (fun k hk => by cases hk) (.inl rfl) ?_
      | refine SD_op (i := 14) [] [(13, sc), (12, sc)] (by rfl) (by rfl) (fun _ h => h) (fun p hp => by simp only [List.mem_cons, List.not_mem_nil, or_false] at hp; rcases hp with rfl | rfl <;> simp) (fun k hk => by cases hk) (.inl rfl) ?_
      | refine SD_opN (i := 13) [] [(13, sc), (12, sc)] (by rfl) (by rfl) (fun _ h => h) (fun p hp => by simp only [List.mem_cons, List.not_mem_nil, or_false] at hp; subst hp; simp) (fun k hk => by cases hk) ⟨.tmp 50, _, sc, rfl, rfl, rfl, rfl⟩ ?_
      | refine SD_opN (i := 12) [] [(12, sc)] (by rfl) (by rfl) (fun _ h => h) (fun p hp => by cases hp) (fun k hk => by cases hk) ⟨.tmp 48, ka, sc, rfl, rfl, hidk, rfl⟩ ?_
      | (refine SC_drawn (id := 6) (pl := [(0, []), (1, []), (2, []), (3, []), (4, []), (5, []), (6, []), (8, []), (9, []), (10, []), (11, []), (12, []), (13, []), (14, []), (7, [13, 12]), (15, []), (16, []), (17, [])]) (by kernel_rfl) (by kernel_rfl) ?_; intro B2 base hb1 hb2 hb3 hb4; have hscb : sc < base := hb4 (sc, _) (.head _); have hscB : sc < B2.next := Nat.lt_of_lt_of_le hscb (Nat.le_trans (Nat.le_add_right _ _) hb2))
      | refine SL_indexAddr_v (by decide) (by rfl) (by rfl) hk sl37 j (by omega) (by omega) (fun ad => ?_)
      | refine SL_len_v (by decide) (by rfl) hk (by rfl) sl37 hil ?_
      | refine SC_seq ?_
      | refine SC_block ?_
      | refine SC_region ?_
      | refine SL_seq ?_
      | refine SL_move (by decide) (by rfl) ?_
      | refine SL_assign (by decide) (by rfl) ?_
      | refine SL_add (by decide) (by rfl) (by rfl) (by omega) (by omega) ?_
      | (refine SL_lss (by decide) (by rfl) (by rfl) (fun hT => ?_) (fun hT => ?_) <;> first | (exfalso; omega) | skip)
      | (refine SL_gtr (by decide) (by rfl) (by rfl) (fun hT => ?_) (fun hT => ?_) <;> first | (exfalso; omega) | skip)
      | (refine SL_neq (by decide) (by rfl) (by rfl) (fun hT => ?_) (fun hT => ?_) <;> first | (exfalso; omega) | skip)
      | refine SL_load_r (by decide) (by rfl) (rowF (by rfl)) (by first | assumption | rfl | exact tab_get _ _ (by omega) | exact ints_getD _ (by omega)) (by rfl) ?_
      | refine SC_cond_t (by rfl) ?_
      | refine SC_cond_f (by rfl) ?_
      | (refine SC_skip' (fun tm σ hE hH => ?_); refine SC.app ?_ hE hH; clear hE hH; clear tm σ)
      | (refine SL_nil (fun tm σ hE hH => ⟨_, _, _, _, rfl, hE, hH, ?_⟩); clear hE hH; clear tm σ)
      | refine SD_op _ [] (by rfl) (by rfl) (fun _ h => h) (fun p hp => by cases hp) (fun k hk => by cases hk) (.inl rfl) ?_
      | fail)
    · refine SC_ret (fun tm σ hE hH => Post.intro (Hn := []) (.inr rfl) hE hH (by rfl) trivial List.nodup_nil (fun p hp => by cases hp) ⟨?_, rfl⟩)
      rw [hlex, if_neg (by omega)]; unfold cmp3; rw [if_pos (by omega)]; rfl
    · refine SC_ret (fun tm σ hE hH => Post.intro (Hn := []) (.inr rfl) hE hH (by rfl) trivial List.nodup_nil (fun p hp => by cases hp) ⟨?_, rfl⟩)
      rw [hlex, if_neg (by omega)]; unfold cmp3; rw [if_neg (by omega), if_pos (by omega)]; rfl
    · exact SL_nil fun tm σ hE hH => ⟨j + 1, by omega, ⟨by omega, by rw [hlex, if_pos (by omega)]; rfl⟩, tm, σ, rfl, hE.sub ⟨rfl, rfl, rfl, rfl, rfl, rfl, trivial⟩, hH⟩
  · obtain rfl : j = ks.length := by omega
    repeat' (first
      | refine SL_len_v (by decide) (by rfl) hk (by rfl) sl37 hil ?_
      | refine SC_seq ?_
      | refine SC_region ?_
      | refine SL_seq ?_
      | refine SL_move (by decide) (by rfl) ?_
      | refine SL_assign (by decide) (by rfl) ?_
      | (refine SL_lss (by decide) (by rfl) (by rfl) (fun hT => ?_) (fun hT => ?_) <;> first | (exfalso; omega) | skip)
      | refine SC_cond_f (by rfl) ?_
      | (refine SC_exit (fun tm σ hE hH => ?_); refine SC.app ?_ hE hH; clear hE hH; clear tm σ)
      | fail)
    refine SC_ret (fun tm σ hE hH => Post.intro (Hn := []) (.inr rfl) hE hH (by rfl) trivial List.nodup_nil (fun p hp => by cases hp) ⟨?_, rfl⟩)
    rw [hlex, List.drop_eq_nil_of_le (by rw [keyOf_len]; omega), List.drop_eq_nil_of_le (by rw [keyOf_len]; omega)]; rfl
end Go.Proofs.Ytldckcopeiginaa
/- The places are one more than the players ahead. -/
namespace Go.Proofs.Ytldckcopeiginaa
open Go.Ab
/-- The players of a list that are ahead of a. -/
def aheadN (key : Nat → List Int) (l : List Int) (a : Nat) : Nat := l.countP fun x => decide (lexC (key a) (key x.toNat) < 0)
section
variable {key : Nat → List Int} {ord : List Int} {n K : Nat} (hlen : ord.length = n) (hbd : ∀ a, a < n → 0 ≤ ord.getD a 0 ∧ ord.getD a 0 < n) (hkl : ∀ i, i < n → (key i).length = K) (hs : SortIn (ltK key) ord 0 n)
include hs in
theorem le_of {p q : Nat} (h : p < q) (hq : q < n) : lexC (key (ord.getD q 0).toNat) (key (ord.getD p 0).toNat) ≤ 0 := by
  rcases hs p q (Nat.zero_le _) h hq with h | ⟨h, _⟩ <;> omega
include hlen hbd hkl hs in
theorem place_take : ∀ a, a < n → plOf key ord a = 1 + (aheadN key (ord.take a) (ord.getD a 0).toNat : Nat)
  | 0, _ => rfl
  | b + 1, ha => by
    have ih := place_take b (by omega)
    have hb1 := hbd b (by omega)
    have hb2 := hbd (b + 1) ha
    show (if key (ord.getD (b + 1) 0).toNat = key (ord.getD b 0).toNat then plOf key ord b else (b : Int) + 2) = _
    split
    · rename_i hk
      rw [ih]
      unfold aheadN
      rw [List.take_succ_eq_append_getElem (by omega), List.countP_append, hk]
      have : [ord[b]].countP (fun x => decide (lexC (key (ord.getD b 0).toNat) (key x.toNat) < 0)) = 0 := by
        rw [← getD_at _ (by omega)]
        simp [List.countP_cons, lexC_refl]
      rw [this]; rfl
    · rename_i hk
      have : aheadN key (ord.take (b + 1)) (ord.getD (b + 1) 0).toNat = (ord.take (b + 1)).length := by
        unfold aheadN
        rw [List.countP_eq_length]
        intro x hx
        obtain ⟨q, h1, h2, rfl⟩ := take_mem.1 hx
        have h3 := le_of hs h1 ha
        refine decide_eq_true (Int.lt_iff_le_and_ne.2 ⟨h3, fun h0 => hk ?_⟩)
        have hq := hbd q (by omega)
        have e0 := lexC_eq _ _ (by rw [hkl _ (by omega), hkl _ (by omega)]) h0
        by_cases e : q = b
        · subst e; exact e0
        · have h4 := le_of hs (show q < b by omega) (by omega)
          have h5 := le_of hs (show b < b + 1 by omega) ha
          rw [← e0] at h4
          have h6 := lexC_neg (key (ord.getD b 0).toNat) (key (ord.getD (b + 1) 0).toNat)
          exact lexC_eq _ _ (by rw [hkl _ (by omega), hkl _ (by omega)]) (by omega)
      rw [this, List.length_take]
      have : min (b + 1) ord.length = b + 1 := by omega
      rw [this]
      show (b : Int) + 2 = 1 + ((b + 1 : Nat) : Int)
      omega
include hlen hbd hkl hs in
theorem place_all (hp : ord.Perm (iota n)) {a : Nat} (ha : a < n) : plOf key ord a = 1 + (aheadN key (iota n) (ord.getD a 0).toNat : Nat) := by
  rw [place_take hlen hbd hkl hs a ha]
  have h1 : aheadN key (iota n) (ord.getD a 0).toNat = aheadN key ord (ord.getD a 0).toNat := (hp.countP_eq _).symm
  have h2 : aheadN key ord (ord.getD a 0).toNat = aheadN key (ord.take a) (ord.getD a 0).toNat + aheadN key (ord.drop a) (ord.getD a 0).toNat := by
    unfold aheadN
    rw [← List.countP_append, List.take_append_drop]
  have h3 : aheadN key (ord.drop a) (ord.getD a 0).toNat = 0 := by
    unfold aheadN
    rw [List.countP_eq_zero]
    intro x hx
    obtain ⟨q, hq, rfl⟩ := List.mem_iff_getElem.1 hx
    rw [List.length_drop] at hq
    rw [List.getElem_drop, ← getD_at _ (by omega)]
    simp only [decide_eq_true_eq]
    by_cases e : q = 0
    · subst e
      rw [Nat.add_zero, lexC_refl]; omega
    · have h4 := le_of hs (show a < a + q by omega) (by omega)
      have h5 := lexC_neg (key (ord.getD a 0).toNat) (key (ord.getD (a + q) 0).toNat)
      omega
  rw [h1, h2, h3]; rfl
end
theorem aheadN_next (key : Nat → List Int) (a b : Nat) : aheadN key (iota (b + 1)) a = aheadN key (iota b) a + (if lexC (key a) (key b) < 0 then 1 else 0) := by
  unfold aheadN
  rw [← iota_next, List.countP_append, List.countP_cons]
  simp
end Go.Proofs.Ytldckcopeiginaa
/- Players that change their indexes take scores and values with them; what scores and values are together: plain lists. -/
namespace Go.Proofs.Ytldckcopeiginaa
open Go.Ab
def oth (i x y : Int) : Int := if i = x then y else if i = y then x else i
section
variable {x y : Int} (hx : 0 ≤ x) (hy : 0 ≤ y)
theorem oth_oth (i : Int) : oth (oth i x y) x y = i := by
  unfold oth
  repeat' split
  all_goals omega
theorem oth_inj {i j : Int} (h : oth i x y = oth j x y) : i = j := by
  have := congrArg (fun z => oth z x y) h
  simpa only [oth_oth] using this
include hx hy in
theorem oth_neg {i : Int} (h : i < 0) : oth i x y = i := by
  unfold oth
  rw [if_neg (by omega), if_neg (by omega)]
include hx hy in
theorem oth_pos {i : Int} (h : 0 ≤ i) : 0 ≤ oth i x y := by
  unfold oth
  repeat' split
  all_goals omega
theorem oth_lt {n i : Int} (hxn : x < n) (hyn : y < n) (h : i < n) : oth i x y < n := by
  unfold oth
  repeat' split
  all_goals omega
def swG (x y : Int) (g : Sc) : Sc := ⟨oth g.w x y, oth g.b x y, g.p⟩
def swR (x y : Int) (rs : List (List Sc)) : List (List Sc) := rs.map fun gs => gs.map (swG x y)
def swE (x y : Int) (e : Ev) : Ev := ⟨e.k, oth e.o x y, e.p, e.c⟩
include hx hy in
theorem swG_ok {n : Int} (hxn : x < n) (hyn : y < n) {g : Sc} (h : GOk n g) : GOk n (swG x y g) := by
  obtain ⟨h1, h2, h3, h4, h5⟩ := h
  refine ⟨oth_pos hx hy h1, oth_lt hxn hyn h2, ?_, oth_lt hxn hyn h4, h5⟩
  show -1 ≤ oth g.b x y
  by_cases hb : g.b < 0
  · rw [oth_neg hx hy hb]; exact h3
  · have := oth_pos hx hy (i := g.b) (by omega); omega
include hx hy in
theorem pl_sw (g : Sc) : pl (swG x y g) = (pl g).map fun i => oth i x y := by
  unfold pl swG
  by_cases hb : 0 ≤ g.b
  · rw [if_pos hb, if_pos (oth_pos hx hy hb)]; rfl
  · have h' : ¬ 0 ≤ oth g.b x y := by rw [oth_neg hx hy (by omega)]; exact hb
    rw [if_neg hb, if_neg h']; rfl
include hx hy in
theorem swR_ok {n : Int} (hxn : x < n) (hyn : y < n) {rs : List (List Sc)} (h : VOk n rs) : VOk n (swR x y rs) := by
  obtain ⟨h1, h2, h3, h4⟩ := h
  refine ⟨h1, h2, by simpa [swR] using h3, fun gs hgs => ?_⟩
  obtain ⟨gs, hg, rfl⟩ := List.mem_map.1 hgs
  obtain ⟨h5, h6⟩ := h4 gs hg
  refine ⟨fun g hgg => ?_, ?_⟩
  · obtain ⟨g, hgm, rfl⟩ := List.mem_map.1 hgg
    exact swG_ok hx hy hxn hyn (h5 g hgm)
  · have e : (gs.map (swG x y)).flatMap pl = (gs.flatMap pl).map fun i => oth i x y := by
      rw [List.flatMap_map, List.map_flatMap]
      exact congrArg (fun f => gs.flatMap f) (funext fun g => pl_sw hx hy g)
    rw [e]
    exact List.Pairwise.map _ (fun a b hab hh => hab (oth_inj hh)) h6
theorem oth_iff (i j : Int) : oth i x y = oth j x y ↔ i = j := ⟨oth_inj, fun h => by rw [h]⟩
theorem pts_sw (g : Sc) (i : Int) : (pts (swG x y g) (oth i x y)).1 = (pts g i).1 := by
  unfold pts swG
  simp only [oth_iff]
  repeat' split
  all_goals rfl
theorem sum1_sw (gs : List Sc) (i : Int) : sum1 (gs.map (swG x y)) (oth i x y) = sum1 gs i := by
  unfold sum1
  rw [List.map_map]
  exact congrArg List.sum (List.map_congr_left fun g _ => pts_sw g i)
theorem sumT_sw (rs : List (List Sc)) (i : Int) : sumT (swR x y rs) (oth i x y) = sumT rs i := by
  unfold sumT swR
  rw [List.map_map]
  exact congrArg List.sum (List.map_congr_left fun gs _ => sum1_sw gs i)
theorem ev1_sw (k : Nat) (i : Int) (g : Sc) : ev1 k (oth i x y) (swG x y g) = (ev1 k i g).map (swE x y) := by
  unfold ev1 swG
  simp only [oth_iff]
  repeat' split
  all_goals rfl
theorem evR_sw (k : Nat) (i : Int) (gs : List Sc) : evR k (oth i x y) (gs.map (swG x y)) = (evR k i gs).map (swE x y) := by
  unfold evR
  rw [List.flatMap_map, List.map_flatMap]
  exact congrArg (fun f => gs.flatMap f) (funext fun g => ev1_sw k i g)
theorem evU_sw (rs : List (List Sc)) (i : Int) : ∀ k, evU (swR x y rs) (oth i x y) k = (evU rs i k).map (swE x y)
  | 0 => rfl
  | k + 1 => by
    unfold evU
    rw [evU_sw rs i k, List.map_append]
    congr 1
    unfold swR
    rw [List.getElem?_map]
    cases rs[k]? with
    | none => rfl
    | some gs => exact evR_sw k i gs
theorem progE_sw (R : Int) (es : List Ev) : progE R (es.map (swE x y)) = progE R es := by
  unfold progE
  rw [List.map_map]; rfl
include hx hy in
theorem LS.of_sw (F F' : Nat → Int) (i i' : Nat) (hi : F' i' = F i) (hF : ∀ o : Int, 0 ≤ o → F' (oth o x y).toNat = F o.toNat) : ∀ es : List Ev, LS.of F' i' (es.map (swE x y)) = LS.of F i es := by
  refine snoc_ind rfl fun es e ih => ?_
  rw [List.map_append, List.map_singleton, LS.of_snoc, LS.of_snoc, ih]
  show LS.add F' i' (LS.of F i es) e.p (oth e.o x y) = _
  by_cases h : e.o < 0
  · rw [oth_neg hx hy h, LS.add_neg _ _ _ _ h, LS.add_neg _ _ _ _ h]
  · have h' : ¬ oth e.o x y < 0 := by have := oth_pos hx hy (i := e.o) (by omega); omega
    unfold LS.add
    rw [if_neg h, if_neg h', hF e.o (by omega), hi]
include hx hy in
/-- The values go with the players. -/
theorem valT_sw (rs : List (List Sc)) (i k : Nat) : valT (swR x y rs) (oth i x y).toNat k = valT rs i k := by
  have h0 := oth_pos hx hy (i := (i : Int)) (by omega)
  have hn : (((oth i x y).toNat : Nat) : Int) = oth i x y := Int.toNat_of_nonneg h0
  have hlen : (swR x y rs).length = rs.length := by simp [swR]
  unfold valT
  rw [hn, hlen, evU_sw, progE_sw, LS.of_sw hx hy (fun z : Nat => sumT rs z) (fun z : Nat => sumT (swR x y rs) z) i]
  · show sumT (swR x y rs) ((oth i x y).toNat : Nat) = _
    rw [hn, sumT_sw]
  · intro o ho
    have h1 := oth_pos hx hy ho
    show sumT (swR x y rs) ((oth o x y).toNat : Nat) = sumT rs (o.toNat : Nat)
    rw [Int.toNat_of_nonneg h1, sumT_sw, Int.toNat_of_nonneg ho]
end
/-! ### What all is together -/
/-- The sum over the first players. -/
def sumI (f : Nat → Int) : Nat → Int
  | 0 => 0
  | m + 1 => sumI f m + f m
theorem sumI_add (f g : Nat → Int) : ∀ m, sumI (fun i => f i + g i) m = sumI f m + sumI g m
  | 0 => rfl
  | m + 1 => by simp only [sumI, sumI_add f g m]; omega
theorem sumI_congr {f g : Nat → Int} : ∀ {m : Nat}, (∀ i, i < m → f i = g i) → sumI f m = sumI g m
  | 0, _ => rfl
  | m + 1, h => by
    unfold sumI
    rw [sumI_congr fun i hi => h i (Nat.lt_succ_of_lt hi), h m (Nat.lt_succ_self m)]
theorem sumI_zero : ∀ m : Nat, sumI (fun _ => 0) m = 0
  | 0 => rfl
  | m + 1 => by simp only [sumI, sumI_zero m]; rfl
theorem sumI_one (a : Nat) (c : Int) : ∀ m : Nat, sumI (fun i => if i = a then c else 0) m = if a < m then c else 0
  | 0 => by simp [sumI]
  | m + 1 => by
    simp only [sumI, sumI_one a c m]
    repeat' split
    all_goals omega
theorem sumI_list {α : Type} (f : α → Nat → Int) (m : Nat) : ∀ l : List α, sumI (fun i => (l.map fun a => f a i).sum) m = (l.map fun a => sumI (f a) m).sum
  | [] => by simp only [List.map_nil, List.sum_nil]; exact sumI_zero m
  | a :: l => by simp only [List.map_cons, List.sum_cons, sumI_add, sumI_list f m l]
/-- What a game gives. -/
def wantG (g : Sc) : Int := if g.b < 0 then g.p else 2
def want1 (gs : List Sc) : Int := (gs.map wantG).sum
def wantT (rs : List (List Sc)) : Int := (rs.map want1).sum
theorem apart {n : Int} {gs : List Sc} (h : ROk n gs) : ∀ g ∈ gs, g.w ≠ g.b := fun g hg e => by
  have h1 := h.1 g hg
  have h2 := List.nodup_iff_count.1 h.2 g.w
  have h3 : (pl g).count g.w ≤ (gs.flatMap pl).count g.w := (List.sublist_flatten_of_mem (List.mem_map.2 ⟨g, hg, rfl⟩)).count_le _
  obtain ⟨h4, _⟩ := h1
  have h5 : pl g = [g.w, g.w] := by unfold pl; rw [if_pos (by omega), ← e]
  rw [h5] at h3
  simp only [List.count_cons_self, List.count_nil] at h3
  omega
theorem pts_all {m : Nat} {g : Sc} (h : GOk m g) (hw : g.w ≠ g.b) : sumI (fun i => (pts g i).1) m = wantG g := by
  obtain ⟨h1, h2, h3, h4, _⟩ := h
  have e : ∀ i, i < m → (pts g i).1 = (if i = g.w.toNat then g.p else 0) + (if i = g.b.toNat then (if g.b < 0 then 0 else 2 - g.p) else 0) := fun i hi => by
    unfold pts
    repeat' split
    all_goals simp only
    all_goals omega
  rw [sumI_congr e, sumI_add, sumI_one, sumI_one]
  unfold wantG
  repeat' split
  all_goals omega
theorem sums_all {m : Nat} {rs : List (List Sc)} (h : VOk m rs) : sumI (fun i => sumT rs i) m = wantT rs := by
  unfold sumT wantT
  rw [sumI_list]
  refine congrArg List.sum (List.map_congr_left fun gs hgs => ?_)
  have hr := h.2.2.2 gs hgs
  unfold sum1 want1
  rw [sumI_list]
  exact congrArg List.sum (List.map_congr_left fun g hg => pts_all (hr.1 g hg) (apart hr g hg))
/-- Sonneborn from one game. -/
def son1 (F : Nat → Int) (g : Sc) (i : Int) : Int := if 0 ≤ (pts g i).2 then (pts g i).1 * F (pts g i).2.toNat else 0
def bothG (F : Nat → Int) (g : Sc) : Int := if g.b < 0 then 0 else g.p * F g.b.toNat + (2 - g.p) * F g.w.toNat
def bothT (F : Nat → Int) (rs : List (List Sc)) : Int := (rs.map fun gs => (gs.map (bothG F)).sum).sum
theorem totE_app (f : Ev → Int) (a b : List Ev) : totE f (a ++ b) = totE f a + totE f b := by
  unfold totE
  rw [List.filter_append, List.map_append, List.sum_append]
theorem totE_ev1 (F : Nat → Int) (k : Nat) (i : Int) (g : Sc) : totE (fun e => e.p * F e.o.toNat) (ev1 k i g) = son1 F g i := by
  unfold son1
  by_cases h1 : g.w = i
  · rw [ev1_w h1, pts_w h1]
    by_cases hb : 0 ≤ g.b
    · rw [if_pos hb]; simp [totE, hb]
    · rw [if_neg hb]; simp [totE, hb]
  · by_cases h2 : g.b = i
    · rw [ev1_b h1 h2, pts_b h1 h2]
      by_cases hb : 0 ≤ g.w
      · rw [if_pos hb]; simp [totE, hb]
      · rw [if_neg hb]; simp [totE, hb]
    · rw [ev1_n h1 h2, pts_n h1 h2]; rfl
theorem totE_evR (F : Nat → Int) (k : Nat) (i : Int) : ∀ gs : List Sc, totE (fun e => e.p * F e.o.toNat) (evR k i gs) = (gs.map fun g => son1 F g i).sum
  | [] => rfl
  | g :: gs => by
    have ih := totE_evR F k i gs
    unfold evR at ih ⊢
    rw [List.flatMap_cons, totE_app, totE_ev1, ih]; rfl
theorem totE_evU (F : Nat → Int) (rs : List (List Sc)) (i : Int) : ∀ k, k ≤ rs.length → totE (fun e => e.p * F e.o.toNat) (evU rs i k) = ((rs.take k).map fun gs => (gs.map fun g => son1 F g i).sum).sum
  | 0, _ => rfl
  | k + 1, hk => by
    rw [evU_next hk, totE_app, totE_evU F rs i k (by omega), totE_evR, List.take_succ_eq_append_getElem hk, List.map_append, List.sum_append]
    simp
theorem valT4 (rs : List (List Sc)) (i : Nat) : valT rs i 4 = (rs.map fun gs => (gs.map fun g => son1 (fun x => sumT rs x) g i).sum).sum := by
  show (LS.of (fun x => sumT rs x) i (evU rs i rs.length)).sonne = _
  rw [of_sonne]
  refine (totE_evU (fun x => sumT rs x) rs i _ (Nat.le_refl _)).trans ?_
  rw [List.take_length]
theorem son_all (F : Nat → Int) {m : Nat} {g : Sc} (h : GOk m g) (hw : g.w ≠ g.b) : sumI (fun i => son1 F g i) m = bothG F g := by
  obtain ⟨h1, h2, h3, h4, _⟩ := h
  have e : ∀ i, i < m → son1 F g i = (if i = g.w.toNat then (if g.b < 0 then 0 else g.p * F g.b.toNat) else 0) + (if i = g.b.toNat then (if g.b < 0 then 0 else (2 - g.p) * F g.w.toNat) else 0) := fun i hi => by
    unfold son1
    by_cases e1 : g.w = i
    · rw [pts_w e1, if_pos (by omega : i = g.w.toNat)]
      simp only
      by_cases hb : g.b < 0
      · rw [if_neg (by omega), if_pos hb, if_pos hb]; simp
      · rw [if_pos (by omega), if_neg hb, if_neg (by omega : ¬ i = g.b.toNat)]; omega
    · by_cases e2 : g.b = i
      · rw [pts_b e1 e2, if_neg (by omega : ¬ i = g.w.toNat), if_pos (by omega : i = g.b.toNat)]
        simp only
        rw [if_pos h1, if_neg (by omega)]; omega
      · rw [pts_n e1 e2, if_neg (by omega : ¬ i = g.w.toNat)]
        simp only
        rw [if_neg (by omega)]
        by_cases hb : g.b < 0
        · rw [if_pos hb]; simp
        · rw [if_neg (by omega : ¬ i = g.b.toNat)]; rfl
  rw [sumI_congr e, sumI_add, sumI_one, sumI_one, if_pos (by omega)]
  unfold bothG
  by_cases hb : g.b < 0
  · rw [if_pos hb, if_pos hb, if_pos hb]; simp
  · rw [if_neg hb, if_neg hb, if_neg hb, if_pos (by omega)]
theorem sonne_all {m : Nat} {rs : List (List Sc)} (h : VOk m rs) : sumI (fun i => valT rs i 4) m = bothT (fun x => sumT rs x) rs := by
  unfold bothT
  rw [sumI_congr fun i _ => valT4 rs i, sumI_list]
  refine congrArg List.sum (List.map_congr_left fun gs hgs => ?_)
  have hr := h.2.2.2 gs hgs
  rw [sumI_list]
  exact congrArg List.sum (List.map_congr_left fun g hg => son_all _ (hr.1 g hg) (apart hr g hg))
#print axioms valT_sw
#print axioms sums_all
#print axioms sonne_all
end Go.Proofs.Ytldckcopeiginaa
/- TiebreakHolds, walked: where a condition fails; other. -/
namespace Go.Proofs.Ytldckcopeiginaa
open Go.Ab
attribute [local irreducible] SC SL wpc wpl wpd wpf wpy wpn FnC FnW RdW SD
set_option maxRecDepth 100000
set_option pp.deepTerms false
set_option pp.maxSteps 900
set_option maxHeartbeats 4000000
theorem other_fn {G : Gl} (ho : ∀ f x y, G.orc f (x :: y) = none) (i x y : Int) : FnC Try.prog G 20 [.s (.int .i64 i), .s (.int .i64 x), .s (.int .i64 y)] [] (fun v Hn => v = .s (.int .i64 (oth i x y)) ∧ Hn = []) := by
  refine Fn_body (N := 16) (ho _ _ _) Try.func20 rfl rfl fun B => ?_
  repeat' (first
    | refine SC_seq ?_
    | refine SC_region ?_
    | refine SL_seq ?_
    | refine SL_move (by decide) (by rfl) ?_
    | refine SL_assign (by decide) (by rfl) ?_
    | (refine SL_eql (by decide) (by rfl) (by rfl) (fun hT => ?_) (fun hT => ?_) <;> first | (exfalso; omega) | skip)
    | refine SC_cond_t (by rfl) ?_
    | refine SC_cond_f (by rfl) ?_
    | (refine SC_skip' (fun tm σ hE hH => ?_); refine SC.app ?_ hE hH; clear hE hH; clear tm σ)
    | fail)
  all_goals refine SC_ret (fun tm σ hE hH => Post.intro (Hn := []) (.inr rfl) hE hH (by rfl) trivial List.nodup_nil (fun p hp => by cases hp) ⟨?_, rfl⟩)
  all_goals unfold oth
  · rw [if_pos (by assumption)]; rfl
  · rw [if_neg (by assumption), if_pos (by assumption)]; rfl
  · rw [if_neg (by assumption), if_neg (by assumption)]; rfl
theorem law6_bad {rs : List (List Sc)} {ra : AV} {xs : List AV} (h : RV rs ra xs) (n : Int) {ka : AV} {ks : List Int} (hk : SlV 1 ka (ints ks)) (hkl : ks.length ≤ 9223372036854775807) (more a b : Int)
    (hbad : ¬ (fewB rs 12 = true ∧ rs.length ≤ 10 ∧ n ≤ 24 ∧ VOk n rs ∧ ks.length ≤ 6 ∧ KOk ks)) :
    FnC Try.prog (oneOrc 9 (.bool true)) 6 [.s (.int .i64 n), ra, ka, .s (.int .i64 more), .s (.int .u8 a), .s (.int .u8 b)] [] (fun v Hn => v = .s (.bool true) ∧ Hn = []) := by
  have ho : ∀ f a b, (oneOrc 9 (.bool true)).orc f (a :: b) = none := fun f a b => oneOrc_off (by simp)
  have h9 : FnC Try.prog (oneOrc 9 (.bool true)) 9 [] [] (fun v Hn => v = .s (.bool true) ∧ Hn = []) := Fn_orc (oneOrc_at _ _) ⟨rfl, rfl⟩
  generalize oneOrc 9 (.bool true) = G at ho h9 ⊢
  have h8 := few_fn (G := G) h 12 (ho _ _ _)
  have hsl := h.sl
  have hlen := h.len
  have hbig := h.big
  have hil := ints_len ks
  have h18 := kinds_fn ho hk hkl
  cases hfew : fewB rs 12 with
  | false =>
    rw [hfew] at h8
    refine Fn_body (N := 311) (ho _ _ _) Try.func6 rfl rfl fun B => ?_
    repeat' (first
      | (refine SL_call (by decide) (by rfl) bd9 (by rfl) (by rfl) (h9) trivial List.nodup_nil ?_; rintro _ _ _ ⟨rfl, rfl⟩; rw [List.nil_append])
      | (refine SL_call (by decide) (by rfl) bd8 (by rfl) (by rfl) (h8) trivial List.nodup_nil ?_; rintro _ _ _ ⟨rfl, rfl⟩; rw [List.nil_append])
      | refine SC_seq ?_
      | refine SC_region ?_
      | refine SL_seq ?_
      | refine SL_not (by rfl) (by rfl) (by rfl) (by decide) ?_
      | refine SL_move (by decide) (by rfl) ?_
      | refine SL_assign (by decide) (by rfl) ?_
      | refine SL_pick_t (by decide) (by rfl) (by rfl) ?_
      | refine SL_not_op (by decide) (by rfl) ?_
      | refine SC_cond_t (by rfl) ?_
      | fail)
    all_goals exact SC_ret (fun tm σ hE hH => Post.intro (Hn := []) (.inr rfl) hE hH (by rfl) trivial List.nodup_nil (fun p hp => by cases hp) ⟨rfl, rfl⟩)
  | true =>
    rw [hfew] at h8
    have hf := few_all hfew
    have h12 := lawValid_fn h hf n (G := G) (ho _ _ _)
    by_cases hc : rs.length ≤ 10 ∧ n ≤ 24
    · obtain ⟨hr, hn24⟩ := hc
      by_cases hv : VOk n rs
      · rw [validB_t hv] at h12
        by_cases hk6 : ks.length ≤ 6
        · rw [kindsB_f fun h => hbad ⟨hfew, hr, hn24, hv, hk6, h⟩] at h18
          refine Fn_body (N := 311) (ho _ _ _) Try.func6 rfl rfl fun B => ?_
          repeat' (first
            | refine SL_len_v (by decide) (by rfl) hk (by rfl) sl37 hil ?_
            | (refine SL_call (by decide) (by rfl) bd18 (by rfl) (by rfl) (h18) trivial List.nodup_nil ?_; rintro _ _ _ ⟨rfl, rfl⟩; rw [List.nil_append])
            | (refine SL_call (by decide) (by rfl) bd12 (by rfl) (by rfl) (h12) trivial List.nodup_nil ?_; rintro _ _ _ ⟨rfl, rfl⟩; rw [List.nil_append])
            | (refine SL_call (by decide) (by rfl) bd9 (by rfl) (by rfl) (h9) trivial List.nodup_nil ?_; rintro _ _ _ ⟨rfl, rfl⟩; rw [List.nil_append])
            | (refine SL_call (by decide) (by rfl) bd8 (by rfl) (by rfl) (h8) trivial List.nodup_nil ?_; rintro _ _ _ ⟨rfl, rfl⟩; rw [List.nil_append])
            | refine SC_seq ?_
            | refine SC_region ?_
            | refine SL_seq ?_
            | refine SL_run (by rfl) (by rfl) ?_
            | refine SL_move (by decide) (by rfl) ?_
            | refine SL_assign (by decide) (by rfl) ?_
            | refine SL_pick_f (by decide) (by rfl) (by rfl) ?_
            | refine SL_not_op (by decide) (by rfl) ?_
            | (refine SL_gtr (by decide) (by rfl) (by rfl) (fun hT => ?_) (fun hT => ?_) <;> first | (exfalso; omega) | skip)
            | refine SL_len_v (by decide) (by rfl) (by assumption) (by rfl) (slF (by rfl)) (by simp only [List.length_map]; first | rfl | assumption) ?_
            | refine SC_cond_t (by rfl) ?_
            | fail)
          all_goals exact SC_ret (fun tm σ hE hH => Post.intro (Hn := []) (.inr rfl) hE hH (by rfl) trivial List.nodup_nil (fun p hp => by cases hp) ⟨rfl, rfl⟩)
        · refine Fn_body (N := 311) (ho _ _ _) Try.func6 rfl rfl fun B => ?_
          repeat' (first
            | refine SL_len_v (by decide) (by rfl) hk (by rfl) sl37 hil ?_
            | (refine SL_call (by decide) (by rfl) bd12 (by rfl) (by rfl) (h12) trivial List.nodup_nil ?_; rintro _ _ _ ⟨rfl, rfl⟩; rw [List.nil_append])
            | (refine SL_call (by decide) (by rfl) bd9 (by rfl) (by rfl) (h9) trivial List.nodup_nil ?_; rintro _ _ _ ⟨rfl, rfl⟩; rw [List.nil_append])
            | (refine SL_call (by decide) (by rfl) bd8 (by rfl) (by rfl) (h8) trivial List.nodup_nil ?_; rintro _ _ _ ⟨rfl, rfl⟩; rw [List.nil_append])
            | refine SC_seq ?_
            | refine SC_region ?_
            | refine SL_seq ?_
            | refine SL_run (by rfl) (by rfl) ?_
            | refine SL_not (by rfl) (by rfl) (by rfl) (by decide) ?_
            | refine SL_move (by decide) (by rfl) ?_
            | refine SL_assign (by decide) (by rfl) ?_
            | refine SL_pick_t (by decide) (by rfl) (by rfl) ?_
            | refine SL_pick_f (by decide) (by rfl) (by rfl) ?_
            | refine SL_not_op (by decide) (by rfl) ?_
            | (refine SL_gtr (by decide) (by rfl) (by rfl) (fun hT => ?_) (fun hT => ?_) <;> first | (exfalso; omega) | skip)
            | refine SL_len_v (by decide) (by rfl) (by assumption) (by rfl) (slF (by rfl)) (by simp only [List.length_map]; first | rfl | assumption) ?_
            | refine SC_cond_t (by rfl) ?_
            | fail)
          all_goals exact SC_ret (fun tm σ hE hH => Post.intro (Hn := []) (.inr rfl) hE hH (by rfl) trivial List.nodup_nil (fun p hp => by cases hp) ⟨rfl, rfl⟩)
      · rw [validB_f hv] at h12
        refine Fn_body (N := 311) (ho _ _ _) Try.func6 rfl rfl fun B => ?_
        repeat' (first
          | (refine SL_call (by decide) (by rfl) bd12 (by rfl) (by rfl) (h12) trivial List.nodup_nil ?_; rintro _ _ _ ⟨rfl, rfl⟩; rw [List.nil_append])
          | (refine SL_call (by decide) (by rfl) bd9 (by rfl) (by rfl) (h9) trivial List.nodup_nil ?_; rintro _ _ _ ⟨rfl, rfl⟩; rw [List.nil_append])
          | (refine SL_call (by decide) (by rfl) bd8 (by rfl) (by rfl) (h8) trivial List.nodup_nil ?_; rintro _ _ _ ⟨rfl, rfl⟩; rw [List.nil_append])
          | refine SC_seq ?_
          | refine SC_region ?_
          | refine SL_seq ?_
          | refine SL_run (by rfl) (by rfl) ?_
          | refine SL_not (by rfl) (by rfl) (by rfl) (by decide) ?_
          | refine SL_move (by decide) (by rfl) ?_
          | refine SL_assign (by decide) (by rfl) ?_
          | refine SL_pick_t (by decide) (by rfl) (by rfl) ?_
          | refine SL_pick_f (by decide) (by rfl) (by rfl) ?_
          | refine SL_not_op (by decide) (by rfl) ?_
          | (refine SL_gtr (by decide) (by rfl) (by rfl) (fun hT => ?_) (fun hT => ?_) <;> first | (exfalso; omega) | skip)
          | refine SL_len_v (by decide) (by rfl) (by assumption) (by rfl) (slF (by rfl)) (by simp only [List.length_map]; first | rfl | assumption) ?_
          | refine SC_cond_t (by rfl) ?_
          | fail)
        all_goals exact SC_ret (fun tm σ hE hH => Post.intro (Hn := []) (.inr rfl) hE hH (by rfl) trivial List.nodup_nil (fun p hp => by cases hp) ⟨rfl, rfl⟩)
    · refine Fn_body (N := 311) (ho _ _ _) Try.func6 rfl rfl fun B => ?_
      repeat' (first
        | (refine SL_call (by decide) (by rfl) bd9 (by rfl) (by rfl) (h9) trivial List.nodup_nil ?_; rintro _ _ _ ⟨rfl, rfl⟩; rw [List.nil_append])
        | (refine SL_call (by decide) (by rfl) bd8 (by rfl) (by rfl) (h8) trivial List.nodup_nil ?_; rintro _ _ _ ⟨rfl, rfl⟩; rw [List.nil_append])
        | refine SC_seq ?_
        | refine SC_region ?_
        | refine SL_seq ?_
        | refine SL_run (by rfl) (by rfl) ?_
        | refine SL_not (by rfl) (by rfl) (by rfl) (by decide) ?_
        | refine SL_move (by decide) (by rfl) ?_
        | refine SL_assign (by decide) (by rfl) ?_
        | refine SL_pick_t (by decide) (by rfl) (by rfl) ?_
        | refine SL_pick_f (by decide) (by rfl) (by rfl) ?_
        | refine SL_not_op (by decide) (by rfl) ?_
        | (refine SL_gtr (by decide) (by rfl) (by rfl) (fun hT => ?_) (fun hT => ?_) <;> first | (exfalso; omega) | skip)
        | refine SL_len_v (by decide) (by rfl) (by assumption) (by rfl) (slF (by rfl)) (by simp only [List.length_map]; first | rfl | assumption) ?_
        | refine SC_cond_t (by rfl) ?_
        | fail)
      all_goals first
        | (exfalso; omega)
        | exact SC_ret (fun tm σ hE hH => Post.intro (Hn := []) (.inr rfl) hE hH (by rfl) trivial List.nodup_nil (fun p hp => by cases hp) ⟨rfl, rfl⟩)
end Go.Proofs.Ytldckcopeiginaa
/- tiebreak.Standings. -/
namespace Go.Proofs.Ytldckcopeiginaa
open Go.Ab
attribute [local irreducible] SC SL wpc wpl wpd wpf wpy wpn FnC FnW RdW SD
set_option maxRecDepth 100000
set_option pp.deepTerms false
set_option pp.maxSteps 900
set_option maxHeartbeats 4000000
abbrev nilV : AV := .s (.slice none 0 0)
def KR (K : Nat) (ids : List Nat) (x : AV) (m : Nat) : List (List AV) := krows K ids ++ [x] :: List.replicate m [nilV]
theorem KR_get (K : Nat) (ids : List Nat) (x : AV) {m i : Nat} (h : i = ids.length) : (KR K ids x m)[i]? = some [x] := by
  unfold KR krows; rw [List.getElem?_append_right (by simp; omega)]; simp [h]
theorem KR_set (K : Nat) (ids : List Nat) (x v : AV) {m i : Nat} (h : i = ids.length) : (KR K ids x m).set i (writeRow [x] 0 [v]) = KR K ids v m := by
  unfold KR krows; rw [List.set_append_right _ _ (by simp; omega)]; simp [h, writeRow]
theorem KR_0 (K : Nat) (ids : List Nat) (m : Nat) (h : 0 < m) : krows K ids ++ List.replicate m [nilV] = KR K ids nilV (m - 1) := by
  unfold KR; obtain ⟨j, rfl⟩ : ∃ j, m = j + 1 := ⟨m - 1, by omega⟩
  rw [List.replicate_succ]; rfl
theorem KR_end (K : Nat) (ids : List Nat) (id m : Nat) : KR K ids (.sl id 0 K none) m = krows K (ids ++ [id]) ++ List.replicate m [nilV] := by
  unfold KR krows; simp
def ordV (i : Nat) : Option Nat → AV
  | none => nilV
  | some o => .sl o 0 i none
def ordH (i : Nat) : Option Nat → List (Nat × AObj)
  | none => []
  | some o => [(o, .cells 3 1 false (ints (iota i)))]
theorem Keys.snoc {KH : List (Nat × AObj)} {i K : Nat} {ids : List Nat} {ek : Bool} {key : Nat → List Int} (h : Keys KH i K ids ek key) (hl : (key i).length = K) (cur : Nat) : Keys ((cur, .cells 3 1 ek (ints (key i))) :: KH) (i + 1) K (ids ++ [cur]) ek key where
  len := by rw [List.length_append, h.len]; rfl
  klen := fun j hj => by
    by_cases e : j = i
    · rw [e]; exact hl
    · exact h.klen j (by omega)
  mem := fun j id hj => by
    have hlen := h.len
    by_cases e : j < i
    · rw [List.getElem?_append_left (by omega)] at hj
      exact .tail _ (h.mem j id hj)
    · rw [List.getElem?_append_right (by omega)] at hj
      by_cases e2 : j = i
      · subst e2
        rw [hlen, Nat.sub_self] at hj
        simp at hj; subst hj
        exact .head _
      · rw [List.getElem?_eq_none (by simp; omega)] at hj
        cases hj
theorem standT_fn {G : Gl} {rs : List (List Sc)} {ra : AV} {xs : List AV} (h : RV rs ra xs) (hf : ∀ gs ∈ rs, gs.length ≤ 12) (ho : ∀ f x y, G.orc f (x :: y) = none) {n : Nat} (hv : VOk n rs) (hr : rs.length ≤ 10) {ka : AV} {ks : List Int} (hk : SlV 1 ka (ints ks)) (hkc : ∀ ad cap, ka = .rsl ad 1 cap (ints ks) → ks.length ≤ cap) (hkok : KOk ks) (hn24 : n ≤ 24) :
    FnC Try.prog G 17 [.s (.int .i64 n), ra, ka] [] (fun v Hn => ∃ oid pid ord pls, v = .tup [.sl oid 0 n none, .sl pid 0 n none, .s (.int .i64 0)] ∧ Hn = [(oid, .cells 3 1 false (ints ord)), (pid, .cells 3 1 true (ints pls))] ∧ ord.Perm (iota n) ∧ SortIn (ltK (keyOf rs ks)) ord 0 n ∧ pls.length = n ∧ ∀ a, a < n → pls.getD (ord.getD a 0).toNat 0 = plOf (keyOf rs ks) ord a) := by
  have hil := ints_len ks
  have hst := hkok.st
  have hk7 := hkok.2.2
  have h11 : FnC Try.prog G 11 [.s (.int .i64 n), ra] [] (fun v Hn => v = .s (.bool true) ∧ Hn = []) := by
    have := valid_fn h n (G := G) (ho _ _ _)
    rw [validB_t hv] at this; exact this
  have h27 : ∀ k ∈ ks, FnC Try.prog G 27 [.s (.int .i64 k)] [] (fun v Hn => v = .s (.bool true) ∧ Hn = []) := fun k hkm => by
    have := known27 (G := G) ho k
    rw [decide_eq_true (hkok.1 k hkm)] at this; exact this
  have h26 := scores_fn h hf hv (G := G) (ho _ _ _) (fun _ => ho _ _ _) (fun _ _ _ => ho _ _ _)
  have hn2 := hv.1
  have hgok : ∀ gs ∈ rs, ∀ g ∈ gs, GOk n g := fun gs hgs g hgg => (hv.2.2.2 gs hgs).1 g hgg
  have hgp : ∀ gs ∈ rs, ∀ g ∈ gs, 0 ≤ g.p ∧ g.p ≤ 2 := fun gs hgs g hgg => (hgok gs hgs g hgg).2.2.2.2
  have h28A : ∀ i : Nat, i < n → ∀ (ida j : Nat), j < ks.length → FnC Try.prog G 28 [.sl ida 0 n none, ra, .s (.int .i64 (ks.getD j 0)), .s (.int .i64 i)] [(ida, .cells 3 1 true (tab n (fun x => sumT rs x)))] (fun v Hn => v = .s (.int .i64 (kval rs i (ks.getD j 0))) ∧ Hn = []) := fun i hi ida j hj => by
    have h1 := evU_one hv.2.2.2 i (by omega) rs.length (Nat.le_refl _)
    have h2 := foesL_le (fun x => sumT rs x) (evU rs i rs.length)
    have hkj := hkok.1 _ (getD_mem hj)
    have h28 := value_fn (G := G) h hgp ho (fun x => sumT rs x) (sumT_F hf hv) i hi (evU_lt hgok i rs.length (Nat.le_refl _)) (by omega) (by omega) (by omega) (ks.getD j 0).toNat (by omega) (by omega) ida
    rw [show (((ks.getD j 0).toNat : Nat) : Int) = ks.getD j 0 by omega] at h28
    exact h28.mono fun v Hn ⟨m, hv1, hv2, hv3⟩ => ⟨by rw [hv1, tie_eq (evU_bd hgp i rs.length (Nat.le_refl _)) hv2]; rfl, hv3⟩
  refine Fn_body (N := 137) (ho _ _ _) Try.func17 rfl rfl fun B => ?_
  repeat' (first
    | refine SL_len_v (by decide) (by rfl) hk (by rfl) sl37 hil ?_
    | (refine SL_call (by decide) (by rfl) bd11 (by rfl) (by rfl) (h11) trivial List.nodup_nil ?_; rintro _ _ _ ⟨rfl, rfl⟩; rw [List.nil_append])
    | refine SC_seq ?_
    | refine SC_block ?_
    | refine SC_region ?_
    | refine SL_seq ?_
    | refine SL_run (by rfl) (by rfl) ?_
    | refine SL_move (by decide) (by rfl) ?_
    | refine SL_assign (by decide) (by rfl) ?_
    | refine SL_pick_f (by decide) (by rfl) (by rfl) ?_
    | refine SL_not_op (by decide) (by rfl) ?_
    | (refine SL_gtr (by decide) (by rfl) (by rfl) (fun hT => ?_) (fun hT => ?_) <;> first | (exfalso; omega) | skip)
    | refine SC_cond_f (by rfl) ?_
    | (refine SC_skip' (fun tm σ hE hH => ?_); refine SC.app ?_ hE hH; clear hE hH; clear tm σ)
    | fail)
  refine SC_loop (fun j : Nat => [(0, .s (.int .i64 n)), (1, ra), (2, ka), (6, nilV), (7, nilV), (27, ka), (28, .s (.int .i64 ks.length)), (29, .s (.int .i64 j))]) (fun _ => []) (fun _ => []) (fun j => j ≤ ks.length) (fun j => ks.length - j) 0 (by omega) ⟨rfl, rfl, rfl, rfl, rfl, rfl, rfl, rfl, trivial⟩ trivial List.nodup_nil rfl ?_
  intro j hj
  by_cases hjlt : j < ks.length
  · obtain ⟨ad, cap, rfl⟩ : ∃ ad cap, ka = .rsl ad 1 cap (ints ks) := by
      generalize hrw : ints ks = rows at hk
      cases hk with
      | nil => rw [hrw] at hil; simp at hil; omega
      | rsl hp => exact ⟨_, _, rfl⟩
    have hcap := hkc ad cap rfl
    have hcon : ∀ j, j < ks.length → FnC Try.prog G 29 [.rsl ad 1 cap ((ints ks).take j), .s (.int .i64 (ks.getD j 0))] [] (fun v Hn => v = .s (.bool false) ∧ Hn = []) := fun j hj => by
      have := contains_fn (G := G) ho (ks.take j) (by rw [List.length_take]; omega) ad cap (ks.getD j 0)
      rw [show ints (ks.take j) = (ints ks).take j by unfold ints; rw [List.map_take]] at this
      rw [decide_eq_false (fun hm => by
        obtain ⟨i, h1, h2, h3⟩ := take_mem.1 hm
        exact (hst j hj).2 i h1 h3)] at this
      exact this
    repeat' (first
      | refine SL_indexAddr_v (by decide) (by rfl) (by rfl) hk sl37 j (by omega) (by omega) (fun ad => ?_)
      | refine SL_slice_r (i := j) (by decide) (by rfl) (by rfl) sl37 (by rfl) (by omega) (by omega) ?_
      | (refine SL_call (by decide) (by rfl) bd29 (by rfl) (by rfl) (hcon j (by omega)) trivial List.nodup_nil ?_; rintro _ _ _ ⟨rfl, rfl⟩; rw [List.nil_append])
      | (refine SL_call (by decide) (by rfl) bd27 (by rfl) (by rfl) (h27 _ (getD_mem (by omega))) trivial List.nodup_nil ?_; rintro _ _ _ ⟨rfl, rfl⟩; rw [List.nil_append])
      | refine SC_seq ?_
      | refine SC_block ?_
      | refine SC_region ?_
      | refine SL_seq ?_
      | refine SL_run (by rfl) (by rfl) ?_
      | refine SL_move (by decide) (by rfl) ?_
      | refine SL_assign (by decide) (by rfl) ?_
      | refine SL_pick_f (by decide) (by rfl) (by rfl) ?_
      | refine SL_not_op (by decide) (by rfl) ?_
      | refine SL_add (by decide) (by rfl) (by rfl) (by omega) (by omega) ?_
      | (refine SL_lss (by decide) (by rfl) (by rfl) (fun hT => ?_) (fun hT => ?_) <;> first | (exfalso; omega) | skip)
      | refine SL_load_r (by decide) (by rfl) (rowF (by rfl)) (by first | assumption | rfl | exact ints_getD _ (by omega) | exact tab_get _ _ (by omega) | exact ints_getD _ (by rw [List.length_set]; omega) | exact KR_get _ _ _ (by omega)) (by rfl) ?_
      | refine SC_cond_t (by rfl) ?_
      | refine SC_cond_f (by rfl) ?_
      | (refine SC_skip' (fun tm σ hE hH => ?_); refine SC.app ?_ hE hH; clear hE hH; clear tm σ)
      | fail)
    exact SL_nil fun tm σ hE hH => ⟨j + 1, by omega, by omega, tm, σ, rfl, hE.sub ⟨rfl, rfl, rfl, rfl, rfl, rfl, rfl, rfl, trivial⟩, hH⟩
  obtain rfl : j = ks.length := by omega
  repeat' (first
    | (refine SL_call (by decide) (by rfl) bd26 (by rfl) (by rfl) h26 trivial List.nodup_nil ?_; rintro _ _ hB26 ⟨ida, rfl, rfl⟩; simp only [List.cons_append, List.nil_append])
    | refine SC_seq ?_
    | refine SC_block ?_
    | refine SC_region ?_
    | refine SL_seq ?_
    | refine SL_move (by decide) (by rfl) ?_
    | refine SL_assign (by decide) (by rfl) ?_
    | (refine SL_lss (by decide) (by rfl) (by rfl) (fun hT => ?_) (fun hT => ?_) <;> first | (exfalso; omega) | skip)
    | refine SL_len_sl (by decide) (by rfl) (by rfl) (sliceOf_spec (slF (by rfl))).1 ?_
    | refine SL_load_o (by decide) (by rfl) (by repeat (first | exact .head _ | refine .tail _ ?_)) (rowF (by rfl)) (by first | assumption | rfl | exact ints_getD _ (by omega) | exact tab_get _ _ (by omega) | exact ints_getD _ (by rw [List.length_set]; omega) | exact KR_get _ _ _ (by omega)) (by rfl) ?_
    | refine SL_store_box (by rfl) (by rfl) (by first | exact cells_3 _ _ _ | rfl) (by repeat (first | exact .head | apply Upd.tail)) (by first | exact .inl (by assumption) | exact .inr (by simp)) (by rfl) (szF (by rfl)) (by rfl) ?_
    | refine SL_alloc (by decide) (zeroF (by rfl)) (fun id hid => ?_)
    | refine SL_makeSlice (by decide) (by rfl) (by rfl) (elF (by rfl)) (by omega) (by omega) (by omega) (by omega) (fun id hid => ?_)
    | refine SC_cond_f (by rfl) ?_
    | (refine SC_exit (fun tm σ hE hH => ?_); refine SC.app ?_ hE hH; clear hE hH; clear tm σ)
    | fail)
  rename_i kid hkid
  obtain ⟨kb, hkb, rfl⟩ : ∃ b, B.next ≤ b ∧ b = id := ⟨id, hid, rfl⟩
  refine SC_nd fun hnd0 => ?_
  have hidaB : B.next ≤ ida := hB26 (ida, _) (.head _)
  refine SC_loop (fun u : Nat × List Nat × List (Nat × AObj) × Option Nat => [(0, .s (.int .i64 n)), (1, ra), (2, ka), (6, ordV u.1 u.2.2.2), (7, nilV), (11, .sl ida 0 n none), (12, .ptr kb 0 0), (51, .s (.int .i64 n)), (52, .s (.int .i64 u.1))])
    (fun u => (kb, .cells 64 1 true [[.sl kid 0 n none]]) :: (kid, .cells 25 1 true (krows (1 + ks.length) u.2.1 ++ List.replicate (n - u.1) [nilV])) :: (ida, .cells 3 1 true (tab n (fun x => sumT rs x))) :: (ordH u.1 u.2.2.2 ++ u.2.2.1)) (fun _ => [])
    (fun u => u.1 ≤ n ∧ Keys u.2.2.1 u.1 (1 + ks.length) u.2.1 ks.isEmpty (keyOf rs ks) ∧ (u.2.2.2 = none → u.1 = 0) ∧ ∀ o, u.2.2.2 = some o → B.next ≤ o) (fun u => n - u.1) (0, [], [], none)
    ⟨Nat.zero_le _, ⟨rfl, fun i hi => absurd hi (Nat.not_lt_zero _), fun i id hi => (by cases hi)⟩, fun _ => rfl, fun o h => (by cases h)⟩ ⟨rfl, rfl, rfl, rfl, rfl, rfl, rfl, rfl, rfl, trivial⟩ (.refl _) hnd0 rfl ?_
  rintro ⟨i, ids, KH, oid⟩ ⟨hi, hkeys, ho0, hoo⟩
  dsimp only at hi hkeys ho0 hoo ⊢
  have hidl := hkeys.len
  by_cases hilt : i < n
  · rw [KR_0 _ _ _ (by omega)]
    repeat' (first
      | refine SD_op (i := 8) [kid, base + 6] [] (by rfl) (by rfl) (fun x hx => List.mem_cons_of_mem _ hx) (fun p hp => by cases hp) (fun k hk => by cases hk) (.inl rfl) ?_
      | refine SD_build1 (i := 6) (by rfl) (by rfl) (by decide) (by rfl) el25 (by rfl) (fun p hp => by cases hp) (by simp) (fun hm => hnotbase hb4 hm) (by simp at hb2; omega) (hb3 _ (by omega)) ?_
      | (refine SC_drawn (id := 14) (pl := [(0, []), (1, []), (2, []), (3, []), (4, []), (5, []), (6, []), (7, []), (8, [])]) (by kernel_rfl) (by kernel_rfl) ?_; intro B' base hb1 hb2 hb3 hb4)
      | refine SC_seq ?_
      | refine SC_block ?_
      | refine SC_region ?_
      | refine SL_seq ?_
      | refine SL_move (by decide) (by rfl) ?_
      | refine SL_assign (by decide) (by rfl) ?_
      | (refine SL_lss (by decide) (by rfl) (by rfl) (fun hT => ?_) (fun hT => ?_) <;> first | (exfalso; omega) | skip)
      | refine SL_indexAddr_0 (by decide) (by rfl) (by rfl) (by repeat (first | exact .head _ | refine .tail _ ?_)) (slF (by rfl)) _ (by first | rfl | exact (Int.toNat_of_nonneg (by omega)).symm) (by omega) ?_
      | refine SL_load_o (by decide) (by rfl) (by repeat (first | exact .head _ | refine .tail _ ?_)) (rowF (by rfl)) (by first | assumption | rfl | exact ints_getD _ (by omega) | exact tab_get _ _ (by omega) | exact ints_getD _ (by rw [List.length_set]; omega) | exact KR_get _ _ _ (by omega)) (by rfl) ?_
      | refine SL_store_n (by rfl) (by rfl) (by repeat (first | exact .head _ | refine .tail _ ?_)) (by first | assumption | rfl | exact ints_getD _ (by omega) | exact tab_get _ _ (by omega) | exact ints_getD _ (by rw [List.length_set]; omega) | exact KR_get _ _ _ (by omega)) (by rfl) (by first | exact KR_set _ _ _ _ (by omega) | exact ints_set _ _ _ _ | rfl) (by repeat (first | exact .head | apply Upd.tail)) (by first | exact .inl (by assumption) | exact .inr (by simp)) (szF (by rfl)) (Nat.le_of_ble_eq_true (by rfl)) (by rfl) ?_
      | refine SC_cond_t (by rfl) ?_
      | (refine SC_skip' (fun tm σ hE hH => ?_); refine SC.app ?_ hE hH; clear hE hH; clear tm σ)
      | (refine SL_nil (fun tm σ hE hH => ⟨_, _, _, _, rfl, hE, hH, ?_⟩); clear hE hH; clear tm σ)
      | refine SD_op _ [] (by rfl) (by rfl) (fun _ h => h) (fun p hp => by cases hp) (fun k hk => by cases hk) (.inl rfl) ?_
      | fail)
    refine SD_nil fun tm2 σ2 hE2 hH2 => ⟨_, _, _, _, _, rfl, hE2, hH2, fun q hq => ?_, fun tm3 σ3 hE3 hH3 => ?_⟩
    · simp only [List.mem_cons, List.not_mem_nil, or_false] at hq
      rcases hq with rfl | rfl
      · exact .inl hkid
      · exact .inl (by omega)
    have hbase : B.next ≤ base + 6 := by omega
    refine SC.app ?_ hE3 hH3
    clear hE2 hH2 hE3 hH3 hb3 hb4
    clear tm2 σ2 tm3 σ3
    repeat' (first
      | refine SL_len_v (by decide) (by rfl) hk (by rfl) sl37 hil ?_
      | refine SC_seq ?_
      | refine SC_block ?_
      | refine SC_region ?_
      | refine SL_seq ?_
      | refine SL_move (by decide) (by rfl) ?_
      | fail)
    have h28 := h28A i hilt
    refine SC_nd fun hnd1 => ?_
    refine SC_loop (fun v : Nat × Nat × Bool => [(0, .s (.int .i64 n)), (1, ra), (2, ka), (6, ordV i oid), (7, nilV), (11, .sl ida 0 n none), (12, .ptr kb 0 0), (13, .s (.int .i64 i)), (51, .s (.int .i64 n)), (52, .s (.int .i64 i)), (63, ka), (64, .s (.int .i64 ks.length)), (65, .s (.int .i64 v.1))])
      (fun v => (v.2.1, .cells 3 1 v.2.2 (ints ((keyOf rs ks i).take (1 + v.1)))) :: (kb, .cells 64 1 true [[.sl kid 0 n none]]) :: (kid, .cells 25 1 true (KR (1 + ks.length) ids (.sl v.2.1 0 (1 + v.1) none) (n - i - 1))) :: (ida, .cells 3 1 true (tab n (fun x => sumT rs x))) :: (ordH i oid ++ KH)) (fun _ => [])
      (fun v => v.1 ≤ ks.length ∧ v.2.2 = decide (v.1 = 0) ∧ B.next ≤ v.2.1) (fun v => ks.length - v.1) (0, base + 6, true) ⟨Nat.zero_le _, rfl, hbase⟩ ⟨rfl, rfl, rfl, rfl, rfl, rfl, rfl, rfl, rfl, rfl, rfl, rfl, rfl, trivial⟩ (.refl _) hnd1 rfl ?_
    clear hnd1 hbase
    rintro ⟨j, cur, e⟩ ⟨hj, he, hcur⟩
    dsimp only at hj he hcur ⊢
    by_cases hjlt : j < ks.length
    · refine SC_nd fun hnd2 => ?_
      have hne1 : cur ≠ kb := fun e => (List.nodup_cons.1 hnd2).1 (by rw [e]; exact .head _)
      have hne2 : cur ≠ kid := fun e => (List.nodup_cons.1 hnd2).1 (by rw [e]; exact .tail _ (.head _))
      by_cases hj0 : j = 0
      · obtain rfl : e = true := by rw [he, hj0]; rfl
        repeat' (first
          | (refine SL_append1_grow (len := 1 + j) (by decide) (by rfl) (by rfl) (.tail _ (.head _)) (by rw [ints_len, List.length_take, keyOf_len]; omega) (.head _) el25 (sliceOf_spec sl25).1 (by rfl) (by omega) (by omega) (fun id hid => ?_))
          | (refine SL_call (by decide) (by rfl) bd28 (by rfl) (by rfl) (h28 ida j hjlt) ⟨.tail _ (.tail _ (.tail _ (.head _))), trivial⟩ (by simp) ?_; rintro _ _ _ ⟨rfl, rfl⟩; rw [List.nil_append])
          | refine SD_op (i := 14) [kid, cur, base + 11] [(5, kid), (4, kid), (2, kb), (0, kb)] (by rfl) (by rfl) (fun x hx => List.mem_cons_of_mem _ hx) (fun p hp => by simp only [List.mem_cons, List.not_mem_nil, or_false] at hp; rcases hp with rfl | rfl | rfl | rfl <;> simp) (fun k hk => by cases hk) (.inl rfl) ?_
          | refine SD_op (i := 13) [cur, base + 11] [(5, kid), (4, kid), (2, kb), (0, kb)] (by rfl) (by rfl) (fun _ h => h) (fun p hp => by simp only [List.mem_cons, List.not_mem_nil, or_false] at hp; rcases hp with rfl | rfl | rfl | rfl <;> simp) (fun k hk => by cases hk) (.inl rfl) ?_
          | refine SD_op (i := 12) [cur, base + 11] [(5, kid), (4, kid), (2, kb), (0, kb)] (by rfl) (by rfl) (fun x hx => List.mem_cons_of_mem _ hx) (fun p hp => by simp only [List.mem_cons, List.not_mem_nil, or_false] at hp; rcases hp with rfl | rfl | rfl | rfl <;> simp) (fun k hk => by rw [List.mem_singleton] at hk; subst hk; exact ⟨kb, by simp, by simp only [List.mem_cons, List.not_mem_nil, or_false]; omega, by omega⟩) (.inl rfl) ?_
          | refine SD_build1 (i := 11) (by rfl) (by rfl) (by decide) (by rfl) el25 (by rfl) (fun p hp => by simp only [List.mem_cons, List.not_mem_nil, or_false] at hp; rcases hp with rfl | rfl | rfl | rfl <;> simp) (by simp) (fun hm => hnotbase hb4 hm) (by omega) (hb3 _ (by omega)) ?_
          | refine SD_op (i := 10) [] [(5, kid), (4, kid), (2, kb), (0, kb)] (by rfl) (by rfl) (fun _ h => h) (fun p hp => by simp only [List.mem_cons, List.not_mem_nil, or_false] at hp; rcases hp with rfl | rfl | rfl | rfl <;> simp) (fun k hk => by simp only [List.mem_cons, List.not_mem_nil, or_false] at hk; rcases hk with rfl | rfl | rfl | rfl; exact ⟨kid, .head _, by simp, by omega⟩; exact ⟨kid, .tail _ (.head _), by simp, by omega⟩; exact ⟨kb, .tail _ (.tail _ (.head _)), by simp, by omega⟩; exact ⟨kb, .tail _ (.tail _ (.tail _ (.head _))), by simp, by omega⟩) (.inl rfl) ?_
          | refine SD_op (i := 9) [] [(5, kid), (4, kid), (2, kb), (0, kb)] (by rfl) (by rfl) (fun _ h => h) (fun p hp => by simp only [List.mem_cons, List.not_mem_nil, or_false] at hp; rcases hp with rfl | rfl | rfl | rfl <;> simp) (fun k hk => by cases hk) (.inl rfl) ?_
          | refine SD_op (i := 8) [] [(5, kid), (4, kid), (2, kb), (0, kb)] (by rfl) (by rfl) (fun _ h => h) (fun p hp => by simp only [List.mem_cons, List.not_mem_nil, or_false] at hp; rcases hp with rfl | rfl | rfl | rfl <;> simp) (fun k hk => by cases hk) (.inl rfl) ?_
          | refine SD_op (i := 7) [] [(5, kid), (4, kid), (2, kb), (0, kb)] (by rfl) (by rfl) (fun _ h => h) (fun p hp => by simp only [List.mem_cons, List.not_mem_nil, or_false] at hp; rcases hp with rfl | rfl | rfl | rfl <;> simp) (fun k hk => by cases hk) (.inl rfl) ?_
          | refine SD_op (i := 6) [] [(5, kid), (4, kid), (2, kb), (0, kb)] (by rfl) (by rfl) (fun _ h => h) (fun p hp => by simp only [List.mem_cons, List.not_mem_nil, or_false] at hp; rcases hp with rfl | rfl | rfl | rfl <;> simp) (fun k hk => by cases hk) (.inl rfl) ?_
          | refine SD_op (i := 5) [] [(5, kid), (4, kid), (2, kb), (0, kb)] (by rfl) (by rfl) (fun _ h => h) (fun p hp => by simp only [List.mem_cons, List.not_mem_nil, or_false] at hp; rcases hp with rfl | rfl | rfl <;> simp) (fun k hk => by cases hk) (.inr ⟨.tmp 73, .ptr kid i 0, kid, rfl, rfl, rfl, by simp, by omega, rfl⟩) ?_
          | refine SD_op (i := 4) [] [(4, kid), (2, kb), (0, kb)] (by rfl) (by rfl) (fun _ h => h) (fun p hp => by simp only [List.mem_cons, List.not_mem_nil, or_false] at hp; rcases hp with rfl | rfl <;> simp) (fun k hk => by cases hk) (.inr ⟨.tmp 71, .sl kid 0 n none, kid, rfl, rfl, rfl, by simp, by omega, rfl⟩) ?_
          | refine SD_op (i := 3) [] [(2, kb), (0, kb)] (by rfl) (by rfl) (fun _ h => h) (fun p hp => by simp only [List.mem_cons, List.not_mem_nil, or_false] at hp; rcases hp with rfl | rfl <;> simp) (fun k hk => by cases hk) (.inl rfl) ?_
          | refine SD_op (i := 2) [] [(2, kb), (0, kb)] (by rfl) (by rfl) (fun _ h => h) (fun p hp => by simp only [List.mem_cons, List.not_mem_nil, or_false] at hp; rcases hp with rfl <;> simp) (fun k hk => by cases hk) (.inr ⟨.tmp 12, .ptr kb 0 0, kb, rfl, rfl, rfl, by simp, by omega, rfl⟩) ?_
          | refine SD_op (i := 1) [] [(0, kb)] (by rfl) (by rfl) (fun _ h => h) (fun p hp => by simp only [List.mem_cons, List.not_mem_nil, or_false] at hp; rcases hp with rfl <;> simp) (fun k hk => by cases hk) (.inl rfl) ?_
          | refine SD_op (i := 0) [] [(0, kb)] (by rfl) (by rfl) (fun _ h => h) (fun p hp => by cases hp) (fun k hk => by cases hk) (.inr ⟨.tmp 12, .ptr kb 0 0, kb, rfl, rfl, rfl, by simp, by omega, rfl⟩) ?_
          | (refine SC_drawn (id := 18) (pl := [(0, []), (1, []), (2, []), (3, []), (4, []), (5, []), (6, []), (7, []), (8, []), (9, []), (10, [5, 4, 2, 0]), (11, []), (12, [0]), (13, []), (14, [])]) (by kernel_rfl) (by kernel_rfl) ?_; intro B2 base hb1 hb2 hb3 hb4; have hkblt : kb < base := hb4 (kb, _) (.tail _ (.head _)); have hkidlt : kid < base := hb4 (kid, _) (.tail _ (.tail _ (.head _))); have hcurlt : cur < base := hb4 (cur, _) (.head _); have hB2 : base + 15 ≤ B2.next := hb2)
          | refine SL_indexAddr_v (by decide) (by rfl) (by rfl) hk sl37 j (by omega) (by omega) (fun ad => ?_)
          | refine SC_seq ?_
          | refine SC_block ?_
          | refine SC_region ?_
          | refine SL_seq ?_
          | refine SL_move (by decide) (by rfl) ?_
          | refine SL_assign (by decide) (by rfl) ?_
          | (refine SL_lss (by decide) (by rfl) (by rfl) (fun hT => ?_) (fun hT => ?_) <;> first | (exfalso; omega) | skip)
          | refine SL_indexAddr_0 (by decide) (by rfl) (by rfl) (by repeat (first | exact .head _ | refine .tail _ ?_)) (slF (by rfl)) _ (by first | rfl | exact (Int.toNat_of_nonneg (by omega)).symm) (by omega) ?_
          | refine SL_load_r (by decide) (by rfl) (rowF (by rfl)) (by first | assumption | rfl | exact ints_getD _ (by omega) | exact tab_get _ _ (by omega) | exact ints_getD _ (by rw [List.length_set]; omega) | exact KR_get _ _ _ (by omega)) (by rfl) ?_
          | refine SL_load_o (by decide) (by rfl) (by repeat (first | exact .head _ | refine .tail _ ?_)) (rowF (by rfl)) (by first | assumption | rfl | exact ints_getD _ (by omega) | exact tab_get _ _ (by omega) | exact ints_getD _ (by rw [List.length_set]; omega) | exact KR_get _ _ _ (by omega)) (by rfl) ?_
          | refine SL_store_n (by rfl) (by rfl) (by repeat (first | exact .head _ | refine .tail _ ?_)) (by first | assumption | rfl | exact ints_getD _ (by omega) | exact tab_get _ _ (by omega) | exact ints_getD _ (by rw [List.length_set]; omega) | exact KR_get _ _ _ (by omega)) (by rfl) (by first | exact KR_set _ _ _ _ (by omega) | exact ints_set _ _ _ _ | rfl) (by repeat (first | exact .head | apply Upd.tail)) (by first | exact .inl (by assumption) | exact .inr (by simp)) (szF (by rfl)) (Nat.le_of_ble_eq_true (by rfl)) (by rfl) ?_
          | refine SC_cond_t (by rfl) ?_
          | (refine SC_skip' (fun tm σ hE hH => ?_); refine SC.app ?_ hE hH; clear hE hH; clear tm σ)
          | (refine SL_nil (fun tm σ hE hH => ⟨_, _, _, _, rfl, hE, hH, ?_⟩); clear hE hH; clear tm σ)
          | fail)
        refine SD_nil fun tm2 σ2 hE2 hH2 => ⟨_, _, _, _, _, rfl, hE2, hH2, fun q hq => ?_, fun tm3 σ3 hE3 hH3 => ?_⟩
        · simp only [List.mem_cons, List.not_mem_nil, or_false] at hq
          rcases hq with rfl | rfl | rfl
          · exact .inl hkid
          · exact .inl hcur
          · exact .inl (by omega)
        have hidB : B.next ≤ id := by omega
        refine SC.app ?_ hE3 hH3
        clear hE2 hH2 hE3 hH3 hb3 hb4
        clear tm2 σ2 tm3 σ3
        repeat' (first
          | refine SC_region ?_
          | refine SL_move (by decide) (by rfl) ?_
          | refine SL_add (by decide) (by rfl) (by rfl) (by omega) (by omega) ?_
          | fail)
        have htk : ints ((keyOf rs ks i).take (1 + j)) ++ [[AV.s (.int .i64 (kval rs i (ks.getD j 0)))]] = ints ((keyOf rs ks i).take (1 + (j + 1))) := by
          rw [ints_snoc, show 1 + (j + 1) = (1 + j) + 1 by omega, List.take_succ_eq_append_getElem (by rw [keyOf_len]; omega)]
          congr 3
          unfold keyOf
          simp only [show 1 + j = j + 1 by omega, List.getElem_cons_succ, List.getElem_map]
          rw [getD_at _ hjlt]
        refine SL_nil fun tm σ hE hH => ⟨(j + 1, id, false), by show ks.length - (j + 1) < ks.length - j; omega, ⟨by show j + 1 ≤ _; omega, by simp, hidB⟩, tm, σ, rfl, hE.sub ⟨rfl, rfl, rfl, rfl, rfl, rfl, rfl, rfl, rfl, rfl, rfl, rfl, rfl, trivial⟩, ?_⟩
        dsimp only
        rw [← htk]
        exact hH.subl (.cons_cons _ (.cons _ (.cons _ (.refl _))))
      · obtain rfl : e = false := by rw [he]; exact decide_eq_false hj0
        repeat' (first
          | (refine SL_append1_own (len := 1 + j) (by decide) (by rfl) (by rfl) (.tail .head) (by rw [ints_len, List.length_take, keyOf_len]; omega) (.inr (by simp)) (.head _) el25 (sliceOf_spec sl25).1 (by rfl) (by omega) (by omega) (fun id hid => ?_))
          | (refine SL_call (by decide) (by rfl) bd28 (by rfl) (by rfl) (h28 ida j hjlt) ⟨.tail _ (.tail _ (.tail _ (.head _))), trivial⟩ (by simp) ?_; rintro _ _ _ ⟨rfl, rfl⟩; rw [List.nil_append])
          | refine SD_op (i := 14) [kid, cur, base + 11] [(5, kid), (4, kid), (2, kb), (0, kb)] (by rfl) (by rfl) (fun x hx => List.mem_cons_of_mem _ hx) (fun p hp => by simp only [List.mem_cons, List.not_mem_nil, or_false] at hp; rcases hp with rfl | rfl | rfl | rfl <;> simp) (fun k hk => by cases hk) (.inl rfl) ?_
          | refine SD_op (i := 13) [cur, base + 11] [(5, kid), (4, kid), (2, kb), (0, kb)] (by rfl) (by rfl) (fun _ h => h) (fun p hp => by simp only [List.mem_cons, List.not_mem_nil, or_false] at hp; rcases hp with rfl | rfl | rfl | rfl <;> simp) (fun k hk => by cases hk) (.inl rfl) ?_
          | refine SD_op (i := 12) [cur, base + 11] [(5, kid), (4, kid), (2, kb), (0, kb)] (by rfl) (by rfl) (fun x hx => List.mem_cons_of_mem _ hx) (fun p hp => by simp only [List.mem_cons, List.not_mem_nil, or_false] at hp; rcases hp with rfl | rfl | rfl | rfl <;> simp) (fun k hk => by rw [List.mem_singleton] at hk; subst hk; exact ⟨kb, by simp, by simp only [List.mem_cons, List.not_mem_nil, or_false]; omega, by omega⟩) (.inl rfl) ?_
          | refine SD_build1 (i := 11) (by rfl) (by rfl) (by decide) (by rfl) el25 (by rfl) (fun p hp => by simp only [List.mem_cons, List.not_mem_nil, or_false] at hp; rcases hp with rfl | rfl | rfl | rfl <;> simp) (by simp) (fun hm => hnotbase hb4 hm) (by omega) (hb3 _ (by omega)) ?_
          | refine SD_op (i := 10) [] [(5, kid), (4, kid), (2, kb), (0, kb)] (by rfl) (by rfl) (fun _ h => h) (fun p hp => by simp only [List.mem_cons, List.not_mem_nil, or_false] at hp; rcases hp with rfl | rfl | rfl | rfl <;> simp) (fun k hk => by simp only [List.mem_cons, List.not_mem_nil, or_false] at hk; rcases hk with rfl | rfl | rfl | rfl; exact ⟨kid, .head _, by simp, by omega⟩; exact ⟨kid, .tail _ (.head _), by simp, by omega⟩; exact ⟨kb, .tail _ (.tail _ (.head _)), by simp, by omega⟩; exact ⟨kb, .tail _ (.tail _ (.tail _ (.head _))), by simp, by omega⟩) (.inl rfl) ?_
          | refine SD_op (i := 9) [] [(5, kid), (4, kid), (2, kb), (0, kb)] (by rfl) (by rfl) (fun _ h => h) (fun p hp => by simp only [List.mem_cons, List.not_mem_nil, or_false] at hp; rcases hp with rfl | rfl | rfl | rfl <;> simp) (fun k hk => by cases hk) (.inl rfl) ?_
          | refine SD_op (i := 8) [] [(5, kid), (4, kid), (2, kb), (0, kb)] (by rfl) (by rfl) (fun _ h => h) (fun p hp => by simp only [List.mem_cons, List.not_mem_nil, or_false] at hp; rcases hp with rfl | rfl | rfl | rfl <;> simp) (fun k hk => by cases hk) (.inl rfl) ?_
          | refine SD_op (i := 7) [] [(5, kid), (4, kid), (2, kb), (0, kb)] (by rfl) (by rfl) (fun _ h => h) (fun p hp => by simp only [List.mem_cons, List.not_mem_nil, or_false] at hp; rcases hp with rfl | rfl | rfl | rfl <;> simp) (fun k hk => by cases hk) (.inl rfl) ?_
          | refine SD_op (i := 6) [] [(5, kid), (4, kid), (2, kb), (0, kb)] (by rfl) (by rfl) (fun _ h => h) (fun p hp => by simp only [List.mem_cons, List.not_mem_nil, or_false] at hp; rcases hp with rfl | rfl | rfl | rfl <;> simp) (fun k hk => by cases hk) (.inl rfl) ?_
          | refine SD_op (i := 5) [] [(5, kid), (4, kid), (2, kb), (0, kb)] (by rfl) (by rfl) (fun _ h => h) (fun p hp => by simp only [List.mem_cons, List.not_mem_nil, or_false] at hp; rcases hp with rfl | rfl | rfl <;> simp) (fun k hk => by cases hk) (.inr ⟨.tmp 73, .ptr kid i 0, kid, rfl, rfl, rfl, by simp, by omega, rfl⟩) ?_
          | refine SD_op (i := 4) [] [(4, kid), (2, kb), (0, kb)] (by rfl) (by rfl) (fun _ h => h) (fun p hp => by simp only [List.mem_cons, List.not_mem_nil, or_false] at hp; rcases hp with rfl | rfl <;> simp) (fun k hk => by cases hk) (.inr ⟨.tmp 71, .sl kid 0 n none, kid, rfl, rfl, rfl, by simp, by omega, rfl⟩) ?_
          | refine SD_op (i := 3) [] [(2, kb), (0, kb)] (by rfl) (by rfl) (fun _ h => h) (fun p hp => by simp only [List.mem_cons, List.not_mem_nil, or_false] at hp; rcases hp with rfl | rfl <;> simp) (fun k hk => by cases hk) (.inl rfl) ?_
          | refine SD_op (i := 2) [] [(2, kb), (0, kb)] (by rfl) (by rfl) (fun _ h => h) (fun p hp => by simp only [List.mem_cons, List.not_mem_nil, or_false] at hp; rcases hp with rfl <;> simp) (fun k hk => by cases hk) (.inr ⟨.tmp 12, .ptr kb 0 0, kb, rfl, rfl, rfl, by simp, by omega, rfl⟩) ?_
          | refine SD_op (i := 1) [] [(0, kb)] (by rfl) (by rfl) (fun _ h => h) (fun p hp => by simp only [List.mem_cons, List.not_mem_nil, or_false] at hp; rcases hp with rfl <;> simp) (fun k hk => by cases hk) (.inl rfl) ?_
          | refine SD_op (i := 0) [] [(0, kb)] (by rfl) (by rfl) (fun _ h => h) (fun p hp => by cases hp) (fun k hk => by cases hk) (.inr ⟨.tmp 12, .ptr kb 0 0, kb, rfl, rfl, rfl, by simp, by omega, rfl⟩) ?_
          | (refine SC_drawn (id := 18) (pl := [(0, []), (1, []), (2, []), (3, []), (4, []), (5, []), (6, []), (7, []), (8, []), (9, []), (10, [5, 4, 2, 0]), (11, []), (12, [0]), (13, []), (14, [])]) (by kernel_rfl) (by kernel_rfl) ?_; intro B2 base hb1 hb2 hb3 hb4; have hkblt : kb < base := hb4 (kb, _) (.tail _ (.head _)); have hkidlt : kid < base := hb4 (kid, _) (.tail _ (.tail _ (.head _))); have hcurlt : cur < base := hb4 (cur, _) (.head _); have hB2 : base + 15 ≤ B2.next := hb2)
          | refine SL_indexAddr_v (by decide) (by rfl) (by rfl) hk sl37 j (by omega) (by omega) (fun ad => ?_)
          | refine SC_seq ?_
          | refine SC_block ?_
          | refine SC_region ?_
          | refine SL_seq ?_
          | refine SL_move (by decide) (by rfl) ?_
          | refine SL_assign (by decide) (by rfl) ?_
          | (refine SL_lss (by decide) (by rfl) (by rfl) (fun hT => ?_) (fun hT => ?_) <;> first | (exfalso; omega) | skip)
          | refine SL_indexAddr_0 (by decide) (by rfl) (by rfl) (by repeat (first | exact .head _ | refine .tail _ ?_)) (slF (by rfl)) _ (by first | rfl | exact (Int.toNat_of_nonneg (by omega)).symm) (by omega) ?_
          | refine SL_load_r (by decide) (by rfl) (rowF (by rfl)) (by first | assumption | rfl | exact ints_getD _ (by omega) | exact tab_get _ _ (by omega) | exact ints_getD _ (by rw [List.length_set]; omega) | exact KR_get _ _ _ (by omega)) (by rfl) ?_
          | refine SL_load_o (by decide) (by rfl) (by repeat (first | exact .head _ | refine .tail _ ?_)) (rowF (by rfl)) (by first | assumption | rfl | exact ints_getD _ (by omega) | exact tab_get _ _ (by omega) | exact ints_getD _ (by rw [List.length_set]; omega) | exact KR_get _ _ _ (by omega)) (by rfl) ?_
          | refine SL_store_n (by rfl) (by rfl) (by repeat (first | exact .head _ | refine .tail _ ?_)) (by first | assumption | rfl | exact ints_getD _ (by omega) | exact tab_get _ _ (by omega) | exact ints_getD _ (by rw [List.length_set]; omega) | exact KR_get _ _ _ (by omega)) (by rfl) (by first | exact KR_set _ _ _ _ (by omega) | exact ints_set _ _ _ _ | rfl) (by repeat (first | exact .head | apply Upd.tail)) (by first | exact .inl (by assumption) | exact .inr (by simp)) (szF (by rfl)) (Nat.le_of_ble_eq_true (by rfl)) (by rfl) ?_
          | refine SC_cond_t (by rfl) ?_
          | (refine SC_skip' (fun tm σ hE hH => ?_); refine SC.app ?_ hE hH; clear hE hH; clear tm σ)
          | (refine SL_nil (fun tm σ hE hH => ⟨_, _, _, _, rfl, hE, hH, ?_⟩); clear hE hH; clear tm σ)
          | fail)
        refine SD_nil fun tm2 σ2 hE2 hH2 => ⟨_, _, _, _, _, rfl, hE2, hH2, fun q hq => ?_, fun tm3 σ3 hE3 hH3 => ?_⟩
        · simp only [List.mem_cons, List.not_mem_nil, or_false] at hq
          rcases hq with rfl | rfl | rfl
          · exact .inl hkid
          · exact .inl hcur
          · exact .inl (by omega)
        have hidB : B.next ≤ id := by omega
        refine SC.app ?_ hE3 hH3
        clear hE2 hH2 hE3 hH3 hb3 hb4
        clear tm2 σ2 tm3 σ3
        repeat' (first
          | refine SC_region ?_
          | refine SL_move (by decide) (by rfl) ?_
          | refine SL_add (by decide) (by rfl) (by rfl) (by omega) (by omega) ?_
          | fail)
        have htk : ints ((keyOf rs ks i).take (1 + j)) ++ [[AV.s (.int .i64 (kval rs i (ks.getD j 0)))]] = ints ((keyOf rs ks i).take (1 + (j + 1))) := by
          rw [ints_snoc, show 1 + (j + 1) = (1 + j) + 1 by omega, List.take_succ_eq_append_getElem (by rw [keyOf_len]; omega)]
          congr 3
          unfold keyOf
          simp only [show 1 + j = j + 1 by omega, List.getElem_cons_succ, List.getElem_map]
          rw [getD_at _ hjlt]
        refine SL_nil fun tm σ hE hH => ⟨(j + 1, id, false), by show ks.length - (j + 1) < ks.length - j; omega, ⟨by show j + 1 ≤ _; omega, by simp, hidB⟩, tm, σ, rfl, hE.sub ⟨rfl, rfl, rfl, rfl, rfl, rfl, rfl, rfl, rfl, rfl, rfl, rfl, rfl, trivial⟩, ?_⟩
        dsimp only
        rw [← htk]
        exact hH.subl (.cons_cons _ (.cons _ (.cons _ (.refl _))))
    · obtain rfl : j = ks.length := by omega
      have hkl : (keyOf rs ks i).take (1 + ks.length) = keyOf rs ks i := List.take_of_length_le (by rw [keyOf_len]; omega)
      have hee : e = ks.isEmpty := by rw [he]; cases ks <;> simp
      rw [hkl, KR_end, hee]
      cases oid with
      | none =>
        obtain rfl : i = 0 := ho0 rfl
        dsimp only [ordV, ordH, List.nil_append]
        repeat' (first
          | refine SC_seq ?_
          | refine SC_region ?_
          | refine SL_seq ?_
          | (refine SL_nil (fun tm σ hE hH => ?_); refine SC.app ?_ hE hH; clear hE hH; clear tm σ)
          | refine SL_move (by decide) (by rfl) ?_
          | refine SL_assign (by decide) (by rfl) ?_
          | refine SL_add (by decide) (by rfl) (by rfl) (by omega) (by omega) ?_
          | (refine SL_lss (by decide) (by rfl) (by rfl) (fun hT => ?_) (fun hT => ?_) <;> first | (exfalso; omega) | skip)
          | refine SL_build1 (by decide) (by rfl) (elF (by rfl)) (by rfl) (by rfl) (fun id hid => ?_)
          | refine SL_append1_nil (by decide) (by rfl) (by rfl) (by repeat (first | exact .head _ | refine .tail _ ?_)) (elF (by rfl)) (sliceOf_spec (slF (by rfl))).1 (by rfl) (by decide) (fun id hid => ?_)
          | refine SC_cond_f (by rfl) ?_
          | (refine SC_exit (fun tm σ hE hH => ?_); refine SC.app ?_ hE hH; clear hE hH; clear tm σ)
          | fail)
        refine SL_nil fun tm σ hE hH => ⟨(0 + 1, ids ++ [cur], (cur, .cells 3 1 ks.isEmpty (ints (keyOf rs ks 0))) :: KH, some id), by show n - (0 + 1) < n - 0; omega, ⟨by show 0 + 1 ≤ n; omega, hkeys.snoc (keyOf_len rs ks 0) cur, fun h => (by cases h), fun o h => (by cases h; assumption)⟩, tm, σ, rfl, hE.sub ⟨rfl, rfl, rfl, rfl, rfl, rfl, rfl, rfl, rfl, trivial⟩, ?_⟩
        dsimp only [ordH]
        rw [← iota_next, ← ints_snoc]
        exact (hH.subl (H' := (id, _) :: (cur, _) :: (kb, _) :: (kid, _) :: (ida, _) :: KH) (.cons_cons _ (.cons _ (.cons_cons _ (.cons_cons _ (.cons_cons _ (.cons_cons _ (.refl _)))))))).perm (List.perm_append_comm_assoc [(id, _), (cur, _)] [(kb, _), (kid, _), (ida, _)] KH)

      | some o =>
        have hoB := hoo o rfl
        dsimp only [ordV, ordH, List.cons_append, List.nil_append]
        repeat' (first
          | (refine SL_append1_own (len := i) (by decide) (by rfl) (by rfl) (.tail (.tail (.tail (.tail (.tail .head))))) (by rw [ints_len]; simp [iota]) (.inl hoB) (.head _) el25 (sliceOf_spec sl25).1 (by rfl) (by omega) (by omega) (fun id hid => ?_))
          | refine SC_seq ?_
          | refine SC_region ?_
          | refine SL_seq ?_
          | (refine SL_nil (fun tm σ hE hH => ?_); refine SC.app ?_ hE hH; clear hE hH; clear tm σ)
          | refine SL_move (by decide) (by rfl) ?_
          | refine SL_assign (by decide) (by rfl) ?_
          | refine SL_add (by decide) (by rfl) (by rfl) (by omega) (by omega) ?_
          | (refine SL_lss (by decide) (by rfl) (by rfl) (fun hT => ?_) (fun hT => ?_) <;> first | (exfalso; omega) | skip)
          | refine SL_build1 (by decide) (by rfl) (elF (by rfl)) (by rfl) (by rfl) (fun id hid => ?_)
          | refine SC_cond_f (by rfl) ?_
          | (refine SC_exit (fun tm σ hE hH => ?_); refine SC.app ?_ hE hH; clear hE hH; clear tm σ)
          | fail)
        refine SL_nil fun tm σ hE hH => ⟨(i + 1, ids ++ [cur], (cur, .cells 3 1 ks.isEmpty (ints (keyOf rs ks i))) :: KH, some id), by show n - (i + 1) < n - i; omega, ⟨by show i + 1 ≤ n; omega, hkeys.snoc (keyOf_len rs ks i) cur, fun h => (by cases h), fun o h => (by cases h; assumption)⟩, tm, σ, rfl, hE.sub ⟨rfl, rfl, rfl, rfl, rfl, rfl, rfl, rfl, rfl, trivial⟩, ?_⟩
        dsimp only [ordH]
        rw [← iota_next, ← ints_snoc]
        exact (hH.subl (H' := (id, _) :: (cur, _) :: (kb, _) :: (kid, _) :: (ida, _) :: KH) (.cons_cons _ (.cons _ (.cons_cons _ (.cons_cons _ (.cons_cons _ (.cons_cons _ (.cons _ (.refl _))))))))).perm (List.perm_append_comm_assoc [(id, _), (cur, _)] [(kb, _), (kid, _), (ida, _)] KH)

  · obtain rfl : i = n := by omega
    obtain ⟨o, rfl⟩ : ∃ o, oid = some o := by
      cases oid with
      | none => have := ho0 rfl; omega
      | some o => exact ⟨o, rfl⟩
    have hoB := hoo o rfl
    dsimp only [ordV, ordH]
    rw [Nat.sub_self, List.replicate_zero, List.append_nil]
    refine SC_perm (List.perm_append_comm_assoc [(kb, _), (kid, _), (ida, _)] [(o, _)] KH) (SC_nd fun hndA => ?_)
    dsimp only [List.cons_append, List.nil_append] at hndA ⊢
    have hndK : ((keysH kb kid i (1 + ks.length) ids KH).map (·.1)).Nodup := hndA.sublist (.cons _ (.cons_cons _ (.cons_cons _ (.cons _ (.refl _)))))
    have h30 := sortF_fn ho (cmpK ho hkeys (by omega) kb kid) (iota i) i (iota_len i) (fun x hx => iota_mem hx) false o hn24 (iota_nodup i)
    repeat' (first
      | (refine SL_callW2 (H0 := [(o, _)]) (Hr := (kb, _) :: (kid, _) :: (ida, _) :: KH) (Hx := keysH kb kid i (1 + ks.length) ids KH) (M := [o]) (by decide) (by rfl) (bl_of bd30) (by rfl) (by rfl) h30 (fun p hp => List.Sublist.subset (.cons_cons _ (.cons_cons _ (.cons _ (.refl _)))) hp) hndK (fun x hx => by rw [List.mem_singleton] at hx; subst hx; exact ⟨.inl hoB, List.mem_singleton.2 rfl⟩) ?_; intro v0 Hn0 hB0 hR0; clear hB0; obtain ⟨ord, rfl, hop, hos⟩ := hR0; simp only [List.cons_append, List.nil_append])
      | refine SL_makeFunc (by decide) (by rfl) (by rfl) ?_
      | refine SC_seq ?_
      | refine SC_block ?_
      | refine SC_region ?_
      | refine SL_seq ?_
      | refine SL_move (by decide) (by rfl) ?_
      | refine SL_assign (by decide) (by rfl) ?_
      | (refine SL_lss (by decide) (by rfl) (by rfl) (fun hT => ?_) (fun hT => ?_) <;> first | (exfalso; omega) | skip)
      | refine SL_len_sl (by decide) (by rfl) (by rfl) (sliceOf_spec (slF (by rfl))).1 ?_
      | refine SL_makeSlice (by decide) (by rfl) (by rfl) (elF (by rfl)) (by omega) (by omega) (by omega) (by omega) (fun id hid => ?_)
      | refine SC_cond_f (by rfl) ?_
      | (refine SC_exit (fun tm σ hE hH => ?_); refine SC.app ?_ hE hH; clear hE hH; clear tm σ)
      | fail)
    rename_i hpid
    obtain ⟨pid, hpid, rfl⟩ : ∃ b, B.next ≤ b ∧ b = id := ⟨id, hid, rfl⟩
    refine SC_nd fun hndp => ?_
    have hol : ord.length = i := by rw [hop.length_eq, iota_len]
    have hon : ord.Nodup := hop.symm.nodup (iota_nodup i)
    have hom : ∀ a, a < i → 0 ≤ ord.getD a 0 ∧ ord.getD a 0 < i := fun a ha => iota_mem (hop.subset (getD_mem (by omega)))
    refine SC_loop (fun u : Nat × List Int => [(6, .sl o 0 i none), (7, .sl pid 0 i none), (12, .ptr kb 0 0), (94, .sl o 0 i none), (95, .s (.int .i64 i)), (96, .s (.int .i64 u.1))])
      (fun u => (pid, .cells 3 1 true (ints u.2)) :: (o, .cells 3 1 false (ints ord)) :: (kb, .cells 64 1 true [[.sl kid 0 i none]]) :: (kid, .cells 25 1 true (krows (1 + ks.length) ids)) :: (ida, .cells 3 1 true (tab i (fun x => sumT rs x))) :: KH) (fun _ => [])
      (fun u => u.1 ≤ i ∧ u.2.length = i ∧ ∀ a, a < u.1 → u.2.getD (ord.getD a 0).toNat 0 = plOf (keyOf rs ks) ord a) (fun u => i - u.1) (0, List.replicate i 0) ⟨Nat.zero_le _, by simp, fun a ha => absurd ha (Nat.not_lt_zero _)⟩ ⟨rfl, rfl, rfl, rfl, rfl, rfl, trivial⟩ (by rw [← ints_zero]; exact .refl _) hndp rfl ?_
    rintro ⟨a, pls⟩ ⟨ha, hpl, hpa⟩
    dsimp only at ha hpl hpa ⊢
    by_cases halt : a < i
    · obtain ⟨x, hx⟩ : ∃ x : Nat, ord.getD a 0 = x := ⟨(ord.getD a 0).toNat, by have := hom a halt; omega⟩
      have hxi : x < i := by have := hom a halt; omega
      have hgx : (ints ord)[a]? = some [.s (.int .i64 x)] := by rw [ints_getD _ (by omega), hx]
      obtain ⟨idx, hix, hgkx, hmx⟩ := hkeys.at_ hxi
      by_cases ha0 : a = 0
      · subst ha0
        repeat' (first
          | (refine SD_nil (fun tm σ hE hH => ⟨[], _, _, _, _, rfl, hE, hH, fun _ h => (by cases h), ?_⟩); clear hE hH; clear tm σ; intro tm σ hE hH; refine SC.app ?_ hE hH; clear hE hH; clear tm σ)
          | (refine SC_drawn (id := 28) (pl := [(0, []), (1, []), (2, []), (3, []), (4, []), (5, []), (6, []), (7, []), (8, []), (9, []), (10, []), (11, []), (12, []), (13, []), (14, []), (15, []), (16, [])]) (by kernel_rfl) (by kernel_rfl) ?_; intro B' base hb1 hb2 hb3 hb4)
          | refine SC_seq ?_
          | refine SC_block ?_
          | refine SC_region ?_
          | refine SL_seq ?_
          | refine SL_not (by rfl) (by rfl) (by rfl) (by decide) ?_
          | refine SL_move (by decide) (by rfl) ?_
          | refine SL_assign (by decide) (by rfl) ?_
          | refine SL_pick_f (by decide) (by rfl) (by rfl) ?_
          | refine SL_add (by decide) (by rfl) (by rfl) (by omega) (by omega) ?_
          | (refine SL_lss (by decide) (by rfl) (by rfl) (fun hT => ?_) (fun hT => ?_) <;> first | (exfalso; omega) | skip)
          | (refine SL_gtr (by decide) (by rfl) (by rfl) (fun hT => ?_) (fun hT => ?_) <;> first | (exfalso; omega) | skip)
          | refine SL_indexAddr_0 (by decide) (by rfl) (by rfl) (by repeat (first | exact .head _ | refine .tail _ ?_)) (slF (by rfl)) _ (by first | rfl | exact (Int.toNat_of_nonneg (by omega)).symm) (by omega) ?_
          | refine SL_load_o (by decide) (by rfl) (by repeat (first | exact .head _ | refine .tail _ ?_)) (rowF (by rfl)) (by first | assumption | rfl | exact ints_getD _ (by omega) | exact tab_get _ _ (by omega) | exact ints_getD _ (by rw [List.length_set]; omega) | exact KR_get _ _ _ (by omega)) (by rfl) ?_
          | refine SL_store_n (by rfl) (by rfl) (by repeat (first | exact .head _ | refine .tail _ ?_)) (by first | assumption | rfl | exact ints_getD _ (by omega) | exact tab_get _ _ (by omega) | exact ints_getD _ (by rw [List.length_set]; omega) | exact KR_get _ _ _ (by omega)) (by rfl) (by first | exact KR_set _ _ _ _ (by omega) | exact ints_set _ _ _ _ | rfl) (by repeat (first | exact .head | apply Upd.tail)) (by first | exact .inl (by assumption) | exact .inr (by simp)) (szF (by rfl)) (Nat.le_of_ble_eq_true (by rfl)) (by rfl) ?_
          | refine SC_cond_t (by rfl) ?_
          | refine SC_cond_f (by rfl) ?_
          | (refine SC_skip' (fun tm σ hE hH => ?_); refine SC.app ?_ hE hH; clear hE hH; clear tm σ)
          | (refine SL_nil (fun tm σ hE hH => ⟨_, _, _, _, rfl, hE, hH, ?_⟩); clear hE hH; clear tm σ)
          | refine SD_op _ [] (by rfl) (by rfl) (fun _ h => h) (fun p hp => by cases hp) (fun k hk => by cases hk) (.inl rfl) ?_
          | fail)
        exact SL_nil fun tm σ hE hH => ⟨(0 + 1, pls.set x (((0 : Nat) : Int) + 1)), by show i - (0 + 1) < i - 0; omega, ⟨by show 0 + 1 ≤ i; omega, by show (pls.set x _).length = i; rw [List.length_set]; exact hpl, place_0 hol hpl hon hom hx (by omega)⟩, tm, σ, rfl, hE.sub ⟨rfl, rfl, rfl, rfl, rfl, rfl, trivial⟩, hH⟩
      · obtain ⟨y, hy⟩ : ∃ y : Nat, ord.getD (a - 1) 0 = y := ⟨(ord.getD (a - 1) 0).toNat, by have := hom (a - 1) (by omega); omega⟩
        have hyi : y < i := by have := hom (a - 1) (by omega); omega
        have hgy : (ints ord)[a - 1]? = some [.s (.int .i64 y)] := by rw [ints_getD _ (by omega), hy]
        obtain ⟨idy, hiy, hgky, hmy⟩ := hkeys.at_ hyi
        have hxy : x ≠ y := fun e => getD_ne hon (p := a) (q := a - 1) (by omega) (by omega) (by omega) (by rw [hx, hy, e])
        repeat' (first
          | (refine SL_indexAddr_0 (by decide) (by rfl) (by rfl) (.tail _ (.head _)) sl25 (a - 1) (by omega) (by omega) ?_)
          | (refine SD_nil (fun tm σ hE hH => ⟨[], _, _, _, _, rfl, hE, hH, fun _ h => (by cases h), ?_⟩); clear hE hH; clear tm σ; intro tm σ hE hH; refine SC.app ?_ hE hH; clear hE hH; clear tm σ)
          | (refine SL_call (by decide) (by rfl) bd35 (by rfl) (by rfl) (equal_fn ho (keyOf rs ks x) (keyOf rs ks y) (1 + ks.length) (keyOf_len _ _ _) (keyOf_len _ _ _) (by omega) _ idx idy ks.isEmpty ks.isEmpty (.tail _ (.tail _ (.tail _ (.tail _ (.tail _ hmx))))) (.tail _ (.tail _ (.tail _ (.tail _ (.tail _ hmy)))))) (.refl _) hndp ?_; rintro _ _ _ ⟨rfl, rfl⟩; rw [List.nil_append]; refine SL_bool (i := 121) (by rfl) (fun hT => ?_) (fun hT => ?_))
          | (refine SC_drawn (id := 28) (pl := [(0, []), (1, []), (2, []), (3, []), (4, []), (5, []), (6, []), (7, []), (8, []), (9, []), (10, []), (11, []), (12, []), (13, []), (14, []), (15, []), (16, [])]) (by kernel_rfl) (by kernel_rfl) ?_; intro B' base hb1 hb2 hb3 hb4)
          | refine SC_seq ?_
          | refine SC_block ?_
          | refine SC_region ?_
          | refine SL_seq ?_
          | (refine SL_nil (fun tm σ hE hH => ?_); refine SC.app ?_ hE hH; clear hE hH; clear tm σ)
          | refine SL_run (by rfl) (by rfl) ?_
          | refine SL_move (by decide) (by rfl) ?_
          | refine SL_assign (by decide) (by rfl) ?_
          | refine SL_pick_t (by decide) (by rfl) (by rfl) ?_
          | refine SL_add (by decide) (by rfl) (by rfl) (by omega) (by omega) ?_
          | refine SL_sub (by decide) (by rfl) (by rfl) (by omega) (by omega) ?_
          | (refine SL_lss (by decide) (by rfl) (by rfl) (fun hT => ?_) (fun hT => ?_) <;> first | (exfalso; omega) | skip)
          | (refine SL_gtr (by decide) (by rfl) (by rfl) (fun hT => ?_) (fun hT => ?_) <;> first | (exfalso; omega) | skip)
          | refine SL_indexAddr_0 (by decide) (by rfl) (by rfl) (by repeat (first | exact .head _ | refine .tail _ ?_)) (slF (by rfl)) _ (by first | rfl | exact (Int.toNat_of_nonneg (by omega)).symm) (by omega) ?_
          | refine SL_load_o (by decide) (by rfl) (by repeat (first | exact .head _ | refine .tail _ ?_)) (rowF (by rfl)) (by first | assumption | rfl | exact ints_getD _ (by omega) | exact tab_get _ _ (by omega) | exact ints_getD _ (by rw [List.length_set]; omega) | exact KR_get _ _ _ (by omega)) (by rfl) ?_
          | refine SL_store_n (by rfl) (by rfl) (by repeat (first | exact .head _ | refine .tail _ ?_)) (by first | assumption | rfl | exact ints_getD _ (by omega) | exact tab_get _ _ (by omega) | exact ints_getD _ (by rw [List.length_set]; omega) | exact KR_get _ _ _ (by omega)) (by rfl) (by first | exact KR_set _ _ _ _ (by omega) | exact ints_set _ _ _ _ | rfl) (by repeat (first | exact .head | apply Upd.tail)) (by first | exact .inl (by assumption) | exact .inr (by simp)) (szF (by rfl)) (Nat.le_of_ble_eq_true (by rfl)) (by rfl) ?_
          | refine SC_cond_t (by rfl) ?_
          | refine SC_cond_f (by rfl) ?_
          | (refine SC_skip' (fun tm σ hE hH => ?_); refine SC.app ?_ hE hH; clear hE hH; clear tm σ)
          | (refine SL_nil (fun tm σ hE hH => ⟨_, _, _, _, rfl, hE, hH, ?_⟩); clear hE hH; clear tm σ)
          | refine SD_op _ [] (by rfl) (by rfl) (fun _ h => h) (fun p hp => by cases hp) (fun k hk => by cases hk) (.inl rfl) ?_
          | fail)
        · exact SL_nil fun tm σ hE hH => ⟨(a + 1, (pls.set x ((a : Int) + 1)).set x ((pls.set x ((a : Int) + 1)).getD y 0)), by show i - (a + 1) < i - a; omega, ⟨by show a + 1 ≤ i; omega, by show (List.set (List.set pls x _) x _).length = i; rw [List.length_set, List.length_set]; exact hpl, place_eq hol hpl hon hom hx hy halt (by omega) hxy hpa (of_decide_eq_true hT) _⟩, tm, σ, rfl, hE.sub ⟨rfl, rfl, rfl, rfl, rfl, rfl, trivial⟩, hH⟩
        · exact SL_nil fun tm σ hE hH => ⟨(a + 1, pls.set x ((a : Int) + 1)), by show i - (a + 1) < i - a; omega, ⟨by show a + 1 ≤ i; omega, by show (pls.set x _).length = i; rw [List.length_set]; exact hpl, place_ne hol hpl hon hom hx hy halt (by omega) hpa (of_decide_eq_false hT)⟩, tm, σ, rfl, hE.sub ⟨rfl, rfl, rfl, rfl, rfl, rfl, trivial⟩, hH⟩
    · obtain rfl : a = i := by omega
      repeat' (first
        | refine SC_seq ?_
        | refine SC_region ?_
        | refine SL_seq ?_
        | refine SL_move (by decide) (by rfl) ?_
        | refine SL_assign (by decide) (by rfl) ?_
        | (refine SL_lss (by decide) (by rfl) (by rfl) (fun hT => ?_) (fun hT => ?_) <;> first | (exfalso; omega) | skip)
        | refine SC_cond_f (by rfl) ?_
        | (refine SC_exit (fun tm σ hE hH => ?_); refine SC.app ?_ hE hH; clear hE hH; clear tm σ)
        | fail)
      refine SC_ret (fun tm σ hE hH => Post.intro (Hn := [(o, _), (pid, _)]) (.inr rfl) hE hH (by rfl) ⟨.tail _ (.head _), .head _, trivial⟩ ?_ ?_ ⟨o, pid, ord, pls, rfl, rfl, hop, hos, hpl, hpa⟩)
      · exact (List.perm_append_comm (l₁ := [pid]) (l₂ := [o])).nodup (hH.nodup.sublist (.cons_cons _ (.cons_cons _ (List.nil_sublist _))))
      · intro p hp
        simp only [List.mem_cons, List.not_mem_nil, or_false] at hp
        rcases hp with rfl | rfl
        · exact hoB
        · exact hpid
end Go.Proofs.Ytldckcopeiginaa
/- tiebreak.Standings, where the arguments are not valid. -/
namespace Go.Proofs.Ytldckcopeiginaa
open Go.Ab
attribute [local irreducible] SC SL wpc wpl wpd wpf wpy wpn FnC FnW RdW SD
set_option maxRecDepth 100000
set_option pp.deepTerms false
set_option pp.maxSteps 900
set_option maxHeartbeats 4000000
theorem standF_fn {G : Gl} {rs : List (List Sc)} {ra : AV} {xs : List AV} (h : RV rs ra xs) (ho : ∀ f x y, G.orc f (x :: y) = none) {n : Int} {ka : AV} {ks : List Int} (hk : SlV 1 ka (ints ks)) (hkc : ∀ ad cap, ka = .rsl ad 1 cap (ints ks) → ks.length ≤ cap) (hkl : ks.length ≤ 1000) (hbad : ¬ (VOk n rs ∧ KOk ks)) :
    FnC Try.prog G 17 [.s (.int .i64 n), ra, ka] [] (fun v Hn => v = .s (.tuple #[.slice none 0 0, .slice none 0 0, .int .i64 2]) ∧ Hn = []) := by
  have hil := ints_len ks
  have h11 := valid_fn h n (G := G) (ho _ _ _)
  by_cases hv : VOk n rs
  · rw [validB_t hv] at h11
    have hkb : ¬ KOk ks := fun h => hbad ⟨hv, h⟩
    refine Fn_body (N := 137) (ho _ _ _) Try.func17 rfl rfl fun B => ?_
    by_cases h7 : ks.length ≤ 7
    ·
      repeat' (first
        | refine SL_len_v (by decide) (by rfl) hk (by rfl) sl37 hil ?_
        | (refine SL_call (by decide) (by rfl) bd11 (by rfl) (by rfl) (h11) trivial List.nodup_nil ?_; rintro _ _ _ ⟨rfl, rfl⟩; rw [List.nil_append])
        | refine SC_seq ?_
        | refine SC_block ?_
        | refine SC_region ?_
        | refine SL_seq ?_
        | refine SL_run (by rfl) (by rfl) ?_
        | refine SL_move (by decide) (by rfl) ?_
        | refine SL_assign (by decide) (by rfl) ?_
        | refine SL_pick_f (by decide) (by rfl) (by rfl) ?_
        | refine SL_not_op (by decide) (by rfl) ?_
        | (refine SL_gtr (by decide) (by rfl) (by rfl) (fun hT => ?_) (fun hT => ?_) <;> first | (exfalso; omega) | skip)
        | refine SC_cond_f (by rfl) ?_
        | (refine SC_skip' (fun tm σ hE hH => ?_); refine SC.app ?_ hE hH; clear hE hH; clear tm σ)
        | fail)
      refine SC_loop (fun j : Nat => [(0, .s (.int .i64 n)), (1, ra), (2, ka), (27, ka), (28, .s (.int .i64 ks.length)), (29, .s (.int .i64 j))]) (fun _ => []) (fun _ => []) (fun j => j ≤ ks.length ∧ KSt ks j) (fun j => ks.length - j) 0 ⟨by omega, fun i hi => by omega⟩ ⟨rfl, rfl, rfl, rfl, rfl, rfl, trivial⟩ trivial List.nodup_nil rfl ?_
      rintro j ⟨hj, hst⟩
      by_cases hjlt : j < ks.length
      · obtain ⟨ad, cap, rfl⟩ : ∃ ad cap, ka = .rsl ad 1 cap (ints ks) := by
          generalize hrw : ints ks = rows at hk
          cases hk with
          | nil => rw [hrw] at hil; simp at hil; omega
          | rsl hp => exact ⟨_, _, rfl⟩
        have hcap := hkc ad cap rfl
        have h27 := known27 (G := G) ho (ks.getD j 0)
        have hcon := contains_fn (G := G) ho (ks.take j) (by rw [List.length_take]; omega) ad cap (ks.getD j 0)
        rw [show ints (ks.take j) = (ints ks).take j by unfold ints; rw [List.map_take]] at hcon
        by_cases hr : 1 ≤ ks.getD j 0 ∧ ks.getD j 0 ≤ 7
        · rw [decide_eq_true hr] at h27
          by_cases hm : ks.getD j 0 ∈ ks.take j
          · rw [decide_eq_true hm] at hcon
            repeat' (first
              | refine SL_indexAddr_v (by decide) (by rfl) (by rfl) hk sl37 j (by omega) (by omega) (fun ad => ?_)
              | refine SL_slice_r (i := j) (by decide) (by rfl) (by rfl) sl37 (by rfl) (by omega) (by omega) ?_
              | (refine SL_call (by decide) (by rfl) bd29 (by rfl) (by rfl) (hcon) trivial List.nodup_nil ?_; rintro _ _ _ ⟨rfl, rfl⟩; rw [List.nil_append])
              | (refine SL_call (by decide) (by rfl) bd27 (by rfl) (by rfl) (h27) trivial List.nodup_nil ?_; rintro _ _ _ ⟨rfl, rfl⟩; rw [List.nil_append])
              | refine SC_seq ?_
              | refine SC_block ?_
              | refine SC_region ?_
              | refine SL_seq ?_
              | refine SL_run (by rfl) (by rfl) ?_
              | refine SL_move (by decide) (by rfl) ?_
              | refine SL_assign (by decide) (by rfl) ?_
              | refine SL_pick_f (by decide) (by rfl) (by rfl) ?_
              | refine SL_not_op (by decide) (by rfl) ?_
              | (refine SL_lss (by decide) (by rfl) (by rfl) (fun hT => ?_) (fun hT => ?_) <;> first | (exfalso; omega) | skip)
              | refine SL_load_r (by decide) (by rfl) (rowF (by rfl)) (by first | assumption | rfl | exact ints_getD _ (by omega)) (by rfl) ?_
              | refine SC_cond_t (by rfl) ?_
              | (refine SC_skip' (fun tm σ hE hH => ?_); refine SC.app ?_ hE hH; clear hE hH; clear tm σ)
              | fail)
            exact SC_ret (fun tm σ hE hH => Post.intro (Hn := []) (.inr rfl) hE hH (by rfl) trivial List.nodup_nil (fun p hp => by cases hp) ⟨rfl, rfl⟩)
          · rw [decide_eq_false hm] at hcon
            repeat' (first
              | refine SL_indexAddr_v (by decide) (by rfl) (by rfl) hk sl37 j (by omega) (by omega) (fun ad => ?_)
              | refine SL_slice_r (i := j) (by decide) (by rfl) (by rfl) sl37 (by rfl) (by omega) (by omega) ?_
              | (refine SL_call (by decide) (by rfl) bd29 (by rfl) (by rfl) (hcon) trivial List.nodup_nil ?_; rintro _ _ _ ⟨rfl, rfl⟩; rw [List.nil_append])
              | (refine SL_call (by decide) (by rfl) bd27 (by rfl) (by rfl) (h27) trivial List.nodup_nil ?_; rintro _ _ _ ⟨rfl, rfl⟩; rw [List.nil_append])
              | refine SC_seq ?_
              | refine SC_block ?_
              | refine SC_region ?_
              | refine SL_seq ?_
              | refine SL_run (by rfl) (by rfl) ?_
              | refine SL_move (by decide) (by rfl) ?_
              | refine SL_assign (by decide) (by rfl) ?_
              | refine SL_pick_f (by decide) (by rfl) (by rfl) ?_
              | refine SL_not_op (by decide) (by rfl) ?_
              | refine SL_add (by decide) (by rfl) (by rfl) (by omega) (by omega) ?_
              | (refine SL_lss (by decide) (by rfl) (by rfl) (fun hT => ?_) (fun hT => ?_) <;> first | (exfalso; omega) | skip)
              | refine SL_load_r (by decide) (by rfl) (rowF (by rfl)) (by first | assumption | rfl | exact ints_getD _ (by omega)) (by rfl) ?_
              | refine SC_cond_t (by rfl) ?_
              | refine SC_cond_f (by rfl) ?_
              | (refine SC_skip' (fun tm σ hE hH => ?_); refine SC.app ?_ hE hH; clear hE hH; clear tm σ)
              | fail)
            exact SL_nil fun tm σ hE hH => ⟨j + 1, by omega, ⟨by omega, hst.next hr fun i hi he => hm (take_mem.2 ⟨i, hi, by omega, he⟩)⟩, tm, σ, rfl, hE.sub ⟨rfl, rfl, rfl, rfl, rfl, rfl, trivial⟩, hH⟩
        · rw [decide_eq_false hr] at h27
          repeat' (first
            | refine SL_indexAddr_v (by decide) (by rfl) (by rfl) hk sl37 j (by omega) (by omega) (fun ad => ?_)
            | (refine SL_call (by decide) (by rfl) bd27 (by rfl) (by rfl) (h27) trivial List.nodup_nil ?_; rintro _ _ _ ⟨rfl, rfl⟩; rw [List.nil_append])
            | refine SC_seq ?_
            | refine SC_block ?_
            | refine SC_region ?_
            | refine SL_seq ?_
            | refine SL_not (by rfl) (by rfl) (by rfl) (by decide) ?_
            | refine SL_move (by decide) (by rfl) ?_
            | refine SL_assign (by decide) (by rfl) ?_
            | refine SL_pick_t (by decide) (by rfl) (by rfl) ?_
            | refine SL_not_op (by decide) (by rfl) ?_
            | (refine SL_lss (by decide) (by rfl) (by rfl) (fun hT => ?_) (fun hT => ?_) <;> first | (exfalso; omega) | skip)
            | refine SL_load_r (by decide) (by rfl) (rowF (by rfl)) (by first | assumption | rfl | exact ints_getD _ (by omega)) (by rfl) ?_
            | refine SC_cond_t (by rfl) ?_
            | (refine SC_skip' (fun tm σ hE hH => ?_); refine SC.app ?_ hE hH; clear hE hH; clear tm σ)
            | fail)
          exact SC_ret (fun tm σ hE hH => Post.intro (Hn := []) (.inr rfl) hE hH (by rfl) trivial List.nodup_nil (fun p hp => by cases hp) ⟨rfl, rfl⟩)
      · obtain rfl : j = ks.length := by omega
        exact absurd (hst.ok h7) hkb
    ·
      repeat' (first
        | refine SL_len_v (by decide) (by rfl) hk (by rfl) sl37 hil ?_
        | (refine SL_call (by decide) (by rfl) bd11 (by rfl) (by rfl) (h11) trivial List.nodup_nil ?_; rintro _ _ _ ⟨rfl, rfl⟩; rw [List.nil_append])
        | refine SC_seq ?_
        | refine SC_region ?_
        | refine SL_seq ?_
        | refine SL_run (by rfl) (by rfl) ?_
        | refine SL_move (by decide) (by rfl) ?_
        | refine SL_assign (by decide) (by rfl) ?_
        | refine SL_pick_f (by decide) (by rfl) (by rfl) ?_
        | refine SL_not_op (by decide) (by rfl) ?_
        | (refine SL_gtr (by decide) (by rfl) (by rfl) (fun hT => ?_) (fun hT => ?_) <;> first | (exfalso; omega) | skip)
        | refine SC_cond_t (by rfl) ?_
        | fail)
      exact SC_ret (fun tm σ hE hH => Post.intro (Hn := []) (.inr rfl) hE hH (by rfl) trivial List.nodup_nil (fun p hp => by cases hp) ⟨rfl, rfl⟩)
  · rw [validB_f hv] at h11
    refine Fn_body (N := 137) (ho _ _ _) Try.func17 rfl rfl fun B => ?_
    repeat' (first
      | (refine SL_call (by decide) (by rfl) bd11 (by rfl) (by rfl) (h11) trivial List.nodup_nil ?_; rintro _ _ _ ⟨rfl, rfl⟩; rw [List.nil_append])
      | refine SC_seq ?_
      | refine SC_region ?_
      | refine SL_seq ?_
      | refine SL_not (by rfl) (by rfl) (by rfl) (by decide) ?_
      | refine SL_move (by decide) (by rfl) ?_
      | refine SL_assign (by decide) (by rfl) ?_
      | refine SL_pick_t (by decide) (by rfl) (by rfl) ?_
      | refine SL_not_op (by decide) (by rfl) ?_
      | refine SC_cond_t (by rfl) ?_
      | fail)
    exact SC_ret (fun tm σ hE hH => Post.intro (Hn := []) (.inr rfl) hE hH (by rfl) trivial List.nodup_nil (fun p hp => by cases hp) ⟨rfl, rfl⟩)
end Go.Proofs.Ytldckcopeiginaa
/- Standings on kinds of one's own. -/
namespace Go.Proofs.Ytldckcopeiginaa
open Go Go.Ab
/-! ### Rounds, seen from a later world -/
theorem ints_plain (l : List Int) : ∀ a ∈ (ints l).flatten, ∃ v, a = .s v := fun a ha => by
  obtain ⟨r, hr, har⟩ := List.mem_flatten.1 ha
  obtain ⟨n, _, rfl⟩ := List.mem_map.1 hr
  rw [List.mem_singleton] at har
  exact ⟨_, har⟩
theorem cells3_plain (gs : List Sc) : ∀ a ∈ (gs.map cells3).flatten, ∃ v, a = .s v := fun a ha => by
  obtain ⟨r, hr, har⟩ := List.mem_flatten.1 ha
  obtain ⟨g, _, rfl⟩ := List.mem_map.1 hr
  simp only [cells3, List.mem_cons, List.not_mem_nil, or_false] at har
  rcases har with rfl | rfl | rfl <;> exact ⟨_, rfl⟩
section
variable {σ : AS} {B w : World} {ρ ρ' : Rho} (hrep : Rep B ρ σ w)
include hrep
theorem game_later {x : AV} {gs : List Sc} (h : GV gs x) {v : Value} (hc : Conc (memOf B) ρ x v) : ∃ x', GV gs x' ∧ Conc (memOf w) ρ' x' v := by
  obtain ⟨a', rows', rfl, h2, h3⟩ := SlV.later (ρ' := ρ') h hrep hc (Q := fun r => r = gs.map cells3) fun vs hvs => ⟨_, rfl, fun r hr => by
    obtain ⟨g, _, rfl⟩ := List.mem_map.1 hr; rfl, rfl, hvs.plain (cells3_plain gs)⟩
  exact ⟨a', h2, h3⟩
theorem games_later : ∀ {xs : List AV} {rs : List (List Sc)} {vs : List Value}, xs.length = rs.length → (∀ (i : Nat) (h : i < rs.length) (h' : i < xs.length), GV rs[i] xs[i]) →
    Concs (memOf B) ρ (xs.map fun x => [x]).flatten vs → ∃ xs' : List AV, xs'.length = rs.length ∧ (∀ (i : Nat) (h : i < rs.length) (h' : i < xs'.length), GV rs[i] xs'[i]) ∧ Concs (memOf w) ρ' (xs'.map fun x => [x]).flatten vs
  | [], [], _, _, _, h => by cases h; exact ⟨[], rfl, fun i h => (by cases h), .nil⟩
  | x :: xs, gs :: rs, _, hl, ho, h => by
    rw [List.map_cons, List.flatten_cons, List.singleton_append] at h
    cases h with
    | cons hx ht =>
      obtain ⟨x', h1, h2⟩ := game_later hrep (ρ' := ρ') (ho 0 (by simp) (by simp)) hx
      obtain ⟨xs', h3, h4, h5⟩ := games_later (by simpa using hl) (fun i h h' => ho (i + 1) (by simpa using h) (by simpa using h')) ht
      refine ⟨x' :: xs', by simp [h3], fun i h h' => ?_, .cons h2 h5⟩
      cases i with
      | zero => exact h1
      | succ i => exact h4 i (by simpa using h) (by simpa using h')
  | [], _ :: _, _, h, _, _ => by simp at h
  | _ :: _, [], _, h, _, _ => by simp at h
theorem rv_later {ra : AV} {rs : List (List Sc)} {xs : List AV} (h : RV rs ra xs) {v : Value} (hc : Conc (memOf B) ρ ra v) : ∃ ra' xs', RV rs ra' xs' ∧ Conc (memOf w) ρ' ra' v := by
  obtain ⟨a', rows', ⟨xs', rfl, h4, h5⟩, h6, h7⟩ := h.sl.later (ρ' := ρ') hrep hc (Q := fun r => ∃ xs' : List AV, r = (xs'.map fun x => [x]) ∧ xs'.length = rs.length ∧ (∀ (i : Nat) (h : i < rs.length) (h' : i < xs'.length), GV rs[i] xs'[i])) fun vs hvs => by
    obtain ⟨xs', h4, h5, h6⟩ := games_later hrep (ρ' := ρ') h.len h.at_ hvs
    exact ⟨_, by simp [h4, h.len], fun r hr => by obtain ⟨x, _, rfl⟩ := List.mem_map.1 hr; rfl, ⟨xs', rfl, h4, h5⟩, h6⟩
  exact ⟨a', xs', ⟨h6, h4, h5, h.big, h.each⟩, h7⟩
theorem kinds_lift {a : AV} {ks : List Int} (h : OwnS σ 1 a (ints ks)) {v : Value} (hc : Conc (memOf B) ρ a v) : ∃ a', SlV 1 a' (ints ks) ∧ Conc (memOf w) ρ' a' v ∧ ∀ ad cap, a' = .rsl ad 1 cap (ints ks) → ks.length ≤ cap := by
  obtain ⟨a', rows', rfl, h2, h3⟩ := ownS_lift h (ρ' := ρ') hrep hc (Q := fun r => r = ints ks) fun vs hvs => ⟨_, rfl, fun r hr => by
    obtain ⟨n, _, rfl⟩ := List.mem_map.1 hr; rfl, rfl, hvs.plain (ints_plain ks)⟩
  refine ⟨a', h2, h3, fun ad cap e => ?_⟩
  subst e
  cases h3 with
  | rsl _ hcap => rw [ints_len] at hcap; exact hcap
end
/-! ### The outcome is one -/
structure Res (rs : List (List Sc)) (ks : List Int) (n : Nat) (ord pls : List Int) : Prop where
  perm : ord.Perm (iota n)
  sort : SortIn (ltK (keyOf rs ks)) ord 0 n
  len : pls.length = n
  all : ∀ a, a < n → pls.getD (ord.getD a 0).toNat 0 = plOf (keyOf rs ks) ord a
theorem ltK_asymm {key : Nat → List Int} {x y : Int} (h : ltK key x y) (h' : ltK key y x) : False := by
  have := lexC_neg (key y.toNat) (key x.toNat)
  rcases h with h | ⟨h, h2⟩ <;> rcases h' with h' | ⟨h', h2'⟩ <;> omega
theorem Res.uniq {rs : List (List Sc)} {ks : List Int} {n : Nat} {ord pls ord' pls' : List Int} (h : Res rs ks n ord pls) (h' : Res rs ks n ord' pls') : ord = ord' ∧ pls = pls' := by
  have hl : ord.length = n := by rw [h.perm.length_eq, iota_len]
  have hl' : ord'.length = n := by rw [h'.perm.length_eq, iota_len]
  have pw : ∀ {o : List Int}, o.length = n → SortIn (ltK (keyOf rs ks)) o 0 n → o.Pairwise (ltK (keyOf rs ks)) := fun {o} ho hs => by
    refine List.pairwise_iff_getElem.2 fun i j hi hj hij => ?_
    have := hs i j (Nat.zero_le _) hij (by omega)
    rwa [getD_at _ hi, getD_at _ hj] at this
  have e : ord = ord' := List.Perm.eq_of_pairwise (fun a b _ _ h1 h2 => (ltK_asymm h1 h2).elim) (pw hl h.sort) (pw hl' h'.sort) (h.perm.trans h'.perm.symm)
  subst e
  refine ⟨rfl, List.ext_getElem (h.len.trans h'.len.symm) fun i hi hi' => ?_⟩
  have hm : (i : Int) ∈ ord := h.perm.symm.subset (List.mem_map.2 ⟨i, List.mem_range.2 (by have := h.len; omega), rfl⟩)
  obtain ⟨a, ha, hae⟩ := List.mem_iff_getElem.1 hm
  have h1 := h.all a (by omega)
  have h2 := h'.all a (by omega)
  rw [getD_at _ ha, hae, Int.toNat_natCast] at h1 h2
  rw [getD_at _ hi] at h1
  rw [getD_at _ hi'] at h2
  rw [h1, h2]
/-! ### The contract -/
section
variable (rs : List (List Sc)) (n : Nat)
noncomputable def rV (σ : AS) (ord : List Int) : AV := .tup [.sl σ.newId 0 n none, .sl (σ.push (.cells 3 1 false (ints ord))).newId 0 n none, .s (.int .i64 0)]
noncomputable def rS (σ : AS) (ord pls : List Int) : AS := (σ.push (.cells 3 1 false (ints ord))).push (.cells 3 1 true (ints pls))
def Own17 (ka : AV) (σ : AS) (ks : List Int) (x : AV × AS) : Prop := OwnS σ 1 ka (ints ks) ∧ ks.length ≤ 1000 ∧
  ((KOk ks ∧ ∃ ord pls, Res rs ks n ord pls ∧ x = (rV n σ ord, rS σ ord pls)) ∨ (¬ KOk ks ∧ x = (.s (.tuple #[.slice none 0 0, .slice none 0 0, .int .i64 2]), σ)))
open Classical in
noncomputable def own17 (ka : AV) (σ : AS) : Option (AV × AS) := if h : ∃ x, ∃ ks, Own17 rs n ka σ ks x then some h.choose else none
theorem ints_inj : ∀ {l l' : List Int}, ints l = ints l' → l = l'
  | [], [], _ => rfl
  | [], _ :: _, h => by simp [ints] at h
  | _ :: _, [], h => by simp [ints] at h
  | a :: l, b :: l', h => by
    simp only [ints, List.map_cons, List.cons.injEq, AV.s.injEq, Value.int.injEq, true_and, and_true] at h
    obtain ⟨rfl, h⟩ := h
    rw [ints_inj h]
variable {rs n}
theorem Own17.uniq {ka : AV} {σ : AS} {ks ks' : List Int} {x x' : AV × AS} (h : Own17 rs n ka σ ks x) (h' : Own17 rs n ka σ ks' x') : x = x' := by
  obtain ⟨h1, _, h2⟩ := h
  obtain ⟨h1', _, h2'⟩ := h'
  obtain rfl := ints_inj (h1.uniq h1')
  rcases h2 with ⟨h3, ord, pls, h4, rfl⟩ | ⟨h3, rfl⟩ <;> rcases h2' with ⟨h3', ord', pls', h4', rfl⟩ | ⟨h3', rfl⟩
  · obtain ⟨rfl, rfl⟩ := h4.uniq h4'; rfl
  · exact absurd h3 h3'
  · exact absurd h3' h3
  · rfl
theorem own17_of {ka : AV} {σ : AS} {ks : List Int} {x : AV × AS} (h : Own17 rs n ka σ ks x) : own17 rs n ka σ = some x := by
  unfold own17
  have hh : ∃ x, ∃ ks, Own17 rs n ka σ ks x := ⟨x, ks, h⟩
  rw [dif_pos hh]
  obtain ⟨ks', h'⟩ := hh.choose_spec
  rw [h'.uniq h]
theorem own17_some {ka : AV} {σ : AS} {x : AV × AS} (h : own17 rs n ka σ = some x) : ∃ ks, Own17 rs n ka σ ks x := by
  unfold own17 at h
  split at h
  · rename_i hh
    cases h
    exact hh.choose_spec
  · cases h
theorem own17_acts {ka : AV} (σ : AS) (v : AV) (σ' : AS) (h : own17 rs n ka σ = some (v, σ')) (N : Nat) (_ : N ≤ σ.next) : Acts N (own17 rs n ka) σ v σ' := by
  obtain ⟨ks, h1, h2, h3⟩ := own17_some h
  rcases h3 with ⟨h4, ord, pls, h5, he⟩ | ⟨h4, he⟩
  · cases he
    refine ⟨[.push (.cells 3 1 false (ints ord)), .push (.cells 3 1 true (ints pls))], ⟨trivial, trivial, trivial⟩, rfl, fun σ₂ hl => ?_⟩
    refine own17_of ⟨h1.le hl, h2, .inl ⟨h4, ord, pls, h5, ?_⟩⟩
    have e1 := hl.newId
    have e2 := (hl.on (.push (.cells 3 1 false (ints ord))) trivial).newId
    have e2' : (σ₂.push (.cells 3 1 false (ints ord))).newId = (σ.push (.cells 3 1 false (ints ord))).newId := e2
    unfold rV
    rw [e1, e2']; rfl
  · cases he
    exact Acts.none fun σ₂ hl => own17_of ⟨h1.le hl, h2, .inr ⟨h4, rfl⟩⟩
theorem own17_ctr {ra : AV} {xs : List AV} (h : RV rs ra xs) (hf : ∀ gs ∈ rs, gs.length ≤ 12) (hv : VOk n rs) (hr : rs.length ≤ 10) (hn24 : n ≤ 24) (ka : AV) : Ctr Try.prog (oneOrc 9 (.bool true)) 17 [.s (.int .i64 n), ra, ka] (own17 rs n ka) := by
  refine own_ctr2 fit given9 (fun _ => rfl) ⟨_, Try.func17, rfl⟩ (fun σ v σ' ho B ρ w vs hrep hc => ?_) own17_acts
  obtain ⟨ks, h1, h2, h3⟩ := own17_some ho
  have hoff : ∀ f a b, (oneOrc 9 (.bool true)).orc f (a :: b) = none := fun f a b => oneOrc_off (by simp)
  cases hc with
  | cons hcn hc => cases hc with
    | cons hcr hc => cases hc with
      | cons hck hc =>
        cases hc; cases hcn
        obtain ⟨ra', xs', hrv, hra'⟩ := rv_later hrep (ρ' := fun _ => none) h hcr
        obtain ⟨ka', hsk, hka', hcap⟩ := kinds_lift hrep (ρ' := fun _ => none) h1 hck
        rcases h3 with ⟨h4, ord, pls, h5, he⟩ | ⟨h4, he⟩
        · cases he
          obtain ⟨nn, vk, σk, hrun, Hn, hHe, _, oid, pid, ord', pls', rfl, rfl, hop, hos, hpl, hpa⟩ := wpf_run (standT_fn (G := oneOrc 9 (.bool true)) hrv hf hoff hv hr hsk hcap h4 hn24 ⟨.e, 0, none⟩ (.start rfl (fun id _ => by simp [Tr.get_e]) List.nodup_nil (fun p hp => by cases hp)))
          obtain ⟨rfl, rfl⟩ := h5.uniq ⟨hop, hos, hpl, hpa⟩
          refine ⟨_, nn, _, σk, .cons (.s _) (.cons hra' (.cons hka' .nil)), hrun, fun ρk y w' hcy hk => ?_⟩
          have hg1 := hHe.get _ (.head _)
          have hg2 := hHe.get _ (.tail _ (.head _))
          have hne : oid ≠ pid := fun e => (List.nodup_cons.1 hHe.nodup).1 (by rw [e]; exact .head _)
          cases hcy with
          | @tup _ vs hcs =>
            obtain ⟨vs⟩ := vs
            dsimp only at hcs
            cases hcs with
            | cons hc1 hcs => cases hcs with
              | cons hc2 hcs => cases hcs with
                | cons hc3 hcs =>
                  cases hcs; cases hc3
                  cases hc1 with
                  | @sl _ _ _ l1 hl1 => cases hc2 with
                    | @sl _ _ _ l2 hl2 =>
                      have hA := hrep.after hk
                      have hb1 := hk.new _ _ hl1
                      have hb2 := hk.new _ _ hl2
                      have hold : ∀ j l', ρ j = some l' → l'.blk < w.heap.size := fun j l' hr => (hrep.new j l' hr).2
                      have hB1 := hA.adopt hk hrep.size hg1 hl1 (fun j l' hr => by have := hold j l' hr; omega) (ints_plain _)
                      have hB2 := hB1.adopt hk hrep.size hg2 hl2 (fun j l' hr => by
                        unfold Rho.ext at hr
                        by_cases e : j = σ.newId
                        · rw [if_pos e] at hr
                          cases hr
                          exact fun hb => hne (hk.inj _ _ _ _ _ _ hg1 hg2 rfl rfl hl1 hl2 hb)
                        · rw [if_neg e] at hr
                          have := hold j l' hr; omega) (ints_plain _)
                      refine ⟨_, Rho.le_trans (hA.le_ext l1) (hB1.le_ext l2), .tup (.cons (.sl (hB1.le_ext l2 _ _ (Rho.ext_self _ _ _))) (.cons (.sl (Rho.ext_self _ _ _)) (.cons (.s _) .nil))), hB2⟩
        · cases he
          obtain ⟨nn, vk, σk, hrun, Hn, hHe, _, rfl, rfl⟩ := wpf_run (standF_fn (G := oneOrc 9 (.bool true)) hrv hoff (n := n) hsk hcap h2 (fun hh => h4 hh.2) ⟨.e, 0, none⟩ (.start rfl (fun id _ => by simp [Tr.get_e]) List.nodup_nil (fun p hp => by cases hp)))
          refine ⟨_, nn, _, σk, .cons (.s _) (.cons hra' (.cons hka' .nil)), hrun, fun ρk y w' hcy hk => ?_⟩
          cases hcy
          exact ⟨ρ, Rho.le_refl ρ, .s _, hrep.after hk⟩
end
/-! ### The table for the last law -/
/-- Value on rounds of one's own and Standings on kinds of one's own by the contracts, all else by runs. -/
noncomputable def ownT (rs : List (List Sc)) (ra : AV) (m : Nat) : FuncId → List AV → Option (AS → Option (AV × AS))
  | 15, [.s (.int .i64 n), .sl o p l c, .s (.int .i64 k), .s (.int .i64 i)] => some (own15 n (.sl o p l c) k i)
  | 17, [.s (.int .i64 n), a, .sl o p l c] => open Classical in if n = m ∧ a = ra then some (own17 rs m (.sl o p l c)) else none
  | _, _ => none
noncomputable def gl6 (rs : List (List Sc)) (ra : AV) (m : Nat) : Gl := overGl Try.prog (oneOrc 9 (.bool true)) (ownT rs ra m) 6
theorem gl6_given {rs : List (List Sc)} {ra : AV} {xs : List AV} {m : Nat} (h : RV rs ra xs) (hf : ∀ gs ∈ rs, gs.length ≤ 12) (hv : VOk m rs) (hr : rs.length ≤ 10) (hm : m ≤ 24) : Given Try.prog (gl6 rs ra m) := overGl_given fit given9 fun f args hh e => by
  unfold ownT at e
  split at e
  · cases e; exact own15_ctr _ _ _ _
  · split at e
    · rename_i hc
      obtain ⟨rfl, rfl⟩ := hc
      cases e
      exact own17_ctr h hf hv hr hm _
    · cases e
  · cases e
#print axioms gl6_given
end Go.Proofs.Ytldckcopeiginaa
/- The swapped rounds, as they lie in data of one's own; Value on them. -/
namespace Go.Proofs.Ytldckcopeiginaa
open Go Go.Ab
theorem _root_.Go.Ab.FnC.weak {P : Program} {G : Gl} {f : FuncId} {args : List AV} {R : AV → List (Nat × AObj) → Prop} (h : FnC P G f args [] R) (H : List (Nat × AObj)) : FnC P G f args H R := fun σ hs => h σ (hs.sub trivial List.nodup_nil)
structure SwH (HG : List (Nat × AObj)) (vs : List AV) (rs : List (List Sc)) : Prop where
  len : vs.length = rs.length
  at_ : ∀ (i : Nat) (h : i < rs.length) (h' : i < vs.length), (rs[i] = [] ∧ vs[i] = nilV) ∨ ∃ o, vs[i] = .sl o 0 rs[i].length none ∧ (o, AObj.cells 46 3 false (rs[i].map cells3)) ∈ HG
def swHo (vs : List AV) : Option Nat → List (Nat × AObj)
  | none => []
  | some o => [(o, .cells 44 1 false (vs.map fun x => [x]))]
/-- One round more. -/
def gamH (gs : List Sc) : Option Nat → List (Nat × AObj)
  | none => []
  | some g => [(g, .cells 46 3 false (gs.map cells3))]
theorem SwH.snoc {HG : List (Nat × AObj)} {vs : List AV} {rs : List (List Sc)} (h : SwH HG vs rs) {gs : List Sc} {gid : Option Nat} (hg : gid = none → gs = []) : SwH (gamH gs gid ++ HG) (vs ++ [ordV gs.length gid]) (rs ++ [gs]) where
  len := by simp [h.len]
  at_ := fun i hi hi' => by
    have hl := h.len
    by_cases e : i < rs.length
    · rw [List.getElem_append_left e, List.getElem_append_left (by omega)]
      rcases h.at_ i e (by omega) with h1 | ⟨o, h1, h2⟩
      · exact .inl h1
      · exact .inr ⟨o, h1, List.mem_append_right _ h2⟩
    · obtain rfl : i = rs.length := by simp at hi; omega
      rw [List.getElem_append_right (by omega), List.getElem_append_right (by omega)]
      simp only [Nat.sub_self, hl, List.getElem_cons_zero]
      cases gid with
      | none => exact .inl ⟨hg rfl, rfl⟩
      | some g => exact .inr ⟨g, rfl, List.mem_append_left _ (.head _)⟩
theorem own_value {rs0 : List (List Sc)} {ra : AV} {m0 : Nat} {HG : List (Nat × AObj)} {vs : List AV} {rs : List (List Sc)} {oid : Option Nat} (h : SwH HG vs rs) (ho : oid = none → rs = []) {m : Nat} (hv : VOk m rs) (hr : rs.length ≤ 10) (hf : ∀ gs ∈ rs, gs.length ≤ 12) {k i : Nat} (hi : i < m) (hk1 : 1 ≤ k) (hk7 : k ≤ 7)
    (hnd : ((swHo vs oid ++ HG).map (·.1)).Nodup) :
    FnC Try.prog (gl6 rs0 ra m0) 15 [.s (.int .i64 m), ordV rs.length oid, .s (.int .i64 k), .s (.int .i64 i)] (swHo vs oid ++ HG) (fun v Hn => v = .s (.tuple #[.int .i64 (valT rs i k), .int .i64 0]) ∧ Hn = []) := by
  cases oid with
  | none =>
    obtain rfl := ho rfl
    have h15 := api15_t (G := oneOrc 9 (.bool true)) (rs := []) (ra := nilV) (xs := []) ⟨.nil, rfl, fun i h => (by cases h), by simp, fun gs hg => (by cases hg)⟩ (fun gs hg => by cases hg) (fun f a b => oneOrc_off (by simp)) hv (by simp) i hi k hk1 hk7
    refine (FnC.over given9 (h15.mono fun v Hn hx => ?_) (by decide) rfl).weak _
    obtain ⟨x, rfl, rfl, rfl⟩ := hx
    exact ⟨rfl, rfl⟩
  | some o =>
    have e : rs.length = (vs.map fun x => [x]).length := by simp [h.len]
    refine FnC.own (g := own15 m (.sl o 0 rs.length none) k i) (by decide) rfl hnd fun σ hs => ?_
    refine own15_of ⟨⟨vs, ?_, h.len, fun j hj hj' => ?_⟩, hv, hr, hf, by omega, by omega, by omega, by omega⟩
    · rw [e]
      exact .sl (hs.get (o, _) (List.mem_append_left _ (.head _)))
    · rcases h.at_ j hj hj' with ⟨h1, h2⟩ | ⟨g, h1, h2⟩
      · rw [h1, h2]; exact .nil
      · rw [h1]
        have e2 : rs[j].length = (rs[j].map cells3).length := by simp
        rw [e2]
        exact .sl (hs.get _ (List.mem_append_right _ h2))
#print axioms own_value
end Go.Proofs.Ytldckcopeiginaa
/- TiebreakHolds, walked: the rounds with two players' indexes changed. -/
namespace Go.Proofs.Ytldckcopeiginaa
open Go.Ab
attribute [local irreducible] SC SL wpc wpl wpd wpf wpy wpn FnC FnW RdW SD
set_option maxRecDepth 100000
set_option pp.deepTerms false
set_option pp.maxSteps 900
set_option maxHeartbeats 4000000
def sndC : Code → Code
  | .seq _ b => b
  | c => c
def fstC : Code → Code
  | .seq a _ => a
  | c => c
def blkC : Code → Code
  | .block _ b => b
  | c => c
noncomputable def code6 (n : Nat) : Code := Nat.rec ((Try.f6.body).getD .skip) (fun _ c => sndC c) n
/-- The loop over the rounds that makes the swapped ones. -/
noncomputable def loop4 : Code := blkC (sndC (fstC (code6 8)))
theorem GV_sl {gs : List Sc} {a : AV} (h : GV gs a) : SlV 3 a (gs.map cells3) := h
theorem swap_part {G : Gl} (h20 : ∀ i x y : Int, FnC Try.prog G 20 [.s (.int .i64 i), .s (.int .i64 x), .s (.int .i64 y)] [] (fun v Hn => v = .s (.int .i64 (oth i x y)) ∧ Hn = [])) {rs : List (List Sc)} {ra : AV} {xs : List AV} (h : RV rs ra xs) (hf : ∀ gs ∈ rs, gs.length ≤ 12) (hr : rs.length ≤ 10) {B : AS} {m : Nat} {ka : AV} {more s16 s17 : Int} {x y ida : Nat} {T : List (List AV)} {Q : AEx → Cfg → Prop}
    (hQ : ∀ vs HG oid tm σ, SwH HG vs (swR x y rs) → (oid = none → rs = []) → (∀ o, oid = some o → B.next ≤ o) → En tm 311 [(0, .s (.int .i64 m)), (1, ra), (2, ka), (3, .s (.int .i64 more)), (13, .sl ida 0 m none), (15, .s (.int .i64 0)), (16, .s (.int .i64 s16)), (17, .s (.int .i64 s17)), (21, .s (.int .i64 x)), (22, .s (.int .i64 y)), (23, ordV rs.length oid)] →
      He B [] σ (swHo vs oid ++ ((ida, .cells 3 1 true T) :: HG)) [] → Q .normal ⟨tm, [], σ⟩) :
    SC Try.prog G B [] none loop4 [(0, .s (.int .i64 m)), (1, ra), (2, ka), (3, .s (.int .i64 more)), (13, .sl ida 0 m none), (15, .s (.int .i64 0)), (16, .s (.int .i64 s16)), (17, .s (.int .i64 s17)), (21, .s (.int .i64 x)), (22, .s (.int .i64 y)), (23, nilV), (24, .s (.int .i64 0))] 311 [] [(ida, .cells 3 1 true T)] (InB 4 Q) := by
  have hsl := h.sl
  have hlen := h.len
  have hbig := h.big
  show SC _ _ _ _ _ (Code.loop _) _ _ _ _ _
  refine SC_loop (fun u : Nat × List AV × List (Nat × AObj) × Option Nat => [(0, .s (.int .i64 m)), (1, ra), (2, ka), (3, .s (.int .i64 more)), (13, .sl ida 0 m none), (15, .s (.int .i64 0)), (16, .s (.int .i64 s16)), (17, .s (.int .i64 s17)), (21, .s (.int .i64 x)), (22, .s (.int .i64 y)), (23, ordV u.1 u.2.2.2), (24, .s (.int .i64 u.1))])
      (fun u => swHo u.2.1 u.2.2.2 ++ ((ida, .cells 3 1 true T) :: u.2.2.1)) (fun _ => [])
      (fun u => u.1 ≤ rs.length ∧ SwH u.2.2.1 u.2.1 (swR x y (rs.take u.1)) ∧ (u.2.2.2 = none → u.1 = 0) ∧ ∀ o, u.2.2.2 = some o → B.next ≤ o) (fun u => rs.length - u.1) (0, [], [], none)
      ⟨Nat.zero_le _, ⟨rfl, fun i hi => absurd hi (Nat.not_lt_zero _)⟩, fun _ => rfl, fun o h => (by cases h)⟩ ⟨rfl, rfl, rfl, rfl, rfl, rfl, rfl, rfl, rfl, rfl, rfl, rfl, trivial⟩ ⟨.head _, trivial⟩ (by simp [swHo]) rfl ?_
  rintro ⟨k, vs, HG, oid⟩ ⟨hkk, hsw, hod, hoo⟩
  dsimp only at hkk hsw hod hoo ⊢
  by_cases hlt : k < rs.length
  · obtain ⟨z, hz, hgz⟩ := h.row hlt
    have hgs := hf rs[k] (List.getElem_mem hlt)
    repeat' (first
      | refine SC_seq ?_
      | refine SC_block ?_
      | refine SC_region ?_
      | refine SL_seq ?_
      | refine SL_move (by decide) (by rfl) ?_
      | refine SL_assign (by decide) (by rfl) ?_
      | (refine SL_lss (by decide) (by rfl) (by rfl) (fun hT => ?_) (fun hT => ?_) <;> first | (exfalso; omega) | skip)
      | refine SL_len_v (by decide) (by rfl) (by assumption) (by rfl) (slF (by rfl)) (by simp only [List.length_map]; first | rfl | assumption) ?_
      | refine SC_cond_t (by rfl) ?_
      | (refine SC_skip' (fun tm σ hE hH => ?_); refine SC.app ?_ hE hH; clear hE hH; clear tm σ)
      | fail)
    refine SC_nd fun hnd1 => ?_
    refine SC_loop (fun u : Nat × Option Nat => [(0, .s (.int .i64 m)), (1, ra), (2, ka), (3, .s (.int .i64 more)), (13, .sl ida 0 m none), (15, .s (.int .i64 0)), (16, .s (.int .i64 s16)), (17, .s (.int .i64 s17)), (21, .s (.int .i64 x)), (22, .s (.int .i64 y)), (23, ordV k oid), (24, .s (.int .i64 k)), (25, ordV u.1 u.2), (26, .s (.int .i64 u.1))])
        (fun u => gamH ((rs[k].take u.1).map (swG x y)) u.2 ++ (swHo vs oid ++ ((ida, .cells 3 1 true T) :: HG))) (fun _ => [])
        (fun u => u.1 ≤ rs[k].length ∧ (u.2 = none → u.1 = 0) ∧ ∀ o, u.2 = some o → B.next ≤ o) (fun u => rs[k].length - u.1) (0, none)
        ⟨Nat.zero_le _, fun _ => rfl, fun o h => (by cases h)⟩ ⟨rfl, rfl, rfl, rfl, rfl, rfl, rfl, rfl, rfl, rfl, rfl, rfl, rfl, rfl, trivial⟩ (.refl _) hnd1 rfl ?_
    rintro ⟨j, gid⟩ ⟨hj, hg0, hgo⟩
    dsimp only at hj hg0 hgo ⊢
    by_cases hjlt : j < rs[k].length
    · obtain ⟨gm, hgm⟩ : ∃ gm, rs[k][j] = gm := ⟨_, rfl⟩
      have hrow : (rs[k].map cells3)[j]? = some (cells3 gm) := by rw [List.getElem?_map, List.getElem?_eq_getElem hjlt, hgm]; rfl
      have hnx : ((rs[k].take (j + 1)).map (swG x y)).map cells3 = ((rs[k].take j).map (swG x y)).map cells3 ++ [cells3 (swG x y gm)] := by rw [List.take_succ_eq_append_getElem hjlt, hgm, List.map_append, List.map_append]; rfl
      cases gid with
      | none =>
        obtain rfl := hg0 rfl
        repeat' (first
          | refine SL_append1_nil (by decide) (by rfl) (by rfl) (.head _) el44 (sliceOf_spec sl44).1 (by rfl) (by decide) (fun g2 hg2 => ?_)
          | refine SL_buildSlice (vs := [(0, .s (.agg #[.int .i64 (oth gm.w x y), .int .i64 (oth gm.b x y), .int .i64 gm.p]))]) (rows := [cells3 (swG x y gm)]) (by decide) (by rfl) el44 (by decide) (by rfl) (fun sb hsb => ?_)
          | (refine SD_nil (fun tm σ hE hH => ⟨[b7], _, _, _, _, rfl, hE, hH, fun _ h => .inl (by rw [List.mem_singleton] at h; subst h; exact hb7), ?_⟩); clear hE hH; clear tm σ; intro tm σ hE hH; refine SC.app ?_ hE hH; clear hE hH; clear tm σ)
          | refine SD_op (i := 13) [b7] [(6, b7)] (by rfl) (by rfl) (fun _ h => h) (fun p hp => by rw [List.mem_singleton] at hp; subst hp; simp) (fun k hk => by cases hk) (.inl rfl) ?_
          | refine SD_op (i := 12) [b7] [(6, b7)] (by rfl) (by rfl) (fun _ h => h) (fun p hp => by rw [List.mem_singleton] at hp; subst hp; simp) (fun k hk => by cases hk) (.inl rfl) ?_
          | refine SD_op (i := 11) [b7] [(6, b7)] (by rfl) (by rfl) (fun _ h => by cases h) (fun p hp => by rw [List.mem_singleton] at hp; subst hp; simp) (fun k hk => by cases hk) (.inl rfl) ?_
          | refine SD_op (i := 10) [] [(6, b7)] (by rfl) (by rfl) (fun _ h => h) (fun p hp => by rw [List.mem_singleton] at hp; subst hp; simp) (fun k hk => by cases hk) (.inl rfl) ?_
          | refine SD_op (i := 9) [] [(6, b7)] (by rfl) (by rfl) (fun _ h => h) (fun p hp => by rw [List.mem_singleton] at hp; subst hp; simp) (fun k hk => by cases hk) (.inl rfl) ?_
          | refine SD_op (i := 4) [] [(6, b7)] (by rfl) (by rfl) (fun _ h => h) (fun p hp => by rw [List.mem_singleton] at hp; subst hp; simp) (fun k hk => by rw [List.mem_singleton] at hk; subst hk; exact ⟨b7, List.mem_singleton.2 rfl, by simp, hblt⟩) (.inl rfl) ?_
          | refine SD_op (i := 8) [] [(6, b7)] (by rfl) (by rfl) (fun _ h => h) (fun p hp => by rw [List.mem_singleton] at hp; subst hp; simp) (fun k hk => by cases hk) (.inl rfl) ?_
          | refine SD_op (i := 7) [] [(6, b7)] (by rfl) (by rfl) (fun _ h => h) (fun p hp => by rw [List.mem_singleton] at hp; subst hp; simp) (fun k hk => by cases hk) (.inl rfl) ?_
          | refine SD_op (i := 6) [] [(6, b7)] (by rfl) (by rfl) (fun _ h => h) (fun p hp => by cases hp) (fun k hk => by cases hk) (.inr ⟨.tmp 169, .ptr b7 0 1, b7, rfl, rfl, rfl, by simp, hblt, rfl⟩) ?_
          | (refine SC_drawn (id := 28) (pl := [(0, []), (1, []), (2, []), (3, []), (5, []), (6, []), (7, []), (8, []), (4, [6]), (9, []), (10, []), (11, []), (12, []), (13, [])]) (by kernel_rfl) (by kernel_rfl) ?_; intro B2 base hb1 hb2 hb3 hb4; have hblt : b7 < B2.next := (by have h5 := hb4 (b7, _) (.head _); have h5' : b7 < base := h5; exact Nat.lt_of_lt_of_le h5' (Nat.le_trans (Nat.le_add_right _ _) hb2)))
          | refine SL_load_r (by decide) (by rfl) (rowF (by rfl)) hz (by rfl) ?_
          | refine SL_alloc (by decide) (zeroF (by rfl)) (fun b7 hb7 => ?_)
          | refine SL_len_v (by decide) (by rfl) (GV_sl hgz) (by rfl) sl44 (List.length_map ..) ?_
          | (refine SL_call (by decide) (by rfl) bd20 (by rfl) (by rfl) (h20 _ _ _) trivial List.nodup_nil ?_; rintro _ _ _ ⟨rfl, rfl⟩; rw [List.nil_append])
          | refine SC_seq ?_
          | refine SC_block ?_
          | refine SC_region ?_
          | refine SL_seq ?_
          | (refine SL_nil (fun tm σ hE hH => ?_); refine SC.app ?_ hE hH; clear hE hH; clear tm σ)
          | refine SL_move (by decide) (by rfl) ?_
          | refine SL_assign (by decide) (by rfl) ?_
          | refine SL_add (by decide) (by rfl) (by rfl) (by omega) (by omega) ?_
          | (refine SL_lss (by decide) (by rfl) (by rfl) (fun hT => ?_) (fun hT => ?_) <;> first | (exfalso; omega) | skip)
          | refine SL_fieldAddr (by decide) (by rfl) (fldF (by rfl)) ?_
          | refine SL_indexAddr_v (by decide) (by rfl) (by rfl) (by assumption) (slF (by rfl)) _ (by first | rfl | exact (Int.toNat_of_nonneg (by omega)).symm) (by simp only [List.length_map]; omega) (fun ad => ?_)
          | refine SL_load_rr (by decide) (by rfl) (rowF (by rfl)) (by first | assumption | rfl) (Nat.le_of_ble_eq_true (by rfl)) (by first | exact mk3 _ | rfl) ?_
          | refine SL_load_o (by decide) (by rfl) (by repeat (first | exact .head _ | refine .tail _ ?_)) (rowF (by rfl)) (by first | assumption | rfl) (by rfl) ?_
          | refine SL_load_or (by decide) (by rfl) (by repeat (first | exact .head _ | refine .tail _ ?_)) (rowF (by rfl)) (by first | assumption | rfl) (Nat.le_of_ble_eq_true (by rfl)) (by first | exact mk3 _ | rfl) ?_
          | refine SL_store_box (by rfl) (by rfl) (by first | exact cells_3 _ _ _ | rfl) (by repeat (first | exact .head | apply Upd.tail)) (by first | exact .inl (by assumption) | exact .inr (by simp)) (by rfl) (szF (by rfl)) (by rfl) ?_
          | refine SL_store_n (by rfl) (by rfl) (by repeat (first | exact .head _ | refine .tail _ ?_)) (by first | assumption | rfl) (by rfl) (by first | rfl) (by repeat (first | exact .head | apply Upd.tail)) (by first | exact .inl (by assumption) | exact .inr (by simp)) (szF (by rfl)) (Nat.le_of_ble_eq_true (by rfl)) (by rfl) ?_
          | refine SC_cond_t (by rfl) ?_
          | (refine SC_skip' (fun tm σ hE hH => ?_); refine SC.app ?_ hE hH; clear hE hH; clear tm σ)
          | (refine SL_nil (fun tm σ hE hH => ⟨_, _, _, _, rfl, hE, hH, ?_⟩); clear hE hH; clear tm σ)
          | refine SD_op _ [] (by rfl) (by rfl) (fun _ h => h) (fun p hp => by cases hp) (fun k hk => by cases hk) (.inl rfl) ?_
          | fail)
        exact SL_nil fun tm σ hE hH => ⟨(0 + 1, some g2), by dsimp only; omega, ⟨by dsimp only; omega, fun h => (by cases h), fun o h => by cases h; exact hg2⟩, tm, σ, rfl, hE.sub ⟨rfl, rfl, rfl, rfl, rfl, rfl, rfl, rfl, rfl, rfl, rfl, rfl, rfl, rfl, trivial⟩, by
          unfold gamH
          dsimp only
          rw [hnx]
          exact hH.subl (.cons_cons _ (.cons _ (.cons _ (.refl _))))⟩
      | some g =>
        have hgg := hgo g rfl
        repeat' (first
          | refine SL_append1_own (by decide) (by rfl) (by rfl) (.tail (.tail .head)) (by simp only [List.length_map, List.length_take]; omega) (.inl hgg) (.head _) el44 (sliceOf_spec sl44).1 (by rfl) (by omega) (by omega) (fun g2 hg2 => ?_)
          | refine SL_buildSlice (vs := [(0, .s (.agg #[.int .i64 (oth gm.w x y), .int .i64 (oth gm.b x y), .int .i64 gm.p]))]) (rows := [cells3 (swG x y gm)]) (by decide) (by rfl) el44 (by decide) (by rfl) (fun sb hsb => ?_)
          | (refine SD_nil (fun tm σ hE hH => ⟨[b7], _, _, _, _, rfl, hE, hH, fun _ h => .inl (by rw [List.mem_singleton] at h; subst h; exact hb7), ?_⟩); clear hE hH; clear tm σ; intro tm σ hE hH; refine SC.app ?_ hE hH; clear hE hH; clear tm σ)
          | refine SD_op (i := 13) [b7] [(6, b7)] (by rfl) (by rfl) (fun _ h => h) (fun p hp => by rw [List.mem_singleton] at hp; subst hp; simp) (fun k hk => by cases hk) (.inl rfl) ?_
          | refine SD_op (i := 12) [b7] [(6, b7)] (by rfl) (by rfl) (fun _ h => h) (fun p hp => by rw [List.mem_singleton] at hp; subst hp; simp) (fun k hk => by cases hk) (.inl rfl) ?_
          | refine SD_op (i := 11) [b7] [(6, b7)] (by rfl) (by rfl) (fun _ h => by cases h) (fun p hp => by rw [List.mem_singleton] at hp; subst hp; simp) (fun k hk => by cases hk) (.inl rfl) ?_
          | refine SD_op (i := 10) [] [(6, b7)] (by rfl) (by rfl) (fun _ h => h) (fun p hp => by rw [List.mem_singleton] at hp; subst hp; simp) (fun k hk => by cases hk) (.inl rfl) ?_
          | refine SD_op (i := 9) [] [(6, b7)] (by rfl) (by rfl) (fun _ h => h) (fun p hp => by rw [List.mem_singleton] at hp; subst hp; simp) (fun k hk => by cases hk) (.inl rfl) ?_
          | refine SD_op (i := 4) [] [(6, b7)] (by rfl) (by rfl) (fun _ h => h) (fun p hp => by rw [List.mem_singleton] at hp; subst hp; simp) (fun k hk => by rw [List.mem_singleton] at hk; subst hk; exact ⟨b7, List.mem_singleton.2 rfl, by simp, hblt⟩) (.inl rfl) ?_
          | refine SD_op (i := 8) [] [(6, b7)] (by rfl) (by rfl) (fun _ h => h) (fun p hp => by rw [List.mem_singleton] at hp; subst hp; simp) (fun k hk => by cases hk) (.inl rfl) ?_
          | refine SD_op (i := 7) [] [(6, b7)] (by rfl) (by rfl) (fun _ h => h) (fun p hp => by rw [List.mem_singleton] at hp; subst hp; simp) (fun k hk => by cases hk) (.inl rfl) ?_
          | refine SD_op (i := 6) [] [(6, b7)] (by rfl) (by rfl) (fun _ h => h) (fun p hp => by cases hp) (fun k hk => by cases hk) (.inr ⟨.tmp 169, .ptr b7 0 1, b7, rfl, rfl, rfl, by simp, hblt, rfl⟩) ?_
          | (refine SC_drawn (id := 28) (pl := [(0, []), (1, []), (2, []), (3, []), (5, []), (6, []), (7, []), (8, []), (4, [6]), (9, []), (10, []), (11, []), (12, []), (13, [])]) (by kernel_rfl) (by kernel_rfl) ?_; intro B2 base hb1 hb2 hb3 hb4; have hblt : b7 < B2.next := (by have h5 := hb4 (b7, _) (.head _); have h5' : b7 < base := h5; exact Nat.lt_of_lt_of_le h5' (Nat.le_trans (Nat.le_add_right _ _) hb2)))
          | refine SL_load_r (by decide) (by rfl) (rowF (by rfl)) hz (by rfl) ?_
          | refine SL_alloc (by decide) (zeroF (by rfl)) (fun b7 hb7 => ?_)
          | refine SL_len_v (by decide) (by rfl) (GV_sl hgz) (by rfl) sl44 (List.length_map ..) ?_
          | (refine SL_call (by decide) (by rfl) bd20 (by rfl) (by rfl) (h20 _ _ _) trivial List.nodup_nil ?_; rintro _ _ _ ⟨rfl, rfl⟩; rw [List.nil_append])
          | refine SC_seq ?_
          | refine SC_block ?_
          | refine SC_region ?_
          | refine SL_seq ?_
          | (refine SL_nil (fun tm σ hE hH => ?_); refine SC.app ?_ hE hH; clear hE hH; clear tm σ)
          | refine SL_move (by decide) (by rfl) ?_
          | refine SL_assign (by decide) (by rfl) ?_
          | refine SL_add (by decide) (by rfl) (by rfl) (by omega) (by omega) ?_
          | (refine SL_lss (by decide) (by rfl) (by rfl) (fun hT => ?_) (fun hT => ?_) <;> first | (exfalso; omega) | skip)
          | refine SL_fieldAddr (by decide) (by rfl) (fldF (by rfl)) ?_
          | refine SL_indexAddr_v (by decide) (by rfl) (by rfl) (by assumption) (slF (by rfl)) _ (by first | rfl | exact (Int.toNat_of_nonneg (by omega)).symm) (by simp only [List.length_map]; omega) (fun ad => ?_)
          | refine SL_load_rr (by decide) (by rfl) (rowF (by rfl)) (by first | assumption | rfl) (Nat.le_of_ble_eq_true (by rfl)) (by first | exact mk3 _ | rfl) ?_
          | refine SL_load_o (by decide) (by rfl) (by repeat (first | exact .head _ | refine .tail _ ?_)) (rowF (by rfl)) (by first | assumption | rfl) (by rfl) ?_
          | refine SL_load_or (by decide) (by rfl) (by repeat (first | exact .head _ | refine .tail _ ?_)) (rowF (by rfl)) (by first | assumption | rfl) (Nat.le_of_ble_eq_true (by rfl)) (by first | exact mk3 _ | rfl) ?_
          | refine SL_store_box (by rfl) (by rfl) (by first | exact cells_3 _ _ _ | rfl) (by repeat (first | exact .head | apply Upd.tail)) (by first | exact .inl (by assumption) | exact .inr (by simp)) (by rfl) (szF (by rfl)) (by rfl) ?_
          | refine SL_store_n (by rfl) (by rfl) (by repeat (first | exact .head _ | refine .tail _ ?_)) (by first | assumption | rfl) (by rfl) (by first | rfl) (by repeat (first | exact .head | apply Upd.tail)) (by first | exact .inl (by assumption) | exact .inr (by simp)) (szF (by rfl)) (Nat.le_of_ble_eq_true (by rfl)) (by rfl) ?_
          | refine SC_cond_t (by rfl) ?_
          | (refine SC_skip' (fun tm σ hE hH => ?_); refine SC.app ?_ hE hH; clear hE hH; clear tm σ)
          | (refine SL_nil (fun tm σ hE hH => ⟨_, _, _, _, rfl, hE, hH, ?_⟩); clear hE hH; clear tm σ)
          | refine SD_op _ [] (by rfl) (by rfl) (fun _ h => h) (fun p hp => by cases hp) (fun k hk => by cases hk) (.inl rfl) ?_
          | fail)
        exact SL_nil fun tm σ hE hH => ⟨(j + 1, some g2), by dsimp only; omega, ⟨by dsimp only; omega, fun h => (by cases h), fun o h => by cases h; exact hg2⟩, tm, σ, rfl, hE.sub ⟨rfl, rfl, rfl, rfl, rfl, rfl, rfl, rfl, rfl, rfl, rfl, rfl, rfl, rfl, trivial⟩, by
          unfold gamH
          dsimp only
          rw [hnx]
          exact hH.subl (.cons_cons _ (.cons _ (.cons _ (.cons _ (.refl _)))))⟩
    · obtain rfl : j = rs[k].length := by omega
      rw [List.take_length]
      have hgn : gid = none → rs[k].map (swG x y) = [] := fun h => by
        rw [List.map_eq_nil_iff]; exact List.eq_nil_of_length_eq_zero (hg0 h)
      have hsn := hsw.snoc hgn
      have hsr : swR x y (rs.take (k + 1)) = swR x y (rs.take k) ++ [rs[k].map (swG x y)] := by unfold swR; rw [List.take_succ_eq_append_getElem hlt, List.map_append]; rfl
      rw [← hsr, List.length_map] at hsn
      have hvl := hsw.len
      rw [show (swR x y (rs.take k)).length = k from by simp [swR]; omega] at hvl
      have hso : ∀ o2, swHo (vs ++ [ordV rs[k].length gid]) (some o2) = [(o2, .cells 44 1 false (vs.map (fun x => [x]) ++ [[ordV rs[k].length gid]]))] := fun o2 => by simp [swHo]
      cases oid with
      | none =>
        obtain rfl := hod rfl
        obtain rfl : vs = [] := List.eq_nil_of_length_eq_zero hvl
        cases gid with
        | none =>
          repeat' (first
            | refine SL_append1_nil (by decide) (by rfl) (by rfl) (.head _) el22 (sliceOf_spec sl22).1 (by rfl) (by decide) (fun o2 ho2 => ?_)
            | refine SL_build1 (by decide) (by rfl) el22 (by rfl) (by rfl) (fun sb hsb => ?_)
            | refine SL_load_r (by decide) (by rfl) (rowF (by rfl)) hz (by rfl) ?_
            | refine SL_len_v (by decide) (by rfl) (GV_sl hgz) (by rfl) sl44 (List.length_map ..) ?_
            | refine SC_seq ?_
            | refine SC_region ?_
            | refine SL_seq ?_
            | (refine SL_nil (fun tm σ hE hH => ?_); refine SC.app ?_ hE hH; clear hE hH; clear tm σ)
            | refine SL_move (by decide) (by rfl) ?_
            | refine SL_assign (by decide) (by rfl) ?_
            | refine SL_add (by decide) (by rfl) (by rfl) (by omega) (by omega) ?_
            | (refine SL_lss (by decide) (by rfl) (by rfl) (fun hT => ?_) (fun hT => ?_) <;> first | (exfalso; omega) | skip)
            | refine SL_indexAddr_v (by decide) (by rfl) (by rfl) (by assumption) (slF (by rfl)) _ (by first | rfl | exact (Int.toNat_of_nonneg (by omega)).symm) (by simp only [List.length_map]; omega) (fun ad => ?_)
            | refine SC_cond_f (by rfl) ?_
            | (refine SC_exit (fun tm σ hE hH => ?_); refine SC.app ?_ hE hH; clear hE hH; clear tm σ)
            | fail)
          exact SL_nil fun tm σ hE hH => ⟨(0 + 1, _, _, some o2), by dsimp only; omega, ⟨by dsimp only; omega, hsn, fun h => (by cases h), fun o h => by cases h; exact ho2⟩, tm, σ, rfl, hE.sub ⟨rfl, rfl, rfl, rfl, rfl, rfl, rfl, rfl, rfl, rfl, rfl, rfl, trivial⟩, by
            dsimp only
            rw [hso]
            exact hH.subl (.cons_cons _ (.cons _ (.refl _)))⟩
        | some g =>
          repeat' (first
            | refine SL_append1_nil (by decide) (by rfl) (by rfl) (.head _) el22 (sliceOf_spec sl22).1 (by rfl) (by decide) (fun o2 ho2 => ?_)
            | refine SL_build1 (by decide) (by rfl) el22 (by rfl) (by rfl) (fun sb hsb => ?_)
            | refine SL_load_r (by decide) (by rfl) (rowF (by rfl)) hz (by rfl) ?_
            | refine SL_len_v (by decide) (by rfl) (GV_sl hgz) (by rfl) sl44 (List.length_map ..) ?_
            | refine SC_seq ?_
            | refine SC_region ?_
            | refine SL_seq ?_
            | (refine SL_nil (fun tm σ hE hH => ?_); refine SC.app ?_ hE hH; clear hE hH; clear tm σ)
            | refine SL_move (by decide) (by rfl) ?_
            | refine SL_assign (by decide) (by rfl) ?_
            | refine SL_add (by decide) (by rfl) (by rfl) (by omega) (by omega) ?_
            | (refine SL_lss (by decide) (by rfl) (by rfl) (fun hT => ?_) (fun hT => ?_) <;> first | (exfalso; omega) | skip)
            | refine SL_indexAddr_v (by decide) (by rfl) (by rfl) (by assumption) (slF (by rfl)) _ (by first | rfl | exact (Int.toNat_of_nonneg (by omega)).symm) (by simp only [List.length_map]; omega) (fun ad => ?_)
            | refine SC_cond_f (by rfl) ?_
            | (refine SC_exit (fun tm σ hE hH => ?_); refine SC.app ?_ hE hH; clear hE hH; clear tm σ)
            | fail)
          exact SL_nil fun tm σ hE hH => ⟨(0 + 1, _, _, some o2), by dsimp only; omega, ⟨by dsimp only; omega, hsn, fun h => (by cases h), fun o h => by cases h; exact ho2⟩, tm, σ, rfl, hE.sub ⟨rfl, rfl, rfl, rfl, rfl, rfl, rfl, rfl, rfl, rfl, rfl, rfl, trivial⟩, by
            dsimp only
            rw [hso]
            exact (hH.subl (.cons_cons _ (.cons _ (.refl _)))).perm (.cons _ (.swap ..))⟩
      | some o =>
        have hog := hoo o rfl
        cases gid with
        | none =>
          repeat' (first
            | refine SL_append1_own (by decide) (by rfl) (by rfl) (.tail .head) (by rw [List.length_map]; omega) (.inl hog) (.head _) el22 (sliceOf_spec sl22).1 (by rfl) (by omega) (by omega) (fun o2 ho2 => ?_)
            | refine SL_build1 (by decide) (by rfl) el22 (by rfl) (by rfl) (fun sb hsb => ?_)
            | refine SL_load_r (by decide) (by rfl) (rowF (by rfl)) hz (by rfl) ?_
            | refine SL_len_v (by decide) (by rfl) (GV_sl hgz) (by rfl) sl44 (List.length_map ..) ?_
            | refine SC_seq ?_
            | refine SC_region ?_
            | refine SL_seq ?_
            | (refine SL_nil (fun tm σ hE hH => ?_); refine SC.app ?_ hE hH; clear hE hH; clear tm σ)
            | refine SL_move (by decide) (by rfl) ?_
            | refine SL_assign (by decide) (by rfl) ?_
            | refine SL_add (by decide) (by rfl) (by rfl) (by omega) (by omega) ?_
            | (refine SL_lss (by decide) (by rfl) (by rfl) (fun hT => ?_) (fun hT => ?_) <;> first | (exfalso; omega) | skip)
            | refine SL_indexAddr_v (by decide) (by rfl) (by rfl) (by assumption) (slF (by rfl)) _ (by first | rfl | exact (Int.toNat_of_nonneg (by omega)).symm) (by simp only [List.length_map]; omega) (fun ad => ?_)
            | refine SC_cond_f (by rfl) ?_
            | (refine SC_exit (fun tm σ hE hH => ?_); refine SC.app ?_ hE hH; clear hE hH; clear tm σ)
            | fail)
          exact SL_nil fun tm σ hE hH => ⟨(k + 1, _, _, some o2), by dsimp only; omega, ⟨by dsimp only; omega, hsn, fun h => (by cases h), fun o h => by cases h; exact ho2⟩, tm, σ, rfl, hE.sub ⟨rfl, rfl, rfl, rfl, rfl, rfl, rfl, rfl, rfl, rfl, rfl, rfl, trivial⟩, by
            dsimp only
            rw [hso]
            exact hH.subl (.cons_cons _ (.cons _ (.cons _ (.refl _))))⟩
        | some g =>
          repeat' (first
            | refine SL_append1_own (by decide) (by rfl) (by rfl) (.tail (.tail .head)) (by rw [List.length_map]; omega) (.inl hog) (.head _) el22 (sliceOf_spec sl22).1 (by rfl) (by omega) (by omega) (fun o2 ho2 => ?_)
            | refine SL_build1 (by decide) (by rfl) el22 (by rfl) (by rfl) (fun sb hsb => ?_)
            | refine SL_load_r (by decide) (by rfl) (rowF (by rfl)) hz (by rfl) ?_
            | refine SL_len_v (by decide) (by rfl) (GV_sl hgz) (by rfl) sl44 (List.length_map ..) ?_
            | refine SC_seq ?_
            | refine SC_region ?_
            | refine SL_seq ?_
            | (refine SL_nil (fun tm σ hE hH => ?_); refine SC.app ?_ hE hH; clear hE hH; clear tm σ)
            | refine SL_move (by decide) (by rfl) ?_
            | refine SL_assign (by decide) (by rfl) ?_
            | refine SL_add (by decide) (by rfl) (by rfl) (by omega) (by omega) ?_
            | (refine SL_lss (by decide) (by rfl) (by rfl) (fun hT => ?_) (fun hT => ?_) <;> first | (exfalso; omega) | skip)
            | refine SL_indexAddr_v (by decide) (by rfl) (by rfl) (by assumption) (slF (by rfl)) _ (by first | rfl | exact (Int.toNat_of_nonneg (by omega)).symm) (by simp only [List.length_map]; omega) (fun ad => ?_)
            | refine SC_cond_f (by rfl) ?_
            | (refine SC_exit (fun tm σ hE hH => ?_); refine SC.app ?_ hE hH; clear hE hH; clear tm σ)
            | fail)
          exact SL_nil fun tm σ hE hH => ⟨(k + 1, _, _, some o2), by dsimp only; omega, ⟨by dsimp only; omega, hsn, fun h => (by cases h), fun o h => by cases h; exact ho2⟩, tm, σ, rfl, hE.sub ⟨rfl, rfl, rfl, rfl, rfl, rfl, rfl, rfl, rfl, rfl, rfl, rfl, trivial⟩, by
            dsimp only
            rw [hso]
            exact (hH.subl (.cons_cons _ (.cons _ (.cons_cons _ (.cons _ (.refl _)))))).perm (.cons _ (.swap ..))⟩
  · obtain rfl : k = rs.length := by omega
    rw [List.take_length] at hsw
    repeat' (first
      | refine SC_seq ?_
      | refine SC_region ?_
      | refine SL_seq ?_
      | refine SL_move (by decide) (by rfl) ?_
      | (refine SL_lss (by decide) (by rfl) (by rfl) (fun hT => ?_) (fun hT => ?_) <;> first | (exfalso; omega) | skip)
      | refine SL_len_v (by decide) (by rfl) (by assumption) (by rfl) (slF (by rfl)) (by simp only [List.length_map]; first | rfl | assumption) ?_
      | refine SC_cond_f (by rfl) ?_
      | fail)
    exact SC_exit fun tm σ hE hH => by
      dsimp only [Nxt, InB]
      rw [if_pos rfl]
      exact hQ vs HG oid tm σ hsw (fun h => List.eq_nil_of_length_eq_zero (hod h)) hoo (hE.sub ⟨rfl, rfl, rfl, rfl, rfl, rfl, rfl, rfl, rfl, rfl, rfl, trivial⟩) hH
end Go.Proofs.Ytldckcopeiginaa
/- What is together, game by game; bounds: plain lists. -/
namespace Go.Proofs.Ytldckcopeiginaa
open Go.Ab
theorem sum_bd {α : Type} {f : α → Int} {B : Int} : ∀ {l : List α}, (∀ a ∈ l, 0 ≤ f a ∧ f a ≤ B) → 0 ≤ (l.map f).sum ∧ (l.map f).sum ≤ B * l.length
  | [], _ => by simp
  | a :: l, h => by
    have h1 := h a List.mem_cons_self
    have h2 := sum_bd (l := l) fun b hb => h b (List.mem_cons_of_mem _ hb)
    rw [List.map_cons, List.sum_cons, List.length_cons, Int.natCast_add, Int.mul_add]
    omega
theorem sum_next {α : Type} (f : α → Int) {l : List α} {j : Nat} (h : j < l.length) : ((l.take (j + 1)).map f).sum = ((l.take j).map f).sum + f l[j] := by
  rw [List.take_succ_eq_append_getElem h, List.map_append, List.sum_append]; simp
theorem wantT_next {rs : List (List Sc)} {k : Nat} (h : k < rs.length) : wantT (rs.take (k + 1)) = wantT (rs.take k) + want1 rs[k] := sum_next want1 h
theorem want1_next {gs : List Sc} {j : Nat} (h : j < gs.length) : want1 (gs.take (j + 1)) = want1 (gs.take j) + wantG gs[j] := sum_next wantG h
def both1 (F : Nat → Int) (gs : List Sc) : Int := (gs.map (bothG F)).sum
theorem both1_next (F : Nat → Int) {gs : List Sc} {j : Nat} (h : j < gs.length) : both1 F (gs.take (j + 1)) = both1 F (gs.take j) + bothG F gs[j] := sum_next (bothG F) h
theorem bothT_next (F : Nat → Int) {rs : List (List Sc)} {k : Nat} (h : k < rs.length) : bothT F (rs.take (k + 1)) = bothT F (rs.take k) + both1 F rs[k] := sum_next (both1 F) h
theorem wantG_bd {m : Int} {g : Sc} (h : GOk m g) : 0 ≤ wantG g ∧ wantG g ≤ 2 := by
  obtain ⟨_, _, _, _, h1, h2⟩ := h
  unfold wantG
  split <;> omega
theorem want1_bd {m : Int} {gs : List Sc} (h : ∀ g ∈ gs, GOk m g) : 0 ≤ want1 gs ∧ want1 gs ≤ 2 * gs.length := sum_bd fun g hg => wantG_bd (h g hg)
theorem wantT_bd {m : Int} {rs : List (List Sc)} (hf : ∀ gs ∈ rs, gs.length ≤ 12) (h : ∀ gs ∈ rs, ∀ g ∈ gs, GOk m g) : 0 ≤ wantT rs ∧ wantT rs ≤ 24 * rs.length := sum_bd fun gs hg => by
  have := want1_bd (h gs hg)
  have := hf gs hg
  omega
theorem mulp_bd {p f : Int} (h0 : 0 ≤ p) (h2 : p ≤ 2) (f0 : 0 ≤ f) (f1 : f ≤ 1000) : 0 ≤ p * f ∧ p * f ≤ 2000 := by
  have : p = 0 ∨ p = 1 ∨ p = 2 := by omega
  rcases this with rfl | rfl | rfl <;> omega
theorem bothG_bd {F : Nat → Int} {m : Nat} (hF : ∀ x, x < m → 0 ≤ F x ∧ F x ≤ 1000) {g : Sc} (h : GOk m g) : 0 ≤ bothG F g ∧ bothG F g ≤ 4000 := by
  obtain ⟨a1, a2, a3, a4, a5, a6⟩ := h
  unfold bothG
  split
  · omega
  · have h1 := hF g.b.toNat (by omega)
    have h2 := hF g.w.toNat (by omega)
    have h3 := mulp_bd a5 a6 h1.1 h1.2
    have h4 := mulp_bd (p := 2 - g.p) (by omega) (by omega) h2.1 h2.2
    omega
theorem both1_bd {F : Nat → Int} {m : Nat} (hF : ∀ x, x < m → 0 ≤ F x ∧ F x ≤ 1000) {gs : List Sc} (h : ∀ g ∈ gs, GOk m g) : 0 ≤ both1 F gs ∧ both1 F gs ≤ 4000 * gs.length := sum_bd fun g hg => bothG_bd hF (h g hg)
theorem bothT_bd {F : Nat → Int} {m : Nat} (hF : ∀ x, x < m → 0 ≤ F x ∧ F x ≤ 1000) {rs : List (List Sc)} (hf : ∀ gs ∈ rs, gs.length ≤ 12) (h : ∀ gs ∈ rs, ∀ g ∈ gs, GOk m g) : 0 ≤ bothT F rs ∧ bothT F rs ≤ 48000 * rs.length := sum_bd fun gs hg => by
  have h1 := both1_bd hF (h gs hg)
  have := hf gs hg
  unfold both1 at h1
  omega
end Go.Proofs.Ytldckcopeiginaa
