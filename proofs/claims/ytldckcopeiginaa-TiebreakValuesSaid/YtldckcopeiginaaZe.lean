/- tiebreak.Valid. -/
import Derived.Test.YtldckcopeiginaaZd
import Derived.Test.YtldckcopeiginaaZc
import Derived.Test.YtldckcopeiginaaRows
namespace Go.Proofs.Ytldckcopeiginaa
open Go.Ab
theorem v_game {n : Int} {rs : List (List Sc)} (hv : VOk n rs) {k : Nat} (hk : k < rs.length) {j : Nat} (hj : j < rs[k].length) : GOk n rs[k][j] := (hv.2.2.2 _ (List.getElem_mem hk)).1 _ (List.getElem_mem hj)
theorem r_nodup {gs : List Sc} (h : (gs.flatMap pl).Nodup) {j : Nat} (hj : j < gs.length) : ((gs.take j).flatMap pl ++ pl gs[j]).Nodup := by
  rw [← take_flat hj]
  have e : gs.flatMap pl = (gs.take (j + 1)).flatMap pl ++ (gs.drop (j + 1)).flatMap pl := by rw [← List.flatMap_append, List.take_append_drop]
  rw [e] at h
  exact (List.nodup_append.1 h).1
theorem v_w {n : Int} {rs : List (List Sc)} (hv : VOk n rs) {k : Nat} (hk : k < rs.length) {j : Nat} (hj : j < rs[k].length) : rs[k][j].w ∉ (rs[k].take j).flatMap pl := by
  have h := r_nodup (hv.2.2.2 _ (List.getElem_mem hk)).2 hj
  intro hm
  rw [List.nodup_append] at h
  exact h.2.2 _ hm _ (by unfold pl; split <;> simp) rfl
theorem v_b {n : Int} {rs : List (List Sc)} (hv : VOk n rs) {k : Nat} (hk : k < rs.length) {j : Nat} (hj : j < rs[k].length) (hb : 0 ≤ rs[k][j].b) : rs[k][j].b ∉ (rs[k].take j).flatMap pl ∧ rs[k][j].b ≠ rs[k][j].w := by
  have h := r_nodup (hv.2.2.2 _ (List.getElem_mem hk)).2 hj
  have e : pl rs[k][j] = [rs[k][j].w, rs[k][j].b] := by unfold pl; rw [if_pos hb]
  rw [e, List.nodup_append] at h
  refine ⟨fun hm => h.2.2 _ hm _ (by simp) rfl, fun he => ?_⟩
  have := h.2.1
  simp [he] at this
theorem n_next {gs : List Sc} {j : Nat} (hj : j < gs.length) (h : ((gs.take j).flatMap pl).Nodup) (hw : gs[j].w ∉ (gs.take j).flatMap pl) (hb : 0 ≤ gs[j].b → gs[j].b ∉ (gs.take j).flatMap pl ∧ gs[j].b ≠ gs[j].w) : ((gs.take (j + 1)).flatMap pl).Nodup := by
  rw [take_flat hj, List.nodup_append]
  refine ⟨h, ?_, fun a ha b hb' e => ?_⟩
  · unfold pl
    split
    · rename_i h0
      have := (hb h0).2
      simp [Ne.symm this]
    · simp
  · subst e
    unfold pl at hb'
    split at hb'
    · rename_i h0
      simp only [List.mem_cons, List.not_mem_nil, or_false] at hb'
      rcases hb' with rfl | rfl
      · exact hw ha
      · exact (hb h0).1 ha
    · simp only [List.mem_cons, List.not_mem_nil, or_false] at hb'
      subst hb'; exact hw ha
theorem g_next {n : Int} {gs : List Sc} {j : Nat} (hj : j < gs.length) (h : ∀ g ∈ gs.take j, GOk n g) (hg : GOk n gs[j]) : ∀ g ∈ gs.take (j + 1), GOk n g := by
  intro g hm
  rw [List.take_succ_eq_append_getElem hj, List.mem_append] at hm
  rcases hm with hm | hm
  · exact h g hm
  · rw [List.mem_singleton] at hm
    subst hm; exact hg
theorem r_next {n : Int} {rs : List (List Sc)} {k : Nat} (hk : k < rs.length) (h : ∀ gs ∈ rs.take k, ROk n gs) (hg : ROk n rs[k]) : ∀ gs ∈ rs.take (k + 1), ROk n gs := by
  intro g hm
  rw [List.take_succ_eq_append_getElem hk, List.mem_append] at hm
  rcases hm with hm | hm
  · exact h g hm
  · rw [List.mem_singleton] at hm
    subst hm; exact hg
theorem not_dec {p : Prop} [Decidable p] (h : decide p = false) : ¬ p := by simpa using h
attribute [local irreducible] SC SL wpc wpl wpd wpf wpy wpn FnC
set_option maxRecDepth 100000
set_option pp.deepTerms false
set_option pp.maxSteps 900
set_option maxHeartbeats 2000000
theorem valid_fn {G : Gl} {rs : List (List Sc)} {ra : AV} {xs : List AV} (h : RV rs ra xs) (n : Int) (ho : G.orc 11 [.s (.int .i64 n), ra] = none) :
    FnC Try.prog G 11 [.s (.int .i64 n), ra] [] (fun v Hn => v = .s (.bool (validB n rs)) ∧ Hn = []) := by
  have hsl := h.sl
  have hlen := h.len
  have hbig := h.big
  refine Fn_body (N := 103) ho Try.func11 rfl rfl fun B => ?_
  repeat' (first
    | refine SC_seq ?_
    | refine SC_block ?_
    | refine SC_region ?_
    | refine SL_seq ?_
    | refine SL_run (by rfl) (by rfl) ?_
    | refine SL_not (by rfl) (by rfl) (by rfl) (by decide) ?_
    | refine SL_move (by decide) (by rfl) ?_
    | refine SL_assign (by decide) (by rfl) ?_
    | refine SL_pick_t (by decide) (by rfl) (by rfl) ?_
    | refine SL_pick_f (by decide) (by rfl) (by rfl) ?_
    | (refine SL_lss (by decide) (by rfl) (by rfl) (fun hT => ?_) (fun hT => ?_) <;> first | (exfalso; omega) | skip)
    | (refine SL_gtr (by decide) (by rfl) (by rfl) (fun hT => ?_) (fun hT => ?_) <;> first | (exfalso; omega) | skip)
    | refine SL_len_v (by decide) (by rfl) (by assumption) (by rfl) (slF (by rfl)) (by simp only [List.length_map]; first | rfl | assumption) ?_
    | refine SC_cond_t (by rfl) ?_
    | refine SC_cond_f (by rfl) ?_
    | (refine SC_skip' (fun tm σ hE hH => ?_); refine SC.app ?_ hE hH; clear hE hH; clear tm σ)
    | refine SC_ret (fun tm σ hE hH => Post.intro (Hn := []) (.inr rfl) hE hH (by rfl) trivial List.nodup_nil (fun p hp => (by cases hp)) ?_))
  all_goals try (refine ⟨?_, rfl⟩; rw [validB_f (fun hv => by unfold VOk at hv; omega)]; rfl)
  refine SC_loop (fun k : Nat => [(0, .s (.int .i64 n)), (1, ra), (4, .s (.bool false)), (21, ra), (22, .s (.int .i64 xs.length)), (23, .s (.int .i64 k))]) (fun _ => []) (fun _ => []) (fun k => k ≤ rs.length ∧ ∀ gs ∈ rs.take k, ROk n gs) (fun k => rs.length - k) 0 ⟨by omega, by simp⟩ ⟨rfl, rfl, rfl, rfl, rfl, rfl, trivial⟩ trivial List.nodup_nil rfl ?_
  rintro k ⟨hk1, hk2⟩
  by_cases hlt : k < rs.length
  · obtain ⟨x, hx, hgx⟩ := h.row hlt
    unfold GV at hgx
    have heach := h.each rs[k] (List.getElem_mem hlt)
    repeat' (first
      | refine SC_seq ?_
      | refine SC_block ?_
      | refine SC_region ?_
      | refine SL_seq ?_
      | refine SL_move (by decide) (by rfl) ?_
      | refine SL_assign (by decide) (by rfl) ?_
      | refine SL_add (by decide) (by rfl) (by rfl) (by omega) (by omega) ?_
      | (refine SL_lss (by decide) (by rfl) (by rfl) (fun hT => ?_) (fun hT => ?_) <;> first | (exfalso; omega) | skip)
      | refine SL_len_v (by decide) (by rfl) (by assumption) (by rfl) (slF (by rfl)) (by simp only [List.length_map]; first | rfl | assumption) ?_
      | refine SL_indexAddr_v (by decide) (by rfl) (by rfl) (by assumption) (slF (by rfl)) _ (by first | rfl | exact (Int.toNat_of_nonneg (by omega)).symm) (by simp only [List.length_map]; omega) (fun ad => ?_)
      | refine SL_load_r (by decide) (by rfl) (rowF (by rfl)) (by first | assumption | rfl | exact seenR_get _ _ (by omega)) (by rfl) ?_
      | refine SL_makeSlice (by decide) (by rfl) (by rfl) (elF (by rfl)) (by omega) (by omega) (by omega) (by omega) (fun id hid => ?_)
      | refine SC_cond_t (by rfl) ?_
      | (refine SC_skip' (fun tm σ hE hH => ?_); refine SC.app ?_ hE hH; clear hE hH; clear tm σ))
    rename_i id hid
    refine SC_loop (fun j : Nat => [(0, .s (.int .i64 n)), (1, ra), (4, .s (.bool false)), (21, ra), (22, .s (.int .i64 xs.length)), (23, .s (.int .i64 k)), (7, .sl id 0 (n + 1).toNat none), (30, x), (31, .s (.int .i64 rs[k].length)), (32, .s (.int .i64 j))])
      (fun j => [(id, .cells 4 1 true (seenR (n + 1).toNat ((rs[k].take j).flatMap pl)))]) (fun _ => []) (fun j => j ≤ rs[k].length ∧ (∀ g ∈ rs[k].take j, GOk n g) ∧ ((rs[k].take j).flatMap pl).Nodup) (fun j => rs[k].length - j) 0 ⟨by omega, by simp, by simp⟩
      ⟨rfl, rfl, rfl, rfl, rfl, rfl, rfl, rfl, rfl, rfl, trivial⟩ ⟨by rw [show (rs[k].take 0).flatMap pl = [] from rfl, ← seenR_0]; exact .head _, trivial⟩ (by simp) rfl ?_
    rintro j ⟨hj1, hj2, hj3⟩
    by_cases hjlt : j < rs[k].length
    · have hrow : (rs[k].map cells3)[j]? = some (cells3 rs[k][j]) := by rw [List.getElem?_map, List.getElem?_eq_getElem hjlt]; rfl
      repeat' (first
        | refine SC_seq ?_
        | refine SC_block ?_
        | refine SC_region ?_
        | refine SL_seq ?_
        | (refine SL_nil (fun tm σ hE hH => ?_); refine SC.app ?_ hE hH; clear hE hH; clear tm σ)
        | refine SL_run (by rfl) (by rfl) ?_
        | refine SL_not (by rfl) (by rfl) (by rfl) (by decide) ?_
        | refine SL_notu (by rfl) (by rfl) (by decide) ?_
        | refine SL_move (by decide) (by rfl) ?_
        | refine SL_assign (by decide) (by rfl) ?_
        | refine SL_pick_t (by decide) (by rfl) (by rfl) ?_
        | refine SL_pick_f (by decide) (by rfl) (by rfl) ?_
        | refine SL_add (by decide) (by rfl) (by rfl) (by omega) (by omega) ?_
        | (refine SL_lss (by decide) (by rfl) (by rfl) (fun hT => ?_) (fun hT => ?_) <;> first | (exfalso; omega) | skip)
        | (refine SL_gtr (by decide) (by rfl) (by rfl) (fun hT => ?_) (fun hT => ?_) <;> first | (exfalso; omega) | skip)
        | (refine SL_geq (by decide) (by rfl) (by rfl) (fun hT => ?_) (fun hT => ?_) <;> first | (exfalso; omega) | skip)
        | (refine SL_eql (by decide) (by rfl) (by rfl) (fun hT => ?_) (fun hT => ?_) <;> first | (exfalso; omega) | skip)
        | refine SL_fieldAddr (by decide) (by rfl) (fldF (by rfl)) ?_
        | refine SL_indexAddr_v (by decide) (by rfl) (by rfl) (by assumption) (slF (by rfl)) _ (by first | rfl | exact (Int.toNat_of_nonneg (by omega)).symm) (by simp only [List.length_map]; omega) (fun ad => ?_)
        | refine SL_indexAddr_0 (by decide) (by rfl) (by rfl) (by repeat (first | exact .head _ | refine .tail _ ?_)) (slF (by rfl)) _ (by first | rfl | exact (Int.toNat_of_nonneg (by omega)).symm) (by omega) ?_
        | refine SL_load_rr (by decide) (by rfl) (rowF (by rfl)) (by first | assumption | rfl | exact seenR_get _ _ (by omega)) (Nat.le_of_ble_eq_true (by rfl)) (by first | exact mk3 _ | rfl) ?_
        | (refine SL_load_ob (by decide) (by rfl) (by repeat (first | exact .head _ | refine .tail _ ?_)) (rowF (by rfl)) (by first | assumption | rfl | exact seenR_get _ _ (by omega)) (by rfl) (fun hT => ?_) (fun hT => ?_) <;> first | (exfalso; simp at hT; done) | skip)
        | refine SL_load_o (by decide) (by rfl) (by repeat (first | exact .head _ | refine .tail _ ?_)) (rowF (by rfl)) (by first | assumption | rfl | exact seenR_get _ _ (by omega)) (by rfl) ?_
        | refine SL_store_box (by rfl) (by rfl) (by first | exact cells_3 _ _ _ | rfl) (by repeat (first | exact .head | apply Upd.tail)) (by first | exact .inl (by assumption) | exact .inr (by simp)) (by rfl) (szF (by rfl)) (by rfl) ?_
        | refine SL_store_n (by rfl) (by rfl) (by repeat (first | exact .head _ | refine .tail _ ?_)) (by first | assumption | rfl | exact seenR_get _ _ (by omega)) (by rfl) (by first | exact seenR_set' _ _ (by omega) _ | rfl) (by repeat (first | exact .head | apply Upd.tail)) (by first | exact .inl (by assumption) | exact .inr (by simp)) (szF (by rfl)) (Nat.le_of_ble_eq_true (by rfl)) (by rfl) ?_
        | refine SL_alloc (by decide) (zeroF (by rfl)) (fun id hid => ?_)
        | refine SC_cond_t (by rfl) ?_
        | refine SC_cond_f (by rfl) ?_
        | (refine SC_skip' (fun tm σ hE hH => ?_); refine SC.app ?_ hE hH; clear hE hH; clear tm σ)
        | refine SC_ret (fun tm σ hE hH => Post.intro (Hn := []) (.inr rfl) hE hH (by rfl) trivial List.nodup_nil (fun p hp => (by cases hp)) ?_))
      all_goals try (refine ⟨?_, rfl⟩; rw [validB_f (fun hv => by have hg := v_game hv hlt hjlt; unfold GOk at hg; omega)]; rfl)
      · have hw0 : 0 ≤ rs[k][j].w := by assumption
        have hs : decide (((rs[k][j].w.toNat : Nat) : Int) ∈ (rs[k].take j).flatMap pl) = true := by assumption
        rw [Int.toNat_of_nonneg hw0] at hs
        refine ⟨?_, rfl⟩
        rw [validB_f (fun hv => v_w hv hlt hjlt (of_decide_eq_true hs))]; rfl
      · have hb0 : 0 ≤ rs[k][j].b := by assumption
        have hs : decide (((rs[k][j].b.toNat : Nat) : Int) ∈ (rs[k].take j).flatMap pl) = true := by assumption
        rw [Int.toNat_of_nonneg hb0] at hs
        refine ⟨?_, rfl⟩
        rw [validB_f (fun hv => (v_b hv hlt hjlt hb0).1 (of_decide_eq_true hs))]; rfl
      · have hb0 : 0 ≤ rs[k][j].b := by assumption
        have he : rs[k][j].b = rs[k][j].w := by assumption
        refine ⟨?_, rfl⟩
        rw [validB_f (fun hv => (v_b hv hlt hjlt hb0).2 he)]; rfl
      · have hw0 : 0 ≤ rs[k][j].w := by assumption
        have hw1 : rs[k][j].w < n := by assumption
        have hb1 : -1 ≤ rs[k][j].b := by assumption
        have hb2 : rs[k][j].b < n := by assumption
        have hp1 : 0 ≤ rs[k][j].p := by assumption
        have hp2 : rs[k][j].p ≤ 2 := by assumption
        have hs : decide (((rs[k][j].w.toNat : Nat) : Int) ∈ (rs[k].take j).flatMap pl) = false := by assumption
        have hb0 : 0 ≤ rs[k][j].b := by assumption
        have hsb : decide (((rs[k][j].b.toNat : Nat) : Int) ∈ (rs[k].take j).flatMap pl) = false := by assumption
        have hne : rs[k][j].b ≠ rs[k][j].w := by assumption
        rw [Int.toNat_of_nonneg hw0] at hs
        rw [Int.toNat_of_nonneg hb0] at hsb
        refine SL_nil fun tm σ hE hH => ⟨j + 1, by omega, ⟨by omega, g_next hjlt hj2 ⟨hw0, hw1, hb1, hb2, hp1, hp2⟩, n_next hjlt hj3 (not_dec hs) (fun _ => ⟨not_dec hsb, hne⟩)⟩, tm, σ, rfl, hE.sub ⟨rfl, rfl, rfl, rfl, rfl, rfl, rfl, rfl, rfl, rfl, trivial⟩, hH.sub ⟨?_, trivial⟩ (by simp)⟩
        rw [take_flat hjlt, show pl rs[k][j] = [rs[k][j].w, rs[k][j].b] by unfold pl; rw [if_pos hb0]]
        rw [Int.toNat_of_nonneg hw0, Int.toNat_of_nonneg hb0, List.append_assoc]
        exact .tail _ (.head _)
      · have hw0 : 0 ≤ rs[k][j].w := by assumption
        have hw1 : rs[k][j].w < n := by assumption
        have hb1 : -1 ≤ rs[k][j].b := by assumption
        have hb2 : rs[k][j].b < n := by assumption
        have hp1 : 0 ≤ rs[k][j].p := by assumption
        have hp2 : rs[k][j].p ≤ 2 := by assumption
        have hs : decide (((rs[k][j].w.toNat : Nat) : Int) ∈ (rs[k].take j).flatMap pl) = false := by assumption
        have hb0 : rs[k][j].b < 0 := by assumption
        rw [Int.toNat_of_nonneg hw0] at hs
        refine SL_nil fun tm σ hE hH => ⟨j + 1, by omega, ⟨by omega, g_next hjlt hj2 ⟨hw0, hw1, hb1, hb2, hp1, hp2⟩, n_next hjlt hj3 (not_dec hs) (fun hb => by omega)⟩, tm, σ, rfl, hE.sub ⟨rfl, rfl, rfl, rfl, rfl, rfl, rfl, rfl, rfl, rfl, trivial⟩, hH.sub ⟨?_, trivial⟩ (by simp)⟩
        rw [take_flat hjlt, show pl rs[k][j] = [rs[k][j].w] by unfold pl; rw [if_neg (by omega)]]
        rw [Int.toNat_of_nonneg hw0]
        exact .tail _ (.head _)
    ·
      repeat' (first
        | refine SC_seq ?_
        | refine SC_region ?_
        | refine SL_seq ?_
        | refine SL_move (by decide) (by rfl) ?_
        | refine SL_add (by decide) (by rfl) (by rfl) (by omega) (by omega) ?_
        | (refine SL_lss (by decide) (by rfl) (by rfl) (fun hT => ?_) (fun hT => ?_) <;> first | (exfalso; omega) | skip)
        | refine SC_cond_f (by rfl) ?_
        | (refine SC_exit (fun tm σ hE hH => ?_); refine SC.app ?_ hE hH; clear hE hH; clear tm σ))
      refine SL_nil fun tm σ hE hH => ⟨k + 1, by omega, ⟨by omega, r_next hlt hk2 ⟨fun g hg => hj2 g ?_, ?_⟩⟩, tm, σ, rfl, hE.sub ⟨rfl, rfl, rfl, rfl, rfl, rfl, trivial⟩, hH.sub trivial List.nodup_nil⟩
      · rw [List.take_of_length_le (by omega)]; exact hg
      · rw [List.take_of_length_le (by omega)] at hj3; exact hj3
  ·
    repeat' (first
      | refine SC_seq ?_
      | refine SC_region ?_
      | refine SL_seq ?_
      | refine SL_assign (by decide) (by rfl) ?_
      | (refine SL_lss (by decide) (by rfl) (by rfl) (fun hT => ?_) (fun hT => ?_) <;> first | (exfalso; omega) | skip)
      | refine SC_cond_f (by rfl) ?_
      | (refine SC_exit (fun tm σ hE hH => ?_); refine SC.app ?_ hE hH; clear hE hH; clear tm σ)
      | refine SC_ret (fun tm σ hE hH => Post.intro (Hn := []) (.inr rfl) hE hH (by rfl) trivial List.nodup_nil (fun p hp => (by cases hp)) ?_))
    refine ⟨?_, rfl⟩
    rw [validB_t ⟨by omega, by omega, by omega, fun gs hgs => hk2 gs (by rw [List.take_of_length_le (by omega)]; exact hgs)⟩]
    rfl
end Go.Proofs.Ytldckcopeiginaa
/- The law's own Valid. -/
namespace Go.Proofs.Ytldckcopeiginaa
open Go.Ab
attribute [local irreducible] SC SL wpc wpl wpd wpf wpy wpn FnC
set_option maxRecDepth 100000
set_option pp.deepTerms false
set_option pp.maxSteps 900
set_option maxHeartbeats 2000000
def seenV (ps : List Int) : Option Nat → AV
  | none => .s (.slice none 0 0)
  | some id => .sl id 0 ps.length none
def seenH (ps : List Int) : Option Nat → List (Nat × AObj)
  | none => []
  | some id => [(id, .cells 3 1 false (ints ps))]
theorem lawValid_fn {G : Gl} {rs : List (List Sc)} {ra : AV} {xs : List AV} (h : RV rs ra xs) (hf : ∀ gs ∈ rs, gs.length ≤ 12) (n : Int) (ho : G.orc 12 [.s (.int .i64 n), ra] = none) :
    FnC Try.prog G 12 [.s (.int .i64 n), ra] [] (fun v Hn => v = .s (.bool (validB n rs)) ∧ Hn = []) := by
  have hsl := h.sl
  have hlen := h.len
  have hbig := h.big
  refine Fn_body (N := 107) ho Try.func12 rfl rfl fun B => ?_
  repeat' (first
    | refine SC_seq ?_
    | refine SC_block ?_
    | refine SC_region ?_
    | refine SL_seq ?_
    | refine SL_run (by rfl) (by rfl) ?_
    | refine SL_not (by rfl) (by rfl) (by rfl) (by decide) ?_
    | refine SL_move (by decide) (by rfl) ?_
    | refine SL_assign (by decide) (by rfl) ?_
    | refine SL_pick_t (by decide) (by rfl) (by rfl) ?_
    | refine SL_pick_f (by decide) (by rfl) (by rfl) ?_
    | (refine SL_lss (by decide) (by rfl) (by rfl) (fun hT => ?_) (fun hT => ?_) <;> first | (exfalso; omega) | skip)
    | (refine SL_gtr (by decide) (by rfl) (by rfl) (fun hT => ?_) (fun hT => ?_) <;> first | (exfalso; omega) | skip)
    | refine SL_len_v (by decide) (by rfl) (by assumption) (by rfl) (slF (by rfl)) (by simp only [List.length_map]; first | rfl | assumption) ?_
    | refine SC_cond_t (by rfl) ?_
    | refine SC_cond_f (by rfl) ?_
    | (refine SC_skip' (fun tm σ hE hH => ?_); refine SC.app ?_ hE hH; clear hE hH; clear tm σ)
    | refine SC_ret (fun tm σ hE hH => Post.intro (Hn := []) (.inr rfl) hE hH (by rfl) trivial List.nodup_nil (fun p hp => (by cases hp)) ?_))
  all_goals try (refine ⟨?_, rfl⟩; rw [validB_f (fun hv => by unfold VOk at hv; omega)]; rfl)
  refine SC_loop (fun k : Nat => [(0, .s (.int .i64 n)), (1, ra), (4, .s (.bool false)), (5, .s (.int .i64 k))]) (fun _ => []) (fun _ => []) (fun k => k ≤ rs.length ∧ ∀ gs ∈ rs.take k, ROk n gs) (fun k => rs.length - k) 0 ⟨by omega, by simp⟩ ⟨rfl, rfl, rfl, rfl, trivial⟩ trivial List.nodup_nil rfl ?_
  rintro k ⟨hk1, hk2⟩
  by_cases hlt : k < rs.length
  · obtain ⟨x, hx, hgx⟩ := h.row hlt
    unfold GV at hgx
    have hgs := hf rs[k] (List.getElem_mem hlt)
    repeat' (first
      | refine SC_seq ?_
      | refine SC_block ?_
      | refine SC_region ?_
      | refine SL_seq ?_
      | refine SL_move (by decide) (by rfl) ?_
      | refine SL_assign (by decide) (by rfl) ?_
      | (refine SL_lss (by decide) (by rfl) (by rfl) (fun hT => ?_) (fun hT => ?_) <;> first | (exfalso; omega) | skip)
      | refine SL_len_v (by decide) (by rfl) (by assumption) (by rfl) (slF (by rfl)) (by simp only [List.length_map]; first | rfl | assumption) ?_
      | refine SC_cond_t (by rfl) ?_
      | (refine SC_skip' (fun tm σ hE hH => ?_); refine SC.app ?_ hE hH; clear hE hH; clear tm σ))
    refine SC_loop (fun a : Nat × Option Nat => [(0, .s (.int .i64 n)), (1, ra), (4, .s (.bool false)), (5, .s (.int .i64 k)), (6, seenV ((rs[k].take a.1).flatMap pl) a.2), (7, .s (.int .i64 a.1))])
      (fun a => seenH ((rs[k].take a.1).flatMap pl) a.2) (fun _ => []) (fun a => a.1 ≤ rs[k].length ∧ (∀ g ∈ rs[k].take a.1, GOk n g) ∧ ((rs[k].take a.1).flatMap pl).length ≤ 2 * a.1 ∧ (a.2 = none → (rs[k].take a.1).flatMap pl = []) ∧ ∀ id, a.2 = some id → B.next ≤ id) (fun a => rs[k].length - a.1) (0, none)
      ⟨by simp, by simp, by simp, by simp, by simp⟩ ⟨rfl, rfl, rfl, rfl, rfl, rfl, trivial⟩ trivial List.nodup_nil rfl ?_
    rintro ⟨j, oid⟩ ⟨hj1, hj2, hj3, hj4, hj5⟩
    simp only at hj1 hj2 hj3 hj4 hj5
    by_cases hjlt : j < rs[k].length
    · have hrow : (rs[k].map cells3)[j]? = some (cells3 rs[k][j]) := by rw [List.getElem?_map, List.getElem?_eq_getElem hjlt]; rfl
      cases oid with
      | none =>
        have hps := hj4 rfl
        simp only [seenV, seenH]
        repeat' (first
          | refine SC_seq ?_
          | refine SC_block ?_
          | refine SC_region ?_
          | refine SL_seq ?_
          | (refine SL_nil (fun tm σ hE hH => ?_); refine SC.app ?_ hE hH; clear hE hH; clear tm σ)
          | refine SL_run (by rfl) (by rfl) ?_
          | refine SL_not (by rfl) (by rfl) (by rfl) (by decide) ?_
          | refine SL_move (by decide) (by rfl) ?_
          | refine SL_assign (by decide) (by rfl) ?_
          | refine SL_pick_t (by decide) (by rfl) (by rfl) ?_
          | refine SL_pick_f (by decide) (by rfl) (by rfl) ?_
          | refine SL_add (by decide) (by rfl) (by rfl) (by omega) (by omega) ?_
          | (refine SL_lss (by decide) (by rfl) (by rfl) (fun hT => ?_) (fun hT => ?_) <;> first | (exfalso; omega) | skip)
          | (refine SL_gtr (by decide) (by rfl) (by rfl) (fun hT => ?_) (fun hT => ?_) <;> first | (exfalso; omega) | skip)
          | (refine SL_geq (by decide) (by rfl) (by rfl) (fun hT => ?_) (fun hT => ?_) <;> first | (exfalso; omega) | skip)
          | refine SL_fieldAddr (by decide) (by rfl) (fldF (by rfl)) ?_
          | refine SL_len_v (by decide) (by rfl) (by assumption) (by rfl) (slF (by rfl)) (by simp only [List.length_map]; first | rfl | assumption) ?_
          | refine SL_indexAddr_v (by decide) (by rfl) (by rfl) (by assumption) (slF (by rfl)) _ (by first | rfl | exact (Int.toNat_of_nonneg (by omega)).symm) (by simp only [List.length_map]; omega) (fun ad => ?_)
          | refine SL_load_r (by decide) (by rfl) (rowF (by rfl)) (by first | assumption | rfl | exact ints_get _ (by omega)) (by rfl) ?_
          | refine SL_load_rr (by decide) (by rfl) (rowF (by rfl)) (by first | assumption | rfl | exact ints_get _ (by omega)) (Nat.le_of_ble_eq_true (by rfl)) (by first | exact mk3 _ | rfl) ?_
          | refine SL_load_o (by decide) (by rfl) (by repeat (first | exact .head _ | refine .tail _ ?_)) (rowF (by rfl)) (by first | assumption | rfl | exact ints_get _ (by omega)) (by rfl) ?_
          | refine SL_store_box (by rfl) (by rfl) (by first | exact cells_3 _ _ _ | rfl) (by repeat (first | exact .head | apply Upd.tail)) (by first | exact .inl (by assumption) | exact .inr (by simp)) (by rfl) (szF (by rfl)) (by rfl) ?_
          | refine SL_alloc (by decide) (zeroF (by rfl)) (fun id hid => ?_)
          | refine SL_build1 (by decide) (by rfl) (elF (by rfl)) (by rfl) (by rfl) (fun id hid => ?_)
          | refine SL_append1_nil (by decide) (by rfl) (by rfl) (by repeat (first | exact .head _ | refine .tail _ ?_)) (elF (by rfl)) (sliceOf_spec (slF (by rfl))).1 (by rfl) (by decide) (fun id hid => ?_)
          | refine SL_append1_own (by decide) (by rfl) (by rfl) (by repeat (first | exact .head | apply Upd.tail)) (by simp only [ints_len, List.length_append, List.length_cons, List.length_nil]) (by first | exact .inl (by assumption) | exact .inr (by simp)) (by repeat (first | exact .head _ | refine .tail _ ?_)) (elF (by rfl)) (sliceOf_spec (slF (by rfl))).1 (by rfl) (by omega) (by omega) (fun id hid => ?_)
          | refine SC_cond_t (by rfl) ?_
          | refine SC_cond_f (by rfl) ?_
          | (refine SC_skip' (fun tm σ hE hH => ?_); refine SC.app ?_ hE hH; clear hE hH; clear tm σ)
          | refine SC_ret (fun tm σ hE hH => Post.intro (Hn := []) (.inr rfl) hE hH (by rfl) trivial List.nodup_nil (fun p hp => (by cases hp)) ?_))
        all_goals try (refine ⟨?_, rfl⟩; rw [validB_f (fun hv => by have hg := v_game hv hlt hjlt; unfold GOk at hg; omega)]; rfl)
        · have hg : GOk n rs[k][j] := ⟨by assumption, by assumption, by assumption, by assumption, by assumption, by assumption⟩
          have hb0 : 0 ≤ rs[k][j].b := by assumption
          have eg : pl rs[k][j] = [rs[k][j].w, rs[k][j].b] := by unfold pl; rw [if_pos hb0]
          have e : (rs[k].take (j + 1)).flatMap pl = [rs[k][j].w, rs[k][j].b] := by rw [take_flat hjlt, eg, hps]; rfl
          have eI : ints [rs[k][j].w, rs[k][j].b] = [[.s (.int .i64 rs[k][j].w)]] ++ [[.s (.int .i64 rs[k][j].b)]] := rfl
          have eL : ([rs[k][j].w, rs[k][j].b] : List Int).length = 1 + 1 := rfl
          refine SL_nil fun tm σ hE hH => ⟨(j + 1, some id), by simp only; omega, ⟨by simp only; omega, g_next hjlt hj2 hg, by rw [e, eL]; omega, (fun hh => by cases hh), (fun id' hh => by cases hh; exact hid)⟩, tm, σ, rfl, hE.sub ?_, hH.sub ?_ (by simp [seenH])⟩
          · simp only [seenV, e, eL]
            exact ⟨rfl, rfl, rfl, rfl, rfl, rfl, trivial⟩
          · simp only [seenH, e, eI]
            exact ⟨.head _, trivial⟩
        · have hg : GOk n rs[k][j] := ⟨by assumption, by assumption, by assumption, by assumption, by assumption, by assumption⟩
          have hb0 : rs[k][j].b < 0 := by assumption
          have eg : pl rs[k][j] = [rs[k][j].w] := by unfold pl; rw [if_neg (by omega)]
          have e : (rs[k].take (j + 1)).flatMap pl = [rs[k][j].w] := by rw [take_flat hjlt, eg, hps]; rfl
          have eI : ints [rs[k][j].w] = [[.s (.int .i64 rs[k][j].w)]] := rfl
          have eL : ([rs[k][j].w] : List Int).length = 1 := rfl
          refine SL_nil fun tm σ hE hH => ⟨(j + 1, some id), by simp only; omega, ⟨by simp only; omega, g_next hjlt hj2 hg, by rw [e, eL]; omega, (fun hh => by cases hh), (fun id' hh => by cases hh; exact hid)⟩, tm, σ, rfl, hE.sub ?_, hH.sub ?_ (by simp [seenH])⟩
          · simp only [seenV, e, eL]
            exact ⟨rfl, rfl, rfl, rfl, rfl, rfl, trivial⟩
          · simp only [seenH, e, eI]
            exact ⟨.head _, trivial⟩
      | some ids =>
        have hids := hj5 ids rfl
        simp only [seenV, seenH]
        repeat' (first
          | refine SC_seq ?_
          | refine SC_block ?_
          | refine SC_region ?_
          | refine SL_seq ?_
          | (refine SL_nil (fun tm σ hE hH => ?_); refine SC.app ?_ hE hH; clear hE hH; clear tm σ)
          | refine SL_run (by rfl) (by rfl) ?_
          | refine SL_not (by rfl) (by rfl) (by rfl) (by decide) ?_
          | refine SL_move (by decide) (by rfl) ?_
          | refine SL_assign (by decide) (by rfl) ?_
          | refine SL_pick_t (by decide) (by rfl) (by rfl) ?_
          | refine SL_pick_f (by decide) (by rfl) (by rfl) ?_
          | refine SL_add (by decide) (by rfl) (by rfl) (by omega) (by omega) ?_
          | (refine SL_lss (by decide) (by rfl) (by rfl) (fun hT => ?_) (fun hT => ?_) <;> first | (exfalso; omega) | skip)
          | (refine SL_gtr (by decide) (by rfl) (by rfl) (fun hT => ?_) (fun hT => ?_) <;> first | (exfalso; omega) | skip)
          | (refine SL_geq (by decide) (by rfl) (by rfl) (fun hT => ?_) (fun hT => ?_) <;> first | (exfalso; omega) | skip)
          | refine SL_fieldAddr (by decide) (by rfl) (fldF (by rfl)) ?_
          | refine SL_len_v (by decide) (by rfl) (by assumption) (by rfl) (slF (by rfl)) (by simp only [List.length_map]; first | rfl | assumption) ?_
          | refine SL_indexAddr_v (by decide) (by rfl) (by rfl) (by assumption) (slF (by rfl)) _ (by first | rfl | exact (Int.toNat_of_nonneg (by omega)).symm) (by simp only [List.length_map]; omega) (fun ad => ?_)
          | refine SL_load_r (by decide) (by rfl) (rowF (by rfl)) (by first | assumption | rfl | exact ints_get _ (by omega)) (by rfl) ?_
          | refine SL_load_rr (by decide) (by rfl) (rowF (by rfl)) (by first | assumption | rfl | exact ints_get _ (by omega)) (Nat.le_of_ble_eq_true (by rfl)) (by first | exact mk3 _ | rfl) ?_
          | refine SL_load_o (by decide) (by rfl) (by repeat (first | exact .head _ | refine .tail _ ?_)) (rowF (by rfl)) (by first | assumption | rfl | exact ints_get _ (by omega)) (by rfl) ?_
          | refine SL_store_box (by rfl) (by rfl) (by first | exact cells_3 _ _ _ | rfl) (by repeat (first | exact .head | apply Upd.tail)) (by first | exact .inl (by assumption) | exact .inr (by simp)) (by rfl) (szF (by rfl)) (by rfl) ?_
          | refine SL_alloc (by decide) (zeroF (by rfl)) (fun id hid => ?_)
          | refine SL_build1 (by decide) (by rfl) (elF (by rfl)) (by rfl) (by rfl) (fun id hid => ?_)
          | refine SL_append1_own (by decide) (by rfl) (by rfl) (by repeat (first | exact .head | apply Upd.tail)) (by simp only [ints_len, List.length_append, List.length_cons, List.length_nil]) (by first | exact .inl (by assumption) | exact .inr (by simp)) (by repeat (first | exact .head _ | refine .tail _ ?_)) (elF (by rfl)) (sliceOf_spec (slF (by rfl))).1 (by rfl) (by omega) (by omega) (fun id hid => ?_)
          | refine SC_cond_t (by rfl) ?_
          | refine SC_cond_f (by rfl) ?_
          | (refine SC_skip' (fun tm σ hE hH => ?_); refine SC.app ?_ hE hH; clear hE hH; clear tm σ)
          | refine SC_ret (fun tm σ hE hH => Post.intro (Hn := []) (.inr rfl) hE hH (by rfl) trivial List.nodup_nil (fun p hp => (by cases hp)) ?_))
        all_goals try (refine ⟨?_, rfl⟩; rw [validB_f (fun hv => by have hg := v_game hv hlt hjlt; unfold GOk at hg; omega)]; rfl)
        · have hg : GOk n rs[k][j] := ⟨by assumption, by assumption, by assumption, by assumption, by assumption, by assumption⟩
          have hb0 : 0 ≤ rs[k][j].b := by assumption
          have eg : pl rs[k][j] = [rs[k][j].w, rs[k][j].b] := by unfold pl; rw [if_pos hb0]
          have e : (rs[k].take (j + 1)).flatMap pl = (rs[k].take j).flatMap pl ++ [rs[k][j].w, rs[k][j].b] := by rw [take_flat hjlt, eg]
          have eI : ints ((rs[k].take j).flatMap pl ++ [rs[k][j].w, rs[k][j].b]) = ints ((rs[k].take j).flatMap pl) ++ [[.s (.int .i64 rs[k][j].w)]] ++ [[.s (.int .i64 rs[k][j].b)]] := by simp [ints]
          have eL : ((rs[k].take j).flatMap pl ++ [rs[k][j].w, rs[k][j].b]).length = ((rs[k].take j).flatMap pl).length + 1 + 1 := by simp
          refine SL_nil fun tm σ hE hH => ⟨(j + 1, some id), by simp only; omega, ⟨by simp only; omega, g_next hjlt hj2 hg, by rw [e, eL]; omega, (fun hh => by cases hh), (fun id' hh => by cases hh; exact hid)⟩, tm, σ, rfl, hE.sub ?_, hH.sub ?_ (by simp [seenH])⟩
          · simp only [seenV, e, eL]
            exact ⟨rfl, rfl, rfl, rfl, rfl, rfl, trivial⟩
          · simp only [seenH, e, eI]
            exact ⟨.head _, trivial⟩
        · have hg : GOk n rs[k][j] := ⟨by assumption, by assumption, by assumption, by assumption, by assumption, by assumption⟩
          have hb0 : rs[k][j].b < 0 := by assumption
          have eg : pl rs[k][j] = [rs[k][j].w] := by unfold pl; rw [if_neg (by omega)]
          have e : (rs[k].take (j + 1)).flatMap pl = (rs[k].take j).flatMap pl ++ [rs[k][j].w] := by rw [take_flat hjlt, eg]
          have eI : ints ((rs[k].take j).flatMap pl ++ [rs[k][j].w]) = ints ((rs[k].take j).flatMap pl) ++ [[.s (.int .i64 rs[k][j].w)]] := by simp [ints]
          have eL : ((rs[k].take j).flatMap pl ++ [rs[k][j].w]).length = ((rs[k].take j).flatMap pl).length + 1 := by simp
          refine SL_nil fun tm σ hE hH => ⟨(j + 1, some id), by simp only; omega, ⟨by simp only; omega, g_next hjlt hj2 hg, by rw [e, eL]; omega, (fun hh => by cases hh), (fun id' hh => by cases hh; exact hid)⟩, tm, σ, rfl, hE.sub ?_, hH.sub ?_ (by simp [seenH])⟩
          · simp only [seenV, e, eL]
            exact ⟨rfl, rfl, rfl, rfl, rfl, rfl, trivial⟩
          · simp only [seenH, e, eI]
            exact ⟨.head _, trivial⟩
    · obtain rfl : j = rs[k].length := by omega
      rw [List.take_length] at hj2 hj3 hj4
      simp only [List.take_length]
      cases oid with
      | none =>
        have hps := hj4 rfl
        simp only [seenV, seenH]
        repeat' (first
          | refine SC_seq ?_
          | refine SC_block ?_
          | refine SC_region ?_
          | refine SL_seq ?_
          | refine SL_move (by decide) (by rfl) ?_
          | refine SL_assign (by decide) (by rfl) ?_
          | (refine SL_lss (by decide) (by rfl) (by rfl) (fun hT => ?_) (fun hT => ?_) <;> first | (exfalso; omega) | skip)
          | refine SL_len_v (by decide) (by rfl) (by assumption) (by rfl) (slF (by rfl)) (by simp only [List.length_map]; first | rfl | assumption) ?_
          | refine SL_indexAddr_v (by decide) (by rfl) (by rfl) (by assumption) (slF (by rfl)) _ (by first | rfl | exact (Int.toNat_of_nonneg (by omega)).symm) (by simp only [List.length_map]; omega) (fun ad => ?_)
          | refine SL_load_r (by decide) (by rfl) (rowF (by rfl)) (by first | assumption | rfl | exact ints_get _ (by omega)) (by rfl) ?_
          | refine SC_cond_f (by rfl) ?_
          | (refine SC_exit (fun tm σ hE hH => ?_); refine SC.app ?_ hE hH; clear hE hH; clear tm σ))
        refine SC_loop (fun _ : Unit => [(0, .s (.int .i64 n)), (1, ra), (4, .s (.bool false)), (5, .s (.int .i64 k)), (6, .s (.slice none 0 0)), (9, .s (.int .i64 0))]) (fun _ => []) (fun _ => []) (fun _ => True) (fun _ => 0) () trivial ⟨rfl, rfl, rfl, rfl, rfl, rfl, trivial⟩ trivial List.nodup_nil rfl ?_
        intro _ _
        repeat' (first
          | refine SC_seq ?_
          | refine SC_region ?_
          | refine SL_seq ?_
          | refine SL_move (by decide) (by rfl) ?_
          | refine SL_assign (by decide) (by rfl) ?_
          | refine SL_add (by decide) (by rfl) (by rfl) (by omega) (by omega) ?_
          | (refine SL_lss (by decide) (by rfl) (by rfl) (fun hT => ?_) (fun hT => ?_) <;> first | (exfalso; omega) | skip)
          | refine SL_len_0 (by decide) (by rfl) (by rfl) (sliceOf_spec (slF (by rfl))).1 ?_
          | refine SC_cond_f (by rfl) ?_
          | (refine SC_exit (fun tm σ hE hH => ?_); refine SC.app ?_ hE hH; clear hE hH; clear tm σ))
        refine SL_nil fun tm σ hE hH => ⟨k + 1, by omega, ⟨by omega, r_next hlt hk2 ⟨hj2, by rw [hps]; exact List.nodup_nil⟩⟩, tm, σ, rfl, hE.sub ⟨rfl, rfl, rfl, rfl, trivial⟩, hH.sub trivial List.nodup_nil⟩
      | some ids =>
        have hids := hj5 ids rfl
        simp only [seenV, seenH]
        generalize hpsd : rs[k].flatMap pl = ps at hj3 hj4
        repeat' (first
          | refine SC_seq ?_
          | refine SC_block ?_
          | refine SC_region ?_
          | refine SL_seq ?_
          | refine SL_move (by decide) (by rfl) ?_
          | refine SL_assign (by decide) (by rfl) ?_
          | (refine SL_lss (by decide) (by rfl) (by rfl) (fun hT => ?_) (fun hT => ?_) <;> first | (exfalso; omega) | skip)
          | refine SL_len_v (by decide) (by rfl) (by assumption) (by rfl) (slF (by rfl)) (by simp only [List.length_map]; first | rfl | assumption) ?_
          | refine SL_indexAddr_v (by decide) (by rfl) (by rfl) (by assumption) (slF (by rfl)) _ (by first | rfl | exact (Int.toNat_of_nonneg (by omega)).symm) (by simp only [List.length_map]; omega) (fun ad => ?_)
          | refine SL_load_r (by decide) (by rfl) (rowF (by rfl)) (by first | assumption | rfl | exact ints_get _ (by omega)) (by rfl) ?_
          | refine SC_cond_f (by rfl) ?_
          | (refine SC_exit (fun tm σ hE hH => ?_); refine SC.app ?_ hE hH; clear hE hH; clear tm σ))
        refine SC_loop (fun i : Nat => [(0, .s (.int .i64 n)), (1, ra), (4, .s (.bool false)), (5, .s (.int .i64 k)), (6, .sl ids 0 ps.length none), (9, .s (.int .i64 i))]) (fun _ => [(ids, .cells 3 1 false (ints ps))]) (fun _ => []) (fun i => i ≤ ps.length ∧ (ps.take i).Nodup) (fun i => ps.length - i) 0 ⟨by omega, by simp⟩
          ⟨rfl, rfl, rfl, rfl, rfl, rfl, trivial⟩ ⟨.head _, trivial⟩ (by simp) rfl ?_
        rintro i ⟨hi1, hi2⟩
        by_cases hilt : i < ps.length
        ·
          repeat' (first
            | refine SC_seq ?_
            | refine SC_block ?_
            | refine SC_region ?_
            | refine SL_seq ?_
            | refine SL_move (by decide) (by rfl) ?_
            | refine SL_assign (by decide) (by rfl) ?_
            | (refine SL_lss (by decide) (by rfl) (by rfl) (fun hT => ?_) (fun hT => ?_) <;> first | (exfalso; omega) | skip)
            | refine SL_len_sl (by decide) (by rfl) (by rfl) (sliceOf_spec (slF (by rfl))).1 ?_
            | refine SC_cond_t (by rfl) ?_
            | (refine SC_skip' (fun tm σ hE hH => ?_); refine SC.app ?_ hE hH; clear hE hH; clear tm σ))
          refine SC_loop (fun q : Nat => [(0, .s (.int .i64 n)), (1, ra), (4, .s (.bool false)), (5, .s (.int .i64 k)), (6, .sl ids 0 ps.length none), (9, .s (.int .i64 i)), (10, .s (.int .i64 q))]) (fun _ => [(ids, .cells 3 1 false (ints ps))]) (fun _ => []) (fun q => q ≤ i ∧ ps[i] ∉ ps.take q) (fun q => i - q) 0 ⟨by omega, by simp⟩
            ⟨rfl, rfl, rfl, rfl, rfl, rfl, rfl, trivial⟩ ⟨.head _, trivial⟩ (by simp) rfl ?_
          rintro q ⟨hq1, hq2⟩
          by_cases hqlt : q < i
          ·
            repeat' (first
              | refine SC_seq ?_
              | refine SC_block ?_
              | refine SC_region ?_
              | refine SL_seq ?_
              | refine SL_move (by decide) (by rfl) ?_
              | refine SL_assign (by decide) (by rfl) ?_
              | refine SL_add (by decide) (by rfl) (by rfl) (by omega) (by omega) ?_
              | (refine SL_lss (by decide) (by rfl) (by rfl) (fun hT => ?_) (fun hT => ?_) <;> first | (exfalso; omega) | skip)
              | (refine SL_eql (by decide) (by rfl) (by rfl) (fun hT => ?_) (fun hT => ?_) <;> first | (exfalso; omega) | skip)
              | refine SL_indexAddr_0 (by decide) (by rfl) (by rfl) (by repeat (first | exact .head _ | refine .tail _ ?_)) (slF (by rfl)) _ (by first | rfl | exact (Int.toNat_of_nonneg (by omega)).symm) (by omega) ?_
              | refine SL_load_o (by decide) (by rfl) (by repeat (first | exact .head _ | refine .tail _ ?_)) (rowF (by rfl)) (by first | assumption | rfl | exact ints_get _ (by omega)) (by rfl) ?_
              | refine SC_draw (by kernel_rfl) ?_
              | refine SC_cond_t (by rfl) ?_
              | refine SC_cond_f (by rfl) ?_
              | (refine SC_skip' (fun tm σ hE hH => ?_); refine SC.app ?_ hE hH; clear hE hH; clear tm σ)
              | refine SC_ret (fun tm σ hE hH => Post.intro (Hn := []) (.inr rfl) hE hH (by rfl) trivial List.nodup_nil (fun p hp => (by cases hp)) ?_))
            · have he : ps[q] = ps[i] := by assumption
              refine ⟨?_, rfl⟩
              rw [validB_f (fun hv => by
                have hnd := (hv.2.2.2 _ (List.getElem_mem hlt)).2
                rw [hpsd] at hnd
                exact absurd he (List.pairwise_iff_getElem.1 hnd q i (by omega) hilt hqlt))]
              rfl
            · have he : ps[q] ≠ ps[i] := by assumption
              refine SL_nil fun tm σ hE hH => ⟨q + 1, by omega, ⟨by omega, ?_⟩, tm, σ, rfl, hE.sub ⟨rfl, rfl, rfl, rfl, rfl, rfl, rfl, trivial⟩, hH.sub ⟨.head _, trivial⟩ (by simp)⟩
              rw [List.take_succ_eq_append_getElem (by omega), List.mem_append, List.mem_singleton]
              rintro (hm | hm)
              · exact hq2 hm
              · exact he hm.symm
          · obtain rfl : q = i := by omega
            repeat' (first
              | refine SC_seq ?_
              | refine SC_region ?_
              | refine SL_seq ?_
              | refine SL_move (by decide) (by rfl) ?_
              | refine SL_assign (by decide) (by rfl) ?_
              | refine SL_add (by decide) (by rfl) (by rfl) (by omega) (by omega) ?_
              | (refine SL_lss (by decide) (by rfl) (by rfl) (fun hT => ?_) (fun hT => ?_) <;> first | (exfalso; omega) | skip)
              | refine SC_cond_f (by rfl) ?_
              | (refine SC_exit (fun tm σ hE hH => ?_); refine SC.app ?_ hE hH; clear hE hH; clear tm σ))
            refine SL_nil fun tm σ hE hH => ⟨q + 1, by omega, ⟨by omega, ?_⟩, tm, σ, rfl, hE.sub ⟨rfl, rfl, rfl, rfl, rfl, rfl, trivial⟩, hH.sub ⟨.head _, trivial⟩ (by simp)⟩
            rw [List.take_succ_eq_append_getElem hilt, List.nodup_append]
            refine ⟨hi2, by simp, fun a ha b hb e => ?_⟩
            rw [List.mem_singleton] at hb
            subst hb e
            exact hq2 ha
        · obtain rfl : i = ps.length := by omega
          rw [List.take_length] at hi2
          repeat' (first
            | refine SC_seq ?_
            | refine SC_region ?_
            | refine SL_seq ?_
            | refine SL_move (by decide) (by rfl) ?_
            | refine SL_assign (by decide) (by rfl) ?_
            | refine SL_add (by decide) (by rfl) (by rfl) (by omega) (by omega) ?_
            | (refine SL_lss (by decide) (by rfl) (by rfl) (fun hT => ?_) (fun hT => ?_) <;> first | (exfalso; omega) | skip)
            | refine SL_len_sl (by decide) (by rfl) (by rfl) (sliceOf_spec (slF (by rfl))).1 ?_
            | refine SC_cond_f (by rfl) ?_
            | (refine SC_exit (fun tm σ hE hH => ?_); refine SC.app ?_ hE hH; clear hE hH; clear tm σ))
          refine SL_nil fun tm σ hE hH => ⟨k + 1, by omega, ⟨by omega, r_next hlt hk2 ⟨hj2, by rw [hpsd]; exact hi2⟩⟩, tm, σ, rfl, hE.sub ⟨rfl, rfl, rfl, rfl, trivial⟩, hH.sub trivial List.nodup_nil⟩
  ·
    repeat' (first
      | refine SC_seq ?_
      | refine SC_region ?_
      | refine SL_seq ?_
      | refine SL_move (by decide) (by rfl) ?_
      | refine SL_assign (by decide) (by rfl) ?_
      | (refine SL_lss (by decide) (by rfl) (by rfl) (fun hT => ?_) (fun hT => ?_) <;> first | (exfalso; omega) | skip)
      | refine SL_len_v (by decide) (by rfl) (by assumption) (by rfl) (slF (by rfl)) (by simp only [List.length_map]; first | rfl | assumption) ?_
      | refine SC_cond_f (by rfl) ?_
      | (refine SC_exit (fun tm σ hE hH => ?_); refine SC.app ?_ hE hH; clear hE hH; clear tm σ)
      | refine SC_ret (fun tm σ hE hH => Post.intro (Hn := []) (.inr rfl) hE hH (by rfl) trivial List.nodup_nil (fun p hp => (by cases hp)) ?_))
    refine ⟨?_, rfl⟩
    rw [validB_t ⟨by omega, by omega, by omega, fun gs hgs => hk2 gs (by rw [List.take_of_length_le (by omega)]; exact hgs)⟩]
    rfl
end Go.Proofs.Ytldckcopeiginaa
/- Two equal slices are the same. -/
namespace Go.Proofs.Ytldckcopeiginaa
open Go.Ab
attribute [local irreducible] SC SL wpc wpl wpd wpf wpy wpn FnC
set_option maxRecDepth 100000
set_option pp.deepTerms false
set_option pp.maxSteps 900
set_option maxHeartbeats 2000000
theorem same_fn {G : Gl} (m : Nat) (hm : m ≤ 1000) (f : Nat → Int) {a b : Nat} (hab : a ≠ b) (ho : G.orc 13 [.sl a 0 m none, .sl b 0 m none] = none) :
    FnC Try.prog G 13 [.sl a 0 m none, .sl b 0 m none] [(a, .cells 3 1 true (tab m f)), (b, .cells 3 1 true (tab m f))] (fun v Hn => v = .s (.bool true) ∧ Hn = []) := by
  refine Fn_body (N := 26) ho Try.func13 rfl rfl fun B => ?_
  repeat' (first
    | refine SC_seq ?_
    | refine SC_block ?_
    | refine SC_region ?_
    | refine SL_seq ?_
    | refine SL_move (by decide) (by rfl) ?_
    | refine SL_assign (by decide) (by rfl) ?_
    | (refine SL_neq (by decide) (by rfl) (by rfl) (fun hT => ?_) (fun hT => ?_) <;> first | (exfalso; omega) | skip)
    | refine SL_len_sl (by decide) (by rfl) (by rfl) (sliceOf_spec (slF (by rfl))).1 ?_
    | refine SC_cond_f (by rfl) ?_
    | (refine SC_skip' (fun tm σ hE hH => ?_); refine SC.app ?_ hE hH; clear hE hH; clear tm σ))
  refine SC_loop (fun i : Nat => [(0, .sl a 0 m none), (1, .sl b 0 m none), (5, .s (.int .i64 i))]) (fun i => [(a, .cells 3 1 true (tab m f)), (b, .cells 3 1 true (tab m f))]) (fun _ => []) (fun i => i ≤ m) (fun i => m - i) 0 (by omega) ⟨rfl, rfl, rfl, trivial⟩ ⟨.head _, .tail _ (.head _), trivial⟩ (by simp [hab]) rfl ?_
  intro i hi
  by_cases hilt : i < m
  ·
    repeat' (first
      | refine SC_seq ?_
      | refine SC_block ?_
      | refine SC_region ?_
      | refine SL_seq ?_
      | refine SL_move (by decide) (by rfl) ?_
      | refine SL_assign (by decide) (by rfl) ?_
      | refine SL_add (by decide) (by rfl) (by rfl) (by omega) (by omega) ?_
      | (refine SL_lss (by decide) (by rfl) (by rfl) (fun hT => ?_) (fun hT => ?_) <;> first | (exfalso; omega) | skip)
      | (refine SL_neq (by decide) (by rfl) (by rfl) (fun hT => ?_) (fun hT => ?_) <;> first | (exfalso; omega) | skip)
      | refine SL_len_sl (by decide) (by rfl) (by rfl) (sliceOf_spec (slF (by rfl))).1 ?_
      | refine SL_indexAddr_0 (by decide) (by rfl) (by rfl) (by repeat (first | exact .head _ | refine .tail _ ?_)) (slF (by rfl)) _ (by first | rfl | exact (Int.toNat_of_nonneg (by omega)).symm) (by omega) ?_
      | refine SL_load_o (by decide) (by rfl) (by repeat (first | exact .head _ | refine .tail _ ?_)) (rowF (by rfl)) (by first | assumption | rfl | exact tab_get _ _ (by omega)) (by rfl) ?_
      | refine SC_draw (by kernel_rfl) ?_
      | refine SC_cond_t (by rfl) ?_
      | refine SC_cond_f (by rfl) ?_
      | (refine SC_skip' (fun tm σ hE hH => ?_); refine SC.app ?_ hE hH; clear hE hH; clear tm σ))
    refine SL_nil fun tm σ hE hH => ⟨i + 1, by omega, by omega, tm, σ, rfl, hE.sub ⟨rfl, rfl, rfl, trivial⟩, hH.sub ⟨.head _, .tail _ (.head _), trivial⟩ hH.nodup⟩
  · obtain rfl : i = m := by omega
    repeat' (first
      | refine SC_seq ?_
      | refine SC_region ?_
      | refine SL_seq ?_
      | refine SL_move (by decide) (by rfl) ?_
      | refine SL_assign (by decide) (by rfl) ?_
      | (refine SL_lss (by decide) (by rfl) (by rfl) (fun hT => ?_) (fun hT => ?_) <;> first | (exfalso; omega) | skip)
      | refine SL_len_sl (by decide) (by rfl) (by rfl) (sliceOf_spec (slF (by rfl))).1 ?_
      | refine SC_cond_f (by rfl) ?_
      | (refine SC_exit (fun tm σ hE hH => ?_); refine SC.app ?_ hE hH; clear hE hH; clear tm σ)
      | refine SC_ret (fun tm σ hE hH => Post.intro (Hn := []) (.inr rfl) hE hH (by rfl) trivial List.nodup_nil (fun p hp => (by cases hp)) ?_))
    exact ⟨rfl, rfl⟩
end Go.Proofs.Ytldckcopeiginaa
/- TiebreakScores, walked. -/
namespace Go.Proofs.Ytldckcopeiginaa
open Go.Ab
attribute [local irreducible] SC SL wpc wpl wpd wpf wpy wpn FnC FnW RdW
set_option maxRecDepth 100000
set_option pp.deepTerms false
set_option pp.maxSteps 900
set_option maxHeartbeats 2000000
theorem few_all {rs : List (List Sc)} (h : fewB rs 12 = true) : ∀ gs ∈ rs, gs.length ≤ 12 := by
  unfold fewB at h
  rw [Bool.and_eq_true, decide_eq_true_eq, decide_eq_true_eq] at h
  intro gs hgs
  have := h.1 gs (by rw [List.take_of_length_le (by omega)]; exact hgs)
  omega
theorem api_t {G : Gl} {rs : List (List Sc)} {ra : AV} {xs : List AV} (h : RV rs ra xs) (hf : ∀ gs ∈ rs, gs.length ≤ 12) {m : Nat} (hv : VOk m rs) (ho : ∀ f a b, G.orc f (a :: b) = none) :
    FnC Try.prog G 10 [.s (.int .i64 m), ra] [] (fun v Hn => ∃ id, v = .tup [.sl id 0 m none, .s (.int .i64 0)] ∧ Hn = [(id, .cells 3 1 true (tab m (fun x => sumT rs x)))]) := by
  have h11 : FnC Try.prog G 11 [.s (.int .i64 m), ra] [] (fun v Hn => v = .s (.bool true) ∧ Hn = []) := by
    have := valid_fn h m (G := G) (ho _ _ _)
    rw [validB_t hv] at this; exact this
  have h26 := scores_fn h hf hv (G := G) (ho _ _ _) (fun _ => ho _ _ _) (fun _ _ _ => ho _ _ _)
  refine Fn_body (N := 13) (ho _ _ _) Try.func10 rfl rfl fun B => ?_
  repeat' (first
    | (refine SL_call (by decide) (by rfl) bd26 (by rfl) (by rfl) h26 trivial List.nodup_nil ?_; rintro _ _ hB26 ⟨ida, rfl, rfl⟩; simp only [List.cons_append, List.nil_append])
    | (refine SL_call (by decide) (by rfl) bd11 (by rfl) (by rfl) (h11) trivial List.nodup_nil ?_; rintro _ _ _ ⟨rfl, rfl⟩; rw [List.nil_append])
    | refine SC_seq ?_
    | refine SC_region ?_
    | refine SL_seq ?_
    | refine SL_move (by decide) (by rfl) ?_
    | refine SL_assign (by decide) (by rfl) ?_
    | refine SL_not_op (by decide) (by rfl) ?_
    | refine SC_cond_f (by rfl) ?_
    | (refine SC_skip' (fun tm σ hE hH => ?_); refine SC.app ?_ hE hH; clear hE hH; clear tm σ))
  refine SC_ret (fun tm σ hE hH => Post.intro (Hn := [(_, _)]) (.inr rfl) hE hH (by rfl) ⟨.head _, trivial⟩ (by simp) hB26 ⟨_, rfl, rfl⟩)
theorem api_f {G : Gl} {rs : List (List Sc)} {ra : AV} {xs : List AV} (h : RV rs ra xs) {n : Int} (hv : ¬ VOk n rs) (ho : ∀ f a b, G.orc f (a :: b) = none) :
    FnC Try.prog G 10 [.s (.int .i64 n), ra] [] (fun v Hn => v = .s (.tuple #[.slice none 0 0, .int .i64 2]) ∧ Hn = []) := by
  have h11 : FnC Try.prog G 11 [.s (.int .i64 n), ra] [] (fun v Hn => v = .s (.bool false) ∧ Hn = []) := by
    have := valid_fn h n (G := G) (ho _ _ _)
    rw [validB_f hv] at this; exact this
  refine Fn_body (N := 13) (ho _ _ _) Try.func10 rfl rfl fun B => ?_
  repeat' (first
    | (refine SL_call (by decide) (by rfl) bd11 (by rfl) (by rfl) (h11) trivial List.nodup_nil ?_; rintro _ _ _ ⟨rfl, rfl⟩; rw [List.nil_append])
    | refine SC_seq ?_
    | refine SC_region ?_
    | refine SL_seq ?_
    | refine SL_move (by decide) (by rfl) ?_
    | refine SL_assign (by decide) (by rfl) ?_
    | refine SL_not_op (by decide) (by rfl) ?_
    | refine SC_cond_t (by rfl) ?_)
  refine SC_ret (fun tm σ hE hH => Post.intro (Hn := []) (.inr rfl) hE hH (by rfl) trivial List.nodup_nil (fun p hp => by cases hp) ⟨rfl, rfl⟩)
theorem law3_fn {rs : List (List Sc)} {ra : AV} {xs : List AV} (h : RV rs ra xs) (n : Int) :
    FnC Try.prog (oneOrc 9 (.bool true)) 3 [.s (.int .i64 n), ra] [] (fun v Hn => v = .s (.bool true) ∧ Hn = []) := by
  have ho : ∀ f a b, (oneOrc 9 (.bool true)).orc f (a :: b) = none := fun f a b => oneOrc_off (by simp)
  have h9 : FnC Try.prog (oneOrc 9 (.bool true)) 9 [] [] (fun v Hn => v = .s (.bool true) ∧ Hn = []) := Fn_orc (oneOrc_at _ _) ⟨rfl, rfl⟩
  generalize oneOrc 9 (.bool true) = G at ho h9 ⊢
  have h8 := few_fn (G := G) h 12 (ho _ _ _)
  cases hfew : fewB rs 12 with
  | false =>
    rw [hfew] at h8
    refine Fn_body (N := 50) (ho _ _ _) Try.func3 rfl rfl fun B => ?_
    repeat' (first
      | (refine SL_call (by decide) (by rfl) bd9 (by rfl) (by rfl) (h9) trivial List.nodup_nil ?_; rintro _ _ _ ⟨rfl, rfl⟩; rw [List.nil_append])
      | (refine SL_call (by decide) (by rfl) bd8 (by rfl) (by rfl) (h8) trivial List.nodup_nil ?_; rintro _ _ _ ⟨rfl, rfl⟩; rw [List.nil_append])
      | refine SC_seq ?_
      | refine SC_region ?_
      | refine SL_seq ?_
      | refine SL_move (by decide) (by rfl) ?_
      | refine SL_assign (by decide) (by rfl) ?_
      | refine SL_not_op (by decide) (by rfl) ?_
      | refine SC_cond_t (by rfl) ?_)
    refine SC_ret (fun tm σ hE hH => Post.intro (Hn := []) (.inr rfl) hE hH (by rfl) trivial List.nodup_nil (fun p hp => by cases hp) ⟨rfl, rfl⟩)
  | true =>
    rw [hfew] at h8
    have hf := few_all hfew
    by_cases hv : VOk n rs
    · obtain ⟨m, rfl⟩ : ∃ m : Nat, n = m := ⟨n.toNat, by have := hv.1; omega⟩
      have hm : m ≤ 200 := by have := hv.2.1; omega
      have h11 : FnC Try.prog G 11 [.s (.int .i64 m), ra] [] (fun v Hn => v = .s (.bool true) ∧ Hn = []) := by
        have := valid_fn h m (G := G) (ho _ _ _)
        rw [validB_t hv] at this; exact this
      have h12 : FnC Try.prog G 12 [.s (.int .i64 m), ra] [] (fun v Hn => v = .s (.bool true) ∧ Hn = []) := by
        have := lawValid_fn h hf m (G := G) (ho _ _ _)
        rw [validB_t hv] at this; exact this
      have h10 := api_t h hf hv ho
      have h14 := lawScores_fn h hf hv (G := G) (ho _ _ _) (fun _ _ => ho _ _ _)
      have h13 := fun {a b : Nat} (hab : a ≠ b) => same_fn (G := G) m (by omega) (fun x => sumT rs x) hab (ho _ _ _)
      refine Fn_body (N := 50) (ho _ _ _) Try.func3 rfl rfl fun B => ?_
      repeat' (first
        | refine SL_bneq (by decide) (by rfl) (by rfl) (by kernel_rfl) ?_
        | (refine SL_nd fun hnd => ?_; have hne : ida ≠ idb := (fun e => by simp [e] at hnd); refine SL_call (by decide) (by rfl) bd13 (by rfl) (by rfl) (h13 hne) ⟨.tail _ (.head _), .head _, trivial⟩ (by simp [hne]) ?_; rintro _ _ _ ⟨rfl, rfl⟩; simp only [List.nil_append])
        | (refine SL_call (by decide) (by rfl) bd14 (by rfl) (by rfl) h14 trivial List.nodup_nil ?_; rintro _ _ hB14 ⟨idb, rfl, rfl⟩; simp only [List.cons_append, List.nil_append])
        | (refine SL_call (by decide) (by rfl) bd10 (by rfl) (by rfl) h10 trivial List.nodup_nil ?_; rintro _ _ hB10 ⟨ida, rfl, rfl⟩; simp only [List.cons_append, List.nil_append])
        | (refine SL_call (by decide) (by rfl) bd12 (by rfl) (by rfl) (h12) trivial List.nodup_nil ?_; rintro _ _ _ ⟨rfl, rfl⟩; rw [List.nil_append])
        | (refine SL_call (by decide) (by rfl) bd11 (by rfl) (by rfl) (h11) trivial List.nodup_nil ?_; rintro _ _ _ ⟨rfl, rfl⟩; rw [List.nil_append])
        | (refine SL_call (by decide) (by rfl) bd9 (by rfl) (by rfl) (h9) trivial List.nodup_nil ?_; rintro _ _ _ ⟨rfl, rfl⟩; rw [List.nil_append])
        | (refine SL_call (by decide) (by rfl) bd8 (by rfl) (by rfl) (h8) trivial List.nodup_nil ?_; rintro _ _ _ ⟨rfl, rfl⟩; rw [List.nil_append])
        | refine SC_seq ?_
        | refine SC_region ?_
        | refine SL_seq ?_
        | refine SL_run (by rfl) (by rfl) ?_
        | refine SL_move (by decide) (by rfl) ?_
        | refine SL_assign (by decide) (by rfl) ?_
        | refine SL_pick_t (by decide) (by rfl) (by rfl) ?_
        | refine SL_not_op (by decide) (by rfl) ?_
        | (refine SL_eql (by decide) (by rfl) (by rfl) (fun hT => ?_) (fun hT => ?_) <;> first | (exfalso; omega) | skip)
        | refine SL_extract_tup (by decide) (by rfl) (by rfl) ?_
        | refine SC_cond_f (by rfl) ?_
        | (refine SC_skip' (fun tm σ hE hH => ?_); refine SC.app ?_ hE hH; clear hE hH; clear tm σ))
      refine SC_ret (fun tm σ hE hH => Post.intro (Hn := []) (.inr rfl) hE hH (by rfl) trivial List.nodup_nil (fun p hp => by cases hp) ⟨rfl, rfl⟩)
    · have h11 : FnC Try.prog G 11 [.s (.int .i64 n), ra] [] (fun v Hn => v = .s (.bool false) ∧ Hn = []) := by
        have := valid_fn h n (G := G) (ho _ _ _)
        rw [validB_f hv] at this; exact this
      have h12 : FnC Try.prog G 12 [.s (.int .i64 n), ra] [] (fun v Hn => v = .s (.bool false) ∧ Hn = []) := by
        have := lawValid_fn h hf n (G := G) (ho _ _ _)
        rw [validB_f hv] at this; exact this
      have h10 := api_f h hv ho
      refine Fn_body (N := 50) (ho _ _ _) Try.func3 rfl rfl fun B => ?_
      repeat' (first
        | refine SL_bneq (by decide) (by rfl) (by rfl) (by kernel_rfl) ?_
        | (refine SL_call (by decide) (by rfl) bd10 (by rfl) (by rfl) h10 trivial List.nodup_nil ?_; rintro _ _ hB10 ⟨rfl, rfl⟩; simp only [List.nil_append])
        | (refine SL_call (by decide) (by rfl) bd12 (by rfl) (by rfl) (h12) trivial List.nodup_nil ?_; rintro _ _ _ ⟨rfl, rfl⟩; rw [List.nil_append])
        | (refine SL_call (by decide) (by rfl) bd11 (by rfl) (by rfl) (h11) trivial List.nodup_nil ?_; rintro _ _ _ ⟨rfl, rfl⟩; rw [List.nil_append])
        | (refine SL_call (by decide) (by rfl) bd9 (by rfl) (by rfl) (h9) trivial List.nodup_nil ?_; rintro _ _ _ ⟨rfl, rfl⟩; rw [List.nil_append])
        | (refine SL_call (by decide) (by rfl) bd8 (by rfl) (by rfl) (h8) trivial List.nodup_nil ?_; rintro _ _ _ ⟨rfl, rfl⟩; rw [List.nil_append])
        | refine SC_seq ?_
        | refine SC_region ?_
        | refine SL_seq ?_
        | refine SL_run (by rfl) (by rfl) ?_
        | refine SL_move (by decide) (by rfl) ?_
        | refine SL_assign (by decide) (by rfl) ?_
        | refine SL_pick_t (by decide) (by rfl) (by rfl) ?_
        | refine SL_not_op (by decide) (by rfl) ?_
        | (refine SL_eql (by decide) (by rfl) (by rfl) (fun hT => ?_) (fun hT => ?_) <;> first | (exfalso; omega) | skip)
        | refine SL_extract_s (by decide) (by rfl) (by rfl) ?_
        | refine SL_len_0 (by decide) (by rfl) (by rfl) (sliceOf_spec (slF (by rfl))).1 ?_
        | refine SC_cond_t (by rfl) ?_
        | refine SC_cond_f (by rfl) ?_
        | (refine SC_skip' (fun tm σ hE hH => ?_); refine SC.app ?_ hE hH; clear hE hH; clear tm σ))
      refine SC_ret (fun tm σ hE hH => Post.intro (Hn := []) (.inr rfl) hE hH (by rfl) trivial List.nodup_nil (fun p hp => by cases hp) ⟨rfl, rfl⟩)
end Go.Proofs.Ytldckcopeiginaa
/- TiebreakValues, walked. -/
namespace Go.Proofs.Ytldckcopeiginaa
open Go.Ab
attribute [local irreducible] SC SL wpc wpl wpd wpf wpy wpn FnC FnW RdW SD
set_option maxRecDepth 100000
set_option pp.deepTerms false
set_option pp.maxSteps 900
set_option maxHeartbeats 4000000
/-- A player is in at most one game of a round. -/
theorem ev1_count (k : Nat) (i : Int) (hi : 0 ≤ i) (g : Sc) : (ev1 k i g).length ≤ (pl g).count i := by
  unfold ev1
  split
  · rename_i h; subst h; unfold pl; split <;> simp
  · split
    · rename_i h1 h2; subst h2; unfold pl; rw [if_pos hi]; simp
    · simp
theorem evR_count (k : Nat) (i : Int) (hi : 0 ≤ i) (gs : List Sc) : (evR k i gs).length ≤ (gs.flatMap pl).count i := by
  induction gs with
  | nil => simp [evR]
  | cons g gs ih =>
    have := ev1_count k i hi g
    unfold evR at ih ⊢
    rw [List.flatMap_cons, List.flatMap_cons, List.length_append, List.count_append]
    omega
theorem evU_one {n : Int} {rs : List (List Sc)} (h : ∀ gs ∈ rs, ROk n gs) (i : Int) (hi : 0 ≤ i) : ∀ k, k ≤ rs.length → (evU rs i k).length ≤ k
  | 0, _ => by simp [evU]
  | k + 1, hk => by
    have h1 := evU_one h i hi k (by omega)
    have h2 := evR_count k i hi rs[k]
    have h3 := List.nodup_iff_count.1 (h rs[k] (List.getElem_mem hk)).2 i
    rw [evU_next hk, List.length_append]; omega
theorem foesL_le (F : Nat → Int) (es : List Ev) : (foesL F es).length ≤ es.length := by
  unfold foesL; rw [List.length_map]; exact List.length_filter_le _ _
theorem sumT_F {rs : List (List Sc)} (hf : ∀ gs ∈ rs, gs.length ≤ 12) {m : Nat} (hv : VOk m rs) : ∀ x : Nat, x < m → 0 ≤ sumT rs x ∧ sumT rs x ≤ 1000 := fun x _ => by
  have h1 := sumT_bd hf (fun gs hgs g hgg => ((hv.2.2.2 gs hgs).1 g hgg).2.2.2.2) x
  have h2 := hv.2.2.1
  omega
theorem known27 {G : Gl} (ho : ∀ f x y, G.orc f (x :: y) = none) (k : Int) : FnC Try.prog G 27 [.s (.int .i64 k)] [] (fun v Hn => v = .s (.bool (decide (1 ≤ k ∧ k ≤ 7))) ∧ Hn = []) := by
  refine Fn_body (N := 9) (ho _ _ _) Try.func27 rfl rfl fun B => ?_
  repeat' (first
    | refine SC_seq ?_
    | refine SC_region ?_
    | refine SL_seq ?_
    | refine SL_run (by rfl) (by rfl) ?_
    | refine SL_not (by rfl) (by rfl) (by rfl) (by decide) ?_
    | refine SL_move (by decide) (by rfl) ?_
    | refine SL_assign (by decide) (by rfl) ?_
    | refine SL_pick_t (by decide) (by rfl) (by rfl) ?_
    | refine SL_pick_f (by decide) (by rfl) (by rfl) ?_
    | (refine SL_leq (by decide) (by rfl) (by rfl) (fun hT => ?_) (fun hT => ?_) <;> first | (exfalso; omega) | skip)
    | (refine SL_geq (by decide) (by rfl) (by rfl) (fun hT => ?_) (fun hT => ?_) <;> first | (exfalso; omega) | skip))
  all_goals refine SC_ret (fun tm σ hE hH => Post.intro (Hn := []) (.inr rfl) hE hH (by rfl) trivial List.nodup_nil (fun p hp => by cases hp) ⟨?_, rfl⟩)
  all_goals first
    | (rw [decide_eq_true (by omega)]; rfl)
    | (rw [decide_eq_false (by omega)]; rfl)
section
variable {G : Gl} {rs : List (List Sc)} {ra : AV} {xs : List AV} (h : RV rs ra xs) (hf : ∀ gs ∈ rs, gs.length ≤ 12) (ho : ∀ f x y, G.orc f (x :: y) = none)
include h hf ho in
theorem api15_t {m : Nat} (hv : VOk m rs) (hr : rs.length ≤ 10) (i : Nat) (hi : i < m) (k : Nat) (hk1 : 1 ≤ k) (hk7 : k ≤ 7) :
    FnC Try.prog G 15 [.s (.int .i64 m), ra, .s (.int .i64 k), .s (.int .i64 i)] [] (fun v Hn => ∃ n, v = .s (.tuple #[.int .i64 n, .int .i64 0]) ∧ n = lawV (LS.of (fun x => sumT rs x) i (evU rs i rs.length)) (progE rs.length (evU rs i rs.length)) k ∧ Hn = []) := by
  have h11 : FnC Try.prog G 11 [.s (.int .i64 m), ra] [] (fun v Hn => v = .s (.bool true) ∧ Hn = []) := by
    have := valid_fn h m (G := G) (ho _ _ _)
    rw [validB_t hv] at this; exact this
  have h27 : FnC Try.prog G 27 [.s (.int .i64 k)] [] (fun v Hn => v = .s (.bool true) ∧ Hn = []) := by
    have := known27 (G := G) ho k
    rw [decide_eq_true (by omega)] at this; exact this
  have h26 := scores_fn h hf hv (G := G) (ho _ _ _) (fun _ => ho _ _ _) (fun _ _ _ => ho _ _ _)
  have hgok : ∀ gs ∈ rs, ∀ g ∈ gs, GOk m g := fun gs hgs g hgg => (hv.2.2.2 gs hgs).1 g hgg
  have hgp : ∀ gs ∈ rs, ∀ g ∈ gs, 0 ≤ g.p ∧ g.p ≤ 2 := fun gs hgs g hgg => (hgok gs hgs g hgg).2.2.2.2
  have h1 := evU_one hv.2.2.2 i (by omega) rs.length (Nat.le_refl _)
  have h2 := foesL_le (fun x => sumT rs x) (evU rs i rs.length)
  have h28 := value_fn (G := G) h hgp ho (fun x => sumT rs x) (sumT_F hf hv) i hi (evU_lt hgok i rs.length (Nat.le_refl _)) (by omega) (by omega) (by omega) k hk1 hk7
  refine Fn_body (N := 35) (ho _ _ _) Try.func15 rfl rfl fun B => ?_
  repeat' (first
    | (refine SL_call (by decide) (by rfl) bd28 (by rfl) (by rfl) (h28 ida) ⟨.head _, trivial⟩ (by simp) ?_; rintro _ _ _ ⟨n28, rfl, hn28, rfl⟩; rw [List.nil_append])
    | (refine SL_call (by decide) (by rfl) bd26 (by rfl) (by rfl) h26 trivial List.nodup_nil ?_; rintro _ _ hB26 ⟨ida, rfl, rfl⟩; simp only [List.cons_append, List.nil_append])
    | (refine SL_call (by decide) (by rfl) bd27 (by rfl) (by rfl) (h27) trivial List.nodup_nil ?_; rintro _ _ _ ⟨rfl, rfl⟩; rw [List.nil_append])
    | (refine SL_call (by decide) (by rfl) bd11 (by rfl) (by rfl) (h11) trivial List.nodup_nil ?_; rintro _ _ _ ⟨rfl, rfl⟩; rw [List.nil_append])
    | refine SC_seq ?_
    | refine SC_region ?_
    | refine SL_seq ?_
    | refine SL_run (by rfl) (by rfl) ?_
    | refine SL_move (by decide) (by rfl) ?_
    | refine SL_assign (by decide) (by rfl) ?_
    | refine SL_pick_f (by decide) (by rfl) (by rfl) ?_
    | refine SL_not_op (by decide) (by rfl) ?_
    | (refine SL_lss (by decide) (by rfl) (by rfl) (fun hT => ?_) (fun hT => ?_) <;> first | (exfalso; omega) | skip)
    | (refine SL_geq (by decide) (by rfl) (by rfl) (fun hT => ?_) (fun hT => ?_) <;> first | (exfalso; omega) | skip)
    | refine SC_cond_f (by rfl) ?_
    | (refine SC_skip' (fun tm σ hE hH => ?_); refine SC.app ?_ hE hH; clear hE hH; clear tm σ))
  refine SC_ret (fun tm σ hE hH => Post.intro (Hn := []) (.inr rfl) hE hH (by rfl) trivial List.nodup_nil (fun p hp => by cases hp) ⟨_, rfl, ?_, rfl⟩)
  exact tie_eq (evU_bd hgp i rs.length (Nat.le_refl _)) hn28
omit hf in
include h ho in
theorem api15_f {n k i : Int} (hb : ¬ (VOk n rs ∧ 0 ≤ i ∧ i < n ∧ 1 ≤ k ∧ k ≤ 7)) :
    FnC Try.prog G 15 [.s (.int .i64 n), ra, .s (.int .i64 k), .s (.int .i64 i)] [] (fun v Hn => v = .s (.tuple #[.int .i64 0, .int .i64 2]) ∧ Hn = []) := by
  have h11 := valid_fn h n (G := G) (ho _ _ _)
  have h27 := known27 (G := G) ho k
  by_cases hv : VOk n rs
  · rw [validB_t hv] at h11
    by_cases hk : 1 ≤ k ∧ k ≤ 7
    · rw [decide_eq_true hk] at h27
      have hb' : ¬ (0 ≤ i ∧ i < n) := fun h => hb ⟨hv, h.1, h.2, hk⟩
      refine Fn_body (N := 35) (ho _ _ _) Try.func15 rfl rfl fun B => ?_
      repeat' (first
        | (refine SL_call (by decide) (by rfl) bd11 (by rfl) (by rfl) (h11) trivial List.nodup_nil ?_; rintro _ _ _ ⟨rfl, rfl⟩; rw [List.nil_append])
        | refine SC_seq ?_
        | refine SC_region ?_
        | refine SL_seq ?_
        | refine SL_run (by rfl) (by rfl) ?_
        | refine SL_not (by rfl) (by rfl) (by rfl) (by decide) ?_
        | refine SL_move (by decide) (by rfl) ?_
        | refine SL_assign (by decide) (by rfl) ?_
        | refine SL_pick_t (by decide) (by rfl) (by rfl) ?_
        | refine SL_pick_f (by decide) (by rfl) (by rfl) ?_
        | refine SL_not_op (by decide) (by rfl) ?_
        | (refine SL_lss (by decide) (by rfl) (by rfl) (fun hT => ?_) (fun hT => ?_) <;> first | (exfalso; omega) | skip)
        | (refine SL_geq (by decide) (by rfl) (by rfl) (fun hT => ?_) (fun hT => ?_) <;> first | (exfalso; omega) | skip)
        | refine SC_cond_t (by rfl) ?_)
      all_goals first
        | (exfalso; omega)
        | exact SC_ret (fun tm σ hE hH => Post.intro (Hn := []) (.inr rfl) hE hH (by rfl) trivial List.nodup_nil (fun p hp => by cases hp) ⟨rfl, rfl⟩)
    · rw [decide_eq_false hk] at h27
      refine Fn_body (N := 35) (ho _ _ _) Try.func15 rfl rfl fun B => ?_
      repeat' (first
        | (refine SL_call (by decide) (by rfl) bd27 (by rfl) (by rfl) (h27) trivial List.nodup_nil ?_; rintro _ _ _ ⟨rfl, rfl⟩; rw [List.nil_append])
        | (refine SL_call (by decide) (by rfl) bd11 (by rfl) (by rfl) (h11) trivial List.nodup_nil ?_; rintro _ _ _ ⟨rfl, rfl⟩; rw [List.nil_append])
        | refine SC_seq ?_
        | refine SC_region ?_
        | refine SL_seq ?_
        | refine SL_run (by rfl) (by rfl) ?_
        | refine SL_not (by rfl) (by rfl) (by rfl) (by decide) ?_
        | refine SL_move (by decide) (by rfl) ?_
        | refine SL_assign (by decide) (by rfl) ?_
        | refine SL_pick_t (by decide) (by rfl) (by rfl) ?_
        | refine SL_pick_f (by decide) (by rfl) (by rfl) ?_
        | refine SL_not_op (by decide) (by rfl) ?_
        | (refine SL_lss (by decide) (by rfl) (by rfl) (fun hT => ?_) (fun hT => ?_) <;> first | (exfalso; omega) | skip)
        | (refine SL_geq (by decide) (by rfl) (by rfl) (fun hT => ?_) (fun hT => ?_) <;> first | (exfalso; omega) | skip)
        | refine SC_cond_t (by rfl) ?_)
      all_goals exact SC_ret (fun tm σ hE hH => Post.intro (Hn := []) (.inr rfl) hE hH (by rfl) trivial List.nodup_nil (fun p hp => by cases hp) ⟨rfl, rfl⟩)
  · rw [validB_f hv] at h11
    refine Fn_body (N := 35) (ho _ _ _) Try.func15 rfl rfl fun B => ?_
    repeat' (first
      | (refine SL_call (by decide) (by rfl) bd11 (by rfl) (by rfl) (h11) trivial List.nodup_nil ?_; rintro _ _ _ ⟨rfl, rfl⟩; rw [List.nil_append])
      | refine SC_seq ?_
      | refine SC_region ?_
      | refine SL_seq ?_
      | refine SL_not (by rfl) (by rfl) (by rfl) (by decide) ?_
      | refine SL_move (by decide) (by rfl) ?_
      | refine SL_assign (by decide) (by rfl) ?_
      | refine SL_pick_t (by decide) (by rfl) (by rfl) ?_
      | refine SL_not_op (by decide) (by rfl) ?_
      | refine SC_cond_t (by rfl) ?_)
    all_goals exact SC_ret (fun tm σ hE hH => Post.intro (Hn := []) (.inr rfl) hE hH (by rfl) trivial List.nodup_nil (fun p hp => by cases hp) ⟨rfl, rfl⟩)
end
theorem law4_fn {rs : List (List Sc)} {ra : AV} {xs : List AV} (h : RV rs ra xs) (n k i : Int) :
    FnC Try.prog (oneOrc 9 (.bool true)) 4 [.s (.int .i64 n), ra, .s (.int .i64 k), .s (.int .i64 i)] [] (fun v Hn => v = .s (.bool true) ∧ Hn = []) := by
  have ho : ∀ f a b, (oneOrc 9 (.bool true)).orc f (a :: b) = none := fun f a b => oneOrc_off (by simp)
  have h9 : FnC Try.prog (oneOrc 9 (.bool true)) 9 [] [] (fun v Hn => v = .s (.bool true) ∧ Hn = []) := Fn_orc (oneOrc_at _ _) ⟨rfl, rfl⟩
  generalize oneOrc 9 (.bool true) = G at ho h9 ⊢
  have h8 := few_fn (G := G) h 12 (ho _ _ _)
  have hsl := h.sl
  have hlen := h.len
  have hbig := h.big
  cases hfew : fewB rs 12 with
  | false =>
    rw [hfew] at h8
    refine Fn_body (N := 74) (ho _ _ _) Try.func4 rfl rfl fun B => ?_
    repeat' (first
      | (refine SL_call (by decide) (by rfl) bd9 (by rfl) (by rfl) (h9) trivial List.nodup_nil ?_; rintro _ _ _ ⟨rfl, rfl⟩; rw [List.nil_append])
      | (refine SL_call (by decide) (by rfl) bd8 (by rfl) (by rfl) (h8) trivial List.nodup_nil ?_; rintro _ _ _ ⟨rfl, rfl⟩; rw [List.nil_append])
      | refine SC_seq ?_
      | refine SC_region ?_
      | refine SL_seq ?_
      | refine SL_not (by rfl) (by rfl) (by rfl) (by decide) ?_
      | refine SL_move (by decide) (by rfl) ?_
      | refine SL_assign (by decide) (by rfl) ?_
      | refine SL_pick_t (by decide) (by rfl) (by rfl) ?_
      | refine SL_not_op (by decide) (by rfl) ?_
      | refine SC_cond_t (by rfl) ?_)
    all_goals exact SC_ret (fun tm σ hE hH => Post.intro (Hn := []) (.inr rfl) hE hH (by rfl) trivial List.nodup_nil (fun p hp => by cases hp) ⟨rfl, rfl⟩)
  | true =>
    rw [hfew] at h8
    have hf := few_all hfew
    by_cases hr : rs.length ≤ 10
    · by_cases hall : VOk n rs ∧ 0 ≤ i ∧ i < n ∧ 1 ≤ k ∧ k ≤ 7
      · obtain ⟨hv, hi0, hin, hk1, hk7⟩ := hall
        obtain ⟨m, rfl⟩ : ∃ m : Nat, n = m := ⟨n.toNat, by omega⟩
        obtain ⟨i, rfl⟩ : ∃ j : Nat, i = j := ⟨i.toNat, by omega⟩
        obtain ⟨k, rfl⟩ : ∃ j : Nat, k = j := ⟨k.toNat, by omega⟩
        have h12 : FnC Try.prog G 12 [.s (.int .i64 m), ra] [] (fun v Hn => v = .s (.bool true) ∧ Hn = []) := by
          have := lawValid_fn h hf m (G := G) (ho _ _ _)
          rw [validB_t hv] at this; exact this
        have h15t := api15_t (G := G) h hf ho hv hr i (by omega) k (by omega) (by omega)
        have h14 := lawScores_fn h hf hv (G := G) (ho _ _ _) (fun _ _ => ho _ _ _)
        have h16 := lawValue_fn (G := G) h hf hv ho (fun x => sumT rs x) (sumT_F hf hv) i (by omega) k (by omega) (by omega)
        refine Fn_body (N := 74) (ho _ _ _) Try.func4 rfl rfl fun B => ?_
        repeat' (first
          | (refine SL_call (by decide) (by rfl) bd16 (by rfl) (by rfl) (h16 idb) ⟨.head _, trivial⟩ (by simp) ?_; rintro _ _ _ ⟨rfl, rfl⟩; rw [List.nil_append])
          | (refine SL_call (by decide) (by rfl) bd14 (by rfl) (by rfl) h14 trivial List.nodup_nil ?_; rintro _ _ hB14 ⟨idb, rfl, rfl⟩; simp only [List.cons_append, List.nil_append])
          | (refine SL_call (by decide) (by rfl) bd15 (by rfl) (by rfl) h15t trivial List.nodup_nil ?_; rintro _ _ _ ⟨n15, rfl, hn15, rfl⟩; rw [List.nil_append])
          | (refine SL_call (by decide) (by rfl) bd12 (by rfl) (by rfl) (h12) trivial List.nodup_nil ?_; rintro _ _ _ ⟨rfl, rfl⟩; rw [List.nil_append])
          | (refine SL_call (by decide) (by rfl) bd9 (by rfl) (by rfl) (h9) trivial List.nodup_nil ?_; rintro _ _ _ ⟨rfl, rfl⟩; rw [List.nil_append])
          | (refine SL_call (by decide) (by rfl) bd8 (by rfl) (by rfl) (h8) trivial List.nodup_nil ?_; rintro _ _ _ ⟨rfl, rfl⟩; rw [List.nil_append])
          | refine SC_seq ?_
          | refine SC_region ?_
          | refine SL_seq ?_
          | refine SL_run (by rfl) (by rfl) ?_
          | refine SL_move (by decide) (by rfl) ?_
          | refine SL_assign (by decide) (by rfl) ?_
          | refine SL_pick_t (by decide) (by rfl) (by rfl) ?_
          | refine SL_pick_f (by decide) (by rfl) (by rfl) ?_
          | refine SL_not_op (by decide) (by rfl) ?_
          | (refine SL_lss (by decide) (by rfl) (by rfl) (fun hT => ?_) (fun hT => ?_) <;> first | (exfalso; omega) | skip)
          | (refine SL_gtr (by decide) (by rfl) (by rfl) (fun hT => ?_) (fun hT => ?_) <;> first | (exfalso; omega) | skip)
          | (refine SL_geq (by decide) (by rfl) (by rfl) (fun hT => ?_) (fun hT => ?_) <;> first | (exfalso; omega) | skip)
          | (refine SL_eql (by decide) (by rfl) (by rfl) (fun hT => ?_) (fun hT => ?_) <;> first | (exfalso; omega) | skip)
          | refine SL_extract_s (by decide) (by rfl) (by rfl) ?_
          | refine SL_len_v (by decide) (by rfl) (by assumption) (by rfl) (slF (by rfl)) (by simp only [List.length_map]; first | rfl | assumption) ?_
          | refine SC_cond_f (by rfl) ?_
          | (refine SC_skip' (fun tm σ hE hH => ?_); refine SC.app ?_ hE hH; clear hE hH; clear tm σ))
        all_goals exact SC_ret (fun tm σ hE hH => Post.intro (Hn := []) (.inr rfl) hE hH (by rfl) trivial List.nodup_nil (fun p hp => by cases hp) ⟨rfl, rfl⟩)
      · have h15 := api15_f (G := G) h ho hall
        have h12 := lawValid_fn h hf n (G := G) (ho _ _ _)
        by_cases hv : VOk n rs
        · rw [validB_t hv] at h12
          have hall' : ¬ (0 ≤ i ∧ i < n ∧ 1 ≤ k ∧ k ≤ 7) := fun h => hall ⟨hv, h⟩
          refine Fn_body (N := 74) (ho _ _ _) Try.func4 rfl rfl fun B => ?_
          repeat' (first
            | (refine SL_call (by decide) (by rfl) bd15 (by rfl) (by rfl) (h15) trivial List.nodup_nil ?_; rintro _ _ _ ⟨rfl, rfl⟩; rw [List.nil_append])
            | (refine SL_call (by decide) (by rfl) bd12 (by rfl) (by rfl) (h12) trivial List.nodup_nil ?_; rintro _ _ _ ⟨rfl, rfl⟩; rw [List.nil_append])
            | (refine SL_call (by decide) (by rfl) bd9 (by rfl) (by rfl) (h9) trivial List.nodup_nil ?_; rintro _ _ _ ⟨rfl, rfl⟩; rw [List.nil_append])
            | (refine SL_call (by decide) (by rfl) bd8 (by rfl) (by rfl) (h8) trivial List.nodup_nil ?_; rintro _ _ _ ⟨rfl, rfl⟩; rw [List.nil_append])
            | refine SC_seq ?_
            | refine SC_region ?_
            | refine SL_seq ?_
            | refine SL_run (by rfl) (by rfl) ?_
            | refine SL_not (by rfl) (by rfl) (by rfl) (by decide) ?_
            | refine SL_move (by decide) (by rfl) ?_
            | refine SL_assign (by decide) (by rfl) ?_
            | refine SL_pick_t (by decide) (by rfl) (by rfl) ?_
            | refine SL_pick_f (by decide) (by rfl) (by rfl) ?_
            | refine SL_not_op (by decide) (by rfl) ?_
            | (refine SL_lss (by decide) (by rfl) (by rfl) (fun hT => ?_) (fun hT => ?_) <;> first | (exfalso; omega) | skip)
            | (refine SL_gtr (by decide) (by rfl) (by rfl) (fun hT => ?_) (fun hT => ?_) <;> first | (exfalso; omega) | skip)
            | (refine SL_geq (by decide) (by rfl) (by rfl) (fun hT => ?_) (fun hT => ?_) <;> first | (exfalso; omega) | skip)
            | (refine SL_eql (by decide) (by rfl) (by rfl) (fun hT => ?_) (fun hT => ?_) <;> first | (exfalso; omega) | skip)
            | refine SL_extract_s (by decide) (by rfl) (by rfl) ?_
            | refine SL_len_v (by decide) (by rfl) (by assumption) (by rfl) (slF (by rfl)) (by simp only [List.length_map]; first | rfl | assumption) ?_
            | refine SC_cond_t (by rfl) ?_
            | refine SC_cond_f (by rfl) ?_
            | (refine SC_skip' (fun tm σ hE hH => ?_); refine SC.app ?_ hE hH; clear hE hH; clear tm σ))
          all_goals first
            | (exfalso; omega)
            | exact SC_ret (fun tm σ hE hH => Post.intro (Hn := []) (.inr rfl) hE hH (by rfl) trivial List.nodup_nil (fun p hp => by cases hp) ⟨rfl, rfl⟩)
        · rw [validB_f hv] at h12
          refine Fn_body (N := 74) (ho _ _ _) Try.func4 rfl rfl fun B => ?_
          repeat' (first
            | (refine SL_call (by decide) (by rfl) bd15 (by rfl) (by rfl) (h15) trivial List.nodup_nil ?_; rintro _ _ _ ⟨rfl, rfl⟩; rw [List.nil_append])
            | (refine SL_call (by decide) (by rfl) bd12 (by rfl) (by rfl) (h12) trivial List.nodup_nil ?_; rintro _ _ _ ⟨rfl, rfl⟩; rw [List.nil_append])
            | (refine SL_call (by decide) (by rfl) bd9 (by rfl) (by rfl) (h9) trivial List.nodup_nil ?_; rintro _ _ _ ⟨rfl, rfl⟩; rw [List.nil_append])
            | (refine SL_call (by decide) (by rfl) bd8 (by rfl) (by rfl) (h8) trivial List.nodup_nil ?_; rintro _ _ _ ⟨rfl, rfl⟩; rw [List.nil_append])
            | refine SC_seq ?_
            | refine SC_region ?_
            | refine SL_seq ?_
            | refine SL_run (by rfl) (by rfl) ?_
            | refine SL_not (by rfl) (by rfl) (by rfl) (by decide) ?_
            | refine SL_move (by decide) (by rfl) ?_
            | refine SL_assign (by decide) (by rfl) ?_
            | refine SL_pick_t (by decide) (by rfl) (by rfl) ?_
            | refine SL_pick_f (by decide) (by rfl) (by rfl) ?_
            | refine SL_not_op (by decide) (by rfl) ?_
            | (refine SL_gtr (by decide) (by rfl) (by rfl) (fun hT => ?_) (fun hT => ?_) <;> first | (exfalso; omega) | skip)
            | (refine SL_eql (by decide) (by rfl) (by rfl) (fun hT => ?_) (fun hT => ?_) <;> first | (exfalso; omega) | skip)
            | refine SL_extract_s (by decide) (by rfl) (by rfl) ?_
            | refine SL_len_v (by decide) (by rfl) (by assumption) (by rfl) (slF (by rfl)) (by simp only [List.length_map]; first | rfl | assumption) ?_
            | refine SC_cond_t (by rfl) ?_
            | refine SC_cond_f (by rfl) ?_
            | (refine SC_skip' (fun tm σ hE hH => ?_); refine SC.app ?_ hE hH; clear hE hH; clear tm σ))
          all_goals exact SC_ret (fun tm σ hE hH => Post.intro (Hn := []) (.inr rfl) hE hH (by rfl) trivial List.nodup_nil (fun p hp => by cases hp) ⟨rfl, rfl⟩)
    · refine Fn_body (N := 74) (ho _ _ _) Try.func4 rfl rfl fun B => ?_
      repeat' (first
        | (refine SL_call (by decide) (by rfl) bd9 (by rfl) (by rfl) (h9) trivial List.nodup_nil ?_; rintro _ _ _ ⟨rfl, rfl⟩; rw [List.nil_append])
        | (refine SL_call (by decide) (by rfl) bd8 (by rfl) (by rfl) (h8) trivial List.nodup_nil ?_; rintro _ _ _ ⟨rfl, rfl⟩; rw [List.nil_append])
        | refine SC_seq ?_
        | refine SC_region ?_
        | refine SL_seq ?_
        | refine SL_run (by rfl) (by rfl) ?_
        | refine SL_move (by decide) (by rfl) ?_
        | refine SL_assign (by decide) (by rfl) ?_
        | refine SL_pick_f (by decide) (by rfl) (by rfl) ?_
        | refine SL_not_op (by decide) (by rfl) ?_
        | (refine SL_gtr (by decide) (by rfl) (by rfl) (fun hT => ?_) (fun hT => ?_) <;> first | (exfalso; omega) | skip)
        | refine SL_len_v (by decide) (by rfl) (by assumption) (by rfl) (slF (by rfl)) (by simp only [List.length_map]; first | rfl | assumption) ?_
        | refine SC_cond_t (by rfl) ?_)
      all_goals exact SC_ret (fun tm σ hE hH => Post.intro (Hn := []) (.inr rfl) hE hH (by rfl) trivial List.nodup_nil (fun p hp => by cases hp) ⟨rfl, rfl⟩)
end Go.Proofs.Ytldckcopeiginaa
/- The examples of the chapter hold: the run of known() gives true. -/
namespace Go.Proofs.Ytldckcopeiginaa
open Go.Ab
theorem names_all : (Try.prog.funcs.all fun fn => !(fn.name == "runtime.NumGoroutine")) = true := by kernel_rfl
theorem fit : Fit Try.prog := ⟨fun f fn h => by
    have := Array.all_eq_true'.1 names_all fn (Array.mem_of_getElem? h)
    simpa using this, by kernel_rfl⟩
noncomputable def isTrue : Option (AV × AS) → Bool
  | some (.s (.bool true), _) => true
  | _ => false
theorem known_run : isTrue (runCall Try.prog ⟨fun _ => none, fun _ _ => none⟩ 400 9 []) = true := by kernel_rfl
theorem known_some : ∃ σ, runCall Try.prog ⟨fun _ => none, fun _ _ => none⟩ 400 9 [] = some (.s (.bool true), σ) := by
  have h := known_run
  generalize runCall Try.prog ⟨fun _ => none, fun _ _ => none⟩ 400 9 [] = r at h
  unfold isTrue at h
  split at h
  · exact ⟨_, rfl⟩
  · cases h
end Go.Proofs.Ytldckcopeiginaa
/- What comes in as rounds is a list of lists of games. -/
namespace Go.Proofs.Ytldckcopeiginaa
open Go Go.Ab Go.ChangeShapes Go.WideShapes Go.WideElems Go.RowKit
theorem plain22 : plainTy Try.prog 8 22 = true := by kernel_rfl
theorem cells44 : Try.prog.cellsOf 44 = 1 := by kernel_rfl
theorem cells46 : Try.prog.cellsOf 46 = 3 := by kernel_rfl
theorem cells3i : Try.prog.cellsOf 3 = 1 := by kernel_rfl
theorem desc3 : Try.prog.underlying 3 = some (.int .i64) := by kernel_rfl
theorem desc22 : Try.prog.underlying 22 = some (.slice 44) := by kernel_rfl
theorem desc44 : Try.prog.underlying 44 = some (.slice 46) := by kernel_rfl
def isOffs (fs : Option TypeDesc) (l : List (TypeId × Nat)) : Bool := match fs with
  | some (.struct fs) => (fs.toList.map fun f => (f.type, f.offset)) == l
  | _ => false
theorem offs46 : isOffs (Try.prog.underlying 46) [(3, 0), (3, 1), (3, 2)] = true := by kernel_rfl
/-- A value of a slice's type, that comes in, is one cell. -/
theorem open_one {P : Program} {H : Type} {enc : TypeId × Value → H} {w : World} {r : Reach} {b0 : Nat} {spare : Nat → Bool} {held : Bool} {n : Nat} {t e : TypeId} {v : Value} {d : DataW H} {ps : List MemPlace} (ht : P.underlying t = some (.slice e)) (hp : plainTy P n t = true) (hval : Value.okWide P w r b0 t v) (hd : DataW.Trod enc P w 0 spare held t v d ps) :
    ∃ a, Conc (memOf w) (fun _ => none) a v ∧ Ty P t [a] := by
  obtain ⟨a, hc, hty⟩ := open_value hp hval hd
  obtain ⟨x, len, cap, rfl⟩ := okWide_slice ht hval
  cases a with
  | agg l => cases hc
  | s v => cases hc; exact ⟨_, .s _, hty⟩
  | _ => exact ⟨_, hc, hty⟩
theorem ty_int {t : TypeId} (ht : Try.prog.underlying t = some (.int .i64)) {args : List AV} (h : Ty Try.prog t args) : ∃ n, args = [.s (.int .i64 n)] := by
  cases h with
  | int h hw => rw [ht] at h; cases h; exact ⟨_, rfl⟩
  | bool h => rw [ht] at h; cases h
  | str h => rw [ht] at h; cases h
  | empty h => rw [ht] at h; cases h
  | rsl h => rw [ht] at h; cases h
  | struct h => rw [ht] at h; cases h
  | array h => rw [ht] at h; cases h
theorem len3 {α : Type} : ∀ {l : List α}, l.length = 3 → ∃ a b c, l = [a, b, c]
  | [a, b, c], _ => ⟨a, b, c, rfl⟩
  | [], h => by cases h
  | [_], h => by cases h
  | [_, _], h => by cases h
  | _ :: _ :: _ :: _ :: _, h => by simp at h
theorem ty_game {args : List AV} (h : Ty Try.prog 46 args) : ∃ g, args = cells3 g := by
  have ho := offs46
  unfold isOffs at ho
  cases h with
  | struct h hl hf =>
    rw [h] at ho
    rw [cells46] at hl
    simp only [beq_iff_eq] at ho
    obtain ⟨a, b, c, rfl⟩ := len3 hl
    have hm : ∀ p ∈ [((3 : TypeId), 0), (3, 1), (3, 2)], Ty Try.prog p.1 (([a, b, c].drop p.2).take (Try.prog.cellsOf p.1)) := fun p hp => by
      rw [← ho] at hp
      obtain ⟨f, hfm, rfl⟩ := List.mem_map.1 hp
      exact hf f hfm
    have h0 := hm (3, 0) (by simp)
    have h1 := hm (3, 1) (by simp)
    have h2 := hm (3, 2) (by simp)
    simp only [cells3i] at h0 h1 h2
    obtain ⟨x, hx⟩ := ty_int desc3 h0
    obtain ⟨y, hy⟩ := ty_int desc3 h1
    obtain ⟨z, hz⟩ := ty_int desc3 h2
    simp at hx hy hz
    subst hx hy hz
    exact ⟨⟨x, y, z⟩, rfl⟩
  | int h hw => rw [h] at ho; cases ho
  | bool h => rw [h] at ho; cases ho
  | str h => rw [h] at ho; cases ho
  | empty h => rw [h] at ho; cases ho
  | rsl h => rw [h] at ho; cases ho
  | array h => rw [h] at ho; cases ho
theorem le_max {n : Nat} (h : n ≤ maxLen) : n ≤ 9223372036854775807 := by unfold maxLen at h; omega
theorem games_of : ∀ (rows : List (List AV)), (∀ r ∈ rows, Ty Try.prog 46 r) → ∃ gs : List Sc, rows = gs.map cells3
  | [], _ => ⟨[], rfl⟩
  | r :: rows, h => by
    obtain ⟨g, rfl⟩ := ty_game (h r List.mem_cons_self)
    obtain ⟨gs, rfl⟩ := games_of rows fun r hr => h r (List.mem_cons_of_mem _ hr)
    exact ⟨g :: gs, rfl⟩
theorem ty_round {x : AV} (h : Ty Try.prog 44 [x]) : ∃ gs, GV gs x ∧ gs.length ≤ 9223372036854775807 := by
  cases h with
  | empty h hc => exact ⟨[], .nil, by simp⟩
  | rsl h hp hn hc hl hr =>
    rw [desc44] at h; cases h
    obtain ⟨gs, rfl⟩ := games_of _ hr
    rw [cells46]
    refine ⟨gs, .rsl hp, ?_⟩
    rw [List.length_map] at hn
    exact Nat.le_trans hn (le_max hc)
  | int h hw => rw [desc44] at h; cases h
  | bool h => rw [desc44] at h; cases h
  | str h => rw [desc44] at h; cases h
  | struct h => rw [desc44] at h; cases h
  | array h => rw [desc44] at h; cases h
theorem rounds_of : ∀ (rows : List (List AV)), (∀ r ∈ rows, r.length = 1 ∧ Ty Try.prog 44 r) → ∃ (xs : List AV) (rs : List (List Sc)), rows = (xs.map fun x => [x]) ∧ xs.length = rs.length ∧ (∀ (i : Nat) (h : i < rs.length) (h' : i < xs.length), GV rs[i] xs[i]) ∧ ∀ gs ∈ rs, gs.length ≤ 9223372036854775807
  | [], _ => ⟨[], [], rfl, rfl, fun i h => (by cases h), fun gs h => (by cases h)⟩
  | r :: rows, h => by
    obtain ⟨h1, h2⟩ := h r List.mem_cons_self
    obtain ⟨xs, rs, rfl, hlen, hat, heach⟩ := rounds_of rows fun r hr => h r (List.mem_cons_of_mem _ hr)
    match r, h1 with
    | [x], _ =>
      obtain ⟨gs, hg, hb⟩ := ty_round h2
      refine ⟨x :: xs, gs :: rs, rfl, by simp [hlen], fun i hi hi' => ?_, fun g hg' => ?_⟩
      · cases i with
        | zero => exact hg
        | succ i => exact hat i (by simpa using hi) (by simpa using hi')
      · rcases List.mem_cons.1 hg' with rfl | hg'
        · exact hb
        · exact heach g hg'
theorem ty_rounds {a : AV} (h : Ty Try.prog 22 [a]) : ∃ rs xs, RV rs a xs := by
  cases h with
  | empty h hc => exact ⟨[], [], ⟨.nil, rfl, fun i hi => (by cases hi), by simp, fun gs hg => (by cases hg)⟩⟩
  | rsl h hp hn hc hl hr =>
    rw [desc22] at h; cases h
    rw [cells44] at hl ⊢
    obtain ⟨xs, rs, rfl, hlen, hat, heach⟩ := rounds_of _ fun r hr' => ⟨hl r hr', hr r hr'⟩
    refine ⟨rs, xs, ⟨.rsl hp, hlen, hat, ?_, heach⟩⟩
    rw [List.length_map, hlen] at hn
    exact Nat.le_trans hn (le_max hc)
  | int h hw => rw [desc22] at h; cases h
  | bool h => rw [desc22] at h; cases h
  | str h => rw [desc22] at h; cases h
  | struct h => rw [desc22] at h; cases h
  | array h => rw [desc22] at h; cases h

/-- The law's frame: from a contract to a run. -/
theorem given9 : Given Try.prog (oneOrc 9 (.bool true)) := by
  obtain ⟨σ, h⟩ := known_some
  exact oneOrc_given fit Try.func9 (by rfl) h
theorem run_of {f : FuncId} {args : List AV} (h : FnC Try.prog (oneOrc 9 (.bool true)) f args [] (fun v Hn => v = .s (.bool true) ∧ Hn = [])) : ∃ n σ, runCall Try.prog (oneOrc 9 (.bool true)) n f args = some (.s (.bool true), σ) := by
  obtain ⟨n, v, σ, h1, Hn, _, _, rfl, _⟩ := wpf_run (h ⟨.e, 0, none⟩ (.start rfl (fun id _ => by simp [Tr.get_e]) List.nodup_nil (fun p hp => by cases hp)))
  exact ⟨n, σ, h1⟩
theorem laidOut : laidOutB Try.prog = true := by kernel_rfl
theorem own : ownKnob Try.prog.godebug = none := by kernel_rfl
end Go.Proofs.Ytldckcopeiginaa
