/- tiebreak.Valid. -/
import Derived.Test.YtldckcopeiginaaZe
import Derived.Test.YtldckcopeiginaaZd
namespace Go.Proofs.Ytldckcopeiginaa
open Go.Ab
theorem v_game {n : Int} {rs : List (List Sc)} (hv : VOk n rs) {k : Nat} (hk : k < rs.length) {j : Nat} (hj : j < rs[k].length) : GOk n rs[k][j] := (hv.2.2.2 _ (List.getElem_mem hk)).1 _ (List.getElem_mem hj)
theorem r_nodup {gs : List Sc} (h : (gs.flatMap pl).Nodup) {j : Nat} (hj : j < gs.length) : ((gs.take j).flatMap pl ++ pl gs[j]).Nodup := by
  rw [← take_flat hj]
  have e : gs.flatMap pl = (gs.take (j + 1)).flatMap pl ++ (gs.drop (j + 1)).flatMap pl := by rw [← List.flatMap_append, List.take_append_drop]
  rw [e] at h
  exact (List.nodup_append.1 h).1
theorem v_w {n : Int} {rs : List (List Sc)} (hv : VOk n rs) {k : Nat} (hk : k < rs.length) {j : Nat} (hj : j < rs[k].length) : rs[k][j].w ∉ (rs[k].take j).flatMap pl := by
  have h := r_nodup (hv.2.2.2 _ (List.getElem_mem hk)).2 hj
  intro hm
  rw [List.nodup_append] at h
  exact h.2.2 _ hm _ (by unfold pl; split <;> simp) rfl
theorem v_b {n : Int} {rs : List (List Sc)} (hv : VOk n rs) {k : Nat} (hk : k < rs.length) {j : Nat} (hj : j < rs[k].length) (hb : 0 ≤ rs[k][j].b) : rs[k][j].b ∉ (rs[k].take j).flatMap pl ∧ rs[k][j].b ≠ rs[k][j].w := by
  have h := r_nodup (hv.2.2.2 _ (List.getElem_mem hk)).2 hj
  have e : pl rs[k][j] = [rs[k][j].w, rs[k][j].b] := by unfold pl; rw [if_pos hb]
  rw [e, List.nodup_append] at h
  refine ⟨fun hm => h.2.2 _ hm _ (by simp) rfl, fun he => ?_⟩
  have := h.2.1
  simp [he] at this
theorem n_next {gs : List Sc} {j : Nat} (hj : j < gs.length) (h : ((gs.take j).flatMap pl).Nodup) (hw : gs[j].w ∉ (gs.take j).flatMap pl) (hb : 0 ≤ gs[j].b → gs[j].b ∉ (gs.take j).flatMap pl ∧ gs[j].b ≠ gs[j].w) : ((gs.take (j + 1)).flatMap pl).Nodup := by
  rw [take_flat hj, List.nodup_append]
  refine ⟨h, ?_, fun a ha b hb' e => ?_⟩
  · unfold pl
    split
    · rename_i h0
      have := (hb h0).2
      simp [Ne.symm this]
    · simp
  · subst e
    unfold pl at hb'
    split at hb'
    · rename_i h0
      simp only [List.mem_cons, List.not_mem_nil, or_false] at hb'
      rcases hb' with rfl | rfl
      · exact hw ha
      · exact (hb h0).1 ha
    · simp only [List.mem_cons, List.not_mem_nil, or_false] at hb'
      subst hb'; exact hw ha
theorem g_next {n : Int} {gs : List Sc} {j : Nat} (hj : j < gs.length) (h : ∀ g ∈ gs.take j, GOk n g) (hg : GOk n gs[j]) : ∀ g ∈ gs.take (j + 1), GOk n g := by
  intro g hm
  rw [List.take_succ_eq_append_getElem hj, List.mem_append] at hm
  rcases hm with hm | hm
  · exact h g hm
  · rw [List.mem_singleton] at hm
    subst hm; exact hg
theorem r_next {n : Int} {rs : List (List Sc)} {k : Nat} (hk : k < rs.length) (h : ∀ gs ∈ rs.take k, ROk n gs) (hg : ROk n rs[k]) : ∀ gs ∈ rs.take (k + 1), ROk n gs := by
  intro g hm
  rw [List.take_succ_eq_append_getElem hk, List.mem_append] at hm
  rcases hm with hm | hm
  · exact h g hm
  · rw [List.mem_singleton] at hm
    subst hm; exact hg
theorem not_dec {p : Prop} [Decidable p] (h : decide p = false) : ¬ p := by simpa using h
attribute [local irreducible] SC SL wpc wpl wpd wpf wpy wpn FnC
set_option maxRecDepth 100000
set_option maxHeartbeats 2000000
theorem valid_fn {G : Gl} {rs : List (List Sc)} {ra : AV} {xs : List AV} (h : RV rs ra xs) (n : Int) (ho : G.orc 11 [.s (.int .i64 n), ra] = none) :
    FnC Try.prog G 11 [.s (.int .i64 n), ra] [] (fun v Hn => v = .s (.bool (validB n rs)) ∧ Hn = []) := by
  have hsl := h.sl
  have hlen := h.len
  have hbig := h.big
  refine Fn_body (N := 103) ho Try.func11 rfl rfl fun B => ?_
  repeat' (first
    | refine SC_seq ?_
    | refine SC_block ?_
    | refine SC_region ?_
    | refine SL_seq ?_
    | refine SL_run (by rfl) (by rfl) ?_
    | refine SL_not (by rfl) (by rfl) (by rfl) (by decide) ?_
    | refine SL_move (by decide) (by rfl) ?_
    | refine SL_assign (by decide) (by rfl) ?_
    | refine SL_pick_t (by decide) (by rfl) (by rfl) ?_
    | refine SL_pick_f (by decide) (by rfl) (by rfl) ?_
    | (refine SL_lss (by decide) (by rfl) (by rfl) (fun hT => ?_) (fun hT => ?_) <;> first | (exfalso; omega) | skip)
    | (refine SL_gtr (by decide) (by rfl) (by rfl) (fun hT => ?_) (fun hT => ?_) <;> first | (exfalso; omega) | skip)
    | refine SL_len_v (by decide) (by rfl) (by assumption) (by rfl) (slF (by rfl)) (by simp only [List.length_map]; first | rfl | assumption) ?_
    | refine SC_cond_t (by rfl) ?_
    | refine SC_cond_f (by rfl) ?_
    | (refine SC_skip' (fun tm σ hE hH => ?_); refine SC.app ?_ hE hH; clear hE hH; clear tm σ)
    | refine SC_ret (fun tm σ hE hH => Post.intro (Hn := []) (.inr rfl) hE hH (by rfl) trivial List.nodup_nil (fun p hp => (by cases hp)) ?_)
    | fail)
  all_goals try (refine ⟨?_, rfl⟩; rw [validB_f (fun hv => by unfold VOk at hv; omega)]; rfl)
  refine SC_loop (fun k : Nat => [(0, .s (.int .i64 n)), (1, ra), (4, .s (.bool false)), (21, ra), (22, .s (.int .i64 xs.length)), (23, .s (.int .i64 k))]) (fun _ => []) (fun _ => []) (fun k => k ≤ rs.length ∧ ∀ gs ∈ rs.take k, ROk n gs) (fun k => rs.length - k) 0 ⟨by omega, by simp⟩ ⟨rfl, rfl, rfl, rfl, rfl, rfl, trivial⟩ trivial List.nodup_nil rfl ?_
  rintro k ⟨hk1, hk2⟩
  by_cases hlt : k < rs.length
  · obtain ⟨x, hx, hgx⟩ := h.row hlt
    unfold GV at hgx
    have heach := h.each rs[k] (List.getElem_mem hlt)
    repeat' (first
      | refine SC_seq ?_
      | refine SC_block ?_
      | refine SC_region ?_
      | refine SL_seq ?_
      | refine SL_move (by decide) (by rfl) ?_
      | refine SL_assign (by decide) (by rfl) ?_
      | refine SL_add (by decide) (by rfl) (by rfl) (by omega) (by omega) ?_
      | (refine SL_lss (by decide) (by rfl) (by rfl) (fun hT => ?_) (fun hT => ?_) <;> first | (exfalso; omega) | skip)
      | refine SL_len_v (by decide) (by rfl) (by assumption) (by rfl) (slF (by rfl)) (by simp only [List.length_map]; first | rfl | assumption) ?_
      | refine SL_indexAddr_v (by decide) (by rfl) (by rfl) (by assumption) (slF (by rfl)) _ (by first | rfl | exact (Int.toNat_of_nonneg (by omega)).symm) (by simp only [List.length_map]; omega) (fun ad => ?_)
      | refine SL_load_r (by decide) (by rfl) (rowF (by rfl)) (by first | assumption | rfl | exact seenR_get _ _ (by omega)) (by rfl) ?_
      | refine SL_makeSlice (by decide) (by rfl) (by rfl) (elF (by rfl)) (by omega) (by omega) (by omega) (by omega) (fun id hid => ?_)
      | refine SC_cond_t (by rfl) ?_
      | (refine SC_skip' (fun tm σ hE hH => ?_); refine SC.app ?_ hE hH; clear hE hH; clear tm σ)
      | fail)
    rename_i id hid
    refine SC_loop (fun j : Nat => [(0, .s (.int .i64 n)), (1, ra), (4, .s (.bool false)), (21, ra), (22, .s (.int .i64 xs.length)), (23, .s (.int .i64 k)), (7, .sl id 0 (n + 1).toNat none), (30, x), (31, .s (.int .i64 rs[k].length)), (32, .s (.int .i64 j))])
      (fun j => [(id, .cells 4 1 true (seenR (n + 1).toNat ((rs[k].take j).flatMap pl)))]) (fun _ => []) (fun j => j ≤ rs[k].length ∧ (∀ g ∈ rs[k].take j, GOk n g) ∧ ((rs[k].take j).flatMap pl).Nodup) (fun j => rs[k].length - j) 0 ⟨by omega, by simp, by simp⟩
      ⟨rfl, rfl, rfl, rfl, rfl, rfl, rfl, rfl, rfl, rfl, trivial⟩ ⟨by rw [show (rs[k].take 0).flatMap pl = [] from rfl, ← seenR_0]; exact .head _, trivial⟩ (by simp) rfl ?_
    rintro j ⟨hj1, hj2, hj3⟩
    by_cases hjlt : j < rs[k].length
    · have hrow : (rs[k].map cells3)[j]? = some (cells3 rs[k][j]) := by rw [List.getElem?_map, List.getElem?_eq_getElem hjlt]; rfl
      repeat' (first
        | refine SC_seq ?_
        | refine SC_block ?_
        | refine SC_region ?_
        | refine SL_seq ?_
        | (refine SL_nil (fun tm σ hE hH => ?_); refine SC.app ?_ hE hH; clear hE hH; clear tm σ)
        | refine SL_run (by rfl) (by rfl) ?_
        | refine SL_not (by rfl) (by rfl) (by rfl) (by decide) ?_
        | refine SL_notu (by rfl) (by rfl) (by decide) ?_
        | refine SL_move (by decide) (by rfl) ?_
        | refine SL_assign (by decide) (by rfl) ?_
        | refine SL_pick_t (by decide) (by rfl) (by rfl) ?_
        | refine SL_pick_f (by decide) (by rfl) (by rfl) ?_
        | refine SL_add (by decide) (by rfl) (by rfl) (by omega) (by omega) ?_
        | (refine SL_lss (by decide) (by rfl) (by rfl) (fun hT => ?_) (fun hT => ?_) <;> first | (exfalso; omega) | skip)
        | (refine SL_gtr (by decide) (by rfl) (by rfl) (fun hT => ?_) (fun hT => ?_) <;> first | (exfalso; omega) | skip)
        | (refine SL_geq (by decide) (by rfl) (by rfl) (fun hT => ?_) (fun hT => ?_) <;> first | (exfalso; omega) | skip)
        | (refine SL_eql (by decide) (by rfl) (by rfl) (fun hT => ?_) (fun hT => ?_) <;> first | (exfalso; omega) | skip)
        | refine SL_fieldAddr (by decide) (by rfl) (fldF (by rfl)) ?_
        | refine SL_indexAddr_v (by decide) (by rfl) (by rfl) (by assumption) (slF (by rfl)) _ (by first | rfl | exact (Int.toNat_of_nonneg (by omega)).symm) (by simp only [List.length_map]; omega) (fun ad => ?_)
        | refine SL_indexAddr_0 (by decide) (by rfl) (by rfl) (by repeat (first | exact .head _ | refine .tail _ ?_)) (slF (by rfl)) _ (by first | rfl | exact (Int.toNat_of_nonneg (by omega)).symm) (by omega) ?_
        | refine SL_load_rr (by decide) (by rfl) (rowF (by rfl)) (by first | assumption | rfl | exact seenR_get _ _ (by omega)) (Nat.le_of_ble_eq_true (by rfl)) (by first | exact mk3 _ | rfl) ?_
        | (refine SL_load_ob (by decide) (by rfl) (by repeat (first | exact .head _ | refine .tail _ ?_)) (rowF (by rfl)) (by first | assumption | rfl | exact seenR_get _ _ (by omega)) (by rfl) (fun hT => ?_) (fun hT => ?_) <;> first | (exfalso; simp at hT; done) | skip)
        | refine SL_load_o (by decide) (by rfl) (by repeat (first | exact .head _ | refine .tail _ ?_)) (rowF (by rfl)) (by first | assumption | rfl | exact seenR_get _ _ (by omega)) (by rfl) ?_
        | refine SL_store_box (by rfl) (by rfl) (by first | exact cells_3 _ _ _ | rfl) (by repeat (first | exact .head | apply Upd.tail)) (by first | exact .inl (by assumption) | exact .inr (by simp)) (by rfl) (szF (by rfl)) (by rfl) ?_
        | refine SL_store_n (by rfl) (by rfl) (by repeat (first | exact .head _ | refine .tail _ ?_)) (by first | assumption | rfl | exact seenR_get _ _ (by omega)) (by rfl) (by first | exact seenR_set' _ _ (by omega) _ | rfl) (by repeat (first | exact .head | apply Upd.tail)) (by first | exact .inl (by assumption) | exact .inr (by simp)) (szF (by rfl)) (Nat.le_of_ble_eq_true (by rfl)) (by rfl) ?_
        | refine SL_alloc (by decide) (zeroF (by rfl)) (fun id hid => ?_)
        | refine SC_cond_t (by rfl) ?_
        | refine SC_cond_f (by rfl) ?_
        | (refine SC_skip' (fun tm σ hE hH => ?_); refine SC.app ?_ hE hH; clear hE hH; clear tm σ)
        | refine SC_ret (fun tm σ hE hH => Post.intro (Hn := []) (.inr rfl) hE hH (by rfl) trivial List.nodup_nil (fun p hp => (by cases hp)) ?_)
        | fail)
      all_goals try (refine ⟨?_, rfl⟩; rw [validB_f (fun hv => by have hg := v_game hv hlt hjlt; unfold GOk at hg; omega)]; rfl)
      · have hw0 : 0 ≤ rs[k][j].w := by assumption
        have hs : decide (((rs[k][j].w.toNat : Nat) : Int) ∈ (rs[k].take j).flatMap pl) = true := by assumption
        rw [Int.toNat_of_nonneg hw0] at hs
        refine ⟨?_, rfl⟩
        rw [validB_f (fun hv => v_w hv hlt hjlt (of_decide_eq_true hs))]; rfl
      · have hb0 : 0 ≤ rs[k][j].b := by assumption
        have hs : decide (((rs[k][j].b.toNat : Nat) : Int) ∈ (rs[k].take j).flatMap pl) = true := by assumption
        rw [Int.toNat_of_nonneg hb0] at hs
        refine ⟨?_, rfl⟩
        rw [validB_f (fun hv => (v_b hv hlt hjlt hb0).1 (of_decide_eq_true hs))]; rfl
      · have hb0 : 0 ≤ rs[k][j].b := by assumption
        have he : rs[k][j].b = rs[k][j].w := by assumption
        refine ⟨?_, rfl⟩
        rw [validB_f (fun hv => (v_b hv hlt hjlt hb0).2 he)]; rfl
      · have hw0 : 0 ≤ rs[k][j].w := by assumption
        have hw1 : rs[k][j].w < n := by assumption
        have hb1 : -1 ≤ rs[k][j].b := by assumption
        have hb2 : rs[k][j].b < n := by assumption
        have hp1 : 0 ≤ rs[k][j].p := by assumption
        have hp2 : rs[k][j].p ≤ 2 := by assumption
        have hs : decide (((rs[k][j].w.toNat : Nat) : Int) ∈ (rs[k].take j).flatMap pl) = false := by assumption
        have hb0 : 0 ≤ rs[k][j].b := by assumption
        have hsb : decide (((rs[k][j].b.toNat : Nat) : Int) ∈ (rs[k].take j).flatMap pl) = false := by assumption
        have hne : rs[k][j].b ≠ rs[k][j].w := by assumption
        rw [Int.toNat_of_nonneg hw0] at hs
        rw [Int.toNat_of_nonneg hb0] at hsb
        refine SL_nil fun tm σ hE hH => ⟨j + 1, by omega, ⟨by omega, g_next hjlt hj2 ⟨hw0, hw1, hb1, hb2, hp1, hp2⟩, n_next hjlt hj3 (not_dec hs) (fun _ => ⟨not_dec hsb, hne⟩)⟩, tm, σ, rfl, hE.sub ⟨rfl, rfl, rfl, rfl, rfl, rfl, rfl, rfl, rfl, rfl, trivial⟩, hH.sub ⟨?_, trivial⟩ (by simp)⟩
        rw [take_flat hjlt, show pl rs[k][j] = [rs[k][j].w, rs[k][j].b] by unfold pl; rw [if_pos hb0]]
        rw [Int.toNat_of_nonneg hw0, Int.toNat_of_nonneg hb0, List.append_assoc]
        exact .tail _ (.head _)
      · have hw0 : 0 ≤ rs[k][j].w := by assumption
        have hw1 : rs[k][j].w < n := by assumption
        have hb1 : -1 ≤ rs[k][j].b := by assumption
        have hb2 : rs[k][j].b < n := by assumption
        have hp1 : 0 ≤ rs[k][j].p := by assumption
        have hp2 : rs[k][j].p ≤ 2 := by assumption
        have hs : decide (((rs[k][j].w.toNat : Nat) : Int) ∈ (rs[k].take j).flatMap pl) = false := by assumption
        have hb0 : rs[k][j].b < 0 := by assumption
        rw [Int.toNat_of_nonneg hw0] at hs
        refine SL_nil fun tm σ hE hH => ⟨j + 1, by omega, ⟨by omega, g_next hjlt hj2 ⟨hw0, hw1, hb1, hb2, hp1, hp2⟩, n_next hjlt hj3 (not_dec hs) (fun hb => by omega)⟩, tm, σ, rfl, hE.sub ⟨rfl, rfl, rfl, rfl, rfl, rfl, rfl, rfl, rfl, rfl, trivial⟩, hH.sub ⟨?_, trivial⟩ (by simp)⟩
        rw [take_flat hjlt, show pl rs[k][j] = [rs[k][j].w] by unfold pl; rw [if_neg (by omega)]]
        rw [Int.toNat_of_nonneg hw0]
        exact .tail _ (.head _)
    ·
      repeat' (first
        | refine SC_seq ?_
        | refine SC_region ?_
        | refine SL_seq ?_
        | refine SL_move (by decide) (by rfl) ?_
        | refine SL_add (by decide) (by rfl) (by rfl) (by omega) (by omega) ?_
        | (refine SL_lss (by decide) (by rfl) (by rfl) (fun hT => ?_) (fun hT => ?_) <;> first | (exfalso; omega) | skip)
        | refine SC_cond_f (by rfl) ?_
        | (refine SC_exit (fun tm σ hE hH => ?_); refine SC.app ?_ hE hH; clear hE hH; clear tm σ)
        | fail)
      refine SL_nil fun tm σ hE hH => ⟨k + 1, by omega, ⟨by omega, r_next hlt hk2 ⟨fun g hg => hj2 g ?_, ?_⟩⟩, tm, σ, rfl, hE.sub ⟨rfl, rfl, rfl, rfl, rfl, rfl, trivial⟩, hH.sub trivial List.nodup_nil⟩
      · rw [List.take_of_length_le (by omega)]; exact hg
      · rw [List.take_of_length_le (by omega)] at hj3; exact hj3
  ·
    repeat' (first
      | refine SC_seq ?_
      | refine SC_region ?_
      | refine SL_seq ?_
      | refine SL_assign (by decide) (by rfl) ?_
      | (refine SL_lss (by decide) (by rfl) (by rfl) (fun hT => ?_) (fun hT => ?_) <;> first | (exfalso; omega) | skip)
      | refine SC_cond_f (by rfl) ?_
      | (refine SC_exit (fun tm σ hE hH => ?_); refine SC.app ?_ hE hH; clear hE hH; clear tm σ)
      | refine SC_ret (fun tm σ hE hH => Post.intro (Hn := []) (.inr rfl) hE hH (by rfl) trivial List.nodup_nil (fun p hp => (by cases hp)) ?_)
      | fail)
    refine ⟨?_, rfl⟩
    rw [validB_t ⟨by omega, by omega, by omega, fun gs hgs => hk2 gs (by rw [List.take_of_length_le (by omega)]; exact hgs)⟩]
    rfl
end Go.Proofs.Ytldckcopeiginaa
/- tiebreak.Field, walked. -/
namespace Go.Proofs.Ytldckcopeiginaa
open Go Go.Ab
attribute [local irreducible] SC SL wpc wpl wpd wpf wpy wpn FnC FnW RdW SD
set_option maxRecDepth 100000
set_option maxHeartbeats 4000000
theorem validB_of {n : Int} {rs : List (List Sc)} (h : validB n rs = true) : VOk n rs := by
  unfold validB at h
  exact @of_decide_eq_true _ (Classical.propDecidable _) h
def Field_R (names : List ByteArray) (ratings : List Int) (rs : List (List Sc)) (v : AV) (Hn : List (Nat × AObj)) : Prop :=
  (¬ (names.length = ratings.length ∧ VOk names.length rs) ∧ v = .s (.tuple #[.slice none 0 0, .int .i64 2]) ∧ Hn = []) ∨
  ((names.length = ratings.length ∧ VOk names.length rs) ∧ ∃ l, FieldOf names ratings rs l names.length ∧ ((validE l = true ∧ ∃ a, v = .tup [a, .s (.int .i64 0)] ∧ EntsIn Hn a l) ∨ (validE l = false ∧ v = .s (.tuple #[.slice none 0 0, .int .i64 2]) ∧ Hn = [])))
theorem field_fn {names : List ByteArray} {ratings : List Int} {rs : List (List Sc)} {na ra rv : AV} {xs : List AV} (hn : SlV 1 na (strs names)) (hr : SlV 1 ra (ints ratings)) (h : RV rs rv xs) (hf : ∀ gs ∈ rs, gs.length ≤ 12) (hrs : rs.length ≤ 10)
    (hnl : names.length ≤ 14) (hrl : ratings.length ≤ 14) (hnb : ∀ s ∈ names, s.size ≤ 1000) : FnC Try.prog glf 21 [na, ra, rv] [] (Field_R names ratings rs) := by
  have hsl := h.sl
  have hlen := h.len
  have hbig := h.big
  refine Fn_body (N := 100) (glf_off (by decide) (by decide)) Try.func21 rfl rfl fun B => ?_
  have bad : ∀ {tm : Tm} {σ : AS} {L : List (Nat × AV)} {H : List (Nat × AObj)} {ds : List Nat}, ¬ (names.length = ratings.length ∧ VOk names.length rs) → En tm 100 L → He B [] σ H ds → resL L Try.f21.results.toList = some [.s (.slice none 0 0), .s (.int .i64 2)] →
      Post Try.prog B Try.f21 (Field_R names ratings rs) .ret ⟨tm, ds, σ⟩ := fun hV hE hH hres =>
    Post.intro (Hn := []) (.inr rfl) hE hH hres trivial List.nodup_nil (fun p hp => (by cases hp)) (.inl ⟨hV, rfl, rfl⟩)
  by_cases hV : names.length = ratings.length ∧ VOk names.length rs
  · have hl := hV.1
    obtain ⟨hv1, hv2, hv3, hv4⟩ := hV.2
    have hg : ∀ gs ∈ rs, ∀ g ∈ gs, 0 ≤ g.p ∧ g.p ≤ 2 := fun gs hgs g hgg => ((hv4 gs hgs).1 g hgg).2.2.2.2
    repeat' (first
      | (refine SL_callb (by decide) (by rfl) bd11 (by rfl) (by rfl) (valid_fn h _ (glf_off (by decide) (by decide))) (fun hB => ?_) (fun hB => ?_))
      | (refine SL_call (by decide) (by rfl) bd26 (by rfl) (by rfl) (scores_fn h hf hV.2 (glf_off (by decide) (by decide)) (fun _ => glf_off (by decide) (by decide)) (fun _ _ _ => glf_off (by decide) (by decide))) trivial List.nodup_nil ?_; rintro _ _ hBs ⟨sc, rfl, rfl⟩; simp only [List.cons_append, List.nil_append])
      | refine SL_len_v (by decide) (by rfl) hr (by rfl) (slF (by rfl)) (ints_len _) ?_
      | refine SL_len_v (by decide) (by rfl) hn (by rfl) (slF (by rfl)) (strs_len _) ?_
      | refine SC_seq ?_
      | refine SC_block ?_
      | refine SC_region ?_
      | refine SL_seq ?_
      | refine SL_run (by rfl) (by rfl) ?_
      | refine SL_move (by decide) (by rfl) ?_
      | refine SL_assign (by decide) (by rfl) ?_
      | refine SL_pick_f (by decide) (by rfl) (by rfl) ?_
      | refine SL_not_op (by decide) (by rfl) ?_
      | (refine SL_neq (by decide) (by rfl) (by rfl) (fun hT => ?_) (fun hT => ?_) <;> first | (exfalso; omega) | skip)
      | refine SC_cond_t (by rfl) ?_
      | refine SC_cond_f (by rfl) ?_
      | (refine SC_skip' (fun tm σ hE hH => ?_); refine SC.app ?_ hE hH; clear hE hH; clear tm σ)
      | fail)
    rotate_left
    · exfalso
      rw [validB_t hV.2] at hB
      cases hB
    have hsc := hBs (sc, _) (.head _)
    refine SC_loop (fun z : Nat × List Ent × AV × List (Nat × AObj) × List Nat => [(0, na), (1, ra), (2, rv), (8, .sl sc 0 names.length none), (9, z.2.2.1), (33, na), (34, .s (.int .i64 names.length)), (35, .s (.int .i64 z.1))]) (fun z => (sc, .cells 3 1 true (tab names.length (fun x => sumT rs x))) :: z.2.2.2.1) (fun z => z.2.2.2.2)
      (fun z => z.1 ≤ names.length ∧ FieldOf names ratings rs z.2.1 z.1 ∧ OutI z.2.1 z.2.2.1 z.2.2.2.1 ∧ (∀ p ∈ z.2.2.2.1, B.next ≤ p.1) ∧ (((sc, .cells 3 1 true (tab names.length (fun x => sumT rs x))) :: z.2.2.2.1).map (·.1)).Nodup) (fun z => names.length - z.1) (0, [], .s (.slice none 0 0), [], [])
      ⟨by simp, ⟨rfl, fun i hi => (by cases hi)⟩, .nil, fun p hp => (by cases hp), by simp⟩ ⟨rfl, rfl, rfl, rfl, rfl, rfl, rfl, rfl, trivial⟩ ⟨.head _, trivial⟩ (by simp) rfl ?_
    rintro ⟨k, fl, oa, Hd, ds⟩ ⟨hk, hF, hO, hBd, hnd⟩
    dsimp only at hk hF hO hBd hnd ⊢
    by_cases hlt : k < names.length
    · have hlt2 : k < ratings.length := by omega
      repeat' (first
        | (refine SC_ds ?_; refine SC_perm List.perm_middle ?_; refine SC_drawI (by kernel_rfl) (by kernel_rfl) (fun B2 base hBB => ?_))
        | refine SL_indexAddr_v (by decide) (by rfl) (by rfl) hr (slF (by rfl)) k (by rfl) (by rw [ints_len]; omega) (fun ad => ?_)
        | refine SL_indexAddr_v (by decide) (by rfl) (by rfl) hn (slF (by rfl)) k (by rfl) (by rw [strs_len]; omega) (fun ad => ?_)
        | refine SL_build (by decide) (by rfl) (build54 _ _ _) ?_
        | refine SC_seq ?_
        | refine SC_block ?_
        | refine SC_region ?_
        | refine SL_seq ?_
        | refine SL_move (by decide) (by rfl) ?_
        | refine SL_assign (by decide) (by rfl) ?_
        | (refine SL_lss (by decide) (by rfl) (by rfl) (fun hT => ?_) (fun hT => ?_) <;> first | (exfalso; omega) | skip)
        | refine SL_indexAddr_0 (by decide) (by rfl) (by rfl) (by repeat (first | exact .head _ | refine .tail _ ?_)) (slF (by rfl)) _ (by first | rfl | exact (Int.toNat_of_nonneg (by omega)).symm) (by omega) ?_
        | refine SL_load_r (by decide) (by rfl) (rowF (by rfl)) (by first | assumption | rfl | exact tab_get _ _ (by omega) | exact ints_get _ (by omega) | exact strs_get _ (by omega)) (by rfl) ?_
        | refine SL_load_o (by decide) (by rfl) (by repeat (first | exact .head _ | refine .tail _ ?_)) (rowF (by rfl)) (by first | assumption | rfl | exact tab_get _ _ (by omega) | exact ints_get _ (by omega) | exact strs_get _ (by omega)) (by rfl) ?_
        | refine SL_store_box (by rfl) (by rfl) (by first | exact cells_3 _ _ _ | rfl) (by repeat (first | exact .head | apply Upd.tail)) (by first | exact .inl (by assumption) | exact .inr (by simp)) (by rfl) (szF (by rfl)) (by rfl) ?_
        | refine SC_cond_t (by rfl) ?_
        | (refine SC_skip' (fun tm σ hE hH => ?_); refine SC.app ?_ hE hH; clear hE hH; clear tm σ)
        | refine SI_alloc (by decide) (zeroF (by rfl)) (fun id hid => ?_)
        | refine SI_op (by rfl) ?_
        | (refine SL_nil (fun tm σ hE hH => ⟨tm, σ, _, _, rfl, hE, hH, ?_⟩); clear hE hH; clear tm σ)
        | fail)
      revert id
      intro x12 hx12
      refine SI_nil fun tm σ hE hH => ⟨tm, σ, _, _, rfl, hE, hH.perm ((List.Perm.cons _ List.perm_middle.symm).trans List.perm_middle.symm), fun tm σ hE hH => ?_⟩
      refine SC.app ?_ hE hH
      clear hE hH
      clear tm σ
      refine SC_nd fun hnd0 => ?_
      repeat' (first
        | (refine SL_call (by decide) (by rfl) bd36 (by rfl) (by rfl) (gamesOf_fn h (k : Int) (glf_off (by decide) (by decide))) trivial List.nodup_nil ?_; rintro _ _ hBn ⟨ga, gb, rfl, rfl⟩; simp only [List.cons_append, List.nil_append])
        | refine SC_seq ?_
        | refine SC_block ?_
        | refine SC_region ?_
        | refine SL_seq ?_
        | refine SL_move (by decide) (by rfl) ?_
        | fail)
      refine SC_perm (H' := ((sc, .cells 3 1 true (tab names.length (fun x => sumT rs x))) :: Hd) ++ [(gb, .cells 3 1 true [[.s (.int .i64 k)]]), (ga, .cells 22 1 true [[rv]]), (x12, (.cells 54 8 true [enRow (entOf names[k] ratings[k] (sumT rs k) [] []) (.s (.slice none 0 0))]))]) ?_ (SC_nd fun hnd1 => ?_)
      · exact (List.perm_append_comm (l₁ := [(gb, _), (ga, _), (x12, _)]) (l₂ := (sc, .cells 3 1 true (tab names.length (fun x => sumT rs x))) :: Hd))
      refine SC_range2 (Hx := []) (Fin := InvF x12 names[k] ratings[k] (sumT rs k) (evU rs k rs.length)) (M0 := [x12]) (xs := fun l => [.yld l, .ptr ga 0 0, .ptr gb 0 0]) (by rfl) (fun l => by rfl) ?_ (fun p hp => by cases hp) List.nodup_nil ?_ ?_
      · intro q hq
        rw [List.mem_singleton] at hq
        subst hq
        exact ⟨.inl hx12, by simp⟩
      · intro tm d l hE hlB hnot
        refine games2_fn h hg (k : Int) (InvF x12 names[k] ratings[k] (sumT rs k)) [(x12, (.cells 54 8 true [enRow (entOf names[k] ratings[k] (sumT rs k) [] []) (.s (.slice none 0 0))]))] [] ⟨[], _, [], metOf_nil, by simp, .nil, rfl⟩ ?_ (glf_off (by decide) (by decide))
        rintro es ⟨kk, o, pp, c⟩ Hc hpre ⟨met, m, Hm, hmet, hml, hmh, rfl⟩
        have hul := evU_len hf (k : Int) rs.length (Nat.le_refl _)
        have hel := hpre.length_le
        rw [List.length_append, List.length_singleton] at hel
        have hwb : 0 ≤ (entOf names[k] ratings[k] (sumT rs k) es met).whites ∧ (entOf names[k] ratings[k] (sumT rs k) es met).whites ≤ es.length := wN_bd es
        have hbb : 0 ≤ (entOf names[k] ratings[k] (sumT rs k) es met).blacks ∧ (entOf names[k] ratings[k] (sumT rs k) es met).blacks ≤ es.length := bN_bd es
        simp only [List.append_nil]
        cases hmh with
        | nil =>
          have hbin : FnC Try.prog glf 37 [.s (.slice none 0 0), .s (.int .i64 o)] [] (fun v Hn => v = .s (.tuple #[.int .i64 (0 : Nat), .bool false]) ∧ Hn = []) := (bin_fn (fun _ _ _ h1 h2 => glf_off h1 h2) (.v .nil) (l := []) .nil (by decide) o).mono fun v Hn ⟨⟨p, hp, hv⟩, hn⟩ => by
            obtain rfl : p = 0 := Nat.le_zero.1 hp.1
            exact ⟨hv, hn⟩
          refine Rd_body' (H := _) hE rfl (by decide) List.mem_cons_self fun B' => ?_
          repeat' (first
            | refine SC_region ?_
            | refine SL_store_box (by rfl) (by rfl) (by first | exact cells_3 _ _ _ | rfl) (by repeat (first | exact .head | apply Upd.tail)) (by first | exact .inl (by assumption) | exact .inr (by simp)) (by rfl) (szF (by rfl)) (by rfl) ?_
            | refine SL_alloc (by decide) (zeroF (by rfl)) (fun id hid => ?_)
            | fail)
          refine SL_nil fun tm1 σ1 hE1 hH1 => ⟨tm1, σ1, _, _, rfl, hE1, hH1.perm (List.Perm.swap _ _ _), ?_⟩
          clear hE1 hH1
          clear tm1 σ1
          revert id
          intro b14 hb14
          by_cases ho : o < 0
          · skip
            repeat' (first
              | refine SC_seq ?_
              | refine SC_block ?_
              | refine SC_region ?_
              | refine SL_seq ?_
              | refine SL_assign (by decide) (by rfl) ?_
              | (refine SL_lss (by decide) (by rfl) (by rfl) (fun hT => ?_) (fun hT => ?_) <;> first | (exfalso; omega) | skip)
              | refine SL_fieldAddr (by decide) (by rfl) (fldF (by rfl)) ?_
              | refine SL_load_o (by decide) (by rfl) (by repeat (first | exact .head _ | refine .tail _ ?_)) (rowF (by rfl)) (by first | assumption | rfl | exact tab_get _ _ (by omega) | exact ints_get _ (by omega) | exact strs_get _ (by omega)) (by rfl) ?_
              | refine SL_store_n (by rfl) (by rfl) (by repeat (first | exact .head _ | refine .tail _ ?_)) (by first | assumption | rfl | exact tab_get _ _ (by omega) | exact ints_get _ (by omega) | exact strs_get _ (by omega)) (by rfl) (by first | rfl) (by repeat (first | exact .head | apply Upd.tail)) (by first | exact .inl (by assumption) | exact .inr (by simp)) (szF (by rfl)) (Nat.le_of_ble_eq_true (by rfl)) (by rfl) ?_
              | refine SC_cond_t (by rfl) ?_
              | fail)
            refine SC_exit fun tm3 σ3 hE3 hH3 => ?_
            dsimp only [InB, Nxt]
            rw [if_neg (by decide), if_pos rfl]
            refine RPost.intro (Hn := [(l, _), (x12, _)]) hH3 List.mem_cons_self .head ⟨.head _, .tail _ (.tail _ (.head _)), trivial⟩ (hH3.nodup.sublist (.cons_cons _ (.cons _ (.cons_cons _ .slnil)))) (fun p hp => .inl (by simp only [List.mem_cons, List.not_mem_nil, or_false] at hp; rcases hp with rfl | rfl <;> simp)) ⟨rfl, _, rfl, _, _, _, met_bye hmet ho, by simp only [List.length_append, List.length_cons, List.length_nil, List.length_nil]; omega, .nil, by rw [ent_bye ho]; rfl⟩
          have ho1 : 0 ≤ o := by omega
          rcases Bool.eq_false_or_eq_true c with rfl | rfl
          · skip
            repeat' (first
              | (refine SL_call (by decide) (by rfl) bd38 (by rfl) (by rfl) insn_fn ⟨.head _, trivial⟩ (by simp) ?_; rintro _ _ hB38 ⟨id2, rfl, rfl⟩; simp only [List.cons_append, List.nil_append])
              | (refine SL_call (by decide) (by rfl) bd37 (by rfl) (by rfl) hbin (.of_mem fun p hp => by first | (rw [List.mem_singleton] at hp; subst hp; repeat (first | exact .head _ | refine .tail _ ?_)) | cases hp) (by simp) ?_; first | (rintro _ _ _ ⟨rfl, rfl⟩; rw [List.nil_append]) | (rintro _ _ _ ⟨⟨p, hpos, rfl⟩, rfl⟩; rw [List.nil_append]))
              | refine SC_seq ?_
              | refine SC_block ?_
              | refine SC_region ?_
              | refine SL_seq ?_
              | (refine SL_nil (fun tm σ hE hH => ?_); refine SC.app ?_ hE hH; clear hE hH; clear tm σ)
              | refine SL_move (by decide) (by rfl) ?_
              | refine SL_assign (by decide) (by rfl) ?_
              | refine SL_not_op (by decide) (by rfl) ?_
              | refine SL_add (by decide) (by rfl) (by rfl) (by omega) (by omega) ?_
              | (refine SL_lss (by decide) (by rfl) (by rfl) (fun hT => ?_) (fun hT => ?_) <;> first | (exfalso; omega) | skip)
              | refine SL_extract_s (by decide) (by rfl) (by rfl) ?_
              | refine SL_fieldAddr (by decide) (by rfl) (fldF (by rfl)) ?_
              | (refine SL_load_ob (by decide) (by rfl) (by repeat (first | exact .head _ | refine .tail _ ?_)) (rowF (by rfl)) (by first | assumption | rfl | exact tab_get _ _ (by omega) | exact ints_get _ (by omega) | exact strs_get _ (by omega)) (by rfl) (fun hT => ?_) (fun hT => ?_) <;> first | (exfalso; simp at hT; done) | skip)
              | refine SL_load_o (by decide) (by rfl) (by repeat (first | exact .head _ | refine .tail _ ?_)) (rowF (by rfl)) (by first | assumption | rfl | exact tab_get _ _ (by omega) | exact ints_get _ (by omega) | exact strs_get _ (by omega)) (by rfl) ?_
              | refine SL_store_n (by rfl) (by rfl) (by repeat (first | exact .head _ | refine .tail _ ?_)) (by first | assumption | rfl | exact tab_get _ _ (by omega) | exact ints_get _ (by omega) | exact strs_get _ (by omega)) (by rfl) (by first | rfl) (by repeat (first | exact .head | apply Upd.tail)) (by first | exact .inl (by assumption) | exact .inr (by simp)) (szF (by rfl)) (Nat.le_of_ble_eq_true (by rfl)) (by rfl) ?_
              | refine SL_build1 (by decide) (by rfl) (elF (by rfl)) (by rfl) (by rfl) (fun id hid => ?_)
              | refine SC_cond_t (by rfl) ?_
              | refine SC_cond_f (by rfl) ?_
              | fail)
            refine SL_nil fun tm3 σ3 hE3 hH3 => ?_
            dsimp only [InB]
            refine RPost.intro (Hn := [(l, _), (x12, _), (id2, _)]) hH3 List.mem_cons_self (.tail (.tail .head)) ⟨.tail _ (.tail _ (.head _)), .tail _ (.tail _ (.tail _ (.tail _ (.head _)))), .head _, trivial⟩ ?_ (fun p hp => ?_) ⟨rfl, _, rfl, _, _, _, met_ins (q := 0) hmet ho1 (by simp) ⟨Nat.le_refl _, fun q hq => (by cases hq), fun q hq => (by cases hq)⟩, by simp [ins], .own (n := 1) rfl (by decide), by rw [ent_w ho1]; rfl⟩
            · have hnn : ([id2, id, l, b14, x12] : List Nat).Nodup := hH3.nodup
              exact (List.perm_append_comm (l₁ := [id2]) (l₂ := [l, x12])).nodup (hnn.sublist (.cons_cons _ (.cons _ (.cons_cons _ (.cons _ (.cons_cons _ .slnil))))))
            · simp only [List.mem_cons, List.not_mem_nil, or_false] at hp
              rcases hp with rfl | rfl | rfl
              · exact .inl (by simp)
              · exact .inl (by simp)
              · exact .inr (hB38 (id2, _) (.head _))
          
          · skip
            repeat' (first
              | (refine SL_call (by decide) (by rfl) bd38 (by rfl) (by rfl) insn_fn ⟨.head _, trivial⟩ (by simp) ?_; rintro _ _ hB38 ⟨id2, rfl, rfl⟩; simp only [List.cons_append, List.nil_append])
              | (refine SL_call (by decide) (by rfl) bd37 (by rfl) (by rfl) hbin (.of_mem fun p hp => by first | (rw [List.mem_singleton] at hp; subst hp; repeat (first | exact .head _ | refine .tail _ ?_)) | cases hp) (by simp) ?_; first | (rintro _ _ _ ⟨rfl, rfl⟩; rw [List.nil_append]) | (rintro _ _ _ ⟨⟨p, hpos, rfl⟩, rfl⟩; rw [List.nil_append]))
              | refine SC_seq ?_
              | refine SC_block ?_
              | refine SC_region ?_
              | refine SL_seq ?_
              | (refine SL_nil (fun tm σ hE hH => ?_); refine SC.app ?_ hE hH; clear hE hH; clear tm σ)
              | refine SL_move (by decide) (by rfl) ?_
              | refine SL_assign (by decide) (by rfl) ?_
              | refine SL_not_op (by decide) (by rfl) ?_
              | refine SL_add (by decide) (by rfl) (by rfl) (by omega) (by omega) ?_
              | (refine SL_lss (by decide) (by rfl) (by rfl) (fun hT => ?_) (fun hT => ?_) <;> first | (exfalso; omega) | skip)
              | refine SL_extract_s (by decide) (by rfl) (by rfl) ?_
              | refine SL_fieldAddr (by decide) (by rfl) (fldF (by rfl)) ?_
              | (refine SL_load_ob (by decide) (by rfl) (by repeat (first | exact .head _ | refine .tail _ ?_)) (rowF (by rfl)) (by first | assumption | rfl | exact tab_get _ _ (by omega) | exact ints_get _ (by omega) | exact strs_get _ (by omega)) (by rfl) (fun hT => ?_) (fun hT => ?_) <;> first | (exfalso; simp at hT; done) | skip)
              | refine SL_load_o (by decide) (by rfl) (by repeat (first | exact .head _ | refine .tail _ ?_)) (rowF (by rfl)) (by first | assumption | rfl | exact tab_get _ _ (by omega) | exact ints_get _ (by omega) | exact strs_get _ (by omega)) (by rfl) ?_
              | refine SL_store_n (by rfl) (by rfl) (by repeat (first | exact .head _ | refine .tail _ ?_)) (by first | assumption | rfl | exact tab_get _ _ (by omega) | exact ints_get _ (by omega) | exact strs_get _ (by omega)) (by rfl) (by first | rfl) (by repeat (first | exact .head | apply Upd.tail)) (by first | exact .inl (by assumption) | exact .inr (by simp)) (szF (by rfl)) (Nat.le_of_ble_eq_true (by rfl)) (by rfl) ?_
              | refine SL_build1 (by decide) (by rfl) (elF (by rfl)) (by rfl) (by rfl) (fun id hid => ?_)
              | refine SC_cond_t (by rfl) ?_
              | refine SC_cond_f (by rfl) ?_
              | fail)
            refine SL_nil fun tm3 σ3 hE3 hH3 => ?_
            dsimp only [InB]
            refine RPost.intro (Hn := [(l, _), (x12, _), (id2, _)]) hH3 List.mem_cons_self (.tail (.tail .head)) ⟨.tail _ (.tail _ (.head _)), .tail _ (.tail _ (.tail _ (.tail _ (.head _)))), .head _, trivial⟩ ?_ (fun p hp => ?_) ⟨rfl, _, rfl, _, _, _, met_ins (q := 0) hmet ho1 (by simp) ⟨Nat.le_refl _, fun q hq => (by cases hq), fun q hq => (by cases hq)⟩, by simp [ins], .own (n := 1) rfl (by decide), by rw [ent_b ho1]; rfl⟩
            · have hnn : ([id2, id, l, b14, x12] : List Nat).Nodup := hH3.nodup
              exact (List.perm_append_comm (l₁ := [id2]) (l₂ := [l, x12])).nodup (hnn.sublist (.cons_cons _ (.cons _ (.cons_cons _ (.cons _ (.cons_cons _ .slnil))))))
            · simp only [List.mem_cons, List.not_mem_nil, or_false] at hp
              rcases hp with rfl | rfl | rfl
              · exact .inl (by simp)
              · exact .inl (by simp)
              · exact .inr (hB38 (id2, _) (.head _))
        | @own oo _ n hn0 h0 =>
          have hbin := bin_fn (G := glf) (fun _ _ _ h1 h2 => glf_off h1 h2) (MH.own hn0 h0 (o := oo)).slh hmet.1 (by omega) o
          refine Rd_body' (H := _) hE rfl (by decide) List.mem_cons_self fun B' => ?_
          repeat' (first
            | refine SC_region ?_
            | refine SL_store_box (by rfl) (by rfl) (by first | exact cells_3 _ _ _ | rfl) (by repeat (first | exact .head | apply Upd.tail)) (by first | exact .inl (by assumption) | exact .inr (by simp)) (by rfl) (szF (by rfl)) (by rfl) ?_
            | refine SL_alloc (by decide) (zeroF (by rfl)) (fun id hid => ?_)
            | fail)
          refine SL_nil fun tm1 σ1 hE1 hH1 => ⟨tm1, σ1, _, _, rfl, hE1, hH1.perm (List.Perm.swap _ _ _), ?_⟩
          clear hE1 hH1
          clear tm1 σ1
          revert id
          intro b14 hb14
          by_cases ho : o < 0
          · skip
            repeat' (first
              | refine SC_seq ?_
              | refine SC_block ?_
              | refine SC_region ?_
              | refine SL_seq ?_
              | refine SL_assign (by decide) (by rfl) ?_
              | (refine SL_lss (by decide) (by rfl) (by rfl) (fun hT => ?_) (fun hT => ?_) <;> first | (exfalso; omega) | skip)
              | refine SL_fieldAddr (by decide) (by rfl) (fldF (by rfl)) ?_
              | refine SL_load_o (by decide) (by rfl) (by repeat (first | exact .head _ | refine .tail _ ?_)) (rowF (by rfl)) (by first | assumption | rfl | exact tab_get _ _ (by omega) | exact ints_get _ (by omega) | exact strs_get _ (by omega)) (by rfl) ?_
              | refine SL_store_n (by rfl) (by rfl) (by repeat (first | exact .head _ | refine .tail _ ?_)) (by first | assumption | rfl | exact tab_get _ _ (by omega) | exact ints_get _ (by omega) | exact strs_get _ (by omega)) (by rfl) (by first | rfl) (by repeat (first | exact .head | apply Upd.tail)) (by first | exact .inl (by assumption) | exact .inr (by simp)) (szF (by rfl)) (Nat.le_of_ble_eq_true (by rfl)) (by rfl) ?_
              | refine SC_cond_t (by rfl) ?_
              | fail)
            refine SC_exit fun tm3 σ3 hE3 hH3 => ?_
            dsimp only [InB, Nxt]
            rw [if_neg (by decide), if_pos rfl]
            refine RPost.intro (Hn := [(l, _), (x12, _), (oo, _)]) hH3 List.mem_cons_self .head ⟨.head _, .tail _ (.tail _ (.head _)), .tail _ (.tail _ (.tail _ (.head _))), trivial⟩ (hH3.nodup.sublist (.cons_cons _ (.cons _ (.cons_cons _ (.cons_cons _ .slnil))))) (fun p hp => .inl (by simp only [List.mem_cons, List.not_mem_nil, or_false] at hp; rcases hp with rfl | rfl | rfl <;> simp)) ⟨rfl, _, rfl, _, _, _, met_bye hmet ho, by simp only [List.length_append, List.length_cons, List.length_nil]; omega, .own hn0 h0, by rw [ent_bye ho]; rfl⟩
          have ho1 : 0 ≤ o := by omega
          rcases Bool.eq_false_or_eq_true c with rfl | rfl
          · skip
            by_cases hin : o ∈ met
            · simp only [decide_eq_true hin] at hbin
              repeat' (first
                | (refine SL_call (by decide) (by rfl) bd37 (by rfl) (by rfl) hbin (.of_mem fun p hp => by first | (rw [List.mem_singleton] at hp; subst hp; repeat (first | exact .head _ | refine .tail _ ?_)) | cases hp) (by simp) ?_; first | (rintro _ _ _ ⟨rfl, rfl⟩; rw [List.nil_append]) | (rintro _ _ _ ⟨⟨p, hpos, rfl⟩, rfl⟩; rw [List.nil_append]))
                | refine SC_seq ?_
                | refine SC_block ?_
                | refine SC_region ?_
                | refine SL_seq ?_
                | (refine SL_nil (fun tm σ hE hH => ?_); refine SC.app ?_ hE hH; clear hE hH; clear tm σ)
                | refine SL_move (by decide) (by rfl) ?_
                | refine SL_assign (by decide) (by rfl) ?_
                | refine SL_not_op (by decide) (by rfl) ?_
                | refine SL_add (by decide) (by rfl) (by rfl) (by omega) (by omega) ?_
                | (refine SL_lss (by decide) (by rfl) (by rfl) (fun hT => ?_) (fun hT => ?_) <;> first | (exfalso; omega) | skip)
                | refine SL_extract_s (by decide) (by rfl) (by rfl) ?_
                | refine SL_fieldAddr (by decide) (by rfl) (fldF (by rfl)) ?_
                | (refine SL_load_ob (by decide) (by rfl) (by repeat (first | exact .head _ | refine .tail _ ?_)) (rowF (by rfl)) (by first | assumption | rfl | exact tab_get _ _ (by omega) | exact ints_get _ (by omega) | exact strs_get _ (by omega)) (by rfl) (fun hT => ?_) (fun hT => ?_) <;> first | (exfalso; simp at hT; done) | skip)
                | refine SL_load_o (by decide) (by rfl) (by repeat (first | exact .head _ | refine .tail _ ?_)) (rowF (by rfl)) (by first | assumption | rfl | exact tab_get _ _ (by omega) | exact ints_get _ (by omega) | exact strs_get _ (by omega)) (by rfl) ?_
                | refine SL_store_n (by rfl) (by rfl) (by repeat (first | exact .head _ | refine .tail _ ?_)) (by first | assumption | rfl | exact tab_get _ _ (by omega) | exact ints_get _ (by omega) | exact strs_get _ (by omega)) (by rfl) (by first | rfl) (by repeat (first | exact .head | apply Upd.tail)) (by first | exact .inl (by assumption) | exact .inr (by simp)) (szF (by rfl)) (Nat.le_of_ble_eq_true (by rfl)) (by rfl) ?_
                | refine SC_cond_t (by rfl) ?_
                | refine SC_cond_f (by rfl) ?_
                | fail)
              refine SC_skip' fun tm3 σ3 hE3 hH3 => ?_
              dsimp only [InB]
              refine RPost.intro (Hn := [(l, _), (x12, _), (oo, _)]) hH3 List.mem_cons_self .head ⟨.head _, .tail _ (.tail _ (.head _)), .tail _ (.tail _ (.tail _ (.head _))), trivial⟩ (hH3.nodup.sublist (.cons_cons _ (.cons _ (.cons_cons _ (.cons_cons _ .slnil))))) (fun p hp => .inl (by simp only [List.mem_cons, List.not_mem_nil, or_false] at hp; rcases hp with rfl | rfl | rfl <;> simp)) ⟨rfl, _, rfl, _, _, _, met_in hmet hin, by simp only [List.length_append, List.length_cons, List.length_nil]; omega, .own hn0 h0, by rw [ent_w ho1]; rfl⟩
            · simp only [decide_eq_false hin] at hbin
              repeat' (first
                | (refine SL_call (by decide) (by rfl) bd37 (by rfl) (by rfl) hbin (.of_mem fun p hp => by first | (rw [List.mem_singleton] at hp; subst hp; repeat (first | exact .head _ | refine .tail _ ?_)) | cases hp) (by simp) ?_; first | (rintro _ _ _ ⟨rfl, rfl⟩; rw [List.nil_append]) | (rintro _ _ _ ⟨⟨p, hpos, rfl⟩, rfl⟩; rw [List.nil_append]))
                | refine SC_seq ?_
                | refine SC_block ?_
                | refine SC_region ?_
                | refine SL_seq ?_
                | (refine SL_nil (fun tm σ hE hH => ?_); refine SC.app ?_ hE hH; clear hE hH; clear tm σ)
                | refine SL_move (by decide) (by rfl) ?_
                | refine SL_assign (by decide) (by rfl) ?_
                | refine SL_not_op (by decide) (by rfl) ?_
                | refine SL_add (by decide) (by rfl) (by rfl) (by omega) (by omega) ?_
                | (refine SL_lss (by decide) (by rfl) (by rfl) (fun hT => ?_) (fun hT => ?_) <;> first | (exfalso; omega) | skip)
                | refine SL_extract_s (by decide) (by rfl) (by rfl) ?_
                | refine SL_fieldAddr (by decide) (by rfl) (fldF (by rfl)) ?_
                | (refine SL_load_ob (by decide) (by rfl) (by repeat (first | exact .head _ | refine .tail _ ?_)) (rowF (by rfl)) (by first | assumption | rfl | exact tab_get _ _ (by omega) | exact ints_get _ (by omega) | exact strs_get _ (by omega)) (by rfl) (fun hT => ?_) (fun hT => ?_) <;> first | (exfalso; simp at hT; done) | skip)
                | refine SL_load_o (by decide) (by rfl) (by repeat (first | exact .head _ | refine .tail _ ?_)) (rowF (by rfl)) (by first | assumption | rfl | exact tab_get _ _ (by omega) | exact ints_get _ (by omega) | exact strs_get _ (by omega)) (by rfl) ?_
                | refine SL_store_n (by rfl) (by rfl) (by repeat (first | exact .head _ | refine .tail _ ?_)) (by first | assumption | rfl | exact tab_get _ _ (by omega) | exact ints_get _ (by omega) | exact strs_get _ (by omega)) (by rfl) (by first | rfl) (by repeat (first | exact .head | apply Upd.tail)) (by first | exact .inl (by assumption) | exact .inr (by simp)) (szF (by rfl)) (Nat.le_of_ble_eq_true (by rfl)) (by rfl) ?_
                | refine SL_build1 (by decide) (by rfl) (elF (by rfl)) (by rfl) (by rfl) (fun id hid => ?_)
                | refine SC_cond_t (by rfl) ?_
                | refine SC_cond_f (by rfl) ?_
                | fail)
              have hp1 := hpos.1
              refine SL_perm (List.perm_append_comm (l₁ := [_, _, _, _]) (l₂ := [_])) ?_
              simp only [List.cons_append, List.nil_append]
              refine SL_callW2 (H0 := [(oo, _), (id, _)]) (Hr := [(l, _), (b14, _), (x12, _)]) (Hx := []) (M := [oo]) (by decide) (by rfl) (blOf bd38) (by rfl) (by rfl) (by rw [List.append_nil]; exact ins_fn (x := o) hn0 (by omega) (by omega) h0) (fun p hp => by cases hp) List.nodup_nil (fun x hx => by rw [List.mem_singleton] at hx; subst hx; exact ⟨.inr (by simp), by simp⟩) ?_
              rintro v38 _ hB38 ⟨id2, rfl, rfl⟩
              simp only [List.cons_append, List.nil_append]
              repeat' (first
                | refine SL_fieldAddr (by decide) (by rfl) (fldF (by rfl)) ?_
                | refine SL_store_n (by rfl) (by rfl) (by repeat (first | exact .head _ | refine .tail _ ?_)) (by first | assumption | rfl | exact tab_get _ _ (by omega) | exact ints_get _ (by omega) | exact strs_get _ (by omega)) (by rfl) (by first | rfl) (by repeat (first | exact .head | apply Upd.tail)) (by first | exact .inl (by assumption) | exact .inr (by simp)) (szF (by rfl)) (Nat.le_of_ble_eq_true (by rfl)) (by rfl) ?_
                | fail)
              refine SL_nil fun tm3 σ3 hE3 hH3 => ?_
              dsimp only [InB]
              refine RPost.intro (Hn := [(l, _), (x12, _), (id2, _)]) hH3 List.mem_cons_self (.tail .head) ⟨.tail _ (.head _), .tail _ (.tail _ (.tail _ (.head _))), .head _, trivial⟩ ?_ (fun p hp => ?_) ⟨rfl, _, rfl, _, _, _, met_ins hmet ho1 hin hpos, ?_, .own (by rw [ins_len o hp1, hn0]) (Nat.succ_pos _), by rw [ent_w ho1]; rfl⟩
              · have hnn : ([id2, l, b14, x12] : List Nat).Nodup := hH3.nodup
                exact (List.perm_append_comm (l₁ := [id2]) (l₂ := [l, x12])).nodup (hnn.sublist (.cons_cons _ (.cons_cons _ (.cons _ (.cons_cons _ .slnil)))))
              · simp only [List.mem_cons, List.not_mem_nil, or_false] at hp
                rcases hp with rfl | rfl | rfl
                · exact .inl (by simp)
                · exact .inl (by simp)
                · exact (hB38 (id2, _) (.head _)).symm
              · rw [ins_len o hp1]; simp only [List.length_append, List.length_cons, List.length_nil]; omega
          
          · skip
            by_cases hin : o ∈ met
            · simp only [decide_eq_true hin] at hbin
              repeat' (first
                | (refine SL_call (by decide) (by rfl) bd37 (by rfl) (by rfl) hbin (.of_mem fun p hp => by first | (rw [List.mem_singleton] at hp; subst hp; repeat (first | exact .head _ | refine .tail _ ?_)) | cases hp) (by simp) ?_; first | (rintro _ _ _ ⟨rfl, rfl⟩; rw [List.nil_append]) | (rintro _ _ _ ⟨⟨p, hpos, rfl⟩, rfl⟩; rw [List.nil_append]))
                | refine SC_seq ?_
                | refine SC_block ?_
                | refine SC_region ?_
                | refine SL_seq ?_
                | (refine SL_nil (fun tm σ hE hH => ?_); refine SC.app ?_ hE hH; clear hE hH; clear tm σ)
                | refine SL_move (by decide) (by rfl) ?_
                | refine SL_assign (by decide) (by rfl) ?_
                | refine SL_not_op (by decide) (by rfl) ?_
                | refine SL_add (by decide) (by rfl) (by rfl) (by omega) (by omega) ?_
                | (refine SL_lss (by decide) (by rfl) (by rfl) (fun hT => ?_) (fun hT => ?_) <;> first | (exfalso; omega) | skip)
                | refine SL_extract_s (by decide) (by rfl) (by rfl) ?_
                | refine SL_fieldAddr (by decide) (by rfl) (fldF (by rfl)) ?_
                | (refine SL_load_ob (by decide) (by rfl) (by repeat (first | exact .head _ | refine .tail _ ?_)) (rowF (by rfl)) (by first | assumption | rfl | exact tab_get _ _ (by omega) | exact ints_get _ (by omega) | exact strs_get _ (by omega)) (by rfl) (fun hT => ?_) (fun hT => ?_) <;> first | (exfalso; simp at hT; done) | skip)
                | refine SL_load_o (by decide) (by rfl) (by repeat (first | exact .head _ | refine .tail _ ?_)) (rowF (by rfl)) (by first | assumption | rfl | exact tab_get _ _ (by omega) | exact ints_get _ (by omega) | exact strs_get _ (by omega)) (by rfl) ?_
                | refine SL_store_n (by rfl) (by rfl) (by repeat (first | exact .head _ | refine .tail _ ?_)) (by first | assumption | rfl | exact tab_get _ _ (by omega) | exact ints_get _ (by omega) | exact strs_get _ (by omega)) (by rfl) (by first | rfl) (by repeat (first | exact .head | apply Upd.tail)) (by first | exact .inl (by assumption) | exact .inr (by simp)) (szF (by rfl)) (Nat.le_of_ble_eq_true (by rfl)) (by rfl) ?_
                | refine SC_cond_f (by rfl) ?_
                | fail)
              refine SC_skip' fun tm3 σ3 hE3 hH3 => ?_
              dsimp only [InB]
              refine RPost.intro (Hn := [(l, _), (x12, _), (oo, _)]) hH3 List.mem_cons_self .head ⟨.head _, .tail _ (.tail _ (.head _)), .tail _ (.tail _ (.tail _ (.head _))), trivial⟩ (hH3.nodup.sublist (.cons_cons _ (.cons _ (.cons_cons _ (.cons_cons _ .slnil))))) (fun p hp => .inl (by simp only [List.mem_cons, List.not_mem_nil, or_false] at hp; rcases hp with rfl | rfl | rfl <;> simp)) ⟨rfl, _, rfl, _, _, _, met_in hmet hin, by simp only [List.length_append, List.length_cons, List.length_nil]; omega, .own hn0 h0, by rw [ent_b ho1]; rfl⟩
            · simp only [decide_eq_false hin] at hbin
              repeat' (first
                | (refine SL_call (by decide) (by rfl) bd37 (by rfl) (by rfl) hbin (.of_mem fun p hp => by first | (rw [List.mem_singleton] at hp; subst hp; repeat (first | exact .head _ | refine .tail _ ?_)) | cases hp) (by simp) ?_; first | (rintro _ _ _ ⟨rfl, rfl⟩; rw [List.nil_append]) | (rintro _ _ _ ⟨⟨p, hpos, rfl⟩, rfl⟩; rw [List.nil_append]))
                | refine SC_seq ?_
                | refine SC_block ?_
                | refine SC_region ?_
                | refine SL_seq ?_
                | (refine SL_nil (fun tm σ hE hH => ?_); refine SC.app ?_ hE hH; clear hE hH; clear tm σ)
                | refine SL_move (by decide) (by rfl) ?_
                | refine SL_assign (by decide) (by rfl) ?_
                | refine SL_not_op (by decide) (by rfl) ?_
                | refine SL_add (by decide) (by rfl) (by rfl) (by omega) (by omega) ?_
                | (refine SL_lss (by decide) (by rfl) (by rfl) (fun hT => ?_) (fun hT => ?_) <;> first | (exfalso; omega) | skip)
                | refine SL_extract_s (by decide) (by rfl) (by rfl) ?_
                | refine SL_fieldAddr (by decide) (by rfl) (fldF (by rfl)) ?_
                | (refine SL_load_ob (by decide) (by rfl) (by repeat (first | exact .head _ | refine .tail _ ?_)) (rowF (by rfl)) (by first | assumption | rfl | exact tab_get _ _ (by omega) | exact ints_get _ (by omega) | exact strs_get _ (by omega)) (by rfl) (fun hT => ?_) (fun hT => ?_) <;> first | (exfalso; simp at hT; done) | skip)
                | refine SL_load_o (by decide) (by rfl) (by repeat (first | exact .head _ | refine .tail _ ?_)) (rowF (by rfl)) (by first | assumption | rfl | exact tab_get _ _ (by omega) | exact ints_get _ (by omega) | exact strs_get _ (by omega)) (by rfl) ?_
                | refine SL_store_n (by rfl) (by rfl) (by repeat (first | exact .head _ | refine .tail _ ?_)) (by first | assumption | rfl | exact tab_get _ _ (by omega) | exact ints_get _ (by omega) | exact strs_get _ (by omega)) (by rfl) (by first | rfl) (by repeat (first | exact .head | apply Upd.tail)) (by first | exact .inl (by assumption) | exact .inr (by simp)) (szF (by rfl)) (Nat.le_of_ble_eq_true (by rfl)) (by rfl) ?_
                | refine SL_build1 (by decide) (by rfl) (elF (by rfl)) (by rfl) (by rfl) (fun id hid => ?_)
                | refine SC_cond_t (by rfl) ?_
                | refine SC_cond_f (by rfl) ?_
                | fail)
              have hp1 := hpos.1
              refine SL_perm (List.perm_append_comm (l₁ := [_, _, _, _]) (l₂ := [_])) ?_
              simp only [List.cons_append, List.nil_append]
              refine SL_callW2 (H0 := [(oo, _), (id, _)]) (Hr := [(l, _), (b14, _), (x12, _)]) (Hx := []) (M := [oo]) (by decide) (by rfl) (blOf bd38) (by rfl) (by rfl) (by rw [List.append_nil]; exact ins_fn (x := o) hn0 (by omega) (by omega) h0) (fun p hp => by cases hp) List.nodup_nil (fun x hx => by rw [List.mem_singleton] at hx; subst hx; exact ⟨.inr (by simp), by simp⟩) ?_
              rintro v38 _ hB38 ⟨id2, rfl, rfl⟩
              simp only [List.cons_append, List.nil_append]
              repeat' (first
                | refine SL_fieldAddr (by decide) (by rfl) (fldF (by rfl)) ?_
                | refine SL_store_n (by rfl) (by rfl) (by repeat (first | exact .head _ | refine .tail _ ?_)) (by first | assumption | rfl | exact tab_get _ _ (by omega) | exact ints_get _ (by omega) | exact strs_get _ (by omega)) (by rfl) (by first | rfl) (by repeat (first | exact .head | apply Upd.tail)) (by first | exact .inl (by assumption) | exact .inr (by simp)) (szF (by rfl)) (Nat.le_of_ble_eq_true (by rfl)) (by rfl) ?_
                | fail)
              refine SL_nil fun tm3 σ3 hE3 hH3 => ?_
              dsimp only [InB]
              refine RPost.intro (Hn := [(l, _), (x12, _), (id2, _)]) hH3 List.mem_cons_self (.tail .head) ⟨.tail _ (.head _), .tail _ (.tail _ (.tail _ (.head _))), .head _, trivial⟩ ?_ (fun p hp => ?_) ⟨rfl, _, rfl, _, _, _, met_ins hmet ho1 hin hpos, ?_, .own (by rw [ins_len o hp1, hn0]) (Nat.succ_pos _), by rw [ent_b ho1]; rfl⟩
              · have hnn : ([id2, l, b14, x12] : List Nat).Nodup := hH3.nodup
                exact (List.perm_append_comm (l₁ := [id2]) (l₂ := [l, x12])).nodup (hnn.sublist (.cons_cons _ (.cons_cons _ (.cons _ (.cons_cons _ .slnil)))))
              · simp only [List.mem_cons, List.not_mem_nil, or_false] at hp
                rcases hp with rfl | rfl | rfl
                · exact .inl (by simp)
                · exact .inl (by simp)
                · exact (hB38 (id2, _) (.head _)).symm
              · rw [ins_len o hp1]; simp only [List.length_append, List.length_cons, List.length_nil]; omega
      · rintro d H' tm' σ' hpl ⟨met, m, Hm, hmet, hml, hmh, rfl⟩ hE' hH'
        have hmc := hmh.cell
        have hul2 := evU_len hf (k : Int) rs.length (Nat.le_refl _)
        have hml1 : met.length ≤ 1000 := by omega
        have hmB : ∀ p ∈ Hm, B.next ≤ p.1 := fun p hp => (hpl p (List.mem_cons_of_mem _ hp)).elim id (fun h => by cases h)
        refine SC.app ?_ hE' (hH'.perm List.perm_middle)
        clear hE' hH'
        clear tm' σ'
        cases hO with
        | nil =>
          dsimp only [List.cons_append, List.nil_append]
          repeat' (first
            | refine SL_append1_nil (by decide) (by rfl) (by rfl) (.head _) (elF (by rfl)) (sliceOf_spec (slF (by rfl))).1 (en_cell hmc) (by decide) (fun id hid => ?_)
            | refine SL_buildSlice (by decide) (by rfl) (elF (by rfl)) (by decide) (set1 (cells_mk _) (by rfl)) (fun id hid => ?_)
            | refine SL_load_or (by decide) (by rfl) (by repeat (first | exact .head _ | refine .tail _ ?_)) (rowF (by rfl)) (by rfl) (Nat.le_of_ble_eq_true (by rfl)) (en_take _ _) ?_
            | refine SC_region ?_
            | (refine SL_nil (fun tm σ hE hH => ?_); refine SC.app ?_ hE hH; clear hE hH; clear tm σ)
            | refine SL_move (by decide) (by rfl) ?_
            | refine SL_assign (by decide) (by rfl) ?_
            | refine SL_add (by decide) (by rfl) (by rfl) (by omega) (by omega) ?_
            | fail)
          refine SL_nil fun tm σ hE hH => ⟨(k + 1, [] ++ [(entOf names[k] ratings[k] (sumT rs k) (evU rs k rs.length) met)], .sl id 0 1 none, (id, .cells 54 8 false (List.zipWith enRow [(entOf names[k] ratings[k] (sumT rs k) (evU rs k rs.length) met)] [m])) :: Hm, d :: ds), by show names.length - (k + 1) < names.length - k; omega, ⟨by show k + 1 ≤ names.length; omega, hF.next hlt hlt2 hmet hml1, .own (ms := [m]) rfl (by decide) rfl (mets_snoc (l := []) (ms := []) (Hm := []) rfl (fun i h => by cases h) hmh.mem), fun p hp => ?_, ?_⟩, tm, σ, rfl, hE.sub ⟨rfl, rfl, rfl, rfl, rfl, rfl, rfl, rfl, trivial⟩, hH.sub (.of_mem fun p hp => ?_) ?_⟩
          · rcases List.mem_cons.1 hp with rfl | hp
            · exact hid
            · exact hmB p hp
          · have hnn := hH.nodup
            exact (List.Perm.swap sc id _).nodup (hnn.sublist (.cons_cons _ (.cons _ (.cons _ (.cons_cons _ (.refl _))))))
          · rcases List.mem_cons.1 hp with rfl | hp
            · exact .tail _ (.tail _ (.tail _ (.head _)))
            · rcases List.mem_cons.1 hp with rfl | hp
              · exact .head _
              · exact .tail _ (.tail _ (.tail _ (.tail _ hp)))
          · have hnn := hH.nodup
            exact (List.Perm.swap sc id _).nodup (hnn.sublist (.cons_cons _ (.cons _ (.cons _ (.cons_cons _ (.refl _))))))
        | @own _ o n ms Hm0 hn1 h01 hlm hmm =>
          have hoB := hBd (o, _) (.head _)
          have hfl := hF.1
          have hol : n = (List.zipWith enRow fl ms).length := by rw [List.length_zipWith, hlm, Nat.min_self, hn1]
          dsimp only [List.cons_append]
          repeat' (first
            | refine SL_append1_own (by decide) (by rfl) (by rfl) (by repeat (first | exact .head | apply Upd.tail)) hol (.inl hoB) (.head _) (elF (by rfl)) (sliceOf_spec (slF (by rfl))).1 (en_cell hmc) (by omega) (by omega) (fun id hid => ?_)
            | refine SL_buildSlice (by decide) (by rfl) (elF (by rfl)) (by decide) (set1 (cells_mk _) (by rfl)) (fun id hid => ?_)
            | refine SL_load_or (by decide) (by rfl) (by repeat (first | exact .head _ | refine .tail _ ?_)) (rowF (by rfl)) (by rfl) (Nat.le_of_ble_eq_true (by rfl)) (en_take _ _) ?_
            | refine SC_region ?_
            | (refine SL_nil (fun tm σ hE hH => ?_); refine SC.app ?_ hE hH; clear hE hH; clear tm σ)
            | refine SL_move (by decide) (by rfl) ?_
            | refine SL_assign (by decide) (by rfl) ?_
            | refine SL_add (by decide) (by rfl) (by rfl) (by omega) (by omega) ?_
            | fail)
          refine SL_nil fun tm σ hE hH => ⟨(k + 1, fl ++ [(entOf names[k] ratings[k] (sumT rs k) (evU rs k rs.length) met)], .sl id 0 (n + 1) none, (id, .cells 54 8 false (List.zipWith enRow (fl ++ [(entOf names[k] ratings[k] (sumT rs k) (evU rs k rs.length) met)]) (ms ++ [m]))) :: (Hm0 ++ Hm), d :: ds), by show names.length - (k + 1) < names.length - k; omega, ⟨by show k + 1 ≤ names.length; omega, hF.next hlt hlt2 hmet hml1, .own (by rw [List.length_append, hn1]; rfl) (Nat.succ_pos _) (by rw [List.length_append, List.length_append, hlm]; rfl) (mets_snoc hlm hmm hmh.mem), fun p hp => ?_, ?_⟩, tm, σ, rfl, hE.sub ⟨rfl, rfl, rfl, rfl, rfl, rfl, rfl, rfl, trivial⟩, hH.sub (.of_mem fun p hp => ?_) ?_⟩
          · rcases List.mem_cons.1 hp with rfl | hp
            · exact hid
            · exact (List.mem_append.1 hp).elim (fun h => hBd p (List.mem_cons_of_mem _ h)) (hmB p)
          · have hnn := hH.nodup
            exact (List.Perm.swap sc id _).nodup (hnn.sublist (.cons_cons _ (.cons _ (.cons _ (.cons_cons _ (.cons _ (.refl _)))))))
          · rcases List.mem_cons.1 hp with rfl | hp
            · exact .tail _ (.tail _ (.tail _ (.head _)))
            · rcases List.mem_cons.1 hp with rfl | hp
              · rw [zip_snoc hlm]; exact .head _
              · exact .tail _ (.tail _ (.tail _ (.tail _ (.tail _ hp))))
          · have hnn := hH.nodup
            exact (List.Perm.swap sc id _).nodup (hnn.sublist (.cons_cons _ (.cons _ (.cons _ (.cons_cons _ (.cons _ (.refl _)))))))
    · obtain rfl : k = names.length := by omega
      have hF1 := hF.1
      obtain ⟨hEn, o, p0, n0, c0, rfl⟩ := hO.ents (by omega)
      have hbd := hF.bounds (Nat.le_refl _) (by omega) hnl hnb
      have hndd : (Hd.map (·.1)).Nodup := (List.nodup_cons.1 hnd).2
      cases hv : validE fl with
      | true =>
        have hval := val_fn (H := Hd) (l := fl) ⟨o, p0, n0, c0, rfl⟩ fun σ hg => ⟨hEn.own hg, hbd⟩
        rw [hv] at hval
        repeat' (first
          | (refine SL_call (by decide) (by rfl) bd24 (by rfl) (by rfl) hval (.of_mem fun p hp => List.mem_cons_of_mem _ hp) hndd ?_; rintro _ _ _ ⟨rfl, rfl⟩; rw [List.nil_append])
          | refine SC_seq ?_
          | refine SC_region ?_
          | refine SL_seq ?_
          | refine SL_move (by decide) (by rfl) ?_
          | refine SL_assign (by decide) (by rfl) ?_
          | refine SL_not_op (by decide) (by rfl) ?_
          | (refine SL_lss (by decide) (by rfl) (by rfl) (fun hT => ?_) (fun hT => ?_) <;> first | (exfalso; omega) | skip)
          | refine SC_cond_f (by rfl) ?_
          | (refine SC_exit (fun tm σ hE hH => ?_); refine SC.app ?_ hE hH; clear hE hH; clear tm σ)
          | (refine SC_skip' (fun tm σ hE hH => ?_); refine SC.app ?_ hE hH; clear hE hH; clear tm σ)
          | fail)
        exact SC_ret (fun tm σ hE hH => Post.intro (Hn := Hd) (.inr rfl) hE hH (by rfl) (.of_mem fun p hp => List.mem_cons_of_mem _ hp) hndd hBd (.inr ⟨hV, fl, hF, .inl ⟨hv, _, rfl, hEn⟩⟩))
      | false =>
        have hval := val_fn (H := Hd) (l := fl) ⟨o, p0, n0, c0, rfl⟩ fun σ hg => ⟨hEn.own hg, hbd⟩
        rw [hv] at hval
        repeat' (first
          | (refine SL_call (by decide) (by rfl) bd24 (by rfl) (by rfl) hval (.of_mem fun p hp => List.mem_cons_of_mem _ hp) hndd ?_; rintro _ _ _ ⟨rfl, rfl⟩; rw [List.nil_append])
          | refine SC_seq ?_
          | refine SC_region ?_
          | refine SL_seq ?_
          | refine SL_move (by decide) (by rfl) ?_
          | refine SL_assign (by decide) (by rfl) ?_
          | refine SL_not_op (by decide) (by rfl) ?_
          | (refine SL_lss (by decide) (by rfl) (by rfl) (fun hT => ?_) (fun hT => ?_) <;> first | (exfalso; omega) | skip)
          | refine SC_cond_t (by rfl) ?_
          | refine SC_cond_f (by rfl) ?_
          | (refine SC_exit (fun tm σ hE hH => ?_); refine SC.app ?_ hE hH; clear hE hH; clear tm σ)
          | fail)
        exact SC_ret (fun tm σ hE hH => Post.intro (Hn := []) (.inr rfl) hE hH (by rfl) trivial List.nodup_nil (fun p hp => by cases hp) (.inr ⟨hV, fl, hF, .inr ⟨hv, rfl, rfl⟩⟩))
  · skip
    repeat' (first
      | (refine SL_callb (by decide) (by rfl) bd11 (by rfl) (by rfl) (valid_fn h _ (glf_off (by decide) (by decide))) (fun hB => ?_) (fun hB => ?_))
      | refine SL_len_v (by decide) (by rfl) hr (by rfl) (slF (by rfl)) (ints_len _) ?_
      | refine SL_len_v (by decide) (by rfl) hn (by rfl) (slF (by rfl)) (strs_len _) ?_
      | refine SC_seq ?_
      | refine SC_region ?_
      | refine SL_seq ?_
      | refine SL_run (by rfl) (by rfl) ?_
      | refine SL_not (by rfl) (by rfl) (by rfl) (by decide) ?_
      | refine SL_move (by decide) (by rfl) ?_
      | refine SL_assign (by decide) (by rfl) ?_
      | refine SL_pick_t (by decide) (by rfl) (by rfl) ?_
      | refine SL_pick_f (by decide) (by rfl) (by rfl) ?_
      | refine SL_not_op (by decide) (by rfl) ?_
      | (refine SL_neq (by decide) (by rfl) (by rfl) (fun hT => ?_) (fun hT => ?_) <;> first | (exfalso; omega) | skip)
      | refine SC_cond_t (by rfl) ?_
      | refine SC_cond_f (by rfl) ?_
      | (refine SC_skip' (fun tm σ hE hH => ?_); refine SC.app ?_ hE hH; clear hE hH; clear tm σ)
      | fail)
    · exact SC_ret (fun tm σ hE hH => bad hV hE hH (by rfl))
    · exact absurd (⟨by omega, validB_of (by assumption)⟩) hV
    · exact SC_ret (fun tm σ hE hH => bad hV hE hH (by rfl))
end Go.Proofs.Ytldckcopeiginaa
/- The law's met; lists that are the same. -/
namespace Go.Proofs.Ytldckcopeiginaa
open Go Go.Ab
attribute [local irreducible] SC SL wpc wpl wpd wpf wpy wpn FnC FnW RdW SD
set_option maxRecDepth 100000
set_option maxHeartbeats 4000000
def MetE (es : List Ev) (b : Int) : Prop := ∃ e ∈ es, 0 ≤ e.o ∧ e.o = b
theorem metE_nil {b : Int} : ¬ MetE [] b := fun ⟨_, h, _⟩ => by cases h
theorem metE_app {es fs : List Ev} {b : Int} : MetE (es ++ fs) b ↔ MetE es b ∨ MetE fs b := by
  unfold MetE
  constructor
  · rintro ⟨e, he, h⟩
    rcases List.mem_append.1 he with he | he
    · exact .inl ⟨e, he, h⟩
    · exact .inr ⟨e, he, h⟩
  · rintro (⟨e, he, h⟩ | ⟨e, he, h⟩)
    · exact ⟨e, List.mem_append_left _ he, h⟩
    · exact ⟨e, List.mem_append_right _ he, h⟩
theorem metE_1 {k : Nat} {a b : Int} {g : Sc} : MetE (ev1 k a g) b ↔ 0 ≤ (pts g a).2 ∧ (pts g a).2 = b := by
  unfold MetE
  by_cases h1 : g.w = a
  · rw [ev1_w h1, pts_w h1]; simp
  · by_cases h2 : g.b = a
    · rw [ev1_b h1 h2, pts_b h1 h2]; simp
    · rw [ev1_n h1 h2, pts_n h1 h2]; simp
noncomputable def metB (rs : List (List Sc)) (a b : Int) : Bool := @decide (MetE (evU rs a rs.length) b) (Classical.propDecidable _)
theorem metB_t {rs : List (List Sc)} {a b : Int} (h : MetE (evU rs a rs.length) b) : metB rs a b = true := by unfold metB; exact @decide_eq_true _ (Classical.propDecidable _) h
theorem metB_f {rs : List (List Sc)} {a b : Int} (h : ¬ MetE (evU rs a rs.length) b) : metB rs a b = false := by unfold metB; exact @decide_eq_false _ (Classical.propDecidable _) h
theorem metB_iff {rs : List (List Sc)} {a b : Int} : metB rs a b = true ↔ MetE (evU rs a rs.length) b := by
  constructor
  · intro h
    apply Classical.byContradiction
    intro hn
    rw [metB_f hn] at h
    cases h
  · exact metB_t
theorem met_fn {rs : List (List Sc)} {ra : AV} {xs : List AV} (h : RV rs ra xs) (hf : ∀ gs ∈ rs, gs.length ≤ 12) (hrs : rs.length ≤ 10) (hg : ∀ gs ∈ rs, ∀ g ∈ gs, 0 ≤ g.p ∧ g.p ≤ 2) (a b : Int) :
    FnC Try.prog glf 23 [ra, .s (.int .i64 a), .s (.int .i64 b)] [] (fun v Hn => v = .s (.bool (metB rs a b)) ∧ Hn = []) := by
  have hsl := h.sl
  have hlen := h.len
  have hbig := h.big
  refine Fn_body (N := 45) (glf_off (by decide) (by decide)) Try.func23 rfl rfl fun B => ?_
  have done : ∀ {tm : Tm} {σ : AS} {L : List (Nat × AV)} {H : List (Nat × AObj)} {q : Bool}, metB rs a b = q → En tm 45 L → He B [] σ H [] → resL L Try.f23.results.toList = some [.s (.bool q)] → Post Try.prog B Try.f23 (fun v Hn => v = .s (.bool (metB rs a b)) ∧ Hn = []) .ret ⟨tm, [], σ⟩ := fun hq hE hH hres =>
    Post.intro (Hn := []) (.inr rfl) hE hH hres trivial List.nodup_nil (fun p hp => (by cases hp)) ⟨by rw [hq]; rfl, rfl⟩
  repeat' (first
    | refine SC_seq ?_
    | refine SC_block ?_
    | refine SC_region ?_
    | refine SL_seq ?_
    | refine SL_assign (by decide) (by rfl) ?_
    | fail)
  refine SC_loop (fun k : Nat => [(0, ra), (1, .s (.int .i64 a)), (2, .s (.int .i64 b)), (7, .s (.int .i64 k))]) (fun _ => []) (fun _ => []) (fun k => k ≤ rs.length ∧ ¬ MetE (evU rs a k) b) (fun k => rs.length - k) 0 ⟨by omega, metE_nil⟩ ⟨rfl, rfl, rfl, rfl, trivial⟩ trivial List.nodup_nil rfl ?_
  rintro k ⟨hk, hno⟩
  by_cases hlt : k < rs.length
  · obtain ⟨x, hx, hgx⟩ := h.row hlt
    unfold GV at hgx
    have hgs := hf rs[k] (List.getElem_mem hlt)
    repeat' (first
      | refine SC_seq ?_
      | refine SC_block ?_
      | refine SC_region ?_
      | refine SL_seq ?_
      | refine SL_move (by decide) (by rfl) ?_
      | refine SL_assign (by decide) (by rfl) ?_
      | (refine SL_lss (by decide) (by rfl) (by rfl) (fun hT => ?_) (fun hT => ?_) <;> first | (exfalso; omega) | skip)
      | refine SL_len_v (by decide) (by rfl) (by assumption) (by rfl) (slF (by rfl)) (by simp only [List.length_map]; first | rfl | assumption) ?_
      | refine SC_cond_t (by rfl) ?_
      | (refine SC_skip' (fun tm σ hE hH => ?_); refine SC.app ?_ hE hH; clear hE hH; clear tm σ)
      | fail)
    refine SC_loop (fun j : Nat => [(0, ra), (1, .s (.int .i64 a)), (2, .s (.int .i64 b)), (7, .s (.int .i64 k)), (8, .s (.int .i64 j))]) (fun _ => []) (fun _ => []) (fun j => j ≤ rs[k].length ∧ ¬ MetE (evU rs a k ++ evR k a (rs[k].take j)) b) (fun j => rs[k].length - j) 0 ⟨by omega, by rw [show evR k a (rs[k].take 0) = [] from rfl, List.append_nil]; exact hno⟩ ⟨rfl, rfl, rfl, rfl, rfl, trivial⟩ trivial List.nodup_nil rfl ?_
    rintro j ⟨hj, hnj⟩
    by_cases hjlt : j < rs[k].length
    · have hrow : (rs[k].map cells3)[j]? = some (cells3 rs[k][j]) := by rw [List.getElem?_map, List.getElem?_eq_getElem hjlt]; rfl
      have hgj := hg rs[k] (List.getElem_mem hlt) rs[k][j] (List.getElem_mem hjlt)
      have hpre := ev_pre hlt hjlt a
      have hnx := evR_next hjlt k a
      have yes : 0 ≤ (pts rs[k][j] a).2 → (pts rs[k][j] a).2 = b → metB rs a b = true := fun h1 h2 => metB_t (by
        obtain ⟨e, he, h3⟩ := metE_1.2 ⟨h1, h2⟩
        exact ⟨e, hpre.subset (List.mem_append_right _ he), h3⟩)
      have next : ¬ (0 ≤ (pts rs[k][j] a).2 ∧ (pts rs[k][j] a).2 = b) → ¬ MetE (evU rs a k ++ evR k a (rs[k].take (j + 1))) b := fun h1 h2 => by
        rw [hnx, ← List.append_assoc, metE_app] at h2
        rcases h2 with h2 | h2
        · exact hnj h2
        · exact h1 (metE_1.1 h2)
      repeat' (first
        | (refine SL_call (by decide) (by rfl) bd22 (by rfl) (by rfl) (points_fn rs[k][j] a hgj.1 hgj.2 (glf_off (by decide) (by decide))) trivial List.nodup_nil ?_; rintro _ _ _ ⟨rfl, rfl⟩; rw [List.nil_append])
        | refine SC_seq ?_
        | refine SC_block ?_
        | refine SC_region ?_
        | refine SL_seq ?_
        | refine SL_run (by rfl) (by rfl) ?_
        | refine SL_not (by rfl) (by rfl) (by rfl) (by decide) ?_
        | refine SL_move (by decide) (by rfl) ?_
        | refine SL_assign (by decide) (by rfl) ?_
        | refine SL_pick_t (by decide) (by rfl) (by rfl) ?_
        | refine SL_pick_f (by decide) (by rfl) (by rfl) ?_
        | refine SL_add (by decide) (by rfl) (by rfl) (by omega) (by omega) ?_
        | (refine SL_lss (by decide) (by rfl) (by rfl) (fun hT => ?_) (fun hT => ?_) <;> first | (exfalso; omega) | skip)
        | (refine SL_geq (by decide) (by rfl) (by rfl) (fun hT => ?_) (fun hT => ?_) <;> first | (exfalso; omega) | skip)
        | (refine SL_eql (by decide) (by rfl) (by rfl) (fun hT => ?_) (fun hT => ?_) <;> first | (exfalso; omega) | skip)
        | refine SL_extract_s (by decide) (by rfl) (by rfl) ?_
        | refine SL_len_v (by decide) (by rfl) (by assumption) (by rfl) (slF (by rfl)) (by simp only [List.length_map]; first | rfl | assumption) ?_
        | refine SL_indexAddr_v (by decide) (by rfl) (by rfl) (by assumption) (slF (by rfl)) _ (by first | rfl | exact (Int.toNat_of_nonneg (by omega)).symm) (by simp only [List.length_map]; omega) (fun ad => ?_)
        | refine SL_load_r (by decide) (by rfl) (rowF (by rfl)) (by first | assumption | rfl | exact ints_get _ (by omega)) (by rfl) ?_
        | refine SL_load_rr (by decide) (by rfl) (rowF (by rfl)) (by first | assumption | rfl | exact ints_get _ (by omega)) (Nat.le_of_ble_eq_true (by rfl)) (by first | exact mk3 _ | rfl) ?_
        | refine SC_cond_t (by rfl) ?_
        | refine SC_cond_f (by rfl) ?_
        | (refine SC_skip' (fun tm σ hE hH => ?_); refine SC.app ?_ hE hH; clear hE hH; clear tm σ)
        | fail)
      all_goals first
        | exact SC_ret (fun tm σ hE hH => done (yes (by assumption) (by assumption)) hE hH (by rfl))
        | exact SL_nil fun tm σ hE hH => ⟨j + 1, by omega, ⟨by omega, next (by omega)⟩, tm, σ, rfl, hE.sub ⟨rfl, rfl, rfl, rfl, rfl, trivial⟩, hH⟩
    · obtain rfl : j = rs[k].length := by omega
      rw [List.take_length, ← evU_next hlt] at hnj
      repeat' (first
        | refine SC_seq ?_
        | refine SC_region ?_
        | refine SL_seq ?_
        | refine SL_move (by decide) (by rfl) ?_
        | refine SL_assign (by decide) (by rfl) ?_
        | refine SL_add (by decide) (by rfl) (by rfl) (by omega) (by omega) ?_
        | (refine SL_lss (by decide) (by rfl) (by rfl) (fun hT => ?_) (fun hT => ?_) <;> first | (exfalso; omega) | skip)
        | refine SL_len_v (by decide) (by rfl) (by assumption) (by rfl) (slF (by rfl)) (by simp only [List.length_map]; first | rfl | assumption) ?_
        | refine SL_indexAddr_v (by decide) (by rfl) (by rfl) (by assumption) (slF (by rfl)) _ (by first | rfl | exact (Int.toNat_of_nonneg (by omega)).symm) (by simp only [List.length_map]; omega) (fun ad => ?_)
        | refine SL_load_r (by decide) (by rfl) (rowF (by rfl)) (by first | assumption | rfl | exact ints_get _ (by omega)) (by rfl) ?_
        | refine SC_cond_f (by rfl) ?_
        | (refine SC_exit (fun tm σ hE hH => ?_); refine SC.app ?_ hE hH; clear hE hH; clear tm σ)
        | fail)
      exact SL_nil fun tm σ hE hH => ⟨k + 1, by omega, ⟨by omega, hnj⟩, tm, σ, rfl, hE.sub ⟨rfl, rfl, rfl, rfl, trivial⟩, hH⟩
  · obtain rfl : k = rs.length := by omega
    repeat' (first
      | refine SC_seq ?_
      | refine SC_region ?_
      | refine SL_seq ?_
      | refine SL_move (by decide) (by rfl) ?_
      | refine SL_assign (by decide) (by rfl) ?_
      | (refine SL_lss (by decide) (by rfl) (by rfl) (fun hT => ?_) (fun hT => ?_) <;> first | (exfalso; omega) | skip)
      | refine SL_len_v (by decide) (by rfl) (by assumption) (by rfl) (slF (by rfl)) (by simp only [List.length_map]; first | rfl | assumption) ?_
      | refine SC_cond_f (by rfl) ?_
      | (refine SC_exit (fun tm σ hE hH => ?_); refine SC.app ?_ hE hH; clear hE hH; clear tm σ)
      | fail)
    exact SC_ret (fun tm σ hE hH => done (metB_f hno) hE hH (by rfl))
theorem same2_fn {l : List Int} {a b : AV} {H0 : List (Nat × AObj)} (ha : SlH H0 1 a (ints l)) (hb : SlH H0 1 b (ints l)) (hl : l.length ≤ 1000) :
    FnC Try.prog glf 13 [a, b] H0 (fun v Hn => v = .s (.bool true) ∧ Hn = []) := by
  refine Fn_body (N := 26) (glf_off (by decide) (by decide)) Try.func13 rfl rfl fun B => ?_
  refine SC_nd fun hnd => ?_
  repeat' (first
    | refine SL_len_h (by decide) (by rfl) ha (by rfl) (slF (by rfl)) (ints_len _) ?_
    | refine SL_len_h (by decide) (by rfl) hb (by rfl) (slF (by rfl)) (ints_len _) ?_
    | refine SC_seq ?_
    | refine SC_block ?_
    | refine SC_region ?_
    | refine SL_seq ?_
    | refine SL_move (by decide) (by rfl) ?_
    | refine SL_assign (by decide) (by rfl) ?_
    | (refine SL_neq (by decide) (by rfl) (by rfl) (fun hT => ?_) (fun hT => ?_) <;> first | (exfalso; omega) | skip)
    | refine SC_cond_f (by rfl) ?_
    | (refine SC_skip' (fun tm σ hE hH => ?_); refine SC.app ?_ hE hH; clear hE hH; clear tm σ)
    | fail)
  refine SC_loop (fun i : Nat => [(0, a), (1, b), (5, .s (.int .i64 i))]) (fun _ => H0) (fun _ => []) (fun i => i ≤ l.length) (fun i => l.length - i) 0 (by omega) ⟨rfl, rfl, rfl, trivial⟩ (.refl _) hnd rfl ?_
  intro i hi
  by_cases hlt : i < l.length
  · skip
    repeat' (first
      | refine SL_load_h (by decide) (by rfl) (by assumption) (fun p hp => hp) (rowF (by rfl)) (ints_get _ (by omega)) (by rfl) ?_
      | (refine SL_indexAddr_h (by decide) (by rfl) (by rfl) ha (fun p hp => hp) (slF (by rfl)) i (by rfl) (by rw [ints_len]; omega) (fun pa hpa => ?_))
      | (refine SL_indexAddr_h (by decide) (by rfl) (by rfl) hb (fun p hp => hp) (slF (by rfl)) i (by rfl) (by rw [ints_len]; omega) (fun pb hpb => ?_))
      | refine SL_len_h (by decide) (by rfl) ha (by rfl) (slF (by rfl)) (ints_len _) ?_
      | refine SC_seq ?_
      | refine SC_block ?_
      | refine SC_region ?_
      | refine SL_seq ?_
      | refine SL_move (by decide) (by rfl) ?_
      | refine SL_assign (by decide) (by rfl) ?_
      | refine SL_add (by decide) (by rfl) (by rfl) (by omega) (by omega) ?_
      | (refine SL_lss (by decide) (by rfl) (by rfl) (fun hT => ?_) (fun hT => ?_) <;> first | (exfalso; omega) | skip)
      | (refine SL_neq (by decide) (by rfl) (by rfl) (fun hT => ?_) (fun hT => ?_) <;> first | (exfalso; omega) | skip)
      | refine SC_draw (by kernel_rfl) ?_
      | refine SC_cond_t (by rfl) ?_
      | refine SC_cond_f (by rfl) ?_
      | (refine SC_skip' (fun tm σ hE hH => ?_); refine SC.app ?_ hE hH; clear hE hH; clear tm σ)
      | fail)
    exact SL_nil fun tm σ hE hH => ⟨i + 1, by omega, by omega, tm, σ, rfl, hE.sub ⟨rfl, rfl, rfl, trivial⟩, hH⟩
  · obtain rfl : i = l.length := by omega
    repeat' (first
      | refine SL_len_h (by decide) (by rfl) ha (by rfl) (slF (by rfl)) (ints_len _) ?_
      | refine SC_seq ?_
      | refine SC_region ?_
      | refine SL_seq ?_
      | refine SL_move (by decide) (by rfl) ?_
      | refine SL_assign (by decide) (by rfl) ?_
      | (refine SL_lss (by decide) (by rfl) (by rfl) (fun hT => ?_) (fun hT => ?_) <;> first | (exfalso; omega) | skip)
      | refine SC_cond_f (by rfl) ?_
      | (refine SC_exit (fun tm σ hE hH => ?_); refine SC.app ?_ hE hH; clear hE hH; clear tm σ)
      | fail)
    exact SC_ret (fun tm σ hE hH => Post.intro (Hn := []) (.inr rfl) hE hH (by rfl) trivial List.nodup_nil (fun p hp => (by cases hp)) ⟨by rfl, rfl⟩)
end Go.Proofs.Ytldckcopeiginaa
/- TiebreakFields: the law's own field, walked. -/
namespace Go.Proofs.Ytldckcopeiginaa
open Go Go.Ab
attribute [local irreducible] SC SL wpc wpl wpd wpf wpy wpn FnC FnW RdW SD
set_option maxRecDepth 100000
set_option maxHeartbeats 4000000
noncomputable def lawMet (rs : List (List Sc)) (i : Int) (n : Nat) : List Int := ((List.range n).filter fun (q : Nat) => metB rs i q).map fun (q : Nat) => (q : Int)
theorem lawMet_t {rs : List (List Sc)} {i : Int} {n : Nat} (h : metB rs i n = true) : lawMet rs i (n + 1) = lawMet rs i n ++ [(n : Int)] := by
  unfold lawMet; rw [List.range_succ]; simp [List.filter_append, h]
theorem lawMet_f {rs : List (List Sc)} {i : Int} {n : Nat} (h : metB rs i n = false) : lawMet rs i (n + 1) = lawMet rs i n := by
  unfold lawMet; rw [List.range_succ]; simp [List.filter_append, h]
theorem lawMet_len (rs : List (List Sc)) (i : Int) (n : Nat) : (lawMet rs i n).length ≤ n := by
  unfold lawMet
  rw [List.length_map]
  have := List.length_filter_le (fun (q : Nat) => metB rs i q) (List.range n)
  rwa [List.length_range] at this
theorem lawMet_of {rs : List (List Sc)} {i : Int} {n : Nat} (h : ∀ e ∈ evU rs i rs.length, e.o < n) : MetOf (lawMet rs i n) (evU rs i rs.length) := by
  refine ⟨?_, fun x => ?_⟩
  · unfold lawMet
    rw [List.pairwise_map]
    exact (List.pairwise_lt_range.filter _).imp fun h => by omega
  · unfold lawMet
    rw [List.mem_map]
    constructor
    · rintro ⟨q, hq, rfl⟩
      exact metB_iff.1 (List.mem_filter.1 hq).2
    · rintro ⟨e, he, h1, rfl⟩
      have := h e he
      refine ⟨e.o.toNat, List.mem_filter.2 ⟨List.mem_range.2 (by omega), ?_⟩, by omega⟩
      exact metB_iff.2 ⟨e, he, h1, by omega⟩
theorem ev1_o {k : Nat} {n : Nat} {i : Int} {g : Sc} (h : GOk n g) : ∀ e ∈ ev1 k i g, e.o < n := by
  obtain ⟨h1, h2, h3, h4, _⟩ := h
  unfold ev1
  split
  · intro e he; rw [List.mem_singleton] at he; subst he; exact h4
  · split
    · intro e he; rw [List.mem_singleton] at he; subst he; exact h2
    · intro e he; cases he
theorem evU_o {n : Nat} {rs : List (List Sc)} (h : VOk n rs) (i : Int) : ∀ k, k ≤ rs.length → ∀ e ∈ evU rs i k, e.o < n
  | 0, _, e, he => by cases he
  | k + 1, hk, e, he => by
    rw [evU_next hk, List.mem_append] at he
    rcases he with he | he
    · exact evU_o h i k (by omega) e he
    · obtain ⟨g, hg, he⟩ := List.mem_flatMap.1 he
      exact ev1_o ((h.2.2.2 _ (List.getElem_mem hk)).1 g hg) e he
def fst7 : Code → Code
  | .seq a _ => a
  | c => c
def snd7 : Code → Code
  | .seq _ b => b
  | c => c
noncomputable def code7 (n : Nat) : Code := Nat.rec ((Try.f7.body).getD .skip) (fun _ c => snd7 c) n
def blk7 : Code → Code
  | .block _ b => b
  | c => c
noncomputable def loop7 : Code := blk7 (snd7 (fst7 (code7 7)))
theorem want_sc {names : List ByteArray} {ratings : List Int} {rs : List (List Sc)} {na ra rv : AV} {xs : List AV} (hn : SlV 1 na (strs names)) (hr : SlV 1 ra (ints ratings)) (h : RV rs rv xs) (hf : ∀ gs ∈ rs, gs.length ≤ 12) (hrs : rs.length ≤ 10)
    (hnl : names.length ≤ 14) (hrl : ratings.length ≤ 14) (hV : names.length = ratings.length ∧ VOk names.length rs) {B : AS} {lv ev : AV} {sc : Nat} {Hl : List (Nat × AObj)} {Q : AEx → Cfg → Prop} (hnd0 : (sc :: Hl.map (·.1)).Nodup)
    (K : ∀ wl wa Hd, FieldOf names ratings rs wl names.length → OutI wl wa Hd → (∀ p ∈ Hd, B.next ≤ p.1) → ((Hd ++ Hl).map (·.1)).Nodup → ∀ tm σ, En tm 274 [(0, na), (1, ra), (2, rv), (8, lv), (9, ev), (11, wa)] → He B [] σ (Hd ++ Hl) [] → Q .normal ⟨tm, [], σ⟩) :
    SC Try.prog glf B [] none loop7 [(0, na), (1, ra), (2, rv), (8, lv), (9, ev), (10, .sl sc 0 names.length none), (11, .s (.slice none 0 0)), (12, .s (.int .i64 0))] 274 [] ((sc, .cells 3 1 true (tab names.length (fun x => sumT rs x))) :: Hl) (InB 2 Q) := by
  have hsl := h.sl
  have hlen := h.len
  have hbig := h.big
  have hl := hV.1
  obtain ⟨hv1, hv2, hv3, hv4⟩ := hV.2
  have hg : ∀ gs ∈ rs, ∀ g ∈ gs, 0 ≤ g.p ∧ g.p ≤ 2 := fun gs hgs g hgg => ((hv4 gs hgs).1 g hgg).2.2.2.2
  refine SC_loop (fun z : Nat × List Ent × AV × List (Nat × AObj) => [(0, na), (1, ra), (2, rv), (8, lv), (9, ev), (10, .sl sc 0 names.length none), (11, z.2.2.1), (12, .s (.int .i64 z.1))]) (fun z => (sc, .cells 3 1 true (tab names.length (fun x => sumT rs x))) :: (z.2.2.2 ++ Hl)) (fun _ => [])
    (fun z => z.1 ≤ names.length ∧ FieldOf names ratings rs z.2.1 z.1 ∧ OutI z.2.1 z.2.2.1 z.2.2.2 ∧ (∀ p ∈ z.2.2.2, B.next ≤ p.1) ∧ (sc :: (z.2.2.2 ++ Hl).map (·.1)).Nodup) (fun z => names.length - z.1) (0, [], .s (.slice none 0 0), [])
    ⟨by simp, ⟨rfl, fun i hi => (by cases hi)⟩, .nil, fun p hp => (by cases hp), hnd0⟩ ⟨rfl, rfl, rfl, rfl, rfl, rfl, rfl, rfl, trivial⟩ (.refl _) hnd0 rfl ?_
  rintro ⟨i, fl, oa, Hd⟩ ⟨hi, hF, hO, hBd, hnd⟩
  dsimp only at hi hF hO hBd hnd ⊢
  by_cases hilt : i < names.length
  · have hilt2 : i < ratings.length := by omega
    repeat' (first
      | (refine SC_drawI (by kernel_rfl) (by kernel_rfl) (fun B2 base hBB => ?_))
      | refine SL_indexAddr_v (by decide) (by rfl) (by rfl) hr (slF (by rfl)) i (by rfl) (by rw [ints_len]; omega) (fun ad => ?_)
      | refine SL_indexAddr_v (by decide) (by rfl) (by rfl) hn (slF (by rfl)) i (by rfl) (by rw [strs_len]; omega) (fun ad => ?_)
      | refine SL_len_v (by decide) (by rfl) hn (by rfl) (slF (by rfl)) (strs_len _) ?_
      | refine SL_build (by decide) (by rfl) (build54 _ _ _) ?_
      | refine SC_seq ?_
      | refine SC_block ?_
      | refine SC_region ?_
      | refine SL_seq ?_
      | refine SL_move (by decide) (by rfl) ?_
      | refine SL_assign (by decide) (by rfl) ?_
      | (refine SL_lss (by decide) (by rfl) (by rfl) (fun hT => ?_) (fun hT => ?_) <;> first | (exfalso; omega) | skip)
      | refine SL_indexAddr_0 (by decide) (by rfl) (by rfl) (by repeat (first | exact .head _ | refine .tail _ ?_)) (slF (by rfl)) _ (by first | rfl | exact (Int.toNat_of_nonneg (by omega)).symm) (by omega) ?_
      | refine SL_load_r (by decide) (by rfl) (rowF (by rfl)) (by first | assumption | rfl | exact tab_get _ _ (by omega) | exact ints_get _ (by omega) | exact strs_get _ (by omega)) (by rfl) ?_
      | refine SL_load_o (by decide) (by rfl) (by repeat (first | exact .head _ | refine .tail _ ?_)) (rowF (by rfl)) (by first | assumption | rfl | exact tab_get _ _ (by omega) | exact ints_get _ (by omega) | exact strs_get _ (by omega)) (by rfl) ?_
      | refine SL_store_box (by rfl) (by rfl) (by first | exact cells_3 _ _ _ | rfl) (by repeat (first | exact .head | apply Upd.tail)) (by first | exact .inl (by assumption) | exact .inr (by simp)) (by rfl) (szF (by rfl)) (by rfl) ?_
      | refine SC_cond_t (by rfl) ?_
      | (refine SC_skip' (fun tm σ hE hH => ?_); refine SC.app ?_ hE hH; clear hE hH; clear tm σ)
      | refine SI_alloc (by decide) (zeroF (by rfl)) (fun id hid => ?_)
      | refine SI_op (by rfl) ?_
      | (refine SI_nil (fun tm σ hE hH => ?_); refine SC.app ?_ hE hH; clear hE hH; clear tm σ)
      | (refine SL_nil (fun tm σ hE hH => ⟨tm, σ, _, _, rfl, hE, hH, ?_⟩); clear hE hH; clear tm σ)
      | fail)
    revert id
    intro x13 hx13
    refine SC_nd fun hnd1 => ?_
    refine SC_loop (fun k : Nat => [(0, na), (1, ra), (2, rv), (8, lv), (9, ev), (10, .sl sc 0 names.length none), (11, oa), (12, .s (.int .i64 i)), (13, .ptr x13 0 0), (14, .s (.int .i64 k))]) (fun k => (x13, .cells 54 8 true [enRow (entOf names[i] ratings[i] (sumT rs i) (evU rs i k) []) (.s (.slice none 0 0))]) :: (sc, .cells 3 1 true (tab names.length (fun x => sumT rs x))) :: (Hd ++ Hl)) (fun _ => []) (fun k => k ≤ rs.length) (fun k => rs.length - k) 0 (by omega) ⟨rfl, rfl, rfl, rfl, rfl, rfl, rfl, rfl, rfl, rfl, trivial⟩ (.refl _) hnd1 rfl ?_
    intro k hk
    by_cases hklt : k < rs.length
    · obtain ⟨x, hx, hgx⟩ := h.row hklt
      unfold GV at hgx
      have hgs := hf rs[k] (List.getElem_mem hklt)
      repeat' (first
        | refine SC_seq ?_
        | refine SC_block ?_
        | refine SC_region ?_
        | refine SL_seq ?_
        | refine SL_move (by decide) (by rfl) ?_
        | refine SL_assign (by decide) (by rfl) ?_
        | (refine SL_lss (by decide) (by rfl) (by rfl) (fun hT => ?_) (fun hT => ?_) <;> first | (exfalso; omega) | skip)
        | refine SL_len_v (by decide) (by rfl) (by assumption) (by rfl) (slF (by rfl)) (by simp only [List.length_map]; first | rfl | assumption) ?_
        | refine SC_cond_t (by rfl) ?_
        | (refine SC_skip' (fun tm σ hE hH => ?_); refine SC.app ?_ hE hH; clear hE hH; clear tm σ)
        | fail)
      refine SC_loop (fun j : Nat => [(0, na), (1, ra), (2, rv), (8, lv), (9, ev), (10, .sl sc 0 names.length none), (11, oa), (12, .s (.int .i64 i)), (13, .ptr x13 0 0), (14, .s (.int .i64 k)), (15, .s (.int .i64 j))]) (fun j => (x13, .cells 54 8 true [enRow (entOf names[i] ratings[i] (sumT rs i) (evU rs i k ++ evR k i (rs[k].take j)) []) (.s (.slice none 0 0))]) :: (sc, .cells 3 1 true (tab names.length (fun x => sumT rs x))) :: (Hd ++ Hl)) (fun _ => []) (fun j => j ≤ rs[k].length) (fun j => rs[k].length - j) 0 (by omega) ⟨rfl, rfl, rfl, rfl, rfl, rfl, rfl, rfl, rfl, rfl, rfl, trivial⟩ (by rw [show evR k i (rs[k].take 0) = [] from rfl, List.append_nil]; exact .refl _) hnd1 rfl ?_
      intro j hj
      by_cases hjlt : j < rs[k].length
      · have hrow : (rs[k].map cells3)[j]? = some (cells3 rs[k][j]) := by rw [List.getElem?_map, List.getElem?_eq_getElem hjlt]; rfl
        have hgj := (hv4 rs[k] (List.getElem_mem hklt)).1 rs[k][j] (List.getElem_mem hjlt)
        obtain ⟨g1, g2, g3, g4, g5, g6⟩ := hgj
        have hnx := evR_next hjlt k (i : Int)
        have hpre := (ev_pre hklt hjlt (i : Int)).length_le
        have hul := evU_len hf (i : Int) rs.length (Nat.le_refl _)
        obtain ⟨es, hes⟩ : ∃ es, es = evU rs i k ++ evR k i (rs[k].take j) := ⟨_, rfl⟩
        rw [← hes] at hpre ⊢
        rw [List.length_append] at hpre
        have hwb : 0 ≤ (entOf names[i] ratings[i] (sumT rs i) es []).whites ∧ (entOf names[i] ratings[i] (sumT rs i) es []).whites ≤ es.length := wN_bd es
        have hbb : 0 ≤ (entOf names[i] ratings[i] (sumT rs i) es []).blacks ∧ (entOf names[i] ratings[i] (sumT rs i) es []).blacks ≤ es.length := bN_bd es
        have h22 := points_fn (G := glf) rs[k][j] i g5 g6 (glf_off (by decide) (by decide))
        have next : ∀ {tm : Tm} {σ : AS} {L : List (Nat × AV)} {r : List AV}, r = enRow (entOf names[i] ratings[i] (sumT rs i) (es ++ ev1 k i rs[k][j]) []) (.s (.slice none 0 0)) → En tm 274 L → Sub [(0, na), (1, ra), (2, rv), (8, lv), (9, ev), (10, .sl sc 0 names.length none), (11, oa), (12, .s (.int .i64 i)), (13, .ptr x13 0 0), (14, .s (.int .i64 k)), (15, .s (.int .i64 (j + 1 : Nat)))] L → He B [] σ ((x13, .cells 54 8 true [r]) :: (sc, .cells 3 1 true (tab names.length (fun x => sumT rs x))) :: (Hd ++ Hl)) [] →
            ∃ a', rs[k].length - a' < rs[k].length - j ∧ a' ≤ rs[k].length ∧ St B [] ⟨tm, [], σ⟩ [(0, na), (1, ra), (2, rv), (8, lv), (9, ev), (10, .sl sc 0 names.length none), (11, oa), (12, .s (.int .i64 i)), (13, .ptr x13 0 0), (14, .s (.int .i64 k)), (15, .s (.int .i64 a'))] 274 [] ((x13, .cells 54 8 true [enRow (entOf names[i] ratings[i] (sumT rs i) (evU rs i k ++ evR k i (rs[k].take a')) []) (.s (.slice none 0 0))]) :: (sc, .cells 3 1 true (tab names.length (fun x => sumT rs x))) :: (Hd ++ Hl)) := fun hr hE hS hH => by
          subst hr
          refine ⟨j + 1, by omega, by omega, _, _, rfl, hE.sub hS, ?_⟩
          rw [hnx, ← List.append_assoc, ← hes]
          exact hH
        by_cases hw : rs[k][j].w = i
        · rw [pts_w hw] at h22
          rw [ev1_w hw] at next
          by_cases hb : rs[k][j].b < 0
          · have hb1 : rs[k][j].b = -1 := by omega
            rw [ent_bye hb] at next
            repeat' (first
              | (refine SL_call (by decide) (by rfl) bd22 (by rfl) (by rfl) h22 trivial List.nodup_nil ?_; rintro _ _ _ ⟨rfl, rfl⟩; rw [List.nil_append])
              | refine SC_seq ?_
              | refine SC_block ?_
              | refine SC_region ?_
              | refine SL_seq ?_
              | refine SL_not (by rfl) (by rfl) (by rfl) (by decide) ?_
              | refine SL_move (by decide) (by rfl) ?_
              | refine SL_assign (by decide) (by rfl) ?_
              | refine SL_pick_f (by decide) (by rfl) (by rfl) ?_
              | refine SL_add (by decide) (by rfl) (by rfl) (by omega) (by omega) ?_
              | (refine SL_lss (by decide) (by rfl) (by rfl) (fun hT => ?_) (fun hT => ?_) <;> first | (exfalso; omega) | skip)
              | (refine SL_geq (by decide) (by rfl) (by rfl) (fun hT => ?_) (fun hT => ?_) <;> first | (exfalso; omega) | skip)
              | (refine SL_eql (by decide) (by rfl) (by rfl) (fun hT => ?_) (fun hT => ?_) <;> first | (exfalso; omega) | skip)
              | refine SL_extract_s (by decide) (by rfl) (by rfl) ?_
              | refine SL_fieldAddr (by decide) (by rfl) (fldF (by rfl)) ?_
              | refine SL_len_v (by decide) (by rfl) (by assumption) (by rfl) (slF (by rfl)) (by simp only [List.length_map]; first | rfl | assumption) ?_
              | refine SL_indexAddr_v (by decide) (by rfl) (by rfl) (by assumption) (slF (by rfl)) _ (by first | rfl | exact (Int.toNat_of_nonneg (by omega)).symm) (by simp only [List.length_map]; omega) (fun ad => ?_)
              | refine SL_load_r (by decide) (by rfl) (rowF (by rfl)) (by first | assumption | rfl | exact tab_get _ _ (by omega) | exact ints_get _ (by omega) | exact strs_get _ (by omega)) (by rfl) ?_
              | refine SL_load_rr (by decide) (by rfl) (rowF (by rfl)) (by first | assumption | rfl | exact tab_get _ _ (by omega) | exact ints_get _ (by omega) | exact strs_get _ (by omega)) (Nat.le_of_ble_eq_true (by rfl)) (by first | exact mk3 _ | rfl) ?_
              | refine SL_store_n (by rfl) (by rfl) (by repeat (first | exact .head _ | refine .tail _ ?_)) (by first | assumption | rfl | exact tab_get _ _ (by omega) | exact ints_get _ (by omega) | exact strs_get _ (by omega)) (by rfl) (by first | rfl) (by repeat (first | exact .head | apply Upd.tail)) (by first | exact .inl (by assumption) | exact .inr (by simp)) (szF (by rfl)) (Nat.le_of_ble_eq_true (by rfl)) (by rfl) ?_
              | refine SC_cond_t (by rfl) ?_
              | refine SC_cond_f (by rfl) ?_
              | (refine SC_skip' (fun tm σ hE hH => ?_); refine SC.app ?_ hE hH; clear hE hH; clear tm σ)
              | fail)
            exact SL_nil fun tm σ hE hH => next rfl hE ⟨rfl, rfl, rfl, rfl, rfl, rfl, rfl, rfl, rfl, rfl, rfl, trivial⟩ hH
          · rw [ent_w (by omega)] at next
            repeat' (first
              | (refine SL_call (by decide) (by rfl) bd22 (by rfl) (by rfl) h22 trivial List.nodup_nil ?_; rintro _ _ _ ⟨rfl, rfl⟩; rw [List.nil_append])
              | refine SC_seq ?_
              | refine SC_block ?_
              | refine SC_region ?_
              | refine SL_seq ?_
              | (refine SL_nil (fun tm σ hE hH => ?_); refine SC.app ?_ hE hH; clear hE hH; clear tm σ)
              | refine SL_run (by rfl) (by rfl) ?_
              | refine SL_move (by decide) (by rfl) ?_
              | refine SL_assign (by decide) (by rfl) ?_
              | refine SL_pick_t (by decide) (by rfl) (by rfl) ?_
              | refine SL_add (by decide) (by rfl) (by rfl) (by omega) (by omega) ?_
              | (refine SL_lss (by decide) (by rfl) (by rfl) (fun hT => ?_) (fun hT => ?_) <;> first | (exfalso; omega) | skip)
              | (refine SL_geq (by decide) (by rfl) (by rfl) (fun hT => ?_) (fun hT => ?_) <;> first | (exfalso; omega) | skip)
              | (refine SL_eql (by decide) (by rfl) (by rfl) (fun hT => ?_) (fun hT => ?_) <;> first | (exfalso; omega) | skip)
              | refine SL_extract_s (by decide) (by rfl) (by rfl) ?_
              | refine SL_fieldAddr (by decide) (by rfl) (fldF (by rfl)) ?_
              | refine SL_fieldAddr_r (by decide) (by rfl) (fldF (by rfl)) ?_
              | refine SL_len_v (by decide) (by rfl) (by assumption) (by rfl) (slF (by rfl)) (by simp only [List.length_map]; first | rfl | assumption) ?_
              | refine SL_indexAddr_v (by decide) (by rfl) (by rfl) (by assumption) (slF (by rfl)) _ (by first | rfl | exact (Int.toNat_of_nonneg (by omega)).symm) (by simp only [List.length_map]; omega) (fun ad => ?_)
              | refine SL_load_r (by decide) (by rfl) (rowF (by rfl)) (by first | assumption | rfl | exact tab_get _ _ (by omega) | exact ints_get _ (by omega) | exact strs_get _ (by omega)) (by rfl) ?_
              | refine SL_load_rr (by decide) (by rfl) (rowF (by rfl)) (by first | assumption | rfl | exact tab_get _ _ (by omega) | exact ints_get _ (by omega) | exact strs_get _ (by omega)) (Nat.le_of_ble_eq_true (by rfl)) (by first | exact mk3 _ | rfl) ?_
              | refine SL_load_o (by decide) (by rfl) (by repeat (first | exact .head _ | refine .tail _ ?_)) (rowF (by rfl)) (by first | assumption | rfl | exact tab_get _ _ (by omega) | exact ints_get _ (by omega) | exact strs_get _ (by omega)) (by rfl) ?_
              | refine SL_store_n (by rfl) (by rfl) (by repeat (first | exact .head _ | refine .tail _ ?_)) (by first | assumption | rfl | exact tab_get _ _ (by omega) | exact ints_get _ (by omega) | exact strs_get _ (by omega)) (by rfl) (by first | rfl) (by repeat (first | exact .head | apply Upd.tail)) (by first | exact .inl (by assumption) | exact .inr (by simp)) (szF (by rfl)) (Nat.le_of_ble_eq_true (by rfl)) (by rfl) ?_
              | refine SC_cond_t (by rfl) ?_
              | refine SC_cond_f (by rfl) ?_
              | (refine SC_skip' (fun tm σ hE hH => ?_); refine SC.app ?_ hE hH; clear hE hH; clear tm σ)
              | fail)
            exact SL_nil fun tm σ hE hH => next rfl hE ⟨rfl, rfl, rfl, rfl, rfl, rfl, rfl, rfl, rfl, rfl, rfl, trivial⟩ hH
        · by_cases hb : rs[k][j].b = i
          · rw [pts_b hw hb] at h22
            rw [ev1_b hw hb, ent_b g1] at next
            repeat' (first
              | (refine SL_call (by decide) (by rfl) bd22 (by rfl) (by rfl) h22 trivial List.nodup_nil ?_; rintro _ _ _ ⟨rfl, rfl⟩; rw [List.nil_append])
              | refine SC_seq ?_
              | refine SC_block ?_
              | refine SC_region ?_
              | refine SL_seq ?_
              | (refine SL_nil (fun tm σ hE hH => ?_); refine SC.app ?_ hE hH; clear hE hH; clear tm σ)
              | refine SL_run (by rfl) (by rfl) ?_
              | refine SL_move (by decide) (by rfl) ?_
              | refine SL_assign (by decide) (by rfl) ?_
              | refine SL_pick_t (by decide) (by rfl) (by rfl) ?_
              | refine SL_add (by decide) (by rfl) (by rfl) (by omega) (by omega) ?_
              | (refine SL_lss (by decide) (by rfl) (by rfl) (fun hT => ?_) (fun hT => ?_) <;> first | (exfalso; omega) | skip)
              | (refine SL_geq (by decide) (by rfl) (by rfl) (fun hT => ?_) (fun hT => ?_) <;> first | (exfalso; omega) | skip)
              | (refine SL_eql (by decide) (by rfl) (by rfl) (fun hT => ?_) (fun hT => ?_) <;> first | (exfalso; omega) | skip)
              | refine SL_extract_s (by decide) (by rfl) (by rfl) ?_
              | refine SL_fieldAddr (by decide) (by rfl) (fldF (by rfl)) ?_
              | refine SL_fieldAddr_r (by decide) (by rfl) (fldF (by rfl)) ?_
              | refine SL_len_v (by decide) (by rfl) (by assumption) (by rfl) (slF (by rfl)) (by simp only [List.length_map]; first | rfl | assumption) ?_
              | refine SL_indexAddr_v (by decide) (by rfl) (by rfl) (by assumption) (slF (by rfl)) _ (by first | rfl | exact (Int.toNat_of_nonneg (by omega)).symm) (by simp only [List.length_map]; omega) (fun ad => ?_)
              | refine SL_load_r (by decide) (by rfl) (rowF (by rfl)) (by first | assumption | rfl | exact tab_get _ _ (by omega) | exact ints_get _ (by omega) | exact strs_get _ (by omega)) (by rfl) ?_
              | refine SL_load_rr (by decide) (by rfl) (rowF (by rfl)) (by first | assumption | rfl | exact tab_get _ _ (by omega) | exact ints_get _ (by omega) | exact strs_get _ (by omega)) (Nat.le_of_ble_eq_true (by rfl)) (by first | exact mk3 _ | rfl) ?_
              | refine SL_load_o (by decide) (by rfl) (by repeat (first | exact .head _ | refine .tail _ ?_)) (rowF (by rfl)) (by first | assumption | rfl | exact tab_get _ _ (by omega) | exact ints_get _ (by omega) | exact strs_get _ (by omega)) (by rfl) ?_
              | refine SL_store_n (by rfl) (by rfl) (by repeat (first | exact .head _ | refine .tail _ ?_)) (by first | assumption | rfl | exact tab_get _ _ (by omega) | exact ints_get _ (by omega) | exact strs_get _ (by omega)) (by rfl) (by first | rfl) (by repeat (first | exact .head | apply Upd.tail)) (by first | exact .inl (by assumption) | exact .inr (by simp)) (szF (by rfl)) (Nat.le_of_ble_eq_true (by rfl)) (by rfl) ?_
              | refine SC_cond_t (by rfl) ?_
              | refine SC_cond_f (by rfl) ?_
              | (refine SC_skip' (fun tm σ hE hH => ?_); refine SC.app ?_ hE hH; clear hE hH; clear tm σ)
              | fail)
            exact SL_nil fun tm σ hE hH => next rfl hE ⟨rfl, rfl, rfl, rfl, rfl, rfl, rfl, rfl, rfl, rfl, rfl, trivial⟩ hH
          · rw [pts_n hw hb] at h22
            rw [ev1_n hw hb, List.append_nil] at next
            repeat' (first
              | (refine SL_call (by decide) (by rfl) bd22 (by rfl) (by rfl) h22 trivial List.nodup_nil ?_; rintro _ _ _ ⟨rfl, rfl⟩; rw [List.nil_append])
              | refine SC_seq ?_
              | refine SC_block ?_
              | refine SC_region ?_
              | refine SL_seq ?_
              | refine SL_not (by rfl) (by rfl) (by rfl) (by decide) ?_
              | refine SL_move (by decide) (by rfl) ?_
              | refine SL_assign (by decide) (by rfl) ?_
              | refine SL_pick_f (by decide) (by rfl) (by rfl) ?_
              | refine SL_add (by decide) (by rfl) (by rfl) (by omega) (by omega) ?_
              | (refine SL_lss (by decide) (by rfl) (by rfl) (fun hT => ?_) (fun hT => ?_) <;> first | (exfalso; omega) | skip)
              | (refine SL_geq (by decide) (by rfl) (by rfl) (fun hT => ?_) (fun hT => ?_) <;> first | (exfalso; omega) | skip)
              | (refine SL_eql (by decide) (by rfl) (by rfl) (fun hT => ?_) (fun hT => ?_) <;> first | (exfalso; omega) | skip)
              | refine SL_extract_s (by decide) (by rfl) (by rfl) ?_
              | refine SL_len_v (by decide) (by rfl) (by assumption) (by rfl) (slF (by rfl)) (by simp only [List.length_map]; first | rfl | assumption) ?_
              | refine SL_indexAddr_v (by decide) (by rfl) (by rfl) (by assumption) (slF (by rfl)) _ (by first | rfl | exact (Int.toNat_of_nonneg (by omega)).symm) (by simp only [List.length_map]; omega) (fun ad => ?_)
              | refine SL_load_r (by decide) (by rfl) (rowF (by rfl)) (by first | assumption | rfl | exact tab_get _ _ (by omega) | exact ints_get _ (by omega) | exact strs_get _ (by omega)) (by rfl) ?_
              | refine SL_load_rr (by decide) (by rfl) (rowF (by rfl)) (by first | assumption | rfl | exact tab_get _ _ (by omega) | exact ints_get _ (by omega) | exact strs_get _ (by omega)) (Nat.le_of_ble_eq_true (by rfl)) (by first | exact mk3 _ | rfl) ?_
              | refine SC_cond_t (by rfl) ?_
              | refine SC_cond_f (by rfl) ?_
              | (refine SC_skip' (fun tm σ hE hH => ?_); refine SC.app ?_ hE hH; clear hE hH; clear tm σ)
              | fail)
            exact SL_nil fun tm σ hE hH => next rfl hE ⟨rfl, rfl, rfl, rfl, rfl, rfl, rfl, rfl, rfl, rfl, rfl, trivial⟩ hH
      · obtain rfl : j = rs[k].length := by omega
        rw [List.take_length, ← evU_next hklt]
        repeat' (first
          | refine SC_seq ?_
          | refine SC_region ?_
          | refine SL_seq ?_
          | refine SL_move (by decide) (by rfl) ?_
          | refine SL_assign (by decide) (by rfl) ?_
          | refine SL_add (by decide) (by rfl) (by rfl) (by omega) (by omega) ?_
          | (refine SL_lss (by decide) (by rfl) (by rfl) (fun hT => ?_) (fun hT => ?_) <;> first | (exfalso; omega) | skip)
          | refine SL_len_v (by decide) (by rfl) (by assumption) (by rfl) (slF (by rfl)) (by simp only [List.length_map]; first | rfl | assumption) ?_
          | refine SL_indexAddr_v (by decide) (by rfl) (by rfl) (by assumption) (slF (by rfl)) _ (by first | rfl | exact (Int.toNat_of_nonneg (by omega)).symm) (by simp only [List.length_map]; omega) (fun ad => ?_)
          | refine SL_load_r (by decide) (by rfl) (rowF (by rfl)) (by first | assumption | rfl | exact tab_get _ _ (by omega) | exact ints_get _ (by omega) | exact strs_get _ (by omega)) (by rfl) ?_
          | refine SC_cond_f (by rfl) ?_
          | (refine SC_exit (fun tm σ hE hH => ?_); refine SC.app ?_ hE hH; clear hE hH; clear tm σ)
          | fail)
        exact SL_nil fun tm σ hE hH => ⟨k + 1, by omega, by omega, tm, σ, rfl, hE.sub ⟨rfl, rfl, rfl, rfl, rfl, rfl, rfl, rfl, rfl, rfl, trivial⟩, hH⟩
    · obtain rfl : k = rs.length := by omega
      repeat' (first
        | refine SC_seq ?_
        | refine SC_block ?_
        | refine SC_region ?_
        | refine SL_seq ?_
        | refine SL_move (by decide) (by rfl) ?_
        | refine SL_assign (by decide) (by rfl) ?_
        | (refine SL_lss (by decide) (by rfl) (by rfl) (fun hT => ?_) (fun hT => ?_) <;> first | (exfalso; omega) | skip)
        | refine SL_len_v (by decide) (by rfl) (by assumption) (by rfl) (slF (by rfl)) (by simp only [List.length_map]; first | rfl | assumption) ?_
        | refine SC_cond_f (by rfl) ?_
        | (refine SC_exit (fun tm σ hE hH => ?_); refine SC.app ?_ hE hH; clear hE hH; clear tm σ)
        | fail)
      refine SC_loop (fun z : Nat × AV × List (Nat × AObj) => [(0, na), (1, ra), (2, rv), (8, lv), (9, ev), (10, .sl sc 0 names.length none), (11, oa), (12, .s (.int .i64 i)), (13, .ptr x13 0 0), (18, .s (.int .i64 z.1))]) (fun z => (x13, .cells 54 8 true [enRow (entOf names[i] ratings[i] (sumT rs i) (evU rs i rs.length) (lawMet rs i z.1)) z.2.1]) :: (z.2.2 ++ (sc, .cells 3 1 true (tab names.length (fun x => sumT rs x))) :: (Hd ++ Hl))) (fun _ => [])
        (fun z => z.1 ≤ names.length ∧ MH z.2.1 (lawMet rs i z.1) z.2.2 ∧ (∀ p ∈ z.2.2, B.next ≤ p.1) ∧ (x13 :: (z.2.2 ++ (sc, .cells 3 1 true (tab names.length (fun x => sumT rs x))) :: (Hd ++ Hl)).map (·.1)).Nodup) (fun z => names.length - z.1) (0, .s (.slice none 0 0), [])
        ⟨by simp, .nil, fun p hp => (by cases hp), hnd1⟩ ⟨rfl, rfl, rfl, rfl, rfl, rfl, rfl, rfl, rfl, rfl, trivial⟩ (.refl _) hnd1 rfl ?_
      rintro ⟨q, m, Hm⟩ ⟨hq, hmh, hmB, hndm⟩
      dsimp only at hq hmh hmB hndm ⊢
      have hmc := hmh.cell
      by_cases hqlt : q < names.length
      · have h23 := met_fn h hf hrs hg (i : Int) (q : Int)
        have hll := lawMet_len rs i q
        cases hmb : metB rs i q with
        | false =>
          rw [hmb] at h23
          repeat' (first
            | (refine SL_call (by decide) (by rfl) bd23 (by rfl) (by rfl) h23 trivial List.nodup_nil ?_; rintro _ _ _ ⟨rfl, rfl⟩; rw [List.nil_append])
            | refine SL_len_v (by decide) (by rfl) hn (by rfl) (slF (by rfl)) (strs_len _) ?_
            | refine SC_seq ?_
            | refine SC_block ?_
            | refine SC_region ?_
            | refine SL_seq ?_
            | refine SL_move (by decide) (by rfl) ?_
            | refine SL_assign (by decide) (by rfl) ?_
            | refine SL_add (by decide) (by rfl) (by rfl) (by omega) (by omega) ?_
            | (refine SL_lss (by decide) (by rfl) (by rfl) (fun hT => ?_) (fun hT => ?_) <;> first | (exfalso; omega) | skip)
            | refine SC_cond_t (by rfl) ?_
            | refine SC_cond_f (by rfl) ?_
            | (refine SC_skip' (fun tm σ hE hH => ?_); refine SC.app ?_ hE hH; clear hE hH; clear tm σ)
            | fail)
          exact SL_nil fun tm σ hE hH => ⟨(q + 1, m, Hm), by show names.length - (q + 1) < names.length - q; omega, ⟨by show q + 1 ≤ names.length; omega, by dsimp only; rw [lawMet_f hmb]; exact hmh, hmB, hndm⟩, tm, σ, rfl, hE.sub ⟨rfl, rfl, rfl, rfl, rfl, rfl, rfl, rfl, rfl, rfl, trivial⟩, by dsimp only; rw [lawMet_f hmb]; exact hH⟩
        | true =>
          rw [hmb] at h23
          have hnxt := lawMet_t hmb
          obtain ⟨met, hmet⟩ : ∃ met, met = lawMet rs i q := ⟨_, rfl⟩
          rw [← hmet] at hmh hll hnxt ⊢
          cases hmh with
          | nil =>
            dsimp only [List.nil_append]
            repeat' (first
              | (refine SL_call (by decide) (by rfl) bd23 (by rfl) (by rfl) h23 trivial List.nodup_nil ?_; rintro _ _ _ ⟨rfl, rfl⟩; rw [List.nil_append])
              | refine SL_len_v (by decide) (by rfl) hn (by rfl) (slF (by rfl)) (strs_len _) ?_
              | refine SC_seq ?_
              | refine SC_block ?_
              | refine SC_region ?_
              | refine SL_seq ?_
              | (refine SL_nil (fun tm σ hE hH => ?_); refine SC.app ?_ hE hH; clear hE hH; clear tm σ)
              | refine SL_move (by decide) (by rfl) ?_
              | refine SL_assign (by decide) (by rfl) ?_
              | refine SL_add (by decide) (by rfl) (by rfl) (by omega) (by omega) ?_
              | (refine SL_lss (by decide) (by rfl) (by rfl) (fun hT => ?_) (fun hT => ?_) <;> first | (exfalso; omega) | skip)
              | refine SL_fieldAddr (by decide) (by rfl) (fldF (by rfl)) ?_
              | refine SL_load_o (by decide) (by rfl) (by repeat (first | exact .head _ | refine .tail _ ?_)) (rowF (by rfl)) (by first | assumption | rfl | exact tab_get _ _ (by omega) | exact ints_get _ (by omega) | exact strs_get _ (by omega)) (by rfl) ?_
              | refine SL_store_n (by rfl) (by rfl) (by repeat (first | exact .head _ | refine .tail _ ?_)) (by first | assumption | rfl | exact tab_get _ _ (by omega) | exact ints_get _ (by omega) | exact strs_get _ (by omega)) (by rfl) (by first | rfl) (by repeat (first | exact .head | apply Upd.tail)) (by first | exact .inl (by assumption) | exact .inr (by simp)) (szF (by rfl)) (Nat.le_of_ble_eq_true (by rfl)) (by rfl) ?_
              | refine SL_build1 (by decide) (by rfl) (elF (by rfl)) (by rfl) (by rfl) (fun id hid => ?_)
              | refine SL_append1_nil (by decide) (by rfl) (by rfl) (by repeat (first | exact .head _ | refine .tail _ ?_)) (elF (by rfl)) (sliceOf_spec (slF (by rfl))).1 (by rfl) (by decide) (fun id hid => ?_)
              | refine SC_cond_t (by rfl) ?_
              | (refine SC_skip' (fun tm σ hE hH => ?_); refine SC.app ?_ hE hH; clear hE hH; clear tm σ)
              | fail)
            refine SL_nil fun tm σ hE hH => ⟨(q + 1, .sl id 0 1 none, [(id, .cells 3 1 false (ints [(q : Int)]))]), by show names.length - (q + 1) < names.length - q; omega, ⟨by show q + 1 ≤ names.length; omega, by dsimp only; rw [hnxt]; exact .own rfl (by decide), fun p hp => ?_, ?_⟩, tm, σ, rfl, hE.sub ⟨rfl, rfl, rfl, rfl, rfl, rfl, rfl, rfl, rfl, rfl, trivial⟩, ?_⟩
            · rw [List.mem_singleton] at hp; subst hp; exact hid
            · exact (List.Perm.swap x13 id _).nodup (hH.nodup.sublist (.cons_cons _ (.cons _ (.cons_cons _ (.refl _)))))
            · dsimp only
              rw [hnxt]
              refine (hH.sub (H' := (id, _) :: (x13, _) :: _) (.of_mem fun p hp => ?_) (hH.nodup.sublist (.cons_cons _ (.cons _ (.cons_cons _ (.refl _)))))).perm (List.Perm.swap _ _ _)
              rcases List.mem_cons.1 hp with rfl | hp
              · exact .head _
              · exact .tail _ (.tail _ hp)
          | @own oo _ n hn0 h0 =>
            have hooB := hmB (oo, _) (.head _)
            dsimp only [List.cons_append, List.nil_append]
            repeat' (first
              | refine SL_append1_own (by decide) (by rfl) (by rfl) (by repeat (first | exact .head | apply Upd.tail)) (by rw [ints_len]; exact hn0.symm) (.inl hooB) (.head _) (elF (by rfl)) (sliceOf_spec (slF (by rfl))).1 (by rfl) (by omega) (by omega) (fun id hid => ?_)
              | (refine SL_call (by decide) (by rfl) bd23 (by rfl) (by rfl) h23 trivial List.nodup_nil ?_; rintro _ _ _ ⟨rfl, rfl⟩; rw [List.nil_append])
              | refine SL_len_v (by decide) (by rfl) hn (by rfl) (slF (by rfl)) (strs_len _) ?_
              | refine SC_seq ?_
              | refine SC_block ?_
              | refine SC_region ?_
              | refine SL_seq ?_
              | (refine SL_nil (fun tm σ hE hH => ?_); refine SC.app ?_ hE hH; clear hE hH; clear tm σ)
              | refine SL_move (by decide) (by rfl) ?_
              | refine SL_assign (by decide) (by rfl) ?_
              | refine SL_add (by decide) (by rfl) (by rfl) (by omega) (by omega) ?_
              | (refine SL_lss (by decide) (by rfl) (by rfl) (fun hT => ?_) (fun hT => ?_) <;> first | (exfalso; omega) | skip)
              | refine SL_fieldAddr (by decide) (by rfl) (fldF (by rfl)) ?_
              | refine SL_load_o (by decide) (by rfl) (by repeat (first | exact .head _ | refine .tail _ ?_)) (rowF (by rfl)) (by first | assumption | rfl | exact tab_get _ _ (by omega) | exact ints_get _ (by omega) | exact strs_get _ (by omega)) (by rfl) ?_
              | refine SL_store_n (by rfl) (by rfl) (by repeat (first | exact .head _ | refine .tail _ ?_)) (by first | assumption | rfl | exact tab_get _ _ (by omega) | exact ints_get _ (by omega) | exact strs_get _ (by omega)) (by rfl) (by first | rfl) (by repeat (first | exact .head | apply Upd.tail)) (by first | exact .inl (by assumption) | exact .inr (by simp)) (szF (by rfl)) (Nat.le_of_ble_eq_true (by rfl)) (by rfl) ?_
              | refine SL_build1 (by decide) (by rfl) (elF (by rfl)) (by rfl) (by rfl) (fun id hid => ?_)
              | refine SC_cond_t (by rfl) ?_
              | (refine SC_skip' (fun tm σ hE hH => ?_); refine SC.app ?_ hE hH; clear hE hH; clear tm σ)
              | fail)
            refine SL_nil fun tm σ hE hH => ⟨(q + 1, .sl id 0 (n + 1) none, [(id, .cells 3 1 false (ints (met ++ [(q : Int)])))]), by show names.length - (q + 1) < names.length - q; omega, ⟨by show q + 1 ≤ names.length; omega, by dsimp only; rw [hnxt]; exact .own (by rw [List.length_append, hn0]; rfl) (Nat.succ_pos _), fun p hp => ?_, ?_⟩, tm, σ, rfl, hE.sub ⟨rfl, rfl, rfl, rfl, rfl, rfl, rfl, rfl, rfl, rfl, trivial⟩, ?_⟩
            · rw [List.mem_singleton] at hp; subst hp; exact hid
            · exact (List.Perm.swap x13 id _).nodup (hH.nodup.sublist (.cons_cons _ (.cons _ (.cons_cons _ (.cons _ (.refl _))))))
            · dsimp only
              rw [hnxt, ← ints_snoc]
              refine (hH.sub (H' := (id, _) :: (x13, _) :: _) (.of_mem fun p hp => ?_) (hH.nodup.sublist (.cons_cons _ (.cons _ (.cons_cons _ (.cons _ (.refl _))))))).perm (List.Perm.swap _ _ _)
              rcases List.mem_cons.1 hp with rfl | hp
              · exact .head _
              · rcases List.mem_cons.1 hp with rfl | hp
                · exact .tail _ (.tail _ (.head _))
                · exact .tail _ (.tail _ (.tail _ (.tail _ hp)))
      · obtain rfl : q = names.length := by omega
        have hmet := lawMet_of (evU_o hV.2 (i : Int) rs.length (Nat.le_refl _))
        have hml := lawMet_len rs i names.length
        refine SC_perm (List.Perm.cons _ (List.perm_middle.trans (List.Perm.cons _ (List.perm_append_comm_assoc ..)))) ?_
        cases hO with
        | nil =>
          dsimp only [List.cons_append, List.nil_append]
          repeat' (first
            | refine SL_append1_nil (by decide) (by rfl) (by rfl) (.head _) (elF (by rfl)) (sliceOf_spec (slF (by rfl))).1 (en_cell hmc) (by decide) (fun id hid => ?_)
            | refine SL_buildSlice (by decide) (by rfl) (elF (by rfl)) (by decide) (set1 (cells_mk _) (by rfl)) (fun id hid => ?_)
            | refine SL_load_or (by decide) (by rfl) (by repeat (first | exact .head _ | refine .tail _ ?_)) (rowF (by rfl)) (by rfl) (Nat.le_of_ble_eq_true (by rfl)) (en_take _ _) ?_
            | refine SL_len_v (by decide) (by rfl) hn (by rfl) (slF (by rfl)) (strs_len _) ?_
            | refine SC_seq ?_
            | refine SC_region ?_
            | refine SL_seq ?_
            | (refine SL_nil (fun tm σ hE hH => ?_); refine SC.app ?_ hE hH; clear hE hH; clear tm σ)
            | refine SL_move (by decide) (by rfl) ?_
            | refine SL_assign (by decide) (by rfl) ?_
            | refine SL_add (by decide) (by rfl) (by rfl) (by omega) (by omega) ?_
            | (refine SL_lss (by decide) (by rfl) (by rfl) (fun hT => ?_) (fun hT => ?_) <;> first | (exfalso; omega) | skip)
            | refine SC_cond_f (by rfl) ?_
            | (refine SC_exit (fun tm σ hE hH => ?_); refine SC.app ?_ hE hH; clear hE hH; clear tm σ)
            | fail)
          refine SL_nil fun tm σ hE hH => ⟨(i + 1, [] ++ [(entOf names[i] ratings[i] (sumT rs i) (evU rs i rs.length) (lawMet rs i names.length))], .sl id 0 1 none, (id, .cells 54 8 false (List.zipWith enRow [(entOf names[i] ratings[i] (sumT rs i) (evU rs i rs.length) (lawMet rs i names.length))] [m])) :: Hm), by show names.length - (i + 1) < names.length - i; omega, ⟨by show i + 1 ≤ names.length; omega, hF.next hilt hilt2 hmet (by omega), .own (ms := [m]) rfl (by decide) rfl (mets_snoc (l := []) (ms := []) (Hm := []) rfl (fun i h => by cases h) hmh.mem), fun p hp => ?_, ?_⟩, tm, σ, rfl, hE.sub ⟨rfl, rfl, rfl, rfl, rfl, rfl, rfl, rfl, trivial⟩, ?_⟩
          · rcases List.mem_cons.1 hp with rfl | hp
            · exact hid
            · exact hmB p hp
          · exact (List.Perm.swap sc id _).nodup (hH.nodup.sublist (.cons_cons _ (.cons _ (.cons _ (.cons_cons _ (.refl _))))))
          · refine hH.sub (.of_mem fun p hp => ?_) ((List.Perm.swap sc id _).nodup (hH.nodup.sublist (.cons_cons _ (.cons _ (.cons _ (.cons_cons _ (.refl _)))))))
            rcases List.mem_cons.1 hp with rfl | hp
            · exact .tail _ (.tail _ (.tail _ (.head _)))
            · rcases List.mem_cons.1 hp with rfl | hp
              · exact .head _
              · exact .tail _ (.tail _ (.tail _ (.tail _ hp)))
        | @own _ o n ms Hm0 hn1 h01 hlm hmm =>
          have hoB := hBd (o, _) (.head _)
          have hfl := hF.1
          have hol : n = (List.zipWith enRow fl ms).length := by rw [List.length_zipWith, hlm, Nat.min_self, hn1]
          dsimp only [List.cons_append]
          repeat' (first
            | refine SL_append1_own (by decide) (by rfl) (by rfl) (by repeat (first | exact .head | apply Upd.tail)) hol (.inl hoB) (.head _) (elF (by rfl)) (sliceOf_spec (slF (by rfl))).1 (en_cell hmc) (by omega) (by omega) (fun id hid => ?_)
            | refine SL_buildSlice (by decide) (by rfl) (elF (by rfl)) (by decide) (set1 (cells_mk _) (by rfl)) (fun id hid => ?_)
            | refine SL_load_or (by decide) (by rfl) (by repeat (first | exact .head _ | refine .tail _ ?_)) (rowF (by rfl)) (by rfl) (Nat.le_of_ble_eq_true (by rfl)) (en_take _ _) ?_
            | refine SL_len_v (by decide) (by rfl) hn (by rfl) (slF (by rfl)) (strs_len _) ?_
            | refine SC_seq ?_
            | refine SC_region ?_
            | refine SL_seq ?_
            | (refine SL_nil (fun tm σ hE hH => ?_); refine SC.app ?_ hE hH; clear hE hH; clear tm σ)
            | refine SL_move (by decide) (by rfl) ?_
            | refine SL_assign (by decide) (by rfl) ?_
            | refine SL_add (by decide) (by rfl) (by rfl) (by omega) (by omega) ?_
            | (refine SL_lss (by decide) (by rfl) (by rfl) (fun hT => ?_) (fun hT => ?_) <;> first | (exfalso; omega) | skip)
            | refine SC_cond_f (by rfl) ?_
            | (refine SC_exit (fun tm σ hE hH => ?_); refine SC.app ?_ hE hH; clear hE hH; clear tm σ)
            | fail)
          refine SL_nil fun tm σ hE hH => ⟨(i + 1, fl ++ [(entOf names[i] ratings[i] (sumT rs i) (evU rs i rs.length) (lawMet rs i names.length))], .sl id 0 (n + 1) none, (id, .cells 54 8 false (List.zipWith enRow (fl ++ [(entOf names[i] ratings[i] (sumT rs i) (evU rs i rs.length) (lawMet rs i names.length))]) (ms ++ [m]))) :: (Hm0 ++ Hm)), by show names.length - (i + 1) < names.length - i; omega, ⟨by show i + 1 ≤ names.length; omega, hF.next hilt hilt2 hmet (by omega), .own (by rw [List.length_append, hn1]; rfl) (Nat.succ_pos _) (by rw [List.length_append, List.length_append, hlm]; rfl) (mets_snoc hlm hmm hmh.mem), fun p hp => ?_, ?_⟩, tm, σ, rfl, hE.sub ⟨rfl, rfl, rfl, rfl, rfl, rfl, rfl, rfl, trivial⟩, ?_⟩
          · rcases List.mem_cons.1 hp with rfl | hp
            · exact hid
            · exact (List.mem_append.1 hp).elim (fun h => hBd p (List.mem_cons_of_mem _ h)) (hmB p)
          · dsimp only; rw [List.cons_append, List.append_assoc]; exact (List.Perm.swap sc id _).nodup (hH.nodup.sublist (.cons_cons _ (.cons _ (.cons _ (.cons_cons _ (.cons _ (.refl _)))))))
          · dsimp only; rw [List.cons_append, List.append_assoc]; refine hH.sub (.of_mem fun p hp => ?_) ((List.Perm.swap sc id _).nodup (hH.nodup.sublist (.cons_cons _ (.cons _ (.cons _ (.cons_cons _ (.cons _ (.refl _))))))))
            rcases List.mem_cons.1 hp with rfl | hp
            · exact .tail _ (.tail _ (.tail _ (.head _)))
            · rcases List.mem_cons.1 hp with rfl | hp
              · rw [zip_snoc hlm]; exact .head _
              · exact .tail _ (.tail _ (.tail _ (.tail _ (.tail _ hp))))
  · obtain rfl : i = names.length := by omega
    repeat' (first
      | refine SL_len_v (by decide) (by rfl) hn (by rfl) (slF (by rfl)) (strs_len _) ?_
      | refine SC_seq ?_
      | refine SC_region ?_
      | refine SL_seq ?_
      | refine SL_move (by decide) (by rfl) ?_
      | (refine SL_lss (by decide) (by rfl) (by rfl) (fun hT => ?_) (fun hT => ?_) <;> first | (exfalso; omega) | skip)
      | refine SC_cond_f (by rfl) ?_
      | fail)
    exact SC_exit fun tm σ hE hH => K fl oa Hd hF hO hBd (List.nodup_cons.1 hnd).2 tm σ (hE.sub ⟨rfl, rfl, rfl, rfl, rfl, rfl, trivial⟩) (hH.sub (.of_mem fun p hp => List.mem_cons_of_mem _ hp) (List.nodup_cons.1 hnd).2)
end Go.Proofs.Ytldckcopeiginaa
/- The law's own Valid. -/
namespace Go.Proofs.Ytldckcopeiginaa
open Go.Ab
attribute [local irreducible] SC SL wpc wpl wpd wpf wpy wpn FnC
set_option maxRecDepth 100000
set_option maxHeartbeats 2000000
def seenV (ps : List Int) : Option Nat → AV
  | none => .s (.slice none 0 0)
  | some id => .sl id 0 ps.length none
def seenH (ps : List Int) : Option Nat → List (Nat × AObj)
  | none => []
  | some id => [(id, .cells 3 1 false (ints ps))]
theorem lawValid_fn {G : Gl} {rs : List (List Sc)} {ra : AV} {xs : List AV} (h : RV rs ra xs) (hf : ∀ gs ∈ rs, gs.length ≤ 12) (n : Int) (ho : G.orc 12 [.s (.int .i64 n), ra] = none) :
    FnC Try.prog G 12 [.s (.int .i64 n), ra] [] (fun v Hn => v = .s (.bool (validB n rs)) ∧ Hn = []) := by
  have hsl := h.sl
  have hlen := h.len
  have hbig := h.big
  refine Fn_body (N := 107) ho Try.func12 rfl rfl fun B => ?_
  repeat' (first
    | refine SC_seq ?_
    | refine SC_block ?_
    | refine SC_region ?_
    | refine SL_seq ?_
    | refine SL_run (by rfl) (by rfl) ?_
    | refine SL_not (by rfl) (by rfl) (by rfl) (by decide) ?_
    | refine SL_move (by decide) (by rfl) ?_
    | refine SL_assign (by decide) (by rfl) ?_
    | refine SL_pick_t (by decide) (by rfl) (by rfl) ?_
    | refine SL_pick_f (by decide) (by rfl) (by rfl) ?_
    | (refine SL_lss (by decide) (by rfl) (by rfl) (fun hT => ?_) (fun hT => ?_) <;> first | (exfalso; omega) | skip)
    | (refine SL_gtr (by decide) (by rfl) (by rfl) (fun hT => ?_) (fun hT => ?_) <;> first | (exfalso; omega) | skip)
    | refine SL_len_v (by decide) (by rfl) (by assumption) (by rfl) (slF (by rfl)) (by simp only [List.length_map]; first | rfl | assumption) ?_
    | refine SC_cond_t (by rfl) ?_
    | refine SC_cond_f (by rfl) ?_
    | (refine SC_skip' (fun tm σ hE hH => ?_); refine SC.app ?_ hE hH; clear hE hH; clear tm σ)
    | refine SC_ret (fun tm σ hE hH => Post.intro (Hn := []) (.inr rfl) hE hH (by rfl) trivial List.nodup_nil (fun p hp => (by cases hp)) ?_)
    | fail)
  all_goals try (refine ⟨?_, rfl⟩; rw [validB_f (fun hv => by unfold VOk at hv; omega)]; rfl)
  refine SC_loop (fun k : Nat => [(0, .s (.int .i64 n)), (1, ra), (4, .s (.bool false)), (5, .s (.int .i64 k))]) (fun _ => []) (fun _ => []) (fun k => k ≤ rs.length ∧ ∀ gs ∈ rs.take k, ROk n gs) (fun k => rs.length - k) 0 ⟨by omega, by simp⟩ ⟨rfl, rfl, rfl, rfl, trivial⟩ trivial List.nodup_nil rfl ?_
  rintro k ⟨hk1, hk2⟩
  by_cases hlt : k < rs.length
  · obtain ⟨x, hx, hgx⟩ := h.row hlt
    unfold GV at hgx
    have hgs := hf rs[k] (List.getElem_mem hlt)
    repeat' (first
      | refine SC_seq ?_
      | refine SC_block ?_
      | refine SC_region ?_
      | refine SL_seq ?_
      | refine SL_move (by decide) (by rfl) ?_
      | refine SL_assign (by decide) (by rfl) ?_
      | (refine SL_lss (by decide) (by rfl) (by rfl) (fun hT => ?_) (fun hT => ?_) <;> first | (exfalso; omega) | skip)
      | refine SL_len_v (by decide) (by rfl) (by assumption) (by rfl) (slF (by rfl)) (by simp only [List.length_map]; first | rfl | assumption) ?_
      | refine SC_cond_t (by rfl) ?_
      | (refine SC_skip' (fun tm σ hE hH => ?_); refine SC.app ?_ hE hH; clear hE hH; clear tm σ)
      | fail)
    refine SC_loop (fun a : Nat × Option Nat => [(0, .s (.int .i64 n)), (1, ra), (4, .s (.bool false)), (5, .s (.int .i64 k)), (6, seenV ((rs[k].take a.1).flatMap pl) a.2), (7, .s (.int .i64 a.1))])
      (fun a => seenH ((rs[k].take a.1).flatMap pl) a.2) (fun _ => []) (fun a => a.1 ≤ rs[k].length ∧ (∀ g ∈ rs[k].take a.1, GOk n g) ∧ ((rs[k].take a.1).flatMap pl).length ≤ 2 * a.1 ∧ (a.2 = none → (rs[k].take a.1).flatMap pl = []) ∧ ∀ id, a.2 = some id → B.next ≤ id) (fun a => rs[k].length - a.1) (0, none)
      ⟨by simp, by simp, by simp, by simp, by simp⟩ ⟨rfl, rfl, rfl, rfl, rfl, rfl, trivial⟩ trivial List.nodup_nil rfl ?_
    rintro ⟨j, oid⟩ ⟨hj1, hj2, hj3, hj4, hj5⟩
    simp only at hj1 hj2 hj3 hj4 hj5
    by_cases hjlt : j < rs[k].length
    · have hrow : (rs[k].map cells3)[j]? = some (cells3 rs[k][j]) := by rw [List.getElem?_map, List.getElem?_eq_getElem hjlt]; rfl
      cases oid with
      | none =>
        have hps := hj4 rfl
        simp only [seenV, seenH]
        repeat' (first
          | refine SC_seq ?_
          | refine SC_block ?_
          | refine SC_region ?_
          | refine SL_seq ?_
          | (refine SL_nil (fun tm σ hE hH => ?_); refine SC.app ?_ hE hH; clear hE hH; clear tm σ)
          | refine SL_run (by rfl) (by rfl) ?_
          | refine SL_not (by rfl) (by rfl) (by rfl) (by decide) ?_
          | refine SL_move (by decide) (by rfl) ?_
          | refine SL_assign (by decide) (by rfl) ?_
          | refine SL_pick_t (by decide) (by rfl) (by rfl) ?_
          | refine SL_pick_f (by decide) (by rfl) (by rfl) ?_
          | refine SL_add (by decide) (by rfl) (by rfl) (by omega) (by omega) ?_
          | (refine SL_lss (by decide) (by rfl) (by rfl) (fun hT => ?_) (fun hT => ?_) <;> first | (exfalso; omega) | skip)
          | (refine SL_gtr (by decide) (by rfl) (by rfl) (fun hT => ?_) (fun hT => ?_) <;> first | (exfalso; omega) | skip)
          | (refine SL_geq (by decide) (by rfl) (by rfl) (fun hT => ?_) (fun hT => ?_) <;> first | (exfalso; omega) | skip)
          | refine SL_fieldAddr (by decide) (by rfl) (fldF (by rfl)) ?_
          | refine SL_len_v (by decide) (by rfl) (by assumption) (by rfl) (slF (by rfl)) (by simp only [List.length_map]; first | rfl | assumption) ?_
          | refine SL_indexAddr_v (by decide) (by rfl) (by rfl) (by assumption) (slF (by rfl)) _ (by first | rfl | exact (Int.toNat_of_nonneg (by omega)).symm) (by simp only [List.length_map]; omega) (fun ad => ?_)
          | refine SL_load_r (by decide) (by rfl) (rowF (by rfl)) (by first | assumption | rfl | exact ints_get _ (by omega)) (by rfl) ?_
          | refine SL_load_rr (by decide) (by rfl) (rowF (by rfl)) (by first | assumption | rfl | exact ints_get _ (by omega)) (Nat.le_of_ble_eq_true (by rfl)) (by first | exact mk3 _ | rfl) ?_
          | refine SL_load_o (by decide) (by rfl) (by repeat (first | exact .head _ | refine .tail _ ?_)) (rowF (by rfl)) (by first | assumption | rfl | exact ints_get _ (by omega)) (by rfl) ?_
          | refine SL_store_box (by rfl) (by rfl) (by first | exact cells_3 _ _ _ | rfl) (by repeat (first | exact .head | apply Upd.tail)) (by first | exact .inl (by assumption) | exact .inr (by simp)) (by rfl) (szF (by rfl)) (by rfl) ?_
          | refine SL_alloc (by decide) (zeroF (by rfl)) (fun id hid => ?_)
          | refine SL_build1 (by decide) (by rfl) (elF (by rfl)) (by rfl) (by rfl) (fun id hid => ?_)
          | refine SL_append1_nil (by decide) (by rfl) (by rfl) (by repeat (first | exact .head _ | refine .tail _ ?_)) (elF (by rfl)) (sliceOf_spec (slF (by rfl))).1 (by rfl) (by decide) (fun id hid => ?_)
          | refine SL_append1_own (by decide) (by rfl) (by rfl) (by repeat (first | exact .head | apply Upd.tail)) (by simp only [ints_len, List.length_append, List.length_cons, List.length_nil]) (by first | exact .inl (by assumption) | exact .inr (by simp)) (by repeat (first | exact .head _ | refine .tail _ ?_)) (elF (by rfl)) (sliceOf_spec (slF (by rfl))).1 (by rfl) (by omega) (by omega) (fun id hid => ?_)
          | refine SC_cond_t (by rfl) ?_
          | refine SC_cond_f (by rfl) ?_
          | (refine SC_skip' (fun tm σ hE hH => ?_); refine SC.app ?_ hE hH; clear hE hH; clear tm σ)
          | refine SC_ret (fun tm σ hE hH => Post.intro (Hn := []) (.inr rfl) hE hH (by rfl) trivial List.nodup_nil (fun p hp => (by cases hp)) ?_)
          | fail)
        all_goals try (refine ⟨?_, rfl⟩; rw [validB_f (fun hv => by have hg := v_game hv hlt hjlt; unfold GOk at hg; omega)]; rfl)
        · have hg : GOk n rs[k][j] := ⟨by assumption, by assumption, by assumption, by assumption, by assumption, by assumption⟩
          have hb0 : 0 ≤ rs[k][j].b := by assumption
          have eg : pl rs[k][j] = [rs[k][j].w, rs[k][j].b] := by unfold pl; rw [if_pos hb0]
          have e : (rs[k].take (j + 1)).flatMap pl = [rs[k][j].w, rs[k][j].b] := by rw [take_flat hjlt, eg, hps]; rfl
          have eI : ints [rs[k][j].w, rs[k][j].b] = [[.s (.int .i64 rs[k][j].w)]] ++ [[.s (.int .i64 rs[k][j].b)]] := rfl
          have eL : ([rs[k][j].w, rs[k][j].b] : List Int).length = 1 + 1 := rfl
          refine SL_nil fun tm σ hE hH => ⟨(j + 1, some id), by simp only; omega, ⟨by simp only; omega, g_next hjlt hj2 hg, by rw [e, eL]; omega, (fun hh => by cases hh), (fun id' hh => by cases hh; exact hid)⟩, tm, σ, rfl, hE.sub ?_, hH.sub ?_ (by simp [seenH])⟩
          · simp only [seenV, e, eL]
            exact ⟨rfl, rfl, rfl, rfl, rfl, rfl, trivial⟩
          · simp only [seenH, e, eI]
            exact ⟨.head _, trivial⟩
        · have hg : GOk n rs[k][j] := ⟨by assumption, by assumption, by assumption, by assumption, by assumption, by assumption⟩
          have hb0 : rs[k][j].b < 0 := by assumption
          have eg : pl rs[k][j] = [rs[k][j].w] := by unfold pl; rw [if_neg (by omega)]
          have e : (rs[k].take (j + 1)).flatMap pl = [rs[k][j].w] := by rw [take_flat hjlt, eg, hps]; rfl
          have eI : ints [rs[k][j].w] = [[.s (.int .i64 rs[k][j].w)]] := rfl
          have eL : ([rs[k][j].w] : List Int).length = 1 := rfl
          refine SL_nil fun tm σ hE hH => ⟨(j + 1, some id), by simp only; omega, ⟨by simp only; omega, g_next hjlt hj2 hg, by rw [e, eL]; omega, (fun hh => by cases hh), (fun id' hh => by cases hh; exact hid)⟩, tm, σ, rfl, hE.sub ?_, hH.sub ?_ (by simp [seenH])⟩
          · simp only [seenV, e, eL]
            exact ⟨rfl, rfl, rfl, rfl, rfl, rfl, trivial⟩
          · simp only [seenH, e, eI]
            exact ⟨.head _, trivial⟩
      | some ids =>
        have hids := hj5 ids rfl
        simp only [seenV, seenH]
        repeat' (first
          | refine SC_seq ?_
          | refine SC_block ?_
          | refine SC_region ?_
          | refine SL_seq ?_
          | (refine SL_nil (fun tm σ hE hH => ?_); refine SC.app ?_ hE hH; clear hE hH; clear tm σ)
          | refine SL_run (by rfl) (by rfl) ?_
          | refine SL_not (by rfl) (by rfl) (by rfl) (by decide) ?_
          | refine SL_move (by decide) (by rfl) ?_
          | refine SL_assign (by decide) (by rfl) ?_
          | refine SL_pick_t (by decide) (by rfl) (by rfl) ?_
          | refine SL_pick_f (by decide) (by rfl) (by rfl) ?_
          | refine SL_add (by decide) (by rfl) (by rfl) (by omega) (by omega) ?_
          | (refine SL_lss (by decide) (by rfl) (by rfl) (fun hT => ?_) (fun hT => ?_) <;> first | (exfalso; omega) | skip)
          | (refine SL_gtr (by decide) (by rfl) (by rfl) (fun hT => ?_) (fun hT => ?_) <;> first | (exfalso; omega) | skip)
          | (refine SL_geq (by decide) (by rfl) (by rfl) (fun hT => ?_) (fun hT => ?_) <;> first | (exfalso; omega) | skip)
          | refine SL_fieldAddr (by decide) (by rfl) (fldF (by rfl)) ?_
          | refine SL_len_v (by decide) (by rfl) (by assumption) (by rfl) (slF (by rfl)) (by simp only [List.length_map]; first | rfl | assumption) ?_
          | refine SL_indexAddr_v (by decide) (by rfl) (by rfl) (by assumption) (slF (by rfl)) _ (by first | rfl | exact (Int.toNat_of_nonneg (by omega)).symm) (by simp only [List.length_map]; omega) (fun ad => ?_)
          | refine SL_load_r (by decide) (by rfl) (rowF (by rfl)) (by first | assumption | rfl | exact ints_get _ (by omega)) (by rfl) ?_
          | refine SL_load_rr (by decide) (by rfl) (rowF (by rfl)) (by first | assumption | rfl | exact ints_get _ (by omega)) (Nat.le_of_ble_eq_true (by rfl)) (by first | exact mk3 _ | rfl) ?_
          | refine SL_load_o (by decide) (by rfl) (by repeat (first | exact .head _ | refine .tail _ ?_)) (rowF (by rfl)) (by first | assumption | rfl | exact ints_get _ (by omega)) (by rfl) ?_
          | refine SL_store_box (by rfl) (by rfl) (by first | exact cells_3 _ _ _ | rfl) (by repeat (first | exact .head | apply Upd.tail)) (by first | exact .inl (by assumption) | exact .inr (by simp)) (by rfl) (szF (by rfl)) (by rfl) ?_
          | refine SL_alloc (by decide) (zeroF (by rfl)) (fun id hid => ?_)
          | refine SL_build1 (by decide) (by rfl) (elF (by rfl)) (by rfl) (by rfl) (fun id hid => ?_)
          | refine SL_append1_own (by decide) (by rfl) (by rfl) (by repeat (first | exact .head | apply Upd.tail)) (by simp only [ints_len, List.length_append, List.length_cons, List.length_nil]) (by first | exact .inl (by assumption) | exact .inr (by simp)) (by repeat (first | exact .head _ | refine .tail _ ?_)) (elF (by rfl)) (sliceOf_spec (slF (by rfl))).1 (by rfl) (by omega) (by omega) (fun id hid => ?_)
          | refine SC_cond_t (by rfl) ?_
          | refine SC_cond_f (by rfl) ?_
          | (refine SC_skip' (fun tm σ hE hH => ?_); refine SC.app ?_ hE hH; clear hE hH; clear tm σ)
          | refine SC_ret (fun tm σ hE hH => Post.intro (Hn := []) (.inr rfl) hE hH (by rfl) trivial List.nodup_nil (fun p hp => (by cases hp)) ?_)
          | fail)
        all_goals try (refine ⟨?_, rfl⟩; rw [validB_f (fun hv => by have hg := v_game hv hlt hjlt; unfold GOk at hg; omega)]; rfl)
        · have hg : GOk n rs[k][j] := ⟨by assumption, by assumption, by assumption, by assumption, by assumption, by assumption⟩
          have hb0 : 0 ≤ rs[k][j].b := by assumption
          have eg : pl rs[k][j] = [rs[k][j].w, rs[k][j].b] := by unfold pl; rw [if_pos hb0]
          have e : (rs[k].take (j + 1)).flatMap pl = (rs[k].take j).flatMap pl ++ [rs[k][j].w, rs[k][j].b] := by rw [take_flat hjlt, eg]
          have eI : ints ((rs[k].take j).flatMap pl ++ [rs[k][j].w, rs[k][j].b]) = ints ((rs[k].take j).flatMap pl) ++ [[.s (.int .i64 rs[k][j].w)]] ++ [[.s (.int .i64 rs[k][j].b)]] := by simp [ints]
          have eL : ((rs[k].take j).flatMap pl ++ [rs[k][j].w, rs[k][j].b]).length = ((rs[k].take j).flatMap pl).length + 1 + 1 := by simp
          refine SL_nil fun tm σ hE hH => ⟨(j + 1, some id), by simp only; omega, ⟨by simp only; omega, g_next hjlt hj2 hg, by rw [e, eL]; omega, (fun hh => by cases hh), (fun id' hh => by cases hh; exact hid)⟩, tm, σ, rfl, hE.sub ?_, hH.sub ?_ (by simp [seenH])⟩
          · simp only [seenV, e, eL]
            exact ⟨rfl, rfl, rfl, rfl, rfl, rfl, trivial⟩
          · simp only [seenH, e, eI]
            exact ⟨.head _, trivial⟩
        · have hg : GOk n rs[k][j] := ⟨by assumption, by assumption, by assumption, by assumption, by assumption, by assumption⟩
          have hb0 : rs[k][j].b < 0 := by assumption
          have eg : pl rs[k][j] = [rs[k][j].w] := by unfold pl; rw [if_neg (by omega)]
          have e : (rs[k].take (j + 1)).flatMap pl = (rs[k].take j).flatMap pl ++ [rs[k][j].w] := by rw [take_flat hjlt, eg]
          have eI : ints ((rs[k].take j).flatMap pl ++ [rs[k][j].w]) = ints ((rs[k].take j).flatMap pl) ++ [[.s (.int .i64 rs[k][j].w)]] := by simp [ints]
          have eL : ((rs[k].take j).flatMap pl ++ [rs[k][j].w]).length = ((rs[k].take j).flatMap pl).length + 1 := by simp
          refine SL_nil fun tm σ hE hH => ⟨(j + 1, some id), by simp only; omega, ⟨by simp only; omega, g_next hjlt hj2 hg, by rw [e, eL]; omega, (fun hh => by cases hh), (fun id' hh => by cases hh; exact hid)⟩, tm, σ, rfl, hE.sub ?_, hH.sub ?_ (by simp [seenH])⟩
          · simp only [seenV, e, eL]
            exact ⟨rfl, rfl, rfl, rfl, rfl, rfl, trivial⟩
          · simp only [seenH, e, eI]
            exact ⟨.head _, trivial⟩
    · obtain rfl : j = rs[k].length := by omega
      rw [List.take_length] at hj2 hj3 hj4
      simp only [List.take_length]
      cases oid with
      | none =>
        have hps := hj4 rfl
        simp only [seenV, seenH]
        repeat' (first
          | refine SC_seq ?_
          | refine SC_block ?_
          | refine SC_region ?_
          | refine SL_seq ?_
          | refine SL_move (by decide) (by rfl) ?_
          | refine SL_assign (by decide) (by rfl) ?_
          | (refine SL_lss (by decide) (by rfl) (by rfl) (fun hT => ?_) (fun hT => ?_) <;> first | (exfalso; omega) | skip)
          | refine SL_len_v (by decide) (by rfl) (by assumption) (by rfl) (slF (by rfl)) (by simp only [List.length_map]; first | rfl | assumption) ?_
          | refine SL_indexAddr_v (by decide) (by rfl) (by rfl) (by assumption) (slF (by rfl)) _ (by first | rfl | exact (Int.toNat_of_nonneg (by omega)).symm) (by simp only [List.length_map]; omega) (fun ad => ?_)
          | refine SL_load_r (by decide) (by rfl) (rowF (by rfl)) (by first | assumption | rfl | exact ints_get _ (by omega)) (by rfl) ?_
          | refine SC_cond_f (by rfl) ?_
          | (refine SC_exit (fun tm σ hE hH => ?_); refine SC.app ?_ hE hH; clear hE hH; clear tm σ)
          | fail)
        refine SC_loop (fun _ : Unit => [(0, .s (.int .i64 n)), (1, ra), (4, .s (.bool false)), (5, .s (.int .i64 k)), (6, .s (.slice none 0 0)), (9, .s (.int .i64 0))]) (fun _ => []) (fun _ => []) (fun _ => True) (fun _ => 0) () trivial ⟨rfl, rfl, rfl, rfl, rfl, rfl, trivial⟩ trivial List.nodup_nil rfl ?_
        intro _ _
        repeat' (first
          | refine SC_seq ?_
          | refine SC_region ?_
          | refine SL_seq ?_
          | refine SL_move (by decide) (by rfl) ?_
          | refine SL_assign (by decide) (by rfl) ?_
          | refine SL_add (by decide) (by rfl) (by rfl) (by omega) (by omega) ?_
          | (refine SL_lss (by decide) (by rfl) (by rfl) (fun hT => ?_) (fun hT => ?_) <;> first | (exfalso; omega) | skip)
          | refine SL_len_0 (by decide) (by rfl) (by rfl) (sliceOf_spec (slF (by rfl))).1 ?_
          | refine SC_cond_f (by rfl) ?_
          | (refine SC_exit (fun tm σ hE hH => ?_); refine SC.app ?_ hE hH; clear hE hH; clear tm σ)
          | fail)
        refine SL_nil fun tm σ hE hH => ⟨k + 1, by omega, ⟨by omega, r_next hlt hk2 ⟨hj2, by rw [hps]; exact List.nodup_nil⟩⟩, tm, σ, rfl, hE.sub ⟨rfl, rfl, rfl, rfl, trivial⟩, hH.sub trivial List.nodup_nil⟩
      | some ids =>
        have hids := hj5 ids rfl
        simp only [seenV, seenH]
        generalize hpsd : rs[k].flatMap pl = ps at hj3 hj4
        repeat' (first
          | refine SC_seq ?_
          | refine SC_block ?_
          | refine SC_region ?_
          | refine SL_seq ?_
          | refine SL_move (by decide) (by rfl) ?_
          | refine SL_assign (by decide) (by rfl) ?_
          | (refine SL_lss (by decide) (by rfl) (by rfl) (fun hT => ?_) (fun hT => ?_) <;> first | (exfalso; omega) | skip)
          | refine SL_len_v (by decide) (by rfl) (by assumption) (by rfl) (slF (by rfl)) (by simp only [List.length_map]; first | rfl | assumption) ?_
          | refine SL_indexAddr_v (by decide) (by rfl) (by rfl) (by assumption) (slF (by rfl)) _ (by first | rfl | exact (Int.toNat_of_nonneg (by omega)).symm) (by simp only [List.length_map]; omega) (fun ad => ?_)
          | refine SL_load_r (by decide) (by rfl) (rowF (by rfl)) (by first | assumption | rfl | exact ints_get _ (by omega)) (by rfl) ?_
          | refine SC_cond_f (by rfl) ?_
          | (refine SC_exit (fun tm σ hE hH => ?_); refine SC.app ?_ hE hH; clear hE hH; clear tm σ)
          | fail)
        refine SC_loop (fun i : Nat => [(0, .s (.int .i64 n)), (1, ra), (4, .s (.bool false)), (5, .s (.int .i64 k)), (6, .sl ids 0 ps.length none), (9, .s (.int .i64 i))]) (fun _ => [(ids, .cells 3 1 false (ints ps))]) (fun _ => []) (fun i => i ≤ ps.length ∧ (ps.take i).Nodup) (fun i => ps.length - i) 0 ⟨by omega, by simp⟩
          ⟨rfl, rfl, rfl, rfl, rfl, rfl, trivial⟩ ⟨.head _, trivial⟩ (by simp) rfl ?_
        rintro i ⟨hi1, hi2⟩
        by_cases hilt : i < ps.length
        ·
          repeat' (first
            | refine SC_seq ?_
            | refine SC_block ?_
            | refine SC_region ?_
            | refine SL_seq ?_
            | refine SL_move (by decide) (by rfl) ?_
            | refine SL_assign (by decide) (by rfl) ?_
            | (refine SL_lss (by decide) (by rfl) (by rfl) (fun hT => ?_) (fun hT => ?_) <;> first | (exfalso; omega) | skip)
            | refine SL_len_sl (by decide) (by rfl) (by rfl) (sliceOf_spec (slF (by rfl))).1 ?_
            | refine SC_cond_t (by rfl) ?_
            | (refine SC_skip' (fun tm σ hE hH => ?_); refine SC.app ?_ hE hH; clear hE hH; clear tm σ)
            | fail)
          refine SC_loop (fun q : Nat => [(0, .s (.int .i64 n)), (1, ra), (4, .s (.bool false)), (5, .s (.int .i64 k)), (6, .sl ids 0 ps.length none), (9, .s (.int .i64 i)), (10, .s (.int .i64 q))]) (fun _ => [(ids, .cells 3 1 false (ints ps))]) (fun _ => []) (fun q => q ≤ i ∧ ps[i] ∉ ps.take q) (fun q => i - q) 0 ⟨by omega, by simp⟩
            ⟨rfl, rfl, rfl, rfl, rfl, rfl, rfl, trivial⟩ ⟨.head _, trivial⟩ (by simp) rfl ?_
          rintro q ⟨hq1, hq2⟩
          by_cases hqlt : q < i
          ·
            repeat' (first
              | refine SC_seq ?_
              | refine SC_block ?_
              | refine SC_region ?_
              | refine SL_seq ?_
              | refine SL_move (by decide) (by rfl) ?_
              | refine SL_assign (by decide) (by rfl) ?_
              | refine SL_add (by decide) (by rfl) (by rfl) (by omega) (by omega) ?_
              | (refine SL_lss (by decide) (by rfl) (by rfl) (fun hT => ?_) (fun hT => ?_) <;> first | (exfalso; omega) | skip)
              | (refine SL_eql (by decide) (by rfl) (by rfl) (fun hT => ?_) (fun hT => ?_) <;> first | (exfalso; omega) | skip)
              | refine SL_indexAddr_0 (by decide) (by rfl) (by rfl) (by repeat (first | exact .head _ | refine .tail _ ?_)) (slF (by rfl)) _ (by first | rfl | exact (Int.toNat_of_nonneg (by omega)).symm) (by omega) ?_
              | refine SL_load_o (by decide) (by rfl) (by repeat (first | exact .head _ | refine .tail _ ?_)) (rowF (by rfl)) (by first | assumption | rfl | exact ints_get _ (by omega)) (by rfl) ?_
              | refine SC_draw (by kernel_rfl) ?_
              | refine SC_cond_t (by rfl) ?_
              | refine SC_cond_f (by rfl) ?_
              | (refine SC_skip' (fun tm σ hE hH => ?_); refine SC.app ?_ hE hH; clear hE hH; clear tm σ)
              | refine SC_ret (fun tm σ hE hH => Post.intro (Hn := []) (.inr rfl) hE hH (by rfl) trivial List.nodup_nil (fun p hp => (by cases hp)) ?_)
              | fail)
            · have he : ps[q] = ps[i] := by assumption
              refine ⟨?_, rfl⟩
              rw [validB_f (fun hv => by
                have hnd := (hv.2.2.2 _ (List.getElem_mem hlt)).2
                rw [hpsd] at hnd
                exact absurd he (List.pairwise_iff_getElem.1 hnd q i (by omega) hilt hqlt))]
              rfl
            · have he : ps[q] ≠ ps[i] := by assumption
              refine SL_nil fun tm σ hE hH => ⟨q + 1, by omega, ⟨by omega, ?_⟩, tm, σ, rfl, hE.sub ⟨rfl, rfl, rfl, rfl, rfl, rfl, rfl, trivial⟩, hH.sub ⟨.head _, trivial⟩ (by simp)⟩
              rw [List.take_succ_eq_append_getElem (by omega), List.mem_append, List.mem_singleton]
              rintro (hm | hm)
              · exact hq2 hm
              · exact he hm.symm
          · obtain rfl : q = i := by omega
            repeat' (first
              | refine SC_seq ?_
              | refine SC_region ?_
              | refine SL_seq ?_
              | refine SL_move (by decide) (by rfl) ?_
              | refine SL_assign (by decide) (by rfl) ?_
              | refine SL_add (by decide) (by rfl) (by rfl) (by omega) (by omega) ?_
              | (refine SL_lss (by decide) (by rfl) (by rfl) (fun hT => ?_) (fun hT => ?_) <;> first | (exfalso; omega) | skip)
              | refine SC_cond_f (by rfl) ?_
              | (refine SC_exit (fun tm σ hE hH => ?_); refine SC.app ?_ hE hH; clear hE hH; clear tm σ)
              | fail)
            refine SL_nil fun tm σ hE hH => ⟨q + 1, by omega, ⟨by omega, ?_⟩, tm, σ, rfl, hE.sub ⟨rfl, rfl, rfl, rfl, rfl, rfl, trivial⟩, hH.sub ⟨.head _, trivial⟩ (by simp)⟩
            rw [List.take_succ_eq_append_getElem hilt, List.nodup_append]
            refine ⟨hi2, by simp, fun a ha b hb e => ?_⟩
            rw [List.mem_singleton] at hb
            subst hb e
            exact hq2 ha
        · obtain rfl : i = ps.length := by omega
          rw [List.take_length] at hi2
          repeat' (first
            | refine SC_seq ?_
            | refine SC_region ?_
            | refine SL_seq ?_
            | refine SL_move (by decide) (by rfl) ?_
            | refine SL_assign (by decide) (by rfl) ?_
            | refine SL_add (by decide) (by rfl) (by rfl) (by omega) (by omega) ?_
            | (refine SL_lss (by decide) (by rfl) (by rfl) (fun hT => ?_) (fun hT => ?_) <;> first | (exfalso; omega) | skip)
            | refine SL_len_sl (by decide) (by rfl) (by rfl) (sliceOf_spec (slF (by rfl))).1 ?_
            | refine SC_cond_f (by rfl) ?_
            | (refine SC_exit (fun tm σ hE hH => ?_); refine SC.app ?_ hE hH; clear hE hH; clear tm σ)
            | fail)
          refine SL_nil fun tm σ hE hH => ⟨k + 1, by omega, ⟨by omega, r_next hlt hk2 ⟨hj2, by rw [hpsd]; exact hi2⟩⟩, tm, σ, rfl, hE.sub ⟨rfl, rfl, rfl, rfl, trivial⟩, hH.sub trivial List.nodup_nil⟩
  ·
    repeat' (first
      | refine SC_seq ?_
      | refine SC_region ?_
      | refine SL_seq ?_
      | refine SL_move (by decide) (by rfl) ?_
      | refine SL_assign (by decide) (by rfl) ?_
      | (refine SL_lss (by decide) (by rfl) (by rfl) (fun hT => ?_) (fun hT => ?_) <;> first | (exfalso; omega) | skip)
      | refine SL_len_v (by decide) (by rfl) (by assumption) (by rfl) (slF (by rfl)) (by simp only [List.length_map]; first | rfl | assumption) ?_
      | refine SC_cond_f (by rfl) ?_
      | (refine SC_exit (fun tm σ hE hH => ?_); refine SC.app ?_ hE hH; clear hE hH; clear tm σ)
      | refine SC_ret (fun tm σ hE hH => Post.intro (Hn := []) (.inr rfl) hE hH (by rfl) trivial List.nodup_nil (fun p hp => (by cases hp)) ?_)
      | fail)
    refine ⟨?_, rfl⟩
    rw [validB_t ⟨by omega, by omega, by omega, fun gs hgs => hk2 gs (by rw [List.take_of_length_le (by omega)]; exact hgs)⟩]
    rfl
end Go.Proofs.Ytldckcopeiginaa
/- few and its like. -/
namespace Go.Proofs.Ytldckcopeiginaa
open Go.Ab
attribute [local irreducible] SC SL wpc wpl wpd wpf wpy wpn FnC
set_option maxRecDepth 100000
theorem List.mem_take_of_lt {α : Type} {l : List α} {k n : Nat} (h : k < l.length) (hn : k < n) : l[k] ∈ l.take n := by
  rw [List.mem_take_iff_getElem]
  exact ⟨k, by omega, rfl⟩
theorem few_fn {G : Gl} {rs : List (List Sc)} {ra : AV} {xs : List AV} (h : RV rs ra xs) (g : Int) (ho : G.orc 8 [ra, .s (.int .i64 g)] = none) :
    FnC Try.prog G 8 [ra, .s (.int .i64 g)] [] (fun v Hn => v = .s (.bool (fewB rs g)) ∧ Hn = []) := by
  have hsl := h.sl
  have hlen := h.len
  have hbig := h.big
  refine Fn_body (N := 26) ho Try.func8 rfl rfl fun B => ?_
  repeat' (first
    | refine SC_seq ?_
    | refine SC_block ?_
    | refine SC_region ?_
    | refine SL_seq ?_
    | refine SL_assign (by decide) (by rfl) ?_
    | fail)
  refine SC_loop (fun k : Nat => [(0, ra), (1, .s (.int .i64 g)), (4, .s (.bool false)), (5, .s (.int .i64 k))]) (fun _ => []) (fun _ => []) (fun k => k ≤ rs.length ∧ k ≤ 32 ∧ ∀ gs ∈ rs.take k, (gs.length : Int) ≤ g) (fun k => rs.length - k) 0 ⟨by omega, by omega, by simp⟩ ⟨rfl, rfl, rfl, rfl, trivial⟩ trivial List.nodup_nil rfl ?_
  rintro k ⟨hk1, hk2, hk3⟩
  by_cases hlt : k < rs.length
  · obtain ⟨x, hx, hgx⟩ := h.row hlt
    unfold GV at hgx
    repeat' (first
      | refine SC_seq ?_
      | refine SC_block ?_
      | refine SC_region ?_
      | refine SL_seq ?_
      | refine SL_run (by rfl) (by rfl) ?_
      | refine SL_move (by decide) (by rfl) ?_
      | refine SL_assign (by decide) (by rfl) ?_
      | refine SL_pick_t (by decide) (by rfl) (by rfl) ?_
      | refine SL_add (by decide) (by rfl) (by rfl) (by omega) (by omega) ?_
      | (refine SL_lss (by decide) (by rfl) (by rfl) (fun hT => ?_) (fun hT => ?_) <;> first | (exfalso; omega) | skip)
      | (refine SL_leq (by decide) (by rfl) (by rfl) (fun hT => ?_) (fun hT => ?_) <;> first | (exfalso; omega) | skip)
      | (refine SL_gtr (by decide) (by rfl) (by rfl) (fun hT => ?_) (fun hT => ?_) <;> first | (exfalso; omega) | skip)
      | refine SL_len_v (by decide) (by rfl) (by assumption) (by rfl) (slF (by rfl)) (by simp only [List.length_map]; first | rfl | assumption) ?_
      | refine SL_indexAddr_v (by decide) (by rfl) (by rfl) (by assumption) (slF (by rfl)) _ (by first | rfl | exact (Int.toNat_of_nonneg (by omega)).symm) (by simp only [List.length_map]; omega) (fun ad => ?_)
      | refine SL_load_r (by decide) (by rfl) (rowF (by rfl)) (by first | assumption | rfl) (by rfl) ?_
      | refine SC_cond_t (by rfl) ?_
      | refine SC_cond_f (by rfl) ?_
      | (refine SC_exit (fun tm σ hE hH => ?_); refine SC.app ?_ hE hH; clear hE hH; clear tm σ)
      | (refine SC_skip' (fun tm σ hE hH => ?_); refine SC.app ?_ hE hH; clear hE hH; clear tm σ)
      | refine SC_ret (fun tm σ hE hH => Post.intro (Hn := []) (.inr rfl) hE hH (by rfl) trivial List.nodup_nil (fun p hp => (by cases hp)) ?_)
      | fail)
    · refine ⟨?_, rfl⟩
      have hb : fewB rs g = false := by
        unfold fewB
        rw [Bool.and_eq_false_iff]; left
        rw [decide_eq_false_iff_not]
        intro hall
        have := hall rs[k] (List.mem_take_of_lt hlt (by omega))
        omega
      rw [hb]; rfl
    · refine SL_nil fun tm σ hE hH => ⟨k + 1, by omega, ⟨by omega, by omega, ?_⟩, tm, σ, rfl, hE.sub ⟨rfl, rfl, rfl, rfl, trivial⟩, hH.sub trivial List.nodup_nil⟩
      intro gs hgs
      rw [List.take_succ_eq_append_getElem hlt, List.mem_append] at hgs
      rcases hgs with hgs | hgs
      · exact hk3 gs hgs
      · rw [List.mem_singleton] at hgs
        subst hgs; omega
    · refine ⟨?_, rfl⟩
      have hb : fewB rs g = false := by
        unfold fewB
        rw [Bool.and_eq_false_iff]; right
        rw [decide_eq_false_iff_not]
        omega
      rw [hb]; rfl
  ·
    repeat' (first
      | refine SC_seq ?_
      | refine SC_region ?_
      | refine SL_seq ?_
      | refine SL_not (by rfl) (by rfl) (by rfl) (by decide) ?_
      | refine SL_move (by decide) (by rfl) ?_
      | refine SL_assign (by decide) (by rfl) ?_
      | refine SL_pick_f (by decide) (by rfl) (by rfl) ?_
      | (refine SL_lss (by decide) (by rfl) (by rfl) (fun hT => ?_) (fun hT => ?_) <;> first | (exfalso; omega) | skip)
      | (refine SL_leq (by decide) (by rfl) (by rfl) (fun hT => ?_) (fun hT => ?_) <;> first | (exfalso; omega) | skip)
      | refine SL_len_v (by decide) (by rfl) (by assumption) (by rfl) (slF (by rfl)) (by simp only [List.length_map]; first | rfl | assumption) ?_
      | refine SC_cond_f (by rfl) ?_
      | (refine SC_exit (fun tm σ hE hH => ?_); refine SC.app ?_ hE hH; clear hE hH; clear tm σ)
      | refine SC_ret (fun tm σ hE hH => Post.intro (Hn := []) (.inr rfl) hE hH (by rfl) trivial List.nodup_nil (fun p hp => (by cases hp)) ?_)
      | fail)
    · refine ⟨?_, rfl⟩
      have hb : fewB rs g = true := by
        unfold fewB
        rw [Bool.and_eq_true, decide_eq_true_eq, decide_eq_true_eq]
        refine ⟨fun gs hgs => hk3 gs ?_, by omega⟩
        rw [List.take_of_length_le (by omega)] at hgs ⊢
        exact hgs
      rw [hb]; rfl
    · refine ⟨?_, rfl⟩
      have hb : fewB rs g = false := by
        unfold fewB
        rw [Bool.and_eq_false_iff]; right
        rw [decide_eq_false_iff_not]
        omega
      rw [hb]; rfl
end Go.Proofs.Ytldckcopeiginaa
/- TiebreakFields, walked. -/
namespace Go.Proofs.Ytldckcopeiginaa
open Go Go.Ab
theorem apart2 {H : List (Nat × AObj)} {a b o : Nat} {x y : AObj} {ob : AObj} (h : (((a, x) :: (b, y) :: H).map (·.1)).Nodup) (hm : (o, ob) ∈ H) : o ∉ [] ++ [a, b] := fun hh => by
  have hk : o ∈ H.map (·.1) := List.mem_map.2 ⟨_, hm, rfl⟩
  simp only [List.map_cons, List.nodup_cons, List.mem_cons, not_or] at h
  simp only [List.nil_append, List.mem_cons, List.not_mem_nil, or_false] at hh
  rcases hh with rfl | rfl
  · exact h.1.2 hk
  · exact h.2.1 hk
theorem MetIn.slh {H : List (Nat × AObj)} {m : AV} {met : List Int} (h : MetIn H m met) : SlH H 1 m (ints met) := by
  rcases h with ⟨rfl, rfl⟩ | ⟨o, rfl, h⟩
  · exact .v .nil
  · exact .o h (ints_len _)
theorem MetIn.cell {H : List (Nat × AObj)} {m : AV} {met : List Int} (h : MetIn H m met) : isCell m = true := by
  rcases h with ⟨rfl, rfl⟩ | ⟨o, rfl, h⟩ <;> rfl
attribute [local irreducible] SC SL wpc wpl wpd wpf wpy wpn FnC FnW RdW SD
set_option maxRecDepth 100000
set_option maxHeartbeats 4000000
theorem few_all7 {rs : List (List Sc)} (h : fewB rs 12 = true) : ∀ gs ∈ rs, gs.length ≤ 12 := by
  unfold fewB at h
  rw [Bool.and_eq_true, decide_eq_true_eq, decide_eq_true_eq] at h
  intro gs hgs
  have := h.1 gs (by rw [List.take_of_length_le (by omega)]; exact hgs)
  omega
theorem law7_fn {names : List ByteArray} {ratings : List Int} {rs : List (List Sc)} {na ra rv : AV} {xs : List AV} (hn : SlV 1 na (strs names)) (hr : SlV 1 ra (ints ratings)) (h : RV rs rv xs) (hnb0 : names.length ≤ 9223372036854775807) (hrb0 : ratings.length ≤ 9223372036854775807) (hsb : ∀ s ∈ names, s.size ≤ 9223372036854775807) :
    FnC Try.prog glf 7 [na, ra, rv] [] (fun v Hn => v = .s (.bool true) ∧ Hn = []) := by
  have hsl := h.sl
  have hlen := h.len
  have hbig := h.big
  have hxl : (xs.map fun x => [x]).length = rs.length := by rw [List.length_map, hlen]
  have h9 : FnC Try.prog glf 9 [] [] (fun v Hn => v = .s (.bool true) ∧ Hn = []) := Fn_orc rfl ⟨rfl, rfl⟩
  have h8 := few_fn (G := glf) h 12 (glf_off (by decide) (by decide))
  refine Fn_body (N := 274) (glf_off (by decide) (by decide)) Try.func7 rfl rfl fun B => ?_
  have good : ∀ {tm : Tm} {σ : AS} {L : List (Nat × AV)} {H : List (Nat × AObj)}, En tm 274 L → He B [] σ H [] → resL L Try.f7.results.toList = some [.s (.bool true)] → Post Try.prog B Try.f7 (fun v Hn => v = .s (.bool true) ∧ Hn = []) .ret ⟨tm, [], σ⟩ := fun hE hH hres =>
    Post.intro (Hn := []) (.inr rfl) hE hH hres trivial List.nodup_nil (fun p hp => (by cases hp)) ⟨rfl, rfl⟩
  cases hfew : fewB rs 12 with
  | false =>
    rw [hfew] at h8
    repeat' (first
      | (refine SL_call (by decide) (by rfl) bd9 (by rfl) (by rfl) (h9) trivial List.nodup_nil ?_; rintro _ _ _ ⟨rfl, rfl⟩; rw [List.nil_append])
      | (refine SL_call (by decide) (by rfl) bd8 (by rfl) (by rfl) (h8) trivial List.nodup_nil ?_; rintro _ _ _ ⟨rfl, rfl⟩; rw [List.nil_append])
      | refine SC_seq ?_
      | refine SC_region ?_
      | refine SL_seq ?_
      | refine SL_not (by rfl) (by rfl) (by rfl) (by decide) ?_
      | refine SL_move (by decide) (by rfl) ?_
      | refine SL_assign (by decide) (by rfl) ?_
      | refine SL_pick_t (by decide) (by rfl) (by rfl) ?_
      | refine SL_not_op (by decide) (by rfl) ?_
      | refine SC_cond_t (by rfl) ?_
      | fail)
    exact SC_ret fun tm σ hE hH => good hE hH (by rfl)
  | true =>
    rw [hfew] at h8
    have hf := few_all7 hfew
    repeat' (first
      | refine SL_len_v (by decide) (by rfl) hsl (by rfl) (slF (by rfl)) hxl ?_
      | refine SL_len_v (by decide) (by rfl) hr (by rfl) (slF (by rfl)) (ints_len _) ?_
      | refine SL_len_v (by decide) (by rfl) hn (by rfl) (slF (by rfl)) (strs_len _) ?_
      | (refine SL_call (by decide) (by rfl) bd9 (by rfl) (by rfl) (h9) trivial List.nodup_nil ?_; rintro _ _ _ ⟨rfl, rfl⟩; rw [List.nil_append])
      | (refine SL_call (by decide) (by rfl) bd8 (by rfl) (by rfl) (h8) trivial List.nodup_nil ?_; rintro _ _ _ ⟨rfl, rfl⟩; rw [List.nil_append])
      | refine SC_seq ?_
      | refine SC_block ?_
      | refine SC_region ?_
      | refine SL_seq ?_
      | refine SL_run (by rfl) (by rfl) ?_
      | refine SL_not (by rfl) (by rfl) (by rfl) (by decide) ?_
      | refine SL_move (by decide) (by rfl) ?_
      | refine SL_assign (by decide) (by rfl) ?_
      | refine SL_pick_t (by decide) (by rfl) (by rfl) ?_
      | refine SL_pick_f (by decide) (by rfl) (by rfl) ?_
      | refine SL_not_op (by decide) (by rfl) ?_
      | (refine SL_gtr (by decide) (by rfl) (by rfl) (fun hT => ?_) (fun hT => ?_) <;> first | (exfalso; omega) | skip)
      | refine SC_cond_t (by rfl) ?_
      | refine SC_cond_f (by rfl) ?_
      | (refine SC_skip' (fun tm σ hE hH => ?_); refine SC.app ?_ hE hH; clear hE hH; clear tm σ)
      | fail)
    all_goals try exact SC_ret fun tm σ hE hH => good hE hH (by rfl)
    have hrs : rs.length ≤ 10 := by omega
    have hnl : names.length ≤ 14 := by omega
    have hrl : ratings.length ≤ 14 := by omega
    refine SC_loop (fun k : Nat => [(0, na), (1, ra), (2, rv), (7, .s (.int .i64 k))]) (fun _ => []) (fun _ => []) (fun k => k ≤ names.length ∧ ∀ (i : Nat) (hi : i < names.length), i < k → names[i].size ≤ 60) (fun k => names.length - k) 0 ⟨by omega, fun i hi h0 => by omega⟩ ⟨rfl, rfl, rfl, rfl, trivial⟩ trivial List.nodup_nil rfl ?_
    rintro k ⟨hk, hkn⟩
    by_cases hlt : k < names.length
    · have hsk := hsb _ (List.getElem_mem hlt)
      repeat' (first
        | refine SL_indexAddr_v (by decide) (by rfl) (by rfl) hn (slF (by rfl)) k (by rfl) (by rw [strs_len]; omega) (fun ad => ?_)
        | refine SL_len_s (by decide) (by rfl) (by rfl) Try.underlying9 ?_
        | refine SL_len_v (by decide) (by rfl) hn (by rfl) (slF (by rfl)) (strs_len _) ?_
        | (refine SL_call (by decide) (by rfl) bd9 (by rfl) (by rfl) (h9) trivial List.nodup_nil ?_; rintro _ _ _ ⟨rfl, rfl⟩; rw [List.nil_append])
        | refine SC_seq ?_
        | refine SC_block ?_
        | refine SC_region ?_
        | refine SL_seq ?_
        | refine SL_move (by decide) (by rfl) ?_
        | refine SL_assign (by decide) (by rfl) ?_
        | refine SL_add (by decide) (by rfl) (by rfl) (by omega) (by omega) ?_
        | (refine SL_lss (by decide) (by rfl) (by rfl) (fun hT => ?_) (fun hT => ?_) <;> first | (exfalso; omega) | skip)
        | (refine SL_gtr (by decide) (by rfl) (by rfl) (fun hT => ?_) (fun hT => ?_) <;> first | (exfalso; omega) | skip)
        | refine SL_load_r (by decide) (by rfl) (rowF (by rfl)) (by first | assumption | rfl | exact strs_get _ (by omega)) (by rfl) ?_
        | refine SC_cond_t (by rfl) ?_
        | refine SC_cond_f (by rfl) ?_
        | (refine SC_skip' (fun tm σ hE hH => ?_); refine SC.app ?_ hE hH; clear hE hH; clear tm σ)
        | fail)
      · exact SC_ret fun tm σ hE hH => good hE hH (by rfl)
      · exact SL_nil fun tm σ hE hH => ⟨k + 1, by omega, ⟨by omega, fun i hi h0 => (by
          by_cases e : i = k
          · subst e; omega
          · exact hkn i hi (by omega))⟩, tm, σ, rfl, hE.sub ⟨rfl, rfl, rfl, rfl, trivial⟩, hH⟩
    · obtain rfl : k = names.length := by omega
      have hnb : ∀ s ∈ names, s.size ≤ 1000 := fun s hs => by
        obtain ⟨i, hi, rfl⟩ := List.getElem_of_mem hs
        have := hkn i hi hi
        omega
      have h21 := field_fn hn hr h hf hrs hnl hrl hnb
      repeat' (first
        | (refine SL_call (by decide) (by rfl) bd14 (by rfl) (by rfl) (lawScores_fn h hf hV.2 (glf_off (by decide) (by decide)) (fun _ _ => glf_off (by decide) (by decide))) trivial List.nodup_nil ?_; rintro _ _ hB14 ⟨sc, rfl, rfl⟩; simp only [List.cons_append, List.nil_append])
        | (refine SL_callb (by decide) (by rfl) bd12 (by rfl) (by rfl) (lawValid_fn h hf _ (glf_off (by decide) (by decide))) (fun hB => ?_) (fun hB => ?_))
        | (refine SL_call (by decide) (by rfl) bd21 (by rfl) (by rfl) h21 trivial List.nodup_nil ?_; intro v21 Hl hB21 hR21; obtain ⟨hnV, rfl, rfl⟩ | ⟨hV, fl, hF, ⟨hv, fa, rfl, hEn⟩ | ⟨hv, rfl, rfl⟩⟩ := hR21 <;> simp only [List.nil_append, List.append_nil])
        | refine SL_len_v (by decide) (by rfl) hr (by rfl) (slF (by rfl)) (ints_len _) ?_
        | refine SL_len_v (by decide) (by rfl) hn (by rfl) (slF (by rfl)) (strs_len _) ?_
        | (refine SL_call (by decide) (by rfl) bd9 (by rfl) (by rfl) (h9) trivial List.nodup_nil ?_; rintro _ _ _ ⟨rfl, rfl⟩; rw [List.nil_append])
        | refine SC_seq ?_
        | refine SC_block ?_
        | refine SC_region ?_
        | refine SL_seq ?_
        | refine SL_run (by rfl) (by rfl) ?_
        | refine SL_not (by rfl) (by rfl) (by rfl) (by decide) ?_
        | refine SL_move (by decide) (by rfl) ?_
        | refine SL_assign (by decide) (by rfl) ?_
        | refine SL_pick_t (by decide) (by rfl) (by rfl) ?_
        | refine SL_pick_f (by decide) (by rfl) (by rfl) ?_
        | refine SL_not_op (by decide) (by rfl) ?_
        | (refine SL_lss (by decide) (by rfl) (by rfl) (fun hT => ?_) (fun hT => ?_) <;> first | (exfalso; omega) | skip)
        | (refine SL_eql (by decide) (by rfl) (by rfl) (fun hT => ?_) (fun hT => ?_) <;> first | (exfalso; omega) | skip)
        | (refine SL_neq (by decide) (by rfl) (by rfl) (fun hT => ?_) (fun hT => ?_) <;> first | (exfalso; omega) | skip)
        | refine SL_extract_tup (by decide) (by rfl) (by rfl) ?_
        | refine SL_extract_s (by decide) (by rfl) (by rfl) ?_
        | refine SL_len_0 (by decide) (by rfl) (by rfl) (sliceOf_spec (slF (by rfl))).1 ?_
        | refine SC_cond_t (by rfl) ?_
        | refine SC_cond_f (by rfl) ?_
        | (refine SC_exit (fun tm σ hE hH => ?_); refine SC.app ?_ hE hH; clear hE hH; clear tm σ)
        | (refine SC_skip' (fun tm σ hE hH => ?_); refine SC.app ?_ hE hH; clear hE hH; clear tm σ)
        | fail)
      all_goals try exact SC_ret fun tm σ hE hH => good hE hH (by rfl)
      · exact absurd ⟨by omega, validB_of (by assumption)⟩ hnV
      · have hF1 := hF.1
        obtain ⟨ol, msl, rfl, hmL0, hll, hmml⟩ := hEn
        refine SC_nd fun hnd0 => ?_
        refine SC.sub (want_sc hn hr h hf hrs hnl hrl hV (B := B) (lv := .sl ol 0 fl.length none) (ev := .s (.int .i64 0)) (sc := sc) (Hl := Hl) hnd0 (fun wl wa Hd hFw hOw hBw hndw tm σ hE hH => ?_)) ⟨rfl, rfl, rfl, rfl, rfl, rfl, rfl, rfl, trivial⟩
        refine SC.app ?_ hE hH
        clear hE hH
        clear tm σ
        obtain rfl : wl = fl := FieldOf.uniq (Nat.le_refl _) (by omega) hFw hF
        obtain ⟨hEw, _⟩ := hOw.ents (by have := hV.2.1; omega)
        have hbd := hF.bounds (Nat.le_refl _) (by omega) hnl hnb
        obtain ⟨ow, msw, rfl, hmW0, hlw, hmmw⟩ := hEw
        have hndd : (Hd.map (·.1)).Nodup := by
          rw [List.map_append, List.nodup_append] at hndw
          exact hndw.1
        have hval := val_fn (H := Hd) (l := wl) ⟨_, _, _, _, rfl⟩ fun σ hg => ⟨EntsIn.own ⟨ow, msw, rfl, hmW0, hlw, hmmw⟩ hg, hbd⟩
        rw [hv] at hval
        have hmW : (ow, AObj.cells 54 8 false (List.zipWith enRow wl msw)) ∈ Hd ++ Hl := List.mem_append_left _ hmW0
        have hmL : (ol, AObj.cells 54 8 false (List.zipWith enRow wl msl)) ∈ Hd ++ Hl := List.mem_append_right _ hmL0
        repeat' (first
          | (refine SL_call (by decide) (by rfl) bd24 (by rfl) (by rfl) hval (.of_mem fun p hp => List.mem_append_left _ hp) hndd ?_; rintro _ _ _ ⟨rfl, rfl⟩; rw [List.nil_append])
          | refine SC_seq ?_
          | refine SC_block ?_
          | refine SC_region ?_
          | refine SL_seq ?_
          | refine SL_run (by rfl) (by rfl) ?_
          | refine SL_move (by decide) (by rfl) ?_
          | refine SL_assign (by decide) (by rfl) ?_
          | refine SL_pick_f (by decide) (by rfl) (by rfl) ?_
          | refine SL_not_op (by decide) (by rfl) ?_
          | (refine SL_neq (by decide) (by rfl) (by rfl) (fun hT => ?_) (fun hT => ?_) <;> first | (exfalso; omega) | skip)
          | refine SL_len_sl (by decide) (by rfl) (by rfl) (sliceOf_spec (slF (by rfl))).1 ?_
          | refine SC_cond_f (by rfl) ?_
          | (refine SC_skip' (fun tm σ hE hH => ?_); refine SC.app ?_ hE hH; clear hE hH; clear tm σ)
          | fail)
        refine SC_loop (fun i : Nat => [(8, .sl ol 0 wl.length none), (11, .sl ow 0 wl.length none), (19, .s (.int .i64 i))]) (fun _ => Hd ++ Hl) (fun _ => []) (fun i => i ≤ wl.length) (fun i => wl.length - i) 0 (by omega) ⟨rfl, rfl, rfl, trivial⟩ (.refl _) hndw rfl ?_
        intro i hi
        by_cases hilt : i < wl.length
        · obtain ⟨mL, emL, hrL⟩ : ∃ m, m = msl[i]'(by omega) ∧ (List.zipWith enRow wl msl)[i]? = some (enRow wl[i] m) := ⟨_, rfl, by rw [List.getElem?_zipWith, List.getElem?_eq_getElem hilt, List.getElem?_eq_getElem (by omega)]⟩
          obtain ⟨mW, emW, hrW⟩ : ∃ m, m = msw[i]'(by omega) ∧ (List.zipWith enRow wl msw)[i]? = some (enRow wl[i] m) := ⟨_, rfl, by rw [List.getElem?_zipWith, List.getElem?_eq_getElem hilt, List.getElem?_eq_getElem (by omega)]⟩
          have hmLi := hmml i hilt (by omega)
          have hmWi := hmmw i hilt (by omega)
          rw [← emL] at hmLi
          rw [← emW] at hmWi
          have hmLi2 : MetIn (Hd ++ Hl) mL wl[i].met := hmLi.mono fun p hp => List.mem_append_right _ hp
          have hmWi2 : MetIn (Hd ++ Hl) mW wl[i].met := hmWi.mono fun p hp => List.mem_append_left _ hp
          obtain ⟨met, hmt1, hmt2, hmt3⟩ := hF.2 i hilt (by omega) (by omega)
          have hmt4 : wl[i].met.length ≤ 1000 := by rw [hmt3]; exact hmt2
          have h13 := same2_fn hmLi2.slh hmWi2.slh hmt4
          have hcL := hmLi.cell
          have hcW := hmWi.cell
          repeat' (first
            | (refine SL_call (by decide) (by rfl) bd13 (by rfl) (by rfl) h13 (.of_mem fun p hp => .tail _ (.tail _ hp)) hndw ?_; rintro _ _ _ ⟨rfl, rfl⟩; rw [List.nil_append])
            | (refine SL_bneq (by decide) (by rfl) (by rfl) (by generalize Ent.bye wl[i] = bb; cases bb <;> kernel_rfl) ?_; rw [bne_self_eq_false])
            | (refine SL_sneq (by decide) (by rfl) (by rfl) (fun hS => ?_) (fun hS => ?_); focus (exact absurd rfl hS))
            | refine SL_load_o (by decide) (by rfl) (by repeat (first | exact .head _ | refine .tail _ ?_)) (rowF (by rfl)) (by rfl) (by rfl) ?_
            | refine SL_store_box (by rfl) (by rfl) (cells_mk _) (by repeat (first | exact .head | apply Upd.tail)) (.inr (by simp)) (by rfl) (szF (by rfl)) (en_cell (by assumption)) ?_
            | refine SL_load_or (by decide) (by rfl) hmW (rowF (by rfl)) hrW (Nat.le_of_ble_eq_true (by rfl)) (en_take _ _) ?_
            | refine SL_load_or (by decide) (by rfl) hmL (rowF (by rfl)) hrL (Nat.le_of_ble_eq_true (by rfl)) (en_take _ _) ?_
            | refine SL_indexAddr_0 (by decide) (by rfl) (by rfl) hmL (slF (by rfl)) i (by rfl) (by omega) ?_
            | refine SL_indexAddr_0 (by decide) (by rfl) (by rfl) hmW (slF (by rfl)) i (by rfl) (by omega) ?_
            | (refine SL_nil (fun tm σ hE hH => ⟨tm, σ, _, _, rfl, hE, hH, ?_⟩); clear hE hH; clear tm σ)
            | (refine SJ_nil (fun tm σ hE hH => ?_); refine SC.app ?_ hE hH; clear hE hH; clear tm σ)
            | (refine SJ_nd fun hndj => ?_; refine SJ_turn (i := 10) [] (fun j hj => by cases hj) (fun j hj => by cases hj) hbB (by rfl) (by rfl) (by rfl) (fun k hk => by simp at hk; rcases hk with rfl | rfl <;> exact ⟨ow, by simp, apart2 hndj hmW, howb⟩) ?_)
            | (refine SJ_alloc (i := 9) (by rfl) (by decide) (by rfl) (by rfl) (zeroF (by rfl)) (fun x21 hx21 => ?_))
            | (refine SJ_alloc (i := 8) (by rfl) (by decide) (by rfl) (by rfl) (zeroF (by rfl)) (fun x20 hx20 => ?_))
            | (refine SJ_look (i := 7) ow (by rfl) (by rfl) (by rfl) (by rfl) (fun h => by cases h) howb hbB (by rfl) (by rfl) ?_)
            | (refine SJ_look (i := 6) ow (by rfl) (by rfl) (by rfl) (by rfl) (fun h => by cases h) howb hbB (by rfl) (by rfl) ?_)
            | (refine SJ_op (by rfl) (by rfl) (by rfl) ?_)
            | (refine SC_drawP (id := 43) [(0, []), (1, []), (2, []), (3, []), (4, []), (5, []), (6, []), (7, []), (8, []), (9, []), (10, [7, 6]), (11, [])] (by kernel_rfl) (fun B2 base hBB hold hbB => ?_); have howb : ow < base := hold (ow, _) hmW)
            | refine SC_seq ?_
            | refine SC_block ?_
            | refine SC_region ?_
            | refine SL_seq ?_
            | refine SL_run (by rfl) (by rfl) ?_
            | refine SL_move (by decide) (by rfl) ?_
            | refine SL_assign (by decide) (by rfl) ?_
            | refine SL_pick_f (by decide) (by rfl) (by rfl) ?_
            | refine SL_not_op (by decide) (by rfl) ?_
            | refine SL_add (by decide) (by rfl) (by rfl) (by omega) (by omega) ?_
            | (refine SL_lss (by decide) (by rfl) (by rfl) (fun hT => ?_) (fun hT => ?_) <;> first | (exfalso; omega) | skip)
            | (refine SL_neq (by decide) (by rfl) (by rfl) (fun hT => ?_) (fun hT => ?_) <;> first | (exfalso; omega) | skip)
            | refine SL_fieldAddr (by decide) (by rfl) (fldF (by rfl)) ?_
            | refine SL_len_sl (by decide) (by rfl) (by rfl) (sliceOf_spec (slF (by rfl))).1 ?_
            | refine SC_cond_t (by rfl) ?_
            | refine SC_cond_f (by rfl) ?_
            | (refine SC_skip' (fun tm σ hE hH => ?_); refine SC.app ?_ hE hH; clear hE hH; clear tm σ)
            | fail)
          exact SL_nil fun tm σ hE hH => ⟨i + 1, by omega, by omega, tm, σ, rfl, hE.sub ⟨rfl, rfl, rfl, trivial⟩, hH.sub (.of_mem fun p hp => .tail _ (.tail _ hp)) hndw⟩
        · obtain rfl : i = wl.length := by omega
          repeat' (first
            | (refine SL_call (by decide) (by rfl) bd9 (by rfl) (by rfl) (h9) trivial List.nodup_nil ?_; rintro _ _ _ ⟨rfl, rfl⟩; rw [List.nil_append])
            | refine SC_seq ?_
            | refine SC_region ?_
            | refine SL_seq ?_
            | refine SL_move (by decide) (by rfl) ?_
            | refine SL_assign (by decide) (by rfl) ?_
            | (refine SL_lss (by decide) (by rfl) (by rfl) (fun hT => ?_) (fun hT => ?_) <;> first | (exfalso; omega) | skip)
            | refine SL_len_sl (by decide) (by rfl) (by rfl) (sliceOf_spec (slF (by rfl))).1 ?_
            | refine SC_cond_f (by rfl) ?_
            | (refine SC_exit (fun tm σ hE hH => ?_); refine SC.app ?_ hE hH; clear hE hH; clear tm σ)
            | fail)
          exact SC_ret fun tm σ hE hH => good hE hH (by rfl)
      · exfalso
        have hB' : validB names.length rs = false := by assumption
        rw [validB_t hV.2] at hB'
        cases hB'
      · have hF1 := hF.1
        refine SC_nd fun hnd0 => ?_
        refine SC.sub (want_sc hn hr h hf hrs hnl hrl hV (B := B) (lv := .s (.slice none 0 0)) (ev := .s (.int .i64 2)) (sc := sc) (Hl := []) hnd0 (fun wl wa Hd hFw hOw hBw hndw tm σ hE hH => ?_)) ⟨rfl, rfl, rfl, rfl, rfl, rfl, rfl, rfl, trivial⟩
        refine SC.app ?_ hE hH
        clear hE hH
        clear tm σ
        obtain rfl : wl = fl := FieldOf.uniq (Nat.le_refl _) (by omega) hFw hF
        obtain ⟨hEw, _⟩ := hOw.ents (by have := hV.2.1; omega)
        have hbd := hF.bounds (Nat.le_refl _) (by omega) hnl hnb
        obtain ⟨ow, msw, rfl, hmW0, hlw, hmmw⟩ := hEw
        have hndd : (Hd.map (·.1)).Nodup := by
          rw [List.map_append, List.nodup_append] at hndw
          exact hndw.1
        have hval := val_fn (H := Hd) (l := wl) ⟨_, _, _, _, rfl⟩ fun σ hg => ⟨EntsIn.own ⟨ow, msw, rfl, hmW0, hlw, hmmw⟩ hg, hbd⟩
        rw [hv] at hval
        repeat' (first
          | (refine SL_call (by decide) (by rfl) bd24 (by rfl) (by rfl) hval (.of_mem fun p hp => List.mem_append_left _ hp) hndd ?_; rintro _ _ _ ⟨rfl, rfl⟩; rw [List.nil_append])
          | (refine SL_call (by decide) (by rfl) bd9 (by rfl) (by rfl) (h9) trivial List.nodup_nil ?_; rintro _ _ _ ⟨rfl, rfl⟩; rw [List.nil_append])
          | refine SC_seq ?_
          | refine SC_region ?_
          | refine SL_seq ?_
          | refine SL_run (by rfl) (by rfl) ?_
          | refine SL_move (by decide) (by rfl) ?_
          | refine SL_assign (by decide) (by rfl) ?_
          | refine SL_pick_t (by decide) (by rfl) (by rfl) ?_
          | refine SL_not_op (by decide) (by rfl) ?_
          | (refine SL_eql (by decide) (by rfl) (by rfl) (fun hT => ?_) (fun hT => ?_) <;> first | (exfalso; omega) | skip)
          | refine SL_len_0 (by decide) (by rfl) (by rfl) (sliceOf_spec (slF (by rfl))).1 ?_
          | refine SC_cond_t (by rfl) ?_
          | fail)
        exact SC_ret fun tm σ hE hH => good hE hH (by rfl)
end Go.Proofs.Ytldckcopeiginaa
