/- Which boards are valid: the pieces. One piece. -/
import Derived.Test.YtnhnlkljcfbhfaaGreatDoorZe
import Derived.Test.YtnhnlkljcfbhfaaGreatDoorZc
import Derived.Test.YtnhnlkljcfbhfaaGreatDoorZd
namespace Go.Proofs.YtnhnlkljcfbhfaaGreatDoor
open Go Go.Ab
set_option maxRecDepth 100000
theorem bd35' : True := trivial
def prows (ps : List Int) : List (List AV) := ps.map fun p => [.s (.int .i8 p)]
theorem ps_get (ps : List Int) {k : Nat} (h : k < ps.length) : (ps.map fun p => [AV.s (.int .i8 p)])[k]? = some [.s (.int .i8 ps[k])] := by
  rw [List.getElem?_map, List.getElem?_eq_getElem h]; rfl
attribute [local irreducible] SC SL wpc wpl wpd wpf wpy wpn FnC FnW RdW SD
set_option pp.deepTerms false
set_option pp.maxSteps 900
set_option maxHeartbeats 2000000
theorem inv_t {G : Gl} (ho : ∀ a, G.orc 36 [a] = none) (ho' : ∀ a, G.orc 37 [a] = none) (n : Int) (h0 : -15 ≤ n) (h1 : n ≤ 15) : FnC Tryz.prog G 36 [.s (.int .i8 n)] [] (fun v Hn => v = .s (.bool false) ∧ Hn = []) := by
  have h37t := pieceV_t ho'
  have h37f := pieceV_f ho'
  refine Fn_body (N := 6) (ho _) Tryz.func36 rfl rfl fun B => ?_
  repeat' (first
    | (refine SL_call (by decide) (by rfl) bd37 (by rfl) (by rfl) (h37t _ (by omega) (by omega)) trivial List.nodup_nil ?_; rintro _ _ _ ⟨rfl, rfl⟩; rw [List.nil_append])
    | refine SC_seq ?_
    | refine SC_region ?_
    | refine SL_seq ?_
    | refine SL_move (by decide) (by rfl) ?_
    | refine SL_assign (by decide) (by rfl) ?_
    | refine SL_not_op (by decide) (by rfl) ?_
    | fail)
  refine SC_ret (fun tm σ hE hH => Post.intro (Hn := []) (.inr rfl) hE hH (by rfl) trivial List.nodup_nil (fun p hp => (by cases hp)) ?_)
  exact ⟨rfl, rfl⟩
theorem inv_f {G : Gl} (ho : ∀ a, G.orc 36 [a] = none) (ho' : ∀ a, G.orc 37 [a] = none) (n : Int) (h0 : n < -15 ∨ 15 < n) : FnC Tryz.prog G 36 [.s (.int .i8 n)] [] (fun v Hn => v = .s (.bool true) ∧ Hn = []) := by
  have h37t := pieceV_t ho'
  have h37f := pieceV_f ho'
  refine Fn_body (N := 6) (ho _) Tryz.func36 rfl rfl fun B => ?_
  repeat' (first
    | (refine SL_call (by decide) (by rfl) bd37 (by rfl) (by rfl) (h37f _ (by omega)) trivial List.nodup_nil ?_; rintro _ _ _ ⟨rfl, rfl⟩; rw [List.nil_append])
    | refine SC_seq ?_
    | refine SC_region ?_
    | refine SL_seq ?_
    | refine SL_move (by decide) (by rfl) ?_
    | refine SL_assign (by decide) (by rfl) ?_
    | refine SL_not_op (by decide) (by rfl) ?_
    | fail)
  refine SC_ret (fun tm σ hE hH => Post.intro (Hn := []) (.inr rfl) hE hH (by rfl) trivial List.nodup_nil (fun p hp => (by cases hp)) ?_)
  exact ⟨rfl, rfl⟩
abbrev fvf (n : Nat) : AV := .s (.func (.func n) #[] #[])
/-- All are pieces. -/
def OkPs (ps : List Int) : Prop := ∀ p ∈ ps, -15 ≤ p ∧ p ≤ 15
/-- What IndexFunc gives. -/
def IxR (ps : List Int) (v : AV) : Prop := ∃ k : Int, v = .s (.int .i64 k) ∧ (OkPs ps ∧ k = -1 ∨ ¬ OkPs ps ∧ 0 ≤ k)
theorem ix_v {G : Gl} {ps : List Int} {l : AV} (hsl0 : SlV 1 l (ps.map fun p => [AV.s (.int .i8 p)])) (hbig : ps.length ≤ 9223372036854775807) (ho : ∀ a b, G.orc 76 [a, b] = none) (ho' : ∀ a, G.orc 36 [a] = none) (ho'' : ∀ a, G.orc 37 [a] = none) :
    FnC Tryz.prog G 76 [l, fvf 36] [] (fun v Hn => IxR ps v ∧ Hn = []) := by
  have h36t := inv_t ho' ho''
  have h36f := inv_f ho' ho''
  have hsl : SlV 1 l (ps.map fun p => [AV.s (.int .i8 p)]) := hsl0
  unfold fvf
  refine Fn_body (N := 19) (ho _ _) Tryz.func76 rfl rfl fun B => ?_
  repeat' (first
    | refine SC_seq ?_
    | refine SC_block ?_
    | refine SC_region ?_
    | refine SL_seq ?_
    | refine SL_move (by decide) (by rfl) ?_
    | refine SL_assign (by decide) (by rfl) ?_
    | refine SL_len_v (by decide) (by rfl) (by assumption) (by rfl) (slF (by rfl)) (by simp only [List.length_map]; first | rfl | assumption) ?_
    | fail)
  refine SC_loop (fun k : Nat => [(0, l), (1, fvf 36), (7, .s (.int .i64 ps.length)), (8, .s (.int .i64 k))]) (fun _ => []) (fun _ => []) (fun k => k ≤ ps.length ∧ ∀ p ∈ ps.take k, -15 ≤ p ∧ p ≤ 15) (fun k => ps.length - k) 0 ⟨by omega, by simp⟩ ⟨rfl, rfl, rfl, rfl, trivial⟩ trivial List.nodup_nil rfl ?_
  rintro k ⟨hk1, hk2⟩
  by_cases hlt : k < ps.length
  · by_cases hv : -15 ≤ ps[k] ∧ ps[k] ≤ 15
    ·
      repeat' (first
        | (refine SL_call (by decide) (by rfl) bd36 (by rfl) (by rfl) (h36t _ (by omega) (by omega)) trivial List.nodup_nil ?_; rintro _ _ _ ⟨rfl, rfl⟩; rw [List.nil_append])
        | refine SC_seq ?_
        | refine SC_block ?_
        | refine SC_region ?_
        | refine SL_seq ?_
        | refine SL_move (by decide) (by rfl) ?_
        | refine SL_assign (by decide) (by rfl) ?_
        | refine SL_add (by decide) (by rfl) (by rfl) (by omega) (by omega) ?_
        | (refine SL_lss (by decide) (by rfl) (by rfl) (fun hT => ?_) (fun hT => ?_) <;> first | (exfalso; omega) | skip)
        | refine SL_indexAddr_v (by decide) (by rfl) (by rfl) (by assumption) (slF (by rfl)) _ (by first | rfl | exact (Int.toNat_of_nonneg (by omega)).symm) (by simp only [List.length_map]; omega) (fun ad => ?_)
        | refine SL_load_r (by decide) (by rfl) (rowF (by rfl)) (by first | assumption | rfl | exact ps_get _ hlt) (by rfl) ?_
        | refine SC_cond_t (by rfl) ?_
        | refine SC_cond_f (by rfl) ?_
        | (refine SC_skip' (fun tm σ hE hH => ?_); refine SC.app ?_ hE hH; clear hE hH; clear tm σ)
        | fail)
      refine SL_nil fun tm σ hE hH => ⟨k + 1, by omega, ⟨by omega, ?_⟩, tm, σ, rfl, hE.sub ⟨rfl, rfl, rfl, rfl, trivial⟩, hH.sub trivial List.nodup_nil⟩
      intro p hp
      rw [List.take_succ_eq_append_getElem hlt, List.mem_append] at hp
      rcases hp with hp | hp
      · exact hk2 p hp
      · rw [List.mem_singleton] at hp
        subst hp; exact hv
    · have hno : ¬ OkPs ps := fun h => hv (h _ (List.getElem_mem hlt))
      repeat' (first
        | (refine SL_call (by decide) (by rfl) bd36 (by rfl) (by rfl) (h36f _ (by omega)) trivial List.nodup_nil ?_; rintro _ _ _ ⟨rfl, rfl⟩; rw [List.nil_append])
        | refine SC_seq ?_
        | refine SC_block ?_
        | refine SC_region ?_
        | refine SL_seq ?_
        | refine SL_move (by decide) (by rfl) ?_
        | refine SL_assign (by decide) (by rfl) ?_
        | (refine SL_lss (by decide) (by rfl) (by rfl) (fun hT => ?_) (fun hT => ?_) <;> first | (exfalso; omega) | skip)
        | refine SL_indexAddr_v (by decide) (by rfl) (by rfl) (by assumption) (slF (by rfl)) _ (by first | rfl | exact (Int.toNat_of_nonneg (by omega)).symm) (by simp only [List.length_map]; omega) (fun ad => ?_)
        | refine SL_load_r (by decide) (by rfl) (rowF (by rfl)) (by first | assumption | rfl | exact ps_get _ hlt) (by rfl) ?_
        | refine SC_cond_t (by rfl) ?_
        | (refine SC_skip' (fun tm σ hE hH => ?_); refine SC.app ?_ hE hH; clear hE hH; clear tm σ)
        | fail)
      refine SC_ret (fun tm σ hE hH => Post.intro (Hn := []) (.inr rfl) hE hH (by rfl) trivial List.nodup_nil (fun p hp => (by cases hp)) ?_)
      exact ⟨⟨_, rfl, .inr ⟨hno, by omega⟩⟩, rfl⟩
  · have hok : OkPs ps := fun p hp => hk2 p (by rw [List.take_of_length_le (by omega)]; exact hp)
    repeat' (first
      | refine SC_seq ?_
      | refine SC_region ?_
      | refine SL_seq ?_
      | refine SL_assign (by decide) (by rfl) ?_
      | (refine SL_lss (by decide) (by rfl) (by rfl) (fun hT => ?_) (fun hT => ?_) <;> first | (exfalso; omega) | skip)
      | refine SC_cond_f (by rfl) ?_
      | (refine SC_exit (fun tm σ hE hH => ?_); refine SC.app ?_ hE hH; clear hE hH; clear tm σ)
      | fail)
    refine SC_ret (fun tm σ hE hH => Post.intro (Hn := []) (.inr rfl) hE hH (by rfl) trivial List.nodup_nil (fun p hp => (by cases hp)) ?_)
    exact ⟨⟨_, rfl, .inl ⟨hok, rfl⟩⟩, rfl⟩
theorem ix_o {G : Gl} {ps : List Int} {id : Nat} {x : Bool} (hbig : ps.length ≤ 9223372036854775807) (ho : ∀ a b, G.orc 76 [a, b] = none) (ho' : ∀ a, G.orc 36 [a] = none) (ho'' : ∀ a, G.orc 37 [a] = none) :
    FnC Tryz.prog G 76 [.sl id 0 ps.length none, fvf 36] [(id, .cells 81 1 x (ps.map fun p => [AV.s (.int .i8 p)]))] (fun v Hn => IxR ps v ∧ Hn = []) := by
  have h36t := inv_t ho' ho''
  have h36f := inv_f ho' ho''
  unfold fvf
  refine Fn_body (N := 19) (ho _ _) Tryz.func76 rfl rfl fun B => ?_
  repeat' (first
    | refine SC_seq ?_
    | refine SC_block ?_
    | refine SC_region ?_
    | refine SL_seq ?_
    | refine SL_move (by decide) (by rfl) ?_
    | refine SL_assign (by decide) (by rfl) ?_
    | refine SL_len_sl (by decide) (by rfl) (by rfl) (sliceOf_spec (slF (by rfl))).1 ?_
    | fail)
  refine SC_loop (fun k : Nat => [(0, .sl id 0 ps.length none), (1, fvf 36), (7, .s (.int .i64 ps.length)), (8, .s (.int .i64 k))]) (fun _ => [(id, .cells 81 1 x (ps.map fun p => [AV.s (.int .i8 p)]))]) (fun _ => []) (fun k => k ≤ ps.length ∧ ∀ p ∈ ps.take k, -15 ≤ p ∧ p ≤ 15) (fun k => ps.length - k) 0 ⟨by omega, by simp⟩ ⟨rfl, rfl, rfl, rfl, trivial⟩ ⟨.head _, trivial⟩ (by simp) rfl ?_
  rintro k ⟨hk1, hk2⟩
  by_cases hlt : k < ps.length
  · by_cases hv : -15 ≤ ps[k] ∧ ps[k] ≤ 15
    ·
      repeat' (first
        | (refine SL_call (by decide) (by rfl) bd36 (by rfl) (by rfl) (h36t _ (by omega) (by omega)) trivial List.nodup_nil ?_; rintro _ _ _ ⟨rfl, rfl⟩; rw [List.nil_append])
        | refine SC_seq ?_
        | refine SC_block ?_
        | refine SC_region ?_
        | refine SL_seq ?_
        | refine SL_move (by decide) (by rfl) ?_
        | refine SL_assign (by decide) (by rfl) ?_
        | refine SL_add (by decide) (by rfl) (by rfl) (by omega) (by omega) ?_
        | (refine SL_lss (by decide) (by rfl) (by rfl) (fun hT => ?_) (fun hT => ?_) <;> first | (exfalso; omega) | skip)
        | refine SL_indexAddr_0 (by decide) (by rfl) (by rfl) (by repeat (first | exact .head _ | refine .tail _ ?_)) (slF (by rfl)) _ (by first | rfl | exact (Int.toNat_of_nonneg (by omega)).symm) (by omega) ?_
        | refine SL_load_o (by decide) (by rfl) (by repeat (first | exact .head _ | refine .tail _ ?_)) (rowF (by rfl)) (by first | assumption | rfl | exact ps_get _ hlt) (by rfl) ?_
        | refine SC_cond_t (by rfl) ?_
        | refine SC_cond_f (by rfl) ?_
        | (refine SC_skip' (fun tm σ hE hH => ?_); refine SC.app ?_ hE hH; clear hE hH; clear tm σ)
        | fail)
      refine SL_nil fun tm σ hE hH => ⟨k + 1, by omega, ⟨by omega, ?_⟩, tm, σ, rfl, hE.sub ⟨rfl, rfl, rfl, rfl, trivial⟩, hH.sub ⟨.head _, trivial⟩ (by simp)⟩
      intro p hp
      rw [List.take_succ_eq_append_getElem hlt, List.mem_append] at hp
      rcases hp with hp | hp
      · exact hk2 p hp
      · rw [List.mem_singleton] at hp
        subst hp; exact hv
    · have hno : ¬ OkPs ps := fun h => hv (h _ (List.getElem_mem hlt))
      repeat' (first
        | (refine SL_call (by decide) (by rfl) bd36 (by rfl) (by rfl) (h36f _ (by omega)) trivial List.nodup_nil ?_; rintro _ _ _ ⟨rfl, rfl⟩; rw [List.nil_append])
        | refine SC_seq ?_
        | refine SC_block ?_
        | refine SC_region ?_
        | refine SL_seq ?_
        | refine SL_move (by decide) (by rfl) ?_
        | refine SL_assign (by decide) (by rfl) ?_
        | (refine SL_lss (by decide) (by rfl) (by rfl) (fun hT => ?_) (fun hT => ?_) <;> first | (exfalso; omega) | skip)
        | refine SL_indexAddr_0 (by decide) (by rfl) (by rfl) (by repeat (first | exact .head _ | refine .tail _ ?_)) (slF (by rfl)) _ (by first | rfl | exact (Int.toNat_of_nonneg (by omega)).symm) (by omega) ?_
        | refine SL_load_o (by decide) (by rfl) (by repeat (first | exact .head _ | refine .tail _ ?_)) (rowF (by rfl)) (by first | assumption | rfl | exact ps_get _ hlt) (by rfl) ?_
        | refine SC_cond_t (by rfl) ?_
        | (refine SC_skip' (fun tm σ hE hH => ?_); refine SC.app ?_ hE hH; clear hE hH; clear tm σ)
        | fail)
      refine SC_ret (fun tm σ hE hH => Post.intro (Hn := []) (.inr rfl) hE hH (by rfl) trivial List.nodup_nil (fun p hp => (by cases hp)) ?_)
      exact ⟨⟨_, rfl, .inr ⟨hno, by omega⟩⟩, rfl⟩
  · have hok : OkPs ps := fun p hp => hk2 p (by rw [List.take_of_length_le (by omega)]; exact hp)
    repeat' (first
      | refine SC_seq ?_
      | refine SC_region ?_
      | refine SL_seq ?_
      | refine SL_assign (by decide) (by rfl) ?_
      | (refine SL_lss (by decide) (by rfl) (by rfl) (fun hT => ?_) (fun hT => ?_) <;> first | (exfalso; omega) | skip)
      | refine SC_cond_f (by rfl) ?_
      | (refine SC_exit (fun tm σ hE hH => ?_); refine SC.app ?_ hE hH; clear hE hH; clear tm σ)
      | fail)
    refine SC_ret (fun tm σ hE hH => Post.intro (Hn := []) (.inr rfl) hE hH (by rfl) trivial List.nodup_nil (fun p hp => (by cases hp)) ?_)
    exact ⟨⟨_, rfl, .inl ⟨hok, rfl⟩⟩, rfl⟩
end Go.Proofs.YtnhnlkljcfbhfaaGreatDoor
/- Which boards are valid: the whole. -/
namespace Go.Proofs.YtnhnlkljcfbhfaaGreatDoor
open Go Go.Ab
set_option maxRecDepth 100000
/-- Which boards are valid. -/
def OkB (f r : Int) (ps : List Int) : Prop := OkSz f r ∧ (ps.length : Int) = f * r ∧ OkPs ps
/-- The answer of a test. -/
def Says (p : Prop) (v : AV) : Prop := (v = .s (.bool true) ∧ p) ∨ (v = .s (.bool false) ∧ ¬ p)
attribute [local irreducible] SC SL wpc wpl wpd wpf wpy wpn FnC FnW RdW SD
set_option pp.deepTerms false
set_option pp.maxSteps 900
set_option maxHeartbeats 2000000
theorem con_v {G : Gl} {ps : List Int} {l : AV} (ho : ∀ a b, G.orc 35 [a, b] = none) (h76 : FnC Tryz.prog G 76 [l, fvf 36] [] (fun v Hn => IxR ps v ∧ Hn = [])) : FnC Tryz.prog G 35 [l, fvf 36] [] (fun v Hn => Says (¬ OkPs ps) v ∧ Hn = []) := by
  unfold IxR at h76
  refine Fn_body (N := 9) (ho _ _) Tryz.func35 rfl rfl fun B => ?_
  repeat' (first
    | (refine SL_call (by decide) (by rfl) bd76 (by rfl) (by rfl) h76 (by first | exact trivial | exact ⟨.head _, trivial⟩ | exact ⟨.tail _ (.head _), trivial⟩) (by simp) ?_; rintro _ _ _ ⟨⟨k, rfl, hk⟩, rfl⟩; rw [List.nil_append])
    | refine SC_seq ?_
    | refine SC_region ?_
    | refine SL_seq ?_
    | refine SL_move (by decide) (by rfl) ?_
    | refine SL_assign (by decide) (by rfl) ?_
    | (refine SL_geq (by decide) (by rfl) (by rfl) (fun hT => ?_) (fun hT => ?_) <;> first | (exfalso; omega) | skip)
    | fail)
  · refine SC_ret (fun tm σ hE hH => Post.intro (Hn := []) (.inr rfl) hE hH (by rfl) trivial List.nodup_nil (fun p hp => (by cases hp)) ?_)
    refine ⟨.inl ⟨rfl, ?_⟩, rfl⟩
    rcases hk with ⟨_, hk⟩ | ⟨hk, _⟩
    · omega
    · exact hk
  · refine SC_ret (fun tm σ hE hH => Post.intro (Hn := []) (.inr rfl) hE hH (by rfl) trivial List.nodup_nil (fun p hp => (by cases hp)) ?_)
    refine ⟨.inr ⟨rfl, ?_⟩, rfl⟩
    rcases hk with ⟨hk, _⟩ | ⟨_, hk⟩
    · exact fun h => h hk
    · omega
theorem valid_v {G : Gl} {f r : Int} {ps : List Int} {l : AV} (hsl : SlV 1 l (ps.map fun p => [AV.s (.int .i8 p)])) (_hbig : ps.length ≤ 9223372036854775807) (ho : ∀ a, G.orc 10 [a] = none) (h34t : OkSz f r → FnC Tryz.prog G 34 [sz f r] [] (fun v Hn => v = .s (.tuple #[.int .i64 (f * r), .int .i64 0]) ∧ Hn = [])) (h34f : ¬ OkSz f r → FnC Tryz.prog G 34 [sz f r] [] (fun v Hn => v = .s (.tuple #[.int .i64 0, .int .i64 2]) ∧ Hn = []))
    (h35 : FnC Tryz.prog G 35 [l, fvf 36] [] (fun v Hn => Says (¬ OkPs ps) v ∧ Hn = [])) : FnC Tryz.prog G 10 [brd f r (l)] [] (fun v Hn => Says (OkB f r ps) v ∧ Hn = []) := by
  unfold Says at h35
  by_cases hz : OkSz f r
  · have h34 := h34t hz
    refine Fn_body (N := 26) (ho _) Tryz.func10 rfl rfl fun B => ?_
    repeat' (first
      | (refine SL_call (by decide) (by rfl) bd35 (by rfl) (by rfl) h35 (by first | exact trivial | exact ⟨.head _, trivial⟩ | exact ⟨.tail _ (.head _), trivial⟩) (by simp) ?_; rintro _ _ _ ⟨hk, rfl⟩; rw [List.nil_append]; rcases hk with ⟨rfl, hok⟩ | ⟨rfl, hok⟩)
      | (refine SL_box (by decide) (by rfl) (by first | exact cells_2 _ _ | exact cells_b _ _ _) (fun b1 hid => ?_))
      | refine SL_load_or (by decide) (by rfl) (by repeat (first | exact .head _ | refine .tail _ ?_)) (rowF (by rfl)) (by rfl) (Nat.le_of_ble_eq_true (by rfl)) (by first | exact mk2 _ _ | exact mk2b _ _ _ | exact mkb _ _ _) ?_
      | (refine SL_call (by decide) (by rfl) bd34 (by rfl) (by rfl) (h34) trivial List.nodup_nil ?_; rintro _ _ _ ⟨rfl, rfl⟩; rw [List.nil_append])
      | refine SC_seq ?_
      | refine SC_region ?_
      | refine SL_seq ?_
      | refine SL_run (by rfl) (by rfl) ?_
      | refine SL_not (by rfl) (by rfl) (by rfl) (by decide) ?_
      | refine SL_move (by decide) (by rfl) ?_
      | refine SL_assign (by decide) (by rfl) ?_
      | refine SL_pick_t (by decide) (by rfl) (by rfl) ?_
      | refine SL_pick_f (by decide) (by rfl) (by rfl) ?_
      | refine SL_not_op (by decide) (by rfl) ?_
      | (refine SL_eql (by decide) (by rfl) (by rfl) (fun hT => ?_) (fun hT => ?_) <;> first | (exfalso; omega) | skip)
      | refine SL_extract_s (by decide) (by rfl) (by rfl) ?_
      | refine SL_fieldAddr (by decide) (by rfl) (fldF (by rfl)) ?_
      | refine SL_len_v (by decide) (by rfl) (by assumption) (by rfl) (slF (by rfl)) (by simp only [List.length_map]; first | rfl | assumption) ?_
      | refine SL_load_o (by decide) (by rfl) (by repeat (first | exact .head _ | refine .tail _ ?_)) (rowF (by rfl)) (by first | assumption | rfl) (by rfl) ?_
      | fail)
    all_goals refine SC_ret (fun tm σ hE hH => Post.intro (Hn := []) (.inr rfl) hE hH (by rfl) trivial List.nodup_nil (fun p hp => (by cases hp)) ?_)
    all_goals first
      | exact ⟨.inl ⟨rfl, hz, by assumption, Classical.not_not.1 hok⟩, rfl⟩
      | exact ⟨.inr ⟨rfl, fun h => hok h.2.2⟩, rfl⟩
      | exact ⟨.inr ⟨rfl, fun h => absurd h.2.1 (by assumption)⟩, rfl⟩
  · have h34 := h34f hz
    refine Fn_body (N := 26) (ho _) Tryz.func10 rfl rfl fun B => ?_
    repeat' (first
      | (refine SL_box (by decide) (by rfl) (by first | exact cells_2 _ _ | exact cells_b _ _ _) (fun b1 hid => ?_))
      | refine SL_load_or (by decide) (by rfl) (by repeat (first | exact .head _ | refine .tail _ ?_)) (rowF (by rfl)) (by rfl) (Nat.le_of_ble_eq_true (by rfl)) (by first | exact mk2 _ _ | exact mk2b _ _ _ | exact mkb _ _ _) ?_
      | (refine SL_call (by decide) (by rfl) bd34 (by rfl) (by rfl) (h34) trivial List.nodup_nil ?_; rintro _ _ _ ⟨rfl, rfl⟩; rw [List.nil_append])
      | refine SC_seq ?_
      | refine SC_region ?_
      | refine SL_seq ?_
      | refine SL_not (by rfl) (by rfl) (by rfl) (by decide) ?_
      | refine SL_move (by decide) (by rfl) ?_
      | refine SL_assign (by decide) (by rfl) ?_
      | refine SL_pick_f (by decide) (by rfl) (by rfl) ?_
      | (refine SL_eql (by decide) (by rfl) (by rfl) (fun hT => ?_) (fun hT => ?_) <;> first | (exfalso; omega) | skip)
      | refine SL_extract_s (by decide) (by rfl) (by rfl) ?_
      | refine SL_fieldAddr (by decide) (by rfl) (fldF (by rfl)) ?_
      | fail)
    refine SC_ret (fun tm σ hE hH => Post.intro (Hn := []) (.inr rfl) hE hH (by rfl) trivial List.nodup_nil (fun p hp => (by cases hp)) ?_)
    exact ⟨.inr ⟨rfl, fun h => hz h.1⟩, rfl⟩
theorem con_o {G : Gl} {ps : List Int} {id : Nat} {x : Bool} (ho : ∀ a b, G.orc 35 [a, b] = none) (h76 : FnC Tryz.prog G 76 [.sl id 0 ps.length none, fvf 36] [(id, .cells 81 1 x (ps.map fun p => [AV.s (.int .i8 p)]))] (fun v Hn => IxR ps v ∧ Hn = [])) : FnC Tryz.prog G 35 [.sl id 0 ps.length none, fvf 36] [(id, .cells 81 1 x (ps.map fun p => [AV.s (.int .i8 p)]))] (fun v Hn => Says (¬ OkPs ps) v ∧ Hn = []) := by
  unfold IxR at h76
  refine Fn_body (N := 9) (ho _ _) Tryz.func35 rfl rfl fun B => ?_
  repeat' (first
    | (refine SL_call (by decide) (by rfl) bd76 (by rfl) (by rfl) h76 (by first | exact trivial | exact ⟨.head _, trivial⟩ | exact ⟨.tail _ (.head _), trivial⟩) (by simp) ?_; rintro _ _ _ ⟨⟨k, rfl, hk⟩, rfl⟩; rw [List.nil_append])
    | refine SC_seq ?_
    | refine SC_region ?_
    | refine SL_seq ?_
    | refine SL_move (by decide) (by rfl) ?_
    | refine SL_assign (by decide) (by rfl) ?_
    | (refine SL_geq (by decide) (by rfl) (by rfl) (fun hT => ?_) (fun hT => ?_) <;> first | (exfalso; omega) | skip)
    | fail)
  · refine SC_ret (fun tm σ hE hH => Post.intro (Hn := []) (.inr rfl) hE hH (by rfl) trivial List.nodup_nil (fun p hp => (by cases hp)) ?_)
    refine ⟨.inl ⟨rfl, ?_⟩, rfl⟩
    rcases hk with ⟨_, hk⟩ | ⟨hk, _⟩
    · omega
    · exact hk
  · refine SC_ret (fun tm σ hE hH => Post.intro (Hn := []) (.inr rfl) hE hH (by rfl) trivial List.nodup_nil (fun p hp => (by cases hp)) ?_)
    refine ⟨.inr ⟨rfl, ?_⟩, rfl⟩
    rcases hk with ⟨hk, _⟩ | ⟨_, hk⟩
    · exact fun h => h hk
    · omega
theorem valid_o {G : Gl} {f r : Int} {ps : List Int} {id : Nat} {x : Bool}  (_hbig : ps.length ≤ 9223372036854775807) (ho : ∀ a, G.orc 10 [a] = none) (h34t : OkSz f r → FnC Tryz.prog G 34 [sz f r] [] (fun v Hn => v = .s (.tuple #[.int .i64 (f * r), .int .i64 0]) ∧ Hn = [])) (h34f : ¬ OkSz f r → FnC Tryz.prog G 34 [sz f r] [] (fun v Hn => v = .s (.tuple #[.int .i64 0, .int .i64 2]) ∧ Hn = []))
    (h35 : FnC Tryz.prog G 35 [.sl id 0 ps.length none, fvf 36] [(id, .cells 81 1 x (ps.map fun p => [AV.s (.int .i8 p)]))] (fun v Hn => Says (¬ OkPs ps) v ∧ Hn = [])) : FnC Tryz.prog G 10 [brd f r (.sl id 0 ps.length none)] [(id, .cells 81 1 x (ps.map fun p => [AV.s (.int .i8 p)]))] (fun v Hn => Says (OkB f r ps) v ∧ Hn = []) := by
  unfold Says at h35
  by_cases hz : OkSz f r
  · have h34 := h34t hz
    refine Fn_body (N := 26) (ho _) Tryz.func10 rfl rfl fun B => ?_
    repeat' (first
      | (refine SL_call (by decide) (by rfl) bd35 (by rfl) (by rfl) h35 (by first | exact trivial | exact ⟨.head _, trivial⟩ | exact ⟨.tail _ (.head _), trivial⟩) (by simp) ?_; rintro _ _ _ ⟨hk, rfl⟩; rw [List.nil_append]; rcases hk with ⟨rfl, hok⟩ | ⟨rfl, hok⟩)
      | (refine SL_box (by decide) (by rfl) (by first | exact cells_2 _ _ | exact cells_b _ _ _) (fun b1 hid => ?_))
      | refine SL_load_or (by decide) (by rfl) (by repeat (first | exact .head _ | refine .tail _ ?_)) (rowF (by rfl)) (by rfl) (Nat.le_of_ble_eq_true (by rfl)) (by first | exact mk2 _ _ | exact mk2b _ _ _ | exact mkb _ _ _) ?_
      | (refine SL_call (by decide) (by rfl) bd34 (by rfl) (by rfl) (h34) trivial List.nodup_nil ?_; rintro _ _ _ ⟨rfl, rfl⟩; rw [List.nil_append])
      | refine SC_seq ?_
      | refine SC_region ?_
      | refine SL_seq ?_
      | refine SL_run (by rfl) (by rfl) ?_
      | refine SL_not (by rfl) (by rfl) (by rfl) (by decide) ?_
      | refine SL_move (by decide) (by rfl) ?_
      | refine SL_assign (by decide) (by rfl) ?_
      | refine SL_pick_t (by decide) (by rfl) (by rfl) ?_
      | refine SL_pick_f (by decide) (by rfl) (by rfl) ?_
      | refine SL_not_op (by decide) (by rfl) ?_
      | (refine SL_eql (by decide) (by rfl) (by rfl) (fun hT => ?_) (fun hT => ?_) <;> first | (exfalso; omega) | skip)
      | refine SL_extract_s (by decide) (by rfl) (by rfl) ?_
      | refine SL_fieldAddr (by decide) (by rfl) (fldF (by rfl)) ?_
      | refine SL_len_sl (by decide) (by rfl) (by rfl) (sliceOf_spec (slF (by rfl))).1 ?_
      | refine SL_load_o (by decide) (by rfl) (by repeat (first | exact .head _ | refine .tail _ ?_)) (rowF (by rfl)) (by first | assumption | rfl) (by rfl) ?_
      | fail)
    all_goals refine SC_ret (fun tm σ hE hH => Post.intro (Hn := []) (.inr rfl) hE hH (by rfl) trivial List.nodup_nil (fun p hp => (by cases hp)) ?_)
    all_goals first
      | exact ⟨.inl ⟨rfl, hz, by assumption, Classical.not_not.1 hok⟩, rfl⟩
      | exact ⟨.inr ⟨rfl, fun h => hok h.2.2⟩, rfl⟩
      | exact ⟨.inr ⟨rfl, fun h => absurd h.2.1 (by assumption)⟩, rfl⟩
  · have h34 := h34f hz
    refine Fn_body (N := 26) (ho _) Tryz.func10 rfl rfl fun B => ?_
    repeat' (first
      | (refine SL_box (by decide) (by rfl) (by first | exact cells_2 _ _ | exact cells_b _ _ _) (fun b1 hid => ?_))
      | refine SL_load_or (by decide) (by rfl) (by repeat (first | exact .head _ | refine .tail _ ?_)) (rowF (by rfl)) (by rfl) (Nat.le_of_ble_eq_true (by rfl)) (by first | exact mk2 _ _ | exact mk2b _ _ _ | exact mkb _ _ _) ?_
      | (refine SL_call (by decide) (by rfl) bd34 (by rfl) (by rfl) (h34) trivial List.nodup_nil ?_; rintro _ _ _ ⟨rfl, rfl⟩; rw [List.nil_append])
      | refine SC_seq ?_
      | refine SC_region ?_
      | refine SL_seq ?_
      | refine SL_not (by rfl) (by rfl) (by rfl) (by decide) ?_
      | refine SL_move (by decide) (by rfl) ?_
      | refine SL_assign (by decide) (by rfl) ?_
      | refine SL_pick_f (by decide) (by rfl) (by rfl) ?_
      | (refine SL_eql (by decide) (by rfl) (by rfl) (fun hT => ?_) (fun hT => ?_) <;> first | (exfalso; omega) | skip)
      | refine SL_extract_s (by decide) (by rfl) (by rfl) ?_
      | refine SL_fieldAddr (by decide) (by rfl) (fldF (by rfl)) ?_
      | fail)
    refine SC_ret (fun tm σ hE hH => Post.intro (Hn := []) (.inr rfl) hE hH (by rfl) trivial List.nodup_nil (fun p hp => (by cases hp)) ?_)
    exact ⟨.inr ⟨rfl, fun h => hz h.1⟩, rfl⟩
end Go.Proofs.YtnhnlkljcfbhfaaGreatDoor
/- Letters of pieces and pieces of letters: all values, each a closed run. -/
namespace Go.Proofs.YtnhnlkljcfbhfaaGreatDoor
open Go Go.Ab Go.RowKit
def letters : List Int := [80,78,66,82,81,75,65,67,68,69,70,71,72,73,74]
/-- What Letter returns. -/
def letV (p : Int) : Value := if p = 0 ∨ p < -15 ∨ 15 < p then .tuple #[.int .u8 0, .int .i64 2] else if p < 0 then .tuple #[.int .u8 (letters.getD (-p - 1).toNat 0 + 32), .int .i64 0] else .tuple #[.int .u8 (letters.getD (p - 1).toNat 0), .int .i64 0]
/-- What Parse returns. -/
def parV (c : Int) : Value := match letters.findIdx? (fun l => decide (c = l) || decide (c = l + 32)) with
  | none => .tuple #[.int .i8 0, .int .i64 6]
  | some k => if c = letters.getD k 0 then .tuple #[.int .i8 (k + 1), .int .i64 0] else .tuple #[.int .i8 (-(k : Int) - 1), .int .i64 0]
def sameT : Value → Value → Bool
  | .tuple l, .tuple r => match l.toList, r.toList with
    | [.int k a, .int k' b], [.int q c, .int q' d] => decide (k = q ∧ k' = q' ∧ a = c ∧ b = d)
    | _, _ => false
  | _, _ => false
theorem sameT_eq {a b : Value} (h : sameT a b = true) : a = b := by
  unfold sameT at h
  split at h
  · rename_i l r
    obtain ⟨l⟩ := l
    obtain ⟨r⟩ := r
    split at h
    · rename_i h1 h2
      simp only at h1 h2
      subst h1 h2
      rw [decide_eq_true_eq] at h
      obtain ⟨rfl, rfl, rfl, rfl⟩ := h
      rfl
    · cases h
  · cases h
noncomputable def isV (v : Value) : Option (AV × AS) → Bool
  | some (.s u, _) => sameT u v
  | _ => false
theorem isV_eq {v : Value} {r : Option (AV × AS)} (h : isV v r = true) : ∃ σ, r = some (.s v, σ) := by
  unfold isV at h
  split at h
  · rw [sameT_eq h]; exact ⟨_, rfl⟩
  · cases h
theorem concs_any {M M' : Mem} {ρ ρ' : Rho} {us : List Value} : ∀ {vs : List Value}, Concs M ρ (us.map .s) vs → Concs M' ρ' (us.map .s) vs := by
  intro vs h
  rw [h.s_eq]
  exact Concs.ofS us
section
variable {m : Int} {e2 e3 : Value}
/-- A call on plain values, run to its end: a contract. -/
theorem run_ctr (h2 : e2 = .nilIface ∨ ∃ te pe, e2 = .iface te pe) (h3 : e3 = .nilIface ∨ ∃ te pe, e3 = .iface te pe) {f n : Nat} {us : List Value} {v : Value} {σk : AS} (hb : Bodied Tryz.prog f) (hk : runCall Tryz.prog (glR m e2 e3) n f (us.map .s) = some (.s v, σk)) : Ctr Tryz.prog (glR m e2 e3) f (us.map .s) (fun σ => some (.s v, σ)) := by
  refine ⟨hb, fun σ v' σ' hv B ρ w vs hG hrep hc k => ?_, fun σ v' σ' hv N hN => ?_⟩
  · cases hv
    refine call_sound (exec_sound fit (given h2 h3) n) (G := glR m e2 e3) (B := w) (ρ := fun _ => none) (σ := ⟨.e, 0, none⟩) («as» := us.map .s) ?_ (start_rep w) (concs_any hc) hk k (R := fun e w' => ∃ ρ' y, e = .returned y ∧ ρ.le ρ' ∧ Conc (memOf B) ρ' (.s v) y ∧ Rep B ρ' σ w') (fun ρ' y w' _ hcy hrep' => ?_)
    · exact glok_at hG (fun g row h => rowsR_s m e2 e3 h) hrep.keep
    · cases hcy
      exact ⟨ρ, _, rfl, Rho.le_refl ρ, .s _, hrep.after hrep'⟩
  · cases hv
    exact ⟨[], trivial, rfl, fun σ₂ _ => rfl⟩
theorem letters_run : ((List.range 256).all fun i => isV (letV ((i : Int) - 128)) (runCall Tryz.prog (glR m e2 e3) 60 32 [.s (.int .i8 ((i : Int) - 128))])) = true := by kernel_rfl
theorem parses_0 : ((List.range 16).all fun i => isV (parV (0 + (i : Int))) (runCall Tryz.prog (glR m e2 e3) 60 39 [.s (.int .u8 (0 + (i : Int)))])) = true := by kernel_rfl
theorem parses_1 : ((List.range 16).all fun i => isV (parV (16 + (i : Int))) (runCall Tryz.prog (glR m e2 e3) 60 39 [.s (.int .u8 (16 + (i : Int)))])) = true := by kernel_rfl
theorem parses_2 : ((List.range 16).all fun i => isV (parV (32 + (i : Int))) (runCall Tryz.prog (glR m e2 e3) 60 39 [.s (.int .u8 (32 + (i : Int)))])) = true := by kernel_rfl
theorem parses_3 : ((List.range 16).all fun i => isV (parV (48 + (i : Int))) (runCall Tryz.prog (glR m e2 e3) 60 39 [.s (.int .u8 (48 + (i : Int)))])) = true := by kernel_rfl
theorem parses_4 : ((List.range 16).all fun i => isV (parV (64 + (i : Int))) (runCall Tryz.prog (glR m e2 e3) 60 39 [.s (.int .u8 (64 + (i : Int)))])) = true := by kernel_rfl
theorem parses_5 : ((List.range 16).all fun i => isV (parV (80 + (i : Int))) (runCall Tryz.prog (glR m e2 e3) 60 39 [.s (.int .u8 (80 + (i : Int)))])) = true := by kernel_rfl
theorem parses_6 : ((List.range 16).all fun i => isV (parV (96 + (i : Int))) (runCall Tryz.prog (glR m e2 e3) 60 39 [.s (.int .u8 (96 + (i : Int)))])) = true := by kernel_rfl
theorem parses_7 : ((List.range 16).all fun i => isV (parV (112 + (i : Int))) (runCall Tryz.prog (glR m e2 e3) 60 39 [.s (.int .u8 (112 + (i : Int)))])) = true := by kernel_rfl
theorem parses_8 : ((List.range 16).all fun i => isV (parV (128 + (i : Int))) (runCall Tryz.prog (glR m e2 e3) 60 39 [.s (.int .u8 (128 + (i : Int)))])) = true := by kernel_rfl
theorem parses_9 : ((List.range 16).all fun i => isV (parV (144 + (i : Int))) (runCall Tryz.prog (glR m e2 e3) 60 39 [.s (.int .u8 (144 + (i : Int)))])) = true := by kernel_rfl
theorem parses_10 : ((List.range 16).all fun i => isV (parV (160 + (i : Int))) (runCall Tryz.prog (glR m e2 e3) 60 39 [.s (.int .u8 (160 + (i : Int)))])) = true := by kernel_rfl
theorem parses_11 : ((List.range 16).all fun i => isV (parV (176 + (i : Int))) (runCall Tryz.prog (glR m e2 e3) 60 39 [.s (.int .u8 (176 + (i : Int)))])) = true := by kernel_rfl
theorem parses_12 : ((List.range 16).all fun i => isV (parV (192 + (i : Int))) (runCall Tryz.prog (glR m e2 e3) 60 39 [.s (.int .u8 (192 + (i : Int)))])) = true := by kernel_rfl
theorem parses_13 : ((List.range 16).all fun i => isV (parV (208 + (i : Int))) (runCall Tryz.prog (glR m e2 e3) 60 39 [.s (.int .u8 (208 + (i : Int)))])) = true := by kernel_rfl
theorem parses_14 : ((List.range 16).all fun i => isV (parV (224 + (i : Int))) (runCall Tryz.prog (glR m e2 e3) 60 39 [.s (.int .u8 (224 + (i : Int)))])) = true := by kernel_rfl
theorem parses_15 : ((List.range 16).all fun i => isV (parV (240 + (i : Int))) (runCall Tryz.prog (glR m e2 e3) 60 39 [.s (.int .u8 (240 + (i : Int)))])) = true := by kernel_rfl
theorem parses_at {c : Int} (h0 : 0 ≤ c) (h1 : c ≤ 255) : isV (parV c) (runCall Tryz.prog (glR m e2 e3) 60 39 [.s (.int .u8 c)]) = true := by
  have key : ∀ (b : Int) (h : ((List.range 16).all fun i => isV (parV (b + (i : Int))) (runCall Tryz.prog (glR m e2 e3) 60 39 [.s (.int .u8 (b + (i : Int)))])) = true), b ≤ c → c < b + 16 → isV (parV c) (runCall Tryz.prog (glR m e2 e3) 60 39 [.s (.int .u8 c)]) = true := fun b h g0 g1 => by
    have := List.all_eq_true.1 h (c - b).toNat (List.mem_range.2 (by omega))
    rwa [show b + (((c - b).toNat : Nat) : Int) = c by omega] at this
  by_cases h2 : c < 16
  · exact key 0 parses_0 (by omega) (by omega)
  by_cases h3 : c < 32
  · exact key 16 parses_1 (by omega) (by omega)
  by_cases h4 : c < 48
  · exact key 32 parses_2 (by omega) (by omega)
  by_cases h5 : c < 64
  · exact key 48 parses_3 (by omega) (by omega)
  by_cases h6 : c < 80
  · exact key 64 parses_4 (by omega) (by omega)
  by_cases h7 : c < 96
  · exact key 80 parses_5 (by omega) (by omega)
  by_cases h8 : c < 112
  · exact key 96 parses_6 (by omega) (by omega)
  by_cases h9 : c < 128
  · exact key 112 parses_7 (by omega) (by omega)
  by_cases h10 : c < 144
  · exact key 128 parses_8 (by omega) (by omega)
  by_cases h11 : c < 160
  · exact key 144 parses_9 (by omega) (by omega)
  by_cases h12 : c < 176
  · exact key 160 parses_10 (by omega) (by omega)
  by_cases h13 : c < 192
  · exact key 176 parses_11 (by omega) (by omega)
  by_cases h14 : c < 208
  · exact key 192 parses_12 (by omega) (by omega)
  by_cases h15 : c < 224
  · exact key 208 parses_13 (by omega) (by omega)
  by_cases h16 : c < 240
  · exact key 224 parses_14 (by omega) (by omega)
  by_cases h17 : c < 256
  · exact key 240 parses_15 (by omega) (by omega)
  omega
noncomputable def letterC : List AV → Option (AS → Option (AV × AS))
  | [.s (.int .i8 p)] => if -128 ≤ p ∧ p ≤ 127 then some fun σ => some (.s (letV p), σ) else none
  | _ => none
noncomputable def parseC : List AV → Option (AS → Option (AV × AS))
  | [.s (.int .u8 c)] => if 0 ≤ c ∧ c ≤ 255 then some fun σ => some (.s (parV c), σ) else none
  | _ => none
theorem body32 : Bodied Tryz.prog 32 := ⟨_, Tryz.func32, rfl⟩
theorem body39 : Bodied Tryz.prog 39 := ⟨_, Tryz.func39, rfl⟩
theorem letter_ctr (h2 : e2 = .nilIface ∨ ∃ te pe, e2 = .iface te pe) (h3 : e3 = .nilIface ∨ ∃ te pe, e3 = .iface te pe) {al : List AV} {c : AS → Option (AV × AS)} (h : letterC al = some c) : Ctr Tryz.prog (glR m e2 e3) 32 al c := by
  unfold letterC at h
  split at h
  · rename_i p
    split at h
    · rename_i hp
      cases h
      have := List.all_eq_true.1 (letters_run (m := m) (e2 := e2) (e3 := e3)) (p + 128).toNat (List.mem_range.2 (by omega))
      rw [show (((p + 128).toNat : Int) - 128) = p by omega] at this
      obtain ⟨σ, hs⟩ := isV_eq this
      exact run_ctr h2 h3 (us := [.int .i8 p]) body32 hs
    · cases h
  · cases h
theorem parse_ctr (h2 : e2 = .nilIface ∨ ∃ te pe, e2 = .iface te pe) (h3 : e3 = .nilIface ∨ ∃ te pe, e3 = .iface te pe) {al : List AV} {c : AS → Option (AV × AS)} (h : parseC al = some c) : Ctr Tryz.prog (glR m e2 e3) 39 al c := by
  unfold parseC at h
  split at h
  · rename_i p
    split at h
    · rename_i hp
      cases h
      have := parses_at (m := m) (e2 := e2) (e3 := e3) hp.1 hp.2
      obtain ⟨σ, hs⟩ := isV_eq this
      exact run_ctr h2 h3 (us := [.int .u8 p]) body39 hs
    · cases h
  · cases h
/-- The table of ReportBoards' walk. -/
noncomputable def glB (m : Int) (e2 e3 : Value) : Gl := ⟨rowsR m e2 e3, byF ((32, letterC) :: (39, parseC) :: (8, knownC) :: libs)⟩
theorem givenB (h2 : e2 = .nilIface ∨ ∃ te pe, e2 = .iface te pe) (h3 : e3 = .nilIface ∨ ∃ te pe, e3 = .iface te pe) : Given Tryz.prog (glB m e2 e3) := given_of fun p hp al c hc => by
  simp only [libs, List.mem_cons, List.not_mem_nil, or_false] at hp
  refine ctr_rows (o1 := (glR m e2 e3).orc) ?_
  rcases hp with rfl | rfl | rfl | rfl | rfl | rfl | rfl | rfl
  · exact letter_ctr h2 h3 hc
  · exact parse_ctr h2 h3 hc
  · exact known_ctr h2 h3 hc
  · exact join_ctr hc
  · exact atoi_ctr h2 h3 hc
  · exact itoa_ctr hc
  · exact cut_ctr hc
  · exact split_ctr hc
end
end Go.Proofs.YtnhnlkljcfbhfaaGreatDoor
/- The plain law of diagrams. -/
namespace Go.Proofs.YtnhnlkljcfbhfaaGreatDoor
open Go
/-- The letter of a piece, or a point. -/
def codeOf (p : Int) : Int := if p = 0 then 46 else if p < 0 then letters.getD (-p - 1).toNat 0 + 32 else letters.getD (p - 1).toNat 0
def chrP (p : Int) : ByteArray := ⟨#[UInt8.ofNat (codeOf p).toNat]⟩
/-- A line of a diagram. -/
def lineP (row : List Int) : ByteArray := ⟨(Lib.join ((row.map chrP).map (·.data.toList)) [32]).toArray⟩
theorem join_snoc (xs : List (List UInt8)) (x sep : List UInt8) (h : xs ≠ []) : Lib.join (xs ++ [x]) sep = Lib.join xs sep ++ sep ++ x := by
  cases xs with
  | nil => exact absurd rfl h
  | cons y ys => rw [List.cons_append, Lib.join_cons, Lib.join_cons]; simp [Lib.joinTail]
theorem lineP_nil : lineP [] = ⟨#[]⟩ := rfl
theorem lineP_one (p : Int) : lineP [p] = chrP p := by
  unfold lineP
  simp only [List.map_cons, List.map_nil, Lib.join_one]
theorem lineP_snoc (row : List Int) (p : Int) (h : row ≠ []) : lineP (row ++ [p]) = lineP row ++ ⟨#[32]⟩ ++ chrP p := by
  unfold lineP
  rw [List.map_append, List.map_append, List.map_cons, List.map_nil, List.map_cons, List.map_nil, join_snoc _ _ _ (by simpa using h)]
  apply ByteArray.ext
  simp [chrP]
/-- The lines of a diagram, from rank k - 1 down. -/
def diagR (f : Nat) (ps : List Int) : Nat → List ByteArray
  | 0 => []
  | k + 1 => lineP ((ps.drop (k * f)).take f) :: diagR f ps k
theorem diagR_len (f : Nat) (ps : List Int) : ∀ k, (diagR f ps k).length = k
  | 0 => rfl
  | k + 1 => by rw [diagR, List.length_cons, diagR_len f ps k]
theorem diagR_at (f : Nat) (ps : List Int) : ∀ (n j : Nat), j < n → (diagR f ps n)[j]? = some (lineP ((ps.drop ((n - 1 - j) * f)).take f))
  | 0, _, h => by omega
  | n + 1, 0, _ => by simp [diagR]
  | n + 1, j + 1, h => by
    rw [diagR, List.getElem?_cons_succ, diagR_at f ps n j (by omega), show n - 1 - j = n + 1 - 1 - (j + 1) by omega]
/-- One line more, from above. -/
theorem diagR_take (f : Nat) (ps : List Int) {n k : Nat} (h : k < n) : (diagR f ps n).take (n - k) = (diagR f ps n).take (n - (k + 1)) ++ [lineP ((ps.drop (k * f)).take f)] := by
  have hk : n - k = (n - (k + 1)) + 1 := by omega
  rw [hk, List.take_add_one, diagR_at f ps n _ (by omega), show n - 1 - (n - (k + 1)) = k by omega]
  rfl
/-- The lines that were read are the diagram of the pieces that they gave. -/
theorem diagR_of (f : Nat) (ps : List Int) (ls : List ByteArray) (h : ∀ j, (hj : j < ls.length) → lineP ((ps.drop (j * f)).take f) = ls[ls.length - 1 - j]) : diagR f ps ls.length = ls := by
  apply List.ext_getElem?
  intro j
  by_cases hj : j < ls.length
  · rw [diagR_at f ps _ j hj, h (ls.length - 1 - j) (by omega), List.getElem?_eq_getElem hj]
    congr 2; omega
  · rw [List.getElem?_eq_none (by rw [diagR_len]; omega), List.getElem?_eq_none (by omega)]
/-- The piece that a byte stands for. -/
def parP (c : Int) : Option Int := match letters.findIdx? (fun l => decide (c = l) || decide (c = l + 32)) with
  | none => none
  | some k => if c = letters.getD k 0 then some ((k : Int) + 1) else some (-(k : Int) - 1)
theorem parP_all : ((List.range 256).all fun c => match parP (c : Int) with
    | none => true
    | some p => decide (codeOf p = c) && decide (-15 ≤ p) && decide (p ≤ 15)) = true := by decide +kernel
theorem parP_code {c p : Int} (h0 : 0 ≤ c) (h1 : c ≤ 255) (h : parP c = some p) : codeOf p = c ∧ -15 ≤ p ∧ p ≤ 15 := by
  have := List.all_eq_true.1 parP_all c.toNat (List.mem_range.2 (by omega))
  rw [show ((c.toNat : Nat) : Int) = c by omega, h] at this
  simpa [and_assoc] using this
/-- The piece of a word. -/
def readW (w : ByteArray) : Option Int := if w = ⟨#[46]⟩ then some 0 else match w.data.toList with
  | [c] => parP (c.toNat : Int)
  | _ => none
theorem readW_chr {w : ByteArray} {p : Int} (h : readW w = some p) : chrP p = w := by
  unfold readW at h
  split at h
  · rename_i hw
    cases h
    rw [hw]; rfl
  · split at h
    · rename_i c hc
      obtain ⟨h1, _⟩ := parP_code (by omega) (by have := c.toNat_lt; omega) h
      unfold chrP
      rw [h1]
      apply ByteArray.ext
      apply Array.ext'
      rw [hc]
      simp
    · cases h
/-- The pieces of words. -/
def readL : List ByteArray → Option (List Int)
  | [] => some []
  | w :: ws => match readW w, readL ws with
    | some p, some ps => some (p :: ps)
    | _, _ => none
theorem readL_chr : ∀ {ws : List ByteArray} {ps : List Int}, readL ws = some ps → ps.map chrP = ws
  | [], ps, h => by
    simp only [readL, Option.some.injEq] at h
    subst h; rfl
  | w :: ws, ps, h => by
    unfold readL at h
    split at h
    · rename_i p qs hp hq
      cases h
      rw [List.map_cons, readW_chr hp, readL_chr hq]
    · cases h
/-- A line whose words are pieces is their line. -/
theorem lineP_of {x : ByteArray} {k : Nat} {ps : List Int} (h : readL (Lib.splitB ⟨#[32]⟩ 0 k x) = some ps) : lineP ps = x := by
  unfold lineP
  rw [readL_chr h, Lib.splitB_data]
  have := Lib.join_splitK [32] k x.data.toList
  apply ByteArray.ext
  apply Array.ext'
  simpa using this
end Go.Proofs.YtnhnlkljcfbhfaaGreatDoor
/- Lines of a diagram, piece by piece. -/
namespace Go.Proofs.YtnhnlkljcfbhfaaGreatDoor
open Go
/-- One piece more in a line. -/
theorem lineP_take {row : List Int} {k : Nat} (h : k < row.length) : lineP (row.take (k + 1)) = (if k = 0 then lineP (row.take k) else lineP (row.take k) ++ ⟨#[32]⟩) ++ chrP row[k] := by
  rw [List.take_succ_eq_append_getElem h]
  by_cases hk : k = 0
  · subst hk
    rw [if_pos rfl, List.take_zero, List.nil_append, lineP_one, lineP_nil]
    apply ByteArray.ext
    simp
  · rw [if_neg hk, lineP_snoc _ _ (by intro e; have := congrArg List.length e; rw [List.length_take, List.length_nil] at this; omega)]
theorem chrP_size (p : Int) : (chrP p).size = 1 := rfl
theorem lineP_size (row : List Int) : ∀ k, k ≤ row.length → (lineP (row.take k)).size ≤ 2 * k
  | 0, _ => by rw [List.take_zero, lineP_nil]; exact Nat.le_refl 0
  | k + 1, h => by
    have ih := lineP_size row k (by omega)
    rw [lineP_take (by omega)]
    split
    · rw [ByteArray.size_append, chrP_size]; omega
    · rw [ByteArray.size_append, ByteArray.size_append, chrP_size]
      have : (⟨#[32]⟩ : ByteArray).size = 1 := rfl
      omega
/-- A rank of a valid board. -/
theorem rank_at {F R q k : Nat} {ps : List Int} (hl : ps.length = F * R) (hq : q < R) (hk : k < F) : ∃ h : q * F + k < ps.length, ((ps.drop (q * F)).take F)[k]? = some ps[q * F + k] := by
  have h1 : q * F + F ≤ R * F := by
    have := Nat.mul_le_mul_right F (show q + 1 ≤ R by omega)
    rw [Nat.add_mul, Nat.one_mul] at this
    exact this
  have h2 : q * F + k < ps.length := by rw [hl, Nat.mul_comm F R]; omega
  refine ⟨h2, ?_⟩
  rw [List.getElem?_take_of_lt hk, List.getElem?_drop, List.getElem?_eq_getElem h2]
theorem rank_len {F R q : Nat} {ps : List Int} (hl : ps.length = F * R) (hq : q < R) : ((ps.drop (q * F)).take F).length = F := by
  have h1 : q * F + F ≤ R * F := by
    have := Nat.mul_le_mul_right F (show q + 1 ≤ R by omega)
    rw [Nat.add_mul, Nat.one_mul] at this
    exact this
  rw [List.length_take, List.length_drop, hl, Nat.mul_comm F R]; omega
end Go.Proofs.YtnhnlkljcfbhfaaGreatDoor
/- Two equal lists of strings are the same. -/
namespace Go.Proofs.YtnhnlkljcfbhfaaGreatDoor
open Go Go.Ab
set_option maxRecDepth 100000
def strs (xs : List ByteArray) : List (List AV) := xs.map fun x => [.s (.string x)]
theorem strs_len (xs : List ByteArray) : (xs.map fun x => [AV.s (.string x)]).length = xs.length := List.length_map _
attribute [local irreducible] SC SL wpc wpl wpd wpf wpy wpn FnC FnW RdW SD
set_option pp.deepTerms false
set_option pp.maxSteps 900
set_option maxHeartbeats 2000000
theorem same_oo {G : Gl} (xs : List ByteArray) (hb : xs.length ≤ 1000) {a b : Nat} {x1 x2 : Bool} (hab : a ≠ b) (ho : G.orc 11 [.sl a 0 xs.length none, .sl b 0 xs.length none] = none) :
    FnC Tryz.prog G 11 [.sl a 0 xs.length none, .sl b 0 xs.length none] [(a, .cells 9 1 x1 (strs xs)), (b, .cells 9 1 x2 (strs xs))] (fun v Hn => v = .s (.bool true) ∧ Hn = []) := by
  unfold strs
  refine Fn_body (N := 26) ho Tryz.func11 rfl rfl fun B => ?_
  repeat' (first
    | refine SC_seq ?_
    | refine SC_block ?_
    | refine SC_region ?_
    | refine SL_seq ?_
    | refine SL_move (by decide) (by rfl) ?_
    | refine SL_assign (by decide) (by rfl) ?_
    | (refine SL_neq (by decide) (by rfl) (by rfl) (fun hT => ?_) (fun hT => ?_) <;> first | (exfalso; omega) | skip)
    | refine SL_len_sl (by decide) (by rfl) (by rfl) (sliceOf_spec (slF (by rfl))).1 ?_
    | refine SC_cond_f (by rfl) ?_
    | (refine SC_skip' (fun tm σ hE hH => ?_); refine SC.app ?_ hE hH; clear hE hH; clear tm σ)
    | fail)
  refine SC_loop (fun i : Nat => [(0, .sl a 0 xs.length none), (1, .sl b 0 xs.length none), (5, .s (.int .i64 i))]) (fun i => [(a, .cells 9 1 x1 (xs.map fun x => [.s (.string x)])), (b, .cells 9 1 x2 (xs.map fun x => [.s (.string x)]))]) (fun _ => []) (fun i => i ≤ xs.length) (fun i => xs.length - i) 0 (by omega) ⟨rfl, rfl, rfl, trivial⟩ ⟨.head _, .tail _ (.head _), trivial⟩ (by simp [hab]) rfl ?_
  intro i hi
  by_cases hlt : i < xs.length
  ·
    repeat' (first
      | (refine SL_sneq (by decide) (by rfl) (by rfl) (fun hS => ?_) (fun hS => ?_) <;> first | (exact absurd rfl hS) | skip)
      | refine SC_seq ?_
      | refine SC_block ?_
      | refine SC_region ?_
      | refine SL_seq ?_
      | refine SL_move (by decide) (by rfl) ?_
      | refine SL_assign (by decide) (by rfl) ?_
      | refine SL_add (by decide) (by rfl) (by rfl) (by omega) (by omega) ?_
      | (refine SL_lss (by decide) (by rfl) (by rfl) (fun hT => ?_) (fun hT => ?_) <;> first | (exfalso; omega) | skip)
      | refine SL_len_sl (by decide) (by rfl) (by rfl) (sliceOf_spec (slF (by rfl))).1 ?_
      | refine SL_indexAddr_0 (by decide) (by rfl) (by rfl) (by repeat (first | exact .head _ | refine .tail _ ?_)) (slF (by rfl)) _ (by first | rfl | exact (Int.toNat_of_nonneg (by omega)).symm) (by omega) ?_
      | refine SL_load_o (by decide) (by rfl) (by repeat (first | exact .head _ | refine .tail _ ?_)) (rowF (by rfl)) (by first | assumption | rfl | exact strs_get _ hlt) (by rfl) ?_
      | refine SC_draw (by kernel_rfl) ?_
      | refine SC_cond_t (by rfl) ?_
      | refine SC_cond_f (by rfl) ?_
      | (refine SC_skip' (fun tm σ hE hH => ?_); refine SC.app ?_ hE hH; clear hE hH; clear tm σ)
      | fail)
    refine SL_nil fun tm σ hE hH => ⟨i + 1, by omega, by omega, tm, σ, rfl, hE.sub ⟨rfl, rfl, rfl, trivial⟩, hH.sub ⟨.head _, .tail _ (.head _), trivial⟩ hH.nodup⟩
  · obtain rfl : i = xs.length := by omega
    repeat' (first
      | refine SC_seq ?_
      | refine SC_region ?_
      | refine SL_seq ?_
      | refine SL_move (by decide) (by rfl) ?_
      | refine SL_assign (by decide) (by rfl) ?_
      | (refine SL_lss (by decide) (by rfl) (by rfl) (fun hT => ?_) (fun hT => ?_) <;> first | (exfalso; omega) | skip)
      | refine SL_len_sl (by decide) (by rfl) (by rfl) (sliceOf_spec (slF (by rfl))).1 ?_
      | refine SC_cond_f (by rfl) ?_
      | (refine SC_exit (fun tm σ hE hH => ?_); refine SC.app ?_ hE hH; clear hE hH; clear tm σ)
      | refine SC_ret (fun tm σ hE hH => Post.intro (Hn := []) (.inr rfl) hE hH (by rfl) trivial List.nodup_nil (fun p hp => (by cases hp)) ?_)
      | fail)
    exact ⟨rfl, rfl⟩
theorem same_ov {G : Gl} (xs : List ByteArray) (hb : xs.length ≤ 1000) {a : Nat} {l : AV} {x1 : Bool} (hsl : StV xs l) (ho : G.orc 11 [.sl a 0 xs.length none, l] = none) :
    FnC Tryz.prog G 11 [.sl a 0 xs.length none, l] [(a, .cells 9 1 x1 (strs xs))] (fun v Hn => v = .s (.bool true) ∧ Hn = []) := by
  unfold strs
  unfold StV at hsl
  refine Fn_body (N := 26) ho Tryz.func11 rfl rfl fun B => ?_
  repeat' (first
    | refine SL_len_v (by decide) (by rfl) (by assumption) (by rfl) (slF (by rfl)) (strs_len _) ?_
    | refine SC_seq ?_
    | refine SC_block ?_
    | refine SC_region ?_
    | refine SL_seq ?_
    | refine SL_move (by decide) (by rfl) ?_
    | refine SL_assign (by decide) (by rfl) ?_
    | (refine SL_neq (by decide) (by rfl) (by rfl) (fun hT => ?_) (fun hT => ?_) <;> first | (exfalso; omega) | skip)
    | refine SL_len_sl (by decide) (by rfl) (by rfl) (sliceOf_spec (slF (by rfl))).1 ?_
    | refine SC_cond_f (by rfl) ?_
    | (refine SC_skip' (fun tm σ hE hH => ?_); refine SC.app ?_ hE hH; clear hE hH; clear tm σ)
    | fail)
  refine SC_loop (fun i : Nat => [(0, .sl a 0 xs.length none), (1, l), (5, .s (.int .i64 i))]) (fun i => [(a, .cells 9 1 x1 (xs.map fun x => [.s (.string x)]))]) (fun _ => []) (fun i => i ≤ xs.length) (fun i => xs.length - i) 0 (by omega) ⟨rfl, rfl, rfl, trivial⟩ ⟨.head _, trivial⟩ (by simp) rfl ?_
  intro i hi
  by_cases hlt : i < xs.length
  ·
    repeat' (first
      | (refine SL_sneq (by decide) (by rfl) (by rfl) (fun hS => ?_) (fun hS => ?_) <;> first | (exact absurd rfl hS) | skip)
      | refine SC_seq ?_
      | refine SC_block ?_
      | refine SC_region ?_
      | refine SL_seq ?_
      | refine SL_move (by decide) (by rfl) ?_
      | refine SL_assign (by decide) (by rfl) ?_
      | refine SL_add (by decide) (by rfl) (by rfl) (by omega) (by omega) ?_
      | (refine SL_lss (by decide) (by rfl) (by rfl) (fun hT => ?_) (fun hT => ?_) <;> first | (exfalso; omega) | skip)
      | refine SL_len_sl (by decide) (by rfl) (by rfl) (sliceOf_spec (slF (by rfl))).1 ?_
      | refine SL_indexAddr_v (by decide) (by rfl) (by rfl) (by assumption) (slF (by rfl)) _ (by first | rfl | exact (Int.toNat_of_nonneg (by omega)).symm) (by simp only [List.length_map]; omega) (fun ad => ?_)
      | refine SL_indexAddr_0 (by decide) (by rfl) (by rfl) (by repeat (first | exact .head _ | refine .tail _ ?_)) (slF (by rfl)) _ (by first | rfl | exact (Int.toNat_of_nonneg (by omega)).symm) (by omega) ?_
      | refine SL_load_r (by decide) (by rfl) (rowF (by rfl)) (by first | assumption | rfl | exact strs_get _ hlt) (by rfl) ?_
      | refine SL_load_o (by decide) (by rfl) (by repeat (first | exact .head _ | refine .tail _ ?_)) (rowF (by rfl)) (by first | assumption | rfl | exact strs_get _ hlt) (by rfl) ?_
      | refine SC_draw (by kernel_rfl) ?_
      | refine SC_cond_t (by rfl) ?_
      | refine SC_cond_f (by rfl) ?_
      | (refine SC_skip' (fun tm σ hE hH => ?_); refine SC.app ?_ hE hH; clear hE hH; clear tm σ)
      | fail)
    refine SL_nil fun tm σ hE hH => ⟨i + 1, by omega, by omega, tm, σ, rfl, hE.sub ⟨rfl, rfl, rfl, trivial⟩, hH.sub ⟨.head _, trivial⟩ hH.nodup⟩
  · obtain rfl : i = xs.length := by omega
    repeat' (first
      | refine SC_seq ?_
      | refine SC_region ?_
      | refine SL_seq ?_
      | refine SL_move (by decide) (by rfl) ?_
      | refine SL_assign (by decide) (by rfl) ?_
      | (refine SL_lss (by decide) (by rfl) (by rfl) (fun hT => ?_) (fun hT => ?_) <;> first | (exfalso; omega) | skip)
      | refine SL_len_sl (by decide) (by rfl) (by rfl) (sliceOf_spec (slF (by rfl))).1 ?_
      | refine SC_cond_f (by rfl) ?_
      | (refine SC_exit (fun tm σ hE hH => ?_); refine SC.app ?_ hE hH; clear hE hH; clear tm σ)
      | refine SC_ret (fun tm σ hE hH => Post.intro (Hn := []) (.inr rfl) hE hH (by rfl) trivial List.nodup_nil (fun p hp => (by cases hp)) ?_)
      | fail)
    exact ⟨rfl, rfl⟩
end Go.Proofs.YtnhnlkljcfbhfaaGreatDoor
/- The law's own diagram, of a board that came in. -/
namespace Go.Proofs.YtnhnlkljcfbhfaaGreatDoor
open Go Go.Ab
set_option maxRecDepth 100000
theorem bd32 : (Tryz.prog.funcs[32]?).map (·.body.isNone) = some false := by rw [Tryz.func32]; rfl
theorem size32 : (⟨#[32]⟩ : ByteArray).size = 1 := rfl
def outS (n : Nat) : Option Nat → AV
  | none => .s (.slice none 0 0)
  | some id => .sl id 0 n none
def outH (D : List ByteArray) : Option Nat → List (Nat × AObj)
  | none => []
  | some id => [(id, .cells 9 1 false (strs D))]
attribute [local irreducible] SC SL wpc wpl wpd wpf wpy wpn FnC FnW RdW SD
set_option pp.deepTerms false
set_option pp.maxSteps 900
set_option maxHeartbeats 2000000
theorem diagram_v {G : Gl} {F R : Nat} {ps : List Int} {l : AV} (hsl : SlV 1 l (ps.map fun p => [AV.s (.int .i8 p)])) (hF : 3 ≤ F ∧ F ≤ 8) (hR : 3 ≤ R ∧ R ≤ 8) (hl : ps.length = F * R) (hps : OkPs ps) (ho : ∀ a, G.orc 12 [a] = none)
    (h32z : ∀ p : Int, p = 0 → FnC Tryz.prog G 32 [.s (.int .i8 p)] [] (fun v Hn => v = .s (.tuple #[.int .u8 0, .int .i64 2]) ∧ Hn = []))
    (h32 : ∀ p : Int, p ≠ 0 → -15 ≤ p → p ≤ 15 → FnC Tryz.prog G 32 [.s (.int .i8 p)] [] (fun v Hn => v = .s (.tuple #[.int .u8 (codeOf p), .int .i64 0]) ∧ Hn = [])) :
    FnC Tryz.prog G 12 [brd F R l] [] (fun v Hn => ∃ id, v = .sl id 0 R none ∧ Hn = [(id, .cells 9 1 false (strs (diagR F ps R)))]) := by
  refine Fn_body (N := 55) (ho _) Tryz.func12 rfl rfl fun B => ?_
  repeat' (first
    | (refine SL_box (by decide) (by rfl) (by first | exact cells_2 _ _ | exact cells_b _ _ _) (fun b1 hid => ?_))
    | refine SC_seq ?_
    | refine SC_block ?_
    | refine SC_region ?_
    | refine SL_seq ?_
    | refine SL_assign (by decide) (by rfl) ?_
    | refine SL_sub (by decide) (by rfl) (by rfl) (by omega) (by omega) ?_
    | refine SL_fieldAddr (by decide) (by rfl) (fldF (by rfl)) ?_
    | refine SL_load_o (by decide) (by rfl) (by repeat (first | exact .head _ | refine .tail _ ?_)) (rowF (by rfl)) (by first | assumption | rfl | exact ps_get _ hlt) (by rfl) ?_
    | fail)
  refine SC_loop (fun a : Nat × Option Nat => [(1, .ptr b1 0 0), (3, outS a.1 a.2), (4, .s (.int .i64 ((R : Int) - 1 - a.1)))]) (fun a => (b1, .cells 26 3 true [[.s (.int .i64 F), .s (.int .i64 R), l]]) :: outH ((diagR F ps R).take a.1) a.2) (fun _ => []) (fun a => a.1 ≤ R ∧ (a.2 = none ↔ a.1 = 0) ∧ ∀ id, a.2 = some id → B.next ≤ id) (fun a => R - a.1) (0, none) ⟨by omega, by simp, by simp⟩ ⟨rfl, rfl, ?_, trivial⟩ ?_ (by simp [outH]) rfl ?_
  · show some (AV.s (Value.int IntKind.i64 ((R : Int) - 1))) = some (.s (.int .i64 ((R : Int) - 1 - ((0 : Nat) : Int))))
    rw [Int.natCast_zero, Int.sub_zero]
  · exact ⟨.head _, trivial⟩
  rintro ⟨n, o⟩ ⟨hn, hon, hnew⟩
  dsimp only at hn hon hnew
  by_cases hnR : n < R
  · obtain ⟨q, hq⟩ : ∃ q : Nat, (R : Int) - 1 - n = q := ⟨R - 1 - n, by omega⟩
    dsimp only
    rw [hq]
    repeat' (first
      | refine SC_seq ?_
      | refine SC_block ?_
      | refine SC_region ?_
      | refine SL_seq ?_
      | refine SL_move (by decide) (by rfl) ?_
      | refine SL_assign (by decide) (by rfl) ?_
      | (refine SL_geq (by decide) (by rfl) (by rfl) (fun hT => ?_) (fun hT => ?_) <;> first | (exfalso; omega) | skip)
      | refine SC_cond_t (by rfl) ?_
      | (refine SC_skip' (fun tm σ hE hH => ?_); refine SC.app ?_ hE hH; clear hE hH; clear tm σ)
      | fail)
    refine SC_nd fun hnd => ?_
    refine SC_loop (fun k : Nat => [(1, .ptr b1 0 0), (3, outS n o), (4, .s (.int .i64 q)), (5, .s (.string (lineP (((ps.drop (q * F)).take F).take k)))), (6, .s (.int .i64 k))]) (fun _ => (b1, .cells 26 3 true [[.s (.int .i64 F), .s (.int .i64 R), l]]) :: outH ((diagR F ps R).take n) o) (fun _ => []) (fun k => k ≤ F) (fun k => F - k) 0 (by omega) ⟨rfl, rfl, rfl, rfl, rfl, trivial⟩ (.of_mem fun p hp => hp) hnd rfl ?_
    intro k hk
    by_cases hkF : k < F
    · obtain ⟨hidx, hget⟩ := rank_at hl (show q < R by omega) hkF
      have hrl := rank_len hl (show q < R by omega)
      have hX0 : 0 ≤ (q : Int) * F := Int.mul_nonneg (by omega) (by omega)
      have hX1 : (q : Int) * F + k < ps.length := by have := hidx; rw [← Int.natCast_mul]; omega
      have hX2 : (ps.length : Int) ≤ 64 := by
        have : F * R ≤ 8 * 8 := Nat.mul_le_mul (by omega) (by omega)
        omega
      have hlt : ((q : Int) * F + k).toNat < ps.length := by omega
      have hp := hps _ (List.getElem_mem hlt)
      have hls := lineP_size ((ps.drop (q * F)).take F) k (by omega)
      have hix : ((q : Int) * F + k).toNat = q * F + k := by rw [← Int.natCast_mul]; omega
      have hrow : ((ps.drop (q * F)).take F)[k]'(by omega) = ps[((q : Int) * F + k).toNat] := by
        have h1 := List.getElem?_eq_getElem (show k < ((ps.drop (q * F)).take F).length by omega)
        rw [hget] at h1
        simp only [hix]
        exact (Option.some.inj h1).symm
      have hval := lineP_take (show k < ((ps.drop (q * F)).take F).length by omega)
      rw [hrow] at hval
      by_cases hz : ps[((q : Int) * F + k).toNat] = 0
      · by_cases hk0 : k = 0
        ·
          repeat' (first
            | refine SL_mul (by decide) (by rfl) (by rfl) (by omega) (by omega) ?_
            | refine SL_cat (by decide) (by rfl) (by rfl) (catOk (by first | omega | (rw [ByteArray.size_append, size32]; omega) | exact Nat.le_of_ble_eq_true (by rfl)) (by first | omega | exact Nat.le_of_ble_eq_true (by rfl))) ?_
            | refine SL_bytes (by decide) (by rfl) (by repeat (first | exact .head _ | refine .tail _ ?_)) Tryz.underlying84 Tryz.underlying9 Tryz.underlying5 (Nat.le_of_ble_eq_true (by rfl)) (by rfl) ?_
            | (refine SL_call (by decide) (by rfl) bd32 (by rfl) (by rfl) (h32z _ (by assumption)) trivial List.nodup_nil ?_; rintro _ _ _ ⟨rfl, rfl⟩; rw [List.nil_append])
            | refine SC_seq ?_
            | refine SC_block ?_
            | refine SC_region ?_
            | refine SL_seq ?_
            | (refine SL_nil (fun tm σ hE hH => ?_); refine SC.app ?_ hE hH; clear hE hH; clear tm σ)
            | refine SL_move (by decide) (by rfl) ?_
            | refine SL_assign (by decide) (by rfl) ?_
            | refine SL_add (by decide) (by rfl) (by rfl) (by omega) (by omega) ?_
            | (refine SL_lss (by decide) (by rfl) (by rfl) (fun hT => ?_) (fun hT => ?_) <;> first | (exfalso; omega) | skip)
            | (refine SL_gtr (by decide) (by rfl) (by rfl) (fun hT => ?_) (fun hT => ?_) <;> first | (exfalso; omega) | skip)
            | (refine SL_neq (by decide) (by rfl) (by rfl) (fun hT => ?_) (fun hT => ?_) <;> first | (exfalso; omega) | skip)
            | refine SL_extract_s (by decide) (by rfl) (by rfl) ?_
            | refine SL_fieldAddr (by decide) (by rfl) (fldF (by rfl)) ?_
            | refine SL_indexAddr_v (by decide) (by rfl) (by rfl) (by assumption) (slF (by rfl)) _ (by first | rfl | exact (Int.toNat_of_nonneg (by omega)).symm) (by simp only [List.length_map]; omega) (fun ad => ?_)
            | refine SL_load_r (by decide) (by rfl) (rowF (by rfl)) (by first | assumption | rfl | exact ps_get _ hlt) (by rfl) ?_
            | refine SL_load_o (by decide) (by rfl) (by repeat (first | exact .head _ | refine .tail _ ?_)) (rowF (by rfl)) (by first | assumption | rfl | exact ps_get _ hlt) (by rfl) ?_
            | refine SL_build1 (by decide) (by rfl) (elF (by rfl)) (by rfl) (by rfl) (fun id hid => ?_)
            | refine SC_cond_t (by rfl) ?_
            | refine SC_cond_f (by rfl) ?_
            | (refine SC_skip' (fun tm σ hE hH => ?_); refine SC.app ?_ hE hH; clear hE hH; clear tm σ)
            | fail)
          refine SL_nil fun tm σ hE hH => ⟨k + 1, by omega, by omega, tm, σ, rfl, hE.sub ⟨rfl, rfl, rfl, congrArg (fun s => some (AV.s (Value.string s))) (Eq.trans ?_ hval.symm), rfl, trivial⟩, hH.subl (List.Sublist.cons _ (List.Sublist.refl _))⟩
          rw [if_pos hk0, hz]; rfl
        ·
          repeat' (first
            | refine SL_mul (by decide) (by rfl) (by rfl) (by omega) (by omega) ?_
            | refine SL_cat (by decide) (by rfl) (by rfl) (catOk (by first | omega | (rw [ByteArray.size_append, size32]; omega) | exact Nat.le_of_ble_eq_true (by rfl)) (by first | omega | exact Nat.le_of_ble_eq_true (by rfl))) ?_
            | refine SL_bytes (by decide) (by rfl) (by repeat (first | exact .head _ | refine .tail _ ?_)) Tryz.underlying84 Tryz.underlying9 Tryz.underlying5 (Nat.le_of_ble_eq_true (by rfl)) (by rfl) ?_
            | (refine SL_call (by decide) (by rfl) bd32 (by rfl) (by rfl) (h32z _ (by assumption)) trivial List.nodup_nil ?_; rintro _ _ _ ⟨rfl, rfl⟩; rw [List.nil_append])
            | refine SC_seq ?_
            | refine SC_block ?_
            | refine SC_region ?_
            | refine SL_seq ?_
            | (refine SL_nil (fun tm σ hE hH => ?_); refine SC.app ?_ hE hH; clear hE hH; clear tm σ)
            | refine SL_move (by decide) (by rfl) ?_
            | refine SL_assign (by decide) (by rfl) ?_
            | refine SL_add (by decide) (by rfl) (by rfl) (by omega) (by omega) ?_
            | (refine SL_lss (by decide) (by rfl) (by rfl) (fun hT => ?_) (fun hT => ?_) <;> first | (exfalso; omega) | skip)
            | (refine SL_gtr (by decide) (by rfl) (by rfl) (fun hT => ?_) (fun hT => ?_) <;> first | (exfalso; omega) | skip)
            | (refine SL_neq (by decide) (by rfl) (by rfl) (fun hT => ?_) (fun hT => ?_) <;> first | (exfalso; omega) | skip)
            | refine SL_extract_s (by decide) (by rfl) (by rfl) ?_
            | refine SL_fieldAddr (by decide) (by rfl) (fldF (by rfl)) ?_
            | refine SL_indexAddr_v (by decide) (by rfl) (by rfl) (by assumption) (slF (by rfl)) _ (by first | rfl | exact (Int.toNat_of_nonneg (by omega)).symm) (by simp only [List.length_map]; omega) (fun ad => ?_)
            | refine SL_load_r (by decide) (by rfl) (rowF (by rfl)) (by first | assumption | rfl | exact ps_get _ hlt) (by rfl) ?_
            | refine SL_load_o (by decide) (by rfl) (by repeat (first | exact .head _ | refine .tail _ ?_)) (rowF (by rfl)) (by first | assumption | rfl | exact ps_get _ hlt) (by rfl) ?_
            | refine SL_build1 (by decide) (by rfl) (elF (by rfl)) (by rfl) (by rfl) (fun id hid => ?_)
            | refine SC_cond_t (by rfl) ?_
            | (refine SC_skip' (fun tm σ hE hH => ?_); refine SC.app ?_ hE hH; clear hE hH; clear tm σ)
            | fail)
          refine SL_nil fun tm σ hE hH => ⟨k + 1, by omega, by omega, tm, σ, rfl, hE.sub ⟨rfl, rfl, rfl, congrArg (fun s => some (AV.s (Value.string s))) (Eq.trans ?_ hval.symm), rfl, trivial⟩, hH.subl (List.Sublist.cons _ (List.Sublist.refl _))⟩
          rw [if_neg hk0, hz]; rfl
      · by_cases hk0 : k = 0
        ·
          repeat' (first
            | refine SL_mul (by decide) (by rfl) (by rfl) (by omega) (by omega) ?_
            | refine SL_cat (by decide) (by rfl) (by rfl) (catOk (by first | omega | (rw [ByteArray.size_append, size32]; omega) | exact Nat.le_of_ble_eq_true (by rfl)) (by first | omega | exact Nat.le_of_ble_eq_true (by rfl))) ?_
            | refine SL_bytes (by decide) (by rfl) (by repeat (first | exact .head _ | refine .tail _ ?_)) Tryz.underlying84 Tryz.underlying9 Tryz.underlying5 (Nat.le_of_ble_eq_true (by rfl)) (by rfl) ?_
            | (refine SL_call (by decide) (by rfl) bd32 (by rfl) (by rfl) (h32 _ (by assumption) (by omega) (by omega)) trivial List.nodup_nil ?_; rintro _ _ _ ⟨rfl, rfl⟩; rw [List.nil_append])
            | refine SC_seq ?_
            | refine SC_block ?_
            | refine SC_region ?_
            | refine SL_seq ?_
            | (refine SL_nil (fun tm σ hE hH => ?_); refine SC.app ?_ hE hH; clear hE hH; clear tm σ)
            | refine SL_move (by decide) (by rfl) ?_
            | refine SL_assign (by decide) (by rfl) ?_
            | refine SL_add (by decide) (by rfl) (by rfl) (by omega) (by omega) ?_
            | (refine SL_lss (by decide) (by rfl) (by rfl) (fun hT => ?_) (fun hT => ?_) <;> first | (exfalso; omega) | skip)
            | (refine SL_gtr (by decide) (by rfl) (by rfl) (fun hT => ?_) (fun hT => ?_) <;> first | (exfalso; omega) | skip)
            | (refine SL_neq (by decide) (by rfl) (by rfl) (fun hT => ?_) (fun hT => ?_) <;> first | (exfalso; omega) | skip)
            | refine SL_extract_s (by decide) (by rfl) (by rfl) ?_
            | refine SL_fieldAddr (by decide) (by rfl) (fldF (by rfl)) ?_
            | refine SL_indexAddr_v (by decide) (by rfl) (by rfl) (by assumption) (slF (by rfl)) _ (by first | rfl | exact (Int.toNat_of_nonneg (by omega)).symm) (by simp only [List.length_map]; omega) (fun ad => ?_)
            | refine SL_load_r (by decide) (by rfl) (rowF (by rfl)) (by first | assumption | rfl | exact ps_get _ hlt) (by rfl) ?_
            | refine SL_load_o (by decide) (by rfl) (by repeat (first | exact .head _ | refine .tail _ ?_)) (rowF (by rfl)) (by first | assumption | rfl | exact ps_get _ hlt) (by rfl) ?_
            | refine SL_build1 (by decide) (by rfl) (elF (by rfl)) (by rfl) (by rfl) (fun id hid => ?_)
            | refine SC_cond_t (by rfl) ?_
            | refine SC_cond_f (by rfl) ?_
            | (refine SC_skip' (fun tm σ hE hH => ?_); refine SC.app ?_ hE hH; clear hE hH; clear tm σ)
            | fail)
          refine SL_nil fun tm σ hE hH => ⟨k + 1, by omega, by omega, tm, σ, rfl, hE.sub ⟨rfl, rfl, rfl, congrArg (fun s => some (AV.s (Value.string s))) (Eq.trans ?_ hval.symm), rfl, trivial⟩, hH.subl (List.Sublist.cons _ (List.Sublist.refl _))⟩
          rw [if_pos hk0]; rfl
        ·
          repeat' (first
            | refine SL_mul (by decide) (by rfl) (by rfl) (by omega) (by omega) ?_
            | refine SL_cat (by decide) (by rfl) (by rfl) (catOk (by first | omega | (rw [ByteArray.size_append, size32]; omega) | exact Nat.le_of_ble_eq_true (by rfl)) (by first | omega | exact Nat.le_of_ble_eq_true (by rfl))) ?_
            | refine SL_bytes (by decide) (by rfl) (by repeat (first | exact .head _ | refine .tail _ ?_)) Tryz.underlying84 Tryz.underlying9 Tryz.underlying5 (Nat.le_of_ble_eq_true (by rfl)) (by rfl) ?_
            | (refine SL_call (by decide) (by rfl) bd32 (by rfl) (by rfl) (h32 _ (by assumption) (by omega) (by omega)) trivial List.nodup_nil ?_; rintro _ _ _ ⟨rfl, rfl⟩; rw [List.nil_append])
            | refine SC_seq ?_
            | refine SC_block ?_
            | refine SC_region ?_
            | refine SL_seq ?_
            | (refine SL_nil (fun tm σ hE hH => ?_); refine SC.app ?_ hE hH; clear hE hH; clear tm σ)
            | refine SL_move (by decide) (by rfl) ?_
            | refine SL_assign (by decide) (by rfl) ?_
            | refine SL_add (by decide) (by rfl) (by rfl) (by omega) (by omega) ?_
            | (refine SL_lss (by decide) (by rfl) (by rfl) (fun hT => ?_) (fun hT => ?_) <;> first | (exfalso; omega) | skip)
            | (refine SL_gtr (by decide) (by rfl) (by rfl) (fun hT => ?_) (fun hT => ?_) <;> first | (exfalso; omega) | skip)
            | (refine SL_neq (by decide) (by rfl) (by rfl) (fun hT => ?_) (fun hT => ?_) <;> first | (exfalso; omega) | skip)
            | refine SL_extract_s (by decide) (by rfl) (by rfl) ?_
            | refine SL_fieldAddr (by decide) (by rfl) (fldF (by rfl)) ?_
            | refine SL_indexAddr_v (by decide) (by rfl) (by rfl) (by assumption) (slF (by rfl)) _ (by first | rfl | exact (Int.toNat_of_nonneg (by omega)).symm) (by simp only [List.length_map]; omega) (fun ad => ?_)
            | refine SL_load_r (by decide) (by rfl) (rowF (by rfl)) (by first | assumption | rfl | exact ps_get _ hlt) (by rfl) ?_
            | refine SL_load_o (by decide) (by rfl) (by repeat (first | exact .head _ | refine .tail _ ?_)) (rowF (by rfl)) (by first | assumption | rfl | exact ps_get _ hlt) (by rfl) ?_
            | refine SL_build1 (by decide) (by rfl) (elF (by rfl)) (by rfl) (by rfl) (fun id hid => ?_)
            | refine SC_cond_t (by rfl) ?_
            | refine SC_cond_f (by rfl) ?_
            | (refine SC_skip' (fun tm σ hE hH => ?_); refine SC.app ?_ hE hH; clear hE hH; clear tm σ)
            | fail)
          refine SL_nil fun tm σ hE hH => ⟨k + 1, by omega, by omega, tm, σ, rfl, hE.sub ⟨rfl, rfl, rfl, congrArg (fun s => some (AV.s (Value.string s))) (Eq.trans ?_ hval.symm), rfl, trivial⟩, hH.subl (List.Sublist.cons _ (List.Sublist.refl _))⟩
          rw [if_neg hk0]; rfl
    · obtain rfl : k = F := by omega
      have hrl := rank_len hl (show q < R by omega)
      have hDn : (diagR k ps R).take (n + 1) = (diagR k ps R).take n ++ [lineP (((ps.drop (q * k)).take k).take k)] := by
        have := diagR_take k ps (show q < R by omega)
        rw [show R - q = n + 1 by omega, show R - (q + 1) = n by omega] at this
        rw [this, List.take_take, Nat.min_self]
      cases o with
      | none =>
        obtain rfl : n = 0 := hon.1 rfl
        dsimp only [outS, outH]
        repeat' (first
          | refine SC_seq ?_
          | refine SC_region ?_
          | refine SL_seq ?_
          | (refine SL_nil (fun tm σ hE hH => ?_); refine SC.app ?_ hE hH; clear hE hH; clear tm σ)
          | refine SL_move (by decide) (by rfl) ?_
          | refine SL_assign (by decide) (by rfl) ?_
          | refine SL_sub (by decide) (by rfl) (by rfl) (by omega) (by omega) ?_
          | (refine SL_lss (by decide) (by rfl) (by rfl) (fun hT => ?_) (fun hT => ?_) <;> first | (exfalso; omega) | skip)
          | refine SL_fieldAddr (by decide) (by rfl) (fldF (by rfl)) ?_
          | refine SL_load_o (by decide) (by rfl) (by repeat (first | exact .head _ | refine .tail _ ?_)) (rowF (by rfl)) (by first | assumption | rfl | exact ps_get _ hlt) (by rfl) ?_
          | refine SL_build1 (by decide) (by rfl) (elF (by rfl)) (by rfl) (by rfl) (fun id hid => ?_)
          | refine SL_append1_nil (by decide) (by rfl) (by rfl) (by repeat (first | exact .head _ | refine .tail _ ?_)) (elF (by rfl)) (sliceOf_spec (slF (by rfl))).1 (by rfl) (by decide) (fun id hid => ?_)
          | refine SC_cond_f (by rfl) ?_
          | (refine SC_exit (fun tm σ hE hH => ?_); refine SC.app ?_ hE hH; clear hE hH; clear tm σ)
          | fail)
        refine SL_nil fun tm σ hE hH => ⟨(1, some id), by dsimp only; omega, ⟨by dsimp only; omega, by simp, fun j hj => by cases hj; assumption⟩, tm, σ, rfl, hE.sub ⟨rfl, rfl, ?_, trivial⟩, ?_⟩
        · show some (AV.s (Value.int IntKind.i64 ((q : Int) - 1))) = some (.s (.int .i64 ((R : Int) - 1 - ((1 : Nat) : Int))))
          rw [show (R : Int) - 1 - ((1 : Nat) : Int) = (q : Int) - 1 by omega]
        · dsimp only [outH, strs]
          rw [hDn]
          exact (hH.perm (List.perm_append_comm (l₁ := [_, _]) (l₂ := [_]))).subl (.cons_cons _ (.cons_cons _ (.cons _ .slnil)))
      | some oid =>
        have hDl : ((diagR k ps R).take n).length = n := by rw [List.length_take, diagR_len]; omega
        have hoid := hnew oid rfl
        dsimp only [outS, outH, strs]
        repeat' (first
          | refine SL_append1_own (by decide) (by rfl) (by rfl) (by repeat (first | exact .head | apply Upd.tail)) (by rw [List.length_map]; exact hDl.symm) (by first | exact .inl (by assumption) | exact .inr (by simp)) (by repeat (first | exact .head _ | refine .tail _ ?_)) (elF (by rfl)) (sliceOf_spec (slF (by rfl))).1 (by rfl) (by omega) (by omega) (fun id hid => ?_)
          | refine SC_seq ?_
          | refine SC_region ?_
          | refine SL_seq ?_
          | (refine SL_nil (fun tm σ hE hH => ?_); refine SC.app ?_ hE hH; clear hE hH; clear tm σ)
          | refine SL_move (by decide) (by rfl) ?_
          | refine SL_assign (by decide) (by rfl) ?_
          | refine SL_sub (by decide) (by rfl) (by rfl) (by omega) (by omega) ?_
          | (refine SL_lss (by decide) (by rfl) (by rfl) (fun hT => ?_) (fun hT => ?_) <;> first | (exfalso; omega) | skip)
          | refine SL_fieldAddr (by decide) (by rfl) (fldF (by rfl)) ?_
          | refine SL_load_o (by decide) (by rfl) (by repeat (first | exact .head _ | refine .tail _ ?_)) (rowF (by rfl)) (by first | assumption | rfl | exact ps_get _ hlt) (by rfl) ?_
          | refine SL_build1 (by decide) (by rfl) (elF (by rfl)) (by rfl) (by rfl) (fun id hid => ?_)
          | refine SC_cond_f (by rfl) ?_
          | (refine SC_exit (fun tm σ hE hH => ?_); refine SC.app ?_ hE hH; clear hE hH; clear tm σ)
          | fail)
        refine SL_nil fun tm σ hE hH => ⟨(n + 1, some id), by dsimp only; omega, ⟨by dsimp only; omega, by simp, fun j hj => by cases hj; assumption⟩, tm, σ, rfl, hE.sub ⟨rfl, rfl, ?_, trivial⟩, ?_⟩
        · show some (AV.s (Value.int IntKind.i64 ((q : Int) - 1))) = some (.s (.int .i64 ((R : Int) - 1 - ((n + 1 : Nat) : Int))))
          rw [show (R : Int) - 1 - ((n + 1 : Nat) : Int) = (q : Int) - 1 by omega]
        · dsimp only [outH, strs]
          rw [hDn, List.map_append]
          exact (hH.perm (List.perm_append_comm (l₁ := [_, _]) (l₂ := [_, _]))).subl (.cons_cons _ (.cons _ (.cons_cons _ (.cons _ .slnil))))
  · obtain rfl : n = R := by omega
    cases o with
    | none => exact absurd (hon.1 rfl) (by omega)
    | some oid =>
      dsimp only [outS, outH]
      repeat' (first
        | refine SC_seq ?_
        | refine SC_region ?_
        | refine SL_seq ?_
        | refine SL_move (by decide) (by rfl) ?_
        | refine SL_assign (by decide) (by rfl) ?_
        | (refine SL_geq (by decide) (by rfl) (by rfl) (fun hT => ?_) (fun hT => ?_) <;> first | (exfalso; omega) | skip)
        | refine SC_cond_f (by rfl) ?_
        | (refine SC_exit (fun tm σ hE hH => ?_); refine SC.app ?_ hE hH; clear hE hH; clear tm σ)
        | fail)
      refine SC_ret (fun tm σ hE hH => Post.intro (Hn := [(oid, _)]) (.inr rfl) hE hH (by rfl) ⟨.tail _ (.head _), trivial⟩ (by simp) (fun p hp => by cases List.mem_singleton.1 hp; exact hnew oid rfl) ⟨oid, rfl, by rw [List.take_of_length_le (by rw [diagR_len]; exact Nat.le_refl _)]⟩)
end Go.Proofs.YtnhnlkljcfbhfaaGreatDoor
/- The program's diagram, of a board that came in. -/
namespace Go.Proofs.YtnhnlkljcfbhfaaGreatDoor
open Go Go.Ab
set_option maxRecDepth 100000
theorem bd10 : (Tryz.prog.funcs[10]?).map (·.body.isNone) = some false := by rw [Tryz.func10]; rfl
theorem bd33 : (Tryz.prog.funcs[33]?).map (·.body.isNone) = some false := by rw [Tryz.func33]; rfl
theorem bd74 : (Tryz.prog.funcs[74]?).map (·.body.isNone) = some false := by rw [Tryz.func74]; rfl
theorem row_sl {ps row : List Int} {q F : Nat} {v : AV} (hrow : row = (ps.drop (q * F)).take F) (hv : SlK 1 v (((ps.map fun p => [AV.s (.int .i8 p)]).take ((q + 1) * F)).drop (q * F))) : SlV 1 v (row.map fun p => [AV.s (.int .i8 p)]) := by
  have : ((ps.map fun p => [AV.s (.int .i8 p)]).take ((q + 1) * F)).drop (q * F) = row.map fun p => [AV.s (.int .i8 p)] := by
    rw [hrow, ← List.map_take, ← List.map_drop, List.drop_take, show (q + 1) * F - q * F = F by rw [Nat.add_mul, Nat.one_mul]; omega]
  rw [this] at hv
  exact hv.v
attribute [local irreducible] SC SL wpc wpl wpd wpf wpy wpn FnC FnW RdW SD
set_option pp.deepTerms false
set_option pp.maxSteps 900
set_option maxHeartbeats 2000000
theorem words_fn {G : Gl} (ho : ∀ a, G.orc 33 [a] = none) {id n : Nat} {x : Bool} {xs : List ByteArray} {s : ByteArray} (h74 : FnC Tryz.prog G 74 [.sl id 0 n none, .s (.string ⟨#[32]⟩)] [(id, .cells 9 1 x (strs xs))] (fun v Hn => v = .s (.string s) ∧ Hn = [])) :
    FnC Tryz.prog G 33 [.sl id 0 n none] [(id, .cells 9 1 x (strs xs))] (fun v Hn => v = .s (.string s) ∧ Hn = []) := by
  refine Fn_body (N := 5) (ho _) Tryz.func33 rfl rfl fun B => ?_
  repeat' (first
    | (refine SL_call (by decide) (by rfl) bd74 (by rfl) (by rfl) h74 ⟨.head _, trivial⟩ (by simp) ?_; rintro _ _ _ ⟨rfl, rfl⟩; rw [List.nil_append])
    | refine SC_seq ?_
    | refine SC_region ?_
    | refine SL_seq ?_
    | refine SL_move (by decide) (by rfl) ?_
    | refine SL_assign (by decide) (by rfl) ?_
    | fail)
  refine SC_ret (fun tm σ hE hH => Post.intro (Hn := []) (.inr rfl) hE hH (by rfl) trivial List.nodup_nil (fun p hp => (by cases hp)) ?_)
  exact ⟨rfl, rfl⟩
theorem pdiag_f {G : Gl} {f r : Int} {l : AV} (ho : ∀ a, G.orc 9 [a] = none) (h10 : FnC Tryz.prog G 10 [brd f r l] [] (fun v Hn => v = .s (.bool false) ∧ Hn = [])) :
    FnC Tryz.prog G 9 [brd f r l] [] (fun v Hn => v = .s (.tuple #[.slice none 0 0, .int .i64 2]) ∧ Hn = []) := by
  refine Fn_body (N := 60) (ho _) Tryz.func9 rfl rfl fun B => ?_
  repeat' (first
    | (refine SL_box (by decide) (by rfl) (by first | exact cells_2 _ _ | exact cells_b _ _ _) (fun b1 hid => ?_))
    | refine SL_load_or (by decide) (by rfl) (by repeat (first | exact .head _ | refine .tail _ ?_)) (rowF (by rfl)) (by rfl) (Nat.le_of_ble_eq_true (by rfl)) (by first | exact mk2 _ _ | exact mk2b _ _ _ | exact mkb _ _ _) ?_
    | (refine SL_call (by decide) (by rfl) bd10 (by rfl) (by rfl) (h10) trivial List.nodup_nil ?_; rintro _ _ _ ⟨rfl, rfl⟩; rw [List.nil_append])
    | refine SC_seq ?_
    | refine SC_region ?_
    | refine SL_seq ?_
    | refine SL_assign (by decide) (by rfl) ?_
    | refine SL_not_op (by decide) (by rfl) ?_
    | refine SC_cond_t (by rfl) ?_
    | fail)
  refine SC_ret (fun tm σ hE hH => Post.intro (Hn := []) (.inr rfl) hE hH (by rfl) trivial List.nodup_nil (fun p hp => (by cases hp)) ?_)
  exact ⟨rfl, rfl⟩
theorem pdiag_t {G : Gl} {F R : Nat} {ps : List Int} {l : AV} (hsl : SlK 1 l (ps.map fun p => [AV.s (.int .i8 p)])) (hF : 3 ≤ F ∧ F ≤ 8) (hR : 3 ≤ R ∧ R ≤ 8) (hl : ps.length = F * R) (hps : OkPs ps) (ho : ∀ a, G.orc 9 [a] = none)
    (h10 : FnC Tryz.prog G 10 [brd F R l] [] (fun v Hn => v = .s (.bool true) ∧ Hn = []))
    (h32 : ∀ p : Int, p ≠ 0 → -15 ≤ p → p ≤ 15 → FnC Tryz.prog G 32 [.s (.int .i8 p)] [] (fun v Hn => v = .s (.tuple #[.int .u8 (codeOf p), .int .i64 0]) ∧ Hn = []))
    (h33 : ∀ (id n : Nat) (row : List Int), (row.map chrP).length = n → n ≤ 8 → FnC Tryz.prog G 33 [.sl id 0 n none] [(id, .cells 9 1 false (strs (row.map chrP)))] (fun v Hn => v = .s (.string (lineP row)) ∧ Hn = [])) :
    FnC Tryz.prog G 9 [brd F R l] [] (fun v Hn => ∃ id, v = .tup [.sl id 0 R none, .s (.int .i64 0)] ∧ Hn = [(id, .cells 9 1 false (strs (diagR F ps R)))]) := by
  refine Fn_body (N := 60) (ho _) Tryz.func9 rfl rfl fun B => ?_
  repeat' (first
    | (refine SL_box (by decide) (by rfl) (by first | exact cells_2 _ _ | exact cells_b _ _ _) (fun b1 hid => ?_))
    | refine SL_load_or (by decide) (by rfl) (by repeat (first | exact .head _ | refine .tail _ ?_)) (rowF (by rfl)) (by rfl) (Nat.le_of_ble_eq_true (by rfl)) (by first | exact mk2 _ _ | exact mk2b _ _ _ | exact mkb _ _ _) ?_
    | (refine SL_call (by decide) (by rfl) bd10 (by rfl) (by rfl) (h10) trivial List.nodup_nil ?_; rintro _ _ _ ⟨rfl, rfl⟩; rw [List.nil_append])
    | refine SC_seq ?_
    | refine SC_block ?_
    | refine SC_region ?_
    | refine SL_seq ?_
    | refine SL_assign (by decide) (by rfl) ?_
    | refine SL_not_op (by decide) (by rfl) ?_
    | refine SL_sub (by decide) (by rfl) (by rfl) (by omega) (by omega) ?_
    | refine SL_fieldAddr (by decide) (by rfl) (fldF (by rfl)) ?_
    | refine SL_load_o (by decide) (by rfl) (by repeat (first | exact .head _ | refine .tail _ ?_)) (rowF (by rfl)) (by first | assumption | rfl | exact ps_get _ hlt) (by rfl) ?_
    | refine SC_cond_f (by rfl) ?_
    | (refine SC_skip' (fun tm σ hE hH => ?_); refine SC.app ?_ hE hH; clear hE hH; clear tm σ)
    | fail)
  refine SC_loop (fun a : Nat × Option Nat => [(1, .ptr b1 0 0), (4, outS a.1 a.2), (5, .s (.int .i64 ((R : Int) - 1 - a.1)))]) (fun a => (b1, .cells 26 3 true [[.s (.int .i64 F), .s (.int .i64 R), l]]) :: outH ((diagR F ps R).take a.1) a.2) (fun _ => []) (fun a => a.1 ≤ R ∧ (a.2 = none ↔ a.1 = 0) ∧ ∀ id, a.2 = some id → B.next ≤ id) (fun a => R - a.1) (0, none) ⟨by omega, by simp, by simp⟩ ⟨rfl, rfl, ?_, trivial⟩ ?_ (by simp [outH]) rfl ?_
  · show some (AV.s (Value.int IntKind.i64 ((R : Int) - 1))) = some (.s (.int .i64 ((R : Int) - 1 - ((0 : Nat) : Int))))
    rw [Int.natCast_zero, Int.sub_zero]
  · exact ⟨.head _, trivial⟩
  rintro ⟨n, o⟩ ⟨hn, hon, hnew⟩
  dsimp only at hn hon hnew
  by_cases hnR : n < R
  · obtain ⟨q, hq⟩ : ∃ q : Nat, (R : Int) - 1 - n = q := ⟨R - 1 - n, by omega⟩
    dsimp only
    rw [hq]
    obtain ⟨row, hrow⟩ : ∃ row, row = (ps.drop (q * F)).take F := ⟨_, rfl⟩
    have hrl : row.length = F := by rw [hrow]; exact rank_len hl (by omega)
    have hm1 : (q : Int) * F = ((q * F : Nat) : Int) := by rw [Int.natCast_mul]
    have hm2 : ((q : Int) + 1) * F = (((q + 1) * F : Nat) : Int) := by rw [Int.natCast_mul, Int.natCast_add, Int.natCast_one]
    have hm3 : q * F < (q + 1) * F := by rw [Nat.add_mul]; omega
    have hm4 : (q + 1) * F ≤ (ps.map fun p => [AV.s (.int .i8 p)]).length := by
      rw [List.length_map, hl, Nat.mul_comm F R]
      exact Nat.mul_le_mul_right F (by omega)
    have hm5 : (q + 1) * F ≤ 64 := by
      have : (q + 1) * F ≤ 8 * 8 := Nat.mul_le_mul (by omega) (by omega)
      omega
    have hm6 : (q : Int) * F ≤ ((q : Int) + 1) * F := by rw [hm1, hm2]; omega
    have hm7 : ((q : Int) + 1) * F ≤ 64 := by rw [hm2]; omega
    have hm8 : 0 ≤ (q : Int) * F := by rw [hm1]; omega
    repeat' (first
      | refine SL_mul (by decide) (by rfl) (by rfl) (by omega) (by omega) ?_
      | (refine SL_slice_rr (l := q * F) (h := (q + 1) * F) (by decide) (by rfl) hsl (by rfl) (by rfl) (slF (by rfl)) hm1 hm2 hm3 hm4 (fun v hv => ?_); have hsl2 := row_sl hrow hv)
      | refine SC_seq ?_
      | refine SC_block ?_
      | refine SC_region ?_
      | refine SL_seq ?_
      | refine SL_move (by decide) (by rfl) ?_
      | refine SL_assign (by decide) (by rfl) ?_
      | refine SL_add (by decide) (by rfl) (by rfl) (by omega) (by omega) ?_
      | (refine SL_geq (by decide) (by rfl) (by rfl) (fun hT => ?_) (fun hT => ?_) <;> first | (exfalso; omega) | skip)
      | refine SL_fieldAddr (by decide) (by rfl) (fldF (by rfl)) ?_
      | refine SL_len_v (by decide) (by rfl) (by assumption) (by rfl) (slF (by rfl)) (by simp only [List.length_map]; first | rfl | assumption) ?_
      | refine SL_load_o (by decide) (by rfl) (by repeat (first | exact .head _ | refine .tail _ ?_)) (rowF (by rfl)) (by first | assumption | rfl | exact ps_get _ hlt) (by rfl) ?_
      | refine SC_cond_t (by rfl) ?_
      | (refine SC_skip' (fun tm σ hE hH => ?_); refine SC.app ?_ hE hH; clear hE hH; clear tm σ)
      | fail)
    refine SC_nd fun hnd => ?_
    refine SC_loop (fun a : Nat × Option Nat => [(1, .ptr b1 0 0), (4, outS n o), (5, .s (.int .i64 q)), (6, outS a.1 a.2), (34, v), (35, .s (.int .i64 row.length)), (36, .s (.int .i64 a.1))]) (fun a => (b1, .cells 26 3 true [[.s (.int .i64 F), .s (.int .i64 R), l]]) :: (outH ((row.take a.1).map chrP) a.2 ++ outH ((diagR F ps R).take n) o)) (fun _ => []) (fun a => a.1 ≤ row.length ∧ (a.2 = none ↔ a.1 = 0) ∧ ∀ id, a.2 = some id → B.next ≤ id) (fun a => row.length - a.1) (0, none) ⟨by omega, by simp, by simp⟩ ⟨rfl, rfl, rfl, rfl, rfl, rfl, rfl, trivial⟩ (.of_mem fun p hp => hp) hnd rfl ?_
    rintro ⟨k, o2⟩ ⟨hk, hok, hnew2⟩
    dsimp only at hk hok hnew2
    by_cases hlt : k < row.length
    · have hp := hps row[k] (List.mem_of_mem_drop (i := q * F) (List.mem_of_mem_take (i := F) (by rw [← hrow]; exact List.getElem_mem hlt)))
      have htk : (row.take (k + 1)).map chrP = (row.take k).map chrP ++ [chrP row[k]] := by rw [List.take_succ_eq_append_getElem hlt, List.map_append, List.map_cons, List.map_nil]
      have hCl : ((row.take k).map chrP).length = k := by rw [List.length_map, List.length_take]; omega
      by_cases hz : row[k] = 0
      · cases o2 with
        | none =>
          obtain rfl : k = 0 := hok.1 rfl
          dsimp only [outS, outH, strs]
          repeat' (first
            | refine SL_bytes (by decide) (by rfl) (by repeat (first | exact .head _ | refine .tail _ ?_)) Tryz.underlying84 Tryz.underlying9 Tryz.underlying5 (Nat.le_of_ble_eq_true (by rfl)) (by rfl) ?_
            | refine SC_seq ?_
            | refine SC_block ?_
            | refine SC_region ?_
            | refine SL_seq ?_
            | (refine SL_nil (fun tm σ hE hH => ?_); refine SC.app ?_ hE hH; clear hE hH; clear tm σ)
            | refine SL_move (by decide) (by rfl) ?_
            | refine SL_assign (by decide) (by rfl) ?_
            | refine SL_add (by decide) (by rfl) (by rfl) (by omega) (by omega) ?_
            | (refine SL_lss (by decide) (by rfl) (by rfl) (fun hT => ?_) (fun hT => ?_) <;> first | (exfalso; omega) | skip)
            | (refine SL_neq (by decide) (by rfl) (by rfl) (fun hT => ?_) (fun hT => ?_) <;> first | (exfalso; omega) | skip)
            | refine SL_indexAddr_v (by decide) (by rfl) (by rfl) (by assumption) (slF (by rfl)) _ (by first | rfl | exact (Int.toNat_of_nonneg (by omega)).symm) (by simp only [List.length_map]; omega) (fun ad => ?_)
            | refine SL_load_r (by decide) (by rfl) (rowF (by rfl)) (by first | assumption | rfl | exact ps_get _ hlt) (by rfl) ?_
            | refine SL_build1 (by decide) (by rfl) (elF (by rfl)) (by rfl) (by rfl) (fun id hid => ?_)
            | refine SL_append1_nil (by decide) (by rfl) (by rfl) (by repeat (first | exact .head _ | refine .tail _ ?_)) (elF (by rfl)) (sliceOf_spec (slF (by rfl))).1 (by rfl) (by decide) (fun id hid => ?_)
            | refine SC_cond_t (by rfl) ?_
            | refine SC_cond_f (by rfl) ?_
            | (refine SC_skip' (fun tm σ hE hH => ?_); refine SC.app ?_ hE hH; clear hE hH; clear tm σ)
            | fail)
          refine SL_nil fun tm σ hE hH => ⟨(1, some id), by dsimp only; omega, ⟨by dsimp only; omega, by simp, fun j hj => by cases hj; assumption⟩, tm, σ, rfl, hE.sub ⟨rfl, rfl, rfl, rfl, rfl, rfl, rfl, trivial⟩, ?_⟩
          dsimp only [outH, strs]
          rw [show 1 = 0 + 1 from rfl, htk, hz]
          exact (hH.perm (List.perm_middle (l₁ := [_, _, _]))).subl (.cons_cons _ (.cons_cons _ (.cons _ (.cons _ (.refl _)))))
        | some oid2 =>
          have hoid := hnew2 oid2 rfl
          dsimp only [outS, outH, strs]
          repeat' (first
            | refine SL_append1_own (by decide) (by rfl) (by rfl) (by repeat (first | exact .head | apply Upd.tail)) (by rw [List.length_map]; first | exact hDl.symm | exact hCl.symm) (by first | exact .inl (by assumption) | exact .inr (by simp)) (by repeat (first | exact .head _ | refine .tail _ ?_)) (elF (by rfl)) (sliceOf_spec (slF (by rfl))).1 (by rfl) (by omega) (by omega) (fun id hid => ?_)
            | refine SL_bytes (by decide) (by rfl) (by repeat (first | exact .head _ | refine .tail _ ?_)) Tryz.underlying84 Tryz.underlying9 Tryz.underlying5 (Nat.le_of_ble_eq_true (by rfl)) (by rfl) ?_
            | refine SC_seq ?_
            | refine SC_block ?_
            | refine SC_region ?_
            | refine SL_seq ?_
            | (refine SL_nil (fun tm σ hE hH => ?_); refine SC.app ?_ hE hH; clear hE hH; clear tm σ)
            | refine SL_move (by decide) (by rfl) ?_
            | refine SL_assign (by decide) (by rfl) ?_
            | refine SL_add (by decide) (by rfl) (by rfl) (by omega) (by omega) ?_
            | (refine SL_lss (by decide) (by rfl) (by rfl) (fun hT => ?_) (fun hT => ?_) <;> first | (exfalso; omega) | skip)
            | (refine SL_neq (by decide) (by rfl) (by rfl) (fun hT => ?_) (fun hT => ?_) <;> first | (exfalso; omega) | skip)
            | refine SL_indexAddr_v (by decide) (by rfl) (by rfl) (by assumption) (slF (by rfl)) _ (by first | rfl | exact (Int.toNat_of_nonneg (by omega)).symm) (by simp only [List.length_map]; omega) (fun ad => ?_)
            | refine SL_load_r (by decide) (by rfl) (rowF (by rfl)) (by first | assumption | rfl | exact ps_get _ hlt) (by rfl) ?_
            | refine SL_build1 (by decide) (by rfl) (elF (by rfl)) (by rfl) (by rfl) (fun id hid => ?_)
            | refine SC_cond_t (by rfl) ?_
            | refine SC_cond_f (by rfl) ?_
            | (refine SC_skip' (fun tm σ hE hH => ?_); refine SC.app ?_ hE hH; clear hE hH; clear tm σ)
            | fail)
          refine SL_nil fun tm σ hE hH => ⟨(k + 1, some id), by dsimp only; omega, ⟨by dsimp only; omega, by simp, fun j hj => by cases hj; assumption⟩, tm, σ, rfl, hE.sub ⟨rfl, rfl, rfl, rfl, rfl, rfl, rfl, trivial⟩, ?_⟩
          dsimp only [outH, strs]
          rw [htk, hz, List.map_append]
          exact (hH.perm (List.perm_middle (l₁ := [_, _, _]))).subl (.cons_cons _ (.cons_cons _ (.cons _ (.cons _ (.cons _ (.refl _))))))
      · cases o2 with
        | none =>
          obtain rfl : k = 0 := hok.1 rfl
          dsimp only [outS, outH, strs]
          repeat' (first
            | refine SL_bytes (by decide) (by rfl) (by repeat (first | exact .head _ | refine .tail _ ?_)) Tryz.underlying84 Tryz.underlying9 Tryz.underlying5 (Nat.le_of_ble_eq_true (by rfl)) (by rfl) ?_
            | (refine SL_call (by decide) (by rfl) bd32 (by rfl) (by rfl) (h32 _ (by assumption) (by omega) (by omega)) trivial List.nodup_nil ?_; rintro _ _ _ ⟨rfl, rfl⟩; rw [List.nil_append])
            | refine SC_seq ?_
            | refine SC_block ?_
            | refine SC_region ?_
            | refine SL_seq ?_
            | (refine SL_nil (fun tm σ hE hH => ?_); refine SC.app ?_ hE hH; clear hE hH; clear tm σ)
            | refine SL_move (by decide) (by rfl) ?_
            | refine SL_assign (by decide) (by rfl) ?_
            | refine SL_add (by decide) (by rfl) (by rfl) (by omega) (by omega) ?_
            | (refine SL_lss (by decide) (by rfl) (by rfl) (fun hT => ?_) (fun hT => ?_) <;> first | (exfalso; omega) | skip)
            | (refine SL_neq (by decide) (by rfl) (by rfl) (fun hT => ?_) (fun hT => ?_) <;> first | (exfalso; omega) | skip)
            | refine SL_extract_s (by decide) (by rfl) (by rfl) ?_
            | refine SL_indexAddr_v (by decide) (by rfl) (by rfl) (by assumption) (slF (by rfl)) _ (by first | rfl | exact (Int.toNat_of_nonneg (by omega)).symm) (by simp only [List.length_map]; omega) (fun ad => ?_)
            | refine SL_load_r (by decide) (by rfl) (rowF (by rfl)) (by first | assumption | rfl | exact ps_get _ hlt) (by rfl) ?_
            | refine SL_build1 (by decide) (by rfl) (elF (by rfl)) (by rfl) (by rfl) (fun id hid => ?_)
            | refine SL_append1_nil (by decide) (by rfl) (by rfl) (by repeat (first | exact .head _ | refine .tail _ ?_)) (elF (by rfl)) (sliceOf_spec (slF (by rfl))).1 (by rfl) (by decide) (fun id hid => ?_)
            | refine SC_cond_t (by rfl) ?_
            | (refine SC_skip' (fun tm σ hE hH => ?_); refine SC.app ?_ hE hH; clear hE hH; clear tm σ)
            | fail)
          refine SL_nil fun tm σ hE hH => ⟨(1, some id), by dsimp only; omega, ⟨by dsimp only; omega, by simp, fun j hj => by cases hj; assumption⟩, tm, σ, rfl, hE.sub ⟨rfl, rfl, rfl, rfl, rfl, rfl, rfl, trivial⟩, ?_⟩
          dsimp only [outH, strs]
          rw [show 1 = 0 + 1 from rfl, htk]
          exact (hH.perm (List.perm_middle (l₁ := [_, _, _]))).subl (.cons_cons _ (.cons_cons _ (.cons _ (.cons _ (.refl _)))))
        | some oid2 =>
          have hoid := hnew2 oid2 rfl
          dsimp only [outS, outH, strs]
          repeat' (first
            | refine SL_append1_own (by decide) (by rfl) (by rfl) (by repeat (first | exact .head | apply Upd.tail)) (by rw [List.length_map]; first | exact hDl.symm | exact hCl.symm) (by first | exact .inl (by assumption) | exact .inr (by simp)) (by repeat (first | exact .head _ | refine .tail _ ?_)) (elF (by rfl)) (sliceOf_spec (slF (by rfl))).1 (by rfl) (by omega) (by omega) (fun id hid => ?_)
            | refine SL_bytes (by decide) (by rfl) (by repeat (first | exact .head _ | refine .tail _ ?_)) Tryz.underlying84 Tryz.underlying9 Tryz.underlying5 (Nat.le_of_ble_eq_true (by rfl)) (by rfl) ?_
            | (refine SL_call (by decide) (by rfl) bd32 (by rfl) (by rfl) (h32 _ (by assumption) (by omega) (by omega)) trivial List.nodup_nil ?_; rintro _ _ _ ⟨rfl, rfl⟩; rw [List.nil_append])
            | refine SC_seq ?_
            | refine SC_block ?_
            | refine SC_region ?_
            | refine SL_seq ?_
            | (refine SL_nil (fun tm σ hE hH => ?_); refine SC.app ?_ hE hH; clear hE hH; clear tm σ)
            | refine SL_move (by decide) (by rfl) ?_
            | refine SL_assign (by decide) (by rfl) ?_
            | refine SL_add (by decide) (by rfl) (by rfl) (by omega) (by omega) ?_
            | (refine SL_lss (by decide) (by rfl) (by rfl) (fun hT => ?_) (fun hT => ?_) <;> first | (exfalso; omega) | skip)
            | (refine SL_neq (by decide) (by rfl) (by rfl) (fun hT => ?_) (fun hT => ?_) <;> first | (exfalso; omega) | skip)
            | refine SL_extract_s (by decide) (by rfl) (by rfl) ?_
            | refine SL_indexAddr_v (by decide) (by rfl) (by rfl) (by assumption) (slF (by rfl)) _ (by first | rfl | exact (Int.toNat_of_nonneg (by omega)).symm) (by simp only [List.length_map]; omega) (fun ad => ?_)
            | refine SL_load_r (by decide) (by rfl) (rowF (by rfl)) (by first | assumption | rfl | exact ps_get _ hlt) (by rfl) ?_
            | refine SL_build1 (by decide) (by rfl) (elF (by rfl)) (by rfl) (by rfl) (fun id hid => ?_)
            | refine SC_cond_t (by rfl) ?_
            | (refine SC_skip' (fun tm σ hE hH => ?_); refine SC.app ?_ hE hH; clear hE hH; clear tm σ)
            | fail)
          refine SL_nil fun tm σ hE hH => ⟨(k + 1, some id), by dsimp only; omega, ⟨by dsimp only; omega, by simp, fun j hj => by cases hj; assumption⟩, tm, σ, rfl, hE.sub ⟨rfl, rfl, rfl, rfl, rfl, rfl, rfl, trivial⟩, ?_⟩
          dsimp only [outH, strs]
          rw [htk, List.map_append]
          exact (hH.perm (List.perm_middle (l₁ := [_, _, _]))).subl (.cons_cons _ (.cons_cons _ (.cons _ (.cons _ (.cons _ (.refl _))))))
    · obtain rfl : k = row.length := by omega
      have hDn : (diagR F ps R).take (n + 1) = (diagR F ps R).take n ++ [lineP row] := by
        have := diagR_take F ps (show q < R by omega)
        rw [show R - q = n + 1 by omega, show R - (q + 1) = n by omega] at this
        rw [this, hrow]
      have hDl : ((diagR F ps R).take n).length = n := by rw [List.length_take, diagR_len]; omega
      have hCl : (row.map chrP).length = row.length := List.length_map _
      rw [List.take_of_length_le (Nat.le_refl _)]
      cases o2 with
      | none => exact absurd (hok.1 rfl) (by omega)
      | some oid2 =>
        have hoid2 := hnew2 oid2 rfl
        cases o with
        | none =>
          obtain rfl : n = 0 := hon.1 rfl
          dsimp only [outS, outH, strs, List.cons_append, List.nil_append]
          repeat' (first
            | (refine SL_call (by decide) (by rfl) bd33 (by rfl) (by rfl) (h33 _ _ _ hCl (by omega)) ⟨.tail _ (.head _), trivial⟩ (by simp) ?_; rintro _ _ _ ⟨rfl, rfl⟩; rw [List.nil_append])
            | refine SC_seq ?_
            | refine SC_region ?_
            | refine SL_seq ?_
            | (refine SL_nil (fun tm σ hE hH => ?_); refine SC.app ?_ hE hH; clear hE hH; clear tm σ)
            | refine SL_move (by decide) (by rfl) ?_
            | refine SL_assign (by decide) (by rfl) ?_
            | refine SL_sub (by decide) (by rfl) (by rfl) (by omega) (by omega) ?_
            | (refine SL_lss (by decide) (by rfl) (by rfl) (fun hT => ?_) (fun hT => ?_) <;> first | (exfalso; omega) | skip)
            | refine SL_build1 (by decide) (by rfl) (elF (by rfl)) (by rfl) (by rfl) (fun id hid => ?_)
            | refine SL_append1_nil (by decide) (by rfl) (by rfl) (by repeat (first | exact .head _ | refine .tail _ ?_)) (elF (by rfl)) (sliceOf_spec (slF (by rfl))).1 (by rfl) (by decide) (fun id hid => ?_)
            | refine SC_cond_f (by rfl) ?_
            | (refine SC_exit (fun tm σ hE hH => ?_); refine SC.app ?_ hE hH; clear hE hH; clear tm σ)
            | fail)
          refine SL_nil fun tm σ hE hH => ⟨(1, some id), by dsimp only; omega, ⟨by dsimp only; omega, by simp, fun j hj => by cases hj; assumption⟩, tm, σ, rfl, hE.sub ⟨rfl, rfl, ?_, trivial⟩, ?_⟩
          · show some (AV.s (Value.int IntKind.i64 ((q : Int) - 1))) = some (.s (.int .i64 ((R : Int) - 1 - ((1 : Nat) : Int))))
            rw [show (R : Int) - 1 - ((1 : Nat) : Int) = (q : Int) - 1 by omega]
          · dsimp only [outH, strs]
            rw [hDn]
            exact (hH.perm (List.perm_middle (l₁ := [_, _]))).subl (.cons_cons _ (.cons_cons _ (.cons _ (.cons _ .slnil))))
        | some oid =>
          have hoid := hnew oid rfl
          dsimp only [outS, outH, strs, List.cons_append, List.nil_append]
          repeat' (first
            | (refine SL_call (by decide) (by rfl) bd33 (by rfl) (by rfl) (h33 _ _ _ hCl (by omega)) ⟨.tail _ (.head _), trivial⟩ (by simp) ?_; rintro _ _ _ ⟨rfl, rfl⟩; rw [List.nil_append])
            | refine SL_append1_own (by decide) (by rfl) (by rfl) (by repeat (first | exact .head | apply Upd.tail)) (by rw [List.length_map]; first | exact hDl.symm | exact hCl.symm) (by first | exact .inl (by assumption) | exact .inr (by simp)) (by repeat (first | exact .head _ | refine .tail _ ?_)) (elF (by rfl)) (sliceOf_spec (slF (by rfl))).1 (by rfl) (by omega) (by omega) (fun id hid => ?_)
            | refine SC_seq ?_
            | refine SC_region ?_
            | refine SL_seq ?_
            | (refine SL_nil (fun tm σ hE hH => ?_); refine SC.app ?_ hE hH; clear hE hH; clear tm σ)
            | refine SL_move (by decide) (by rfl) ?_
            | refine SL_assign (by decide) (by rfl) ?_
            | refine SL_sub (by decide) (by rfl) (by rfl) (by omega) (by omega) ?_
            | (refine SL_lss (by decide) (by rfl) (by rfl) (fun hT => ?_) (fun hT => ?_) <;> first | (exfalso; omega) | skip)
            | refine SL_build1 (by decide) (by rfl) (elF (by rfl)) (by rfl) (by rfl) (fun id hid => ?_)
            | refine SC_cond_f (by rfl) ?_
            | (refine SC_exit (fun tm σ hE hH => ?_); refine SC.app ?_ hE hH; clear hE hH; clear tm σ)
            | fail)
          refine SL_nil fun tm σ hE hH => ⟨(n + 1, some id), by dsimp only; omega, ⟨by dsimp only; omega, by simp, fun j hj => by cases hj; assumption⟩, tm, σ, rfl, hE.sub ⟨rfl, rfl, ?_, trivial⟩, ?_⟩
          · show some (AV.s (Value.int IntKind.i64 ((q : Int) - 1))) = some (.s (.int .i64 ((R : Int) - 1 - ((n + 1 : Nat) : Int))))
            rw [show (R : Int) - 1 - ((n + 1 : Nat) : Int) = (q : Int) - 1 by omega]
          · dsimp only [outH, strs]
            rw [hDn, List.map_append]
            exact (hH.perm (List.perm_middle (l₁ := [_, _]))).subl (.cons_cons _ (.cons_cons _ (.cons _ (.cons _ (.cons _ .slnil)))))
  · obtain rfl : n = R := by omega
    cases o with
    | none => exact absurd (hon.1 rfl) (by omega)
    | some oid =>
      dsimp only [outS, outH]
      repeat' (first
        | refine SC_seq ?_
        | refine SC_region ?_
        | refine SL_seq ?_
        | refine SL_move (by decide) (by rfl) ?_
        | refine SL_assign (by decide) (by rfl) ?_
        | (refine SL_geq (by decide) (by rfl) (by rfl) (fun hT => ?_) (fun hT => ?_) <;> first | (exfalso; omega) | skip)
        | refine SC_cond_f (by rfl) ?_
        | (refine SC_exit (fun tm σ hE hH => ?_); refine SC.app ?_ hE hH; clear hE hH; clear tm σ)
        | fail)
      refine SC_ret (fun tm σ hE hH => Post.intro (Hn := [(oid, _)]) (.inr rfl) hE hH (by rfl) ⟨.tail _ (.head _), trivial⟩ (by simp) (fun p hp => by cases List.mem_singleton.1 hp; exact hnew oid rfl) ⟨oid, rfl, by rw [List.take_of_length_le (by rw [diagR_len]; exact Nat.le_refl _)]⟩)
end Go.Proofs.YtnhnlkljcfbhfaaGreatDoor
/- Pairing, walked: over any lists, own ones or such as came in. -/
namespace Go.Proofs.YtnhnlkljcfbhfaaGreatDoor
open Go Go.Ab
set_option maxRecDepth 100000
theorem cells_r (a b : AV) : cellsOf (mkAgg [a, b]) = [a, b] := by cases a <;> cases b <;> rfl
theorem ints_len1 (xs : List Int) : (xs.map fun x => [AV.s (.int .i64 x)]).length = xs.length := List.length_map _
theorem bools_len1 (xs : List Bool) : (xs.map fun x => [AV.s (.bool x)]).length = xs.length := List.length_map _
theorem ints_at {xs : List Int} {k : Nat} {v : Int} (h : xs[k]? = some v) : (xs.map fun x => [AV.s (.int .i64 x)])[k]? = some [.s (.int .i64 v)] := by rw [List.getElem?_map, h]; rfl
theorem bools_at {xs : List Bool} {k : Nat} {v : Bool} (h : xs[k]? = some v) : (xs.map fun x => [AV.s (.bool x)])[k]? = some [.s (.bool v)] := by rw [List.getElem?_map, h]; rfl
theorem beq4 (x y : Operand) (a b : Bool) : evalP Tryz.prog (do eqGuard .eql 4 x y (.bool a) (.bool b); binOp .eql 4 (.bool a) (.bool b)) = some (.bool (a == b)) := by cases a <;> cases b <;> kernel_rfl
section
variable {G : Gl} {B : AS} {W : List Nat} {ops : Array Oper} {os : List Oper} {L : List (Nat × AV)} {N : Nat} {ds : List Nat} {H : List (Nat × AObj)} {Q : Cfg → Prop} {ty : TypeId} {pos : String} {af : Array Edge} {d : Nat}
theorem SL_beq4 {yt : TypeId} {x y : Operand} {a b : Bool} (hd : d < N) (hx : evL G L x = some (.s (.bool a))) (hy : evL G L y = some (.s (.bool b))) (k : SL Tryz.prog G B W ops os ((d, .s (.bool (a == b))) :: L) N ds H Q) : SL Tryz.prog G B W ops (⟨some d, .binOp .eql 4 x y yt, ty, pos, af, none⟩ :: os) L N ds H Q :=
  SL_beql hd hx hy (beq4 _ _ _ _) k
end
/-- What Pairing gives. -/
def R20 (xs : List ByteArray) (op : List Int) (wh : List Bool) (v : AV) (Hn : List (Nat × AObj)) : Prop := (Right xs op wh ∧ ∃ id, v = .tup [.sl id 0 (linesP xs op wh).length none, .s (.int .i64 0)] ∧ Hn = [(id, .cells 9 1 false (strs (linesP xs op wh)))]) ∨ (¬ Right xs op wh ∧ v = .s (.tuple #[.slice none 0 0, .int .i64 2]) ∧ Hn = [])
theorem getD_at {α : Type} {l : List α} {k : Nat} {v d : α} (h : l[k]? = some v) : l.getD k d = v := by rw [List.getD_eq_getElem?_getD, h]; rfl
attribute [local irreducible] SC SL wpc wpl wpd wpf wpy wpn FnC FnW RdW SD SI
set_option pp.deepTerms false
set_option pp.maxSteps 900
set_option maxHeartbeats 4000000
theorem pairing_np {G : Gl} {H0 : List (Nat × AObj)} (hnd0 : (H0.map (·.1)).Nodup) {xs : List ByteArray} {op : List Int} {wh : List Bool} {na ov wv : AV} (hsl : SlV 1 na (xs.map fun x => [.s (.string x)])) (hso : SlH H0 1 ov (op.map fun x => [.s (.int .i64 x)])) (hsw : SlH H0 1 wv (wh.map fun x => [.s (.bool x)]))
    (hb1 : xs.length ≤ 9223372036854775807) (hb2 : op.length ≤ 9223372036854775807) (hb3 : wh.length ≤ 9223372036854775807) (ho : ∀ x y, G.orc 20 [x, y] = none) (h47 : FnC Tryz.prog G 47 [na] [] (fun v Hn => v = .s (.bool false) ∧ Hn = [])) :
    FnC Tryz.prog G 20 [na, mkAgg [ov, wv]] H0 (fun v Hn => v = .s (.tuple #[.slice none 0 0, .int .i64 2]) ∧ Hn = []) := by
  refine Fn_body (N := 119) (ho _ _) Tryz.func20 rfl rfl fun B => ?_
  repeat' (first
    | (refine SL_box (d := 3) (by decide) (by rfl) (cells_r _ _) (fun b3 hid3 => ?_))
    | (refine SL_call (by decide) (by rfl) bd47 (by rfl) (by rfl) (h47) trivial List.nodup_nil ?_; rintro _ _ _ ⟨rfl, rfl⟩; rw [List.nil_append])
    | refine SC_seq ?_
    | refine SC_region ?_
    | refine SL_seq ?_
    | refine SL_not (by rfl) (by rfl) (by rfl) (by decide) ?_
    | refine SL_move (by decide) (by rfl) ?_
    | refine SL_assign (by decide) (by rfl) ?_
    | refine SL_pick_t (by decide) (by rfl) (by rfl) ?_
    | refine SL_not_op (by decide) (by rfl) ?_
    | refine SC_cond_t (by rfl) ?_
    | fail)
  refine SC_ret (fun tm σ hE hH => Post.intro (Hn := []) (.inr rfl) hE hH (by rfl) trivial List.nodup_nil (fun p hp => (by cases hp)) ?_)
  exact ⟨rfl, rfl⟩
theorem pairing_fn {G : Gl} {H0 : List (Nat × AObj)} (hnd0 : (H0.map (·.1)).Nodup) {xs : List ByteArray} {op : List Int} {wh : List Bool} {na ov wv : AV} (hsl : SlV 1 na (xs.map fun x => [.s (.string x)])) (hso : SlH H0 1 ov (op.map fun x => [.s (.int .i64 x)])) (hsw : SlH H0 1 wv (wh.map fun x => [.s (.bool x)]))
    (hb1 : xs.length ≤ 9223372036854775807) (hb2 : op.length ≤ 9223372036854775807) (hb3 : wh.length ≤ 9223372036854775807) (ho : ∀ x y, G.orc 20 [x, y] = none) (h47 : FnC Tryz.prog G 47 [na] [] (fun v Hn => v = .s (.bool true) ∧ Hn = [])) (h2 : 2 ≤ xs.length) (h12 : xs.length ≤ 12) (hsz : ∀ x ∈ xs, x.size ≤ 100)
    (h33a : ∀ (id : Nat) (a b : ByteArray), a.size ≤ 100 → b.size ≤ 100 → FnC Tryz.prog G 33 [.sl id 0 3 none] [(id, .cells 9 1 true [[.s (.string a)], [.s (.string ⟨#[45]⟩)], [.s (.string b)]])] (fun v Hn => v = .s (.string (a ++ midS ++ b)) ∧ Hn = []))
    (h33b : ∀ (id : Nat) (a : ByteArray), a.size ≤ 100 → FnC Tryz.prog G 33 [.sl id 0 3 none] [(id, .cells 9 1 true [[.s (.string a)], [.s (.string ⟨#[45]⟩)], [.s (.string ⟨#[98, 121, 101]⟩)]])] (fun v Hn => v = .s (.string (a ++ endS)) ∧ Hn = [])) :
    FnC Tryz.prog G 20 [na, mkAgg [ov, wv]] H0 (R20 xs op wh) := by
  by_cases hlens : op.length = xs.length ∧ wh.length = xs.length
  · obtain ⟨hlo, hlw⟩ := hlens
    refine Fn_body (N := 119) (ho _ _) Tryz.func20 rfl rfl fun B => ?_
    repeat' (first
      | (refine SL_box (d := 3) (by decide) (by rfl) (cells_r _ _) (fun b3 hid3 => ?_))
      | refine SL_len_h (by decide) (by rfl) hsw (by rfl) (slF (by rfl)) (bools_len1 _) ?_
      | refine SL_len_h (by decide) (by rfl) hso (by rfl) (slF (by rfl)) (ints_len1 _) ?_
      | refine SL_len_v (by decide) (by rfl) (by assumption) (by rfl) (slF (by rfl)) (strs_len0 _) ?_
      | (refine SL_call (by decide) (by rfl) bd47 (by rfl) (by rfl) (h47) trivial List.nodup_nil ?_; rintro _ _ _ ⟨rfl, rfl⟩; rw [List.nil_append])
      | refine SC_seq ?_
      | refine SC_block ?_
      | refine SC_region ?_
      | refine SL_seq ?_
      | refine SL_run (by rfl) (by rfl) ?_
      | refine SL_move (by decide) (by rfl) ?_
      | refine SL_assign (by decide) (by rfl) ?_
      | refine SL_pick_f (by decide) (by rfl) (by rfl) ?_
      | refine SL_not_op (by decide) (by rfl) ?_
      | (refine SL_neq (by decide) (by rfl) (by rfl) (fun hT => ?_) (fun hT => ?_) <;> first | (exfalso; omega) | skip)
      | refine SL_fieldAddr (by decide) (by rfl) (fldF (by rfl)) ?_
      | refine SL_load_o (by decide) (by rfl) (by repeat (first | exact .head _ | refine .tail _ ?_)) (rowF (by rfl)) (by first | assumption | rfl | exact ints_at hkop | exact ints_at hk2op | exact bools_at hkwh | exact bools_at hk2wh | exact strs_get _ hlt | exact strs_get _ hlt2) (by rfl) ?_
      | refine SC_cond_f (by rfl) ?_
      | (refine SC_skip' (fun tm σ hE hH => ?_); refine SC.app ?_ hE hH; clear hE hH; clear tm σ)
      | fail)
    refine SC_nd fun hnd1 => ?_
    refine SC_loop (fun a : Nat × Option Nat × Option Nat => [(0, na), (3, .ptr b3 0 0), (6, outS (outsN xs op wh a.1).length a.2.1), (7, outS (byesN xs op a.1).length a.2.2), (30, ov), (31, .s (.int .i64 op.length)), (32, .s (.int .i64 a.1))])
      (fun a => (b3, AObj.cells 55 2 true [[ov, wv]]) :: (outH (outsN xs op wh a.1) a.2.1 ++ (outH ((byesN xs op a.1).map (· ++ endS)) a.2.2 ++ H0))) (fun _ => [])
      (fun a => a.1 ≤ xs.length ∧ (∀ i, i < a.1 → OkAt xs.length op wh i) ∧ (a.2.1 = none ↔ outsN xs op wh a.1 = []) ∧ (a.2.2 = none ↔ byesN xs op a.1 = []) ∧ (∀ id, a.2.1 = some id → B.next ≤ id) ∧ (∀ id, a.2.2 = some id → B.next ≤ id)) (fun a => xs.length - a.1) (0, none, none)
      ⟨by omega, fun i h => by omega, by simp [outsN], by simp [byesN], by simp, by simp⟩ ⟨rfl, rfl, rfl, rfl, rfl, rfl, rfl, trivial⟩ (.refl _) hnd1 rfl ?_
    rintro ⟨k, o1, o2⟩ ⟨hk, hoks, ho1, ho2, hn1, hn2⟩
    dsimp only at hk hoks ho1 ho2 hn1 hn2
    have hol := outsN_le xs op wh k
    have hbl := byesN_lek xs op k
    by_cases hlt : k < xs.length
    · obtain ⟨kk, hkop⟩ : ∃ kk, op[k]? = some kk := ⟨op[k], List.getElem?_eq_getElem (by omega)⟩
      obtain ⟨wk, hkwh⟩ : ∃ wk, wh[k]? = some wk := ⟨wh[k], List.getElem?_eq_getElem (by omega)⟩
      have hgo := getD_at (d := (0 : Int)) hkop
      have hgw := getD_at (d := false) hkwh
      have hgx : xs.getD k ⟨#[]⟩ = xs[k] := getD_at (List.getElem?_eq_getElem hlt)
      by_cases hbye : kk = -1
      · subst hbye
        cases wk with
        | false =>
          have hok : OkAt xs.length op wh k := .inl ⟨hgo, hgw⟩
          have hoks' : ∀ i, i < k + 1 → OkAt xs.length op wh i := fun i hi => by
            by_cases e : i = k
            · subst e; exact hok
            · exact hoks i (by omega)
          have hout : outsN xs op wh (k + 1) = outsN xs op wh k := by rw [out_step, outAt, if_neg (by rw [hgo]; simp), List.append_nil]
          have hbys : byesN xs op (k + 1) = byesN xs op k ++ [xs[k]] := by rw [bye_step, byeAt, if_pos hgo, hgx]
          cases o1 with
          | none =>
            have he1 := ho1.1 rfl
            cases o2 with
            | none =>
              have he2 := ho2.1 rfl
              dsimp only [outS, outH, List.nil_append, List.cons_append, strs]
              repeat' (first
                | (refine SL_call (by decide) (by rfl) bd33 (by rfl) (by rfl) (h33b _ _ (hsz _ (List.getElem_mem hlt))) ⟨(by repeat (first | exact .head _ | refine .tail _ ?_)), trivial⟩ (by simp) ?_; rintro _ _ _ ⟨rfl, rfl⟩; rw [List.nil_append])
                | refine SL_buildSlice (len := 3) (by decide) (by rfl) (elF (by rfl)) (by decide) (by rfl) (fun id hid => ?_)
                | refine SL_load_h (by decide) (by rfl) (by assumption) (by intro p hp; repeat (first | exact hp | refine List.Mem.tail _ ?_ | refine List.mem_append_right _ ?_)) (rowF (by rfl)) (by first | exact ints_at hkop | exact ints_at hk2op | exact bools_at hkwh | exact bools_at hk2wh) (by rfl) ?_
                | (refine SL_indexAddr_h (by decide) (by rfl) (by rfl) hsw (by intro p hp; repeat (first | exact hp | refine List.Mem.tail _ ?_ | refine List.mem_append_right _ ?_)) (slF (by rfl)) _ (by first | rfl | exact (Int.toNat_of_nonneg (by omega)).symm) (by simp only [List.length_map]; omega) (fun pa hpa => ?_))
                | (refine SL_indexAddr_h (by decide) (by rfl) (by rfl) hso (by intro p hp; repeat (first | exact hp | refine List.Mem.tail _ ?_ | refine List.mem_append_right _ ?_)) (slF (by rfl)) _ (by first | rfl | exact (Int.toNat_of_nonneg (by omega)).symm) (by simp only [List.length_map]; omega) (fun pa hpa => ?_))
                | refine SC_seq ?_
                | refine SC_block ?_
                | refine SC_region ?_
                | refine SL_seq ?_
                | (refine SL_nil (fun tm σ hE hH => ?_); refine SC.app ?_ hE hH; clear hE hH; clear tm σ)
                | refine SL_run (by rfl) (by rfl) ?_
                | refine SL_move (by decide) (by rfl) ?_
                | refine SL_assign (by decide) (by rfl) ?_
                | refine SL_pick_t (by decide) (by rfl) (by rfl) ?_
                | refine SL_not_op (by decide) (by rfl) ?_
                | refine SL_add (by decide) (by rfl) (by rfl) (by omega) (by omega) ?_
                | (refine SL_lss (by decide) (by rfl) (by rfl) (fun hT => ?_) (fun hT => ?_) <;> first | (exfalso; omega) | skip)
                | (refine SL_eql (by decide) (by rfl) (by rfl) (fun hT => ?_) (fun hT => ?_) <;> first | (exfalso; omega) | skip)
                | refine SL_fieldAddr (by decide) (by rfl) (fldF (by rfl)) ?_
                | refine SL_indexAddr_v (by decide) (by rfl) (by rfl) (by assumption) (slF (by rfl)) _ (by first | rfl | exact (Int.toNat_of_nonneg (by omega)).symm) (by simp only [List.length_map]; omega) (fun ad => ?_)
                | refine SL_load_r (by decide) (by rfl) (rowF (by rfl)) (by first | assumption | rfl | exact ints_at hkop | exact ints_at hk2op | exact bools_at hkwh | exact bools_at hk2wh | exact strs_get _ hlt | exact strs_get _ hlt2) (by rfl) ?_
                | refine SL_load_o (by decide) (by rfl) (by repeat (first | exact .head _ | refine .tail _ ?_)) (rowF (by rfl)) (by first | assumption | rfl | exact ints_at hkop | exact ints_at hk2op | exact bools_at hkwh | exact bools_at hk2wh | exact strs_get _ hlt | exact strs_get _ hlt2) (by rfl) ?_
                | refine SL_build1 (by decide) (by rfl) (elF (by rfl)) (by rfl) (by rfl) (fun id hid => ?_)
                | refine SL_append1_nil (by decide) (by rfl) (by rfl) (by repeat (first | exact .head _ | refine .tail _ ?_)) (elF (by rfl)) (sliceOf_spec (slF (by rfl))).1 (by rfl) (by decide) (fun id hid => ?_)
                | refine SC_cond_t (by rfl) ?_
                | (refine SC_skip' (fun tm σ hE hH => ?_); refine SC.app ?_ hE hH; clear hE hH; clear tm σ)
                | fail)
              refine SL_nil fun tm σ hE hH => ⟨(k + 1, none, some id), by dsimp only; omega, ⟨by dsimp only; omega, hoks', by dsimp only; rw [hout]; exact ⟨fun _ => he1, fun _ => rfl⟩, by simp [hbys], hn1, fun j hj => by cases hj; omega⟩, tm, σ, rfl, hE.sub ⟨rfl, rfl, ?_, ?_, rfl, rfl, rfl, trivial⟩, ?_⟩
              · rfl
              · dsimp only [outS]; rw [hbys, List.length_append]; rw [he2]; rfl
              · dsimp only [outH, strs, List.nil_append, List.cons_append]; rw [hbys, List.map_append, he2]; exact (hH.perm ((List.perm_append_comm (l₁ := [_, _, _]) (l₂ := [_])).append_right _)).subl (.cons_cons _ (.cons_cons _ (.cons _ (.cons _ (.refl _)))))
            | some oid2 =>
              have hoid2 := hn2 oid2 rfl
              dsimp only [outS, outH, List.nil_append, List.cons_append, strs]
              repeat' (first
                | refine SL_append1_own (by decide) (by rfl) (by rfl) (by repeat (first | exact .head | apply Upd.tail)) (by first | exact (List.length_map _).symm | simp only [List.length_map]) (by first | exact .inl (by assumption) | exact .inr (by simp)) (by repeat (first | exact .head _ | refine .tail _ ?_)) (elF (by rfl)) (sliceOf_spec (slF (by rfl))).1 (by rfl) (by first | omega | (simp only [List.length_map]; omega)) (by first | omega | (simp only [List.length_map]; omega)) (fun id hid => ?_)
                | (refine SL_call (by decide) (by rfl) bd33 (by rfl) (by rfl) (h33b _ _ (hsz _ (List.getElem_mem hlt))) ⟨(by repeat (first | exact .head _ | refine .tail _ ?_)), trivial⟩ (by simp) ?_; rintro _ _ _ ⟨rfl, rfl⟩; rw [List.nil_append])
                | refine SL_buildSlice (len := 3) (by decide) (by rfl) (elF (by rfl)) (by decide) (by rfl) (fun id hid => ?_)
                | refine SL_load_h (by decide) (by rfl) (by assumption) (by intro p hp; repeat (first | exact hp | refine List.Mem.tail _ ?_ | refine List.mem_append_right _ ?_)) (rowF (by rfl)) (by first | exact ints_at hkop | exact ints_at hk2op | exact bools_at hkwh | exact bools_at hk2wh) (by rfl) ?_
                | (refine SL_indexAddr_h (by decide) (by rfl) (by rfl) hsw (by intro p hp; repeat (first | exact hp | refine List.Mem.tail _ ?_ | refine List.mem_append_right _ ?_)) (slF (by rfl)) _ (by first | rfl | exact (Int.toNat_of_nonneg (by omega)).symm) (by simp only [List.length_map]; omega) (fun pa hpa => ?_))
                | (refine SL_indexAddr_h (by decide) (by rfl) (by rfl) hso (by intro p hp; repeat (first | exact hp | refine List.Mem.tail _ ?_ | refine List.mem_append_right _ ?_)) (slF (by rfl)) _ (by first | rfl | exact (Int.toNat_of_nonneg (by omega)).symm) (by simp only [List.length_map]; omega) (fun pa hpa => ?_))
                | refine SC_seq ?_
                | refine SC_block ?_
                | refine SC_region ?_
                | refine SL_seq ?_
                | (refine SL_nil (fun tm σ hE hH => ?_); refine SC.app ?_ hE hH; clear hE hH; clear tm σ)
                | refine SL_run (by rfl) (by rfl) ?_
                | refine SL_move (by decide) (by rfl) ?_
                | refine SL_assign (by decide) (by rfl) ?_
                | refine SL_pick_t (by decide) (by rfl) (by rfl) ?_
                | refine SL_not_op (by decide) (by rfl) ?_
                | refine SL_add (by decide) (by rfl) (by rfl) (by omega) (by omega) ?_
                | (refine SL_lss (by decide) (by rfl) (by rfl) (fun hT => ?_) (fun hT => ?_) <;> first | (exfalso; omega) | skip)
                | (refine SL_eql (by decide) (by rfl) (by rfl) (fun hT => ?_) (fun hT => ?_) <;> first | (exfalso; omega) | skip)
                | refine SL_fieldAddr (by decide) (by rfl) (fldF (by rfl)) ?_
                | refine SL_indexAddr_v (by decide) (by rfl) (by rfl) (by assumption) (slF (by rfl)) _ (by first | rfl | exact (Int.toNat_of_nonneg (by omega)).symm) (by simp only [List.length_map]; omega) (fun ad => ?_)
                | refine SL_load_r (by decide) (by rfl) (rowF (by rfl)) (by first | assumption | rfl | exact ints_at hkop | exact ints_at hk2op | exact bools_at hkwh | exact bools_at hk2wh | exact strs_get _ hlt | exact strs_get _ hlt2) (by rfl) ?_
                | refine SL_load_o (by decide) (by rfl) (by repeat (first | exact .head _ | refine .tail _ ?_)) (rowF (by rfl)) (by first | assumption | rfl | exact ints_at hkop | exact ints_at hk2op | exact bools_at hkwh | exact bools_at hk2wh | exact strs_get _ hlt | exact strs_get _ hlt2) (by rfl) ?_
                | refine SL_build1 (by decide) (by rfl) (elF (by rfl)) (by rfl) (by rfl) (fun id hid => ?_)
                | refine SC_cond_t (by rfl) ?_
                | (refine SC_skip' (fun tm σ hE hH => ?_); refine SC.app ?_ hE hH; clear hE hH; clear tm σ)
                | fail)
              refine SL_nil fun tm σ hE hH => ⟨(k + 1, none, some id), by dsimp only; omega, ⟨by dsimp only; omega, hoks', by dsimp only; rw [hout]; exact ⟨fun _ => he1, fun _ => rfl⟩, by simp [hbys], hn1, fun j hj => by cases hj; omega⟩, tm, σ, rfl, hE.sub ⟨rfl, rfl, ?_, ?_, rfl, rfl, rfl, trivial⟩, ?_⟩
              · rfl
              · dsimp only [outS]; rw [hbys, List.length_append]; rfl
              · dsimp only [outH, strs, List.nil_append, List.cons_append]; rw [hbys, List.map_append, List.map_append]; exact (hH.perm ((List.perm_append_comm (l₁ := [_, _, _]) (l₂ := [_])).append_right _)).subl (.cons_cons _ (.cons_cons _ (.cons _ (.cons _ (.cons _ (.refl _))))))
          | some oid1 =>
            have hoid1 := hn1 oid1 rfl
            cases o2 with
            | none =>
              have he2 := ho2.1 rfl
              dsimp only [outS, outH, List.nil_append, List.cons_append, strs]
              repeat' (first
                | (refine SL_call (by decide) (by rfl) bd33 (by rfl) (by rfl) (h33b _ _ (hsz _ (List.getElem_mem hlt))) ⟨(by repeat (first | exact .head _ | refine .tail _ ?_)), trivial⟩ (by simp) ?_; rintro _ _ _ ⟨rfl, rfl⟩; rw [List.nil_append])
                | refine SL_buildSlice (len := 3) (by decide) (by rfl) (elF (by rfl)) (by decide) (by rfl) (fun id hid => ?_)
                | refine SL_load_h (by decide) (by rfl) (by assumption) (by intro p hp; repeat (first | exact hp | refine List.Mem.tail _ ?_ | refine List.mem_append_right _ ?_)) (rowF (by rfl)) (by first | exact ints_at hkop | exact ints_at hk2op | exact bools_at hkwh | exact bools_at hk2wh) (by rfl) ?_
                | (refine SL_indexAddr_h (by decide) (by rfl) (by rfl) hsw (by intro p hp; repeat (first | exact hp | refine List.Mem.tail _ ?_ | refine List.mem_append_right _ ?_)) (slF (by rfl)) _ (by first | rfl | exact (Int.toNat_of_nonneg (by omega)).symm) (by simp only [List.length_map]; omega) (fun pa hpa => ?_))
                | (refine SL_indexAddr_h (by decide) (by rfl) (by rfl) hso (by intro p hp; repeat (first | exact hp | refine List.Mem.tail _ ?_ | refine List.mem_append_right _ ?_)) (slF (by rfl)) _ (by first | rfl | exact (Int.toNat_of_nonneg (by omega)).symm) (by simp only [List.length_map]; omega) (fun pa hpa => ?_))
                | refine SC_seq ?_
                | refine SC_block ?_
                | refine SC_region ?_
                | refine SL_seq ?_
                | (refine SL_nil (fun tm σ hE hH => ?_); refine SC.app ?_ hE hH; clear hE hH; clear tm σ)
                | refine SL_run (by rfl) (by rfl) ?_
                | refine SL_move (by decide) (by rfl) ?_
                | refine SL_assign (by decide) (by rfl) ?_
                | refine SL_pick_t (by decide) (by rfl) (by rfl) ?_
                | refine SL_not_op (by decide) (by rfl) ?_
                | refine SL_add (by decide) (by rfl) (by rfl) (by omega) (by omega) ?_
                | (refine SL_lss (by decide) (by rfl) (by rfl) (fun hT => ?_) (fun hT => ?_) <;> first | (exfalso; omega) | skip)
                | (refine SL_eql (by decide) (by rfl) (by rfl) (fun hT => ?_) (fun hT => ?_) <;> first | (exfalso; omega) | skip)
                | refine SL_fieldAddr (by decide) (by rfl) (fldF (by rfl)) ?_
                | refine SL_indexAddr_v (by decide) (by rfl) (by rfl) (by assumption) (slF (by rfl)) _ (by first | rfl | exact (Int.toNat_of_nonneg (by omega)).symm) (by simp only [List.length_map]; omega) (fun ad => ?_)
                | refine SL_load_r (by decide) (by rfl) (rowF (by rfl)) (by first | assumption | rfl | exact ints_at hkop | exact ints_at hk2op | exact bools_at hkwh | exact bools_at hk2wh | exact strs_get _ hlt | exact strs_get _ hlt2) (by rfl) ?_
                | refine SL_load_o (by decide) (by rfl) (by repeat (first | exact .head _ | refine .tail _ ?_)) (rowF (by rfl)) (by first | assumption | rfl | exact ints_at hkop | exact ints_at hk2op | exact bools_at hkwh | exact bools_at hk2wh | exact strs_get _ hlt | exact strs_get _ hlt2) (by rfl) ?_
                | refine SL_build1 (by decide) (by rfl) (elF (by rfl)) (by rfl) (by rfl) (fun id hid => ?_)
                | refine SL_append1_nil (by decide) (by rfl) (by rfl) (by repeat (first | exact .head _ | refine .tail _ ?_)) (elF (by rfl)) (sliceOf_spec (slF (by rfl))).1 (by rfl) (by decide) (fun id hid => ?_)
                | refine SC_cond_t (by rfl) ?_
                | (refine SC_skip' (fun tm σ hE hH => ?_); refine SC.app ?_ hE hH; clear hE hH; clear tm σ)
                | fail)
              refine SL_nil fun tm σ hE hH => ⟨(k + 1, some oid1, some id), by dsimp only; omega, ⟨by dsimp only; omega, hoks', by dsimp only; rw [hout]; exact ho1, by simp [hbys], hn1, fun j hj => by cases hj; omega⟩, tm, σ, rfl, hE.sub ⟨rfl, rfl, ?_, ?_, rfl, rfl, rfl, trivial⟩, ?_⟩
              · dsimp only; rw [hout]; rfl
              · dsimp only [outS]; rw [hbys, List.length_append]; rw [he2]; rfl
              · dsimp only [outH, strs, List.nil_append, List.cons_append]; rw [hout, hbys, List.map_append, he2]; exact (hH.perm ((List.perm_append_comm (l₁ := [_, _, _]) (l₂ := [_, _])).append_right _)).subl (.cons_cons _ (.cons_cons _ (.cons_cons _ (.cons _ (.cons _ (.refl _))))))
            | some oid2 =>
              have hoid2 := hn2 oid2 rfl
              dsimp only [outS, outH, List.nil_append, List.cons_append, strs]
              repeat' (first
                | refine SL_append1_own (by decide) (by rfl) (by rfl) (by repeat (first | exact .head | apply Upd.tail)) (by first | exact (List.length_map _).symm | simp only [List.length_map]) (by first | exact .inl (by assumption) | exact .inr (by simp)) (by repeat (first | exact .head _ | refine .tail _ ?_)) (elF (by rfl)) (sliceOf_spec (slF (by rfl))).1 (by rfl) (by first | omega | (simp only [List.length_map]; omega)) (by first | omega | (simp only [List.length_map]; omega)) (fun id hid => ?_)
                | (refine SL_call (by decide) (by rfl) bd33 (by rfl) (by rfl) (h33b _ _ (hsz _ (List.getElem_mem hlt))) ⟨(by repeat (first | exact .head _ | refine .tail _ ?_)), trivial⟩ (by simp) ?_; rintro _ _ _ ⟨rfl, rfl⟩; rw [List.nil_append])
                | refine SL_buildSlice (len := 3) (by decide) (by rfl) (elF (by rfl)) (by decide) (by rfl) (fun id hid => ?_)
                | refine SL_load_h (by decide) (by rfl) (by assumption) (by intro p hp; repeat (first | exact hp | refine List.Mem.tail _ ?_ | refine List.mem_append_right _ ?_)) (rowF (by rfl)) (by first | exact ints_at hkop | exact ints_at hk2op | exact bools_at hkwh | exact bools_at hk2wh) (by rfl) ?_
                | (refine SL_indexAddr_h (by decide) (by rfl) (by rfl) hsw (by intro p hp; repeat (first | exact hp | refine List.Mem.tail _ ?_ | refine List.mem_append_right _ ?_)) (slF (by rfl)) _ (by first | rfl | exact (Int.toNat_of_nonneg (by omega)).symm) (by simp only [List.length_map]; omega) (fun pa hpa => ?_))
                | (refine SL_indexAddr_h (by decide) (by rfl) (by rfl) hso (by intro p hp; repeat (first | exact hp | refine List.Mem.tail _ ?_ | refine List.mem_append_right _ ?_)) (slF (by rfl)) _ (by first | rfl | exact (Int.toNat_of_nonneg (by omega)).symm) (by simp only [List.length_map]; omega) (fun pa hpa => ?_))
                | refine SC_seq ?_
                | refine SC_block ?_
                | refine SC_region ?_
                | refine SL_seq ?_
                | (refine SL_nil (fun tm σ hE hH => ?_); refine SC.app ?_ hE hH; clear hE hH; clear tm σ)
                | refine SL_run (by rfl) (by rfl) ?_
                | refine SL_move (by decide) (by rfl) ?_
                | refine SL_assign (by decide) (by rfl) ?_
                | refine SL_pick_t (by decide) (by rfl) (by rfl) ?_
                | refine SL_not_op (by decide) (by rfl) ?_
                | refine SL_add (by decide) (by rfl) (by rfl) (by omega) (by omega) ?_
                | (refine SL_lss (by decide) (by rfl) (by rfl) (fun hT => ?_) (fun hT => ?_) <;> first | (exfalso; omega) | skip)
                | (refine SL_eql (by decide) (by rfl) (by rfl) (fun hT => ?_) (fun hT => ?_) <;> first | (exfalso; omega) | skip)
                | refine SL_fieldAddr (by decide) (by rfl) (fldF (by rfl)) ?_
                | refine SL_indexAddr_v (by decide) (by rfl) (by rfl) (by assumption) (slF (by rfl)) _ (by first | rfl | exact (Int.toNat_of_nonneg (by omega)).symm) (by simp only [List.length_map]; omega) (fun ad => ?_)
                | refine SL_load_r (by decide) (by rfl) (rowF (by rfl)) (by first | assumption | rfl | exact ints_at hkop | exact ints_at hk2op | exact bools_at hkwh | exact bools_at hk2wh | exact strs_get _ hlt | exact strs_get _ hlt2) (by rfl) ?_
                | refine SL_load_o (by decide) (by rfl) (by repeat (first | exact .head _ | refine .tail _ ?_)) (rowF (by rfl)) (by first | assumption | rfl | exact ints_at hkop | exact ints_at hk2op | exact bools_at hkwh | exact bools_at hk2wh | exact strs_get _ hlt | exact strs_get _ hlt2) (by rfl) ?_
                | refine SL_build1 (by decide) (by rfl) (elF (by rfl)) (by rfl) (by rfl) (fun id hid => ?_)
                | refine SC_cond_t (by rfl) ?_
                | (refine SC_skip' (fun tm σ hE hH => ?_); refine SC.app ?_ hE hH; clear hE hH; clear tm σ)
                | fail)
              refine SL_nil fun tm σ hE hH => ⟨(k + 1, some oid1, some id), by dsimp only; omega, ⟨by dsimp only; omega, hoks', by dsimp only; rw [hout]; exact ho1, by simp [hbys], hn1, fun j hj => by cases hj; omega⟩, tm, σ, rfl, hE.sub ⟨rfl, rfl, ?_, ?_, rfl, rfl, rfl, trivial⟩, ?_⟩
              · dsimp only; rw [hout]; rfl
              · dsimp only [outS]; rw [hbys, List.length_append]; rfl
              · dsimp only [outH, strs, List.nil_append, List.cons_append]; rw [hout, hbys, List.map_append, List.map_append]; exact (hH.perm ((List.perm_append_comm (l₁ := [_, _, _]) (l₂ := [_, _])).append_right _)).subl (.cons_cons _ (.cons_cons _ (.cons_cons _ (.cons _ (.cons _ (.cons _ (.refl _)))))))
        | true =>
          have hno : ¬ OkAt xs.length op wh k := by
            intro h
            unfold OkAt at h
            rw [hgo, hgw] at h
            rcases h with ⟨_, h⟩ | ⟨h, _⟩
            · cases h
            · omega
          repeat' (first
            | refine SL_load_h (by decide) (by rfl) (by assumption) (by intro p hp; repeat (first | exact hp | refine List.Mem.tail _ ?_ | refine List.mem_append_right _ ?_)) (rowF (by rfl)) (by first | exact ints_at hkop | exact ints_at hk2op | exact bools_at hkwh | exact bools_at hk2wh) (by rfl) ?_
            | (refine SL_indexAddr_h (by decide) (by rfl) (by rfl) hsw (by intro p hp; repeat (first | exact hp | refine List.Mem.tail _ ?_ | refine List.mem_append_right _ ?_)) (slF (by rfl)) _ (by first | rfl | exact (Int.toNat_of_nonneg (by omega)).symm) (by simp only [List.length_map]; omega) (fun pa hpa => ?_))
            | (refine SL_indexAddr_h (by decide) (by rfl) (by rfl) hso (by intro p hp; repeat (first | exact hp | refine List.Mem.tail _ ?_ | refine List.mem_append_right _ ?_)) (slF (by rfl)) _ (by first | rfl | exact (Int.toNat_of_nonneg (by omega)).symm) (by simp only [List.length_map]; omega) (fun pa hpa => ?_))
            | refine SC_seq ?_
            | refine SC_block ?_
            | refine SC_region ?_
            | refine SL_seq ?_
            | refine SL_run (by rfl) (by rfl) ?_
            | refine SL_not (by rfl) (by rfl) (by rfl) (by decide) ?_
            | refine SL_move (by decide) (by rfl) ?_
            | refine SL_assign (by decide) (by rfl) ?_
            | refine SL_pick_t (by decide) (by rfl) (by rfl) ?_
            | refine SL_not_op (by decide) (by rfl) ?_
            | (refine SL_lss (by decide) (by rfl) (by rfl) (fun hT => ?_) (fun hT => ?_) <;> first | (exfalso; omega) | skip)
            | (refine SL_eql (by decide) (by rfl) (by rfl) (fun hT => ?_) (fun hT => ?_) <;> first | (exfalso; omega) | skip)
            | refine SL_fieldAddr (by decide) (by rfl) (fldF (by rfl)) ?_
            | refine SL_load_o (by decide) (by rfl) (by repeat (first | exact .head _ | refine .tail _ ?_)) (rowF (by rfl)) (by first | assumption | rfl | exact ints_at hkop | exact ints_at hk2op | exact bools_at hkwh | exact bools_at hk2wh | exact strs_get _ hlt | exact strs_get _ hlt2) (by rfl) ?_
            | refine SC_draw (by kernel_rfl) ?_
            | refine SC_cond_t (by rfl) ?_
            | refine SC_cond_f (by rfl) ?_
            | (refine SC_skip' (fun tm σ hE hH => ?_); refine SC.app ?_ hE hH; clear hE hH; clear tm σ)
            | fail)
          all_goals refine SC_ret (fun tm σ hE hH => Post.intro (Hn := []) (.inr rfl) hE hH (by rfl) trivial List.nodup_nil (fun p hp => (by cases hp)) ?_)
          all_goals exact .inr ⟨fun h => hno (h.ok k hlt), rfl, rfl⟩
      · by_cases hr : 0 ≤ kk ∧ kk < xs.length
        · obtain ⟨q, rfl⟩ : ∃ q : Nat, kk = q := ⟨kk.toNat, by omega⟩
          have hlt2 : q < xs.length := by omega
          obtain ⟨k2, hk2op⟩ : ∃ k2, op[q]? = some k2 := ⟨op[q], List.getElem?_eq_getElem (by omega)⟩
          obtain ⟨w2, hk2wh⟩ : ∃ w2, wh[q]? = some w2 := ⟨wh[q], List.getElem?_eq_getElem (by omega)⟩
          have hgo2 := getD_at (d := (0 : Int)) hk2op
          have hgw2 := getD_at (d := false) hk2wh
          have hgx2 : xs.getD q ⟨#[]⟩ = xs[q] := getD_at (List.getElem?_eq_getElem hlt2)
          have hiff : OkAt xs.length op wh k ↔ q ≠ k ∧ k2 = k ∧ wk ≠ w2 := by
            unfold OkAt
            rw [hgo, hgw, Int.toNat_natCast, hgo2, hgw2]
            constructor
            · rintro (⟨h, _⟩ | ⟨_, _, h1, h2, h3⟩)
              · omega
              · exact ⟨by omega, h2, h3⟩
            · rintro ⟨h1, h2, h3⟩
              exact .inr ⟨by omega, by omega, by omega, h2, h3⟩
          by_cases hok : q ≠ k ∧ k2 = k ∧ wk ≠ w2
          · obtain ⟨hqk, hk2k, hww⟩ := hok
            have hoks' : ∀ i, i < k + 1 → OkAt xs.length op wh i := fun i hi => by
              by_cases e : i = k
              · subst e; exact hiff.2 ⟨hqk, hk2k, hww⟩
              · exact hoks i (by omega)
            have hbys : byesN xs op (k + 1) = byesN xs op k := by rw [bye_step, byeAt, if_neg (by rw [hgo]; omega), List.append_nil]
            cases wk with
            | false =>
              obtain rfl : w2 = true := by cases w2 with | true => rfl | false => exact absurd rfl hww
              have hout : outsN xs op wh (k + 1) = outsN xs op wh k := by rw [out_step, outAt, if_neg (by rw [hgw]; simp), List.append_nil]
              repeat' (first
                | refine SL_beq4 (by decide) (by rfl) (by rfl) ?_
                | refine SL_load_h (by decide) (by rfl) (by assumption) (by intro p hp; repeat (first | exact hp | refine List.Mem.tail _ ?_ | refine List.mem_append_right _ ?_)) (rowF (by rfl)) (by first | exact ints_at hkop | exact ints_at hk2op | exact bools_at hkwh | exact bools_at hk2wh) (by rfl) ?_
                | (refine SL_indexAddr_h (by decide) (by rfl) (by rfl) hsw (by intro p hp; repeat (first | exact hp | refine List.Mem.tail _ ?_ | refine List.mem_append_right _ ?_)) (slF (by rfl)) _ (by first | rfl | exact (Int.toNat_of_nonneg (by omega)).symm) (by simp only [List.length_map]; omega) (fun pa hpa => ?_))
                | (refine SL_indexAddr_h (by decide) (by rfl) (by rfl) hso (by intro p hp; repeat (first | exact hp | refine List.Mem.tail _ ?_ | refine List.mem_append_right _ ?_)) (slF (by rfl)) _ (by first | rfl | exact (Int.toNat_of_nonneg (by omega)).symm) (by simp only [List.length_map]; omega) (fun pa hpa => ?_))
                | refine SL_len_v (by decide) (by rfl) (by assumption) (by rfl) (slF (by rfl)) (strs_len0 _) ?_
                | refine SC_seq ?_
                | refine SC_block ?_
                | refine SC_region ?_
                | refine SL_seq ?_
                | refine SL_run (by rfl) (by rfl) ?_
                | refine SL_not (by rfl) (by rfl) (by rfl) (by decide) ?_
                | refine SL_move (by decide) (by rfl) ?_
                | refine SL_assign (by decide) (by rfl) ?_
                | refine SL_pick_f (by decide) (by rfl) (by rfl) ?_
                | refine SL_add (by decide) (by rfl) (by rfl) (by omega) (by omega) ?_
                | (refine SL_lss (by decide) (by rfl) (by rfl) (fun hT => ?_) (fun hT => ?_) <;> first | (exfalso; omega) | skip)
                | (refine SL_geq (by decide) (by rfl) (by rfl) (fun hT => ?_) (fun hT => ?_) <;> first | (exfalso; omega) | skip)
                | (refine SL_eql (by decide) (by rfl) (by rfl) (fun hT => ?_) (fun hT => ?_) <;> first | (exfalso; omega) | skip)
                | (refine SL_neq (by decide) (by rfl) (by rfl) (fun hT => ?_) (fun hT => ?_) <;> first | (exfalso; omega) | skip)
                | refine SL_fieldAddr (by decide) (by rfl) (fldF (by rfl)) ?_
                | refine SL_load_o (by decide) (by rfl) (by repeat (first | exact .head _ | refine .tail _ ?_)) (rowF (by rfl)) (by first | assumption | rfl | exact ints_at hkop | exact ints_at hk2op | exact bools_at hkwh | exact bools_at hk2wh | exact strs_get _ hlt | exact strs_get _ hlt2) (by rfl) ?_
                | refine SC_draw (by kernel_rfl) ?_
                | refine SC_cond_t (by rfl) ?_
                | refine SC_cond_f (by rfl) ?_
                | (refine SC_skip' (fun tm σ hE hH => ?_); refine SC.app ?_ hE hH; clear hE hH; clear tm σ)
                | fail)
              refine SL_nil fun tm σ hE hH => ⟨(k + 1, o1, o2), by dsimp only; omega, ⟨by dsimp only; omega, hoks', by dsimp only; rw [hout]; exact ho1, by dsimp only; rw [hbys]; exact ho2, hn1, hn2⟩, tm, σ, rfl, hE.sub ⟨rfl, rfl, ?_, ?_, rfl, rfl, rfl, trivial⟩, ?_⟩
              · dsimp only; rw [hout]; rfl
              · dsimp only; rw [hbys]; rfl
              · dsimp only; rw [hout, hbys]; exact hH
            | true =>
              obtain rfl : w2 = false := by cases w2 with | false => rfl | true => exact absurd rfl hww
              have hout : outsN xs op wh (k + 1) = outsN xs op wh k ++ [xs[k] ++ midS ++ xs[q]] := by rw [out_step, outAt, if_pos ⟨by rw [hgo]; omega, hgw⟩, hgo, Int.toNat_natCast, hgx, hgx2]
              cases o1 with
              | none =>
                have he1 := ho1.1 rfl
                cases o2 with
                | none =>
                  have he2 := ho2.1 rfl
                  dsimp only [outS, outH, List.nil_append, List.cons_append, strs]
                  repeat' (first
                    | refine SL_beq4 (by decide) (by rfl) (by rfl) ?_
                    | (refine SL_call (by decide) (by rfl) bd33 (by rfl) (by rfl) (h33a _ _ _ (hsz _ (List.getElem_mem hlt)) (hsz _ (List.getElem_mem hlt2))) ⟨(by repeat (first | exact .head _ | refine .tail _ ?_)), trivial⟩ (by simp) ?_; rintro _ _ _ ⟨rfl, rfl⟩; rw [List.nil_append])
                    | refine SL_load_h (by decide) (by rfl) (by assumption) (by intro p hp; repeat (first | exact hp | refine List.Mem.tail _ ?_ | refine List.mem_append_right _ ?_)) (rowF (by rfl)) (by first | exact ints_at hkop | exact ints_at hk2op | exact bools_at hkwh | exact bools_at hk2wh) (by rfl) ?_
                    | (refine SL_indexAddr_h (by decide) (by rfl) (by rfl) hsw (by intro p hp; repeat (first | exact hp | refine List.Mem.tail _ ?_ | refine List.mem_append_right _ ?_)) (slF (by rfl)) _ (by first | rfl | exact (Int.toNat_of_nonneg (by omega)).symm) (by simp only [List.length_map]; omega) (fun pa hpa => ?_))
                    | (refine SL_indexAddr_h (by decide) (by rfl) (by rfl) hso (by intro p hp; repeat (first | exact hp | refine List.Mem.tail _ ?_ | refine List.mem_append_right _ ?_)) (slF (by rfl)) _ (by first | rfl | exact (Int.toNat_of_nonneg (by omega)).symm) (by simp only [List.length_map]; omega) (fun pa hpa => ?_))
                    | refine SL_len_v (by decide) (by rfl) (by assumption) (by rfl) (slF (by rfl)) (strs_len0 _) ?_
                    | (refine SC_drawK (id := 12) (by kernel_rfl) (fun B2 base hBB hold => ?_); first | (have hoidb : oid1 < base := hold (oid1, _) (by repeat (first | exact .head _ | refine .tail _ ?_))) | skip)
                    | refine SC_seq ?_
                    | refine SC_block ?_
                    | refine SC_region ?_
                    | refine SL_seq ?_
                    | refine SL_run (by rfl) (by rfl) ?_
                    | refine SL_not (by rfl) (by rfl) (by rfl) (by decide) ?_
                    | refine SL_move (by decide) (by rfl) ?_
                    | refine SL_assign (by decide) (by rfl) ?_
                    | refine SL_pick_f (by decide) (by rfl) (by rfl) ?_
                    | refine SL_add (by decide) (by rfl) (by rfl) (by omega) (by omega) ?_
                    | (refine SL_lss (by decide) (by rfl) (by rfl) (fun hT => ?_) (fun hT => ?_) <;> first | (exfalso; omega) | skip)
                    | (refine SL_geq (by decide) (by rfl) (by rfl) (fun hT => ?_) (fun hT => ?_) <;> first | (exfalso; omega) | skip)
                    | (refine SL_eql (by decide) (by rfl) (by rfl) (fun hT => ?_) (fun hT => ?_) <;> first | (exfalso; omega) | skip)
                    | (refine SL_neq (by decide) (by rfl) (by rfl) (fun hT => ?_) (fun hT => ?_) <;> first | (exfalso; omega) | skip)
                    | refine SL_fieldAddr (by decide) (by rfl) (fldF (by rfl)) ?_
                    | refine SL_indexAddr_v (by decide) (by rfl) (by rfl) (by assumption) (slF (by rfl)) _ (by first | rfl | exact (Int.toNat_of_nonneg (by omega)).symm) (by simp only [List.length_map]; omega) (fun ad => ?_)
                    | refine SL_load_r (by decide) (by rfl) (rowF (by rfl)) (by first | assumption | rfl | exact ints_at hkop | exact ints_at hk2op | exact bools_at hkwh | exact bools_at hk2wh | exact strs_get _ hlt | exact strs_get _ hlt2) (by rfl) ?_
                    | refine SL_load_o (by decide) (by rfl) (by repeat (first | exact .head _ | refine .tail _ ?_)) (rowF (by rfl)) (by first | assumption | rfl | exact ints_at hkop | exact ints_at hk2op | exact bools_at hkwh | exact bools_at hk2wh | exact strs_get _ hlt | exact strs_get _ hlt2) (by rfl) ?_
                    | refine SL_append1_nil (by decide) (by rfl) (by rfl) (by repeat (first | exact .head _ | refine .tail _ ?_)) (elF (by rfl)) (sliceOf_spec (slF (by rfl))).1 (by rfl) (by decide) (fun id hid => ?_)
                    | refine SC_draw (by kernel_rfl) ?_
                    | refine SC_cond_t (by rfl) ?_
                    | refine SC_cond_f (by rfl) ?_
                    | (refine SC_skip' (fun tm σ hE hH => ?_); refine SC.app ?_ hE hH; clear hE hH; clear tm σ)
                    | refine SI_build1 (by decide) (by rfl) (elF (by rfl)) (by rfl) (by rfl) (fun id hid => ?_)
                    | refine SI_buildSlice (by decide) (by rfl) (elF (by rfl)) (by decide) (by rfl) (fun id hid => ?_)
                    | refine SI_op (by rfl) ?_
                    | (refine SI_nil (fun tm σ hE hH => ?_); refine SC.app ?_ hE hH; clear hE hH; clear tm σ)
                    | (refine SL_nil (fun tm σ hE hH => ⟨tm, σ, _, _, rfl, hE, hH, ?_⟩); clear hE hH; clear tm σ)
                    | fail)
                  refine SL_nil fun tm σ hE hH => ⟨(k + 1, some id, none), by dsimp only; omega, ⟨by dsimp only; omega, hoks', by simp [hout], by dsimp only; rw [hbys]; exact ⟨fun _ => he2, fun _ => rfl⟩, fun j hj => by cases hj; omega, hn2⟩, tm, σ, rfl, hE.sub ⟨rfl, rfl, ?_, ?_, rfl, rfl, rfl, trivial⟩, ?_⟩
                  · dsimp only [outS]; rw [hout, List.length_append]; rw [he1]; rfl
                  · rfl
                  · dsimp only [outH, strs, List.nil_append, List.cons_append]; rw [hout, he1]; exact (hH.perm ((List.perm_append_comm (l₁ := [_, _, _]) (l₂ := [_])).append_right _)).subl (.cons_cons _ (.cons_cons _ (.cons _ (.cons _ (.refl _)))))
                | some oid2 =>
                  have hoid2 := hn2 oid2 rfl
                  dsimp only [outS, outH, List.nil_append, List.cons_append, strs]
                  repeat' (first
                    | refine SL_beq4 (by decide) (by rfl) (by rfl) ?_
                    | (refine SL_call (by decide) (by rfl) bd33 (by rfl) (by rfl) (h33a _ _ _ (hsz _ (List.getElem_mem hlt)) (hsz _ (List.getElem_mem hlt2))) ⟨(by repeat (first | exact .head _ | refine .tail _ ?_)), trivial⟩ (by simp) ?_; rintro _ _ _ ⟨rfl, rfl⟩; rw [List.nil_append])
                    | refine SL_load_h (by decide) (by rfl) (by assumption) (by intro p hp; repeat (first | exact hp | refine List.Mem.tail _ ?_ | refine List.mem_append_right _ ?_)) (rowF (by rfl)) (by first | exact ints_at hkop | exact ints_at hk2op | exact bools_at hkwh | exact bools_at hk2wh) (by rfl) ?_
                    | (refine SL_indexAddr_h (by decide) (by rfl) (by rfl) hsw (by intro p hp; repeat (first | exact hp | refine List.Mem.tail _ ?_ | refine List.mem_append_right _ ?_)) (slF (by rfl)) _ (by first | rfl | exact (Int.toNat_of_nonneg (by omega)).symm) (by simp only [List.length_map]; omega) (fun pa hpa => ?_))
                    | (refine SL_indexAddr_h (by decide) (by rfl) (by rfl) hso (by intro p hp; repeat (first | exact hp | refine List.Mem.tail _ ?_ | refine List.mem_append_right _ ?_)) (slF (by rfl)) _ (by first | rfl | exact (Int.toNat_of_nonneg (by omega)).symm) (by simp only [List.length_map]; omega) (fun pa hpa => ?_))
                    | refine SL_len_v (by decide) (by rfl) (by assumption) (by rfl) (slF (by rfl)) (strs_len0 _) ?_
                    | (refine SC_drawK (id := 12) (by kernel_rfl) (fun B2 base hBB hold => ?_); first | (have hoidb : oid1 < base := hold (oid1, _) (by repeat (first | exact .head _ | refine .tail _ ?_))) | skip)
                    | refine SC_seq ?_
                    | refine SC_block ?_
                    | refine SC_region ?_
                    | refine SL_seq ?_
                    | refine SL_run (by rfl) (by rfl) ?_
                    | refine SL_not (by rfl) (by rfl) (by rfl) (by decide) ?_
                    | refine SL_move (by decide) (by rfl) ?_
                    | refine SL_assign (by decide) (by rfl) ?_
                    | refine SL_pick_f (by decide) (by rfl) (by rfl) ?_
                    | refine SL_add (by decide) (by rfl) (by rfl) (by omega) (by omega) ?_
                    | (refine SL_lss (by decide) (by rfl) (by rfl) (fun hT => ?_) (fun hT => ?_) <;> first | (exfalso; omega) | skip)
                    | (refine SL_geq (by decide) (by rfl) (by rfl) (fun hT => ?_) (fun hT => ?_) <;> first | (exfalso; omega) | skip)
                    | (refine SL_eql (by decide) (by rfl) (by rfl) (fun hT => ?_) (fun hT => ?_) <;> first | (exfalso; omega) | skip)
                    | (refine SL_neq (by decide) (by rfl) (by rfl) (fun hT => ?_) (fun hT => ?_) <;> first | (exfalso; omega) | skip)
                    | refine SL_fieldAddr (by decide) (by rfl) (fldF (by rfl)) ?_
                    | refine SL_indexAddr_v (by decide) (by rfl) (by rfl) (by assumption) (slF (by rfl)) _ (by first | rfl | exact (Int.toNat_of_nonneg (by omega)).symm) (by simp only [List.length_map]; omega) (fun ad => ?_)
                    | refine SL_load_r (by decide) (by rfl) (rowF (by rfl)) (by first | assumption | rfl | exact ints_at hkop | exact ints_at hk2op | exact bools_at hkwh | exact bools_at hk2wh | exact strs_get _ hlt | exact strs_get _ hlt2) (by rfl) ?_
                    | refine SL_load_o (by decide) (by rfl) (by repeat (first | exact .head _ | refine .tail _ ?_)) (rowF (by rfl)) (by first | assumption | rfl | exact ints_at hkop | exact ints_at hk2op | exact bools_at hkwh | exact bools_at hk2wh | exact strs_get _ hlt | exact strs_get _ hlt2) (by rfl) ?_
                    | refine SL_append1_nil (by decide) (by rfl) (by rfl) (by repeat (first | exact .head _ | refine .tail _ ?_)) (elF (by rfl)) (sliceOf_spec (slF (by rfl))).1 (by rfl) (by decide) (fun id hid => ?_)
                    | refine SC_draw (by kernel_rfl) ?_
                    | refine SC_cond_t (by rfl) ?_
                    | refine SC_cond_f (by rfl) ?_
                    | (refine SC_skip' (fun tm σ hE hH => ?_); refine SC.app ?_ hE hH; clear hE hH; clear tm σ)
                    | refine SI_build1 (by decide) (by rfl) (elF (by rfl)) (by rfl) (by rfl) (fun id hid => ?_)
                    | refine SI_buildSlice (by decide) (by rfl) (elF (by rfl)) (by decide) (by rfl) (fun id hid => ?_)
                    | refine SI_op (by rfl) ?_
                    | (refine SI_nil (fun tm σ hE hH => ?_); refine SC.app ?_ hE hH; clear hE hH; clear tm σ)
                    | (refine SL_nil (fun tm σ hE hH => ⟨tm, σ, _, _, rfl, hE, hH, ?_⟩); clear hE hH; clear tm σ)
                    | fail)
                  refine SL_nil fun tm σ hE hH => ⟨(k + 1, some id, some oid2), by dsimp only; omega, ⟨by dsimp only; omega, hoks', by simp [hout], by dsimp only; rw [hbys]; exact ho2, fun j hj => by cases hj; omega, hn2⟩, tm, σ, rfl, hE.sub ⟨rfl, rfl, ?_, ?_, rfl, rfl, rfl, trivial⟩, ?_⟩
                  · dsimp only [outS]; rw [hout, List.length_append]; rw [he1]; rfl
                  · dsimp only; rw [hbys]; rfl
                  · dsimp only [outH, strs, List.nil_append, List.cons_append]; rw [hout, hbys, he1]; exact (hH.perm ((List.perm_append_comm (l₁ := [_, _, _]) (l₂ := [_])).append_right _)).subl (.cons_cons _ (.cons_cons _ (.cons _ (.cons _ (.refl _)))))
              | some oid1 =>
                have hoid1 := hn1 oid1 rfl
                cases o2 with
                | none =>
                  have he2 := ho2.1 rfl
                  dsimp only [outS, outH, List.nil_append, List.cons_append, strs]
                  repeat' (first
                    | refine SL_beq4 (by decide) (by rfl) (by rfl) ?_
                    | refine SL_append1_own (by decide) (by rfl) (by rfl) (by repeat (first | exact .head | apply Upd.tail)) (by first | exact (List.length_map _).symm | simp only [List.length_map]) (by first | exact .inl (by assumption) | exact .inr (by simp)) (by repeat (first | exact .head _ | refine .tail _ ?_)) (elF (by rfl)) (sliceOf_spec (slF (by rfl))).1 (by rfl) (by first | omega | (simp only [List.length_map]; omega)) (by first | omega | (simp only [List.length_map]; omega)) (fun id hid => ?_)
                    | (refine SL_call (by decide) (by rfl) bd33 (by rfl) (by rfl) (h33a _ _ _ (hsz _ (List.getElem_mem hlt)) (hsz _ (List.getElem_mem hlt2))) ⟨(by repeat (first | exact .head _ | refine .tail _ ?_)), trivial⟩ (by simp) ?_; rintro _ _ _ ⟨rfl, rfl⟩; rw [List.nil_append])
                    | refine SL_load_h (by decide) (by rfl) (by assumption) (by intro p hp; repeat (first | exact hp | refine List.Mem.tail _ ?_ | refine List.mem_append_right _ ?_)) (rowF (by rfl)) (by first | exact ints_at hkop | exact ints_at hk2op | exact bools_at hkwh | exact bools_at hk2wh) (by rfl) ?_
                    | (refine SL_indexAddr_h (by decide) (by rfl) (by rfl) hsw (by intro p hp; repeat (first | exact hp | refine List.Mem.tail _ ?_ | refine List.mem_append_right _ ?_)) (slF (by rfl)) _ (by first | rfl | exact (Int.toNat_of_nonneg (by omega)).symm) (by simp only [List.length_map]; omega) (fun pa hpa => ?_))
                    | (refine SL_indexAddr_h (by decide) (by rfl) (by rfl) hso (by intro p hp; repeat (first | exact hp | refine List.Mem.tail _ ?_ | refine List.mem_append_right _ ?_)) (slF (by rfl)) _ (by first | rfl | exact (Int.toNat_of_nonneg (by omega)).symm) (by simp only [List.length_map]; omega) (fun pa hpa => ?_))
                    | refine SL_len_v (by decide) (by rfl) (by assumption) (by rfl) (slF (by rfl)) (strs_len0 _) ?_
                    | (refine SI_opX (os := [_]) oid1 (.inl hoid1) hoidb (by rfl) ?_)
                    | (refine SC_drawK (id := 12) (by kernel_rfl) (fun B2 base hBB hold => ?_); first | (have hoidb : oid1 < base := hold (oid1, _) (by repeat (first | exact .head _ | refine .tail _ ?_))) | skip)
                    | refine SC_seq ?_
                    | refine SC_block ?_
                    | refine SC_region ?_
                    | refine SL_seq ?_
                    | refine SL_run (by rfl) (by rfl) ?_
                    | refine SL_not (by rfl) (by rfl) (by rfl) (by decide) ?_
                    | refine SL_move (by decide) (by rfl) ?_
                    | refine SL_assign (by decide) (by rfl) ?_
                    | refine SL_pick_f (by decide) (by rfl) (by rfl) ?_
                    | refine SL_add (by decide) (by rfl) (by rfl) (by omega) (by omega) ?_
                    | (refine SL_lss (by decide) (by rfl) (by rfl) (fun hT => ?_) (fun hT => ?_) <;> first | (exfalso; omega) | skip)
                    | (refine SL_geq (by decide) (by rfl) (by rfl) (fun hT => ?_) (fun hT => ?_) <;> first | (exfalso; omega) | skip)
                    | (refine SL_eql (by decide) (by rfl) (by rfl) (fun hT => ?_) (fun hT => ?_) <;> first | (exfalso; omega) | skip)
                    | (refine SL_neq (by decide) (by rfl) (by rfl) (fun hT => ?_) (fun hT => ?_) <;> first | (exfalso; omega) | skip)
                    | refine SL_fieldAddr (by decide) (by rfl) (fldF (by rfl)) ?_
                    | refine SL_indexAddr_v (by decide) (by rfl) (by rfl) (by assumption) (slF (by rfl)) _ (by first | rfl | exact (Int.toNat_of_nonneg (by omega)).symm) (by simp only [List.length_map]; omega) (fun ad => ?_)
                    | refine SL_load_r (by decide) (by rfl) (rowF (by rfl)) (by first | assumption | rfl | exact ints_at hkop | exact ints_at hk2op | exact bools_at hkwh | exact bools_at hk2wh | exact strs_get _ hlt | exact strs_get _ hlt2) (by rfl) ?_
                    | refine SL_load_o (by decide) (by rfl) (by repeat (first | exact .head _ | refine .tail _ ?_)) (rowF (by rfl)) (by first | assumption | rfl | exact ints_at hkop | exact ints_at hk2op | exact bools_at hkwh | exact bools_at hk2wh | exact strs_get _ hlt | exact strs_get _ hlt2) (by rfl) ?_
                    | refine SC_draw (by kernel_rfl) ?_
                    | refine SC_cond_t (by rfl) ?_
                    | refine SC_cond_f (by rfl) ?_
                    | (refine SC_skip' (fun tm σ hE hH => ?_); refine SC.app ?_ hE hH; clear hE hH; clear tm σ)
                    | refine SI_build1 (by decide) (by rfl) (elF (by rfl)) (by rfl) (by rfl) (fun id hid => ?_)
                    | refine SI_buildSlice (by decide) (by rfl) (elF (by rfl)) (by decide) (by rfl) (fun id hid => ?_)
                    | refine SI_op (by rfl) ?_
                    | (refine SI_nil (fun tm σ hE hH => ?_); refine SC.app ?_ hE hH; clear hE hH; clear tm σ)
                    | (refine SL_nil (fun tm σ hE hH => ⟨tm, σ, _, _, rfl, hE, hH, ?_⟩); clear hE hH; clear tm σ)
                    | fail)
                  refine SL_nil fun tm σ hE hH => ⟨(k + 1, some id, none), by dsimp only; omega, ⟨by dsimp only; omega, hoks', by simp [hout], by dsimp only; rw [hbys]; exact ⟨fun _ => he2, fun _ => rfl⟩, fun j hj => by cases hj; omega, hn2⟩, tm, σ, rfl, hE.sub ⟨rfl, rfl, ?_, ?_, rfl, rfl, rfl, trivial⟩, ?_⟩
                  · dsimp only [outS]; rw [hout, List.length_append]; rfl
                  · rfl
                  · dsimp only [outH, strs, List.nil_append, List.cons_append]; rw [hout, List.map_append]; exact (hH.perm ((List.perm_append_comm (l₁ := [_, _, _]) (l₂ := [_])).append_right _)).subl (.cons_cons _ (.cons_cons _ (.cons _ (.cons _ (.cons _ (.refl _))))))
                | some oid2 =>
                  have hoid2 := hn2 oid2 rfl
                  dsimp only [outS, outH, List.nil_append, List.cons_append, strs]
                  repeat' (first
                    | refine SL_beq4 (by decide) (by rfl) (by rfl) ?_
                    | refine SL_append1_own (by decide) (by rfl) (by rfl) (by repeat (first | exact .head | apply Upd.tail)) (by first | exact (List.length_map _).symm | simp only [List.length_map]) (by first | exact .inl (by assumption) | exact .inr (by simp)) (by repeat (first | exact .head _ | refine .tail _ ?_)) (elF (by rfl)) (sliceOf_spec (slF (by rfl))).1 (by rfl) (by first | omega | (simp only [List.length_map]; omega)) (by first | omega | (simp only [List.length_map]; omega)) (fun id hid => ?_)
                    | (refine SL_call (by decide) (by rfl) bd33 (by rfl) (by rfl) (h33a _ _ _ (hsz _ (List.getElem_mem hlt)) (hsz _ (List.getElem_mem hlt2))) ⟨(by repeat (first | exact .head _ | refine .tail _ ?_)), trivial⟩ (by simp) ?_; rintro _ _ _ ⟨rfl, rfl⟩; rw [List.nil_append])
                    | refine SL_load_h (by decide) (by rfl) (by assumption) (by intro p hp; repeat (first | exact hp | refine List.Mem.tail _ ?_ | refine List.mem_append_right _ ?_)) (rowF (by rfl)) (by first | exact ints_at hkop | exact ints_at hk2op | exact bools_at hkwh | exact bools_at hk2wh) (by rfl) ?_
                    | (refine SL_indexAddr_h (by decide) (by rfl) (by rfl) hsw (by intro p hp; repeat (first | exact hp | refine List.Mem.tail _ ?_ | refine List.mem_append_right _ ?_)) (slF (by rfl)) _ (by first | rfl | exact (Int.toNat_of_nonneg (by omega)).symm) (by simp only [List.length_map]; omega) (fun pa hpa => ?_))
                    | (refine SL_indexAddr_h (by decide) (by rfl) (by rfl) hso (by intro p hp; repeat (first | exact hp | refine List.Mem.tail _ ?_ | refine List.mem_append_right _ ?_)) (slF (by rfl)) _ (by first | rfl | exact (Int.toNat_of_nonneg (by omega)).symm) (by simp only [List.length_map]; omega) (fun pa hpa => ?_))
                    | refine SL_len_v (by decide) (by rfl) (by assumption) (by rfl) (slF (by rfl)) (strs_len0 _) ?_
                    | (refine SI_opX (os := [_]) oid1 (.inl hoid1) hoidb (by rfl) ?_)
                    | (refine SC_drawK (id := 12) (by kernel_rfl) (fun B2 base hBB hold => ?_); first | (have hoidb : oid1 < base := hold (oid1, _) (by repeat (first | exact .head _ | refine .tail _ ?_))) | skip)
                    | refine SC_seq ?_
                    | refine SC_block ?_
                    | refine SC_region ?_
                    | refine SL_seq ?_
                    | refine SL_run (by rfl) (by rfl) ?_
                    | refine SL_not (by rfl) (by rfl) (by rfl) (by decide) ?_
                    | refine SL_move (by decide) (by rfl) ?_
                    | refine SL_assign (by decide) (by rfl) ?_
                    | refine SL_pick_f (by decide) (by rfl) (by rfl) ?_
                    | refine SL_add (by decide) (by rfl) (by rfl) (by omega) (by omega) ?_
                    | (refine SL_lss (by decide) (by rfl) (by rfl) (fun hT => ?_) (fun hT => ?_) <;> first | (exfalso; omega) | skip)
                    | (refine SL_geq (by decide) (by rfl) (by rfl) (fun hT => ?_) (fun hT => ?_) <;> first | (exfalso; omega) | skip)
                    | (refine SL_eql (by decide) (by rfl) (by rfl) (fun hT => ?_) (fun hT => ?_) <;> first | (exfalso; omega) | skip)
                    | (refine SL_neq (by decide) (by rfl) (by rfl) (fun hT => ?_) (fun hT => ?_) <;> first | (exfalso; omega) | skip)
                    | refine SL_fieldAddr (by decide) (by rfl) (fldF (by rfl)) ?_
                    | refine SL_indexAddr_v (by decide) (by rfl) (by rfl) (by assumption) (slF (by rfl)) _ (by first | rfl | exact (Int.toNat_of_nonneg (by omega)).symm) (by simp only [List.length_map]; omega) (fun ad => ?_)
                    | refine SL_load_r (by decide) (by rfl) (rowF (by rfl)) (by first | assumption | rfl | exact ints_at hkop | exact ints_at hk2op | exact bools_at hkwh | exact bools_at hk2wh | exact strs_get _ hlt | exact strs_get _ hlt2) (by rfl) ?_
                    | refine SL_load_o (by decide) (by rfl) (by repeat (first | exact .head _ | refine .tail _ ?_)) (rowF (by rfl)) (by first | assumption | rfl | exact ints_at hkop | exact ints_at hk2op | exact bools_at hkwh | exact bools_at hk2wh | exact strs_get _ hlt | exact strs_get _ hlt2) (by rfl) ?_
                    | refine SC_draw (by kernel_rfl) ?_
                    | refine SC_cond_t (by rfl) ?_
                    | refine SC_cond_f (by rfl) ?_
                    | (refine SC_skip' (fun tm σ hE hH => ?_); refine SC.app ?_ hE hH; clear hE hH; clear tm σ)
                    | refine SI_build1 (by decide) (by rfl) (elF (by rfl)) (by rfl) (by rfl) (fun id hid => ?_)
                    | refine SI_buildSlice (by decide) (by rfl) (elF (by rfl)) (by decide) (by rfl) (fun id hid => ?_)
                    | refine SI_op (by rfl) ?_
                    | (refine SI_nil (fun tm σ hE hH => ?_); refine SC.app ?_ hE hH; clear hE hH; clear tm σ)
                    | (refine SL_nil (fun tm σ hE hH => ⟨tm, σ, _, _, rfl, hE, hH, ?_⟩); clear hE hH; clear tm σ)
                    | fail)
                  refine SL_nil fun tm σ hE hH => ⟨(k + 1, some id, some oid2), by dsimp only; omega, ⟨by dsimp only; omega, hoks', by simp [hout], by dsimp only; rw [hbys]; exact ho2, fun j hj => by cases hj; omega, hn2⟩, tm, σ, rfl, hE.sub ⟨rfl, rfl, ?_, ?_, rfl, rfl, rfl, trivial⟩, ?_⟩
                  · dsimp only [outS]; rw [hout, List.length_append]; rfl
                  · dsimp only; rw [hbys]; rfl
                  · dsimp only [outH, strs, List.nil_append, List.cons_append]; rw [hout, hbys, List.map_append]; exact (hH.perm ((List.perm_append_comm (l₁ := [_, _, _]) (l₂ := [_])).append_right _)).subl (.cons_cons _ (.cons_cons _ (.cons _ (.cons _ (.cons _ (.refl _))))))
          · have hno : ¬ OkAt xs.length op wh k := fun h => hok (hiff.1 h)
            by_cases hqk : q = k
            ·
              repeat' (first
                | refine SL_load_h (by decide) (by rfl) (by assumption) (by intro p hp; repeat (first | exact hp | refine List.Mem.tail _ ?_ | refine List.mem_append_right _ ?_)) (rowF (by rfl)) (by first | exact ints_at hkop | exact ints_at hk2op | exact bools_at hkwh | exact bools_at hk2wh) (by rfl) ?_
                | (refine SL_indexAddr_h (by decide) (by rfl) (by rfl) hso (by intro p hp; repeat (first | exact hp | refine List.Mem.tail _ ?_ | refine List.mem_append_right _ ?_)) (slF (by rfl)) _ (by first | rfl | exact (Int.toNat_of_nonneg (by omega)).symm) (by simp only [List.length_map]; omega) (fun pa hpa => ?_))
                | refine SL_len_v (by decide) (by rfl) (by assumption) (by rfl) (slF (by rfl)) (strs_len0 _) ?_
                | refine SC_seq ?_
                | refine SC_block ?_
                | refine SC_region ?_
                | refine SL_seq ?_
                | refine SL_run (by rfl) (by rfl) ?_
                | refine SL_not (by rfl) (by rfl) (by rfl) (by decide) ?_
                | refine SL_move (by decide) (by rfl) ?_
                | refine SL_assign (by decide) (by rfl) ?_
                | refine SL_pick_t (by decide) (by rfl) (by rfl) ?_
                | refine SL_pick_f (by decide) (by rfl) (by rfl) ?_
                | (refine SL_lss (by decide) (by rfl) (by rfl) (fun hT => ?_) (fun hT => ?_) <;> first | (exfalso; omega) | skip)
                | (refine SL_geq (by decide) (by rfl) (by rfl) (fun hT => ?_) (fun hT => ?_) <;> first | (exfalso; omega) | skip)
                | (refine SL_eql (by decide) (by rfl) (by rfl) (fun hT => ?_) (fun hT => ?_) <;> first | (exfalso; omega) | skip)
                | refine SC_draw (by kernel_rfl) ?_
                | refine SC_cond_t (by rfl) ?_
                | refine SC_cond_f (by rfl) ?_
                | (refine SC_skip' (fun tm σ hE hH => ?_); refine SC.app ?_ hE hH; clear hE hH; clear tm σ)
                | fail)
              all_goals refine SC_ret (fun tm σ hE hH => Post.intro (Hn := []) (.inr rfl) hE hH (by rfl) trivial List.nodup_nil (fun p hp => (by cases hp)) ?_)
              all_goals exact .inr ⟨fun h => hno (h.ok k hlt), rfl, rfl⟩
            · by_cases hk2k : k2 = k
              · obtain rfl : wk = w2 := by
                  apply Classical.byContradiction
                  intro h
                  exact hok ⟨hqk, hk2k, h⟩
                cases wk with
                | false =>
                  repeat' (first
                    | refine SL_beq4 (by decide) (by rfl) (by rfl) ?_
                    | refine SL_load_h (by decide) (by rfl) (by assumption) (by intro p hp; repeat (first | exact hp | refine List.Mem.tail _ ?_ | refine List.mem_append_right _ ?_)) (rowF (by rfl)) (by first | exact ints_at hkop | exact ints_at hk2op | exact bools_at hkwh | exact bools_at hk2wh) (by rfl) ?_
                    | (refine SL_indexAddr_h (by decide) (by rfl) (by rfl) hsw (by intro p hp; repeat (first | exact hp | refine List.Mem.tail _ ?_ | refine List.mem_append_right _ ?_)) (slF (by rfl)) _ (by first | rfl | exact (Int.toNat_of_nonneg (by omega)).symm) (by simp only [List.length_map]; omega) (fun pa hpa => ?_))
                    | (refine SL_indexAddr_h (by decide) (by rfl) (by rfl) hso (by intro p hp; repeat (first | exact hp | refine List.Mem.tail _ ?_ | refine List.mem_append_right _ ?_)) (slF (by rfl)) _ (by first | rfl | exact (Int.toNat_of_nonneg (by omega)).symm) (by simp only [List.length_map]; omega) (fun pa hpa => ?_))
                    | refine SL_len_v (by decide) (by rfl) (by assumption) (by rfl) (slF (by rfl)) (strs_len0 _) ?_
                    | refine SC_seq ?_
                    | refine SC_block ?_
                    | refine SC_region ?_
                    | refine SL_seq ?_
                    | refine SL_run (by rfl) (by rfl) ?_
                    | refine SL_not (by rfl) (by rfl) (by rfl) (by decide) ?_
                    | refine SL_move (by decide) (by rfl) ?_
                    | refine SL_assign (by decide) (by rfl) ?_
                    | refine SL_pick_f (by decide) (by rfl) (by rfl) ?_
                    | (refine SL_lss (by decide) (by rfl) (by rfl) (fun hT => ?_) (fun hT => ?_) <;> first | (exfalso; omega) | skip)
                    | (refine SL_geq (by decide) (by rfl) (by rfl) (fun hT => ?_) (fun hT => ?_) <;> first | (exfalso; omega) | skip)
                    | (refine SL_eql (by decide) (by rfl) (by rfl) (fun hT => ?_) (fun hT => ?_) <;> first | (exfalso; omega) | skip)
                    | (refine SL_neq (by decide) (by rfl) (by rfl) (fun hT => ?_) (fun hT => ?_) <;> first | (exfalso; omega) | skip)
                    | refine SL_fieldAddr (by decide) (by rfl) (fldF (by rfl)) ?_
                    | refine SL_load_o (by decide) (by rfl) (by repeat (first | exact .head _ | refine .tail _ ?_)) (rowF (by rfl)) (by first | assumption | rfl | exact ints_at hkop | exact ints_at hk2op | exact bools_at hkwh | exact bools_at hk2wh | exact strs_get _ hlt | exact strs_get _ hlt2) (by rfl) ?_
                    | refine SC_draw (by kernel_rfl) ?_
                    | refine SC_cond_t (by rfl) ?_
                    | refine SC_cond_f (by rfl) ?_
                    | (refine SC_skip' (fun tm σ hE hH => ?_); refine SC.app ?_ hE hH; clear hE hH; clear tm σ)
                    | fail)
                  all_goals refine SC_ret (fun tm σ hE hH => Post.intro (Hn := []) (.inr rfl) hE hH (by rfl) trivial List.nodup_nil (fun p hp => (by cases hp)) ?_)
                  all_goals exact .inr ⟨fun h => hno (h.ok k hlt), rfl, rfl⟩
                | true =>
                  repeat' (first
                    | refine SL_beq4 (by decide) (by rfl) (by rfl) ?_
                    | refine SL_load_h (by decide) (by rfl) (by assumption) (by intro p hp; repeat (first | exact hp | refine List.Mem.tail _ ?_ | refine List.mem_append_right _ ?_)) (rowF (by rfl)) (by first | exact ints_at hkop | exact ints_at hk2op | exact bools_at hkwh | exact bools_at hk2wh) (by rfl) ?_
                    | (refine SL_indexAddr_h (by decide) (by rfl) (by rfl) hsw (by intro p hp; repeat (first | exact hp | refine List.Mem.tail _ ?_ | refine List.mem_append_right _ ?_)) (slF (by rfl)) _ (by first | rfl | exact (Int.toNat_of_nonneg (by omega)).symm) (by simp only [List.length_map]; omega) (fun pa hpa => ?_))
                    | (refine SL_indexAddr_h (by decide) (by rfl) (by rfl) hso (by intro p hp; repeat (first | exact hp | refine List.Mem.tail _ ?_ | refine List.mem_append_right _ ?_)) (slF (by rfl)) _ (by first | rfl | exact (Int.toNat_of_nonneg (by omega)).symm) (by simp only [List.length_map]; omega) (fun pa hpa => ?_))
                    | refine SL_len_v (by decide) (by rfl) (by assumption) (by rfl) (slF (by rfl)) (strs_len0 _) ?_
                    | refine SC_seq ?_
                    | refine SC_block ?_
                    | refine SC_region ?_
                    | refine SL_seq ?_
                    | refine SL_run (by rfl) (by rfl) ?_
                    | refine SL_not (by rfl) (by rfl) (by rfl) (by decide) ?_
                    | refine SL_move (by decide) (by rfl) ?_
                    | refine SL_assign (by decide) (by rfl) ?_
                    | refine SL_pick_f (by decide) (by rfl) (by rfl) ?_
                    | (refine SL_lss (by decide) (by rfl) (by rfl) (fun hT => ?_) (fun hT => ?_) <;> first | (exfalso; omega) | skip)
                    | (refine SL_geq (by decide) (by rfl) (by rfl) (fun hT => ?_) (fun hT => ?_) <;> first | (exfalso; omega) | skip)
                    | (refine SL_eql (by decide) (by rfl) (by rfl) (fun hT => ?_) (fun hT => ?_) <;> first | (exfalso; omega) | skip)
                    | (refine SL_neq (by decide) (by rfl) (by rfl) (fun hT => ?_) (fun hT => ?_) <;> first | (exfalso; omega) | skip)
                    | refine SL_fieldAddr (by decide) (by rfl) (fldF (by rfl)) ?_
                    | refine SL_load_o (by decide) (by rfl) (by repeat (first | exact .head _ | refine .tail _ ?_)) (rowF (by rfl)) (by first | assumption | rfl | exact ints_at hkop | exact ints_at hk2op | exact bools_at hkwh | exact bools_at hk2wh | exact strs_get _ hlt | exact strs_get _ hlt2) (by rfl) ?_
                    | refine SC_draw (by kernel_rfl) ?_
                    | refine SC_cond_t (by rfl) ?_
                    | refine SC_cond_f (by rfl) ?_
                    | (refine SC_skip' (fun tm σ hE hH => ?_); refine SC.app ?_ hE hH; clear hE hH; clear tm σ)
                    | fail)
                  all_goals refine SC_ret (fun tm σ hE hH => Post.intro (Hn := []) (.inr rfl) hE hH (by rfl) trivial List.nodup_nil (fun p hp => (by cases hp)) ?_)
                  all_goals exact .inr ⟨fun h => hno (h.ok k hlt), rfl, rfl⟩
              ·
                repeat' (first
                  | refine SL_load_h (by decide) (by rfl) (by assumption) (by intro p hp; repeat (first | exact hp | refine List.Mem.tail _ ?_ | refine List.mem_append_right _ ?_)) (rowF (by rfl)) (by first | exact ints_at hkop | exact ints_at hk2op | exact bools_at hkwh | exact bools_at hk2wh) (by rfl) ?_
                  | (refine SL_indexAddr_h (by decide) (by rfl) (by rfl) hso (by intro p hp; repeat (first | exact hp | refine List.Mem.tail _ ?_ | refine List.mem_append_right _ ?_)) (slF (by rfl)) _ (by first | rfl | exact (Int.toNat_of_nonneg (by omega)).symm) (by simp only [List.length_map]; omega) (fun pa hpa => ?_))
                  | refine SL_len_v (by decide) (by rfl) (by assumption) (by rfl) (slF (by rfl)) (strs_len0 _) ?_
                  | refine SC_seq ?_
                  | refine SC_block ?_
                  | refine SC_region ?_
                  | refine SL_seq ?_
                  | refine SL_run (by rfl) (by rfl) ?_
                  | refine SL_not (by rfl) (by rfl) (by rfl) (by decide) ?_
                  | refine SL_move (by decide) (by rfl) ?_
                  | refine SL_assign (by decide) (by rfl) ?_
                  | refine SL_pick_t (by decide) (by rfl) (by rfl) ?_
                  | refine SL_pick_f (by decide) (by rfl) (by rfl) ?_
                  | (refine SL_lss (by decide) (by rfl) (by rfl) (fun hT => ?_) (fun hT => ?_) <;> first | (exfalso; omega) | skip)
                  | (refine SL_geq (by decide) (by rfl) (by rfl) (fun hT => ?_) (fun hT => ?_) <;> first | (exfalso; omega) | skip)
                  | (refine SL_eql (by decide) (by rfl) (by rfl) (fun hT => ?_) (fun hT => ?_) <;> first | (exfalso; omega) | skip)
                  | (refine SL_neq (by decide) (by rfl) (by rfl) (fun hT => ?_) (fun hT => ?_) <;> first | (exfalso; omega) | skip)
                  | refine SL_fieldAddr (by decide) (by rfl) (fldF (by rfl)) ?_
                  | refine SL_load_o (by decide) (by rfl) (by repeat (first | exact .head _ | refine .tail _ ?_)) (rowF (by rfl)) (by first | assumption | rfl | exact ints_at hkop | exact ints_at hk2op | exact bools_at hkwh | exact bools_at hk2wh | exact strs_get _ hlt | exact strs_get _ hlt2) (by rfl) ?_
                  | refine SC_draw (by kernel_rfl) ?_
                  | refine SC_cond_t (by rfl) ?_
                  | refine SC_cond_f (by rfl) ?_
                  | (refine SC_skip' (fun tm σ hE hH => ?_); refine SC.app ?_ hE hH; clear hE hH; clear tm σ)
                  | fail)
                all_goals refine SC_ret (fun tm σ hE hH => Post.intro (Hn := []) (.inr rfl) hE hH (by rfl) trivial List.nodup_nil (fun p hp => (by cases hp)) ?_)
                all_goals exact .inr ⟨fun h => hno (h.ok k hlt), rfl, rfl⟩
        · have hno : ¬ OkAt xs.length op wh k := by
            intro h
            unfold OkAt at h
            rw [hgo] at h
            rcases h with ⟨h, _⟩ | ⟨h1, h2, _⟩
            · exact hbye h
            · exact hr ⟨h1, h2⟩
          repeat' (first
            | refine SL_load_h (by decide) (by rfl) (by assumption) (by intro p hp; repeat (first | exact hp | refine List.Mem.tail _ ?_ | refine List.mem_append_right _ ?_)) (rowF (by rfl)) (by first | exact ints_at hkop | exact ints_at hk2op | exact bools_at hkwh | exact bools_at hk2wh) (by rfl) ?_
            | (refine SL_indexAddr_h (by decide) (by rfl) (by rfl) hso (by intro p hp; repeat (first | exact hp | refine List.Mem.tail _ ?_ | refine List.mem_append_right _ ?_)) (slF (by rfl)) _ (by first | rfl | exact (Int.toNat_of_nonneg (by omega)).symm) (by simp only [List.length_map]; omega) (fun pa hpa => ?_))
            | refine SL_len_v (by decide) (by rfl) (by assumption) (by rfl) (slF (by rfl)) (strs_len0 _) ?_
            | refine SC_seq ?_
            | refine SC_block ?_
            | refine SC_region ?_
            | refine SL_seq ?_
            | refine SL_run (by rfl) (by rfl) ?_
            | refine SL_not (by rfl) (by rfl) (by rfl) (by decide) ?_
            | refine SL_move (by decide) (by rfl) ?_
            | refine SL_assign (by decide) (by rfl) ?_
            | refine SL_pick_t (by decide) (by rfl) (by rfl) ?_
            | refine SL_pick_f (by decide) (by rfl) (by rfl) ?_
            | (refine SL_lss (by decide) (by rfl) (by rfl) (fun hT => ?_) (fun hT => ?_) <;> first | (exfalso; omega) | skip)
            | (refine SL_geq (by decide) (by rfl) (by rfl) (fun hT => ?_) (fun hT => ?_) <;> first | (exfalso; omega) | skip)
            | (refine SL_eql (by decide) (by rfl) (by rfl) (fun hT => ?_) (fun hT => ?_) <;> first | (exfalso; omega) | skip)
            | refine SC_draw (by kernel_rfl) ?_
            | refine SC_cond_t (by rfl) ?_
            | refine SC_cond_f (by rfl) ?_
            | (refine SC_skip' (fun tm σ hE hH => ?_); refine SC.app ?_ hE hH; clear hE hH; clear tm σ)
            | fail)
          all_goals refine SC_ret (fun tm σ hE hH => Post.intro (Hn := []) (.inr rfl) hE hH (by rfl) trivial List.nodup_nil (fun p hp => (by cases hp)) ?_)
          all_goals exact .inr ⟨fun h => hno (h.ok k hlt), rfl, rfl⟩
    · obtain rfl : k = xs.length := by omega
      by_cases hone : (byesN xs op xs.length).length ≤ 1
      · have hR : Right xs op wh := ⟨hlo, hlw, hoks, hone⟩
        have hne := hR.some h2
        cases o1 with
        | none => exact absurd (ho1.1 rfl) hne
        | some oid1 =>
          have hoid1 := hn1 oid1 rfl
          cases o2 with
          | none =>
            have hb0 := ho2.1 rfl
            have hl : linesP xs op wh = outsN xs op wh xs.length := by unfold linesP; rw [hb0]; simp
            dsimp only [outS, outH, List.nil_append, List.cons_append, strs]
            repeat' (first
              | refine SL_append_own_nil (by decide) (by rfl) (by rfl) (by repeat (first | exact .head _ | refine .tail _ ?_)) (by simp only [List.length_map]) (elF (by rfl)) (sliceOf_spec (slF (by rfl))).1 ?_
              | refine SC_seq ?_
              | refine SC_region ?_
              | refine SL_seq ?_
              | refine SL_move (by decide) (by rfl) ?_
              | refine SL_assign (by decide) (by rfl) ?_
              | (refine SL_lss (by decide) (by rfl) (by rfl) (fun hT => ?_) (fun hT => ?_) <;> first | (exfalso; omega) | skip)
              | (refine SL_gtr (by decide) (by rfl) (by rfl) (fun hT => ?_) (fun hT => ?_) <;> first | (exfalso; omega) | skip)
              | refine SL_len_0 (by decide) (by rfl) (by rfl) (sliceOf_spec (slF (by rfl))).1 ?_
              | refine SC_cond_f (by rfl) ?_
              | (refine SC_exit (fun tm σ hE hH => ?_); refine SC.app ?_ hE hH; clear hE hH; clear tm σ)
              | (refine SC_skip' (fun tm σ hE hH => ?_); refine SC.app ?_ hE hH; clear hE hH; clear tm σ)
              | fail)
            refine SC_ret (fun tm σ hE hH => Post.intro (Hn := [(oid1, _)]) (.inr rfl) hE hH (by rfl) ⟨(by repeat (first | exact .head _ | refine .tail _ ?_)), trivial⟩ (by simp) (fun p hp => by cases List.mem_singleton.1 hp; exact hoid1) ?_)
            exact .inl ⟨hR, oid1, by rw [hl]; rfl, by rw [hl]; rfl⟩
          | some oid2 =>
            have hoid2 := hn2 oid2 rfl
            obtain ⟨y, hy⟩ : ∃ y, byesN xs op xs.length = [y] := by
              match hb : byesN xs op xs.length, hone with
              | [], _ => exact absurd (ho2.2 hb) (by simp)
              | [y], _ => exact ⟨y, rfl⟩
            have hl : linesP xs op wh = outsN xs op wh xs.length ++ [y ++ endS] := by unfold linesP; rw [hy]; rfl
            rw [hy]
            dsimp only [outS, outH, List.nil_append, List.cons_append, strs, List.map_cons, List.map_nil, List.length_cons, List.length_nil]
            repeat' (first
              | refine SL_append1_own (by decide) (by rfl) (by rfl) (by repeat (first | exact .head | apply Upd.tail)) (by first | exact (List.length_map _).symm | simp only [List.length_map]) (by first | exact .inl (by assumption) | exact .inr (by simp)) (by repeat (first | exact .head _ | refine .tail _ ?_)) (elF (by rfl)) (sliceOf_spec (slF (by rfl))).1 (by rfl) (by first | omega | (simp only [List.length_map]; omega)) (by first | omega | (simp only [List.length_map]; omega)) (fun id hid => ?_)
              | refine SC_seq ?_
              | refine SC_region ?_
              | refine SL_seq ?_
              | refine SL_move (by decide) (by rfl) ?_
              | refine SL_assign (by decide) (by rfl) ?_
              | (refine SL_lss (by decide) (by rfl) (by rfl) (fun hT => ?_) (fun hT => ?_) <;> first | (exfalso; omega) | skip)
              | (refine SL_gtr (by decide) (by rfl) (by rfl) (fun hT => ?_) (fun hT => ?_) <;> first | (exfalso; omega) | skip)
              | refine SL_len_sl (by decide) (by rfl) (by rfl) (sliceOf_spec (slF (by rfl))).1 ?_
              | refine SC_cond_f (by rfl) ?_
              | (refine SC_exit (fun tm σ hE hH => ?_); refine SC.app ?_ hE hH; clear hE hH; clear tm σ)
              | (refine SC_skip' (fun tm σ hE hH => ?_); refine SC.app ?_ hE hH; clear hE hH; clear tm σ)
              | fail)
            refine SC_ret (fun tm σ hE hH => Post.intro (Hn := [(id, _)]) (.inr rfl) hE hH (by rfl) ⟨(by repeat (first | exact .head _ | refine .tail _ ?_)), trivial⟩ (by simp) (fun p hp => by cases List.mem_singleton.1 hp; omega) ?_)
            exact .inl ⟨hR, id, by rw [hl, List.length_append]; rfl, by rw [hl, strs, List.map_append]; rfl⟩
      · cases o2 with
        | none => exact absurd (by rw [ho2.1 rfl]; simp) hone
        | some oid2 =>
          dsimp only [outS]
          repeat' (first
            | refine SC_seq ?_
            | refine SC_region ?_
            | refine SL_seq ?_
            | refine SL_move (by decide) (by rfl) ?_
            | refine SL_assign (by decide) (by rfl) ?_
            | (refine SL_lss (by decide) (by rfl) (by rfl) (fun hT => ?_) (fun hT => ?_) <;> first | (exfalso; omega) | skip)
            | (refine SL_gtr (by decide) (by rfl) (by rfl) (fun hT => ?_) (fun hT => ?_) <;> first | (exfalso; omega) | skip)
            | refine SL_len_sl (by decide) (by rfl) (by rfl) (sliceOf_spec (slF (by rfl))).1 ?_
            | refine SC_cond_t (by rfl) ?_
            | refine SC_cond_f (by rfl) ?_
            | (refine SC_exit (fun tm σ hE hH => ?_); refine SC.app ?_ hE hH; clear hE hH; clear tm σ)
            | fail)
          refine SC_ret (fun tm σ hE hH => Post.intro (Hn := []) (.inr rfl) hE hH (by rfl) trivial List.nodup_nil (fun p hp => (by cases hp)) ?_)
          exact .inr ⟨fun h => hone h.one, rfl, rfl⟩
  · refine Fn_body (N := 119) (ho _ _) Tryz.func20 rfl rfl fun B => ?_
    repeat' (first
      | (refine SL_box (d := 3) (by decide) (by rfl) (cells_r _ _) (fun b3 hid3 => ?_))
      | refine SL_len_h (by decide) (by rfl) hsw (by rfl) (slF (by rfl)) (bools_len1 _) ?_
      | refine SL_len_h (by decide) (by rfl) hso (by rfl) (slF (by rfl)) (ints_len1 _) ?_
      | refine SL_len_v (by decide) (by rfl) (by assumption) (by rfl) (slF (by rfl)) (strs_len0 _) ?_
      | (refine SL_call (by decide) (by rfl) bd47 (by rfl) (by rfl) (h47) trivial List.nodup_nil ?_; rintro _ _ _ ⟨rfl, rfl⟩; rw [List.nil_append])
      | refine SC_seq ?_
      | refine SC_region ?_
      | refine SL_seq ?_
      | refine SL_run (by rfl) (by rfl) ?_
      | refine SL_not (by rfl) (by rfl) (by rfl) (by decide) ?_
      | refine SL_move (by decide) (by rfl) ?_
      | refine SL_assign (by decide) (by rfl) ?_
      | refine SL_pick_t (by decide) (by rfl) (by rfl) ?_
      | refine SL_pick_f (by decide) (by rfl) (by rfl) ?_
      | refine SL_not_op (by decide) (by rfl) ?_
      | (refine SL_neq (by decide) (by rfl) (by rfl) (fun hT => ?_) (fun hT => ?_) <;> first | (exfalso; omega) | skip)
      | refine SL_fieldAddr (by decide) (by rfl) (fldF (by rfl)) ?_
      | refine SL_load_o (by decide) (by rfl) (by repeat (first | exact .head _ | refine .tail _ ?_)) (rowF (by rfl)) (by first | assumption | rfl | exact ints_at hkop | exact ints_at hk2op | exact bools_at hkwh | exact bools_at hk2wh | exact strs_get _ hlt | exact strs_get _ hlt2) (by rfl) ?_
      | refine SC_cond_t (by rfl) ?_
      | fail)
    all_goals refine SC_ret (fun tm σ hE hH => Post.intro (Hn := []) (.inr rfl) hE hH (by rfl) trivial List.nodup_nil (fun p hp => (by cases hp)) ?_)
    all_goals exact .inr ⟨fun h => hlens ⟨h.lo, h.lw⟩, rfl, rfl⟩
end Go.Proofs.YtnhnlkljcfbhfaaGreatDoor
/- slices.Repeat of a list of one -2, walked. -/
namespace Go.Proofs.YtnhnlkljcfbhfaaGreatDoor
open Go Go.Ab
set_option maxRecDepth 100000
theorem bd83 : (Tryz.prog.funcs[83]?).map (·.body.isNone) = some false := by rw [Tryz.func83]; rfl
def fillR (n j : Nat) : List (List AV) := List.replicate j [AV.s (.int .i64 (-2))] ++ List.replicate (n - j) [AV.s (.int .i64 0)]
theorem fill_len {n j : Nat} (h : j ≤ n) : (fillR n j).length = n := by unfold fillR; rw [List.length_append, List.length_replicate, List.length_replicate]; omega
theorem fill_1 {n : Nat} (h : 1 ≤ n) : (List.replicate (n : Int).toNat [AV.s (.int .i64 0)]).take 0 ++ (([[AV.s (.int .i64 (-2))]].drop 0).take 1).take 1 ++ (List.replicate (n : Int).toNat [AV.s (.int .i64 0)]).drop (0 + 1) = fillR n 1 := by
  rw [Int.toNat_natCast, List.drop_replicate]
  rfl
theorem fill_j {n j : Nat} (h : j ≤ n) : (fillR n j).take j ++ (((fillR n j).drop 0).take j).take (min j (n - j)) ++ (fillR n j).drop (j + min j (n - j)) = fillR n (j + min j (n - j)) := by
  have h1 : (fillR n j).take j = List.replicate j [AV.s (.int .i64 (-2))] := by
    unfold fillR
    rw [List.take_append_of_le_length (by rw [List.length_replicate]; exact Nat.le_refl _), List.take_of_length_le (by rw [List.length_replicate]; exact Nat.le_refl _)]
  have h2 : (fillR n j).drop (j + min j (n - j)) = List.replicate (n - (j + min j (n - j))) [AV.s (.int .i64 0)] := by
    unfold fillR
    rw [List.drop_append, List.drop_replicate, List.drop_replicate, List.length_replicate]
    rw [show j - (j + min j (n - j)) = 0 by omega, show n - j - (j + min j (n - j) - j) = n - (j + min j (n - j)) by omega]
    rfl
  rw [List.drop_zero, h1, h2, List.take_replicate]
  unfold fillR
  rw [List.replicate_append_replicate, show min (min j (n - j)) j = min j (n - j) by omega]
theorem fill_cells (n j k : Nat) : (((fillR n j).drop 0).take k).all (·.all isCell) = true := by
  rw [List.all_eq_true]
  intro r hr
  have := List.mem_of_mem_drop (List.mem_of_mem_take hr)
  unfold fillR at this
  rw [List.mem_append, List.mem_replicate, List.mem_replicate] at this
  rcases this with ⟨_, rfl⟩ | ⟨_, rfl⟩ <;> rfl
theorem k3_145 : kinds2 Tryz.prog 3 145 = some (.i64, .u64) := by kernel_rfl
theorem k145_3 : kinds2 Tryz.prog 145 3 = some (.u64, .i64) := by kernel_rfl
attribute [local irreducible] SC SL wpc wpl wpd wpf wpy wpn FnC FnW RdW SD SI
set_option pp.deepTerms false
set_option pp.maxSteps 900
set_option maxHeartbeats 4000000
theorem repeat_fn {G : Gl} {n xid : Nat} (hn1 : 1 ≤ n) (hn2 : n ≤ 100) (ho : ∀ x y, G.orc 48 [x, y] = none) (h83 : FnC Tryz.prog G 83 [.s (.int .u64 1), .s (.int .u64 n)] [] (fun v Hn => v = .s (.tuple #[.int .u64 0, .int .u64 n]) ∧ Hn = [])) :
    FnC Tryz.prog G 48 [.sl xid 0 1 none, .s (.int .i64 n)] [(xid, .cells 3 1 true [[.s (.int .i64 (-2))]])] (fun v Hn => ∃ id, v = .sl id 0 n none ∧ Hn = [(id, .cells 3 1 true (fillR n n))]) := by
  refine Fn_body (N := 48) (ho _ _) Tryz.func48 rfl rfl fun B => ?_
  repeat' (first
    | (refine SL_copy (rows' := fillR n 1) (by decide) (by rfl) (by rfl) (.tail _ (.head _)) (.head _) (slF (by rfl)) (by show 0 + 1 ≤ 1; decide) (by show 0 + n ≤ (List.replicate n _).length; rw [List.length_replicate]; omega) (by rfl) 1 (by omega) (fill_1 hn1) (by repeat (first | exact .head | apply Upd.tail)) (.inl hrid) ?_)
    | (refine SL_conv (by decide) (by rfl) k145_3 (IntWalk.i64_in _ ⟨by omega, by omega⟩) ?_)
    | (refine SL_conv (by decide) (by rfl) k3_145 (IntWalk.u64_in _ ⟨by omega, by omega⟩) ?_)
    | (refine SL_makeSlice (by decide) (by rfl) (by rfl) (elF (by rfl)) (by omega) (by omega) (by omega) (by omega) (fun rid hrid => ?_))
    | refine SL_len_sl (by decide) (by rfl) (by rfl) (sliceOf_spec (slF (by rfl))).1 ?_
    | (refine SL_call (by decide) (by rfl) bd83 (by rfl) (by rfl) (h83) trivial List.nodup_nil ?_; rintro _ _ _ ⟨rfl, rfl⟩; rw [List.nil_append])
    | refine SC_seq ?_
    | refine SC_block ?_
    | refine SC_region ?_
    | refine SL_seq ?_
    | refine SL_run (by rfl) (by rfl) ?_
    | refine SL_move (by decide) (by rfl) ?_
    | refine SL_assign (by decide) (by rfl) ?_
    | refine SL_pick_f (by decide) (by rfl) (by rfl) ?_
    | (refine SL_lss (by decide) (by rfl) (by rfl) (fun hT => ?_) (fun hT => ?_) <;> first | (exfalso; omega) | skip)
    | (refine SL_gtr (by decide) (by rfl) (by rfl) (fun hT => ?_) (fun hT => ?_) <;> first | (exfalso; omega) | skip)
    | refine SL_extract_s (by decide) (by rfl) (by rfl) ?_
    | refine SC_cond_f (by rfl) ?_
    | (refine SC_skip' (fun tm σ hE hH => ?_); refine SC.app ?_ hE hH; clear hE hH; clear tm σ)
    | fail)
  refine SC_nd fun hnd => ?_
  refine SC_loop (fun j : Nat => [(7, .sl rid 0 n none), (8, .s (.int .i64 j))]) (fun j => [(rid, AObj.cells 3 1 true (fillR n j)), (xid, AObj.cells 3 1 true [[AV.s (.int .i64 (-2))]])]) (fun _ => []) (fun j => 1 ≤ j ∧ j ≤ n) (fun j => n - j) 1 ⟨by omega, by omega⟩ ⟨rfl, rfl, trivial⟩ (.of_mem fun p hp => hp) hnd rfl ?_
  rintro j ⟨hj1, hj2⟩
  by_cases hlt : j < n
  ·
    repeat' (first
      | (refine SL_copy (rows' := fillR n (j + min j (n - j))) (by decide) (by rfl) (by rfl) (.head _) (.head _) (slF (by rfl)) (by rw [fill_len (by omega)]; omega) (by rw [fill_len (by omega)]; omega) (fill_cells _ _ _) (min j (n - j)) (by omega) (fill_j (by omega)) (by repeat (first | exact .head | apply Upd.tail)) (.inr (by simp)) ?_)
      | (refine SL_slice_to (h := j) (by decide) (by rfl) (.head _) (slF (by rfl)) (fill_len (by omega)) (by rfl) (by rfl) (by omega) (by omega) ?_)
      | (refine SL_slice_from (l := j) (by decide) (by rfl) (.head _) (slF (by rfl)) (fill_len (by omega)) (by rfl) (by rfl) (by omega) ?_)
      | refine SL_len_sl (by decide) (by rfl) (by rfl) (sliceOf_spec (slF (by rfl))).1 ?_
      | (refine SI_opX (o := ⟨_, .call _, _, _, _, _⟩) rid (.inl hrid) hridb (by rfl) ?_)
      | (refine SC_drawK (id := 9) (by kernel_rfl) (fun B2 base hBB hold => ?_); have hridb : rid < base := hold (rid, _) (.head _))
      | refine SC_seq ?_
      | refine SC_block ?_
      | refine SC_region ?_
      | refine SL_seq ?_
      | refine SL_move (by decide) (by rfl) ?_
      | refine SL_assign (by decide) (by rfl) ?_
      | refine SL_add (by decide) (by rfl) (by rfl) (by omega) (by omega) ?_
      | (refine SL_lss (by decide) (by rfl) (by rfl) (fun hT => ?_) (fun hT => ?_) <;> first | (exfalso; omega) | skip)
      | refine SC_cond_t (by rfl) ?_
      | (refine SC_skip' (fun tm σ hE hH => ?_); refine SC.app ?_ hE hH; clear hE hH; clear tm σ)
      | refine SI_op (by rfl) ?_
      | (refine SL_nil (fun tm σ hE hH => ⟨tm, σ, _, _, rfl, hE, hH, ?_⟩); clear hE hH; clear tm σ)
      | fail)
    refine SI_nil fun tm σ hE hH => ⟨j + min j (n - j), by omega, ⟨by omega, by omega⟩, tm, σ, rfl, hE.sub ⟨rfl, ?_, trivial⟩, hH⟩
    exact congrArg (fun z => some (AV.s (Value.int .i64 z))) (Int.natCast_add j (min j (n - j))).symm
  · obtain rfl : j = n := by omega
    repeat' (first
      | refine SL_len_sl (by decide) (by rfl) (by rfl) (sliceOf_spec (slF (by rfl))).1 ?_
      | refine SC_seq ?_
      | refine SC_region ?_
      | refine SL_seq ?_
      | refine SL_move (by decide) (by rfl) ?_
      | refine SL_assign (by decide) (by rfl) ?_
      | (refine SL_lss (by decide) (by rfl) (by rfl) (fun hT => ?_) (fun hT => ?_) <;> first | (exfalso; omega) | skip)
      | refine SC_cond_f (by rfl) ?_
      | (refine SC_exit (fun tm σ hE hH => ?_); refine SC.app ?_ hE hH; clear hE hH; clear tm σ)
      | fail)
    refine SC_ret (fun tm σ hE hH => Post.intro (Hn := [(rid, _)]) (.inr rfl) hE hH (by rfl) ⟨.head _, trivial⟩ (by simp) (fun p hp => by cases List.mem_singleton.1 hp; exact hrid) ⟨rid, rfl, rfl⟩)
end Go.Proofs.YtnhnlkljcfbhfaaGreatDoor
/- slices.Equal of lists of strings, own ones or such as came in. -/
namespace Go.Proofs.YtnhnlkljcfbhfaaGreatDoor
open Go Go.Ab
set_option maxRecDepth 100000
theorem bd50 : (Tryz.prog.funcs[50]?).map (·.body.isNone) = some false := by rw [Tryz.func50]; rfl
attribute [local irreducible] SC SL wpc wpl wpd wpf wpy wpn FnC FnW RdW SD SI
set_option pp.deepTerms false
set_option pp.maxSteps 900
set_option maxHeartbeats 4000000
theorem equal_fn {G : Gl} {H0 : List (Nat × AObj)} (hnd0 : (H0.map (·.1)).Nodup) {xs ys : List ByteArray} {v1 v2 : AV} (hs1 : SlH H0 1 v1 (xs.map fun x => [.s (.string x)])) (hs2 : SlH H0 1 v2 (ys.map fun x => [.s (.string x)])) (hb1 : xs.length ≤ 9223372036854775807) (hb2 : ys.length ≤ 9223372036854775807) (ho : ∀ x y, G.orc 50 [x, y] = none) :
    FnC Tryz.prog G 50 [v1, v2] H0 (fun v Hn => ((v = .s (.bool true) ∧ xs = ys) ∨ (v = .s (.bool false) ∧ xs ≠ ys)) ∧ Hn = []) := by
  by_cases hl : xs.length = ys.length
  · refine Fn_body (N := 26) (ho _ _) Tryz.func50 rfl rfl fun B => ?_
    repeat' (first
      | refine SL_len_h (by decide) (by rfl) hs2 (by rfl) (slF (by rfl)) (strs_len0 _) ?_
      | refine SL_len_h (by decide) (by rfl) hs1 (by rfl) (slF (by rfl)) (strs_len0 _) ?_
      | refine SC_seq ?_
      | refine SC_block ?_
      | refine SC_region ?_
      | refine SL_seq ?_
      | refine SL_move (by decide) (by rfl) ?_
      | refine SL_assign (by decide) (by rfl) ?_
      | (refine SL_neq (by decide) (by rfl) (by rfl) (fun hT => ?_) (fun hT => ?_) <;> first | (exfalso; omega) | skip)
      | refine SC_cond_f (by rfl) ?_
      | (refine SC_skip' (fun tm σ hE hH => ?_); refine SC.app ?_ hE hH; clear hE hH; clear tm σ)
      | fail)
    refine SC_loop (fun k : Nat => [(0, v1), (1, v2), (12, .s (.int .i64 xs.length)), (13, .s (.int .i64 k))]) (fun _ => H0) (fun _ => []) (fun k => k ≤ xs.length ∧ ∀ i, (h : i < xs.length) → (h' : i < ys.length) → i < k → xs[i] = ys[i]) (fun k => xs.length - k) 0 ⟨by omega, fun i _ _ h => by omega⟩ ⟨rfl, rfl, rfl, rfl, trivial⟩ (.refl _) hnd0 rfl ?_
    rintro k ⟨hk, heq⟩
    by_cases hlt : k < xs.length
    · have hlt2 : k < ys.length := by omega
      by_cases he : xs[k] = ys[k]
      ·
        repeat' (first
          | (refine SL_sneq (by decide) (by rfl) (by rfl) (fun hS => ?_) (fun hS => ?_) <;> first | (exact absurd (by assumption) hS) | (exact absurd hS (by assumption)) | skip)
          | refine SL_load_h (by decide) (by rfl) (by assumption) (fun p hp => hp) (rowF (by rfl)) (by first | exact strs_get _ hlt | exact strs_get _ hlt2) (by rfl) ?_
          | (refine SL_indexAddr_h (by decide) (by rfl) (by rfl) hs2 (fun p hp => hp) (slF (by rfl)) _ (by first | rfl | exact (Int.toNat_of_nonneg (by omega)).symm) (by simp only [List.length_map]; omega) (fun pa hpa => ?_))
          | (refine SL_indexAddr_h (by decide) (by rfl) (by rfl) hs1 (fun p hp => hp) (slF (by rfl)) _ (by first | rfl | exact (Int.toNat_of_nonneg (by omega)).symm) (by simp only [List.length_map]; omega) (fun pa hpa => ?_))
          | refine SC_seq ?_
          | refine SC_block ?_
          | refine SC_region ?_
          | refine SL_seq ?_
          | refine SL_move (by decide) (by rfl) ?_
          | refine SL_assign (by decide) (by rfl) ?_
          | refine SL_add (by decide) (by rfl) (by rfl) (by omega) (by omega) ?_
          | (refine SL_lss (by decide) (by rfl) (by rfl) (fun hT => ?_) (fun hT => ?_) <;> first | (exfalso; omega) | skip)
          | refine SC_draw (by kernel_rfl) ?_
          | refine SC_cond_t (by rfl) ?_
          | refine SC_cond_f (by rfl) ?_
          | (refine SC_skip' (fun tm σ hE hH => ?_); refine SC.app ?_ hE hH; clear hE hH; clear tm σ)
          | fail)
        refine SL_nil fun tm σ hE hH => ⟨k + 1, by omega, ⟨by omega, fun i h1 h2 h3 => ?_⟩, tm, σ, rfl, hE.sub ⟨rfl, rfl, rfl, rfl, trivial⟩, hH⟩
        by_cases hik : i = k
        · subst hik; exact he
        · exact heq i h1 h2 (by omega)
      · have hne : xs ≠ ys := by
          intro e
          subst e
          exact he rfl
        repeat' (first
          | (refine SL_sneq (by decide) (by rfl) (by rfl) (fun hS => ?_) (fun hS => ?_) <;> first | (exact absurd (by assumption) hS) | (exact absurd hS (by assumption)) | skip)
          | refine SL_load_h (by decide) (by rfl) (by assumption) (fun p hp => hp) (rowF (by rfl)) (by first | exact strs_get _ hlt | exact strs_get _ hlt2) (by rfl) ?_
          | (refine SL_indexAddr_h (by decide) (by rfl) (by rfl) hs2 (fun p hp => hp) (slF (by rfl)) _ (by first | rfl | exact (Int.toNat_of_nonneg (by omega)).symm) (by simp only [List.length_map]; omega) (fun pa hpa => ?_))
          | (refine SL_indexAddr_h (by decide) (by rfl) (by rfl) hs1 (fun p hp => hp) (slF (by rfl)) _ (by first | rfl | exact (Int.toNat_of_nonneg (by omega)).symm) (by simp only [List.length_map]; omega) (fun pa hpa => ?_))
          | refine SC_seq ?_
          | refine SC_block ?_
          | refine SC_region ?_
          | refine SL_seq ?_
          | refine SL_move (by decide) (by rfl) ?_
          | refine SL_assign (by decide) (by rfl) ?_
          | (refine SL_lss (by decide) (by rfl) (by rfl) (fun hT => ?_) (fun hT => ?_) <;> first | (exfalso; omega) | skip)
          | refine SC_draw (by kernel_rfl) ?_
          | refine SC_cond_t (by rfl) ?_
          | (refine SC_skip' (fun tm σ hE hH => ?_); refine SC.app ?_ hE hH; clear hE hH; clear tm σ)
          | fail)
        refine SC_ret (fun tm σ hE hH => Post.intro (Hn := []) (.inr rfl) hE hH (by rfl) trivial List.nodup_nil (fun p hp => (by cases hp)) ?_)
        exact ⟨.inr ⟨rfl, hne⟩, rfl⟩
    · have he : xs = ys := List.ext_getElem hl fun i h1 h2 => heq i h1 h2 (by omega)
      repeat' (first
        | refine SC_seq ?_
        | refine SC_region ?_
        | refine SL_seq ?_
        | refine SL_assign (by decide) (by rfl) ?_
        | (refine SL_lss (by decide) (by rfl) (by rfl) (fun hT => ?_) (fun hT => ?_) <;> first | (exfalso; omega) | skip)
        | refine SC_cond_f (by rfl) ?_
        | (refine SC_exit (fun tm σ hE hH => ?_); refine SC.app ?_ hE hH; clear hE hH; clear tm σ)
        | fail)
      refine SC_ret (fun tm σ hE hH => Post.intro (Hn := []) (.inr rfl) hE hH (by rfl) trivial List.nodup_nil (fun p hp => (by cases hp)) ?_)
      exact ⟨.inl ⟨rfl, he⟩, rfl⟩
  · have hne : xs ≠ ys := fun e => hl (by rw [e])
    refine Fn_body (N := 26) (ho _ _) Tryz.func50 rfl rfl fun B => ?_
    repeat' (first
      | refine SL_len_h (by decide) (by rfl) hs2 (by rfl) (slF (by rfl)) (strs_len0 _) ?_
      | refine SL_len_h (by decide) (by rfl) hs1 (by rfl) (slF (by rfl)) (strs_len0 _) ?_
      | refine SC_seq ?_
      | refine SC_region ?_
      | refine SL_seq ?_
      | refine SL_move (by decide) (by rfl) ?_
      | refine SL_assign (by decide) (by rfl) ?_
      | (refine SL_neq (by decide) (by rfl) (by rfl) (fun hT => ?_) (fun hT => ?_) <;> first | (exfalso; omega) | skip)
      | refine SC_cond_t (by rfl) ?_
      | fail)
    refine SC_ret (fun tm σ hE hH => Post.intro (Hn := []) (.inr rfl) hE hH (by rfl) trivial List.nodup_nil (fun p hp => (by cases hp)) ?_)
    exact ⟨.inr ⟨rfl, hne⟩, rfl⟩
end Go.Proofs.YtnhnlkljcfbhfaaGreatDoor
/- Points of the program. -/
namespace Go.Proofs.YtnhnlkljcfbhfaaGreatDoor
open Go Go.Ab
set_option maxRecDepth 100000
attribute [local irreducible] SC SL wpc wpl wpd wpf wpy wpn FnC FnW RdW SD
set_option pp.deepTerms false
set_option pp.maxSteps 900
set_option maxHeartbeats 2000000
theorem Points_t {G : Gl} (ho : ∀ a, G.orc 14 [a] = none) (h40 : Dec G 40) (n : Int) (s : ByteArray) (h : pts n = some s) : FnC Tryz.prog G 14 [.s (.int .i64 n)] [] (fun v Hn => v = .s (.tuple #[.string s, .int .i64 0]) ∧ Hn = []) := by
  unfold Dec at h40
  unfold pts at h
  split at h
  · cases h
  · rename_i hr
    cases h
    rcases Int.emod_two_eq n with hm | hm
    · refine Fn_body (N := 18) (ho _) Tryz.func14 rfl rfl fun B => ?_
      repeat' (first
        | (refine SD_nil (fun tm σ hE hH => ⟨_, _, _, _, _, rfl, hE, hH, fun q hq => (by cases hq), ?_⟩); clear hE hH; clear tm σ; intro tm σ hE hH; refine SC.app ?_ hE hH; clear hE hH; clear tm σ)
        | (refine SL_call (by decide) (by rfl) bd40 (by rfl) (by rfl) (h40 _ (by omega) (by omega)) trivial List.nodup_nil ?_; rintro _ _ _ ⟨rfl, rfl⟩; rw [List.nil_append])
        | refine SL_pure (v := .s (.string ⟨#[46, 48]⟩)) [(13, .s (.agg #[.string ⟨#[46, 48]⟩, .string ⟨#[46, 53]⟩])), (15, .s (.int .i64 0))] (by decide) ⟨rfl, rfl, trivial⟩ (by rfl) (fun tm σ h1 => by unfold eff; simp only [effIndexOp, h1.ev (x := .tmp 13) rfl]) (fun _ _ h => by cases h) (ix92_0 _ _ _) ?_
        | refine SL_build (by decide) (by rfl) b92 ?_
        | refine SL_cat (by decide) (by rfl) (by rfl) (catOk (by first | exact decI_le _ | exact Nat.le_of_ble_eq_true (by rfl)) (by first | exact decI_le _ | exact Nat.le_of_ble_eq_true (by rfl))) ?_
        | refine SL_quo (by decide) (by rfl) (by rfl) (by omega) (by omega) (by decide) ?_
        | refine SL_remV (r := 0) (by decide) (by rfl) (by rfl) (by omega) (by decide) (by omega) ?_
        | (refine SC_drawn (id := 3) (pl := [(0, []), (1, []), (3, []), (4, []), (5, []), (6, []), (2, []), (7, []), (8, []), (9, [])]) (by kernel_rfl) (by kernel_rfl) ?_; intro B' base hb1 hb2 hb3 hb4)
        | refine SC_seq ?_
        | refine SC_region ?_
        | refine SL_seq ?_
        | refine SL_run (by rfl) (by rfl) ?_
        | refine SL_move (by decide) (by rfl) ?_
        | refine SL_assign (by decide) (by rfl) ?_
        | refine SL_pick_f (by decide) (by rfl) (by rfl) ?_
        | (refine SL_lss (by decide) (by rfl) (by rfl) (fun hT => ?_) (fun hT => ?_) <;> first | (exfalso; omega) | skip)
        | (refine SL_gtr (by decide) (by rfl) (by rfl) (fun hT => ?_) (fun hT => ?_) <;> first | (exfalso; omega) | skip)
        | refine SC_cond_f (by rfl) ?_
        | (refine SC_skip' (fun tm σ hE hH => ?_); refine SC.app ?_ hE hH; clear hE hH; clear tm σ)
        | refine SC_ret (fun tm σ hE hH => Post.intro (Hn := []) (.inr rfl) hE hH (by rfl) trivial List.nodup_nil (fun p hp => (by cases hp)) ?_)
        | (refine SL_nil (fun tm σ hE hH => ⟨_, _, _, _, rfl, hE, hH, ?_⟩); clear hE hH; clear tm σ)
        | refine SD_op _ [] (by rfl) (by rfl) (fun _ h => h) (fun p hp => by cases hp) (fun k hk => by cases hk) (.inl rfl) ?_
        | fail)
      exact ⟨by rw [hm]; rfl, rfl⟩
    · refine Fn_body (N := 18) (ho _) Tryz.func14 rfl rfl fun B => ?_
      repeat' (first
        | (refine SD_nil (fun tm σ hE hH => ⟨_, _, _, _, _, rfl, hE, hH, fun q hq => (by cases hq), ?_⟩); clear hE hH; clear tm σ; intro tm σ hE hH; refine SC.app ?_ hE hH; clear hE hH; clear tm σ)
        | (refine SL_call (by decide) (by rfl) bd40 (by rfl) (by rfl) (h40 _ (by omega) (by omega)) trivial List.nodup_nil ?_; rintro _ _ _ ⟨rfl, rfl⟩; rw [List.nil_append])
        | refine SL_pure (v := .s (.string ⟨#[46, 53]⟩)) [(13, .s (.agg #[.string ⟨#[46, 48]⟩, .string ⟨#[46, 53]⟩])), (15, .s (.int .i64 1))] (by decide) ⟨rfl, rfl, trivial⟩ (by rfl) (fun tm σ h1 => by unfold eff; simp only [effIndexOp, h1.ev (x := .tmp 13) rfl]) (fun _ _ h => by cases h) (ix92_1 _ _ _) ?_
        | refine SL_build (by decide) (by rfl) b92 ?_
        | refine SL_cat (by decide) (by rfl) (by rfl) (catOk (by first | exact decI_le _ | exact Nat.le_of_ble_eq_true (by rfl)) (by first | exact decI_le _ | exact Nat.le_of_ble_eq_true (by rfl))) ?_
        | refine SL_quo (by decide) (by rfl) (by rfl) (by omega) (by omega) (by decide) ?_
        | refine SL_remV (r := 1) (by decide) (by rfl) (by rfl) (by omega) (by decide) (by omega) ?_
        | (refine SC_drawn (id := 3) (pl := [(0, []), (1, []), (3, []), (4, []), (5, []), (6, []), (2, []), (7, []), (8, []), (9, [])]) (by kernel_rfl) (by kernel_rfl) ?_; intro B' base hb1 hb2 hb3 hb4)
        | refine SC_seq ?_
        | refine SC_region ?_
        | refine SL_seq ?_
        | refine SL_run (by rfl) (by rfl) ?_
        | refine SL_move (by decide) (by rfl) ?_
        | refine SL_assign (by decide) (by rfl) ?_
        | refine SL_pick_f (by decide) (by rfl) (by rfl) ?_
        | (refine SL_lss (by decide) (by rfl) (by rfl) (fun hT => ?_) (fun hT => ?_) <;> first | (exfalso; omega) | skip)
        | (refine SL_gtr (by decide) (by rfl) (by rfl) (fun hT => ?_) (fun hT => ?_) <;> first | (exfalso; omega) | skip)
        | refine SC_cond_f (by rfl) ?_
        | (refine SC_skip' (fun tm σ hE hH => ?_); refine SC.app ?_ hE hH; clear hE hH; clear tm σ)
        | refine SC_ret (fun tm σ hE hH => Post.intro (Hn := []) (.inr rfl) hE hH (by rfl) trivial List.nodup_nil (fun p hp => (by cases hp)) ?_)
        | (refine SL_nil (fun tm σ hE hH => ⟨_, _, _, _, rfl, hE, hH, ?_⟩); clear hE hH; clear tm σ)
        | refine SD_op _ [] (by rfl) (by rfl) (fun _ h => h) (fun p hp => by cases hp) (fun k hk => by cases hk) (.inl rfl) ?_
        | fail)
      exact ⟨by rw [hm]; rfl, rfl⟩
theorem Points_f {G : Gl} (ho : ∀ a, G.orc 14 [a] = none) (n : Int) (h : pts n = none) : FnC Tryz.prog G 14 [.s (.int .i64 n)] [] (fun v Hn => v = .s (.tuple #[.string ⟨#[]⟩, .int .i64 2]) ∧ Hn = []) := by
  unfold pts at h
  split at h
  · rename_i hr
    rcases hr with hr | hr
    · refine Fn_body (N := 18) (ho _) Tryz.func14 rfl rfl fun B => ?_
      repeat' (first
        | refine SC_seq ?_
        | refine SC_region ?_
        | refine SL_seq ?_
        | refine SL_not (by rfl) (by rfl) (by rfl) (by decide) ?_
        | refine SL_move (by decide) (by rfl) ?_
        | refine SL_assign (by decide) (by rfl) ?_
        | refine SL_pick_t (by decide) (by rfl) (by rfl) ?_
        | (refine SL_lss (by decide) (by rfl) (by rfl) (fun hT => ?_) (fun hT => ?_) <;> first | (exfalso; omega) | skip)
        | refine SC_cond_t (by rfl) ?_
        | refine SC_ret (fun tm σ hE hH => Post.intro (Hn := []) (.inr rfl) hE hH (by rfl) trivial List.nodup_nil (fun p hp => (by cases hp)) ?_)
        | fail)
      exact ⟨rfl, rfl⟩
    · refine Fn_body (N := 18) (ho _) Tryz.func14 rfl rfl fun B => ?_
      repeat' (first
        | refine SC_seq ?_
        | refine SC_region ?_
        | refine SL_seq ?_
        | refine SL_run (by rfl) (by rfl) ?_
        | refine SL_move (by decide) (by rfl) ?_
        | refine SL_assign (by decide) (by rfl) ?_
        | refine SL_pick_f (by decide) (by rfl) (by rfl) ?_
        | (refine SL_lss (by decide) (by rfl) (by rfl) (fun hT => ?_) (fun hT => ?_) <;> first | (exfalso; omega) | skip)
        | (refine SL_gtr (by decide) (by rfl) (by rfl) (fun hT => ?_) (fun hT => ?_) <;> first | (exfalso; omega) | skip)
        | refine SC_cond_t (by rfl) ?_
        | refine SC_ret (fun tm σ hE hH => Post.intro (Hn := []) (.inr rfl) hE hH (by rfl) trivial List.nodup_nil (fun p hp => (by cases hp)) ?_)
        | fail)
      exact ⟨rfl, rfl⟩
  · cases h
end Go.Proofs.YtnhnlkljcfbhfaaGreatDoor
/- ParsePoints and ParseValue: what they read has the text that they were given. -/
namespace Go.Ab
section rules
variable {P : Program} {G : Gl} {B : AS} {W : List Nat} {ops : Array Oper} {os : List Oper} {L : List (Nat × AV)} {N : Nat} {ds : List Nat} {H : List (Nat × AObj)} {Q : Cfg → Prop} {ty : TypeId} {pos : String} {af : Array Edge} {d : Nat}
theorem SL_ifcnil {t yt tt : TypeId} {x y : Operand} {u : AV} {ms : Array (String × TypeId)} (hd : d < N) (hx : evL G L x = some (.ifc tt u)) (hy : evL G L y = some (.s .nilIface)) (ht : P.underlying t = some (.interface ms)) (k : SL P G B W ops os ((d, .s (.bool false)) :: L) N ds H Q) :
    SL P G B W ops (⟨some d, .binOp .eql t x y yt, ty, pos, af, none⟩ :: os) L N ds H Q :=
  SL_val (.s (.bool false)) hd (fun tm σ h1 h2 => by unfold eff; simp only [effBin, h1.ev hx, h1.ev hy, effEq, ht]; rfl) k
end rules
/-- A function's end where the first result is a cell of its own. -/
theorem Post.introC {P : Program} {B : AS} {fn : Func} {R : AV → List (Nat × AObj) → Prop} {e : AEx} {tm : Tm} {N : Nat} {L : List (Nat × AV)} {σ : AS} {H Hn : List (Nat × AObj)} {ds : List Nat} {a b id es i f n : Nat} {t el : TypeId} {ex : Bool} {rows : List (List AV)} {row : List AV} {v u : AV} (he : e = .normal ∨ e = .ret) (h1 : En tm N L) (h2 : He B [] σ H ds)
    (hfr : fn.results.toList = [.cell a t, .tmp b]) (ha : lk L a = some (.ptr id i f)) (hb : lk L b = some u) (hm : (id, AObj.cells el es ex rows) ∈ H) (ht : rowN P t = some (some n)) (hr : rows[i]? = some row) (hf : f + n ≤ row.length) (hv : mkAgg ((row.drop f).take n) = v)
    (hs : SubH Hn H) (hn : (Hn.map (·.1)).Nodup) (hB : ∀ p ∈ Hn, B.next ≤ p.1) (hR : R (tupled [v, u]) Hn) : Post P B fn R e ⟨tm, ds, σ⟩ := by
  obtain ⟨σ', h3, h4⟩ := h2.drop
  refine ⟨he, σ', tupled [v, u], h3, ?_, Hn, h4.sub hs hn, hB, hR⟩
  unfold aresults
  rw [hfr]
  simp only [aresultL, aresult, h1.get _ _ ha, h1.get _ _ hb, effLoad, rows_of (h4.get _ hm), hr, Option.bind_some, readAt_row ht row f hf, hv]
  rfl
theorem bl_of {P : Program} {g : FuncId} (h : (P.funcs[g]?).map (·.body.isNone) = some false) : bodyless P (.s (.func (.func g) #[] #[])) = false := by
  cases hp : P.funcs[g]? with
  | none => simp only [bodyless, hp]
  | some fn => rw [hp] at h; simp at h; simp [bodyless, hp, h]
end Go.Ab
namespace Go.Proofs.YtnhnlkljcfbhfaaGreatDoor
open Go Go.Ab
set_option maxRecDepth 100000
theorem bd43 : (Tryz.prog.funcs[43]?).map (·.body.isNone) = some false := by rw [Tryz.func43]; rfl
theorem bd44 : (Tryz.prog.funcs[44]?).map (·.body.isNone) = some false := by rw [Tryz.func44]; rfl
theorem nil97 (x : Operand) : evalP Tryz.prog (do eqGuard .eql 97 x (.const .nilIface) .nilIface .nilIface; binOp .eql 97 .nilIface .nilIface) = some (.bool true) := by cases x <;> kernel_rfl
theorem b40n (n : Int) : effBuild Tryz.prog 40 [(0, .s (.int .i64 1)), (1, .s (.int .i64 n))] = some (.s (.agg #[.int .i64 1, .int .i64 n])) := by kernel_rfl
theorem min23 (n : Int) (ty : TypeId) (pos : String) (af : Array Edge) : effPure Tryz.prog ⟨some 23, .call ⟨.builtin .min, #[.tmp 22, .const (.int .i64 2000)], #[3, 3]⟩, ty, pos, af, none⟩ (evC [(22, .s (.int .i64 n))]) = some (.s (.int .i64 (if 2000 < n then 2000 else n))) := by kernel_rfl
theorem min29 (n : Int) (ty : TypeId) (pos : String) (af : Array Edge) : effPure Tryz.prog ⟨some 29, .call ⟨.builtin .min, #[.tmp 28, .const (.int .i64 2000)], #[3, 3]⟩, ty, pos, af, none⟩ (evC [(28, .s (.int .i64 n))]) = some (.s (.int .i64 (if 2000 < n then 2000 else n))) := by kernel_rfl
attribute [local irreducible] SC SL wpc wpl wpd wpf wpy wpn FnC FnW RdW SD
set_option pp.deepTerms false
set_option pp.maxSteps 900
set_option maxHeartbeats 2000000
/-- What Atoi gives, as far as it matters here. -/
def Atoi (v : AV) : Prop := ∃ n : Int, v = .s (.tuple #[.int .i64 n, .nilIface]) ∨ ∃ id, v = .tup [.s (.int .i64 n), .ifc 178 (.ptr id 0 0)]
theorem read42 {G : Gl} (ho : ∀ a, G.orc 42 [a] = none) {s x y : ByteArray} {b : Bool} (hcut : FnC Tryz.prog G 43 [.s (.string s), .s (.string ⟨#[46]⟩)] [] (fun v Hn => v = .s (.tuple #[.string x, .string y, .bool b]) ∧ Hn = [])) (hatoi : FnC Tryz.prog G 44 [.s (.string x)] [] (fun v Hn => Atoi v ∧ Hn = [])) :
    FnC Tryz.prog G 42 [.s (.string s)] [] (fun v Hn => (∃ n b, v = .s (.tuple #[.int .i64 n, .bool b])) ∧ Hn = []) := by
  unfold Atoi at hatoi
  refine Fn_body (N := 33) (ho _) Tryz.func42 rfl rfl fun B => ?_
  repeat' (first
    | (refine SD_nil (fun tm σ hE hH => ⟨_, _, _, _, _, rfl, hE, hH, (fun q hq => by first | (cases hq; done) | (rw [List.mem_singleton] at hq; subst hq; exact .inl hid2)), ?_⟩); clear hE hH; clear tm σ; intro tm σ hE hH; refine SC.app ?_ hE hH; clear hE hH; clear tm σ)
    | (refine SL_call (by decide) (by rfl) bd44 (by rfl) (by rfl) hatoi trivial List.nodup_nil ?_; rintro _ _ _ ⟨⟨nn, hv⟩, rfl⟩; rw [List.nil_append]; rcases hv with rfl | ⟨eid, rfl⟩)
    | (refine SL_call (by decide) (by rfl) bd43 (by rfl) (by rfl) hcut trivial List.nodup_nil ?_; rintro _ _ _ ⟨rfl, rfl⟩; rw [List.nil_append])
    | refine SL_fast (o := .add) (by decide) (by rfl) (by rfl) (by rfl) ?_
    | refine SL_fast (o := .mul) (by decide) (by rfl) (by rfl) (by rfl) ?_
    | refine SL_pure [(28, _)] (by decide) ⟨rfl, trivial⟩ (by rfl) (fun tm σ _ => rfl) (fun _ _ h => by cases h) (min29 _ _ _ _) ?_
    | refine SL_pure [(22, _)] (by decide) ⟨rfl, trivial⟩ (by rfl) (fun tm σ _ => rfl) (fun _ _ h => by cases h) (min23 _ _ _ _) ?_
    | refine SL_ifcnil (by decide) (by rfl) (by rfl) Tryz.underlying97 ?_
    | refine SL_bin (by decide) (by rfl) (by rfl) rfl (nil97 _) ?_
    | (refine SL_seql (by decide) (by rfl) (by rfl) (fun hS => ?_) (fun hS => ?_))
    | (refine SC_drawn (id := 5) (pl := [(0, []), (1, []), (2, []), (3, []), (4, []), (5, []), (6, [])]) (by kernel_rfl) (by kernel_rfl) ?_; intro B' base hb1 hb2 hb3 hb4)
    | (refine SC_drawn (id := 4) (pl := [(0, []), (1, []), (2, []), (3, []), (4, []), (5, []), (6, []), (7, [])]) (by kernel_rfl) (by kernel_rfl) ?_; intro B' base hb1 hb2 hb3 hb4)
    | refine SC_seq ?_
    | refine SC_region ?_
    | refine SL_seq ?_
    | refine SL_move (by decide) (by rfl) ?_
    | refine SL_assign (by decide) (by rfl) ?_
    | refine SL_extract_tup (by decide) (by rfl) (by rfl) ?_
    | refine SL_extract_s (by decide) (by rfl) (by rfl) ?_
    | refine SC_cond_t (by rfl) ?_
    | refine SC_cond_f (by rfl) ?_
    | (refine SC_skip' (fun tm σ hE hH => ?_); refine SC.app ?_ hE hH; clear hE hH; clear tm σ)
    | refine SC_ret (fun tm σ hE hH => Post.intro (Hn := []) (.inr rfl) hE hH (by rfl) trivial List.nodup_nil (fun p hp => (by cases hp)) ?_)
    | (refine SL_nil (fun tm σ hE hH => ⟨_, _, _, _, rfl, hE, hH, ?_⟩); clear hE hH; clear tm σ)
    | refine SD_op _ [] (by rfl) (by rfl) (fun _ h => h) (fun p hp => by cases hp) (fun k hk => by cases hk) (.inl rfl) ?_
    | fail)
  all_goals exact ⟨⟨_, _, rfl⟩, rfl⟩
end Go.Proofs.YtnhnlkljcfbhfaaGreatDoor
