/- ReportPairings, walked: the three cases. -/
import Derived.Test.YtnhnlkljcfbhfaaGreatDoorZg
import Derived.Test.YtnhnlkljcfbhfaaGreatDoorZe
import Derived.Test.YtnhnlkljcfbhfaaGreatDoorCards
import Derived.Test.YtnhnlkljcfbhfaaGreatDoorTie
import Derived.Test.YtnhnlkljcfbhfaaGreatDoorZc
import Derived.LaidMore
import Derived.Lay
import Derived.ProofKit
import Derived.Stop.Joined
import Derived.SevenTiedAt
namespace Go.Proofs.YtnhnlkljcfbhfaaGreatDoor
open Go Go.Ab
set_option maxRecDepth 100000
attribute [local irreducible] SC SL wpc wpl wpd wpf wpy wpn FnC FnW RdW SD SI SJ
set_option pp.deepTerms false
set_option pp.maxSteps 900
set_option maxHeartbeats 4000000
theorem law5_np {G : Gl} {xs ys : List ByteArray} {op : List Int} {wh : List Bool} {na la ov wv : AV} (hG : Prs G xs ys na la) (hsl : SlV 1 na (xs.map fun x => [.s (.string x)])) (hso : SlV 1 ov (op.map fun x => [.s (.int .i64 x)])) (hsw : SlV 1 wv (wh.map fun x => [.s (.bool x)]))
    (h1 : xs.length ≤ 13) (h2 : op.length ≤ 13) (h3 : wh.length ≤ 13) (h4 : fewS ys 8 = true) (h5 : fewS xs 13 = true) (h20f : FnC Tryz.prog G 20 [na, mkAgg [ov, wv]] [] (fun v Hn => v = .s (.tuple #[.slice none 0 0, .int .i64 2]) ∧ Hn = [])) (h21f : FnC Tryz.prog G 21 [na, la] [] (fun v Hn => v = .s (.tuple #[.agg #[.slice none 0 0, .slice none 0 0], .int .i64 2]) ∧ Hn = [])) (h22 : FnC Tryz.prog G 22 [na] [] (fun v Hn => v = .s (.bool false) ∧ Hn = [])) : FnC Tryz.prog G 5 [na, mkAgg [ov, wv], la] [] (fun v Hn => v = .s (.bool true) ∧ Hn = []) := by
  obtain ⟨o5, h8, h7a, h7b⟩ := hG
  rw [h4] at h7a
  rw [h5] at h7b
  refine Fn_body (N := 132) (o5 _ _ _) Tryz.func5 rfl rfl fun B => ?_
  repeat' (first
    | refine SL_store_n (by rfl) (by rfl) (by repeat (first | exact .head _ | refine .tail _ ?_)) (by rfl) (by first | exact cells_r _ _ | rfl) (by rfl) (by repeat (first | exact .head | apply Upd.tail)) (by first | exact .inl (by assumption) | exact .inr (by simp)) (szF (by rfl)) (Nat.le_of_ble_eq_true (by rfl)) (by rfl) ?_
    | refine SL_load_or (by decide) (by rfl) (by repeat (first | exact .head _ | refine .tail _ ?_)) (rowF (by rfl)) (by rfl) (Nat.le_of_ble_eq_true (by rfl)) (by first | exact mk2 _ _ | rfl) ?_
    | (refine SL_alloc (d := 9) (by decide) (zeroF (by rfl)) (fun b9 hid9 => ?_))
    | (refine SL_box (d := 4) (by decide) (by rfl) (cells_r _ _) (fun b4 hid4 => ?_))
    | refine SL_len_v (by decide) (by rfl) hsw (by rfl) (slF (by rfl)) (bools_len1 _) ?_
    | refine SL_len_v (by decide) (by rfl) hso (by rfl) (slF (by rfl)) (ints_len1 _) ?_
    | refine SL_len_v (by decide) (by rfl) hsl (by rfl) (slF (by rfl)) (strs_len0 _) ?_
    | (refine SL_call (by decide) (by rfl) bd22 (by rfl) (by rfl) (h22) trivial List.nodup_nil ?_; rintro _ _ _ ⟨rfl, rfl⟩; rw [List.nil_append])
    | (refine SL_call (by decide) (by rfl) bd21 (by rfl) (by rfl) (h21f) trivial List.nodup_nil ?_; rintro _ _ _ ⟨rfl, rfl⟩; rw [List.nil_append])
    | (refine SL_call (by decide) (by rfl) bd20 (by rfl) (by rfl) (h20f) trivial List.nodup_nil ?_; rintro _ _ _ ⟨rfl, rfl⟩; rw [List.nil_append])
    | (refine SL_call (by decide) (by rfl) bd7 (by rfl) (by rfl) (h7b) trivial List.nodup_nil ?_; rintro _ _ _ ⟨rfl, rfl⟩; rw [List.nil_append])
    | (refine SL_call (by decide) (by rfl) bd7 (by rfl) (by rfl) (h7a) trivial List.nodup_nil ?_; rintro _ _ _ ⟨rfl, rfl⟩; rw [List.nil_append])
    | (refine SL_call (by decide) (by rfl) bd8b (by rfl) (by rfl) (h8) trivial List.nodup_nil ?_; rintro _ _ _ ⟨rfl, rfl⟩; rw [List.nil_append])
    | refine SC_seq ?_
    | refine SC_region ?_
    | refine SL_seq ?_
    | refine SL_run (by rfl) (by rfl) ?_
    | refine SL_move (by decide) (by rfl) ?_
    | refine SL_assign (by decide) (by rfl) ?_
    | refine SL_pick_t (by decide) (by rfl) (by rfl) ?_
    | refine SL_pick_f (by decide) (by rfl) (by rfl) ?_
    | refine SL_not_op (by decide) (by rfl) ?_
    | (refine SL_gtr (by decide) (by rfl) (by rfl) (fun hT => ?_) (fun hT => ?_) <;> first | (exfalso; omega) | skip)
    | (refine SL_eql (by decide) (by rfl) (by rfl) (fun hT => ?_) (fun hT => ?_) <;> first | (exfalso; omega) | skip)
    | refine SL_extract_s (by decide) (by rfl) (by rfl) ?_
    | refine SL_fieldAddr (by decide) (by rfl) (fldF (by rfl)) ?_
    | refine SL_len_0 (by decide) (by rfl) (by rfl) (sliceOf_spec (slF (by rfl))).1 ?_
    | refine SL_load_o (by decide) (by rfl) (by repeat (first | exact .head _ | refine .tail _ ?_)) (rowF (by rfl)) (by first | assumption | rfl) (by rfl) ?_
    | refine SC_cond_t (by rfl) ?_
    | refine SC_cond_f (by rfl) ?_
    | (refine SC_skip' (fun tm σ hE hH => ?_); refine SC.app ?_ hE hH; clear hE hH; clear tm σ)
    | fail)
  all_goals refine SC_ret (fun tm σ hE hH => Post.intro (Hn := []) (.inr rfl) hE hH (by rfl) trivial List.nodup_nil (fun p hp => (by cases hp)) ?_)
  all_goals exact ⟨rfl, rfl⟩
theorem law5_f {G : Gl} {xs ys : List ByteArray} {op : List Int} {wh : List Bool} {na la ov wv : AV} (hG : Prs G xs ys na la) (hsl : SlV 1 na (xs.map fun x => [.s (.string x)])) (hso : SlV 1 ov (op.map fun x => [.s (.int .i64 x)])) (hsw : SlV 1 wv (wh.map fun x => [.s (.bool x)]))
    (h1 : xs.length ≤ 13) (h2 : op.length ≤ 13) (h3 : wh.length ≤ 13) (h4 : fewS ys 8 = true) (h5 : fewS xs 13 = true) (h20f : FnC Tryz.prog G 20 [na, mkAgg [ov, wv]] [] (fun v Hn => v = .s (.tuple #[.slice none 0 0, .int .i64 2]) ∧ Hn = [])) (h23f : FnC Tryz.prog G 23 [na, mkAgg [ov, wv]] [] (fun v Hn => v = .s (.tuple #[.slice none 0 0, .bool false]) ∧ Hn = [])) (h21 : FnC Tryz.prog G 21 [na, la] [] (R21 xs ys)) (h22 : FnC Tryz.prog G 22 [na] [] (fun v Hn => v = .s (.bool true) ∧ Hn = []))
    (h23o : ∀ (rid wid : Nat) (op2 : List Int) (wh2 : List Bool), rid ≠ wid → op2.length = xs.length → wh2.length = xs.length → Right xs op2 wh2 → FnC Tryz.prog G 23 [na, mkAgg [.sl rid 0 xs.length none, .sl wid 0 xs.length none]] [(rid, .cells 3 1 true (op2.map fun x => [AV.s (.int .i64 x)])), (wid, .cells 4 1 true (wh2.map fun x => [AV.s (.bool x)]))] (fun v Hn => ∃ id, v = .tup [.sl id 0 (linesP xs op2 wh2).length none, .s (.bool true)] ∧ Hn = [(id, .cells 9 1 false (strs (linesP xs op2 wh2)))]))
    (h11ov : ∀ (a : Nat) (ls : List ByteArray), ls = ys → FnC Tryz.prog G 11 [.sl a 0 ls.length none, la] [(a, .cells 9 1 false (strs ls))] (fun v Hn => v = .s (.bool true) ∧ Hn = [])) : FnC Tryz.prog G 5 [na, mkAgg [ov, wv], la] [] (fun v Hn => v = .s (.bool true) ∧ Hn = []) := by
  obtain ⟨o5, h8, h7a, h7b⟩ := hG
  rw [h4] at h7a
  rw [h5] at h7b
  unfold R21 at h21
  refine Fn_body (N := 132) (o5 _ _ _) Tryz.func5 rfl rfl fun B => ?_
  repeat' (first
    | (refine SL_call (by decide) (by rfl) bd11 (by rfl) (by rfl) (h11ov _ _ hl2) ⟨(by repeat (first | exact .head _ | refine .tail _ ?_)), trivial⟩ (by simp) ?_; rintro _ _ _ ⟨rfl, rfl⟩; rw [List.nil_append])
    | (refine SL_nd fun hnd' => ?_; refine SL_call (by decide) (by rfl) bd23 (by rfl) (by rfl) (h23o rid wid op2 wh2 (by intro e; subst e; simp at hnd') hlo2 hlw2 hR2) ⟨(by repeat (first | exact .head _ | refine .tail _ ?_)), (by repeat (first | exact .head _ | refine .tail _ ?_)), trivial⟩ (by simp; intro e; subst e; simp at hnd') ?_; rintro _ _ hn23 ⟨qid, rfl, rfl⟩; rw [List.singleton_append])
    | (refine SL_call (by decide) (by rfl) bd21 (by rfl) (by rfl) h21 trivial List.nodup_nil ?_; rintro _ _ hn21 hk21; rcases hk21 with ⟨rfl, rfl⟩ | ⟨rid, wid, op2, wh2, rfl, rfl, hlo2, hlw2, hR2, hl2⟩ <;> first | rw [List.nil_append] | rw [List.cons_append, List.singleton_append])
    | refine SL_store_n (by rfl) (by rfl) (by repeat (first | exact .head _ | refine .tail _ ?_)) (by rfl) (by first | exact cells_r _ _ | rfl) (by rfl) (by repeat (first | exact .head | apply Upd.tail)) (by first | exact .inl (by assumption) | exact .inr (by simp)) (szF (by rfl)) (Nat.le_of_ble_eq_true (by rfl)) (by rfl) ?_
    | refine SL_load_or (by decide) (by rfl) (by repeat (first | exact .head _ | refine .tail _ ?_)) (rowF (by rfl)) (by rfl) (Nat.le_of_ble_eq_true (by rfl)) (by first | exact mk2 _ _ | rfl) ?_
    | (refine SL_alloc (d := 9) (by decide) (zeroF (by rfl)) (fun b9 hid9 => ?_))
    | (refine SL_box (d := 4) (by decide) (by rfl) (cells_r _ _) (fun b4 hid4 => ?_))
    | refine SL_len_v (by decide) (by rfl) hsw (by rfl) (slF (by rfl)) (bools_len1 _) ?_
    | refine SL_len_v (by decide) (by rfl) hso (by rfl) (slF (by rfl)) (ints_len1 _) ?_
    | refine SL_len_v (by decide) (by rfl) hsl (by rfl) (slF (by rfl)) (strs_len0 _) ?_
    | (refine SL_call (by decide) (by rfl) bd23 (by rfl) (by rfl) (h23f) trivial List.nodup_nil ?_; rintro _ _ _ ⟨rfl, rfl⟩; rw [List.nil_append])
    | (refine SL_call (by decide) (by rfl) bd22 (by rfl) (by rfl) (h22) trivial List.nodup_nil ?_; rintro _ _ _ ⟨rfl, rfl⟩; rw [List.nil_append])
    | (refine SL_call (by decide) (by rfl) bd20 (by rfl) (by rfl) (h20f) trivial List.nodup_nil ?_; rintro _ _ _ ⟨rfl, rfl⟩; rw [List.nil_append])
    | (refine SL_call (by decide) (by rfl) bd7 (by rfl) (by rfl) (h7b) trivial List.nodup_nil ?_; rintro _ _ _ ⟨rfl, rfl⟩; rw [List.nil_append])
    | (refine SL_call (by decide) (by rfl) bd7 (by rfl) (by rfl) (h7a) trivial List.nodup_nil ?_; rintro _ _ _ ⟨rfl, rfl⟩; rw [List.nil_append])
    | (refine SL_call (by decide) (by rfl) bd8b (by rfl) (by rfl) (h8) trivial List.nodup_nil ?_; rintro _ _ _ ⟨rfl, rfl⟩; rw [List.nil_append])
    | refine SC_seq ?_
    | refine SC_region ?_
    | refine SL_seq ?_
    | refine SL_run (by rfl) (by rfl) ?_
    | refine SL_not (by rfl) (by rfl) (by rfl) (by decide) ?_
    | refine SL_notu (by rfl) (by rfl) (by decide) ?_
    | refine SL_move (by decide) (by rfl) ?_
    | refine SL_assign (by decide) (by rfl) ?_
    | refine SL_pick_t (by decide) (by rfl) (by rfl) ?_
    | refine SL_pick_f (by decide) (by rfl) (by rfl) ?_
    | refine SL_not_op (by decide) (by rfl) ?_
    | (refine SL_gtr (by decide) (by rfl) (by rfl) (fun hT => ?_) (fun hT => ?_) <;> first | (exfalso; omega) | skip)
    | (refine SL_eql (by decide) (by rfl) (by rfl) (fun hT => ?_) (fun hT => ?_) <;> first | (exfalso; omega) | skip)
    | (refine SL_neq (by decide) (by rfl) (by rfl) (fun hT => ?_) (fun hT => ?_) <;> first | (exfalso; omega) | skip)
    | refine SL_extract_tup (by decide) (by rfl) (by rfl) ?_
    | refine SL_extract_s (by decide) (by rfl) (by rfl) ?_
    | refine SL_fieldAddr (by decide) (by rfl) (fldF (by rfl)) ?_
    | refine SL_len_0 (by decide) (by rfl) (by rfl) (sliceOf_spec (slF (by rfl))).1 ?_
    | refine SL_load_o (by decide) (by rfl) (by repeat (first | exact .head _ | refine .tail _ ?_)) (rowF (by rfl)) (by first | assumption | rfl) (by rfl) ?_
    | refine SC_cond_t (by rfl) ?_
    | refine SC_cond_f (by rfl) ?_
    | (refine SC_skip' (fun tm σ hE hH => ?_); refine SC.app ?_ hE hH; clear hE hH; clear tm σ)
    | fail)
  all_goals refine SC_ret (fun tm σ hE hH => Post.intro (Hn := []) (.inr rfl) hE hH (by rfl) trivial List.nodup_nil (fun p hp => (by cases hp)) ?_)
  all_goals exact ⟨rfl, rfl⟩
theorem law5_t {G : Gl} {xs ys : List ByteArray} {op : List Int} {wh : List Bool} {na la ov wv : AV} (hG : Prs G xs ys na la) (hsl : SlV 1 na (xs.map fun x => [.s (.string x)])) (hso : SlV 1 ov (op.map fun x => [.s (.int .i64 x)])) (hsw : SlV 1 wv (wh.map fun x => [.s (.bool x)]))
    (h1 : xs.length ≤ 13) (h2 : op.length ≤ 13) (h3 : wh.length ≤ 13) (h4 : fewS ys 8 = true) (h5 : fewS xs 13 = true) (h20t : FnC Tryz.prog G 20 [na, mkAgg [ov, wv]] [] (fun v Hn => ∃ id, v = .tup [.sl id 0 (linesP xs op wh).length none, .s (.int .i64 0)] ∧ Hn = [(id, .cells 9 1 false (strs (linesP xs op wh)))]))
    (h23t : FnC Tryz.prog G 23 [na, mkAgg [ov, wv]] [] (fun v Hn => ∃ id, v = .tup [.sl id 0 (linesP xs op wh).length none, .s (.bool true)] ∧ Hn = [(id, .cells 9 1 false (strs (linesP xs op wh)))])) (h21 : FnC Tryz.prog G 21 [na, la] [] (R21 xs ys)) (h22 : FnC Tryz.prog G 22 [na] [] (fun v Hn => v = .s (.bool true) ∧ Hn = []))
    (h23o : ∀ (rid wid : Nat) (op2 : List Int) (wh2 : List Bool), rid ≠ wid → op2.length = xs.length → wh2.length = xs.length → Right xs op2 wh2 → FnC Tryz.prog G 23 [na, mkAgg [.sl rid 0 xs.length none, .sl wid 0 xs.length none]] [(rid, .cells 3 1 true (op2.map fun x => [AV.s (.int .i64 x)])), (wid, .cells 4 1 true (wh2.map fun x => [AV.s (.bool x)]))] (fun v Hn => ∃ id, v = .tup [.sl id 0 (linesP xs op2 wh2).length none, .s (.bool true)] ∧ Hn = [(id, .cells 9 1 false (strs (linesP xs op2 wh2)))]))
    (h11ov : ∀ (a : Nat) (ls : List ByteArray), ls = ys → FnC Tryz.prog G 11 [.sl a 0 ls.length none, la] [(a, .cells 9 1 false (strs ls))] (fun v Hn => v = .s (.bool true) ∧ Hn = []))
    (h11oo : ∀ (a b : Nat), a ≠ b → FnC Tryz.prog G 11 [.sl a 0 (linesP xs op wh).length none, .sl b 0 (linesP xs op wh).length none] [(a, .cells 9 1 false (strs (linesP xs op wh))), (b, .cells 9 1 false (strs (linesP xs op wh)))] (fun v Hn => v = .s (.bool true) ∧ Hn = [])) : FnC Tryz.prog G 5 [na, mkAgg [ov, wv], la] [] (fun v Hn => v = .s (.bool true) ∧ Hn = []) := by
  obtain ⟨o5, h8, h7a, h7b⟩ := hG
  rw [h4] at h7a
  rw [h5] at h7b
  unfold R21 at h21
  refine Fn_body (N := 132) (o5 _ _ _) Tryz.func5 rfl rfl fun B => ?_
  repeat' (first
    | (refine SL_call (by decide) (by rfl) bd11 (by rfl) (by rfl) (h11ov _ _ hl2) ⟨(by repeat (first | exact .head _ | refine .tail _ ?_)), trivial⟩ (by simp) ?_; rintro _ _ _ ⟨rfl, rfl⟩; rw [List.nil_append])
    | (refine SL_nd fun hnd' => ?_; refine SL_call (by decide) (by rfl) bd11 (by rfl) (by rfl) (h11oo _ _ (by intro e; subst e; simp at hnd')) ⟨(by repeat (first | exact .head _ | refine .tail _ ?_)), (by repeat (first | exact .head _ | refine .tail _ ?_)), trivial⟩ (by simp; intro e; subst e; simp at hnd') ?_; rintro _ _ _ ⟨rfl, rfl⟩; rw [List.nil_append])
    | (refine SL_nd fun hnd' => ?_; refine SL_call (by decide) (by rfl) bd23 (by rfl) (by rfl) (h23o rid wid op2 wh2 (by intro e; subst e; simp at hnd') hlo2 hlw2 hR2) ⟨(by repeat (first | exact .head _ | refine .tail _ ?_)), (by repeat (first | exact .head _ | refine .tail _ ?_)), trivial⟩ (by simp; intro e; subst e; simp at hnd') ?_; rintro _ _ hn23 ⟨qid, rfl, rfl⟩; rw [List.singleton_append])
    | (refine SL_call (by decide) (by rfl) bd21 (by rfl) (by rfl) h21 trivial List.nodup_nil ?_; rintro _ _ hn21 hk21; rcases hk21 with ⟨rfl, rfl⟩ | ⟨rid, wid, op2, wh2, rfl, rfl, hlo2, hlw2, hR2, hl2⟩ <;> first | rw [List.nil_append] | rw [List.cons_append, List.singleton_append])
    | (refine SL_call (by decide) (by rfl) bd23 (by rfl) (by rfl) h23t trivial List.nodup_nil ?_; rintro _ _ hn23 ⟨pid, rfl, rfl⟩; rw [List.singleton_append])
    | (refine SL_call (by decide) (by rfl) bd20 (by rfl) (by rfl) h20t trivial List.nodup_nil ?_; rintro _ _ hn20 ⟨lid, rfl, rfl⟩; rw [List.singleton_append])
    | refine SL_store_n (by rfl) (by rfl) (by repeat (first | exact .head _ | refine .tail _ ?_)) (by rfl) (by first | exact cells_r _ _ | rfl) (by rfl) (by repeat (first | exact .head | apply Upd.tail)) (by first | exact .inl (by assumption) | exact .inr (by simp)) (szF (by rfl)) (Nat.le_of_ble_eq_true (by rfl)) (by rfl) ?_
    | refine SL_load_or (by decide) (by rfl) (by repeat (first | exact .head _ | refine .tail _ ?_)) (rowF (by rfl)) (by rfl) (Nat.le_of_ble_eq_true (by rfl)) (by first | exact mk2 _ _ | rfl) ?_
    | (refine SL_alloc (d := 9) (by decide) (zeroF (by rfl)) (fun b9 hid9 => ?_))
    | (refine SL_box (d := 4) (by decide) (by rfl) (cells_r _ _) (fun b4 hid4 => ?_))
    | refine SL_len_v (by decide) (by rfl) hsw (by rfl) (slF (by rfl)) (bools_len1 _) ?_
    | refine SL_len_v (by decide) (by rfl) hso (by rfl) (slF (by rfl)) (ints_len1 _) ?_
    | refine SL_len_v (by decide) (by rfl) hsl (by rfl) (slF (by rfl)) (strs_len0 _) ?_
    | (refine SL_call (by decide) (by rfl) bd22 (by rfl) (by rfl) (h22) trivial List.nodup_nil ?_; rintro _ _ _ ⟨rfl, rfl⟩; rw [List.nil_append])
    | (refine SL_call (by decide) (by rfl) bd7 (by rfl) (by rfl) (h7b) trivial List.nodup_nil ?_; rintro _ _ _ ⟨rfl, rfl⟩; rw [List.nil_append])
    | (refine SL_call (by decide) (by rfl) bd7 (by rfl) (by rfl) (h7a) trivial List.nodup_nil ?_; rintro _ _ _ ⟨rfl, rfl⟩; rw [List.nil_append])
    | (refine SL_call (by decide) (by rfl) bd8b (by rfl) (by rfl) (h8) trivial List.nodup_nil ?_; rintro _ _ _ ⟨rfl, rfl⟩; rw [List.nil_append])
    | refine SC_seq ?_
    | refine SC_region ?_
    | refine SL_seq ?_
    | refine SL_run (by rfl) (by rfl) ?_
    | refine SL_not (by rfl) (by rfl) (by rfl) (by decide) ?_
    | refine SL_notu (by rfl) (by rfl) (by decide) ?_
    | refine SL_move (by decide) (by rfl) ?_
    | refine SL_assign (by decide) (by rfl) ?_
    | refine SL_pick_t (by decide) (by rfl) (by rfl) ?_
    | refine SL_pick_f (by decide) (by rfl) (by rfl) ?_
    | refine SL_not_op (by decide) (by rfl) ?_
    | (refine SL_gtr (by decide) (by rfl) (by rfl) (fun hT => ?_) (fun hT => ?_) <;> first | (exfalso; omega) | skip)
    | (refine SL_eql (by decide) (by rfl) (by rfl) (fun hT => ?_) (fun hT => ?_) <;> first | (exfalso; omega) | skip)
    | (refine SL_neq (by decide) (by rfl) (by rfl) (fun hT => ?_) (fun hT => ?_) <;> first | (exfalso; omega) | skip)
    | refine SL_extract_tup (by decide) (by rfl) (by rfl) ?_
    | refine SL_extract_s (by decide) (by rfl) (by rfl) ?_
    | refine SL_fieldAddr (by decide) (by rfl) (fldF (by rfl)) ?_
    | refine SL_len_0 (by decide) (by rfl) (by rfl) (sliceOf_spec (slF (by rfl))).1 ?_
    | refine SL_load_o (by decide) (by rfl) (by repeat (first | exact .head _ | refine .tail _ ?_)) (rowF (by rfl)) (by first | assumption | rfl) (by rfl) ?_
    | refine SC_cond_t (by rfl) ?_
    | refine SC_cond_f (by rfl) ?_
    | (refine SC_skip' (fun tm σ hE hH => ?_); refine SC.app ?_ hE hH; clear hE hH; clear tm σ)
    | fail)
  all_goals refine SC_ret (fun tm σ hE hH => Post.intro (Hn := []) (.inr rfl) hE hH (by rfl) trivial List.nodup_nil (fun p hp => (by cases hp)) ?_)
  all_goals exact ⟨rfl, rfl⟩
end Go.Proofs.YtnhnlkljcfbhfaaGreatDoor
/- ReportBoards, joined: the walk over the table of the library's answers and of the letters. -/
namespace Go.Proofs.YtnhnlkljcfbhfaaGreatDoor
open Go Go.Ab
theorem strsOf_strs : ∀ xs : List ByteArray, strsOf (strs xs) = some xs
  | [] => rfl
  | x :: xs => by
    unfold strs
    rw [List.map_cons]
    unfold strsOf
    rw [show strsOf (xs.map fun x => [AV.s (.string x)]) = some xs from strsOf_strs xs]
theorem lineP_le (row : List Int) : (lineP row).size ≤ 2 * row.length := by
  have := lineP_size row row.length (Nat.le_refl _)
  rwa [List.take_of_length_le (Nat.le_refl _)] at this
theorem parV_none {c : Int} (h : parP c = none) : parV c = .tuple #[.int .i8 0, .int .i64 6] := by
  cases hf : letters.findIdx? (fun l => decide (c = l) || decide (c = l + 32)) with
  | none => simp only [parV, hf]
  | some k =>
    simp only [parP, hf] at h
    split at h <;> cases h
theorem parV_some {c p : Int} (h : parP c = some p) : parV c = .tuple #[.int .i8 p, .int .i64 0] := by
  cases hf : letters.findIdx? (fun l => decide (c = l) || decide (c = l + 32)) with
  | none =>
    simp only [parP, hf] at h
    cases h
  | some k =>
    simp only [parP, hf] at h
    simp only [parV, hf]
    split at h
    · rename_i h2
      cases h
      rw [if_pos h2]
    · rename_i h2
      cases h
      rw [if_neg h2]
theorem letV_p {p : Int} (h0 : p ≠ 0) (h1 : -15 ≤ p) (h2 : p ≤ 15) : letV p = .tuple #[.int .u8 (codeOf p), .int .i64 0] := by
  unfold letV codeOf
  rw [if_neg (by omega), if_neg h0]
  split <;> rfl
section
variable {m : Int} {e2 e3 : Value}
theorem b_75t {f r : Int} (h : OkSz f r) : FnC Tryz.prog (glB m e2 e3) 75 [sz f r] [] (fun v Hn => v = .s (.bool true) ∧ Hn = []) := size_t (fun _ => rfl) (fun _ => rfl) h
theorem b_75f {f r : Int} (h : ¬ OkSz f r) : FnC Tryz.prog (glB m e2 e3) 75 [sz f r] [] (fun v Hn => v = .s (.bool false) ∧ Hn = []) := size_f (fun _ => rfl) (fun _ => rfl) h
theorem b_34t {f r : Int} (h : OkSz f r) : FnC Tryz.prog (glB m e2 e3) 34 [sz f r] [] (fun v Hn => v = .s (.tuple #[.int .i64 (f * r), .int .i64 0]) ∧ Hn = []) := count_t (fun _ => rfl) (b_75t h) h
theorem b_34f {f r : Int} (h : ¬ OkSz f r) : FnC Tryz.prog (glB m e2 e3) 34 [sz f r] [] (fun v Hn => v = .s (.tuple #[.int .i64 0, .int .i64 2]) ∧ Hn = []) := count_f (fun _ => rfl) (b_75f h)
theorem b_10 {f r : Int} {ps : List Int} {l : AV} (hsl : SlV 1 l (ps.map fun p => [AV.s (.int .i8 p)])) (hbig : ps.length ≤ 9223372036854775807) : FnC Tryz.prog (glB m e2 e3) 10 [brd f r l] [] (fun v Hn => Says (OkB f r ps) v ∧ Hn = []) :=
  valid_v hsl hbig (fun _ => rfl) b_34t b_34f (con_v (fun _ _ => rfl) (ix_v hsl hbig (fun _ _ => rfl) (fun _ => rfl) (fun _ => rfl)))
theorem b_10o {f r : Int} {ps : List Int} {id : Nat} (hbig : ps.length ≤ 9223372036854775807) : FnC Tryz.prog (glB m e2 e3) 10 [brd f r (.sl id 0 ps.length none)] [(id, .cells 81 1 false (ps.map fun p => [AV.s (.int .i8 p)]))] (fun v Hn => Says (OkB f r ps) v ∧ Hn = []) :=
  valid_o hbig (fun _ => rfl) b_34t b_34f (con_o (fun _ _ => rfl) (ix_o hbig (fun _ _ => rfl) (fun _ => rfl) (fun _ => rfl)))
theorem says_t {p : Prop} {v : AV} (h : Says p v) (hp : p) : v = .s (.bool true) := by
  rcases h with ⟨h, _⟩ | ⟨_, h⟩
  · exact h
  · exact absurd hp h
theorem says_f {p : Prop} {v : AV} (h : Says p v) (hp : ¬ p) : v = .s (.bool false) := by
  rcases h with ⟨_, h⟩ | ⟨h, _⟩
  · exact absurd h hp
  · exact h
theorem b_32 (p : Int) (h0 : p ≠ 0) (h1 : -15 ≤ p) (h2 : p ≤ 15) : FnC Tryz.prog (glB m e2 e3) 32 [.s (.int .i8 p)] [] (fun v Hn => v = .s (.tuple #[.int .u8 (codeOf p), .int .i64 0]) ∧ Hn = []) := by
  refine Fn_orc (v := .s (letV p)) ?_ ⟨by rw [letV_p h0 h1 h2], rfl⟩
  show letterC [.s (.int .i8 p)] = _
  unfold letterC
  dsimp only
  rw [if_pos ⟨by omega, by omega⟩]
theorem b_32z (p : Int) (h0 : p = 0) : FnC Tryz.prog (glB m e2 e3) 32 [.s (.int .i8 p)] [] (fun v Hn => v = .s (.tuple #[.int .u8 0, .int .i64 2]) ∧ Hn = []) := by
  subst h0
  exact Fn_orc (v := .s (letV 0)) rfl ⟨rfl, rfl⟩
theorem b_39 (c : UInt8) : FnC Tryz.prog (glB m e2 e3) 39 [.s (.int .u8 c.toNat)] [] (fun v Hn => v = .s (parV (c.toNat : Int)) ∧ Hn = []) := by
  refine Fn_orc (v := .s (parV (c.toNat : Int))) ?_ ⟨rfl, rfl⟩
  show parseC [.s (.int .u8 (c.toNat : Int))] = _
  unfold parseC
  dsimp only
  have := c.toNat_lt
  rw [if_pos ⟨by omega, by omega⟩]
theorem b_74 {id n : Nat} {x : Bool} {xs : List ByteArray} {s : ByteArray} (hn : xs.length = n) (hn2 : n ≤ 1000) (hs : s = ⟨(Lib.join (xs.map (·.data.toList)) [32]).toArray⟩) (hs2 : s.size ≤ 1000000) :
    FnC Tryz.prog (glB m e2 e3) 74 [.sl id 0 n none, .s (.string ⟨#[32]⟩)] [(id, .cells 9 1 x (strs xs))] (fun v Hn => v = .s (.string s) ∧ Hn = []) := by
  refine Fn_orc2 (v := .s (.string s)) rfl (fun σ hσ => ?_) ⟨rfl, rfl⟩
  have hg := hσ.get _ (.head _)
  simp only at hg
  rw [hg]
  have hl : (strs xs).length = n := by unfold strs; rw [List.length_map, hn]
  have h1 : strsOf (((strs xs).drop 0).take n) = some xs := by
    rw [List.drop_zero, List.take_of_length_le (by omega), strsOf_strs]
  have h2 : (Lib.join (xs.map (·.data.toList)) (⟨#[32]⟩ : ByteArray).data.toList).length ≤ 140737488355328 := by
    have h3 : s.size = (Lib.join (xs.map (·.data.toList)) [32]).length := by rw [hs]; exact List.size_toArray
    have : (⟨#[32]⟩ : ByteArray).data.toList = [32] := rfl
    rw [this]; omega
  simp only
  rw [if_pos ⟨trivial, by omega, by omega⟩, h1]
  simp only
  rw [if_pos h2, hs]
theorem b_33 (id n : Nat) (row : List Int) (h : (row.map chrP).length = n) (h8 : n ≤ 8) : FnC Tryz.prog (glB m e2 e3) 33 [.sl id 0 n none] [(id, .cells 9 1 false (strs (row.map chrP)))] (fun v Hn => v = .s (.string (lineP row)) ∧ Hn = []) :=
  words_fn (fun _ => rfl) (b_74 h (by omega) rfl (by
    have := lineP_le row
    rw [List.length_map] at h
    omega))
theorem b_38 (x : ByteArray) (ws : List ByteArray) (hw : ws = wordsOf x) (hx : x.size ≤ 100) : FnC Tryz.prog (glB m e2 e3) 38 [.s (.string x), .s (.string ⟨#[32]⟩)] [] (fun v Hn => ∃ id, v = .sl id 0 ws.length none ∧ Hn = [(id, .cells 9 1 true (strs ws))]) := by
  subst hw
  refine Fn_orcN (o := .cells 9 1 true (strs (wordsOf x))) (v := fun id => .sl id 0 (wordsOf x).length none) ?_ (fun id => ⟨id, rfl, rfl⟩)
  show splitC [.s (.string x), .s (.string ⟨#[32]⟩)] = _
  unfold splitC
  dsimp only
  rw [if_pos ⟨by omega, by decide⟩, wordsOf_len]
  rfl
theorem okB_big {F R : Nat} {qs : List Int} (h : OkB F R qs) : qs.length ≤ 64 := by
  obtain ⟨⟨h1, h2, h3, h4⟩, h5, h6⟩ := h
  rw [← Int.natCast_mul] at h5
  have : F * R ≤ 8 * 8 := Nat.mul_le_mul (by omega) (by omega)
  omega
theorem b_bds {xs : List ByteArray} {al : AV} (hal : StV xs al) (hbig : xs.length ≤ 9223372036854775807) : Bds (glB m e2 e3) xs al where
  o3 := fun _ _ => rfl
  h8 := Fn_orc (v := .s (.bool true)) rfl ⟨rfl, rfl⟩
  h7 := few_fn hal hbig 9 (by decide) rfl
  h13 := fun hf => by
    unfold fewS at hf
    rw [Bool.and_eq_true, decide_eq_true_eq, decide_eq_true_eq] at hf
    obtain ⟨h1, h2⟩ := hf
    rw [List.take_of_length_le h2] at h1
    refine pardia hal h2 h1 (fun _ => rfl) b_38 (fun c h => ?_) (fun c p h => ?_) ?_ (fun f r id ps hp => b_10o (by omega))
    · have := b_39 (m := m) (e2 := e2) (e3 := e3) c
      rwa [parV_none h] at this
    · have := b_39 (m := m) (e2 := e2) (e3 := e3) c
      rwa [parV_some h] at this
    · refine FnC.mono (b_10 (m := m) (e2 := e2) (e3 := e3) (f := 0) (r := xs.length) (ps := []) (l := .s (.slice none 0 0)) .nil (by decide)) fun v Hn ⟨h1, h2⟩ => ⟨says_f h1 fun h => ?_, h2⟩
      have := h.1.1
      omega
  h10o := fun F R pid qs h => FnC.mono (b_10o (by have := okB_big h; omega)) fun v Hn ⟨h1, h2⟩ => ⟨says_t h1 h, h2⟩
  h12o := fun F R pid qs h => by
    obtain ⟨⟨h1, h2, h3, h4⟩, h5, h6⟩ := h
    exact diagram_o ⟨by omega, by omega⟩ ⟨by omega, by omega⟩ (by rw [← Int.natCast_mul] at h5; omega) h6 (fun _ => rfl) b_32z b_32
  h11ov := fun a n ys h1 h2 h3 => by
    subst h1 h2
    exact same_ov ys h3 hal rfl
theorem law3_fn {f r : Int} {ps : List Int} {l al : AV} {xs : List ByteArray} (hsl : SlK 1 l (ps.map fun p => [AV.s (.int .i8 p)])) (hal : StV xs al) (hbig : ps.length ≤ 9223372036854775807) (hbig2 : xs.length ≤ 9223372036854775807) :
    FnC Tryz.prog (glB m e2 e3) 3 [brd f r l, al] [] (fun v Hn => v = .s (.bool true) ∧ Hn = []) := by
  have hG := b_bds (m := m) (e2 := e2) (e3 := e3) hal hbig2
  by_cases hk : 70 < ps.length ∨ fewS xs 9 = false
  · exact law3_k hG hsl hk
  have hk1 : ps.length ≤ 70 := by
    by_cases h : 70 < ps.length
    · exact absurd (.inl h) hk
    · omega
  have hk2 : fewS xs 9 = true := by
    cases h : fewS xs 9 with
    | true => rfl
    | false => exact absurd (.inr h) hk
  have h10 := b_10 (m := m) (e2 := e2) (e3 := e3) (f := f) (r := r) hsl.v hbig
  by_cases ho : OkB f r ps
  · have h10' := h10.mono (R' := fun v Hn => v = .s (.bool true) ∧ Hn = []) (fun v Hn ⟨h1, h2⟩ => ⟨says_t h1 ho, h2⟩)
    have ho' := ho
    obtain ⟨⟨h1, h2, h3, h4⟩, h5, h6⟩ := ho'
    obtain ⟨F, rfl⟩ : ∃ F : Nat, f = F := ⟨f.toNat, by omega⟩
    obtain ⟨R, rfl⟩ : ∃ R : Nat, r = R := ⟨r.toNat, by omega⟩
    have hl : ps.length = F * R := by rw [← Int.natCast_mul] at h5; omega
    refine law3_t hG hsl hk1 hk2 (pdiag_t hsl ⟨by omega, by omega⟩ ⟨by omega, by omega⟩ hl h6 (fun _ => rfl) h10' b_32 b_33) h10' (diagram_v hsl.v ⟨by omega, by omega⟩ ⟨by omega, by omega⟩ hl h6 (fun _ => rfl) b_32z b_32) fun a b hab => ?_
    have := same_oo (G := glB m e2 e3) (diagR F ps R) (by rw [diagR_len]; omega) (x1 := false) (x2 := false) hab rfl
    rwa [diagR_len] at this
  · have h10' := h10.mono (R' := fun v Hn => v = .s (.bool false) ∧ Hn = []) (fun v Hn ⟨h1, h2⟩ => ⟨says_f h1 ho, h2⟩)
    exact law3_f hG hsl hk1 hk2 (pdiag_f (fun _ => rfl) h10') h10'
end
end Go.Proofs.YtnhnlkljcfbhfaaGreatDoor
/- ReportPairings, joined: the walk over the table of the library's answers (table and its contracts; the joining itself is still to be written). -/
namespace Go.Proofs.YtnhnlkljcfbhfaaGreatDoor
open Go Go.Ab
section
variable {m : Int} {e2 e3 : Value}
theorem mul_run : ((List.range 16).all fun i => isV (.tuple #[.int .u64 0, .int .u64 ((i : Int) + 1)]) (runCall Tryz.prog (glR m e2 e3) 60 83 [.s (.int .u64 1), .s (.int .u64 ((i : Int) + 1))])) = true := by kernel_rfl
noncomputable def mulC : List AV → Option (AS → Option (AV × AS))
  | [.s (.int .u64 a), .s (.int .u64 b)] => if a = 1 ∧ 1 ≤ b ∧ b ≤ 16 then some fun σ => some (.s (.tuple #[.int .u64 0, .int .u64 b]), σ) else none
  | _ => none
theorem body83 : Bodied Tryz.prog 83 := ⟨_, Tryz.func83, rfl⟩
theorem mul_ctr (h2 : e2 = .nilIface ∨ ∃ te pe, e2 = .iface te pe) (h3 : e3 = .nilIface ∨ ∃ te pe, e3 = .iface te pe) {al : List AV} {c : AS → Option (AV × AS)} (h : mulC al = some c) : Ctr Tryz.prog (glR m e2 e3) 83 al c := by
  unfold mulC at h
  split at h
  · rename_i a b
    split at h
    · rename_i hp
      obtain ⟨rfl, h1, h16⟩ := hp
      cases h
      have := List.all_eq_true.1 (mul_run (m := m) (e2 := e2) (e3 := e3)) (b - 1).toNat (List.mem_range.2 (by omega))
      rw [show ((b - 1).toNat : Int) + 1 = b by omega] at this
      obtain ⟨σ, hs⟩ := isV_eq this
      exact run_ctr h2 h3 (us := [.int .u64 1, .int .u64 b]) body83 hs
    · cases h
  · cases h
/-- The table of ReportPairings' walk. -/
noncomputable def glP (m : Int) (e2 e3 : Value) : Gl := ⟨rowsR m e2 e3, byF ((83, mulC) :: (8, knownC) :: libs)⟩
theorem givenP (h2 : e2 = .nilIface ∨ ∃ te pe, e2 = .iface te pe) (h3 : e3 = .nilIface ∨ ∃ te pe, e3 = .iface te pe) : Given Tryz.prog (glP m e2 e3) := given_of fun p hp al c hc => by
  simp only [libs, List.mem_cons, List.not_mem_nil, or_false] at hp
  refine ctr_rows (o1 := (glR m e2 e3).orc) ?_
  rcases hp with rfl | rfl | rfl | rfl | rfl | rfl | rfl
  · exact mul_ctr h2 h3 hc
  · exact known_ctr h2 h3 hc
  · exact join_ctr hc
  · exact atoi_ctr h2 h3 hc
  · exact itoa_ctr hc
  · exact cut_ctr hc
  · exact split_ctr hc
end
end Go.Proofs.YtnhnlkljcfbhfaaGreatDoor
/- ReportPairings, joined over the table of the library's answers. -/
namespace Go.Proofs.YtnhnlkljcfbhfaaGreatDoor
open Go Go.Ab
section
variable {m : Int} {e2 e3 : Value}
theorem p_74 {id n : Nat} {x : Bool} {xs : List ByteArray} {s : ByteArray} (hn : xs.length = n) (hn2 : n ≤ 1000) (hs : s = ⟨(Lib.join (xs.map (·.data.toList)) [32]).toArray⟩) (hs2 : s.size ≤ 1000000) :
    FnC Tryz.prog (glP m e2 e3) 74 [.sl id 0 n none, .s (.string ⟨#[32]⟩)] [(id, .cells 9 1 x (strs xs))] (fun v Hn => v = .s (.string s) ∧ Hn = []) := by
  refine Fn_orc2 (v := .s (.string s)) rfl (fun σ hσ => ?_) ⟨rfl, rfl⟩
  have hg := hσ.get _ (.head _)
  simp only at hg
  rw [hg]
  have hl : (strs xs).length = n := by unfold strs; rw [List.length_map, hn]
  have h1 : strsOf (((strs xs).drop 0).take n) = some xs := by
    rw [List.drop_zero, List.take_of_length_le (by omega), strsOf_strs]
  have h2 : (Lib.join (xs.map (·.data.toList)) (⟨#[32]⟩ : ByteArray).data.toList).length ≤ 140737488355328 := by
    have h3 : s.size = (Lib.join (xs.map (·.data.toList)) [32]).length := by rw [hs]; exact List.size_toArray
    have : (⟨#[32]⟩ : ByteArray).data.toList = [32] := rfl
    rw [this]; omega
  simp only
  rw [if_pos ⟨trivial, by omega, by omega⟩, h1]
  simp only
  rw [if_pos h2, hs]
theorem p_33a (id : Nat) (a b : ByteArray) (ha : a.size ≤ 100) (hb : b.size ≤ 100) : FnC Tryz.prog (glP m e2 e3) 33 [.sl id 0 3 none] [(id, .cells 9 1 true [[.s (.string a)], [.s (.string ⟨#[45]⟩)], [.s (.string b)]])] (fun v Hn => v = .s (.string (a ++ midS ++ b)) ∧ Hn = []) :=
  words_fn (xs := [a, ⟨#[45]⟩, b]) (fun _ => rfl) (p_74 (xs := [a, ⟨#[45]⟩, b]) rfl (by omega) (join3 a b).symm (by rw [ByteArray.size_append, ByteArray.size_append, show midS.size = 3 from rfl]; omega))
theorem p_33b (id : Nat) (a : ByteArray) (ha : a.size ≤ 100) : FnC Tryz.prog (glP m e2 e3) 33 [.sl id 0 3 none] [(id, .cells 9 1 true [[.s (.string a)], [.s (.string ⟨#[45]⟩)], [.s (.string ⟨#[98, 121, 101]⟩)]])] (fun v Hn => v = .s (.string (a ++ endS)) ∧ Hn = []) :=
  words_fn (xs := [a, ⟨#[45]⟩, ⟨#[98, 121, 101]⟩]) (fun _ => rfl) (p_74 (xs := [a, ⟨#[45]⟩, ⟨#[98, 121, 101]⟩]) rfl (by omega) (join3b a).symm (by rw [ByteArray.size_append, show endS.size = 6 from rfl]; omega))
end
end Go.Proofs.YtnhnlkljcfbhfaaGreatDoor
/- ReportPairings, joined: names, cuts, Repeat, Index, Equal over the table. -/
namespace Go.Proofs.YtnhnlkljcfbhfaaGreatDoor
open Go Go.Ab
section
variable {m : Int} {e2 e3 : Value}
def cutA (s : ByteArray) : ByteArray := ⟨(Lib.cut s.data.toList [32, 45, 32]).1.toArray⟩
def cutB (s : ByteArray) : ByteArray := ⟨(Lib.cut s.data.toList [32, 45, 32]).2.1.toArray⟩
def cutT (s : ByteArray) : Bool := (Lib.cut s.data.toList [32, 45, 32]).2.2
theorem p_43 (s : ByteArray) (hs : s.size ≤ 100) : FnC Tryz.prog (glP m e2 e3) 43 [.s (.string s), .s (.string ⟨#[32, 45, 32]⟩)] [] (fun v Hn => v = .s (.tuple #[.string (cutA s), .string (cutB s), .bool (cutT s)]) ∧ Hn = []) := by
  refine Fn_orc (v := .s (.tuple #[.string (cutA s), .string (cutB s), .bool (cutT s)])) ?_ ⟨rfl, rfl⟩
  show cutC [.s (.string s), .s (.string ⟨#[32, 45, 32]⟩)] = _
  unfold cutC
  dsimp only
  rw [if_pos (by omega)]
  rfl
theorem p_83 {n : Nat} (h1 : 1 ≤ n) (h2 : n ≤ 16) : FnC Tryz.prog (glP m e2 e3) 83 [.s (.int .u64 1), .s (.int .u64 n)] [] (fun v Hn => v = .s (.tuple #[.int .u64 0, .int .u64 n]) ∧ Hn = []) := by
  refine Fn_orc (v := .s (.tuple #[.int .u64 0, .int .u64 n])) ?_ ⟨rfl, rfl⟩
  show mulC [.s (.int .u64 1), .s (.int .u64 n)] = _
  unfold mulC
  dsimp only
  rw [if_pos ⟨rfl, by omega, by omega⟩]
theorem p_48 {n : Nat} (h1 : 1 ≤ n) (h2 : n ≤ 16) (xid : Nat) : FnC Tryz.prog (glP m e2 e3) 48 [.sl xid 0 1 none, .s (.int .i64 n)] [(xid, .cells 3 1 true [[.s (.int .i64 (-2))]])] (fun v Hn => ∃ id, v = .sl id 0 n none ∧ Hn = [(id, .cells 3 1 true (fillR n n))]) :=
  repeat_fn h1 (by omega) (fun _ _ => rfl) (p_83 h1 h2)
end
end Go.Proofs.YtnhnlkljcfbhfaaGreatDoor
/- ReportPairings, joined: names over the table. -/
namespace Go.Proofs.YtnhnlkljcfbhfaaGreatDoor
open Go Go.Ab
section
variable {m : Int} {e2 e3 : Value} {xs ys : List ByteArray} {na la : AV}
theorem p_51 (hsk : SlK 1 na (xs.map fun x => [AV.s (.string x)])) (hb : xs.length ≤ 9223372036854775807) (hz : ∀ x ∈ xs, x.size ≤ 9223372036854775807) : FnC Tryz.prog (glP m e2 e3) 51 [na, .s (.int .i64 2), .s (.int .i64 12)] [] (fun v Hn => v = .s (.bool (namedB xs 2 12)) ∧ Hn = []) :=
  named_fn hsk hb hz 2 12 (fun _ _ _ => rfl) (fun _ => rfl) (fun _ _ => rfl) (fun _ _ => rfl)
theorem p_49 (hsk : SlK 1 na (xs.map fun x => [AV.s (.string x)])) (hb : xs.length ≤ 9223372036854775807) (w : ByteArray) : FnC Tryz.prog (glP m e2 e3) 49 [na, .s (.string w)] [] (fun v Hn => v = .s (.int .i64 (idxS xs w)) ∧ Hn = []) :=
  index_fn (H0 := []) List.nodup_nil (.v hsk.v) hb w rfl
theorem p_47 (hsk : SlK 1 na (xs.map fun x => [AV.s (.string x)])) (hb : xs.length ≤ 9223372036854775807) (hz : ∀ x ∈ xs, x.size ≤ 9223372036854775807) : FnC Tryz.prog (glP m e2 e3) 47 [na] [] (fun v Hn => v = .s (.bool (playersB xs)) ∧ Hn = []) :=
  players_fn (fun _ => rfl) (p_51 hsk hb hz) (contains_fn (H0 := []) List.nodup_nil _ rfl (p_49 hsk hb _))
theorem p_22 (hsk : SlK 1 na (xs.map fun x => [AV.s (.string x)])) (hb : xs.length ≤ 9223372036854775807) (hz : ∀ x ∈ xs, x.size ≤ 9223372036854775807) : FnC Tryz.prog (glP m e2 e3) 22 [na] [] (fun v Hn => v = .s (.bool (playersB xs)) ∧ Hn = []) :=
  lplayers_fn hsk.v hb (fun _ => rfl) (lnamed_fn hsk.v hb hz 2 12 (fun _ _ _ => rfl) (fun _ => rfl))
end
end Go.Proofs.YtnhnlkljcfbhfaaGreatDoor
/- ReportPairings, joined: the law over the table. -/
namespace Go.Proofs.YtnhnlkljcfbhfaaGreatDoor
open Go Go.Ab
section
variable {m : Int} {e2 e3 : Value} {xs ys : List ByteArray} {op : List Int} {wh : List Bool} {na la ov wv : AV}
theorem players_len (h : playersB xs = true) : 2 ≤ xs.length ∧ xs.length ≤ 12 ∧ ∀ x ∈ xs, 1 ≤ x.size := by
  unfold playersB namedB at h
  simp only [Bool.and_eq_true, decide_eq_true_eq] at h
  obtain ⟨⟨h1, h2, h3⟩, -⟩ := h
  exact ⟨by omega, by omega, fun x hx => validN_size (okN_valid h1 x hx)⟩
theorem fewS_len {g : Nat} (h : fewS xs g = true) : xs.length ≤ g ∧ ∀ x ∈ xs, x.size ≤ 100 := by
  unfold fewS at h
  rw [Bool.and_eq_true, decide_eq_true_eq, decide_eq_true_eq] at h
  obtain ⟨h1, h2⟩ := h
  rw [List.take_of_length_le h2] at h1
  exact ⟨h2, h1⟩
theorem p_20 {H0 : List (Nat × AObj)} (hnd0 : (H0.map (·.1)).Nodup) (hsk : SlK 1 na (xs.map fun x => [AV.s (.string x)])) (hso : SlH H0 1 ov (op.map fun x => [.s (.int .i64 x)])) (hsw : SlH H0 1 wv (wh.map fun x => [.s (.bool x)]))
    (hb2 : op.length ≤ 9223372036854775807) (hb3 : wh.length ≤ 9223372036854775807) (hf : fewS xs 13 = true) (hp : playersB xs = true) : FnC Tryz.prog (glP m e2 e3) 20 [na, mkAgg [ov, wv]] H0 (R20 xs op wh) := by
  obtain ⟨h2, h12, h1⟩ := players_len hp
  obtain ⟨h13, hz⟩ := fewS_len hf
  have h47 := p_47 (m := m) (e2 := e2) (e3 := e3) hsk (by omega) (fun x hx => by have := hz x hx; omega)
  rw [hp] at h47
  exact pairing_fn hnd0 hsk.v hso hsw (by omega) hb2 hb3 (fun _ _ => rfl) h47 h2 h12 hz p_33a p_33b
theorem p_23 {H0 : List (Nat × AObj)} (hnd0 : (H0.map (·.1)).Nodup) (hsk : SlK 1 na (xs.map fun x => [AV.s (.string x)])) (hso : SlH H0 1 ov (op.map fun x => [.s (.int .i64 x)])) (hsw : SlH H0 1 wv (wh.map fun x => [.s (.bool x)]))
    (hb2 : op.length ≤ 9223372036854775807) (hb3 : wh.length ≤ 9223372036854775807) (hf : fewS xs 13 = true) (hp : playersB xs = true) : FnC Tryz.prog (glP m e2 e3) 23 [na, mkAgg [ov, wv]] H0 (R23 xs op wh) := by
  obtain ⟨h2, h12, h1⟩ := players_len hp
  obtain ⟨h13, hz⟩ := fewS_len hf
  exact pairs_fn hnd0 hsk.v hso hsw (by omega) hb2 hb3 (fun _ _ => rfl) h2 h12 hz h1
theorem p_21 (hsk : SlK 1 na (xs.map fun x => [AV.s (.string x)])) (hsl2 : SlV 1 la (ys.map fun x => [AV.s (.string x)])) (hf : fewS xs 13 = true) (hg : fewS ys 8 = true) (hp : playersB xs = true) : FnC Tryz.prog (glP m e2 e3) 21 [na, la] [] (R21 xs ys) := by
  obtain ⟨h2, h12, h1⟩ := players_len hp
  obtain ⟨h13, hz⟩ := fewS_len hf
  obtain ⟨h8, hy⟩ := fewS_len hg
  have h47 := p_47 (m := m) (e2 := e2) (e3 := e3) hsk (by omega) (fun x hx => by have := hz x hx; omega)
  rw [hp] at h47
  refine parsep_fn hsk.v hsl2 h2 h12 (by omega) hy (fun _ _ => rfl) h47 (fun xid => p_48 (by omega) (by omega) xid) cutA cutB cutT p_43 (fun rid wid op wh hne hlo hlw => ?_) (fun id ls hls => ?_) (fun w => p_49 hsk (by omega) w)
  · refine p_20 ?_ hsk (.o (.tail _ (.head _)) (by rw [List.length_map, hlo])) (.o (.head _) (by rw [List.length_map, hlw])) (by omega) (by omega) hf hp
    simp only [List.map_cons, List.map_nil, List.nodup_cons, List.mem_singleton, List.not_mem_nil, not_false_eq_true, List.nodup_nil, and_true]
    exact hne
  · exact equal_fn (G := glP m e2 e3) (H0 := [(id, .cells 9 1 false (strs ls))]) (by simp) (.o (.head _) (by rw [List.length_map])) (.v hsl2) (by omega) (by omega) (fun _ _ => rfl)
theorem R20_t {v : AV} {Hn : List (Nat × AObj)} (hR : Right xs op wh) (h : R20 xs op wh v Hn) : ∃ id, v = .tup [.sl id 0 (linesP xs op wh).length none, .s (.int .i64 0)] ∧ Hn = [(id, .cells 9 1 false (strs (linesP xs op wh)))] := by
  rcases h with ⟨_, h⟩ | ⟨h, _⟩
  · exact h
  · exact absurd hR h
theorem R20_f {v : AV} {Hn : List (Nat × AObj)} (hR : ¬ Right xs op wh) (h : R20 xs op wh v Hn) : v = .s (.tuple #[.slice none 0 0, .int .i64 2]) ∧ Hn = [] := by
  rcases h with ⟨h, _⟩ | ⟨_, h⟩
  · exact absurd h hR
  · exact h
theorem R23_t {v : AV} {Hn : List (Nat × AObj)} (hR : Right xs op wh) (h : R23 xs op wh v Hn) : ∃ id, v = .tup [.sl id 0 (linesP xs op wh).length none, .s (.bool true)] ∧ Hn = [(id, .cells 9 1 false (strs (linesP xs op wh)))] := by
  rcases h with ⟨_, h⟩ | ⟨h, _⟩
  · exact h
  · exact absurd hR h
theorem R23_f {v : AV} {Hn : List (Nat × AObj)} (hR : ¬ Right xs op wh) (h : R23 xs op wh v Hn) : v = .s (.tuple #[.slice none 0 0, .bool false]) ∧ Hn = [] := by
  rcases h with ⟨h, _⟩ | ⟨_, h⟩
  · exact absurd h hR
  · exact h
theorem p_23o (hsk : SlK 1 na (xs.map fun x => [AV.s (.string x)])) (hf : fewS xs 13 = true) (hp : playersB xs = true) (rid wid : Nat) (op2 : List Int) (wh2 : List Bool) (hne : rid ≠ wid) (hlo : op2.length = xs.length) (hlw : wh2.length = xs.length) (hR : Right xs op2 wh2) :
    FnC Tryz.prog (glP m e2 e3) 23 [na, mkAgg [.sl rid 0 xs.length none, .sl wid 0 xs.length none]] [(rid, .cells 3 1 true (op2.map fun x => [AV.s (.int .i64 x)])), (wid, .cells 4 1 true (wh2.map fun x => [AV.s (.bool x)]))] (fun v Hn => ∃ id, v = .tup [.sl id 0 (linesP xs op2 wh2).length none, .s (.bool true)] ∧ Hn = [(id, .cells 9 1 false (strs (linesP xs op2 wh2)))]) := by
  obtain ⟨h2, h12, h1⟩ := players_len hp
  refine FnC.mono (p_23 (H0 := [(rid, .cells 3 1 true (op2.map fun x => [AV.s (.int .i64 x)])), (wid, .cells 4 1 true (wh2.map fun x => [AV.s (.bool x)]))]) ?_ hsk (.o (.head _) (by rw [List.length_map, hlo])) (.o (.tail _ (.head _)) (by rw [List.length_map, hlw])) (by omega) (by omega) hf hp) fun v Hn h => R23_t hR h
  simp only [List.map_cons, List.map_nil, List.nodup_cons, List.mem_singleton, List.not_mem_nil, not_false_eq_true, List.nodup_nil, and_true]
  exact hne
theorem law5_fn (hsk : SlK 1 na (xs.map fun x => [AV.s (.string x)])) (hsl2 : SlV 1 la (ys.map fun x => [AV.s (.string x)])) (hso : SlV 1 ov (op.map fun x => [.s (.int .i64 x)])) (hsw : SlV 1 wv (wh.map fun x => [.s (.bool x)]))
    (hb : xs.length ≤ 9223372036854775807) (hz : ∀ x ∈ xs, x.size ≤ 9223372036854775807) (hb2 : ys.length ≤ 9223372036854775807) :
    FnC Tryz.prog (glP m e2 e3) 5 [na, mkAgg [ov, wv], la] [] (fun v Hn => v = .s (.bool true) ∧ Hn = []) := by
  have hG : Prs (glP m e2 e3) xs ys na la := ⟨fun _ _ _ => rfl, Fn_orc (v := .s (.bool true)) rfl ⟨rfl, rfl⟩, few_fn hsl2 hb2 8 (by decide) rfl, few_fn hsk.v hb 13 (by decide) rfl⟩
  by_cases hk : 13 < xs.length ∨ 13 < op.length ∨ 13 < wh.length ∨ fewS ys 8 = false ∨ fewS xs 13 = false
  · exact law5_k hG hsk.v hso hsw hk
  have h1 : xs.length ≤ 13 := by
    by_cases h : 13 < xs.length
    · exact absurd (.inl h) hk
    · omega
  have h2 : op.length ≤ 13 := by
    by_cases h : 13 < op.length
    · exact absurd (.inr (.inl h)) hk
    · omega
  have h3 : wh.length ≤ 13 := by
    by_cases h : 13 < wh.length
    · exact absurd (.inr (.inr (.inl h))) hk
    · omega
  have h4 : fewS ys 8 = true := by
    cases h : fewS ys 8 with
    | true => rfl
    | false => exact absurd (.inr (.inr (.inr (.inl h)))) hk
  have h5 : fewS xs 13 = true := by
    cases h : fewS xs 13 with
    | true => rfl
    | false => exact absurd (.inr (.inr (.inr (.inr h)))) hk
  have h22 := p_22 (m := m) (e2 := e2) (e3 := e3) hsk hb hz
  have h47 := p_47 (m := m) (e2 := e2) (e3 := e3) hsk hb hz
  cases hp : playersB xs with
  | false =>
    rw [hp] at h22 h47
    exact law5_np hG hsk.v hso hsw h1 h2 h3 h4 h5 (pairing_np (H0 := []) List.nodup_nil hsk.v (.v hso) (.v hsw) hb (by omega) (by omega) (fun _ _ => rfl) h47) (parsep_np (fun _ _ => rfl) h47) h22
  | true =>
    rw [hp] at h22
    have h11 : ∀ (a : Nat) (ls : List ByteArray), ls = ys → FnC Tryz.prog (glP m e2 e3) 11 [.sl a 0 ls.length none, la] [(a, .cells 9 1 false (strs ls))] (fun v Hn => v = .s (.bool true) ∧ Hn = []) := fun a ls e => by
      subst e
      exact same_ov ls (by have := (fewS_len h4).1; omega) hsl2 rfl
    have h20 := p_20 (m := m) (e2 := e2) (e3 := e3) (H0 := []) List.nodup_nil hsk (.v hso) (.v hsw) (by omega) (by omega) h5 hp
    have h23 := p_23 (m := m) (e2 := e2) (e3 := e3) (H0 := []) List.nodup_nil hsk (.v hso) (.v hsw) (by omega) (by omega) h5 hp
    by_cases hR : Right xs op wh
    · refine law5_t hG hsk.v hso hsw h1 h2 h3 h4 h5 (h20.mono fun v Hn h => R20_t hR h) (h23.mono fun v Hn h => R23_t hR h) (p_21 hsk hsl2 h5 h4 hp) h22 (p_23o hsk h5 hp) h11 fun a b hab => ?_
      exact same_oo (linesP xs op wh) (by have := linesP_len xs op wh; omega) hab rfl
    · exact law5_f hG hsk.v hso hsw h1 h2 h3 h4 h5 (h20.mono fun v Hn h => R20_f hR h) (h23.mono fun v Hn h => R23_f hR h) (p_21 hsk hsl2 h5 h4 hp) h22 (p_23o hsk h5 hp) h11
end
end Go.Proofs.YtnhnlkljcfbhfaaGreatDoor
/- What the listed tables are, as rows: for all laws of this seat. -/
namespace Go.Proofs.YtnhnlkljcfbhfaaGreatDoor
open Go Go.Ab Go.ChangeShapes Go.WideShapes Go.ChangeAt Go.WideElems Go.RowKit
def laidT : List (String × DataW Unit) := [("caissa/piece.kinds", Rows.laid_caissa_piece_kinds), ("math/bits.deBruijn32tab", Rows.laid_math_bits_deBruijn32tab), ("math/bits.deBruijn64tab", Rows.laid_math_bits_deBruijn64tab), ("internal/strconv.uint64pow10", Rows.laid_internal_strconv_uint64pow10), ("unicode/utf8.acceptRanges", Rows.laid_unicode_utf8_acceptRanges), ("caissa/ray.straight", Rows.laid_caissa_ray_straight), ("caissa/ray.diagonal", Rows.laid_caissa_ray_diagonal), ("caissa/ray.leaps", Rows.laid_caissa_ray_leaps), ("strconv.ErrRange", Rows.laid_strconv_ErrRange), ("strconv.ErrSyntax", Rows.laid_strconv_ErrSyntax), ("caissa/position.full", Rows.laid_caissa_position_full), ("unicode/utf8.first", Rows.laid_unicode_utf8_first)]
theorem gn0 : Tryz.prog.globalNamed "caissa/piece.kinds" = some 0 := by kernel_rfl
theorem gn2 : Tryz.prog.globalNamed "strconv.ErrSyntax" = some 2 := by kernel_rfl
theorem gn3 : Tryz.prog.globalNamed "strconv.ErrRange" = some 3 := by kernel_rfl
theorem gn4 : Tryz.prog.globalNamed "caissa/position.full" = some 4 := by kernel_rfl
theorem gn5 : Tryz.prog.globalNamed "internal/strconv.uint64pow10" = some 5 := by kernel_rfl
theorem gn8 : Tryz.prog.globalNamed "math/bits.deBruijn32tab" = some 8 := by kernel_rfl
theorem gn9 : Tryz.prog.globalNamed "math/bits.deBruijn64tab" = some 9 := by kernel_rfl
theorem gn10 : Tryz.prog.globalNamed "caissa/ray.leaps" = some 10 := by kernel_rfl
theorem gn11 : Tryz.prog.globalNamed "caissa/ray.diagonal" = some 11 := by kernel_rfl
theorem gn12 : Tryz.prog.globalNamed "caissa/ray.straight" = some 12 := by kernel_rfl
theorem gt0 : (Tryz.prog.globals[0]?).map (·.type) = some 136 := by kernel_rfl
theorem gt2 : (Tryz.prog.globals[2]?).map (·.type) = some 97 := by kernel_rfl
theorem gt3 : (Tryz.prog.globals[3]?).map (·.type) = some 97 := by kernel_rfl
theorem gt4 : (Tryz.prog.globals[4]?).map (·.type) = some 23 := by kernel_rfl
theorem gt5 : (Tryz.prog.globals[5]?).map (·.type) = some 239 := by kernel_rfl
theorem gt8 : (Tryz.prog.globals[8]?).map (·.type) = some 265 := by kernel_rfl
theorem gt9 : (Tryz.prog.globals[9]?).map (·.type) = some 266 := by kernel_rfl
theorem gt10 : (Tryz.prog.globals[10]?).map (·.type) = some 278 := by kernel_rfl
theorem gt11 : (Tryz.prog.globals[11]?).map (·.type) = some 280 := by kernel_rfl
theorem gt12 : (Tryz.prog.globals[12]?).map (·.type) = some 280 := by kernel_rfl
theorem dc0 : (datCells Tryz.prog 5 136 Rows.laid_caissa_piece_kinds).map (·.map AV.s) = some rw0 := by kernel_rfl
theorem dc4 : (datCells Tryz.prog 5 23 Rows.laid_caissa_position_full).map (·.map AV.s) = some rw4 := by kernel_rfl
theorem dc5 : (datCells Tryz.prog 5 239 Rows.laid_internal_strconv_uint64pow10).map (·.map AV.s) = some rw5 := by kernel_rfl
theorem dc8 : (datCells Tryz.prog 5 265 Rows.laid_math_bits_deBruijn32tab).map (·.map AV.s) = some rw8 := by kernel_rfl
theorem dc9 : (datCells Tryz.prog 5 266 Rows.laid_math_bits_deBruijn64tab).map (·.map AV.s) = some rw9 := by kernel_rfl
theorem dc10 : (datCells Tryz.prog 5 278 Rows.laid_caissa_ray_leaps).map (·.map AV.s) = some rw10 := by kernel_rfl
theorem dc11 : (datCells Tryz.prog 5 280 Rows.laid_caissa_ray_diagonal).map (·.map AV.s) = some rw11 := by kernel_rfl
theorem dc12 : (datCells Tryz.prog 5 280 Rows.laid_caissa_ray_straight).map (·.map AV.s) = some rw12 := by kernel_rfl
theorem held_dat {w : World} {enc : TypeId × Value → Unit} {spare : Nat → Bool} {held : Bool} {nm : String} {g g' : Nat} {t t' : TypeId} {cs : Array Value} {fuel : Nat} {d : DataW Unit} {ps : List MemPlace} {row : List AV} (hn : Tryz.prog.globalNamed nm = some g) (ht : (Tryz.prog.globals[g]?).map (·.type) = some t) (hc : (datCells Tryz.prog 5 t d).map (·.map AV.s) = some row)
    (hg : Tryz.prog.globalNamed nm = some g') (ht' : (Tryz.prog.globals[g']?).map (·.type) = some t') (hv : w.var? Tryz.prog nm = some cs) (hd : DataW.trod enc Tryz.prog w 0 spare held fuel t' cs.toList = some (d, ps)) : Held w g row := by
  obtain rfl := Option.some.inj (hn.symm.trans hg)
  obtain rfl := Option.some.inj (ht.symm.trans ht')
  obtain ⟨vs, hvs, rfl⟩ := Option.map_eq_some_iff.1 hc
  exact Held.of_dat hg hv hd hvs rfl
theorem held_err {w : World} {enc : TypeId × Value → Unit} {spare : Nat → Bool} {held : Bool} {nm nt : String} {g g' : Nat} {t' : TypeId} {cs : Array Value} {fuel : Nat} {d : DataW Unit} {ps : List MemPlace} (hn : Tryz.prog.globalNamed nm = some g) (ht : (Tryz.prog.globals[g]?).map (·.type) = some 97)
    (hg : Tryz.prog.globalNamed nm = some g') (ht' : (Tryz.prog.globals[g']?).map (·.type) = some t') (hv : w.var? Tryz.prog nm = some cs) (hd : DataW.trod enc Tryz.prog w 0 spare held fuel t' cs.toList = some (.iface nt d, ps)) : ∃ v, Held w g [.s v] ∧ (v = .nilIface ∨ ∃ te pe, v = .iface te pe) := by
  obtain rfl := Option.some.inj (hn.symm.trans hg)
  obtain rfl := Option.some.inj (ht.symm.trans ht')
  exact Held.of_err hg hv Tryz.underlying97 hd
theorem held_max {w : World} (hs : w.ShapedOpen Tryz.prog) : ∃ m, Held w 1 [.s (.int .i64 m)] := by
  obtain ⟨m, hm⟩ := Go.Proofs.cell_of_shapedOpen_int (g := 1) (zero := #[.int .i64 0]) (t := 3) hs (of_decide_eq_true (by kernel_rfl)) (by kernel_rfl) rfl (by kernel_rfl) (by kernel_rfl) Tryz.underlying3
  obtain ⟨cs, hh, hsz, _⟩ := hs.1 1 #[.int .i64 0] 3 (of_decide_eq_true (by kernel_rfl)) (by kernel_rfl)
  refine ⟨m, [.int .i64 m], rfl, cs, 3, _, hh, ?_⟩
  have h1 : cs.size = 1 := hsz
  simp only [World.cell?, hh] at hm
  obtain ⟨l⟩ := cs
  match l, h1 with
  | [v], _ => simpa using hm
theorem of_laid {W : World} (h : laidMetH Tryz.prog laidT W) (hs : W.ShapedOpen Tryz.prog) : ∃ m e2 e3, GlOk (memOf W) (fun _ => none) (glK m e2 e3) ∧ (e2 = .nilIface ∨ ∃ te pe, e2 = .iface te pe) ∧ (e3 = .nilIface ∨ ∃ te pe, e3 = .iface te pe) := by
  rw [MakeChecks.laidMetH_plain _ _ _ (by kernel_rfl)] at h
  obtain ⟨ps, ⟨_, _, _, _, _, _, hg0, ht0, hv0, hd0, ⟨_, _, _, _, _, _, hg8, ht8, hv8, hd8, ⟨_, _, _, _, _, _, hg9, ht9, hv9, hd9, ⟨_, _, _, _, _, _, hg5, ht5, hv5, hd5, ⟨_, _, _, _, _, _, _, _, _, _, ⟨_, _, _, _, _, _, hg12, ht12, hv12, hd12, ⟨_, _, _, _, _, _, hg11, ht11, hv11, hd11, ⟨_, _, _, _, _, _, hg10, ht10, hv10, hd10, ⟨_, _, _, _, _, _, hg3, ht3, hv3, hd3, ⟨_, _, _, _, _, _, hg2, ht2, hv2, hd2, ⟨_, _, _, _, _, _, hg4, ht4, hv4, hd4, _, _⟩, _⟩, _⟩, _⟩, _⟩, _⟩, _⟩, _⟩, _⟩, _⟩, _⟩, _, _⟩ := h
  have k0 := held_dat gn0 gt0 dc0 hg0 ht0 hv0 hd0
  have k8 := held_dat gn8 gt8 dc8 hg8 ht8 hv8 hd8
  have k9 := held_dat gn9 gt9 dc9 hg9 ht9 hv9 hd9
  have k5 := held_dat gn5 gt5 dc5 hg5 ht5 hv5 hd5
  have k12 := held_dat gn12 gt12 dc12 hg12 ht12 hv12 hd12
  have k11 := held_dat gn11 gt11 dc11 hg11 ht11 hv11 hd11
  have k10 := held_dat gn10 gt10 dc10 hg10 ht10 hv10 hd10
  have k4 := held_dat gn4 gt4 dc4 hg4 ht4 hv4 hd4
  obtain ⟨e3, k3, q3⟩ := held_err gn3 gt3 hg3 ht3 hv3 hd3
  obtain ⟨e2, k2, q2⟩ := held_err gn2 gt2 hg2 ht2 hv2 hd2
  obtain ⟨m, k1⟩ := held_max hs
  refine ⟨m, e2, e3, fun g row hr => ?_, q2, q3⟩
  have hr' : rowsR m e2 e3 g = some row := hr
  unfold rowsR at hr'
  split at hr' <;> cases hr'
  · exact k0.mem
  · exact k1.mem
  · exact k2.mem
  · exact k3.mem
  · exact k4.mem
  · exact k5.mem
  · exact k8.mem
  · exact k9.mem
  · exact k10.mem
  · exact k11.mem
  · exact k12.mem
theorem own : ownKnob Tryz.prog.godebug = none := by kernel_rfl
theorem laidOut : laidOutB Tryz.prog = true := by kernel_rfl
theorem run_of {m : Int} {e2 e3 : Value} {f : FuncId} {args : List AV} (h : FnC Tryz.prog (glK m e2 e3) f args [] (fun v Hn => v = .s (.bool true) ∧ Hn = [])) : ∃ n σ, runCall Tryz.prog (glK m e2 e3) n f args = some (.s (.bool true), σ) := by
  obtain ⟨n, v, σ, h1, Hn, _, _, rfl, _⟩ := wpf_run (h ⟨.e, 0, none⟩ (.start rfl (fun id _ => by simp [Tr.get_e]) List.nodup_nil (fun p hp => by cases hp)))
  exact ⟨n, σ, h1⟩
theorem shaped_wit (os : Os) : (World.laidAll Tryz.prog os laidT).Shaped Tryz.prog := World.shaped_of_ZipB (by kernel_rfl) (by kernel_rfl)
theorem met_wit (os : Os) (args : Array Value) : laidMetH Tryz.prog laidT ((World.laidAll Tryz.prog os laidT).forCall (fun _ _ => 0) ⟨#[], args, []⟩).memory := by
  rw [MakeChecks.laidMetH_plain _ _ _ (by kernel_rfl)]; exact laidMet_laidAll _ (by kernel_rfl) (by kernel_rfl)
end Go.Proofs.YtnhnlkljcfbhfaaGreatDoor
