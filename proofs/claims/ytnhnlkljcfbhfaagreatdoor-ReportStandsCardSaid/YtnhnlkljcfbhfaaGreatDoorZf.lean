/- Lists of numbers compared. -/
import Derived.Test.YtnhnlkljcfbhfaaGreatDoorZe
import Derived.Test.YtnhnlkljcfbhfaaGreatDoorZc
namespace Go.Proofs.YtnhnlkljcfbhfaaGreatDoor.Tb
open Go Go.Ab
attribute [local irreducible] SC SL wpc wpl wpd wpf wpy wpn FnC FnW RdW SD
set_option maxRecDepth 100000
set_option maxHeartbeats 2000000
def cmp3 (x y : Int) : Int := if x < y then -1 else if y < x then 1 else 0
theorem compare_fn {G : Gl} (ho : ∀ f x y, offT f = true → G.orc f (x :: y) = none) (x y : Int) : FnC Tryz.prog G 64 [.s (.int .i64 x), .s (.int .i64 y)] [] (fun v Hn => v = .s (.int .i64 (cmp3 x y)) ∧ Hn = []) := by
  refine Fn_body (N := 20) (ho _ _ _ (by rfl)) Tryz.func64 rfl rfl fun B => ?_
  repeat' (first
    | (refine SL_call (by decide) (by rfl) bd57 (by rfl) (by rfl) (isNaN_fn _ (ho _ _ _ (by rfl))) trivial List.nodup_nil ?_; rintro _ _ _ ⟨rfl, rfl⟩; rw [List.nil_append])
    | refine SC_seq ?_
    | refine SC_region ?_
    | refine SL_seq ?_
    | refine SL_move (by decide) (by rfl) ?_
    | refine SL_assign (by decide) (by rfl) ?_
    | (refine SL_lss (by decide) (by rfl) (by rfl) (fun hT => ?_) (fun hT => ?_) <;> first | (exfalso; omega) | skip)
    | (refine SL_gtr (by decide) (by rfl) (by rfl) (fun hT => ?_) (fun hT => ?_) <;> first | (exfalso; omega) | skip)
    | refine SC_cond_t (by rfl) ?_
    | refine SC_cond_f (by rfl) ?_
    | (refine SC_skip' (fun tm σ hE hH => ?_); refine SC.app ?_ hE hH; clear hE hH; clear tm σ)
    | fail)
  all_goals refine SC_ret (fun tm σ hE hH => Post.intro (Hn := []) (.inr rfl) hE hH (by rfl) trivial List.nodup_nil (fun p hp => by cases hp) ⟨?_, rfl⟩)
  · unfold cmp3; rw [if_pos (by assumption)]; rfl
  · unfold cmp3; rw [if_neg (by omega), if_pos (by assumption)]; rfl
  · unfold cmp3; rw [if_neg (by omega), if_neg (by omega)]; rfl
def lexC : List Int → List Int → Int
  | x :: a, y :: b => if x = y then lexC a b else cmp3 x y
  | _, _ => 0
theorem drop_getD {c : List Int} {k : Nat} (h : k < c.length) : c.drop k = c.getD k 0 :: c.drop (k + 1) := by
  rw [List.drop_eq_getElem_cons h, getD_at _ h]
theorem cmp3_ne {x y : Int} (h : cmp3 x y ≠ 0) : x ≠ y := fun e => h (by subst e; simp [cmp3])
theorem cmp3_0 {x y : Int} (h : cmp3 x y = 0) : x = y := by
  unfold cmp3 at h; split at h
  · omega
  · split at h <;> omega
theorem cmp3_bd (x y : Int) : -1 ≤ cmp3 x y ∧ cmp3 x y ≤ 1 := by
  unfold cmp3; split
  · omega
  · split <;> omega
theorem lexC_bd : ∀ a b : List Int, -1 ≤ lexC a b ∧ lexC a b ≤ 1
  | [], _ => by unfold lexC; omega
  | _ :: _, [] => by unfold lexC; omega
  | x :: a, y :: b => by
    unfold lexC; split
    · exact lexC_bd a b
    · exact cmp3_bd x y
section
variable {G : Gl} (ho : ∀ f x y, offT f = true → G.orc f (x :: y) = none) (a b : List Int) (K : Nat) (ha : a.length = K) (hb : b.length = K) (hK : K ≤ 1000) (H : List (Nat × AObj)) (ia ib : Nat) (exa exb : Bool) (hma : (ia, AObj.cells 3 1 exa (ints a)) ∈ H) (hmb : (ib, AObj.cells 3 1 exb (ints b)) ∈ H)
include ho ha hb hK hma hmb
theorem lex_fn : FnC Tryz.prog G 63 [.sl ia 0 K none, .sl ib 0 K none] H (fun v Hn => v = .s (.int .i64 (lexC a b)) ∧ Hn = []) := by
  refine Fn_body (N := 36) (ho _ _ _ (by rfl)) Tryz.func63 rfl rfl fun B => ?_
  refine SC_nd fun hnd0 => ?_
  repeat' (first
    | refine SC_seq ?_
    | refine SC_block ?_
    | refine SC_region ?_
    | refine SL_seq ?_
    | refine SL_move (by decide) (by rfl) ?_
    | refine SL_assign (by decide) (by rfl) ?_
    | refine SL_len_sl (by decide) (by rfl) (by rfl) (sliceOf_spec (slF (by rfl))).1 ?_
    | fail)
  refine SC_loop (fun k : Nat => [(0, .sl ia 0 K none), (1, .sl ib 0 K none), (9, .sl ia 0 K none), (10, .s (.int .i64 K)), (11, .s (.int .i64 k))]) (fun _ => H) (fun _ => []) (fun k => k ≤ K ∧ lexC a b = lexC (a.drop k) (b.drop k)) (fun k => K - k) 0 ⟨by omega, rfl⟩ ⟨rfl, rfl, rfl, rfl, rfl, trivial⟩ (.refl _) hnd0 rfl ?_
  rintro k ⟨hk, hlex⟩
  by_cases hlt : k < K
  · rw [drop_getD (c := a) (by omega), drop_getD (c := b) (by omega)] at hlex
    repeat' (first
      | refine SL_load_o (by decide) (by rfl) hmb row3 (ints_getD _ (by omega)) (by rfl) ?_
      | refine SL_load_o (by decide) (by rfl) hma row3 (ints_getD _ (by omega)) (by rfl) ?_
      | (refine SL_indexAddr_0 (by decide) (by rfl) (by rfl) hmb sl52 k (by omega) (by omega) ?_)
      | (refine SL_indexAddr_0 (by decide) (by rfl) (by rfl) hma sl52 k (by omega) (by omega) ?_)
      | (refine SL_call (by decide) (by rfl) bd34 (by rfl) (by rfl) (compare_fn ho _ _) trivial List.nodup_nil ?_; rintro _ _ _ ⟨rfl, rfl⟩; rw [List.nil_append])
      | refine SC_seq ?_
      | refine SC_block ?_
      | refine SC_region ?_
      | refine SL_seq ?_
      | refine SL_move (by decide) (by rfl) ?_
      | refine SL_assign (by decide) (by rfl) ?_
      | refine SL_add (by decide) (by rfl) (by rfl) (by omega) (by omega) ?_
      | (refine SL_lss (by decide) (by rfl) (by rfl) (fun hT => ?_) (fun hT => ?_) <;> first | (exfalso; omega) | skip)
      | (refine SL_geq (by decide) (by rfl) (by rfl) (fun hT => ?_) (fun hT => ?_) <;> first | (exfalso; omega) | skip)
      | (refine SL_neq (by decide) (by rfl) (by rfl) (fun hT => ?_) (fun hT => ?_) <;> first | (exfalso; omega) | skip)
      | refine SL_len_sl (by decide) (by rfl) (by rfl) (sliceOf_spec (slF (by rfl))).1 ?_
      | refine SC_cond_t (by rfl) ?_
      | refine SC_cond_f (by rfl) ?_
      | (refine SC_skip' (fun tm σ hE hH => ?_); refine SC.app ?_ hE hH; clear hE hH; clear tm σ)
      | fail)
    · refine SC_ret (fun tm σ hE hH => Post.intro (Hn := []) (.inr rfl) hE hH (by rfl) trivial List.nodup_nil (fun p hp => by cases hp) ⟨?_, rfl⟩)
      rw [hlex]; unfold lexC; rw [if_neg (cmp3_ne (by assumption))]; rfl
    · refine SL_nil fun tm σ hE hH => ⟨k + 1, by omega, ⟨by omega, ?_⟩, tm, σ, rfl, hE.sub ⟨rfl, rfl, rfl, rfl, rfl, trivial⟩, hH⟩
      rw [hlex]; conv => lhs; unfold lexC
      rw [if_pos (cmp3_0 (by assumption))]
  · obtain rfl : k = K := by omega
    repeat' (first
      | refine SC_seq ?_
      | refine SC_region ?_
      | refine SL_seq ?_
      | refine SL_move (by decide) (by rfl) ?_
      | refine SL_assign (by decide) (by rfl) ?_
      | (refine SL_lss (by decide) (by rfl) (by rfl) (fun hT => ?_) (fun hT => ?_) <;> first | (exfalso; omega) | skip)
      | refine SL_len_sl (by decide) (by rfl) (by rfl) (sliceOf_spec (slF (by rfl))).1 ?_
      | refine SC_cond_f (by rfl) ?_
      | (refine SC_exit (fun tm σ hE hH => ?_); refine SC.app ?_ hE hH; clear hE hH; clear tm σ)
      | (refine SC_skip' (fun tm σ hE hH => ?_); refine SC.app ?_ hE hH; clear hE hH; clear tm σ)
      | fail)
    refine SC_ret (fun tm σ hE hH => Post.intro (Hn := []) (.inr rfl) hE hH (by rfl) trivial List.nodup_nil (fun p hp => by cases hp) ⟨?_, rfl⟩)
    rw [hlex, List.drop_eq_nil_of_le (by omega), List.drop_eq_nil_of_le (by omega)]; rfl
theorem equal_fn : FnC Tryz.prog G 65 [.sl ia 0 K none, .sl ib 0 K none] H (fun v Hn => v = .s (.bool (decide (a = b))) ∧ Hn = []) := by
  refine Fn_body (N := 26) (ho _ _ _ (by rfl)) Tryz.func65 rfl rfl fun B => ?_
  refine SC_nd fun hnd0 => ?_
  repeat' (first
    | refine SC_seq ?_
    | refine SC_block ?_
    | refine SC_region ?_
    | refine SL_seq ?_
    | refine SL_move (by decide) (by rfl) ?_
    | refine SL_assign (by decide) (by rfl) ?_
    | (refine SL_neq (by decide) (by rfl) (by rfl) (fun hT => ?_) (fun hT => ?_) <;> first | (exfalso; omega) | skip)
    | refine SL_len_sl (by decide) (by rfl) (by rfl) (sliceOf_spec (slF (by rfl))).1 ?_
    | refine SC_cond_f (by rfl) ?_
    | (refine SC_skip' (fun tm σ hE hH => ?_); refine SC.app ?_ hE hH; clear hE hH; clear tm σ)
    | fail)
  refine SC_loop (fun k : Nat => [(0, .sl ia 0 K none), (1, .sl ib 0 K none), (12, .s (.int .i64 K)), (13, .s (.int .i64 k))]) (fun _ => H) (fun _ => []) (fun k => k ≤ K ∧ ∀ j, j < k → a.getD j 0 = b.getD j 0) (fun k => K - k) 0 ⟨by omega, fun j hj => by omega⟩ ⟨rfl, rfl, rfl, rfl, trivial⟩ (.refl _) hnd0 rfl ?_
  rintro k ⟨hk, heq⟩
  by_cases hlt : k < K
  ·
    repeat' (first
      | refine SL_load_o (by decide) (by rfl) hmb row3 (ints_getD _ (by omega)) (by rfl) ?_
      | refine SL_load_o (by decide) (by rfl) hma row3 (ints_getD _ (by omega)) (by rfl) ?_
      | (refine SL_indexAddr_0 (by decide) (by rfl) (by rfl) hmb sl52 k (by omega) (by omega) ?_)
      | (refine SL_indexAddr_0 (by decide) (by rfl) (by rfl) hma sl52 k (by omega) (by omega) ?_)
      | (refine SD_nil (fun tm σ hE hH => ⟨_, _, _, _, _, rfl, hE, hH, fun _ h => (by cases h), ?_⟩); clear hE hH; clear tm σ; intro tm σ hE hH; refine SC.app ?_ hE hH; clear hE hH; clear tm σ)
      | (refine SC_drawn (id := 6) (pl := [(0, []), (1, []), (2, []), (3, []), (4, []), (5, []), (6, []), (7, []), (8, [])]) (by kernel_rfl) (by kernel_rfl) ?_; intro B' base hb1 hb2 hb3 hb4)
      | refine SC_seq ?_
      | refine SC_block ?_
      | refine SC_region ?_
      | refine SL_seq ?_
      | refine SL_move (by decide) (by rfl) ?_
      | refine SL_assign (by decide) (by rfl) ?_
      | refine SL_add (by decide) (by rfl) (by rfl) (by omega) (by omega) ?_
      | (refine SL_lss (by decide) (by rfl) (by rfl) (fun hT => ?_) (fun hT => ?_) <;> first | (exfalso; omega) | skip)
      | (refine SL_neq (by decide) (by rfl) (by rfl) (fun hT => ?_) (fun hT => ?_) <;> first | (exfalso; omega) | skip)
      | refine SC_cond_t (by rfl) ?_
      | refine SC_cond_f (by rfl) ?_
      | (refine SC_skip' (fun tm σ hE hH => ?_); refine SC.app ?_ hE hH; clear hE hH; clear tm σ)
      | (refine SL_nil (fun tm σ hE hH => ⟨_, _, _, _, rfl, hE, hH, ?_⟩); clear hE hH; clear tm σ)
      | refine SD_op _ [] (by rfl) (by rfl) (fun _ h => h) (fun p hp => by cases hp) (fun k hk => by cases hk) (.inl rfl) ?_
      | fail)
    · refine SC_ret (fun tm σ hE hH => Post.intro (Hn := []) (.inr rfl) hE hH (by rfl) trivial List.nodup_nil (fun p hp => by cases hp) ⟨?_, rfl⟩)
      rename_i hne
      rw [decide_eq_false (fun e => by subst e; first | exact hne rfl | exact hT rfl)]; rfl
    · refine SL_nil fun tm σ hE hH => ⟨k + 1, by omega, ⟨by omega, fun j hj => ?_⟩, tm, σ, rfl, hE.sub ⟨rfl, rfl, rfl, rfl, trivial⟩, hH⟩
      by_cases e : j = k
      · subst e; assumption
      · exact heq j (by omega)
  · obtain rfl : k = K := by omega
    repeat' (first
      | refine SC_seq ?_
      | refine SC_region ?_
      | refine SL_seq ?_
      | refine SL_assign (by decide) (by rfl) ?_
      | (refine SL_lss (by decide) (by rfl) (by rfl) (fun hT => ?_) (fun hT => ?_) <;> first | (exfalso; omega) | skip)
      | refine SC_cond_f (by rfl) ?_
      | (refine SC_exit (fun tm σ hE hH => ?_); refine SC.app ?_ hE hH; clear hE hH; clear tm σ)
      | fail)
    refine SC_ret (fun tm σ hE hH => Post.intro (Hn := []) (.inr rfl) hE hH (by rfl) trivial List.nodup_nil (fun p hp => by cases hp) ⟨?_, rfl⟩)
    rw [decide_eq_true (List.ext_getElem (by omega) fun j h1 h2 => by
      have := heq j (by omega)
      rwa [getD_at _ h1, getD_at _ h2] at this)]; rfl
end
theorem or_fn {G : Gl} (ho : ∀ f x y, offT f = true → G.orc f (x :: y) = none) (x y : Int) (id : Nat) (ex : Bool) : FnC Tryz.prog G 62 [.sl id 0 2 none] [(id, .cells 3 1 ex (ints [x, y]))] (fun v Hn => v = .s (.int .i64 (if x ≠ 0 then x else y)) ∧ Hn = []) := by
  refine Fn_body (N := 18) (ho _ _ _ (by rfl)) Tryz.func62 rfl rfl fun B => ?_
  repeat' (first
    | refine SC_seq ?_
    | refine SC_block ?_
    | refine SC_region ?_
    | refine SL_seq ?_
    | refine SL_move (by decide) (by rfl) ?_
    | refine SL_assign (by decide) (by rfl) ?_
    | refine SL_len_sl (by decide) (by rfl) (by rfl) (sliceOf_spec (slF (by rfl))).1 ?_
    | fail)
  refine SC_loop (fun k : Nat => [(0, .sl id 0 2 none), (3, .s (.int .i64 0)), (6, .sl id 0 2 none), (7, .s (.int .i64 2)), (8, .s (.int .i64 k))]) (fun _ => [(id, .cells 3 1 ex (ints [x, y]))]) (fun _ => []) (fun k => k ≤ 2 ∧ (1 ≤ k → x = 0) ∧ (2 ≤ k → y = 0)) (fun k => 2 - k) 0 ⟨by omega, fun h => by omega, fun h => by omega⟩ ⟨rfl, rfl, rfl, rfl, rfl, trivial⟩ ⟨.head _, trivial⟩ (by simp) rfl ?_
  rintro k ⟨hk, h1, h2⟩
  obtain rfl | rfl | rfl : k = 0 ∨ k = 1 ∨ k = 2 := by omega
  ·
    repeat' (first
      | refine SC_seq ?_
      | refine SC_block ?_
      | refine SC_region ?_
      | refine SL_seq ?_
      | refine SL_move (by decide) (by rfl) ?_
      | refine SL_assign (by decide) (by rfl) ?_
      | refine SL_add (by decide) (by rfl) (by rfl) (by omega) (by omega) ?_
      | (refine SL_lss (by decide) (by rfl) (by rfl) (fun hT => ?_) (fun hT => ?_) <;> first | (exfalso; omega) | skip)
      | (refine SL_neq (by decide) (by rfl) (by rfl) (fun hT => ?_) (fun hT => ?_) <;> first | (exfalso; omega) | skip)
      | refine SL_indexAddr_0 (by decide) (by rfl) (by rfl) (by repeat (first | exact .head _ | refine .tail _ ?_)) (slF (by rfl)) _ (by first | rfl | exact (Int.toNat_of_nonneg (by omega)).symm) (by omega) ?_
      | refine SL_load_o (by decide) (by rfl) (by repeat (first | exact .head _ | refine .tail _ ?_)) (rowF (by rfl)) (by first | assumption | rfl) (by rfl) ?_
      | refine SC_cond_t (by rfl) ?_
      | refine SC_cond_f (by rfl) ?_
      | (refine SC_skip' (fun tm σ hE hH => ?_); refine SC.app ?_ hE hH; clear hE hH; clear tm σ)
      | fail)
    · refine SC_ret (fun tm σ hE hH => Post.intro (Hn := []) (.inr rfl) hE hH (by rfl) trivial List.nodup_nil (fun p hp => by cases hp) ⟨?_, rfl⟩)
      rw [if_pos (by assumption)]; rfl
    · exact SL_nil fun tm σ hE hH => ⟨1, by omega, ⟨by omega, fun _ => by assumption, fun h => by omega⟩, tm, σ, rfl, hE.sub ⟨rfl, rfl, rfl, rfl, rfl, trivial⟩, hH⟩
  · have hx := h1 (by omega)
    repeat' (first
      | refine SC_seq ?_
      | refine SC_block ?_
      | refine SC_region ?_
      | refine SL_seq ?_
      | refine SL_move (by decide) (by rfl) ?_
      | refine SL_assign (by decide) (by rfl) ?_
      | refine SL_add (by decide) (by rfl) (by rfl) (by omega) (by omega) ?_
      | (refine SL_lss (by decide) (by rfl) (by rfl) (fun hT => ?_) (fun hT => ?_) <;> first | (exfalso; omega) | skip)
      | (refine SL_neq (by decide) (by rfl) (by rfl) (fun hT => ?_) (fun hT => ?_) <;> first | (exfalso; omega) | skip)
      | refine SL_indexAddr_0 (by decide) (by rfl) (by rfl) (by repeat (first | exact .head _ | refine .tail _ ?_)) (slF (by rfl)) _ (by first | rfl | exact (Int.toNat_of_nonneg (by omega)).symm) (by omega) ?_
      | refine SL_load_o (by decide) (by rfl) (by repeat (first | exact .head _ | refine .tail _ ?_)) (rowF (by rfl)) (by first | assumption | rfl) (by rfl) ?_
      | refine SC_cond_t (by rfl) ?_
      | refine SC_cond_f (by rfl) ?_
      | (refine SC_skip' (fun tm σ hE hH => ?_); refine SC.app ?_ hE hH; clear hE hH; clear tm σ)
      | fail)
    · refine SC_ret (fun tm σ hE hH => Post.intro (Hn := []) (.inr rfl) hE hH (by rfl) trivial List.nodup_nil (fun p hp => by cases hp) ⟨?_, rfl⟩)
      rw [if_neg (by omega)]; rfl
    · exact SL_nil fun tm σ hE hH => ⟨2, by omega, ⟨by omega, fun _ => hx, fun h => by assumption⟩, tm, σ, rfl, hE.sub ⟨rfl, rfl, rfl, rfl, rfl, trivial⟩, hH⟩
  · have hx := h1 (by omega)
    have hy := h2 (by omega)
    repeat' (first
      | refine SC_seq ?_
      | refine SC_region ?_
      | refine SL_seq ?_
      | refine SL_move (by decide) (by rfl) ?_
      | refine SL_assign (by decide) (by rfl) ?_
      | (refine SL_lss (by decide) (by rfl) (by rfl) (fun hT => ?_) (fun hT => ?_) <;> first | (exfalso; omega) | skip)
      | refine SC_cond_f (by rfl) ?_
      | (refine SC_exit (fun tm σ hE hH => ?_); refine SC.app ?_ hE hH; clear hE hH; clear tm σ)
      | fail)
    refine SC_ret (fun tm σ hE hH => Post.intro (Hn := []) (.inr rfl) hE hH (by rfl) trivial List.nodup_nil (fun p hp => by cases hp) ⟨?_, rfl⟩)
    rw [if_neg (by omega), hy]; rfl
end Go.Proofs.YtnhnlkljcfbhfaaGreatDoor.Tb
/- A player's games, one after the other. -/
namespace Go.Proofs.YtnhnlkljcfbhfaaGreatDoor.Tb
open Go Go.Ab
theorem cells_v {es : Nat} {a : AV} {rows : List (List AV)} (h : SlV es a rows) : cellsOf a = [a] := by cases h <;> rfl
theorem build73 (a b : Int) (c : Bool) : effBuild Tryz.prog 153 [(0, .s (.int .i64 a)), (1, .s (.int .i64 b)), (2, .s (.bool c))] = some (.s (.agg #[.int .i64 a, .int .i64 b, .bool c])) := by kernel_rfl
structure Ev where
  k : Int
  o : Int
  p : Int
  c : Bool
def ev1 (k : Nat) (i : Int) (g : Sc) : List Ev := if g.w = i then [⟨k, g.b, g.p, true⟩] else if g.b = i then [⟨k, g.w, 2 - g.p, false⟩] else []
def evR (k : Nat) (i : Int) (gs : List Sc) : List Ev := gs.flatMap (ev1 k i)
def evU (rs : List (List Sc)) (i : Int) : Nat → List Ev
  | 0 => []
  | k + 1 => evU rs i k ++ evR k i (rs[k]?.getD [])
theorem ev1_w {k : Nat} {i : Int} {g : Sc} (h : g.w = i) : ev1 k i g = [⟨k, g.b, g.p, true⟩] := if_pos h
theorem ev1_b {k : Nat} {i : Int} {g : Sc} (h : g.w ≠ i) (h2 : g.b = i) : ev1 k i g = [⟨k, g.w, 2 - g.p, false⟩] := by unfold ev1; rw [if_neg h, if_pos h2]
theorem ev1_n {k : Nat} {i : Int} {g : Sc} (h : g.w ≠ i) (h2 : g.b ≠ i) : ev1 k i g = [] := by unfold ev1; rw [if_neg h, if_neg h2]
theorem evR_next {gs : List Sc} {j : Nat} (h : j < gs.length) (k : Nat) (i : Int) : evR k i (gs.take (j + 1)) = evR k i (gs.take j) ++ ev1 k i gs[j] := take_flat h
theorem evU_next {rs : List (List Sc)} {k : Nat} (h : k < rs.length) (i : Int) : evU rs i (k + 1) = evU rs i k ++ evR k i rs[k] := by
  rw [evU, List.getElem?_eq_getElem h]; rfl
theorem evU_pre (rs : List (List Sc)) (i : Int) : ∀ {k m : Nat}, k ≤ m → evU rs i k <+: evU rs i m := by
  intro k m h
  induction h with
  | refl => exact List.prefix_rfl
  | step _ ih => exact ih.trans (List.prefix_append _ _)
theorem evR_pre {gs : List Sc} {j : Nat} (h : j < gs.length) (k : Nat) (i : Int) : evR k i (gs.take j) ++ ev1 k i gs[j] <+: evR k i gs := by
  rw [← evR_next h]
  exact ⟨evR k i (gs.drop (j + 1)), by unfold evR; rw [← List.flatMap_append, List.take_append_drop]⟩
theorem ev_pre {rs : List (List Sc)} {k j : Nat} (h : k < rs.length) (hj : j < rs[k].length) (i : Int) : evU rs i k ++ evR k i (rs[k].take j) ++ ev1 k i rs[k][j] <+: evU rs i rs.length := by
  refine List.IsPrefix.trans ?_ (evU_pre rs i (k := k + 1) h)
  rw [evU_next h, List.append_assoc]
  exact List.prefix_append_right_inj _ |>.2 (evR_pre hj k i)
attribute [local irreducible] SC SL wpc wpl wpd wpf wpy wpn FnC FnW RdW
set_option maxRecDepth 100000
set_option maxHeartbeats 2000000
theorem gamesOf_fn {G : Gl} {rs : List (List Sc)} {ra : AV} {xs : List AV} (h : RV rs ra xs) (i : Int) (ho : G.orc 85 [ra, .s (.int .i64 i)] = none) :
    FnC Tryz.prog G 85 [ra, .s (.int .i64 i)] [] (fun v Hn => ∃ a b, v = .fn (.func 124) [] [.ptr a 0 0, .ptr b 0 0] ∧ Hn = [(b, .cells 3 1 true [[.s (.int .i64 i)]]), (a, .cells 63 1 true [[ra]])]) := by
  have hsl := h.sl
  refine Fn_body (N := 6) ho Tryz.func85 rfl rfl fun B => ?_
  refine SC_nd fun _ => ?_
  repeat' (first
    | refine SL_makeFunc (by decide) (by rfl) (by rfl) ?_
    | refine SL_box (by decide) (by rfl) (cells_v hsl) (fun id hid => ?_)
    | refine SC_seq ?_
    | refine SC_region ?_
    | refine SL_seq ?_
    | refine SL_assign (by decide) (by rfl) ?_
    | refine SL_box (by decide) (by rfl) (by first | exact cells_3 _ _ _ | rfl) (fun id hid => ?_)
    | fail)
  refine SC_perm (List.Perm.refl _) (SC_nd fun hnd => ?_)
  refine SC_ret (fun tm σ hE hH => Post.intro (Hn := [(_, _), (_, _)]) (.inr rfl) hE hH (by rfl) ⟨.head _, .tail _ (.head _), trivial⟩ hnd ?_ ⟨_, _, rfl, rfl⟩)
  intro p hp
  rcases List.mem_cons.1 hp with rfl | hp
  · assumption
  · rw [List.mem_singleton] at hp; subst hp; assumption
theorem games_fn {G : Gl} {rs : List (List Sc)} {ra : AV} {xs : List AV} (h : RV rs ra xs) (hg : ∀ gs ∈ rs, ∀ g ∈ gs, 0 ≤ g.p ∧ g.p ≤ 2) (i : Int) {l a b : Nat} {M0 : List Nat} {lp : ALoop} (Hs : List Ev → List (Nat × AObj)) (hM : ∀ es, ∀ id ∈ M0, id ∈ (Hs es).map (·.1)) (hB : ∀ es, ∀ p ∈ Hs es, p.1 ∈ M0)
    (hr : ∀ es e, es ++ [e] <+: evU rs i rs.length → RdW Tryz.prog G l [.s (.int .i64 e.k), .s (.agg #[.int .i64 e.o, .int .i64 e.p, .bool e.c])] (l :: M0) ((l, .loop lp) :: Hs es) (fun v Hn => v = .s (.bool true) ∧ Hn = (l, .loop lp) :: Hs (es ++ [e])))
    (ho : G.orc 124 [.yld l, .ptr a 0 0, .ptr b 0 0] = none) :
    FnW Tryz.prog G 124 [.yld l, .ptr a 0 0, .ptr b 0 0] (l :: M0) ((l, .loop lp) :: (b, .cells 3 1 true [[.s (.int .i64 i)]]) :: (a, .cells 63 1 true [[ra]]) :: Hs []) (fun _ Hn => Hn = (l, .loop lp) :: Hs (evU rs i rs.length)) := by
  have hsl := h.sl
  have hlen := h.len
  have hbig := h.big
  have hMk : ∀ (es : List Ev) (id : Nat), id ∈ l :: M0 → id ∈ ((l, AObj.loop lp) :: Hs es).map (·.1) := fun es id hid => by
    rw [List.map_cons]
    rcases List.mem_cons.1 hid with rfl | hid
    · exact List.mem_cons_self
    · exact List.mem_cons_of_mem _ (hM es id hid)
  refine FnW_body (N := 62) ho Tryz.func124 rfl rfl fun B => ?_
  refine SC_perm (H' := (b, .cells 3 1 true [[.s (.int .i64 i)]]) :: (a, .cells 63 1 true [[ra]]) :: (l, .loop lp) :: Hs []) (List.perm_middle (l₁ := [(b, _), (a, _)])).symm (SC_nd fun hnd0 => ?_)
  repeat' (first
    | refine SC_seq ?_
    | refine SC_block ?_
    | refine SC_region ?_
    | refine SL_seq ?_
    | refine SL_move (by decide) (by rfl) ?_
    | refine SL_len_v (by decide) (by rfl) (by assumption) (by rfl) (slF (by rfl)) (by simp only [List.length_map]; first | rfl | assumption) ?_
    | refine SL_load_o (by decide) (by rfl) (by repeat (first | exact .head _ | refine .tail _ ?_)) (rowF (by rfl)) (by first | assumption | rfl) (by rfl) ?_
    | fail)
  refine SC_loop (fun k : Nat => [(0, .yld l), (1, .ptr a 0 0), (2, .ptr b 0 0), (8, ra), (9, .s (.int .i64 xs.length)), (10, .s (.int .i64 k))]) (fun k => (b, .cells 3 1 true [[.s (.int .i64 i)]]) :: (a, .cells 63 1 true [[ra]]) :: (l, .loop lp) :: Hs (evU rs i k)) (fun _ => []) (fun k => k ≤ rs.length) (fun k => rs.length - k) 0 (by omega) ⟨rfl, rfl, rfl, rfl, rfl, rfl, trivial⟩ (.refl _) hnd0 rfl ?_
  intro k hk
  by_cases hlt : k < rs.length
  · obtain ⟨x, hx, hgx⟩ := h.row hlt
    unfold GV at hgx
    have heach := h.each rs[k] (List.getElem_mem hlt)
    refine SC_nd fun hndk => ?_
    repeat' (first
      | refine SC_seq ?_
      | refine SC_block ?_
      | refine SC_region ?_
      | refine SL_seq ?_
      | refine SL_move (by decide) (by rfl) ?_
      | refine SL_assign (by decide) (by rfl) ?_
      | (refine SL_lss (by decide) (by rfl) (by rfl) (fun hT => ?_) (fun hT => ?_) <;> first | (exfalso; omega) | skip)
      | refine SL_len_v (by decide) (by rfl) (by assumption) (by rfl) (slF (by rfl)) (by simp only [List.length_map]; first | rfl | assumption) ?_
      | refine SL_indexAddr_v (by decide) (by rfl) (by rfl) (by assumption) (slF (by rfl)) _ (by first | rfl | exact (Int.toNat_of_nonneg (by omega)).symm) (by simp only [List.length_map]; omega) (fun ad => ?_)
      | refine SL_load_r (by decide) (by rfl) (rowF (by rfl)) (by first | assumption | rfl) (by rfl) ?_
      | refine SC_cond_t (by rfl) ?_
      | (refine SC_skip' (fun tm σ hE hH => ?_); refine SC.app ?_ hE hH; clear hE hH; clear tm σ)
      | fail)
    refine SC_loop (fun j : Nat => [(0, .yld l), (1, .ptr a 0 0), (2, .ptr b 0 0), (8, ra), (9, .s (.int .i64 xs.length)), (10, .s (.int .i64 k)), (4, .s (.int .i64 k)), (15, x), (16, .s (.int .i64 rs[k].length)), (17, .s (.int .i64 j))]) (fun j => (b, .cells 3 1 true [[.s (.int .i64 i)]]) :: (a, .cells 63 1 true [[ra]]) :: (l, .loop lp) :: Hs (evU rs i k ++ evR k i (rs[k].take j))) (fun _ => []) (fun j => j ≤ rs[k].length) (fun j => rs[k].length - j) 0 (by omega) ⟨rfl, rfl, rfl, rfl, rfl, rfl, rfl, rfl, rfl, rfl, trivial⟩
      (by rw [show evR k i (rs[k].take 0) = [] from rfl, List.append_nil]; exact .refl _) (by rw [show evR k i (rs[k].take 0) = [] from rfl, List.append_nil]; exact hndk) rfl ?_
    intro j hj
    by_cases hjlt : j < rs[k].length
    · have hrow : (rs[k].map cells3)[j]? = some (cells3 rs[k][j]) := by rw [List.getElem?_map, List.getElem?_eq_getElem hjlt]; rfl
      have hgj := hg rs[k] (List.getElem_mem hlt) rs[k][j] (List.getElem_mem hjlt)
      have hpre := ev_pre hlt hjlt i
      have hp1 : rs[k][j].w = i → (evU rs i k ++ evR k i (rs[k].take j)) ++ [⟨k, rs[k][j].b, rs[k][j].p, true⟩] <+: evU rs i rs.length := fun e => by rw [ev1_w e] at hpre; exact hpre
      have hp2 : rs[k][j].w ≠ i → rs[k][j].b = i → (evU rs i k ++ evR k i (rs[k].take j)) ++ [⟨k, rs[k][j].w, 2 - rs[k][j].p, false⟩] <+: evU rs i rs.length := fun e e' => by rw [ev1_b e e'] at hpre; exact hpre
      have hnx := evR_next hjlt k i
      repeat' (first
        | (refine SL_yield' (Hr := [_, _, _]) (H0 := _ :: Hs _) (by decide) (by rfl) (by rfl) (hr _ ⟨k, rs[k][j].w, 2 - rs[k][j].p, false⟩ (hp2 (by assumption) (by assumption))) (fun id hid => ⟨.inr hid, hMk _ _ hid⟩) ?_; rintro _ _ ⟨rfl, rfl⟩; simp only [List.cons_append, List.nil_append])
        | (refine SL_yield' (Hr := [_, _, _]) (H0 := _ :: Hs _) (by decide) (by rfl) (by rfl) (hr _ ⟨k, rs[k][j].b, rs[k][j].p, true⟩ (hp1 (by assumption))) (fun id hid => ⟨.inr hid, hMk _ _ hid⟩) ?_; rintro _ _ ⟨rfl, rfl⟩; simp only [List.cons_append, List.nil_append])
        | refine SL_build (by decide) (by rfl) (build73 _ _ _) ?_
        | refine SC_seq ?_
        | refine SC_block ?_
        | refine SC_region ?_
        | refine SL_seq ?_
        | refine SL_run (by rfl) (by rfl) ?_
        | refine SL_not (by rfl) (by rfl) (by rfl) (by decide) ?_
        | refine SL_move (by decide) (by rfl) ?_
        | refine SL_assign (by decide) (by rfl) ?_
        | refine SL_pick_t (by decide) (by rfl) (by rfl) ?_
        | refine SL_pick_f (by decide) (by rfl) (by rfl) ?_
        | refine SL_not_op (by decide) (by rfl) ?_
        | refine SL_add (by decide) (by rfl) (by rfl) (by omega) (by omega) ?_
        | refine SL_sub (by decide) (by rfl) (by rfl) (by omega) (by omega) ?_
        | (refine SL_lss (by decide) (by rfl) (by rfl) (fun hT => ?_) (fun hT => ?_) <;> first | (exfalso; omega) | skip)
        | (refine SL_eql (by decide) (by rfl) (by rfl) (fun hT => ?_) (fun hT => ?_) <;> first | (exfalso; omega) | skip)
        | (refine SL_neq (by decide) (by rfl) (by rfl) (fun hT => ?_) (fun hT => ?_) <;> first | (exfalso; omega) | skip)
        | refine SL_fieldAddr (by decide) (by rfl) (fldF (by rfl)) ?_
        | refine SL_indexAddr_v (by decide) (by rfl) (by rfl) (by assumption) (slF (by rfl)) _ (by first | rfl | exact (Int.toNat_of_nonneg (by omega)).symm) (by simp only [List.length_map]; omega) (fun ad => ?_)
        | refine SL_load_rr (by decide) (by rfl) (rowF (by rfl)) (by first | assumption | rfl) (Nat.le_of_ble_eq_true (by rfl)) (by first | exact mk3 _ | rfl) ?_
        | refine SL_load_o (by decide) (by rfl) (by repeat (first | exact .head _ | refine .tail _ ?_)) (rowF (by rfl)) (by first | assumption | rfl) (by rfl) ?_
        | refine SL_store_box (by rfl) (by rfl) (by first | exact cells_3 _ _ _ | rfl) (by repeat (first | exact .head | refine .tail ?_)) (by first | exact .inl (by assumption) | exact .inr (by simp)) (by rfl) (szF (by rfl)) (by rfl) ?_
        | refine SL_alloc (by decide) (zeroF (by rfl)) (fun id hid => ?_)
        | refine SC_cond_t (by rfl) ?_
        | refine SC_cond_f (by rfl) ?_
        | (refine SC_skip' (fun tm σ hE hH => ?_); refine SC.app ?_ hE hH; clear hE hH; clear tm σ)
        | fail)
      all_goals
        refine SL_nil fun tm σ hE hH => ⟨j + 1, by omega, by omega, tm, σ, rfl, hE.sub ⟨rfl, rfl, rfl, rfl, rfl, rfl, rfl, rfl, rfl, rfl, trivial⟩, ?_⟩
        first
        | rw [hnx, ev1_w (by assumption), ← List.append_assoc]; exact hH.sub (.of_mem fun p hp => List.mem_cons_of_mem _ hp) (List.nodup_cons.1 hH.nodup).2
        | rw [hnx, ev1_b (by assumption) (by assumption), ← List.append_assoc]; exact hH.sub (.of_mem fun p hp => List.mem_cons_of_mem _ hp) (List.nodup_cons.1 hH.nodup).2
        | rw [hnx, ev1_n (by assumption) (by assumption), List.append_nil]; exact hH.sub (.of_mem fun p hp => List.mem_cons_of_mem _ hp) (List.nodup_cons.1 hH.nodup).2
    · obtain rfl : j = rs[k].length := by omega
      rw [List.take_length, ← evU_next hlt]
      repeat' (first
        | refine SC_seq ?_
        | refine SC_region ?_
        | refine SL_seq ?_
        | refine SL_move (by decide) (by rfl) ?_
        | refine SL_add (by decide) (by rfl) (by rfl) (by omega) (by omega) ?_
        | (refine SL_lss (by decide) (by rfl) (by rfl) (fun hT => ?_) (fun hT => ?_) <;> first | (exfalso; omega) | skip)
        | refine SC_cond_f (by rfl) ?_
        | (refine SC_exit (fun tm σ hE hH => ?_); refine SC.app ?_ hE hH; clear hE hH; clear tm σ)
        | fail)
      refine SL_nil fun tm σ hE hH => ⟨k + 1, by omega, by omega, tm, σ, rfl, hE.sub ⟨rfl, rfl, rfl, rfl, rfl, rfl, trivial⟩, hH⟩
  · obtain rfl : k = rs.length := by omega
    repeat' (first
      | refine SC_seq ?_
      | refine SC_region ?_
      | refine SL_seq ?_
      | (refine SL_lss (by decide) (by rfl) (by rfl) (fun hT => ?_) (fun hT => ?_) <;> first | (exfalso; omega) | skip)
      | refine SC_cond_f (by rfl) ?_
      | fail)
    refine SC_exit (fun tm σ hE hH => ?_)
    have hn := (List.nodup_cons.1 (List.nodup_cons.1 hH.nodup).2).2
    refine PostW.intro (vs := []) (Hn := (l, .loop lp) :: Hs _) (.inl rfl) hE hH (by rfl) (.of_mem fun p hp => List.mem_cons_of_mem _ (List.mem_cons_of_mem _ hp)) hn (fun p hp => ?_) rfl
    rcases List.mem_cons.1 hp with rfl | hp
    · exact .inl List.mem_cons_self
    · exact .inl (List.mem_cons_of_mem _ (hB _ p hp))
end Go.Proofs.YtnhnlkljcfbhfaaGreatDoor.Tb
/- A player's games, one after the other: the heap told by a predicate. -/
namespace Go.Proofs.YtnhnlkljcfbhfaaGreatDoor.Tb
open Go Go.Ab
attribute [local irreducible] SC SL wpc wpl wpd wpf wpy wpn FnC FnW RdW
set_option maxRecDepth 100000
set_option maxHeartbeats 2000000
theorem games2_fn {G : Gl} {rs : List (List Sc)} {ra : AV} {xs : List AV} (h : RV rs ra xs) (hg : ∀ gs ∈ rs, ∀ g ∈ gs, 0 ≤ g.p ∧ g.p ≤ 2) (i : Int) {l a b : Nat} {lp : ALoop} (Inv : List Ev → List (Nat × AObj) → Prop) (H0 Hx : List (Nat × AObj)) (h0 : Inv [] H0)
    (hr : ∀ es e H, es ++ [e] <+: evU rs i rs.length → Inv es H → RdW Tryz.prog G l [.s (.int .i64 e.k), .s (.agg #[.int .i64 e.o, .int .i64 e.p, .bool e.c])] (l :: H.map (·.1)) (((l, .loop lp) :: H) ++ Hx) (fun v Hn => v = .s (.bool true) ∧ ∃ H', Hn = (l, .loop lp) :: H' ∧ Inv (es ++ [e]) H'))
    (ho : G.orc 124 [.yld l, .ptr a 0 0, .ptr b 0 0] = none) :
    FnW Tryz.prog G 124 [.yld l, .ptr a 0 0, .ptr b 0 0] (l :: H0.map (·.1)) ((l, .loop lp) :: (b, .cells 3 1 true [[.s (.int .i64 i)]]) :: (a, .cells 63 1 true [[ra]]) :: (H0 ++ Hx)) (fun _ Hn => ∃ H', Hn = (l, .loop lp) :: H' ∧ Inv (evU rs i rs.length) H') := by
  have hsl := h.sl
  have hlen := h.len
  have hbig := h.big
  refine FnW_body (N := 62) ho Tryz.func124 rfl rfl fun B => ?_
  refine SC_perm (H' := (b, .cells 3 1 true [[.s (.int .i64 i)]]) :: (a, .cells 63 1 true [[ra]]) :: (Hx ++ (l, .loop lp) :: H0)) ?_ (SC_nd fun hnd0 => ?_)
  · refine ((List.perm_middle (l₁ := [(b, _), (a, _)])).symm).trans (.cons _ (.cons _ ?_))
    exact (List.perm_append_comm (l₁ := (l, AObj.loop lp) :: H0) (l₂ := Hx))
  have hxn : (Hx.map (·.1)).Nodup := by
    have := (List.nodup_cons.1 (List.nodup_cons.1 hnd0).2).2
    rw [List.map_append, List.nodup_append] at this
    exact this.1
  repeat' (first
    | refine SC_seq ?_
    | refine SC_block ?_
    | refine SC_region ?_
    | refine SL_seq ?_
    | refine SL_move (by decide) (by rfl) ?_
    | refine SL_len_v (by decide) (by rfl) (by assumption) (by rfl) (slF (by rfl)) (by simp only [List.length_map]; first | rfl | assumption) ?_
    | refine SL_load_o (by decide) (by rfl) (by repeat (first | exact .head _ | refine .tail _ ?_)) (rowF (by rfl)) (by first | assumption | rfl) (by rfl) ?_
    | fail)
  refine SC_loop (fun x : Nat × List (Nat × AObj) => [(0, .yld l), (1, .ptr a 0 0), (2, .ptr b 0 0), (8, ra), (9, .s (.int .i64 xs.length)), (10, .s (.int .i64 x.1))]) (fun x => (b, .cells 3 1 true [[.s (.int .i64 i)]]) :: (a, .cells 63 1 true [[ra]]) :: (Hx ++ (l, .loop lp) :: x.2)) (fun _ => []) (fun x => x.1 ≤ rs.length ∧ Inv (evU rs i x.1) x.2 ∧ ∀ p ∈ x.2, B.next ≤ p.1 ∨ p.1 ∈ l :: H0.map (·.1)) (fun x => rs.length - x.1) (0, H0)
    ⟨by simp, h0, fun p hp => .inr (List.mem_cons_of_mem _ (List.mem_map.2 ⟨p, hp, rfl⟩))⟩ ⟨rfl, rfl, rfl, rfl, rfl, rfl, trivial⟩ (.refl _) hnd0 rfl ?_
  rintro ⟨k, Hk⟩ ⟨hk, hInvk, hBk⟩
  dsimp only at hk hInvk hBk ⊢
  by_cases hlt : k < rs.length
  · obtain ⟨x, hx, hgx⟩ := h.row hlt
    unfold GV at hgx
    have heach := h.each rs[k] (List.getElem_mem hlt)
    refine SC_nd fun hndk => ?_
    repeat' (first
      | refine SC_seq ?_
      | refine SC_block ?_
      | refine SC_region ?_
      | refine SL_seq ?_
      | refine SL_move (by decide) (by rfl) ?_
      | refine SL_assign (by decide) (by rfl) ?_
      | (refine SL_lss (by decide) (by rfl) (by rfl) (fun hT => ?_) (fun hT => ?_) <;> first | (exfalso; omega) | skip)
      | refine SL_len_v (by decide) (by rfl) (by assumption) (by rfl) (slF (by rfl)) (by simp only [List.length_map]; first | rfl | assumption) ?_
      | refine SL_indexAddr_v (by decide) (by rfl) (by rfl) (by assumption) (slF (by rfl)) _ (by first | rfl | exact (Int.toNat_of_nonneg (by omega)).symm) (by simp only [List.length_map]; omega) (fun ad => ?_)
      | refine SL_load_r (by decide) (by rfl) (rowF (by rfl)) (by first | assumption | rfl) (by rfl) ?_
      | refine SC_cond_t (by rfl) ?_
      | (refine SC_skip' (fun tm σ hE hH => ?_); refine SC.app ?_ hE hH; clear hE hH; clear tm σ)
      | fail)
    refine SC_loop (fun z : Nat × List (Nat × AObj) => [(0, .yld l), (1, .ptr a 0 0), (2, .ptr b 0 0), (8, ra), (9, .s (.int .i64 xs.length)), (10, .s (.int .i64 k)), (4, .s (.int .i64 k)), (15, x), (16, .s (.int .i64 rs[k].length)), (17, .s (.int .i64 z.1))]) (fun z => (b, .cells 3 1 true [[.s (.int .i64 i)]]) :: (a, .cells 63 1 true [[ra]]) :: (Hx ++ (l, .loop lp) :: z.2)) (fun _ => [])
      (fun z => z.1 ≤ rs[k].length ∧ Inv (evU rs i k ++ evR k i (rs[k].take z.1)) z.2 ∧ ∀ p ∈ z.2, B.next ≤ p.1 ∨ p.1 ∈ l :: H0.map (·.1)) (fun z => rs[k].length - z.1) (0, Hk)
      ⟨by simp, by rw [show evR k i (rs[k].take 0) = [] from rfl, List.append_nil]; exact hInvk, hBk⟩ ⟨rfl, rfl, rfl, rfl, rfl, rfl, rfl, rfl, rfl, rfl, trivial⟩ (.refl _) hndk rfl ?_
    rintro ⟨j, Hc⟩ ⟨hj, hInv, hBc⟩
    dsimp only at hj hInv hBc ⊢
    by_cases hjlt : j < rs[k].length
    · have hrow : (rs[k].map cells3)[j]? = some (cells3 rs[k][j]) := by rw [List.getElem?_map, List.getElem?_eq_getElem hjlt]; rfl
      have hgj := hg rs[k] (List.getElem_mem hlt) rs[k][j] (List.getElem_mem hjlt)
      have hpre := ev_pre hlt hjlt i
      have hp1 : rs[k][j].w = i → (evU rs i k ++ evR k i (rs[k].take j)) ++ [⟨k, rs[k][j].b, rs[k][j].p, true⟩] <+: evU rs i rs.length := fun e => by rw [ev1_w e] at hpre; exact hpre
      have hp2 : rs[k][j].w ≠ i → rs[k][j].b = i → (evU rs i k ++ evR k i (rs[k].take j)) ++ [⟨k, rs[k][j].w, 2 - rs[k][j].p, false⟩] <+: evU rs i rs.length := fun e e' => by rw [ev1_b e e'] at hpre; exact hpre
      have hnx := evR_next hjlt k i
      have hMk : ∀ id ∈ l :: Hc.map (·.1), (B.next ≤ id ∨ id ∈ l :: H0.map (·.1)) ∧ id ∈ ((l, AObj.loop lp) :: Hc).map (·.1) := fun id hid => by
        refine ⟨?_, hid⟩
        rcases List.mem_cons.1 hid with rfl | hid
        · exact .inr List.mem_cons_self
        · obtain ⟨p, hp, rfl⟩ := List.mem_map.1 hid
          exact hBc p hp
      repeat' (first
        | (refine SL_yield2 (Hr := _ :: _ :: _ :: Hx) (H0 := _ :: Hc) (Hx := Hx) (M := l :: Hc.map (·.1)) (by decide) (by rfl) (by rfl) (hr _ ⟨k, rs[k][j].w, 2 - rs[k][j].p, false⟩ Hc (hp2 (by assumption) (by assumption)) hInv) (fun p hp => List.mem_cons_of_mem _ (List.mem_cons_of_mem _ (List.mem_cons_of_mem _ hp))) hxn hMk ?_; rintro _ _ hBn ⟨rfl, Hd, rfl, hInv'⟩; simp only [List.cons_append, List.nil_append])
        | (refine SL_yield2 (Hr := _ :: _ :: _ :: Hx) (H0 := _ :: Hc) (Hx := Hx) (M := l :: Hc.map (·.1)) (by decide) (by rfl) (by rfl) (hr _ ⟨k, rs[k][j].b, rs[k][j].p, true⟩ Hc (hp1 (by assumption)) hInv) (fun p hp => List.mem_cons_of_mem _ (List.mem_cons_of_mem _ (List.mem_cons_of_mem _ hp))) hxn hMk ?_; rintro _ _ hBn ⟨rfl, Hd, rfl, hInv'⟩; simp only [List.cons_append, List.nil_append])
        | refine SL_build (by decide) (by rfl) (build73 _ _ _) ?_
        | refine SC_seq ?_
        | refine SC_block ?_
        | refine SC_region ?_
        | refine SL_seq ?_
        | refine SL_run (by rfl) (by rfl) ?_
        | refine SL_not (by rfl) (by rfl) (by rfl) (by decide) ?_
        | refine SL_move (by decide) (by rfl) ?_
        | refine SL_assign (by decide) (by rfl) ?_
        | refine SL_pick_t (by decide) (by rfl) (by rfl) ?_
        | refine SL_pick_f (by decide) (by rfl) (by rfl) ?_
        | refine SL_not_op (by decide) (by rfl) ?_
        | refine SL_add (by decide) (by rfl) (by rfl) (by omega) (by omega) ?_
        | refine SL_sub (by decide) (by rfl) (by rfl) (by omega) (by omega) ?_
        | (refine SL_lss (by decide) (by rfl) (by rfl) (fun hT => ?_) (fun hT => ?_) <;> first | (exfalso; omega) | skip)
        | (refine SL_eql (by decide) (by rfl) (by rfl) (fun hT => ?_) (fun hT => ?_) <;> first | (exfalso; omega) | skip)
        | (refine SL_neq (by decide) (by rfl) (by rfl) (fun hT => ?_) (fun hT => ?_) <;> first | (exfalso; omega) | skip)
        | refine SL_fieldAddr (by decide) (by rfl) (fldF (by rfl)) ?_
        | refine SL_indexAddr_v (by decide) (by rfl) (by rfl) (by assumption) (slF (by rfl)) _ (by first | rfl | exact (Int.toNat_of_nonneg (by omega)).symm) (by simp only [List.length_map]; omega) (fun ad => ?_)
        | refine SL_load_rr (by decide) (by rfl) (rowF (by rfl)) (by first | assumption | rfl) (Nat.le_of_ble_eq_true (by rfl)) (by first | exact mk3 _ | rfl) ?_
        | refine SL_load_o (by decide) (by rfl) (by repeat (first | exact .head _ | refine .tail _ ?_)) (rowF (by rfl)) (by first | assumption | rfl) (by rfl) ?_
        | refine SL_store_box (by rfl) (by rfl) (by first | exact cells_3 _ _ _ | rfl) (by repeat (first | exact .head | apply Upd.tail)) (by first | exact .inl (by assumption) | exact .inr (by simp)) (by rfl) (szF (by rfl)) (by rfl) ?_
        | refine SL_alloc (by decide) (zeroF (by rfl)) (fun id hid => ?_)
        | refine SC_cond_t (by rfl) ?_
        | refine SC_cond_f (by rfl) ?_
        | (refine SC_skip' (fun tm σ hE hH => ?_); refine SC.app ?_ hE hH; clear hE hH; clear tm σ)
        | fail)
      all_goals first
        | exact SL_nil fun tm σ hE hH => ⟨(j + 1, Hd), by show rs[k].length - (j + 1) < rs[k].length - j; omega, ⟨by show j + 1 ≤ rs[k].length; omega, by dsimp only; rw [hnx, ev1_w (by assumption), ← List.append_assoc]; exact hInv', fun p hp => hBn p (List.mem_cons_of_mem _ hp)⟩, tm, σ, rfl, hE.sub ⟨rfl, rfl, rfl, rfl, rfl, rfl, rfl, rfl, rfl, rfl, trivial⟩, hH.sub (.of_mem fun p hp => List.mem_cons_of_mem _ hp) (List.nodup_cons.1 hH.nodup).2⟩
        | exact SL_nil fun tm σ hE hH => ⟨(j + 1, Hd), by show rs[k].length - (j + 1) < rs[k].length - j; omega, ⟨by show j + 1 ≤ rs[k].length; omega, by dsimp only; rw [hnx, ev1_b (by assumption) (by assumption), ← List.append_assoc]; exact hInv', fun p hp => hBn p (List.mem_cons_of_mem _ hp)⟩, tm, σ, rfl, hE.sub ⟨rfl, rfl, rfl, rfl, rfl, rfl, rfl, rfl, rfl, rfl, trivial⟩, hH.sub (.of_mem fun p hp => List.mem_cons_of_mem _ hp) (List.nodup_cons.1 hH.nodup).2⟩
        | exact SL_nil fun tm σ hE hH => ⟨(j + 1, Hc), by show rs[k].length - (j + 1) < rs[k].length - j; omega, ⟨by show j + 1 ≤ rs[k].length; omega, by dsimp only; rw [hnx, ev1_n (by assumption) (by assumption), List.append_nil]; exact hInv, hBc⟩, tm, σ, rfl, hE.sub ⟨rfl, rfl, rfl, rfl, rfl, rfl, rfl, rfl, rfl, rfl, trivial⟩, hH.sub (.of_mem fun p hp => List.mem_cons_of_mem _ hp) (List.nodup_cons.1 hH.nodup).2⟩
    · obtain rfl : j = rs[k].length := by omega
      rw [List.take_length, ← evU_next hlt] at hInv
      repeat' (first
        | refine SC_seq ?_
        | refine SC_region ?_
        | refine SL_seq ?_
        | refine SL_move (by decide) (by rfl) ?_
        | refine SL_add (by decide) (by rfl) (by rfl) (by omega) (by omega) ?_
        | (refine SL_lss (by decide) (by rfl) (by rfl) (fun hT => ?_) (fun hT => ?_) <;> first | (exfalso; omega) | skip)
        | refine SC_cond_f (by rfl) ?_
        | (refine SC_exit (fun tm σ hE hH => ?_); refine SC.app ?_ hE hH; clear hE hH; clear tm σ)
        | fail)
      refine SL_nil fun tm σ hE hH => ⟨(k + 1, Hc), by show rs.length - (k + 1) < rs.length - k; omega, ⟨by show k + 1 ≤ rs.length; omega, hInv, hBc⟩, tm, σ, rfl, hE.sub ⟨rfl, rfl, rfl, rfl, rfl, rfl, trivial⟩, hH⟩
  · obtain rfl : k = rs.length := by omega
    repeat' (first
      | refine SC_seq ?_
      | refine SC_region ?_
      | refine SL_seq ?_
      | (refine SL_lss (by decide) (by rfl) (by rfl) (fun hT => ?_) (fun hT => ?_) <;> first | (exfalso; omega) | skip)
      | refine SC_cond_f (by rfl) ?_
      | fail)
    refine SC_exit (fun tm σ hE hH => ?_)
    have hn := (List.nodup_cons.1 (List.nodup_cons.1 hH.nodup).2).2
    have hn := (List.nodup_append.1 (by rw [List.map_append] at hn; exact hn)).2.1
    refine PostW.intro (vs := []) (Hn := (l, .loop lp) :: Hk) (.inl rfl) hE hH (by rfl) (.of_mem fun p hp => List.mem_cons_of_mem _ (List.mem_cons_of_mem _ (List.mem_append_right _ hp))) hn (fun p hp => ?_) ⟨Hk, rfl, hInvk⟩
    rcases List.mem_cons.1 hp with rfl | hp
    · exact .inl List.mem_cons_self
    · rcases hBk p hp with h1 | h1
      · exact .inr h1
      · exact .inl h1
end Go.Proofs.YtnhnlkljcfbhfaaGreatDoor.Tb
/- tiebreak.scores. -/
namespace Go.Proofs.YtnhnlkljcfbhfaaGreatDoor.Tb
open Go Go.Ab
def sumE (es : List Ev) : Int := (es.map Ev.p).sum
theorem sumE_next (es : List Ev) (e : Ev) : sumE (es ++ [e]) = sumE es + e.p := by
  unfold sumE; simp only [List.map_append, List.sum_append, List.map_cons, List.map_nil, List.sum_cons, List.sum_nil, Int.add_zero]
theorem sumE_app (es es' : List Ev) : sumE (es ++ es') = sumE es + sumE es' := by
  unfold sumE; simp only [List.map_append, List.sum_append]
theorem sumE_bd {es : List Ev} (h : ∀ e ∈ es, 0 ≤ e.p ∧ e.p ≤ 2) : 0 ≤ sumE es ∧ sumE es ≤ 2 * es.length := by
  induction es with
  | nil => simp [sumE]
  | cons e es ih =>
    have h1 := ih (fun e he => h e (List.mem_cons_of_mem _ he))
    have h2 := h e List.mem_cons_self
    unfold sumE at h1 ⊢
    simp only [List.map_cons, List.sum_cons, List.length_cons]
    omega
theorem ev1_len (k : Nat) (i : Int) (g : Sc) : (ev1 k i g).length ≤ 1 := by
  unfold ev1; split
  · simp
  · split <;> simp
theorem ev1_bd {k : Nat} {i : Int} {g : Sc} (h : 0 ≤ g.p ∧ g.p ≤ 2) : ∀ e ∈ ev1 k i g, 0 ≤ e.p ∧ e.p ≤ 2 := by
  unfold ev1; split
  · intro e he; rw [List.mem_singleton] at he; subst he; exact h
  · split
    · intro e he; rw [List.mem_singleton] at he; subst he; simp only; omega
    · intro e he; cases he
theorem evR_len (k : Nat) (i : Int) (gs : List Sc) : (evR k i gs).length ≤ gs.length := by
  induction gs with
  | nil => simp [evR]
  | cons g gs ih =>
    have := ev1_len k i g
    unfold evR at ih ⊢
    rw [List.flatMap_cons, List.length_append, List.length_cons]
    omega
theorem evR_bd {k : Nat} {i : Int} {gs : List Sc} (h : ∀ g ∈ gs, 0 ≤ g.p ∧ g.p ≤ 2) : ∀ e ∈ evR k i gs, 0 ≤ e.p ∧ e.p ≤ 2 := by
  intro e he
  obtain ⟨g, hg, he⟩ := List.mem_flatMap.1 he
  exact ev1_bd (h g hg) e he
theorem evU_len {rs : List (List Sc)} (hf : ∀ gs ∈ rs, gs.length ≤ 12) (i : Int) : ∀ k, k ≤ rs.length → (evU rs i k).length ≤ 12 * k
  | 0, _ => by simp [evU]
  | k + 1, h => by
    have h1 := evU_len hf i k (by omega)
    have h2 := evR_len k i rs[k]
    have h3 := hf rs[k] (List.getElem_mem h)
    rw [evU_next h, List.length_append]; omega
theorem evU_bd {rs : List (List Sc)} (hg : ∀ gs ∈ rs, ∀ g ∈ gs, 0 ≤ g.p ∧ g.p ≤ 2) (i : Int) : ∀ k, k ≤ rs.length → ∀ e ∈ evU rs i k, 0 ≤ e.p ∧ e.p ≤ 2
  | 0, _ => by intro e he; cases he
  | k + 1, h => by
    intro e he
    rw [evU_next h, List.mem_append] at he
    rcases he with he | he
    · exact evU_bd hg i k (by omega) e he
    · exact evR_bd (hg _ (List.getElem_mem h)) e he
theorem ev1_sum (k : Nat) (i : Int) (g : Sc) : sumE (ev1 k i g) = (pts g i).1 := by
  unfold ev1 pts; split
  · simp [sumE]
  · split <;> simp [sumE]
theorem evR_sum (k : Nat) (i : Int) (gs : List Sc) : sumE (evR k i gs) = sum1 gs i := by
  induction gs with
  | nil => simp [evR, sum1, sumE]
  | cons g gs ih =>
    unfold evR sum1 at ih ⊢
    rw [List.flatMap_cons, sumE_app, ih, ev1_sum, List.map_cons, List.sum_cons]
theorem evU_sum (rs : List (List Sc)) (i : Int) : ∀ k, k ≤ rs.length → sumE (evU rs i k) = sumT (rs.take k) i
  | 0, _ => by simp [evU, sumT, sumE]
  | k + 1, h => by rw [evU_next h, sumE_app, evU_sum rs i k (by omega), evR_sum, sumT_next h]
attribute [local irreducible] SC SL wpc wpl wpd wpf wpy wpn FnC FnW RdW
set_option maxRecDepth 100000
set_option maxHeartbeats 2000000
theorem scores_fn {G : Gl} {rs : List (List Sc)} {ra : AV} {xs : List AV} (h : RV rs ra xs) (hf : ∀ gs ∈ rs, gs.length ≤ 12) {m : Nat} (hv : VOk m rs) (ho : G.orc 58 [.s (.int .i64 m), ra] = none) (ho36 : ∀ i, G.orc 85 [ra, .s (.int .i64 i)] = none) (ho58 : ∀ a b c, G.orc 124 [a, b, c] = none) :
    FnC Tryz.prog G 58 [.s (.int .i64 m), ra] [] (fun v Hn => ∃ id, v = .sl id 0 m none ∧ Hn = [(id, .cells 3 1 true (tab m (fun x => sumT rs x)))]) := by
  have hsl := h.sl
  have hlen := h.len
  have hbig := h.big
  obtain ⟨hv1, hv2, hv3, hv4⟩ := hv
  have hg : ∀ gs ∈ rs, ∀ g ∈ gs, 0 ≤ g.p ∧ g.p ≤ 2 := fun gs hgs g hgg => ((hv4 gs hgs).1 g hgg).2.2.2.2
  refine Fn_body (N := 31) ho Tryz.func58 rfl rfl fun B => ?_
  repeat' (first
    | refine SC_seq ?_
    | refine SC_block ?_
    | refine SC_region ?_
    | refine SL_seq ?_
    | refine SL_move (by decide) (by rfl) ?_
    | refine SL_assign (by decide) (by rfl) ?_
    | refine SL_len_sl (by decide) (by rfl) (by rfl) (sliceOf_spec (slF (by rfl))).1 ?_
    | refine SL_load_o (by decide) (by rfl) (by repeat (first | exact .head _ | refine .tail _ ?_)) (rowF (by rfl)) (by first | assumption | rfl | exact FI_get _ _ _ (by omega)) (by rfl) ?_
    | refine SL_store_box (by rfl) (by rfl) (by first | exact cells_3 _ _ _ | rfl) (by repeat (first | exact .head | apply Upd.tail)) (by first | exact .inl (by assumption) | exact .inr (by simp)) (by rfl) (szF (by rfl)) (by rfl) ?_
    | refine SL_alloc (by decide) (zeroF (by rfl)) (fun id hid => ?_)
    | refine SL_makeSlice (by decide) (by rfl) (by rfl) (elF (by rfl)) (by omega) (by omega) (by omega) (by omega) (fun id hid => ?_)
    | fail)
  rename_i out hout
  revert id
  intro bx hbx
  refine SC_nd fun hnd0 => ?_
  refine SC_loop (fun a : Nat × List Nat => [(0, .s (.int .i64 m)), (1, ra), (5, .ptr bx 0 0), (12, .s (.int .i64 m)), (13, .s (.int .i64 a.1))]) (fun a => [(bx, .cells 52 1 true [[.sl out 0 m none]]), (out, .cells 3 1 true (tab m (FI (fun x => sumE (evU rs x rs.length)) a.1 0)))]) (fun a => a.2) (fun a => a.1 ≤ m) (fun a => m - a.1) (0, []) (by simp) ⟨rfl, rfl, rfl, rfl, rfl, trivial⟩ ⟨.head _, by rw [← FI_0]; exact .tail _ (.head _), trivial⟩ hnd0 rfl ?_
  rintro ⟨i, dd⟩ hi
  simp only at hi
  dsimp only
  by_cases hilt : i < m
  ·
    repeat' (first
      | (refine SL_call (by decide) (by rfl) bd36 (by rfl) (by rfl) (gamesOf_fn h (i : Int) (ho36 _)) trivial List.nodup_nil ?_; rintro _ _ hBn ⟨ga, gb, rfl, rfl⟩; simp only [List.cons_append, List.nil_append])
      | refine SC_seq ?_
      | refine SC_block ?_
      | refine SC_region ?_
      | refine SL_seq ?_
      | refine SL_move (by decide) (by rfl) ?_
      | (refine SL_lss (by decide) (by rfl) (by rfl) (fun hT => ?_) (fun hT => ?_) <;> first | (exfalso; omega) | skip)
      | refine SL_load_o (by decide) (by rfl) (by repeat (first | exact .head _ | refine .tail _ ?_)) (rowF (by rfl)) (by first | assumption | rfl | exact FI_get _ _ _ (by omega)) (by rfl) ?_
      | refine SL_store_box (by rfl) (by rfl) (by first | exact cells_3 _ _ _ | rfl) (by repeat (first | exact .head | apply Upd.tail)) (by first | exact .inl (by assumption) | exact .inr (by simp)) (by rfl) (szF (by rfl)) (by rfl) ?_
      | refine SL_alloc (by decide) (zeroF (by rfl)) (fun id hid => ?_)
      | refine SC_cond_t (by rfl) ?_
      | (refine SC_skip' (fun tm σ hE hH => ?_); refine SC.app ?_ hE hH; clear hE hH; clear tm σ)
      | fail)
    obtain ⟨bi, hbi, rfl⟩ : ∃ b, B.next ≤ b ∧ b = id := ⟨id, hid, rfl⟩
    refine SC_nd fun hnd1 => ?_
    refine SC_range' (Hr := []) (H0 := (gb, _) :: (ga, _) :: [(bi, .cells 3 1 true [[.s (.int .i64 i)]]), (bx, .cells 52 1 true [[.sl out 0 m none]]), (out, .cells 3 1 true (tab m (FI (fun x => sumE (evU rs x rs.length)) i 0)))])
      (Hfin := [(bi, .cells 3 1 true [[.s (.int .i64 i)]]), (bx, .cells 52 1 true [[.sl out 0 m none]]), (out, .cells 3 1 true (tab m (FI (fun x => sumE (evU rs x rs.length)) i (sumE (evU rs i rs.length)))))]) (M0 := [bi, bx, out]) (xs := fun l => [.yld l, .ptr ga 0 0, .ptr gb 0 0]) (by rfl) (fun l => by rfl) ?_ ?_ ?_
    · intro q hq
      simp only [List.mem_cons, List.not_mem_nil, or_false] at hq
      rcases hq with rfl | rfl | rfl
      · exact ⟨.inl hbi, by simp⟩
      · exact ⟨.inl hbx, by simp⟩
      · exact ⟨.inl hout, by simp⟩
    · intro tm d l hE hl hnot
      refine games_fn h hg i (fun es => [(bi, .cells 3 1 true [[.s (.int .i64 i)]]), (bx, .cells 52 1 true [[.sl out 0 m none]]), (out, .cells 3 1 true (tab m (FI (fun x => sumE (evU rs x rs.length)) i (sumE es))))]) (fun es id' hm => hm) (fun es p hp => by simp at hp; rcases hp with rfl | rfl | rfl <;> simp) (fun es e hpre => ?_) (ho58 _ _ _)
      refine Rd_body' hE rfl (by decide) List.mem_cons_self fun B' => ?_
      have hsum := sumE_bd (es := es) (fun e' he' => evU_bd hg i _ (Nat.le_refl _) e' (hpre.subset (List.mem_append_left _ he')))
      have heb := evU_bd hg i _ (Nat.le_refl _) e (hpre.subset (by simp))
      have hel := hpre.length_le
      have hul := evU_len hf i _ (Nat.le_refl _)
      rw [List.length_append, List.length_singleton] at hel
      repeat' (first
        | refine SC_region ?_
        | refine SL_store_box (by rfl) (by rfl) (by first | exact cells_3 _ _ _ | rfl) (by repeat (first | exact .head | apply Upd.tail)) (by first | exact .inl (by assumption) | exact .inr (by simp)) (by rfl) (szF (by rfl)) (by rfl) ?_
        | refine SL_alloc (by decide) (zeroF (by rfl)) (fun id hid => ?_)
        | fail)
      refine SL_nil fun tm1 σ1 hE1 hH1 => ⟨tm1, σ1, _, _, rfl, hE1, hH1.perm (List.Perm.swap _ _ _), ?_⟩
      clear hE1 hH1
      clear tm1 σ1
      repeat' (first
        | refine SC_block ?_
        | refine SL_add (by decide) (by rfl) (by rfl) (by omega) (by omega) ?_
        | refine SL_fieldAddr (by decide) (by rfl) (fldF (by rfl)) ?_
        | refine SL_indexAddr_0 (by decide) (by rfl) (by rfl) (by repeat (first | exact .head _ | refine .tail _ ?_)) (slF (by rfl)) _ (by first | rfl | exact (Int.toNat_of_nonneg (by omega)).symm) (by omega) ?_
        | refine SL_load_o (by decide) (by rfl) (by repeat (first | exact .head _ | refine .tail _ ?_)) (rowF (by rfl)) (by first | assumption | rfl | exact FI_get _ _ _ (by omega)) (by rfl) ?_
        | refine SL_store_n (by rfl) (by rfl) (by repeat (first | exact .head _ | refine .tail _ ?_)) (by first | assumption | rfl | exact FI_get _ _ _ (by omega)) (by rfl) (by first | exact FI_set _ _ _ _ (by omega) | rfl) (by repeat (first | exact .head | apply Upd.tail)) (by first | exact .inl (by assumption) | exact .inr (by simp)) (szF (by rfl)) (Nat.le_of_ble_eq_true (by rfl)) (by rfl) ?_
        | refine SC_draw (by kernel_rfl) ?_
        | fail)
      refine SL_nil fun tm2 σ2 hE2 hH2 => ?_
      dsimp only [InB]
      refine RPost.intro (Hn := [(l, _), (bi, _), (bx, _), (out, _)]) hH2 List.mem_cons_self .head ⟨.head _, .tail _ (.tail _ (.head _)), .tail _ (.tail _ (.tail _ (.head _))), .tail _ (.tail _ (.tail _ (.tail _ (.head _)))), trivial⟩ (hH2.nodup.sublist (.cons_cons _ (.cons _ (.refl _)))) (fun p hp => .inl ?_) ⟨rfl, ?_⟩
      · simp only [List.mem_cons, List.not_mem_nil, or_false] at hp
        rcases hp with rfl | rfl | rfl | rfl <;> simp
      · rw [sumE_next]
    · intro d tm' σ' hE' hH'
      refine SC.app ?_ hE' hH'
      clear hE' hH'
      clear tm' σ'
      repeat' (first
        | refine SC_region ?_
        | refine SL_move (by decide) (by rfl) ?_
        | refine SL_add (by decide) (by rfl) (by rfl) (by omega) (by omega) ?_
        | fail)
      refine SL_nil fun tm σ hE hH => ⟨(i + 1, d :: dd), by show m - (i + 1) < m - i; omega, by show i + 1 ≤ m; omega, tm, σ, rfl, hE.sub ⟨rfl, rfl, rfl, rfl, rfl, trivial⟩, hH.sub ⟨.tail _ (.head _), ?_, trivial⟩ hnd0⟩
      rw [← FI_next]
      exact .tail _ (.tail _ (.head _))
  · obtain rfl : i = m := by omega
    rw [FI_end]
    repeat' (first
      | refine SC_seq ?_
      | refine SC_region ?_
      | refine SL_seq ?_
      | refine SL_assign (by decide) (by rfl) ?_
      | (refine SL_lss (by decide) (by rfl) (by rfl) (fun hT => ?_) (fun hT => ?_) <;> first | (exfalso; omega) | skip)
      | refine SL_load_o (by decide) (by rfl) (by repeat (first | exact .head _ | refine .tail _ ?_)) (rowF (by rfl)) (by first | assumption | rfl | exact FI_get _ _ _ (by omega)) (by rfl) ?_
      | refine SC_cond_f (by rfl) ?_
      | (refine SC_exit (fun tm σ hE hH => ?_); refine SC.app ?_ hE hH; clear hE hH; clear tm σ)
      | fail)
    refine SC_ret (fun tm σ hE hH => Post.intro (Hn := [(out, _)]) (.inr rfl) hE hH (by rfl) ⟨.tail _ (.head _), trivial⟩ (by simp) (by simp [hout]) ⟨out, rfl, ?_⟩)
    rw [tab_congr (g := fun x : Nat => sumT rs x) fun x _ => by rw [evU_sum _ _ _ (Nat.le_refl _), List.take_length]]
end Go.Proofs.YtnhnlkljcfbhfaaGreatDoor.Tb
/- The scores of a player's foes, sorted. -/
namespace Go.Ab
theorem hnotbase {H : List (Nat × AObj)} {base k : Nat} (h : ∀ p ∈ H, p.1 < base) (hm : base + k ∈ H.map (·.1)) : False := by
  obtain ⟨p, hp, he⟩ := List.mem_map.1 hm
  have := h p hp
  omega
theorem SD_build1 {P : Program} {G : Gl} {B : AS} {W : List Nat} {base : Nat} {ops : Array Oper} {rest : List (Nat × List Nat)} {L : List (Nat × AV)} {N : Nat} {H : List (Nat × AObj)} {RC : List (Nat × Nat)} {Q : Cfg → Prop} {i d : Nat} {t e : TypeId} {b : Nat} {z : List AV} {x : Operand} {ty : TypeId} {pos : String} {af : Array Edge} {v : AV}
    (hi : ops[i]? = some ⟨some d, .buildSlice t 1 #[(0, x)], ty, pos, af, none⟩) (hc : (cls ⟨some d, .buildSlice t 1 #[(0, x)], ty, pos, af, none⟩ == 3) = true) (hd : d < N) (hx : evL G L x = some v) (ht : elOf P t = some (e, 1, b, z)) (hcl : cellsOf v = [v]) (hRC : ∀ p ∈ RC, p.1 ≠ i)
    (hnW : base + i ∉ W) (hnH : base + i ∉ H.map (·.1)) (hlt : base + i < B.next) (hfree : B.objs.get (base + i) = none)
    (h : SD P G B ((base + i) :: W) base ops rest ((d, .sl (base + i) 0 1 none) :: L) N ((base + i, .cells e 1 true [[v]]) :: H) RC Q) : SD P G B W base ops ((i, []) :: rest) L N H RC Q :=
  SD_new (.cells e 1 true [[v]]) (fun id => .sl id 0 1 none) hi hc hd hRC hnW hnH hlt hfree (fun tm σ h1 => by
    obtain ⟨hu, hs, info, zv, hi, hz, hsz, hn, hbb, hzz⟩ := elOf_spec ht
    subst hzz
    unfold eff
    have hr : setRows info.size (List.replicate 1 (zv.cells.toList.map .s)) [(0, v)] = some [[v]] := by rw [hn]; simp [setRows, hcl]
    simp only [effBuildSlice, List.map_cons, List.map_nil, h1.ev hx, hu, hi, hz]
    rw [if_pos ⟨hsz, by rw [hn]; decide⟩, hr, hn]) h
end Go.Ab
namespace Go.Proofs.YtnhnlkljcfbhfaaGreatDoor.Tb
open Go Go.Ab
def foesL (F : Nat → Int) (es : List Ev) : List Int := (es.filter fun e => decide (0 ≤ e.o)).map fun e => F e.o.toNat
theorem foesL_in (F : Nat → Int) (es : List Ev) (e : Ev) (h : 0 ≤ e.o) : foesL F (es ++ [e]) = foesL F es ++ [F e.o.toNat] := by
  unfold foesL; simp [List.filter_append, h]
theorem foesL_out (F : Nat → Int) (es : List Ev) (e : Ev) (h : e.o < 0) : foesL F (es ++ [e]) = foesL F es := by
  unfold foesL; simp [List.filter_append]; omega
theorem foesL_len (F : Nat → Int) {es fs : List Ev} (h : es <+: fs) : (foesL F es).length ≤ (foesL F fs).length := by
  obtain ⟨t, rfl⟩ := h
  unfold foesL
  simp [List.filter_append]
attribute [local irreducible] SC SL wpc wpl wpd wpf wpy wpn FnC FnW RdW SD
set_option maxRecDepth 100000
set_option maxHeartbeats 2000000
def outV (F : Nat → Int) (es : List Ev) : Option Nat → AV
  | none => .s (.slice none 0 0)
  | some id => .sl id 0 (foesL F es).length none
def outH (F : Nat → Int) (es : List Ev) : Option Nat → List (Nat × AObj)
  | none => []
  | some id => [(id, .cells 3 1 false (ints (foesL F es)))]
theorem foes_fn {G : Gl} {rs : List (List Sc)} {ra : AV} {xs : List AV} (h : RV rs ra xs) (hg : ∀ gs ∈ rs, ∀ g ∈ gs, 0 ≤ g.p ∧ g.p ≤ 2) (ho : ∀ f x y, offT f = true → G.orc f (x :: y) = none) {m : Nat} (F : Nat → Int) (i : Int) (hev : ∀ e ∈ evU rs i rs.length, e.o < m) (hlen : (foesL F (evU rs i rs.length)).length ≤ 12) (sc : Nat) :
    FnC Tryz.prog G 89 [.sl sc 0 m none, ra, .s (.int .i64 i)] [(sc, .cells 3 1 true (tab m F))] (fun v Hn => (foesL F (evU rs i rs.length) = [] ∧ v = .s (.slice none 0 0) ∧ Hn = []) ∨
      ∃ id c, v = .sl id 0 c.length none ∧ Hn = [(id, .cells 3 1 false (ints c))] ∧ c.Perm (foesL F (evU rs i rs.length)) ∧ SortedTo c c.length) := by
  have hsl := h.sl
  refine Fn_body (N := 29) (ho _ _ _ (by rfl)) Tryz.func89 rfl rfl fun B => ?_
  repeat' (first
    | (refine SL_call (by decide) (by rfl) bd36 (by rfl) (by rfl) (gamesOf_fn h i (ho _ _ _ (by rfl))) trivial List.nodup_nil ?_; rintro _ _ hBn ⟨ga, gb, rfl, rfl⟩; simp only [List.cons_append, List.nil_append])
    | refine SC_seq ?_
    | refine SC_block ?_
    | refine SC_region ?_
    | refine SL_seq ?_
    | refine SL_move (by decide) (by rfl) ?_
    | refine SL_assign (by decide) (by rfl) ?_
    | refine SL_alloc (by decide) (zeroF (by rfl)) (fun id hid => ?_)
    | refine SL_box (by decide) (by rfl) (by first | exact cells_3 _ _ _ | rfl) (fun id hid => ?_)
    | fail)
  rename_i b3 hb3
  obtain ⟨b7, hb7, rfl⟩ : ∃ b, B.next ≤ b ∧ b = id := ⟨id, hid, rfl⟩
  refine SC_perm (List.perm_append_comm (l₁ := [(gb, _), (ga, _), (b7, _)]) (l₂ := [(b3, _), (sc, _)])) (SC_nd fun hnd1 => ?_)
  refine SC_range2 (Hr := [(b3, .cells 52 1 true [[.sl sc 0 m none]]), (sc, .cells 3 1 true (tab m F))]) (Hx := [(b3, .cells 52 1 true [[.sl sc 0 m none]]), (sc, .cells 3 1 true (tab m F))])
    (Fin := fun H => ∃ oid, H = (b7, .cells 52 1 true [[outV F (evU rs i rs.length) oid]]) :: outH F (evU rs i rs.length) oid ∧ (oid = none → foesL F (evU rs i rs.length) = [])) (M0 := [b7]) (xs := fun l => [.yld l, .ptr ga 0 0, .ptr gb 0 0]) (by rfl) (fun l => by rfl) ?_ (fun p hp => hp) ?_ ?_ ?_
  · intro q hq
    rw [List.mem_singleton] at hq
    subst hq
    exact ⟨.inl hb7, by simp⟩
  · rw [List.map_append, List.nodup_append] at hnd1
    exact hnd1.1
  · intro tm d l hE hl hnot
    refine games2_fn h hg i (fun es H => ∃ oid, H = (b7, .cells 52 1 true [[outV F es oid]]) :: outH F es oid ∧ (oid = none → foesL F es = [])) [(b7, .cells 52 1 true [[.s (.slice none 0 0)]])] [(b3, .cells 52 1 true [[.sl sc 0 m none]]), (sc, .cells 3 1 true (tab m F))] ⟨none, rfl, fun _ => rfl⟩ ?_ (ho _ _ _ (by rfl))
    rintro es e Hc hpre ⟨oid, rfl, hoid⟩
    have hem := hev e (hpre.subset (by simp))
    cases oid with
    | none =>
      have hf0 := hoid rfl
      refine Rd_body' (H := _) hE rfl (by decide) List.mem_cons_self fun B' => ?_
      dsimp only [outV, outH, List.cons_append, List.nil_append]
      repeat' (first
        | refine SC_region ?_
        | refine SL_store_box (by rfl) (by rfl) (by first | exact cells_3 _ _ _ | rfl) (by repeat (first | exact .head | apply Upd.tail)) (by first | exact .inl (by assumption) | exact .inr (by simp)) (by rfl) (szF (by rfl)) (by rfl) ?_
        | refine SL_alloc (by decide) (zeroF (by rfl)) (fun id hid => ?_)
        | fail)
      refine SL_nil fun tm1 σ1 hE1 hH1 => ⟨tm1, σ1, _, _, rfl, hE1, hH1.perm (List.Perm.swap _ _ _), ?_⟩
      clear hE1 hH1
      clear tm1 σ1
      repeat' (first
        | refine SD_op (i := 8) [base + 6, b7] [] (by rfl) (by rfl) (fun x hx => List.Sublist.subset (.cons_cons _ (.cons _ .slnil)) hx) (fun p hp => by cases hp) (fun k hk => by cases hk) (.inl rfl) ?_
        | refine SD_build1 (i := 6) (by rfl) (by rfl) (by decide) (by rfl) el52 (by rfl) (fun p hp => by cases hp) (by simp) (fun hm => hnotbase hb4 hm) (by simp at hb2; omega) (hb3 _ (by omega)) ?_
        | (refine SC_drawn (id := 5) (pl := [(0, []), (1, []), (2, []), (3, []), (4, []), (5, []), (6, []), (7, []), (8, [])]) (by kernel_rfl) (by kernel_rfl) ?_; intro B2 base hb1 hb2 hb3 hb4)
        | refine SC_seq ?_
        | refine SC_block ?_
        | refine SC_region ?_
        | refine SL_seq ?_
        | (refine SL_geq (by decide) (by rfl) (by rfl) (fun hT => ?_) (fun hT => ?_) <;> first | (exfalso; omega) | skip)
        | refine SL_fieldAddr (by decide) (by rfl) (fldF (by rfl)) ?_
        | refine SL_indexAddr_0 (by decide) (by rfl) (by rfl) (by repeat (first | exact .head _ | refine .tail _ ?_)) (slF (by rfl)) _ (by first | rfl | exact (Int.toNat_of_nonneg (by omega)).symm) (by omega) ?_
        | refine SL_load_o (by decide) (by rfl) (by repeat (first | exact .head _ | refine .tail _ ?_)) (rowF (by rfl)) (by first | assumption | rfl | exact tab_get _ _ (by omega)) (by rfl) ?_
        | refine SL_store_box (by rfl) (by rfl) (by first | exact cells_3 _ _ _ | rfl) (by repeat (first | exact .head | apply Upd.tail)) (by first | exact .inl (by assumption) | exact .inr (by simp)) (by rfl) (szF (by rfl)) (by rfl) ?_
        | refine SL_append1_nil (by decide) (by rfl) (by rfl) (by repeat (first | exact .head _ | refine .tail _ ?_)) (elF (by rfl)) (sliceOf_spec (slF (by rfl))).1 (by rfl) (by decide) (fun id hid => ?_)
        | refine SC_cond_t (by rfl) ?_
        | refine SC_cond_f (by rfl) ?_
        | (refine SL_nil (fun tm σ hE hH => ⟨_, _, _, _, rfl, hE, hH, ?_⟩); clear hE hH; clear tm σ)
        | refine SD_op _ [] (by rfl) (by rfl) (fun _ h => h) (fun p hp => by cases hp) (fun k hk => by cases hk) (.inl rfl) ?_
        | fail)
      · refine SD_nil fun tm2 σ2 hE2 hH2 => ⟨_, _, _, _, _, rfl, hE2, hH2, fun q hq => ?_, fun tm3 σ3 hE3 hH3 => ?_⟩
        · simp only [List.mem_cons, List.not_mem_nil, or_false] at hq
          rcases hq with rfl | rfl
          · exact .inl (by omega)
          · exact .inr (by simp)
        · have hnx := Nat.le_trans hb1 (Nat.le_trans (Nat.le_add_right _ _) hb2)
          dsimp only [InB]
          refine RPost.intro (Hn := [(l, _), (b7, _), (_, _)]) hH3 List.mem_cons_self (.tail (.tail .head)) ⟨.tail _ (.tail _ (.head _)), .tail _ (.tail _ (.tail _ (.tail _ (.head _)))), .head _, trivial⟩ ?_ (fun p hp => ?_) ⟨rfl, _, rfl, some id, ?_, by simp⟩
          · have hnn : ([id, base + 6, l, _, b7, b3, sc] : List Nat).Nodup := hH3.nodup
            exact (List.perm_append_comm (l₁ := [id]) (l₂ := [l, b7])).nodup (hnn.sublist (.cons_cons _ (.cons _ (.cons_cons _ (.cons _ (.cons_cons _ (.cons _ (.cons _ .slnil))))))))
          · simp only [List.mem_cons, List.not_mem_nil, or_false] at hp
            rcases hp with rfl | rfl | rfl
            · exact .inl (by simp)
            · exact .inl (by simp)
            · exact .inr (by simp only; omega)
          · simp only [outV, outH]
            rw [foesL_in _ _ _ (by assumption), hf0]; rfl
      · refine SC_skip' (fun tm3 σ3 hE3 hH3 => ?_)
        dsimp only [InB]
        refine RPost.intro (Hn := [(l, _), (b7, _)]) hH3 List.mem_cons_self .head ⟨.head _, .tail _ (.tail _ (.head _)), trivial⟩ ?_ (fun p hp => .inl ?_) ⟨rfl, _, rfl, none, ?_, fun _ => ?_⟩
        · have hnn : ([l, _, b7, b3, sc] : List Nat).Nodup := hH3.nodup
          exact hnn.sublist (.cons_cons _ (.cons _ (.cons_cons _ (.cons _ (.cons _ .slnil)))))
        · simp only [List.mem_cons, List.not_mem_nil, or_false] at hp
          rcases hp with rfl | rfl <;> simp
        · rfl
        · rw [foesL_out _ _ _ (by assumption), hf0]
    | some oid =>
      have hle := Nat.le_trans (foesL_len F ((List.prefix_append _ _).trans hpre)) hlen
      refine Rd_body' (H := _) hE rfl (by decide) List.mem_cons_self fun B' => ?_
      dsimp only [outV, outH, List.cons_append, List.nil_append]
      repeat' (first
        | refine SC_region ?_
        | refine SL_store_box (by rfl) (by rfl) (by first | exact cells_3 _ _ _ | rfl) (by repeat (first | exact .head | apply Upd.tail)) (by first | exact .inl (by assumption) | exact .inr (by simp)) (by rfl) (szF (by rfl)) (by rfl) ?_
        | refine SL_alloc (by decide) (zeroF (by rfl)) (fun id hid => ?_)
        | fail)
      refine SL_nil fun tm1 σ1 hE1 hH1 => ⟨tm1, σ1, _, _, rfl, hE1, hH1.perm (List.Perm.swap _ _ _), ?_⟩
      clear hE1 hH1
      clear tm1 σ1
      repeat' (first
        | refine SD_op (i := 8) [base + 6, oid, b7] [] (by rfl) (by rfl) (fun x hx => List.Sublist.subset (.cons_cons _ (.cons_cons _ (.cons _ .slnil))) hx) (fun p hp => by cases hp) (fun k hk => by cases hk) (.inl rfl) ?_
        | refine SD_op (i := 7) [base + 6, oid] [] (by rfl) (by rfl) (fun x hx => List.Sublist.subset (.cons_cons _ (.cons _ .slnil)) hx) (fun p hp => by cases hp) (fun k hk => by cases hk) (.inl rfl) ?_
        | refine SD_build1 (i := 6) (by rfl) (by rfl) (by decide) (by rfl) el52 (by rfl) (fun p hp => by cases hp) (by simp) (fun hm => hnotbase hb4 hm) (by simp at hb2; omega) (hb3 _ (by omega)) ?_
        | (refine SC_drawn (id := 5) (pl := [(0, []), (1, []), (2, []), (3, []), (4, []), (5, []), (6, []), (7, []), (8, [])]) (by kernel_rfl) (by kernel_rfl) ?_; intro B2 base hb1 hb2 hb3 hb4)
        | refine SC_seq ?_
        | refine SC_block ?_
        | refine SC_region ?_
        | refine SL_seq ?_
        | (refine SL_geq (by decide) (by rfl) (by rfl) (fun hT => ?_) (fun hT => ?_) <;> first | (exfalso; omega) | skip)
        | refine SL_fieldAddr (by decide) (by rfl) (fldF (by rfl)) ?_
        | refine SL_indexAddr_0 (by decide) (by rfl) (by rfl) (by repeat (first | exact .head _ | refine .tail _ ?_)) (slF (by rfl)) _ (by first | rfl | exact (Int.toNat_of_nonneg (by omega)).symm) (by omega) ?_
        | refine SL_load_o (by decide) (by rfl) (by repeat (first | exact .head _ | refine .tail _ ?_)) (rowF (by rfl)) (by first | assumption | rfl | exact tab_get _ _ (by omega)) (by rfl) ?_
        | refine SL_store_box (by rfl) (by rfl) (by first | exact cells_3 _ _ _ | rfl) (by repeat (first | exact .head | apply Upd.tail)) (by first | exact .inl (by assumption) | exact .inr (by simp)) (by rfl) (szF (by rfl)) (by rfl) ?_
        | refine SL_append1_own (by decide) (by rfl) (by rfl) (by repeat (first | exact .head | apply Upd.tail)) (by simp only [ints_len, List.length_append, List.length_cons, List.length_nil]) (by first | exact .inl (by assumption) | exact .inr (by simp)) (by repeat (first | exact .head _ | refine .tail _ ?_)) (elF (by rfl)) (sliceOf_spec (slF (by rfl))).1 (by rfl) (by omega) (by omega) (fun id hid => ?_)
        | refine SC_cond_t (by rfl) ?_
        | refine SC_cond_f (by rfl) ?_
        | (refine SL_nil (fun tm σ hE hH => ⟨_, _, _, _, rfl, hE, hH, ?_⟩); clear hE hH; clear tm σ)
        | refine SD_op _ [] (by rfl) (by rfl) (fun _ h => h) (fun p hp => by cases hp) (fun k hk => by cases hk) (.inl rfl) ?_
        | fail)
      · refine SD_nil fun tm2 σ2 hE2 hH2 => ⟨_, _, _, _, _, rfl, hE2, hH2, fun q hq => ?_, fun tm3 σ3 hE3 hH3 => ?_⟩
        · simp only [List.mem_cons, List.not_mem_nil, or_false] at hq
          rcases hq with rfl | rfl | rfl
          · exact .inl (by omega)
          · exact .inr (by simp)
          · exact .inr (by simp)
        · have hnx := Nat.le_trans hb1 (Nat.le_trans (Nat.le_add_right _ _) hb2)
          dsimp only [InB]
          refine RPost.intro (Hn := [(l, _), (b7, _), (_, _)]) hH3 List.mem_cons_self (.tail (.tail .head)) ⟨.tail _ (.tail _ (.head _)), .tail _ (.tail _ (.tail _ (.tail _ (.head _)))), .head _, trivial⟩ ?_ (fun p hp => ?_) ⟨rfl, _, rfl, some id, ?_, by simp⟩
          · have hnn : ([id, base + 6, l, _, b7, oid, b3, sc] : List Nat).Nodup := hH3.nodup
            exact (List.perm_append_comm (l₁ := [id]) (l₂ := [l, b7])).nodup (hnn.sublist (.cons_cons _ (.cons _ (.cons_cons _ (.cons _ (.cons_cons _ (.cons _ (.cons _ (.cons _ .slnil)))))))))
          · simp only [List.mem_cons, List.not_mem_nil, or_false] at hp
            rcases hp with rfl | rfl | rfl
            · exact .inl (by simp)
            · exact .inl (by simp)
            · exact .inr (by simp only; omega)
          · simp only [outV, outH]
            rw [foesL_in _ _ _ (by assumption), List.length_append, ← ints_snoc]; rfl
      · refine SC_skip' (fun tm3 σ3 hE3 hH3 => ?_)
        dsimp only [InB]
        refine RPost.intro (Hn := [(l, _), (b7, _), (oid, _)]) hH3 List.mem_cons_self .head ⟨.head _, .tail _ (.tail _ (.head _)), .tail _ (.tail _ (.tail _ (.head _))), trivial⟩ ?_ (fun p hp => .inl ?_) ⟨rfl, _, rfl, some oid, ?_, by simp⟩
        · have hnn : ([l, _, b7, oid, b3, sc] : List Nat).Nodup := hH3.nodup
          exact hnn.sublist (.cons_cons _ (.cons _ (.cons_cons _ (.cons_cons _ (.cons _ (.cons _ .slnil))))))
        · simp only [List.mem_cons, List.not_mem_nil, or_false] at hp
          rcases hp with rfl | rfl | rfl <;> simp
        · simp only [outV, outH]
          rw [foesL_out _ _ _ (by assumption)]
  · rintro d H' tm' σ' hpl ⟨oid, rfl, hoid⟩ hE' hH'
    refine SC.app ?_ hE' hH'
    clear hE' hH'
    clear tm' σ'
    cases oid with
    | none =>
      dsimp only [outV, outH, List.cons_append, List.nil_append]
      repeat' (first
        | (refine SL_call (by decide) (by rfl) bd63 (by rfl) (by rfl) (sort_nil ho) trivial List.nodup_nil ?_; rintro v63 _ _ rfl; rw [List.nil_append])
        | refine SC_seq ?_
        | refine SC_region ?_
        | refine SL_seq ?_
        | refine SL_assign (by decide) (by rfl) ?_
        | refine SL_load_o (by decide) (by rfl) (by repeat (first | exact .head _ | refine .tail _ ?_)) (rowF (by rfl)) (by first | assumption | rfl | exact tab_get _ _ (by omega)) (by rfl) ?_
        | fail)
      exact SC_ret (fun tm σ hE hH => Post.intro (Hn := []) (.inr rfl) hE hH (by rfl) trivial List.nodup_nil (fun p hp => by cases hp) (.inl ⟨hoid rfl, rfl, rfl⟩))
    | some oid =>
      have hoB : B.next ≤ oid := (hpl (oid, .cells 3 1 false (ints (foesL F (evU rs i rs.length)))) (by simp [outH])).elim (fun h => h) (fun h => by cases h)
      dsimp only [outV, outH, List.cons_append, List.nil_append]
      repeat' (first
        | (refine SL_callW (Hr := [(b3, _), (sc, _), (b7, _)]) (H0 := [(oid, _)]) (M := [oid]) (by decide) (by rfl) (bl_of bd63) (by rfl) (by rfl) (sort_fn _ hlen ho (foesL F (evU rs i rs.length)) rfl false oid) (fun x hx => by rw [List.mem_singleton] at hx; subst hx; exact ⟨.inl hoB, List.mem_singleton.2 rfl⟩) ?_; rintro v63 _ ⟨c, rfl, hcp, hcs2⟩; simp only [List.cons_append, List.nil_append])
        | refine SC_seq ?_
        | refine SC_region ?_
        | refine SL_seq ?_
        | refine SL_assign (by decide) (by rfl) ?_
        | refine SL_load_o (by decide) (by rfl) (by repeat (first | exact .head _ | refine .tail _ ?_)) (rowF (by rfl)) (by first | assumption | rfl | exact tab_get _ _ (by omega)) (by rfl) ?_
        | fail)
      have hcl := hcp.length_eq
      refine SC_ret (fun tm σ hE hH => Post.intro (Hn := [(oid, _)]) (.inr rfl) hE hH (by rfl) ⟨.tail _ (.tail _ (.tail _ (.head _))), trivial⟩ (by simp) (fun p hp => by rw [List.mem_singleton] at hp; subst hp; exact hoB) (.inr ⟨oid, c, ?_, rfl, hcp, by rw [hcl]; exact hcs2⟩))
      rw [hcl]; rfl
end Go.Proofs.YtnhnlkljcfbhfaaGreatDoor.Tb
/- The order of the standings: keys compared. -/
namespace Go.Ab
theorem SD_build2 {P : Program} {G : Gl} {B : AS} {W : List Nat} {base : Nat} {ops : Array Oper} {rest : List (Nat × List Nat)} {L : List (Nat × AV)} {N : Nat} {H : List (Nat × AObj)} {RC : List (Nat × Nat)} {Q : Cfg → Prop} {i d : Nat} {t e : TypeId} {b : Nat} {z : List AV} {x y : Operand} {ty : TypeId} {pos : String} {af : Array Edge} {u v : AV}
    (hi : ops[i]? = some ⟨some d, .buildSlice t 2 #[(0, x), (1, y)], ty, pos, af, none⟩) (hc : (cls ⟨some d, .buildSlice t 2 #[(0, x), (1, y)], ty, pos, af, none⟩ == 3) = true) (hd : d < N) (hx : evL G L x = some u) (hy : evL G L y = some v) (ht : elOf P t = some (e, 1, b, z)) (hcl : cellsOf u = [u]) (hcl2 : cellsOf v = [v]) (hRC : ∀ p ∈ RC, p.1 ≠ i)
    (hnW : base + i ∉ W) (hnH : base + i ∉ H.map (·.1)) (hlt : base + i < B.next) (hfree : B.objs.get (base + i) = none)
    (h : SD P G B ((base + i) :: W) base ops rest ((d, .sl (base + i) 0 2 none) :: L) N ((base + i, .cells e 1 true [[u], [v]]) :: H) RC Q) : SD P G B W base ops ((i, []) :: rest) L N H RC Q :=
  SD_new (.cells e 1 true [[u], [v]]) (fun id => .sl id 0 2 none) hi hc hd hRC hnW hnH hlt hfree (fun tm σ h1 => by
    obtain ⟨hu, hs, info, zv, hi, hz, hsz, hn, hbb, hzz⟩ := elOf_spec ht
    subst hzz
    unfold eff
    have hr : setRows info.size (List.replicate 2 (zv.cells.toList.map .s)) [(0, u), (1, v)] = some [[u], [v]] := by rw [hn]; simp [setRows, hcl, hcl2, List.replicate]
    simp only [effBuildSlice, List.map_cons, List.map_nil, h1.ev hx, h1.ev hy, hu, hi, hz]
    rw [if_pos ⟨hsz, by rw [hn]; decide⟩, hr, hn]) h
end Go.Ab
namespace Go.Proofs.YtnhnlkljcfbhfaaGreatDoor.Tb
open Go Go.Ab
attribute [local irreducible] SC SL wpc wpl wpd wpf wpy wpn FnC FnW RdW SD
set_option maxRecDepth 100000
set_option maxHeartbeats 2000000
structure Keys (KH : List (Nat × AObj)) (n K : Nat) (ids : List Nat) (ek : Bool) (key : Nat → List Int) : Prop where
  len : ids.length = n
  klen : ∀ i, i < n → (key i).length = K
  mem : ∀ (i id : Nat), ids[i]? = some id → (id, AObj.cells 3 1 ek (ints (key i))) ∈ KH
def krows (K : Nat) (ids : List Nat) : List (List AV) := ids.map fun id => [.sl id 0 K none]
theorem krows_get {K : Nat} {ids : List Nat} {i id : Nat} (h : ids[i]? = some id) : (krows K ids)[i]? = some [.sl id 0 K none] := by unfold krows; rw [List.getElem?_map, h]; rfl
theorem Keys.at_ {KH : List (Nat × AObj)} {n K : Nat} {ids : List Nat} {ek : Bool} {key : Nat → List Int} (h : Keys KH n K ids ek key) {i : Nat} (hi : i < n) : ∃ id, ids[i]? = some id ∧ (krows K ids)[i]? = some [.sl id 0 K none] ∧ (id, AObj.cells 3 1 ek (ints (key i))) ∈ KH := by
  have hl : i < ids.length := by rw [h.len]; exact hi
  exact ⟨ids[i], List.getElem?_eq_getElem hl, krows_get (List.getElem?_eq_getElem hl), h.mem i _ (List.getElem?_eq_getElem hl)⟩
abbrev keysH (kb kid n K : Nat) (ids : List Nat) (KH : List (Nat × AObj)) : List (Nat × AObj) := (kb, .cells 112 1 true [[.sl kid 0 n none]]) :: (kid, .cells 52 1 true (krows K ids)) :: KH
theorem cmpK_fn {G : Gl} (ho : ∀ f x y, offT f = true → G.orc f (x :: y) = none) {KH : List (Nat × AObj)} {n K : Nat} {ids : List Nat} {ek : Bool} {key : Nat → List Int} (hkeys : Keys KH n K ids ek key) (hK : K ≤ 1000) (kb kid : Nat) (x y : Nat) (hx : x < n) (hy : y < n) :
    FnC Tryz.prog G 61 [.s (.int .i64 x), .s (.int .i64 y), .ptr kb 0 0] (keysH kb kid n K ids KH) (fun v Hn => v = .s (.int .i64 (if lexC (key y) (key x) ≠ 0 then lexC (key y) (key x) else cmp3 x y)) ∧ Hn = []) := by
  obtain ⟨idx, hix, hgx, hmx⟩ := hkeys.at_ hx
  obtain ⟨idy, hiy, hgy, hmy⟩ := hkeys.at_ hy
  have hkx := hkeys.klen x hx
  have hky := hkeys.klen y hy
  refine Fn_body (N := 20) (ho _ _ _ (by rfl)) Tryz.func61 rfl rfl fun B => ?_
  refine SC_nd fun hnd0 => ?_
  repeat' (first
    | refine SD_build2 (i := 12) (by rfl) (by rfl) (by decide) (by rfl) (by rfl) el52 (by rfl) (by rfl) (fun p hp => by cases hp) (by simp) (fun hm => hnotbase hb4 hm) (by simp at hb2; omega) (hb3 _ (by omega)) ?_
    | (refine SL_call (by decide) (by rfl) bd32 (by rfl) (by rfl) (or_fn ho _ _ (base + 12) true) ⟨.head _, trivial⟩ (by simp) ?_; rintro _ _ _ ⟨rfl, rfl⟩; rw [List.nil_append])
    | (refine SL_call (by decide) (by rfl) bd33 (by rfl) (by rfl) (lex_fn ho (key y) (key x) K hky hkx hK _ idy idx ek ek (.tail _ (.tail _ hmy)) (.tail _ (.tail _ hmx))) (.refl _) hnd0 ?_; rintro _ _ _ ⟨rfl, rfl⟩; rw [List.nil_append])
    | (refine SC_drawn (id := 1) (pl := [(0, []), (1, []), (2, []), (3, []), (4, []), (5, []), (6, []), (7, []), (9, []), (10, []), (8, []), (11, []), (12, []), (13, []), (14, [])]) (by kernel_rfl) (by kernel_rfl) ?_; intro B' base hb1 hb2 hb3 hb4)
    | (refine SL_call (by decide) (by rfl) bd34 (by rfl) (by rfl) (compare_fn ho _ _) trivial List.nodup_nil ?_; rintro _ _ _ ⟨rfl, rfl⟩; rw [List.nil_append])
    | refine SC_seq ?_
    | refine SC_region ?_
    | refine SL_seq ?_
    | refine SL_move (by decide) (by rfl) ?_
    | refine SL_assign (by decide) (by rfl) ?_
    | refine SL_indexAddr_0 (by decide) (by rfl) (by rfl) (by repeat (first | exact .head _ | refine .tail _ ?_)) (slF (by rfl)) _ (by first | rfl | exact (Int.toNat_of_nonneg (by omega)).symm) (by omega) ?_
    | refine SL_load_o (by decide) (by rfl) (by repeat (first | exact .head _ | refine .tail _ ?_)) (rowF (by rfl)) (by first | assumption | rfl) (by rfl) ?_
    | (refine SL_nil (fun tm σ hE hH => ⟨_, _, _, _, rfl, hE, hH, ?_⟩); clear hE hH; clear tm σ)
    | refine SD_op _ [] (by rfl) (by rfl) (fun _ h => h) (fun p hp => by cases hp) (fun k hk => by cases hk) (.inl rfl) ?_
    | fail)
  refine SD_nil fun tm2 σ2 hE2 hH2 => ⟨_, _, _, _, _, rfl, hE2, hH2, fun q hq => ?_, fun tm3 σ3 hE3 hH3 => ?_⟩
  · rw [List.mem_singleton] at hq
    subst hq
    exact .inl (by omega)
  · refine SC.app ?_ hE3 hH3
    clear hE3 hH3 hE2 hH2
    clear tm3 σ3 tm2 σ2
    exact SC_ret (fun tm σ hE hH => Post.intro (Hn := []) (.inr rfl) hE hH (by rfl) trivial List.nodup_nil (fun p hp => by cases hp) ⟨rfl, rfl⟩)
def ltK (key : Nat → List Int) (x y : Int) : Prop := lexC (key y.toNat) (key x.toNat) < 0 ∨ (lexC (key y.toNat) (key x.toNat) = 0 ∧ x < y)
theorem lexC_refl : ∀ a : List Int, lexC a a = 0
  | [] => rfl
  | x :: a => by unfold lexC; rw [if_pos rfl]; exact lexC_refl a
theorem lexC_eq : ∀ a b : List Int, a.length = b.length → lexC a b = 0 → a = b
  | [], [], _, _ => rfl
  | x :: a, y :: b, hl, h => by
    unfold lexC at h
    split at h
    · rename_i e
      rw [e, lexC_eq a b (by simpa using hl) h]
    · rename_i e
      exact absurd (cmp3_0 h) e
  | [], _ :: _, h, _ => by simp at h
  | _ :: _, [], h, _ => by simp at h
theorem lexC_neg : ∀ a b : List Int, lexC a b = - lexC b a
  | [], [] => rfl
  | [], _ :: _ => by unfold lexC; rfl
  | _ :: _, [] => by unfold lexC; rfl
  | x :: a, y :: b => by
    unfold lexC
    by_cases e : x = y
    · rw [if_pos e, if_pos e.symm]; exact lexC_neg a b
    · rw [if_neg e, if_neg (fun h => e h.symm)]
      unfold cmp3
      by_cases h : x < y
      · rw [if_pos h, if_neg (by omega), if_pos h]
      · rw [if_neg h, if_pos (by omega), if_pos (by omega)]; rfl
theorem lexC_trans : ∀ a b c : List Int, a.length = b.length → b.length = c.length → lexC a b < 0 → lexC b c < 0 → lexC a c < 0
  | [], [], [], _, _, h, _ => by unfold lexC at h; omega
  | x :: a, y :: b, z :: c, h1, h2, h3, h4 => by
    unfold lexC at h3 h4 ⊢
    have e1 : a.length = b.length := by simpa using h1
    have e2 : b.length = c.length := by simpa using h2
    by_cases hxy : x = y
    · rw [if_pos hxy] at h3
      by_cases hyz : y = z
      · rw [if_pos hyz] at h4
        rw [if_pos (hxy.trans hyz)]
        exact lexC_trans a b c e1 e2 h3 h4
      · rw [if_neg hyz] at h4
        rw [if_neg (by omega), hxy]; exact h4
    · rw [if_neg hxy] at h3
      have h5 : x < y := by unfold cmp3 at h3; split at h3 <;> first | assumption | (split at h3 <;> omega)
      by_cases hyz : y = z
      · subst hyz
        rw [if_neg hxy]; exact h3
      · rw [if_neg hyz] at h4
        have h6 : y < z := by unfold cmp3 at h4; split at h4 <;> first | assumption | (split at h4 <;> omega)
        rw [if_neg (by omega)]
        unfold cmp3; rw [if_pos (by omega)]; decide
  | [], _ :: _, _, h, _, _, _ => by simp at h
  | _ :: _, [], _, h, _, _, _ => by simp at h
  | _ :: _, _ :: _, [], _, h, _, _ => by simp at h
  | [], [], _ :: _, _, h, _, _ => by simp at h
theorem cmpK {G : Gl} (ho : ∀ f x y, offT f = true → G.orc f (x :: y) = none) {KH : List (Nat × AObj)} {n K : Nat} {ids : List Nat} {ek : Bool} {key : Nat → List Int} (hkeys : Keys KH n K ids ek key) (hK : K ≤ 1000) (kb kid : Nat) :
    Cmp Tryz.prog G (.fn (.func 61) [] [.ptr kb 0 0]) (keysH kb kid n K ids KH) (fun x => 0 ≤ x ∧ x < n) (ltK key) where
  body := rfl
  call := fun x y hx hy => by
    obtain ⟨i, rfl⟩ : ∃ i : Nat, x = i := ⟨x.toNat, by omega⟩
    obtain ⟨j, rfl⟩ : ∃ j : Nat, y = j := ⟨y.toNat, by omega⟩
    refine ⟨61, [.s (.int .i64 i), .s (.int .i64 j), .ptr kb 0 0], rfl, (cmpK_fn ho hkeys hK kb kid i j (by omega) (by omega)).mono fun v Hn ⟨h1, h2⟩ => ⟨⟨_, h1, ?_⟩, h2⟩⟩
    unfold ltK
    simp only [Int.toNat_natCast]
    have hb := cmp3_bd (i : Int) j
    by_cases h0 : lexC (key j) (key i) = 0
    · rw [if_neg (by omega)]
      unfold cmp3
      constructor
      · intro h
        right
        refine ⟨h0, ?_⟩
        split at h
        · assumption
        · split at h <;> omega
      · rintro (h | ⟨_, h⟩)
        · omega
        · rw [if_pos h]; decide
    · rw [if_pos h0]
      constructor
      · exact fun h => .inl h
      · rintro (h | ⟨h, _⟩)
        · exact h
        · omega
  irr := fun x _ h => by
    rcases h with h | ⟨_, h⟩
    · rw [lexC_refl] at h; omega
    · omega
  tr := fun x y z hx hy hz h1 h2 => by
    have lx := hkeys.klen x.toNat (by omega)
    have ly := hkeys.klen y.toNat (by omega)
    have lz := hkeys.klen z.toNat (by omega)
    rcases h1 with h1 | ⟨h1, h1'⟩ <;> rcases h2 with h2 | ⟨h2, h2'⟩
    · exact .inl (lexC_trans _ _ _ (by omega) (by omega) h2 h1)
    · have := lexC_eq _ _ (by omega) h2
      left; rw [this]; exact h1
    · have := lexC_eq _ _ (by omega) h1
      left; rw [← this]; exact h2
    · have e1 := lexC_eq _ _ (by omega) h1
      have e2 := lexC_eq _ _ (by omega) h2
      right; rw [e2, e1]
      exact ⟨lexC_refl _, by omega⟩
  tot := fun x y _ _ hxy => by
    have h := lexC_neg (key y.toNat) (key x.toNat)
    unfold ltK
    by_cases h0 : lexC (key y.toNat) (key x.toNat) = 0
    · rw [h0] at h ⊢
      have h1 : lexC (key x.toNat) (key y.toNat) = 0 := by omega
      rw [h1]
      rcases Int.lt_or_gt_of_ne hxy with h2 | h2
      · exact .inl (.inr ⟨rfl, h2⟩)
      · exact .inr (.inr ⟨rfl, h2⟩)
    · by_cases h1 : lexC (key y.toNat) (key x.toNat) < 0
      · exact .inl (.inl h1)
      · exact .inr (.inl (by omega))
end Go.Proofs.YtnhnlkljcfbhfaaGreatDoor.Tb
/- The sum of a part of an own slice. -/
namespace Go.Proofs.YtnhnlkljcfbhfaaGreatDoor.Tb
open Go Go.Ab
theorem part_next {c : List Int} {o k : Nat} (h : o + k < c.length) : ((c.drop o).take (k + 1)).sum = ((c.drop o).take k).sum + c[o + k] := by
  rw [List.take_succ_eq_append_getElem (by rw [List.length_drop]; omega), List.sum_append, List.getElem_drop]
  simp only [List.sum_cons, List.sum_nil, Int.add_zero]
theorem part_bd {c : List Int} (h : ∀ x ∈ c, 0 ≤ x ∧ x ≤ 1000) : 0 ≤ c.sum ∧ c.sum ≤ 1000 * c.length := by
  induction c with
  | nil => simp
  | cons x c ih =>
    have h1 := ih fun x hx => h x (List.mem_cons_of_mem _ hx)
    have h2 := h x List.mem_cons_self
    simp only [List.sum_cons, List.length_cons]
    omega
attribute [local irreducible] SC SL wpc wpl wpd wpf wpy wpn FnC FnW RdW SD
set_option maxRecDepth 100000
set_option maxHeartbeats 2000000
theorem sum_fn {G : Gl} (ho : ∀ f x y, offT f = true → G.orc f (x :: y) = none) (c : List Int) (hc : ∀ x ∈ c, 0 ≤ x ∧ x ≤ 1000) (o n : Nat) (hn : o + n ≤ c.length) (hb : n ≤ 1000) (ex : Bool) (id : Nat) :
    FnC Tryz.prog G 88 [.sl id o n none] [(id, .cells 3 1 ex (ints c))] (fun v Hn => v = .s (.int .i64 ((c.drop o).take n).sum) ∧ Hn = []) := by
  refine Fn_body (N := 17) (ho _ _ _ (by rfl)) Tryz.func88 rfl rfl fun B => ?_
  repeat' (first
    | refine SC_seq ?_
    | refine SC_block ?_
    | refine SC_region ?_
    | refine SL_seq ?_
    | refine SL_move (by decide) (by rfl) ?_
    | refine SL_assign (by decide) (by rfl) ?_
    | refine SL_len_sl (by decide) (by rfl) (by rfl) (sliceOf_spec (slF (by rfl))).1 ?_
    | fail)
  refine SC_loop (fun k : Nat => [(6, .sl id o n none), (7, .s (.int .i64 n)), (8, .s (.int .i64 k)), (3, .s (.int .i64 ((c.drop o).take k).sum))]) (fun _ => [(id, .cells 3 1 ex (ints c))]) (fun _ => []) (fun k => k ≤ n) (fun k => n - k) 0 (by omega) ⟨rfl, rfl, rfl, rfl, trivial⟩ ⟨.head _, trivial⟩ (by simp) rfl ?_
  intro k hk
  by_cases hlt : k < n
  · have hbd := part_bd (c := (c.drop o).take k) (fun x hx => hc x (List.mem_of_mem_drop (List.mem_of_mem_take hx)))
    have hel := hc c[o + k] (List.getElem_mem (by omega))
    rw [List.length_take] at hbd
    repeat' (first
      | refine SC_seq ?_
      | refine SC_block ?_
      | refine SC_region ?_
      | refine SL_seq ?_
      | (refine SL_nil (fun tm σ hE hH => ?_); refine SC.app ?_ hE hH; clear hE hH; clear tm σ)
      | refine SL_move (by decide) (by rfl) ?_
      | refine SL_assign (by decide) (by rfl) ?_
      | refine SL_add (by decide) (by rfl) (by rfl) (by omega) (by omega) ?_
      | (refine SL_lss (by decide) (by rfl) (by rfl) (fun hT => ?_) (fun hT => ?_) <;> first | (exfalso; omega) | skip)
      | refine SL_indexAddr_o (by decide) (by rfl) (by rfl) (by repeat (first | exact .head _ | refine .tail _ ?_)) (slF (by rfl)) _ (by first | rfl | exact (Int.toNat_of_nonneg (by omega)).symm) (by omega) ?_
      | refine SL_load_o (by decide) (by rfl) (by repeat (first | exact .head _ | refine .tail _ ?_)) (rowF (by rfl)) (by first | assumption | rfl | exact ints_get _ (by omega)) (by rfl) ?_
      | refine SC_cond_t (by rfl) ?_
      | (refine SC_skip' (fun tm σ hE hH => ?_); refine SC.app ?_ hE hH; clear hE hH; clear tm σ)
      | fail)
    refine SL_nil fun tm σ hE hH => ⟨k + 1, by omega, by omega, tm, σ, rfl, hE.sub ⟨rfl, rfl, rfl, ?_, trivial⟩, hH.sub ⟨.head _, trivial⟩ (by simp)⟩
    rw [part_next (by omega)]; rfl
  · obtain rfl : k = n := by omega
    repeat' (first
      | refine SC_seq ?_
      | refine SC_region ?_
      | refine SL_seq ?_
      | refine SL_move (by decide) (by rfl) ?_
      | refine SL_assign (by decide) (by rfl) ?_
      | (refine SL_lss (by decide) (by rfl) (by rfl) (fun hT => ?_) (fun hT => ?_) <;> first | (exfalso; omega) | skip)
      | refine SC_cond_f (by rfl) ?_
      | (refine SC_exit (fun tm σ hE hH => ?_); refine SC.app ?_ hE hH; clear hE hH; clear tm σ)
      | fail)
    exact SC_ret (fun tm σ hE hH => Post.intro (Hn := []) (.inr rfl) hE hH (by rfl) trivial List.nodup_nil (fun p hp => by cases hp) ⟨rfl, rfl⟩)
theorem sum_nil {G : Gl} (ho : ∀ f x y, offT f = true → G.orc f (x :: y) = none) (a : AV) (ha : a = .sle ∨ a = .s (.slice none 0 0)) : FnC Tryz.prog G 88 [a] [] (fun v Hn => v = .s (.int .i64 0) ∧ Hn = []) := by
  refine Fn_body (N := 17) (ho _ _ _ (by rfl)) Tryz.func88 rfl rfl fun B => ?_
  rcases ha with rfl | rfl
  all_goals
    repeat' (first
      | refine SL_len_e (by decide) (by rfl) (by rfl) sl52 ?_
      | refine SC_seq ?_
      | refine SC_block ?_
      | refine SC_region ?_
      | refine SL_seq ?_
      | refine SL_move (by decide) (by rfl) ?_
      | refine SL_assign (by decide) (by rfl) ?_
      | refine SL_len_0 (by decide) (by rfl) (by rfl) (sliceOf_spec (slF (by rfl))).1 ?_
      | fail)
    refine SC_loop (fun _ : Unit => [(7, .s (.int .i64 0)), (8, .s (.int .i64 0)), (3, .s (.int .i64 0))]) (fun _ => []) (fun _ => []) (fun _ => True) (fun _ => 0) () trivial ⟨rfl, rfl, rfl, trivial⟩ trivial List.nodup_nil rfl ?_
    intro _ _
    repeat' (first
      | refine SC_seq ?_
      | refine SC_region ?_
      | refine SL_seq ?_
      | refine SL_move (by decide) (by rfl) ?_
      | refine SL_assign (by decide) (by rfl) ?_
      | (refine SL_lss (by decide) (by rfl) (by rfl) (fun hT => ?_) (fun hT => ?_) <;> first | (exfalso; omega) | skip)
      | refine SC_cond_f (by rfl) ?_
      | (refine SC_exit (fun tm σ hE hH => ?_); refine SC.app ?_ hE hH; clear hE hH; clear tm σ)
      | fail)
    exact SC_ret (fun tm σ hE hH => Post.intro (Hn := []) (.inr rfl) hE hH (by rfl) trivial List.nodup_nil (fun p hp => by cases hp) ⟨rfl, rfl⟩)
end Go.Proofs.YtnhnlkljcfbhfaaGreatDoor.Tb
/- What the games give together by a callback: value's total. -/
namespace Go.Proofs.YtnhnlkljcfbhfaaGreatDoor.Tb
open Go Go.Ab
attribute [local irreducible] SC SL wpc wpl wpd wpf wpy wpn FnC FnW RdW SD
set_option maxRecDepth 100000
set_option maxHeartbeats 2000000
def totE (f : Ev → Int) (es : List Ev) : Int := ((es.filter fun e => decide (0 ≤ e.o)).map f).sum
theorem totE_in (f : Ev → Int) (es : List Ev) (e : Ev) (h : 0 ≤ e.o) : totE f (es ++ [e]) = totE f es + f e := by
  unfold totE; simp [List.filter_append, h]
theorem totE_out (f : Ev → Int) (es : List Ev) (e : Ev) (h : e.o < 0) : totE f (es ++ [e]) = totE f es := by
  unfold totE; rw [List.filter_append, show [e].filter (fun e : Ev => decide (0 ≤ e.o)) = [] by simp; omega, List.append_nil]
theorem totE_bd {f : Ev → Int} {es : List Ev} (h : ∀ e ∈ es, 0 ≤ e.o → 0 ≤ f e ∧ f e ≤ 2000) : 0 ≤ totE f es ∧ totE f es ≤ 2000 * es.length := by
  induction es with
  | nil => simp [totE]
  | cons e es ih =>
    have h1 := ih fun e he => h e (List.mem_cons_of_mem _ he)
    have h2 := h e List.mem_cons_self
    unfold totE at h1 ⊢
    rw [List.filter_cons]
    split
    · rename_i ho
      have h3 := h2 (by simpa using ho)
      simp only [List.map_cons, List.sum_cons, List.length_cons]
      omega
    · simp only [List.length_cons]; omega
abbrev wayH (ba br bi sc : Nat) (ra : AV) (m : Nat) (F : Nat → Int) (i : Int) : List (Nat × AObj) := [(bi, .cells 3 1 true [[.s (.int .i64 i)]]), (br, .cells 63 1 true [[ra]]), (ba, .cells 52 1 true [[.sl sc 0 m none]]), (sc, .cells 3 1 true (tab m F))]
theorem total_fn {G : Gl} {rs : List (List Sc)} {ra : AV} {xs : List AV} (h : RV rs ra xs) (hg : ∀ gs ∈ rs, ∀ g ∈ gs, 0 ≤ g.p ∧ g.p ≤ 2) (ho : ∀ f x y, offT f = true → G.orc f (x :: y) = none) {m : Nat} (F : Nat → Int) (i : Int) (ba br bi sc : Nat)
    (cb : AV) (g : FuncId) (gas : Ev → List AV) (f : Ev → Int) (hc1 : cellsOf cb = [cb]) (hc2 : isCell cb = true) (hcn : bodyless Tryz.prog cb = false) (hct : ∀ e : Ev, target cb [.s (.agg #[.int .i64 e.o, .int .i64 e.p, .bool e.c])] = some (.enter g (gas e)))
    (hcf : ∀ e ∈ evU rs i rs.length, 0 ≤ e.o → FnC Tryz.prog G g (gas e) (wayH ba br bi sc ra m F i) (fun v Hn => v = .s (.int .i64 (f e)) ∧ Hn = [])) (hfb : ∀ e ∈ evU rs i rs.length, 0 ≤ e.o → 0 ≤ f e ∧ f e ≤ 2000) (hel : (evU rs i rs.length).length ≤ 1000) :
    FnC Tryz.prog G 86 [cb, .ptr br 0 0, .ptr bi 0 0] (wayH ba br bi sc ra m F i) (fun v Hn => v = .s (.int .i64 (totE f (evU rs i rs.length))) ∧ Hn = []) := by
  have hsl := h.sl
  refine Fn_body (N := 22) (ho _ _ _ (by rfl)) Tryz.func86 rfl rfl fun B => ?_
  refine SC_nd fun hnd0 => ?_
  repeat' (first
    | refine SL_box (by decide) (by rfl) hc1 (fun id hid => ?_)
    | (refine SL_call (by decide) (by rfl) bd36 (by rfl) (by rfl) (gamesOf_fn h i (ho _ _ _ (by rfl))) trivial List.nodup_nil ?_; rintro _ _ hBn ⟨ga, gb, rfl, rfl⟩; simp only [List.cons_append, List.nil_append])
    | refine SC_seq ?_
    | refine SC_block ?_
    | refine SC_region ?_
    | refine SL_seq ?_
    | refine SL_assign (by decide) (by rfl) ?_
    | refine SL_load_o (by decide) (by rfl) (by repeat (first | exact .head _ | refine .tail _ ?_)) (rowF (by rfl)) (by first | assumption | rfl) (by rfl) ?_
    | refine SL_store_box (by rfl) (by rfl) (by first | exact cells_3 _ _ _ | rfl) (by repeat (first | exact .head | apply Upd.tail)) (by first | exact .inl (by assumption) | exact .inr (by simp)) (by rfl) (szF (by rfl)) (by rfl) ?_
    | refine SL_alloc (by decide) (zeroF (by rfl)) (fun id hid => ?_)
    | fail)
  rename_i b3 hb3
  obtain ⟨b5, hb5, rfl⟩ : ∃ b, B.next ≤ b ∧ b = id := ⟨id, hid, rfl⟩
  refine SC_perm (List.perm_append_comm (l₁ := [(gb, _), (ga, _), (b5, _)]) (l₂ := (b3, _) :: wayH ba br bi sc ra m F i)) (SC_nd fun hnd1 => ?_)
  refine SC_range2 (Hr := (b3, .cells 154 1 true [[cb]]) :: wayH ba br bi sc ra m F i) (Hx := (b3, .cells 154 1 true [[cb]]) :: wayH ba br bi sc ra m F i)
    (Fin := fun H => H = [(b5, .cells 3 1 true [[.s (.int .i64 (totE f (evU rs i rs.length)))]])]) (M0 := [b5]) (xs := fun l => [.yld l, .ptr ga 0 0, .ptr gb 0 0]) (by rfl) (fun l => by rfl) ?_ (fun p hp => hp) ?_ ?_ ?_
  · intro q hq
    rw [List.mem_singleton] at hq
    subst hq
    exact ⟨.inl hb5, by simp⟩
  · rw [List.map_append, List.nodup_append] at hnd1
    exact hnd1.1
  · intro tm d l hE hl hnot
    refine games2_fn h hg i (fun es H => H = [(b5, .cells 3 1 true [[.s (.int .i64 (totE f es))]])]) [(b5, .cells 3 1 true [[.s (.int .i64 0)]])] ((b3, .cells 154 1 true [[cb]]) :: wayH ba br bi sc ra m F i) rfl ?_ (ho _ _ _ (by rfl))
    rintro es e Hc hpre rfl
    have hem : e ∈ evU rs i rs.length := hpre.subset (by simp)
    have hbd := totE_bd (f := f) (es := es) fun e' he' => hfb e' (hpre.subset (List.mem_append_left _ he'))
    have hfe := hfb e hem
    have hll := hpre.length_le
    rw [List.length_append, List.length_singleton] at hll
    refine Rd_body' (H := _) hE rfl (by decide) List.mem_cons_self fun B' => ?_
    dsimp only [List.cons_append, List.nil_append]
    repeat' (first
      | refine SC_region ?_
      | refine SL_store_box (by rfl) (by rfl) (by first | exact cells_3 _ _ _ | rfl) (by repeat (first | exact .head | apply Upd.tail)) (by first | exact .inl (by assumption) | exact .inr (by simp)) (by rfl) (szF (by rfl)) (by rfl) ?_
      | refine SL_alloc (by decide) (zeroF (by rfl)) (fun id hid => ?_)
      | fail)
    refine SL_nil fun tm1 σ1 hE1 hH1 => ⟨tm1, σ1, _, _, rfl, hE1, hH1.perm (List.Perm.swap _ _ _), ?_⟩
    clear hE1 hH1
    clear tm1 σ1
    repeat' (first
      | (refine SL_callv (by decide) (by rfl) hcn (by rfl) (hct e) (hcf e hem (by assumption)) (.of_mem fun p hp => .tail _ (.tail _ (.tail _ (.tail _ hp)))) hnd0 ?_; rintro _ _ _ ⟨rfl, rfl⟩; rw [List.nil_append])
      | refine SD_op (i := 5) [b5] [(0, b5)] (by rfl) (by rfl) (fun _ h => by cases h) (fun p hp => by rw [List.mem_singleton] at hp; subst hp; simp) (fun k hk => by cases hk) (.inl rfl) ?_
      | refine SD_op (i := 3) _ [(0, b5)] (by rfl) (by rfl) (fun _ h => h) (fun p hp => by rw [List.mem_singleton] at hp; subst hp; simp) (fun k hk => by rw [List.mem_singleton] at hk; subst hk; exact ⟨b5, List.mem_singleton.2 rfl, by simp, hb5lt⟩) (.inl rfl) ?_
      | refine SD_op (i := 0) _ [(0, b5)] (by rfl) (by rfl) (fun _ h => h) (fun p hp => by cases hp) (fun k hk => by cases hk) (.inr ⟨.tmp 5, .ptr b5 0 0, b5, rfl, rfl, rfl, by simp, hb5lt, rfl⟩) ?_
      | refine SD_op _ [(0, b5)] (by rfl) (by rfl) (fun _ h => h) (fun p hp => by rw [List.mem_singleton] at hp; subst hp; simp) (fun k hk => by cases hk) (.inl rfl) ?_
      | (refine SC_drawn (id := 5) (pl := [(0, []), (1, []), (2, []), (3, [0]), (4, []), (5, [])]) (by kernel_rfl) (by kernel_rfl) ?_; intro B2 base hb1 hb2 hb3 hb4; have hb5lt : b5 < B2.next := (by have h5 := hb4 (b5, _) (.tail _ (.tail _ (.head _))); have h5' : b5 < base := h5; exact Nat.lt_of_lt_of_le h5' (Nat.le_trans (Nat.le_add_right _ _) hb2)))
      | refine SC_seq ?_
      | refine SC_block ?_
      | refine SC_region ?_
      | refine SL_seq ?_
      | refine SL_add (by decide) (by rfl) (by rfl) (by omega) (by omega) ?_
      | (refine SL_geq (by decide) (by rfl) (by rfl) (fun hT => ?_) (fun hT => ?_) <;> first | (exfalso; omega) | skip)
      | refine SL_fieldAddr (by decide) (by rfl) (fldF (by rfl)) ?_
      | refine SL_load_o (by decide) (by rfl) (by repeat (first | exact .head _ | refine .tail _ ?_)) (rowF (by rfl)) (by first | assumption | rfl) (by rfl) ?_
      | refine SL_load_or (by decide) (by rfl) (by repeat (first | exact .head _ | refine .tail _ ?_)) (rowF (by rfl)) (by first | assumption | rfl) (Nat.le_of_ble_eq_true (by rfl)) (by first | exact mk3 _ | rfl) ?_
      | refine SL_store_box (by rfl) (by rfl) (by first | exact cells_3 _ _ _ | rfl) (by repeat (first | exact .head | apply Upd.tail)) (by first | exact .inl (by assumption) | exact .inr (by simp)) (by rfl) (szF (by rfl)) (by rfl) ?_
      | refine SC_cond_t (by rfl) ?_
      | refine SC_cond_f (by rfl) ?_
      | (refine SL_nil (fun tm σ hE hH => ⟨_, _, _, _, rfl, hE, hH, ?_⟩); clear hE hH; clear tm σ)
      | fail)
    · refine SD_nil fun tm2 σ2 hE2 hH2 => ⟨_, _, _, _, _, rfl, hE2, hH2, fun q hq => ?_, fun tm3 σ3 hE3 hH3 => ?_⟩
      · rw [List.mem_singleton] at hq
        subst hq
        exact .inr (by simp)
      · dsimp only [InB]
        refine RPost.intro (Hn := [(l, _), (b5, _)]) hH3 List.mem_cons_self .head ⟨.head _, .tail _ (.tail _ (.head _)), trivial⟩ (hH3.nodup.sublist (.cons_cons _ (.cons _ (.cons_cons _ (List.nil_sublist _))))) (fun p hp => .inl ?_) ⟨rfl, _, rfl, ?_⟩
        · simp only [List.mem_cons, List.not_mem_nil, or_false] at hp
          rcases hp with rfl | rfl <;> simp
        · rw [totE_in _ _ _ (by assumption)]; rfl
    · refine SC_skip' (fun tm3 σ3 hE3 hH3 => ?_)
      dsimp only [InB]
      refine RPost.intro (Hn := [(l, _), (b5, _)]) hH3 List.mem_cons_self .head ⟨.head _, .tail _ (.tail _ (.head _)), trivial⟩ (hH3.nodup.sublist (.cons_cons _ (.cons _ (.cons_cons _ (List.nil_sublist _))))) (fun p hp => .inl ?_) ⟨rfl, _, rfl, ?_⟩
      · simp only [List.mem_cons, List.not_mem_nil, or_false] at hp
        rcases hp with rfl | rfl <;> simp
      · rw [totE_out _ _ _ (by assumption)]
  · rintro d H' tm' σ' hpl rfl hE' hH'
    refine SC.app ?_ hE' hH'
    clear hE' hH'
    clear tm' σ'
    dsimp only [List.cons_append, List.nil_append]
    repeat' (first
      | refine SC_seq ?_
      | refine SC_region ?_
      | refine SL_seq ?_
      | refine SL_assign (by decide) (by rfl) ?_
      | refine SL_load_o (by decide) (by rfl) (by repeat (first | exact .head _ | refine .tail _ ?_)) (rowF (by rfl)) (by first | assumption | rfl) (by rfl) ?_
      | fail)
    exact SC_ret (fun tm σ hE hH => Post.intro (Hn := []) (.inr rfl) hE hH (by rfl) trivial List.nodup_nil (fun p hp => by cases hp) ⟨rfl, rfl⟩)
end Go.Proofs.YtnhnlkljcfbhfaaGreatDoor.Tb
/- The tie-breaks that sum the foes' scores: all, without the least, without the least and the greatest. -/
namespace Go.Proofs.YtnhnlkljcfbhfaaGreatDoor.Tb
open Go Go.Ab
attribute [local irreducible] SC SL wpc wpl wpd wpf wpy wpn FnC FnW RdW SD
set_option maxRecDepth 100000
set_option maxHeartbeats 2000000
theorem minR (n : Int) (ty : TypeId) (pos : String) (af : Array Edge) : effPure Tryz.prog ⟨some 12, .call ⟨.builtin .min, #[.const (.int .i64 1), .tmp 11], #[3, 3]⟩, ty, pos, af, none⟩ (evC [(11, .s (.int .i64 n))]) = some (.s (.int .i64 (if n < 1 then n else 1))) := by kernel_rfl
theorem slR (ty : TypeId) (pos : String) (af : Array Edge) : effPure Tryz.prog ⟨some 13, .slice 52 (.tmp 9) (some (.tmp 12)) none none, ty, pos, af, none⟩ (evC [(9, .s (.slice none 0 0)), (12, .s (.int .i64 0))]) = some (.s (.slice none 0 0)) := by kernel_rfl
theorem foes_bd {m : Nat} {F : Nat → Int} (hF : ∀ x, x < m → 0 ≤ F x ∧ F x ≤ 1000) {es : List Ev} (hev : ∀ e ∈ es, e.o < m) : ∀ x ∈ foesL F es, 0 ≤ x ∧ x ≤ 1000 := by
  intro x hx
  unfold foesL at hx
  obtain ⟨e, he, rfl⟩ := List.mem_map.1 hx
  obtain ⟨h1, h2⟩ := List.mem_filter.1 he
  have := hev e h1
  simp only [decide_eq_true_eq] at h2
  exact hF _ (by omega)
theorem perm_sum {a b : List Int} (h : a.Perm b) : a.sum = b.sum := by
  induction h with
  | nil => rfl
  | cons x _ ih => simp only [List.sum_cons, ih]
  | swap x y l => simp only [List.sum_cons]; omega
  | trans _ _ h1 h2 => exact h1.trans h2
section
variable {G : Gl} {rs : List (List Sc)} {ra : AV} {xs : List AV} (h : RV rs ra xs) (hg : ∀ gs ∈ rs, ∀ g ∈ gs, 0 ≤ g.p ∧ g.p ≤ 2) (ho : ∀ f x y, offT f = true → G.orc f (x :: y) = none) {m : Nat} (F : Nat → Int) (hF : ∀ x, x < m → 0 ≤ F x ∧ F x ≤ 1000) (i : Int) (hev : ∀ e ∈ evU rs i rs.length, e.o < m) (hlen : (foesL F (evU rs i rs.length)).length ≤ 12)
include h hg ho hF hev hlen
theorem buch_fn (ba br bi sc : Nat) : FnC Tryz.prog G 87 [.ptr ba 0 0, .ptr br 0 0, .ptr bi 0 0] (wayH ba br bi sc ra m F i) (fun v Hn => v = .s (.int .i64 (foesL F (evU rs i rs.length)).sum) ∧ Hn = []) := by
  have h44 := foes_fn h hg ho F i hev hlen sc
  have hcb : ∀ c : List Int, c.Perm (foesL F (evU rs i rs.length)) → ∀ x ∈ c, 0 ≤ x ∧ x ≤ 1000 := fun c hcp x hx => foes_bd hF hev x (hcp.subset hx)
  refine Fn_body (N := 9) (ho _ _ _ (by rfl)) Tryz.func87 rfl rfl fun B => ?_
  repeat' (first
    | (refine SL_call (by decide) (by rfl) bd43 (by rfl) (by rfl) (sum_fn ho c (hcb c hcp) _ _ (by have := hcp.length_eq; omega) (by have := hcp.length_eq; omega) false fid) ⟨.head _, trivial⟩ (by simp) ?_; rintro _ _ _ ⟨rfl, rfl⟩; rw [List.nil_append])
    | (refine SL_call (by decide) (by rfl) bd43 (by rfl) (by rfl) (sum_nil ho _ (.inr rfl)) trivial List.nodup_nil ?_; rintro _ _ _ ⟨rfl, rfl⟩; rw [List.nil_append])
    | (refine SL_call (by decide) (by rfl) bd44 (by rfl) (by rfl) h44 ⟨.tail _ (.tail _ (.tail _ (.head _))), trivial⟩ (by simp) ?_; rintro _ _ hB44 (⟨hf0, rfl, rfl⟩ | ⟨fid, c, rfl, rfl, hcp, hcs⟩) <;> simp only [List.cons_append, List.nil_append] <;> try (have hcl := hcp.length_eq))
    | refine SC_seq ?_
    | refine SC_region ?_
    | refine SL_seq ?_
    | refine SL_assign (by decide) (by rfl) ?_
    | refine SL_load_o (by decide) (by rfl) (by repeat (first | exact .head _ | refine .tail _ ?_)) (rowF (by rfl)) (by first | assumption | rfl) (by rfl) ?_
    | fail)
  · refine SC_ret (fun tm σ hE hH => Post.intro (Hn := []) (.inr rfl) hE hH (by rfl) trivial List.nodup_nil (fun p hp => by cases hp) ⟨?_, rfl⟩)
    rw [hf0]; rfl
  · refine SC_ret (fun tm σ hE hH => Post.intro (Hn := []) (.inr rfl) hE hH (by rfl) trivial List.nodup_nil (fun p hp => by cases hp) ⟨?_, rfl⟩)
    rw [List.drop_zero, List.take_length, perm_sum hcp]; rfl
theorem cut_fn (ba br bi sc : Nat) : FnC Tryz.prog G 90 [.ptr ba 0 0, .ptr br 0 0, .ptr bi 0 0] (wayH ba br bi sc ra m F i) (fun v Hn => (∃ c : List Int, c.Perm (foesL F (evU rs i rs.length)) ∧ SortedTo c c.length ∧ v = .s (.int .i64 (c.drop 1).sum)) ∧ Hn = []) := by
  have h44 := foes_fn h hg ho F i hev hlen sc
  have hcb : ∀ c : List Int, c.Perm (foesL F (evU rs i rs.length)) → ∀ x ∈ c, 0 ≤ x ∧ x ≤ 1000 := fun c hcp x hx => foes_bd hF hev x (hcp.subset hx)
  refine Fn_body (N := 15) (ho _ _ _ (by rfl)) Tryz.func90 rfl rfl fun B => ?_
  repeat' (first
    | refine SL_pure [(9, .s (.slice none 0 0)), (12, .s (.int .i64 0))] (by decide) ⟨rfl, rfl, trivial⟩ (by rfl) (fun tm σ h1 => by unfold eff; simp only [effSliceTop, effSliceOp, h1.ev (x := .tmp 9) rfl, isRef]; rfl) (fun _ _ h => by cases h) (slR _ _ _) ?_
    | refine SL_pure [(11, .s (.int .i64 c.length))] (by decide) ⟨rfl, trivial⟩ (by rfl) (fun tm σ _ => rfl) (fun _ _ h => by cases h) (minR c.length _ _ _) ?_
    | refine SL_pure [(11, .s (.int .i64 0))] (by decide) ⟨rfl, trivial⟩ (by rfl) (fun tm σ _ => rfl) (fun _ _ h => by cases h) (minR 0 _ _ _) ?_
    | (refine SL_call (by decide) (by rfl) bd43 (by rfl) (by rfl) (sum_nil ho _ (.inr rfl)) trivial List.nodup_nil ?_; rintro _ _ _ ⟨rfl, rfl⟩; rw [List.nil_append])
    | (refine SL_call (by decide) (by rfl) bd44 (by rfl) (by rfl) h44 ⟨.tail _ (.tail _ (.tail _ (.head _))), trivial⟩ (by simp) ?_; rintro _ _ hB44 (⟨hf0, rfl, rfl⟩ | ⟨fid, c, rfl, rfl, hcp, hcs⟩) <;> simp only [List.cons_append, List.nil_append] <;> try (have hcl := hcp.length_eq))
    | refine SC_seq ?_
    | refine SC_region ?_
    | refine SL_seq ?_
    | refine SL_move (by decide) (by rfl) ?_
    | refine SL_assign (by decide) (by rfl) ?_
    | refine SL_len_sl (by decide) (by rfl) (by rfl) (sliceOf_spec (slF (by rfl))).1 ?_
    | refine SL_len_0 (by decide) (by rfl) (by rfl) (sliceOf_spec (slF (by rfl))).1 ?_
    | refine SL_load_o (by decide) (by rfl) (by repeat (first | exact .head _ | refine .tail _ ?_)) (rowF (by rfl)) (by first | assumption | rfl) (by rfl) ?_
    | fail)
  · refine SC_ret (fun tm σ hE hH => Post.intro (Hn := []) (.inr rfl) hE hH (by rfl) trivial List.nodup_nil (fun p hp => by cases hp) ⟨⟨[], by rw [hf0], fun p q _ hq => absurd hq (Nat.not_lt_zero _), rfl⟩, rfl⟩)
  · by_cases h2 : 2 ≤ c.length
    · refine SL_slice (l := 1) (h := c.length) (v := .sl fid 1 (c.length - 1) none) (by decide) (by rfl) (.head _) sl52 rfl (by rw [ints_len]) (fun tm h1 => ?_) (fun tm h1 => rfl) (by omega) (by rw [if_pos (by omega)]) (by omega) ?_
      · simp only [Option.map_some, h1.ev (x := .tmp 12) rfl, bound]
        rw [if_neg (show ¬ ((c.length : Int) < 1) by omega), if_pos ⟨by omega, by omega⟩]; rfl
      repeat' (first
        | (refine SL_call (by decide) (by rfl) bd43 (by rfl) (by rfl) (sum_fn ho c (hcb c hcp) _ _ (by have := hcp.length_eq; omega) (by have := hcp.length_eq; omega) false fid) ⟨.head _, trivial⟩ (by simp) ?_; rintro _ _ _ ⟨rfl, rfl⟩; rw [List.nil_append])
        | refine SL_seq ?_
        | refine SL_assign (by decide) (by rfl) ?_
        | fail)
      refine SC_ret (fun tm σ hE hH => Post.intro (Hn := []) (.inr rfl) hE hH (by rfl) trivial List.nodup_nil (fun p hp => by cases hp) ⟨?_, rfl⟩)
      exact ⟨c, hcp, hcs, by rw [List.take_of_length_le (by rw [List.length_drop]; omega)]; rfl⟩
    · by_cases h1 : c.length = 1
      · refine SL_slice (l := 1) (h := c.length) (v := .sle) (by decide) (by rfl) (.head _) sl52 rfl (by rw [ints_len]) (fun tm h1 => ?_) (fun tm h1 => rfl) (by omega) (by rw [if_neg (by omega), if_pos (by omega)]) (by omega) ?_
        · simp only [Option.map_some, h1.ev (x := .tmp 12) rfl, bound]
          rw [if_neg (show ¬ ((c.length : Int) < 1) by omega), if_pos ⟨by omega, by omega⟩]; rfl
        repeat' (first
          | (refine SL_call (by decide) (by rfl) bd43 (by rfl) (by rfl) (sum_nil ho _ (.inl rfl)) trivial List.nodup_nil ?_; rintro _ _ _ ⟨rfl, rfl⟩; rw [List.nil_append])
          | refine SL_seq ?_
          | refine SL_assign (by decide) (by rfl) ?_
          | fail)
        refine SC_ret (fun tm σ hE hH => Post.intro (Hn := []) (.inr rfl) hE hH (by rfl) trivial List.nodup_nil (fun p hp => by cases hp) ⟨?_, rfl⟩)
        exact ⟨c, hcp, hcs, by rw [List.drop_eq_nil_of_le (by omega)]; rfl⟩
      · refine SL_slice (l := 0) (h := c.length) (v := .sl fid 0 c.length none) (by decide) (by rfl) (.head _) sl52 rfl (by rw [ints_len]) (fun tm h1 => ?_) (fun tm h1 => rfl) (by omega) (by rw [if_pos (by omega)]; rfl) (by omega) ?_
        · simp only [Option.map_some, h1.ev (x := .tmp 12) rfl, bound]
          rw [if_pos (show ((c.length : Int) < 1) by omega), if_pos ⟨by omega, by omega⟩]; exact congrArg some (by omega)
        repeat' (first
          | (refine SL_call (by decide) (by rfl) bd43 (by rfl) (by rfl) (sum_fn ho c (hcb c hcp) _ _ (by have := hcp.length_eq; omega) (by have := hcp.length_eq; omega) false fid) ⟨.head _, trivial⟩ (by simp) ?_; rintro _ _ _ ⟨rfl, rfl⟩; rw [List.nil_append])
          | refine SL_seq ?_
          | refine SL_assign (by decide) (by rfl) ?_
          | fail)
        refine SC_ret (fun tm σ hE hH => Post.intro (Hn := []) (.inr rfl) hE hH (by rfl) trivial List.nodup_nil (fun p hp => by cases hp) ⟨?_, rfl⟩)
        refine ⟨c, hcp, hcs, ?_⟩
        obtain rfl : c = [] := List.eq_nil_of_length_eq_zero (by omega)
        rfl
theorem med_fn (ba br bi sc : Nat) : FnC Tryz.prog G 91 [.ptr ba 0 0, .ptr br 0 0, .ptr bi 0 0] (wayH ba br bi sc ra m F i) (fun v Hn => (∃ c : List Int, c.Perm (foesL F (evU rs i rs.length)) ∧ SortedTo c c.length ∧ v = .s (.int .i64 (if c.length < 2 then 0 else ((c.drop 1).take (c.length - 2)).sum))) ∧ Hn = []) := by
  have h44 := foes_fn h hg ho F i hev hlen sc
  have hcb : ∀ c : List Int, c.Perm (foesL F (evU rs i rs.length)) → ∀ x ∈ c, 0 ≤ x ∧ x ≤ 1000 := fun c hcp x hx => foes_bd hF hev x (hcp.subset hx)
  refine Fn_body (N := 18) (ho _ _ _ (by rfl)) Tryz.func91 rfl rfl fun B => ?_
  repeat' (first
    | (refine SL_call (by decide) (by rfl) bd44 (by rfl) (by rfl) h44 ⟨.tail _ (.tail _ (.tail _ (.head _))), trivial⟩ (by simp) ?_; rintro _ _ hB44 (⟨hf0, rfl, rfl⟩ | ⟨fid, c, rfl, rfl, hcp, hcs⟩) <;> simp only [List.cons_append, List.nil_append] <;> try (have hcl := hcp.length_eq))
    | refine SC_seq ?_
    | refine SC_region ?_
    | refine SL_seq ?_
    | refine SL_move (by decide) (by rfl) ?_
    | refine SL_assign (by decide) (by rfl) ?_
    | refine SL_sub (by decide) (by rfl) (by rfl) (by omega) (by omega) ?_
    | (refine SL_lss (by decide) (by rfl) (by rfl) (fun hT => ?_) (fun hT => ?_) <;> first | (exfalso; omega) | skip)
    | refine SL_len_sl (by decide) (by rfl) (by rfl) (sliceOf_spec (slF (by rfl))).1 ?_
    | refine SL_len_0 (by decide) (by rfl) (by rfl) (sliceOf_spec (slF (by rfl))).1 ?_
    | refine SL_load_o (by decide) (by rfl) (by repeat (first | exact .head _ | refine .tail _ ?_)) (rowF (by rfl)) (by first | assumption | rfl) (by rfl) ?_
    | refine SC_cond_t (by rfl) ?_
    | refine SC_cond_f (by rfl) ?_
    | (refine SC_skip' (fun tm σ hE hH => ?_); refine SC.app ?_ hE hH; clear hE hH; clear tm σ)
    | fail)
  · refine SC_ret (fun tm σ hE hH => Post.intro (Hn := []) (.inr rfl) hE hH (by rfl) trivial List.nodup_nil (fun p hp => by cases hp) ⟨?_, rfl⟩)
    exact ⟨[], by rw [hf0], fun p q _ hq => absurd hq (Nat.not_lt_zero _), rfl⟩
  · refine SC_ret (fun tm σ hE hH => Post.intro (Hn := []) (.inr rfl) hE hH (by rfl) trivial List.nodup_nil (fun p hp => by cases hp) ⟨?_, rfl⟩)
    exact ⟨c, hcp, hcs, by rw [if_pos (by omega)]; rfl⟩
  · refine SL_slice (l := 1) (h := c.length - 1) (v := .sl fid 1 (c.length - 2) none) (by decide) (by rfl) (.head _) sl52 rfl (by rw [ints_len]) (fun tm h1 => ?_) (fun tm h1 => ?_) (by omega) (by rw [if_pos (by omega)]; rfl) (by omega) ?_
    · simp only [Option.map_some, evT, bound]
      rw [if_pos ⟨by omega, by omega⟩]; rfl
    · simp only [Option.map_some, h1.ev (x := .tmp 15) rfl, bound]
      rw [if_pos ⟨by omega, by omega⟩]; exact congrArg some (by omega)
    repeat' (first
      | (refine SL_call (by decide) (by rfl) bd43 (by rfl) (by rfl) (sum_fn ho c (hcb c hcp) _ _ (by have := hcp.length_eq; omega) (by have := hcp.length_eq; omega) false fid) ⟨.head _, trivial⟩ (by simp) ?_; rintro _ _ _ ⟨rfl, rfl⟩; rw [List.nil_append])
      | refine SL_seq ?_
      | refine SL_assign (by decide) (by rfl) ?_
      | fail)
    refine SC_ret (fun tm σ hE hH => Post.intro (Hn := []) (.inr rfl) hE hH (by rfl) trivial List.nodup_nil (fun p hp => by cases hp) ⟨?_, rfl⟩)
    exact ⟨c, hcp, hcs, by rw [if_neg (by omega)]; rfl⟩
end
end Go.Proofs.YtnhnlkljcfbhfaaGreatDoor.Tb
/- What the tie-breaks take from one game. -/
namespace Go.Proofs.YtnhnlkljcfbhfaaGreatDoor.Tb
open Go Go.Ab
attribute [local irreducible] SC SL wpc wpl wpd wpf wpy wpn FnC FnW RdW SD
set_option maxRecDepth 100000
set_option maxHeartbeats 2000000
theorem mul_bd {a b : Int} (h1 : 0 ≤ a) (h2 : a ≤ 2) (h3 : 0 ≤ b) (h4 : b ≤ 1000) : 0 ≤ a * b ∧ a * b ≤ 2000 := by
  have : a = 0 ∨ a = 1 ∨ a = 2 := by omega
  rcases this with rfl | rfl | rfl <;> omega
theorem sonne_fn {G : Gl} (ho : ∀ f x y, offT f = true → G.orc f (x :: y) = none) (o p : Int) (c : Bool) {m : Nat} (F : Nat → Int) (hF : ∀ x, x < m → 0 ≤ F x ∧ F x ≤ 1000) (h0 : 0 ≤ o) (hm : o < m) (hp0 : 0 ≤ p) (hp2 : p ≤ 2) (ba sc : Nat) :
    FnC Tryz.prog G 93 [.s (.agg #[.int .i64 o, .int .i64 p, .bool c]), .ptr ba 0 0] [(ba, .cells 52 1 true [[.sl sc 0 m none]]), (sc, .cells 3 1 true (tab m F))] (fun v Hn => v = .s (.int .i64 (p * F o.toNat)) ∧ Hn = []) := by
  have hFo := hF o.toNat (by omega)
  have hmb := mul_bd hp0 hp2 hFo.1 hFo.2
  refine Fn_body (N := 12) (ho _ _ _ (by rfl)) Tryz.func93 rfl rfl fun B => ?_
  repeat' (first
    | refine SL_mul (by decide) (by rfl) (by rfl) (by omega) (by omega) ?_
    | refine SC_seq ?_
    | refine SC_region ?_
    | refine SL_seq ?_
    | refine SL_assign (by decide) (by rfl) ?_
    | refine SL_fieldAddr (by decide) (by rfl) (fldF (by rfl)) ?_
    | refine SL_indexAddr_0 (by decide) (by rfl) (by rfl) (by repeat (first | exact .head _ | refine .tail _ ?_)) (slF (by rfl)) _ (by first | rfl | exact (Int.toNat_of_nonneg (by omega)).symm) (by omega) ?_
    | refine SL_load_o (by decide) (by rfl) (by repeat (first | exact .head _ | refine .tail _ ?_)) (rowF (by rfl)) (by first | assumption | rfl | exact tab_get _ _ (by omega)) (by rfl) ?_
    | refine SL_box (by decide) (by rfl) (by first | exact cells_3 _ _ _ | rfl) (fun id hid => ?_)
    | refine SC_draw (by kernel_rfl) ?_
    | fail)
  exact SC_ret (fun tm σ hE hH => Post.intro (Hn := []) (.inr rfl) hE hH (by rfl) trivial List.nodup_nil (fun p hp => by cases hp) ⟨rfl, rfl⟩)
theorem direct_fn {G : Gl} (ho : ∀ f x y, offT f = true → G.orc f (x :: y) = none) (o p : Int) (c : Bool) {m : Nat} (F : Nat → Int) (h0 : 0 ≤ o) (hm : o < m) (i : Nat) (hi : i < m) (ba bp sc : Nat) :
    FnC Tryz.prog G 98 [.s (.agg #[.int .i64 o, .int .i64 p, .bool c]), .ptr ba 0 0, .ptr bp 0 0] [(bp, .cells 3 1 true [[.s (.int .i64 i)]]), (ba, .cells 52 1 true [[.sl sc 0 m none]]), (sc, .cells 3 1 true (tab m F))] (fun v Hn => v = .s (.int .i64 (if F o.toNat = F i then p else 0)) ∧ Hn = []) := by
  refine Fn_body (N := 17) (ho _ _ _ (by rfl)) Tryz.func98 rfl rfl fun B => ?_
  repeat' (first
    | refine SC_seq ?_
    | refine SC_region ?_
    | refine SL_seq ?_
    | refine SL_assign (by decide) (by rfl) ?_
    | (refine SL_neq (by decide) (by rfl) (by rfl) (fun hT => ?_) (fun hT => ?_) <;> first | (exfalso; omega) | skip)
    | refine SL_fieldAddr (by decide) (by rfl) (fldF (by rfl)) ?_
    | refine SL_indexAddr_0 (by decide) (by rfl) (by rfl) (by repeat (first | exact .head _ | refine .tail _ ?_)) (slF (by rfl)) _ (by first | rfl | exact (Int.toNat_of_nonneg (by omega)).symm) (by omega) ?_
    | refine SL_load_o (by decide) (by rfl) (by repeat (first | exact .head _ | refine .tail _ ?_)) (rowF (by rfl)) (by first | assumption | rfl | exact tab_get _ _ (by omega)) (by rfl) ?_
    | refine SL_box (by decide) (by rfl) (by first | exact cells_3 _ _ _ | rfl) (fun id hid => ?_)
    | refine SC_draw (by kernel_rfl) ?_
    | refine SC_cond_t (by rfl) ?_
    | refine SC_cond_f (by rfl) ?_
    | (refine SC_skip' (fun tm σ hE hH => ?_); refine SC.app ?_ hE hH; clear hE hH; clear tm σ)
    | fail)
  · refine SC_ret (fun tm σ hE hH => Post.intro (Hn := []) (.inr rfl) hE hH (by rfl) trivial List.nodup_nil (fun p hp => by cases hp) ⟨?_, rfl⟩)
    rw [if_neg (by assumption)]; rfl
  · refine SC_ret (fun tm σ hE hH => Post.intro (Hn := []) (.inr rfl) hE hH (by rfl) trivial List.nodup_nil (fun p hp => by cases hp) ⟨?_, rfl⟩)
    rw [if_pos (by assumption)]; rfl
theorem quoR (p : Int) (h0 : 0 ≤ p) (h2 : p ≤ 2) : evalP Tryz.prog (do eqGuard .quo 3 (.tmp 4) (.const (.int .i64 2)) (.int .i64 p) (.int .i64 2); binOp .quo 3 (.int .i64 p) (.int .i64 2)) = some (.int .i64 (p / 2)) := by
  have : p = 0 ∨ p = 1 ∨ p = 2 := by omega
  rcases this with rfl | rfl | rfl <;> (show _ = some _; kernel_rfl)
theorem wins_fn {G : Gl} (ho : ∀ f x y, offT f = true → G.orc f (x :: y) = none) (o p : Int) (c : Bool) (hp0 : 0 ≤ p) (hp2 : p ≤ 2) :
    FnC Tryz.prog G 96 [.s (.agg #[.int .i64 o, .int .i64 p, .bool c])] [] (fun v Hn => v = .s (.int .i64 (p / 2)) ∧ Hn = []) := by
  refine Fn_body (N := 6) (ho _ _ _ (by rfl)) Tryz.func96 rfl rfl fun B => ?_
  repeat' (first
    | refine SL_bin (by decide) (by rfl) (by rfl) (by rfl) (quoR p hp0 hp2) ?_
    | refine SC_seq ?_
    | refine SC_region ?_
    | refine SL_seq ?_
    | refine SL_assign (by decide) (by rfl) ?_
    | refine SL_fieldAddr (by decide) (by rfl) (fldF (by rfl)) ?_
    | refine SL_load_o (by decide) (by rfl) (by repeat (first | exact .head _ | refine .tail _ ?_)) (rowF (by rfl)) (by first | assumption | rfl | exact tab_get _ _ (by omega)) (by rfl) ?_
    | refine SL_box (by decide) (by rfl) (by first | exact cells_3 _ _ _ | rfl) (fun id hid => ?_)
    | fail)
  exact SC_ret (fun tm σ hE hH => Post.intro (Hn := []) (.inr rfl) hE hH (by rfl) trivial List.nodup_nil (fun p hp => by cases hp) ⟨rfl, rfl⟩)
end Go.Proofs.YtnhnlkljcfbhfaaGreatDoor.Tb
/- The tie-breaks that sum over the games by a callback, and the progress. -/
namespace Go.Proofs.YtnhnlkljcfbhfaaGreatDoor.Tb
open Go Go.Ab
attribute [local irreducible] SC SL wpc wpl wpd wpf wpy wpn FnC FnW RdW SD
set_option maxRecDepth 100000
set_option maxHeartbeats 2000000
abbrev totV (br bi : Nat) : AV := .fn (.func 86) [] [.ptr br 0 0, .ptr bi 0 0]
theorem ev1_k {k : Nat} {i : Int} {g : Sc} : ∀ e ∈ ev1 k i g, e.k = k := by
  unfold ev1; split
  · intro e he; rw [List.mem_singleton] at he; subst he; rfl
  · split
    · intro e he; rw [List.mem_singleton] at he; subst he; rfl
    · intro e he; cases he
theorem evU_k {rs : List (List Sc)} (i : Int) : ∀ k, k ≤ rs.length → ∀ e ∈ evU rs i k, 0 ≤ e.k ∧ e.k < k
  | 0, _ => by intro e he; cases he
  | k + 1, h => by
    intro e he
    rw [evU_next h, List.mem_append] at he
    rcases he with he | he
    · have := evU_k i k (by omega) e he
      omega
    · obtain ⟨g, _, he⟩ := List.mem_flatMap.1 he
      have := ev1_k e he
      omega
def progE (R : Int) (es : List Ev) : Int := (es.map fun e => e.p * (R - e.k)).sum
theorem progE_next (R : Int) (es : List Ev) (e : Ev) : progE R (es ++ [e]) = progE R es + e.p * (R - e.k) := by
  unfold progE; simp
theorem progE_bd {R : Int} {es : List Ev} (h : ∀ e ∈ es, 0 ≤ e.p * (R - e.k) ∧ e.p * (R - e.k) ≤ 2000) : 0 ≤ progE R es ∧ progE R es ≤ 2000 * es.length := by
  induction es with
  | nil => simp [progE]
  | cons e es ih =>
    have h1 := ih fun e he => h e (List.mem_cons_of_mem _ he)
    have h2 := h e List.mem_cons_self
    unfold progE at h1 ⊢
    simp only [List.map_cons, List.sum_cons, List.length_cons]
    omega
section
variable {G : Gl} {rs : List (List Sc)} {ra : AV} {xs : List AV} (h : RV rs ra xs) (hg : ∀ gs ∈ rs, ∀ g ∈ gs, 0 ≤ g.p ∧ g.p ≤ 2) (ho : ∀ f x y, offT f = true → G.orc f (x :: y) = none) {m : Nat} (F : Nat → Int) (hF : ∀ x, x < m → 0 ≤ F x ∧ F x ≤ 1000) (i : Nat) (hi : i < m) (hev : ∀ e ∈ evU rs i rs.length, e.o < m) (hel : (evU rs i rs.length).length ≤ 1000)
include h hg ho hev hel
include hF in
theorem way4_fn (bt ba br bi sc : Nat) : FnC Tryz.prog G 92 [.ptr bt 0 0, .ptr ba 0 0] ((bt, .cells 155 1 true [[totV br bi]]) :: wayH ba br bi sc ra m F i) (fun v Hn => v = .s (.int .i64 (totE (fun e => e.p * F e.o.toNat) (evU rs i rs.length))) ∧ Hn = []) := by
  have hpb := fun e he => evU_bd hg i rs.length (Nat.le_refl _) e he
  have htot := total_fn h hg ho F i ba br bi sc (.fn (.func 93) [] [.ptr ba 0 0]) 93 (fun e => [.s (.agg #[.int .i64 e.o, .int .i64 e.p, .bool e.c]), .ptr ba 0 0]) (fun e => e.p * F e.o.toNat) rfl rfl rfl (fun _ => rfl)
    (fun e he h0 => (sonne_fn ho e.o e.p e.c F hF h0 (hev e he) (hpb e he).1 (hpb e he).2 ba sc).on (.cons _ (.cons _ (.refl _)))) (fun e he h0 => have hFe := hF e.o.toNat (by have := hev e he; omega); mul_bd (hpb e he).1 (hpb e he).2 hFe.1 hFe.2) hel
  refine Fn_body (N := 6) (ho _ _ _ (by rfl)) Tryz.func92 rfl rfl fun B => ?_
  refine SC_nd fun hnd0 => ?_
  repeat' (first
    | refine SL_makeFunc (by decide) (by rfl) (by rfl) ?_
    | (refine SL_callv (by decide) (by rfl) (by rfl) (by rfl) (by rfl) htot (.of_mem fun p hp => .tail _ hp) (List.nodup_cons.1 hnd0).2 ?_; rintro _ _ _ ⟨rfl, rfl⟩; rw [List.nil_append])
    | refine SC_seq ?_
    | refine SC_region ?_
    | refine SL_seq ?_
    | refine SL_assign (by decide) (by rfl) ?_
    | refine SL_load_o (by decide) (by rfl) (by repeat (first | exact .head _ | refine .tail _ ?_)) (rowF (by rfl)) (by first | assumption | rfl) (by rfl) ?_
    | fail)
  exact SC_ret (fun tm σ hE hH => Post.intro (Hn := []) (.inr rfl) hE hH (by rfl) trivial List.nodup_nil (fun p hp => by cases hp) ⟨rfl, rfl⟩)
omit hev in
theorem way6_fn (bt ba br bi sc : Nat) : FnC Tryz.prog G 95 [.ptr bt 0 0] ((bt, .cells 155 1 true [[totV br bi]]) :: wayH ba br bi sc ra m F i) (fun v Hn => v = .s (.int .i64 (totE (fun e => e.p / 2) (evU rs i rs.length))) ∧ Hn = []) := by
  have hpb := fun e he => evU_bd hg i rs.length (Nat.le_refl _) e he
  have htot := total_fn (m := m) h hg ho F i ba br bi sc (.s (.func (.func 96) #[] #[])) 96 (fun e => [.s (.agg #[.int .i64 e.o, .int .i64 e.p, .bool e.c])]) (fun e => e.p / 2) rfl rfl (bl_of bd51) (fun _ => rfl)
    (fun e he h0 => (wins_fn ho e.o e.p e.c (hpb e he).1 (hpb e he).2).on (List.nil_sublist _)) (fun e he h0 => by have := hpb e he; omega) hel
  refine Fn_body (N := 4) (ho _ _ _ (by rfl)) Tryz.func95 rfl rfl fun B => ?_
  refine SC_nd fun hnd0 => ?_
  repeat' (first
    | (refine SL_callv (by decide) (by rfl) (by rfl) (by rfl) (by rfl) htot (.of_mem fun p hp => .tail _ hp) (List.nodup_cons.1 hnd0).2 ?_; rintro _ _ _ ⟨rfl, rfl⟩; rw [List.nil_append])
    | refine SC_seq ?_
    | refine SC_region ?_
    | refine SL_seq ?_
    | refine SL_assign (by decide) (by rfl) ?_
    | refine SL_load_o (by decide) (by rfl) (by repeat (first | exact .head _ | refine .tail _ ?_)) (rowF (by rfl)) (by first | assumption | rfl) (by rfl) ?_
    | fail)
  exact SC_ret (fun tm σ hE hH => Post.intro (Hn := []) (.inr rfl) hE hH (by rfl) trivial List.nodup_nil (fun p hp => by cases hp) ⟨rfl, rfl⟩)
include hi in
theorem way7_fn (bt ba br bi sc : Nat) : FnC Tryz.prog G 97 [.ptr bt 0 0, .ptr ba 0 0, .ptr bi 0 0] ((bt, .cells 155 1 true [[totV br bi]]) :: wayH ba br bi sc ra m F i) (fun v Hn => v = .s (.int .i64 (totE (fun e => if F e.o.toNat = F i then e.p else 0) (evU rs i rs.length))) ∧ Hn = []) := by
  have hpb := fun e he => evU_bd hg i rs.length (Nat.le_refl _) e he
  have htot := total_fn h hg ho F i ba br bi sc (.fn (.func 98) [] [.ptr ba 0 0, .ptr bi 0 0]) 98 (fun e => [.s (.agg #[.int .i64 e.o, .int .i64 e.p, .bool e.c]), .ptr ba 0 0, .ptr bi 0 0]) (fun e => if F e.o.toNat = F i then e.p else 0) rfl rfl rfl (fun _ => rfl)
    (fun e he h0 => (direct_fn ho e.o e.p e.c F h0 (hev e he) i hi ba bi sc).on (.cons_cons _ (.cons _ (.refl _)))) (fun e he h0 => by have := hpb e he; split <;> omega) hel
  refine Fn_body (N := 7) (ho _ _ _ (by rfl)) Tryz.func97 rfl rfl fun B => ?_
  refine SC_nd fun hnd0 => ?_
  repeat' (first
    | refine SL_makeFunc (by decide) (by rfl) (by rfl) ?_
    | (refine SL_callv (by decide) (by rfl) (by rfl) (by rfl) (by rfl) htot (.of_mem fun p hp => .tail _ hp) (List.nodup_cons.1 hnd0).2 ?_; rintro _ _ _ ⟨rfl, rfl⟩; rw [List.nil_append])
    | refine SC_seq ?_
    | refine SC_region ?_
    | refine SL_seq ?_
    | refine SL_assign (by decide) (by rfl) ?_
    | refine SL_load_o (by decide) (by rfl) (by repeat (first | exact .head _ | refine .tail _ ?_)) (rowF (by rfl)) (by first | assumption | rfl) (by rfl) ?_
    | fail)
  exact SC_ret (fun tm σ hE hH => Post.intro (Hn := []) (.inr rfl) hE hH (by rfl) trivial List.nodup_nil (fun p hp => by cases hp) ⟨rfl, rfl⟩)
omit hev in
theorem way5_fn (hr : rs.length ≤ 30) (ba br bi sc : Nat) : FnC Tryz.prog G 94 [.ptr br 0 0, .ptr bi 0 0] (wayH ba br bi sc ra m F i) (fun v Hn => v = .s (.int .i64 (progE rs.length (evU rs i rs.length))) ∧ Hn = []) := by
  have hsl := h.sl
  have hlen := h.len
  have hpb := fun e he => evU_bd hg i rs.length (Nat.le_refl _) e he
  have hk := evU_k (rs := rs) i rs.length (Nat.le_refl _)
  have hmb : ∀ e ∈ evU rs i rs.length, 0 ≤ e.p * ((xs.length : Int) - e.k) ∧ e.p * ((xs.length : Int) - e.k) ≤ 2000 := fun e he => by
    have h1 := hpb e he
    have h2 := hk e he
    exact mul_bd h1.1 h1.2 (by omega) (by omega)
  refine Fn_body (N := 21) (ho _ _ _ (by rfl)) Tryz.func94 rfl rfl fun B => ?_
  refine SC_nd fun hnd0 => ?_
  repeat' (first
    | (refine SL_call (by decide) (by rfl) bd36 (by rfl) (by rfl) (gamesOf_fn h i (ho _ _ _ (by rfl))) trivial List.nodup_nil ?_; rintro _ _ hBn ⟨ga, gb, rfl, rfl⟩; simp only [List.cons_append, List.nil_append])
    | refine SC_seq ?_
    | refine SC_block ?_
    | refine SC_region ?_
    | refine SL_seq ?_
    | refine SL_assign (by decide) (by rfl) ?_
    | refine SL_load_o (by decide) (by rfl) (by repeat (first | exact .head _ | refine .tail _ ?_)) (rowF (by rfl)) (by first | assumption | rfl) (by rfl) ?_
    | refine SL_store_box (by rfl) (by rfl) (by first | exact cells_3 _ _ _ | rfl) (by repeat (first | exact .head | apply Upd.tail)) (by first | exact .inl (by assumption) | exact .inr (by simp)) (by rfl) (szF (by rfl)) (by rfl) ?_
    | refine SL_alloc (by decide) (zeroF (by rfl)) (fun id hid => ?_)
    | fail)
  obtain ⟨b3, hb3, rfl⟩ : ∃ b, B.next ≤ b ∧ b = id := ⟨id, hid, rfl⟩
  refine SC_perm (List.perm_append_comm (l₁ := [(gb, _), (ga, _), (b3, _)]) (l₂ := wayH ba br bi sc ra m F i)) ?_
  refine SC_range2 (Hr := wayH ba br bi sc ra m F i) (Hx := wayH ba br bi sc ra m F i)
    (Fin := fun H => H = [(b3, .cells 3 1 true [[.s (.int .i64 (progE xs.length (evU rs i rs.length)))]])]) (M0 := [b3]) (xs := fun l => [.yld l, .ptr ga 0 0, .ptr gb 0 0]) (by rfl) (fun l => by rfl) ?_ (fun p hp => hp) hnd0 ?_ ?_
  · intro q hq
    rw [List.mem_singleton] at hq
    subst hq
    exact ⟨.inl hb3, by simp⟩
  · intro tm d l hE hl hnot
    refine games2_fn h hg i (fun es H => H = [(b3, .cells 3 1 true [[.s (.int .i64 (progE xs.length es))]])]) [(b3, .cells 3 1 true [[.s (.int .i64 0)]])] (wayH ba br bi sc ra m F i) rfl ?_ (ho _ _ _ (by rfl))
    rintro es e Hc hpre rfl
    have hem : e ∈ evU rs i rs.length := hpre.subset (by simp)
    have hbd := progE_bd (R := xs.length) (es := es) fun e' he' => hmb e' (hpre.subset (List.mem_append_left _ he'))
    have hfe := hmb e hem
    have hke := hk e hem
    have hll := hpre.length_le
    rw [List.length_append, List.length_singleton] at hll
    refine Rd_body' (H := _) hE rfl (by decide) List.mem_cons_self fun B' => ?_
    dsimp only [List.cons_append, List.nil_append]
    repeat' (first
      | refine SC_seq ?_
      | refine SC_region ?_
      | refine SL_seq ?_
      | refine SL_assign (by decide) (by rfl) ?_
      | refine SL_store_box (by rfl) (by rfl) (by first | exact cells_3 _ _ _ | rfl) (by repeat (first | exact .head | apply Upd.tail)) (by first | exact .inl (by assumption) | exact .inr (by simp)) (by rfl) (szF (by rfl)) (by rfl) ?_
      | refine SL_alloc (by decide) (zeroF (by rfl)) (fun id hid => ?_)
      | fail)
    refine SL_nil fun tm1 σ1 hE1 hH1 => ⟨tm1, σ1, _, _, rfl, hE1, hH1.perm (List.Perm.swap _ _ _), ?_⟩
    clear hE1 hH1
    clear tm1 σ1
    repeat' (first
      | refine SL_mul (by decide) (by rfl) (by rfl) (by omega) (by omega) ?_
      | refine SC_block ?_
      | refine SC_region ?_
      | refine SL_move (by decide) (by rfl) ?_
      | refine SL_add (by decide) (by rfl) (by rfl) (by omega) (by omega) ?_
      | refine SL_sub (by decide) (by rfl) (by rfl) (by omega) (by omega) ?_
      | refine SL_fieldAddr (by decide) (by rfl) (fldF (by rfl)) ?_
      | refine SL_len_v (by decide) (by rfl) (by assumption) (by rfl) (slF (by rfl)) (by simp only [List.length_map]; first | rfl | assumption) ?_
      | refine SL_load_o (by decide) (by rfl) (by repeat (first | exact .head _ | refine .tail _ ?_)) (rowF (by rfl)) (by first | assumption | rfl) (by rfl) ?_
      | refine SL_store_box (by rfl) (by rfl) (by first | exact cells_3 _ _ _ | rfl) (by repeat (first | exact .head | apply Upd.tail)) (by first | exact .inl (by assumption) | exact .inr (by simp)) (by rfl) (szF (by rfl)) (by rfl) ?_
      | fail)
    refine SL_nil fun tm2 σ2 hE2 hH2 => ?_
    dsimp only [InB]
    refine RPost.intro (Hn := [(l, _), (b3, _)]) hH2 List.mem_cons_self .head ⟨.head _, .tail _ (.tail _ (.head _)), trivial⟩ (hH2.nodup.sublist (.cons_cons _ (.cons _ (.cons_cons _ (List.nil_sublist _))))) (fun p hp => .inl ?_) ⟨rfl, _, rfl, ?_⟩
    · simp only [List.mem_cons, List.not_mem_nil, or_false] at hp
      rcases hp with rfl | rfl <;> simp
    · rw [progE_next]; rfl
  · rintro d H' tm' σ' hpl rfl hE' hH'
    refine SC.app ?_ hE' hH'
    clear hE' hH'
    clear tm' σ'
    dsimp only [List.cons_append, List.nil_append]
    repeat' (first
      | refine SC_seq ?_
      | refine SC_region ?_
      | refine SL_seq ?_
      | refine SL_assign (by decide) (by rfl) ?_
      | refine SL_load_o (by decide) (by rfl) (by repeat (first | exact .head _ | refine .tail _ ?_)) (rowF (by rfl)) (by first | assumption | rfl) (by rfl) ?_
      | fail)
    exact SC_ret (fun tm σ hE hH => Post.intro (Hn := []) (.inr rfl) hE hH (by rfl) trivial List.nodup_nil (fun p hp => by cases hp) ⟨by rw [hlen]; rfl, rfl⟩)
end
end Go.Proofs.YtnhnlkljcfbhfaaGreatDoor.Tb
/- The program's value of a tie-break. -/
namespace Go.Proofs.YtnhnlkljcfbhfaaGreatDoor.Tb
open Go Go.Ab
attribute [local irreducible] SC SL wpc wpl wpd wpf wpy wpn FnC FnW RdW SD
set_option maxRecDepth 100000
set_option maxHeartbeats 2000000
def tieTab (ba br bi bt : Nat) : List AV := [.s .nilFunc, .fn (.func 87) [] [.ptr ba 0 0, .ptr br 0 0, .ptr bi 0 0], .fn (.func 90) [] [.ptr ba 0 0, .ptr br 0 0, .ptr bi 0 0], .fn (.func 91) [] [.ptr ba 0 0, .ptr br 0 0, .ptr bi 0 0], .fn (.func 92) [] [.ptr bt 0 0, .ptr ba 0 0], .fn (.func 94) [] [.ptr br 0 0, .ptr bi 0 0], .fn (.func 95) [] [.ptr bt 0 0], .fn (.func 97) [] [.ptr bt 0 0, .ptr ba 0 0, .ptr bi 0 0]]
theorem build85 (ba br bi bt : Nat) : effBuild Tryz.prog 158 [(1, .fn (.func 87) [] [.ptr ba 0 0, .ptr br 0 0, .ptr bi 0 0]), (2, .fn (.func 90) [] [.ptr ba 0 0, .ptr br 0 0, .ptr bi 0 0]), (3, .fn (.func 91) [] [.ptr ba 0 0, .ptr br 0 0, .ptr bi 0 0]), (4, .fn (.func 92) [] [.ptr bt 0 0, .ptr ba 0 0]), (5, .fn (.func 94) [] [.ptr br 0 0, .ptr bi 0 0]), (6, .fn (.func 95) [] [.ptr bt 0 0]), (7, .fn (.func 97) [] [.ptr bt 0 0, .ptr ba 0 0, .ptr bi 0 0])] = some (.agg (tieTab ba br bi bt)) := by kernel_rfl
def TieV (F : Nat → Int) (i : Nat) (R : Int) (es : List Ev) (k : Nat) (n : Int) : Prop :=
  (k = 1 ∧ n = (foesL F es).sum) ∨
  (k = 2 ∧ ∃ c : List Int, c.Perm (foesL F es) ∧ SortedTo c c.length ∧ n = (c.drop 1).sum) ∨
  (k = 3 ∧ ∃ c : List Int, c.Perm (foesL F es) ∧ SortedTo c c.length ∧ n = if c.length < 2 then 0 else ((c.drop 1).take (c.length - 2)).sum) ∨
  (k = 4 ∧ n = totE (fun e => e.p * F e.o.toNat) es) ∨
  (k = 5 ∧ n = progE R es) ∨
  (k = 6 ∧ n = totE (fun e => e.p / 2) es) ∨
  (k = 7 ∧ n = totE (fun e => if F e.o.toNat = F i then e.p else 0) es)
theorem value_fn {G : Gl} {rs : List (List Sc)} {ra : AV} {xs : List AV} (h : RV rs ra xs) (hg : ∀ gs ∈ rs, ∀ g ∈ gs, 0 ≤ g.p ∧ g.p ≤ 2) (ho : ∀ f x y, offT f = true → G.orc f (x :: y) = none) {m : Nat} (F : Nat → Int) (hF : ∀ x, x < m → 0 ≤ F x ∧ F x ≤ 1000) (i : Nat) (hi : i < m) (hev : ∀ e ∈ evU rs i rs.length, e.o < m)
    (hlen : (foesL F (evU rs i rs.length)).length ≤ 12) (hel : (evU rs i rs.length).length ≤ 1000) (hr : rs.length ≤ 30) (k : Nat) (hk1 : 1 ≤ k) (hk7 : k ≤ 7) (sc : Nat) :
    FnC Tryz.prog G 59 [.sl sc 0 m none, ra, .s (.int .i64 k), .s (.int .i64 i)] [(sc, .cells 3 1 true (tab m F))] (fun v Hn => ∃ n, v = .s (.int .i64 n) ∧ TieV F i rs.length (evU rs i rs.length) k n ∧ Hn = []) := by
  have hsl := h.sl
  have hw1 := fun ba br bi sc => buch_fn h hg ho F hF i hev hlen ba br bi sc
  have hw2 := fun ba br bi sc => cut_fn h hg ho F hF i hev hlen ba br bi sc
  have hw3 := fun ba br bi sc => med_fn h hg ho F hF i hev hlen ba br bi sc
  have hw4 := fun bt ba br bi sc => way4_fn h hg ho F hF i hev hel bt ba br bi sc
  have hw5 := fun ba br bi sc => way5_fn (m := m) h hg ho F i hel hr ba br bi sc
  have hw6 := fun bt ba br bi sc => way6_fn (m := m) h hg ho F i hel bt ba br bi sc
  have hw7 := fun bt ba br bi sc => way7_fn h hg ho F i hi hev hel bt ba br bi sc
  obtain rfl | rfl | rfl | rfl | rfl | rfl | rfl : k = 1 ∨ k = 2 ∨ k = 3 ∨ k = 4 ∨ k = 5 ∨ k = 6 ∨ k = 7 := by omega
  all_goals
    refine Fn_body (N := 24) (ho _ _ _ (by rfl)) Tryz.func59 rfl rfl fun B => ?_
    repeat' (first
      | (refine SL_nd fun hnd => SL_callv (by decide) (by rfl) (by rfl) (by rfl) (by rfl) (hw7 _ _ _ _ _) (.of_mem fun p hp => .tail _ hp) (hnd.sublist (.cons _ (.refl _))) ?_; rintro _ _ _ ⟨rfl, rfl⟩; rw [List.nil_append])
      | (refine SL_nd fun hnd => SL_callv (by decide) (by rfl) (by rfl) (by rfl) (by rfl) (hw6 _ _ _ _ _) (.of_mem fun p hp => .tail _ hp) (hnd.sublist (.cons _ (.refl _))) ?_; rintro _ _ _ ⟨rfl, rfl⟩; rw [List.nil_append])
      | (refine SL_nd fun hnd => SL_callv (by decide) (by rfl) (by rfl) (by rfl) (by rfl) (hw4 _ _ _ _ _) (.of_mem fun p hp => .tail _ hp) (hnd.sublist (.cons _ (.refl _))) ?_; rintro _ _ _ ⟨rfl, rfl⟩; rw [List.nil_append])
      | (refine SL_nd fun hnd => SL_callv (by decide) (by rfl) (by rfl) (by rfl) (by rfl) (hw5 _ _ _ _) (.of_mem fun p hp => .tail _ (.tail _ hp)) (hnd.sublist (.cons _ (.cons _ (.refl _)))) ?_; rintro _ _ _ ⟨rfl, rfl⟩; rw [List.nil_append])
      | (refine SL_nd fun hnd => SL_callv (by decide) (by rfl) (by rfl) (by rfl) (by rfl) (hw3 _ _ _ _) (.of_mem fun p hp => .tail _ (.tail _ hp)) (hnd.sublist (.cons _ (.cons _ (.refl _)))) ?_; rintro _ _ _ ⟨⟨c, hcp, hcs, rfl⟩, rfl⟩; rw [List.nil_append])
      | (refine SL_nd fun hnd => SL_callv (by decide) (by rfl) (by rfl) (by rfl) (by rfl) (hw2 _ _ _ _) (.of_mem fun p hp => .tail _ (.tail _ hp)) (hnd.sublist (.cons _ (.cons _ (.refl _)))) ?_; rintro _ _ _ ⟨⟨c, hcp, hcs, rfl⟩, rfl⟩; rw [List.nil_append])
      | (refine SL_nd fun hnd => SL_callv (by decide) (by rfl) (by rfl) (by rfl) (by rfl) (hw1 _ _ _ _) (.of_mem fun p hp => .tail _ (.tail _ hp)) (hnd.sublist (.cons _ (.cons _ (.refl _)))) ?_; rintro _ _ _ ⟨rfl, rfl⟩; rw [List.nil_append])
      | refine SL_indexAddr_a (by decide) (by rfl) (by rfl) arr158 _ (by rfl) (by decide) ?_
      | refine SL_build (by decide) (by rfl) (build85 _ _ _ _) ?_
      | refine SL_makeFunc (by decide) (by rfl) (by rfl) ?_
      | refine SL_box (by decide) (by rfl) (cells_v hsl) (fun id hid => ?_)
      | refine SC_seq ?_
      | refine SC_region ?_
      | refine SL_seq ?_
      | refine SL_move (by decide) (by rfl) ?_
      | refine SL_assign (by decide) (by rfl) ?_
      | refine SL_load_o (by decide) (by rfl) (by repeat (first | exact .head _ | refine .tail _ ?_)) (rowF (by rfl)) (by first | assumption | rfl) (by rfl) ?_
      | refine SL_store_box (by rfl) (by rfl) (by first | exact cells_3 _ _ _ | rfl) (by repeat (first | exact .head | apply Upd.tail)) (by first | exact .inl (by assumption) | exact .inr (by simp)) (by rfl) (szF (by rfl)) (by rfl) ?_
      | refine SL_alloc (by decide) (zeroF (by rfl)) (fun id hid => ?_)
      | refine SL_box (by decide) (by rfl) (by first | exact cells_3 _ _ _ | rfl) (fun id hid => ?_)
      | fail)
    refine SC_ret (fun tm σ hE hH => Post.intro (Hn := []) (.inr rfl) hE hH (by rfl) trivial List.nodup_nil (fun p hp => by cases hp) ⟨_, rfl, ?_, rfl⟩)
  · exact .inl ⟨rfl, rfl⟩
  · exact .inr (.inl ⟨rfl, c, hcp, hcs, rfl⟩)
  · exact .inr (.inr (.inl ⟨rfl, c, hcp, hcs, rfl⟩))
  · exact .inr (.inr (.inr (.inl ⟨rfl, rfl⟩)))
  · exact .inr (.inr (.inr (.inr (.inl ⟨rfl, rfl⟩))))
  · exact .inr (.inr (.inr (.inr (.inr (.inl ⟨rfl, rfl⟩)))))
  · exact .inr (.inr (.inr (.inr (.inr (.inr ⟨rfl, rfl⟩)))))
end Go.Proofs.YtnhnlkljcfbhfaaGreatDoor.Tb
/- The law's own Value of a tie-break. -/
namespace Go.Proofs.YtnhnlkljcfbhfaaGreatDoor.Tb
open Go Go.Ab
attribute [local irreducible] SC SL wpc wpl wpd wpf wpy wpn FnC FnW RdW SD
set_option maxRecDepth 100000
set_option maxHeartbeats 4000000
structure LS where
  total : Int
  low : Int
  high : Int
  many : Int
  sonne : Int
  wins : Int
  direct : Int
  score : Int
def LS.zero : LS := ⟨0, 0, 0, 0, 0, 0, 0, 0⟩
def LS.add (F : Nat → Int) (i : Nat) (s : LS) (p o : Int) : LS :=
  if o < 0 then ⟨s.total, s.low, s.high, s.many, s.sonne, s.wins, s.direct, s.score + p⟩
  else ⟨s.total + F o.toNat, if s.many = 0 ∨ F o.toNat < s.low then F o.toNat else s.low, if s.many = 0 ∨ s.high < F o.toNat then F o.toNat else s.high, s.many + 1, s.sonne + p * F o.toNat, if p = 2 then s.wins + 1 else s.wins, if F o.toNat = F i then s.direct + p else s.direct, s.score + p⟩
theorem LS.add_neg (F : Nat → Int) (i : Nat) (s : LS) (p : Int) {o : Int} (h : o < 0) : s.add F i p o = ⟨s.total, s.low, s.high, s.many, s.sonne, s.wins, s.direct, s.score + p⟩ := if_pos h
theorem LS.add_pos (F : Nat → Int) (i : Nat) (s : LS) (p : Int) {o : Int} (h : ¬ o < 0) : ∃ lo hi wi di, s.add F i p o = ⟨s.total + F o.toNat, lo, hi, s.many + 1, s.sonne + p * F o.toNat, wi, di, s.score + p⟩ ∧
    ((s.many = 0 ∨ F o.toNat < s.low) → lo = F o.toNat) ∧ (s.many ≠ 0 → s.low ≤ F o.toNat → lo = s.low) ∧ ((s.many = 0 ∨ s.high < F o.toNat) → hi = F o.toNat) ∧ (s.many ≠ 0 → F o.toNat ≤ s.high → hi = s.high) ∧ (p = 2 → wi = s.wins + 1) ∧ (p ≠ 2 → wi = s.wins) ∧ (F o.toNat = F i → di = s.direct + p) ∧ (F o.toNat ≠ F i → di = s.direct) := by
  refine ⟨_, _, _, _, if_neg h, fun h => if_pos h, fun h h' => if_neg (by omega), fun h => if_pos h, fun h h' => if_neg (by omega), fun h => if_pos h, fun h => if_neg h, fun h => if_pos h, fun h => if_neg h⟩
def LS.of (F : Nat → Int) (i : Nat) (es : List Ev) : LS := es.foldl (fun s e => s.add F i e.p e.o) LS.zero
theorem LS.of_snoc (F : Nat → Int) (i : Nat) (es : List Ev) (e : Ev) : LS.of F i (es ++ [e]) = (LS.of F i es).add F i e.p e.o := by
  unfold LS.of; rw [List.foldl_append]; rfl
theorem LS.of_ev1 (F : Nat → Int) (i : Nat) (es : List Ev) (k : Nat) (g : Sc) : LS.of F i (es ++ ev1 k i g) = (LS.of F i es).add F i (pts g i).1 (pts g i).2 := by
  by_cases h1 : g.w = i
  · rw [ev1_w h1, pts_w h1, LS.of_snoc]
  · by_cases h2 : g.b = i
    · rw [ev1_b h1 h2, pts_b h1 h2, LS.of_snoc]
    · rw [ev1_n h1 h2, pts_n h1 h2, List.append_nil, LS.add_neg _ _ _ _ (by decide)]; simp
theorem snoc_ind {α : Type} {Q : List α → Prop} (h0 : Q []) (hs : ∀ l a, Q l → Q (l ++ [a])) : ∀ l, Q l := by
  intro l
  rw [← List.reverse_reverse l]
  induction l.reverse with
  | nil => exact h0
  | cons a r ih => rw [List.reverse_cons]; exact hs _ _ ih
structure LS.Ok (s : LS) (c : Nat) : Prop where
  total : 0 ≤ s.total ∧ s.total ≤ 1000 * c
  low : 0 ≤ s.low ∧ s.low ≤ 1000
  high : 0 ≤ s.high ∧ s.high ≤ 1000
  many : 0 ≤ s.many ∧ s.many ≤ c
  sonne : 0 ≤ s.sonne ∧ s.sonne ≤ 2000 * c
  wins : 0 ≤ s.wins ∧ s.wins ≤ c
  direct : 0 ≤ s.direct ∧ s.direct ≤ 2 * c
  score : 0 ≤ s.score ∧ s.score ≤ 2 * c
theorem LS.ok {F : Nat → Int} {m : Nat} (hF : ∀ x, x < m → 0 ≤ F x ∧ F x ≤ 1000) (i : Nat) : ∀ es : List Ev, (∀ e ∈ es, (0 ≤ e.p ∧ e.p ≤ 2) ∧ e.o < m) → (LS.of F i es).Ok es.length := by
  refine snoc_ind (fun _ => ?_) fun es e ih h => ?_
  · constructor <;> (unfold LS.of LS.zero; simp)
  · obtain ⟨h1, h2, h3, h4, h5, h6, h7, h8⟩ := ih fun e' he' => h e' (List.mem_append_left _ he')
    obtain ⟨hp, hm⟩ := h e (by simp)
    rw [LS.of_snoc, List.length_append, List.length_singleton]
    generalize LS.of F i es = s at *
    by_cases ho : e.o < 0
    · rw [LS.add_neg _ _ _ _ ho]
      constructor <;> dsimp only <;> omega
    · have hf := hF e.o.toNat (by omega)
      have hb := mul_bd hp.1 hp.2 hf.1 hf.2
      obtain ⟨lo, hi, wi, di, he, a1, a2, a3, a4, a5, a6, a7, a8⟩ := LS.add_pos F i s e.p ho
      rw [he]
      constructor <;> dsimp only
      · omega
      · omega
      · omega
      · omega
      · omega
      · clear a1 a2 a3 a4 a7 a8; omega
      · clear a1 a2 a3 a4 a5 a6; omega
      · omega
def lawV (s : LS) (pr : Int) (k : Nat) : Int :=
  match k with
  | 1 => s.total
  | 2 => s.total - s.low
  | 3 => if s.many < 2 then 0 else s.total - s.low - s.high
  | 4 => s.sonne
  | 5 => pr
  | 6 => s.wins
  | _ => s.direct
theorem progE_step (k : Nat) (i : Int) {rs : List (List Sc)} (h : k < rs.length) : progE (k + 1 : Nat) (evU rs i (k + 1)) = progE k (evU rs i k) + sumE (evU rs i (k + 1)) := by
  have hR : ∀ es : List Ev, progE (k + 1 : Nat) es = progE k es + sumE es := by
    intro es
    induction es with
    | nil => rfl
    | cons e es ih =>
      unfold progE sumE at ih ⊢
      simp only [List.map_cons, List.sum_cons]
      have : e.p * (((k + 1 : Nat) : Int) - e.k) = e.p * ((k : Int) - e.k) + e.p := by
        rw [show ((k + 1 : Nat) : Int) - e.k = ((k : Int) - e.k) + 1 by omega, Int.mul_add, Int.mul_one]
      omega
  rw [hR, evU_next h]
  have h0 : progE k (evR k i rs[k]) = 0 := by
    have : ∀ es : List Ev, (∀ e ∈ es, e.k = k) → progE k es = 0 := by
      intro es hes
      induction es with
      | nil => rfl
      | cons e es ih =>
        have h1 := ih fun e' he' => hes e' (List.mem_cons_of_mem _ he')
        have h2 := hes e List.mem_cons_self
        unfold progE at h1 ⊢
        simp only [List.map_cons, List.sum_cons, h1, h2, Int.sub_self, Int.mul_zero, Int.add_zero]
    refine this _ fun e he => ?_
    obtain ⟨g, _, he⟩ := List.mem_flatMap.1 he
    exact ev1_k e he
  have h1 : progE k (evU rs i k ++ evR k i rs[k]) = progE k (evU rs i k) + progE k (evR k i rs[k]) := by
    unfold progE; simp
  omega
theorem LS.score_eq (F : Nat → Int) (i : Nat) : ∀ es : List Ev, (LS.of F i es).score = sumE es := by
  refine snoc_ind rfl fun es e ih => ?_
  rw [LS.of_snoc, sumE_next, ← ih]
  unfold LS.add; split <;> rfl
theorem pts_lt {n : Int} {g : Sc} (h : GOk n g) (i : Int) : (pts g i).2 < n := by
  obtain ⟨h1, h2, h3, h4, _⟩ := h
  unfold pts; split
  · exact h4
  · split
    · exact h2
    · simp only; omega
theorem evU_lt {n : Int} {rs : List (List Sc)} (hg : ∀ gs ∈ rs, ∀ g ∈ gs, GOk n g) (i : Int) : ∀ k, k ≤ rs.length → ∀ e ∈ evU rs i k, e.o < n
  | 0, _ => by intro e he; cases he
  | k + 1, h => by
    intro e he
    rw [evU_next h, List.mem_append] at he
    rcases he with he | he
    · exact evU_lt hg i k (by omega) e he
    · obtain ⟨g, hgm, he⟩ := List.mem_flatMap.1 he
      obtain ⟨h1, h2, h3, h4, _⟩ := hg _ (List.getElem_mem h) g hgm
      unfold ev1 at he
      split at he
      · rw [List.mem_singleton] at he; subst he; exact h4
      · split at he
        · rw [List.mem_singleton] at he; subst he; exact h2
        · cases he
theorem lawValue_fn {G : Gl} {rs : List (List Sc)} {ra : AV} {xs : List AV} (h : RV rs ra xs) (hf : ∀ gs ∈ rs, gs.length ≤ 12) {m : Nat} (hv : VOk m rs) (ho : ∀ f x y, offT f = true → G.orc f (x :: y) = none) (F : Nat → Int) (hF : ∀ x, x < m → 0 ≤ F x ∧ F x ≤ 1000) (i : Nat) (hi : i < m) (k0 : Nat) (hk1 : 1 ≤ k0) (hk7 : k0 ≤ 7) (sc : Nat) :
    FnC Tryz.prog G 29 [.sl sc 0 m none, ra, .s (.int .i64 k0), .s (.int .i64 i)] [(sc, .cells 3 1 true (tab m F))] (fun v Hn => v = .s (.int .i64 (lawV (LS.of F i (evU rs i rs.length)) (progE rs.length (evU rs i rs.length)) k0)) ∧ Hn = []) := by
  have hsl := h.sl
  have hlen := h.len
  have hbig := h.big
  obtain ⟨hv1, hv2, hv3, hv4⟩ := hv
  have hgp : ∀ gs ∈ rs, ∀ g ∈ gs, 0 ≤ g.p ∧ g.p ≤ 2 := fun gs hgs g hgg => ((hv4 gs hgs).1 g hgg).2.2.2.2
  have hevp : ∀ e ∈ evU rs i rs.length, 0 ≤ e.p ∧ e.p ≤ 2 := evU_bd hgp i rs.length (Nat.le_refl _)
  have hevo : ∀ e ∈ evU rs i rs.length, e.o < m := evU_lt (fun gs hgs g hgg => (hv4 gs hgs).1 g hgg) i rs.length (Nat.le_refl _)
  have hevl := evU_len hf i rs.length (Nat.le_refl _)
  have hok : ∀ es, es <+: evU rs i rs.length → (LS.of F i es).Ok es.length ∧ es.length ≤ 360 := fun es hpre =>
    ⟨LS.ok hF i es fun e he => ⟨hevp e (hpre.subset he), hevo e (hpre.subset he)⟩, by have := hpre.length_le; omega⟩
  have hprog : ∀ k, k ≤ rs.length → 0 ≤ progE k (evU rs i k) ∧ progE k (evU rs i k) ≤ 720 * k := by
    intro k
    induction k with
    | zero => intro _; simp [evU, progE]
    | succ k ih =>
      intro hk
      have h1 := ih (by omega)
      rw [progE_step k i (by omega), ← LS.score_eq F i]
      have h2 := hok _ (evU_pre rs i hk)
      have h3 := h2.1.score
      have h4 := h2.2
      omega
  refine Fn_body (N := 129) (ho _ _ _ (by rfl)) Tryz.func29 rfl rfl fun B => ?_
  repeat' (first
    | refine SC_seq ?_
    | refine SC_block ?_
    | refine SC_region ?_
    | refine SL_seq ?_
    | refine SL_assign (by decide) (by rfl) ?_
    | fail)
  refine SC_loop (fun k : Nat => [(0, .sl sc 0 m none), (1, ra), (2, .s (.int .i64 k0)), (3, .s (.int .i64 i)), (9, .s (.int .i64 (LS.of F i (evU rs i k)).total)), (10, .s (.int .i64 (LS.of F i (evU rs i k)).low)), (11, .s (.int .i64 (LS.of F i (evU rs i k)).high)), (12, .s (.int .i64 (LS.of F i (evU rs i k)).many)), (13, .s (.int .i64 (LS.of F i (evU rs i k)).sonne)), (14, .s (.int .i64 (LS.of F i (evU rs i k)).wins)), (15, .s (.int .i64 (LS.of F i (evU rs i k)).direct)), (16, .s (.int .i64 (progE k (evU rs i k)))), (17, .s (.int .i64 (LS.of F i (evU rs i k)).score)), (18, .s (.int .i64 k))])
    (fun _ => [(sc, .cells 3 1 true (tab m F))]) (fun _ => []) (fun k => k ≤ rs.length) (fun k => rs.length - k) 0 (by omega) ⟨rfl, rfl, rfl, rfl, rfl, rfl, rfl, rfl, rfl, rfl, rfl, rfl, rfl, rfl, trivial⟩ ⟨.head _, trivial⟩ (by simp) rfl ?_
  intro k hk
  by_cases hlt : k < rs.length
  · obtain ⟨x, hx, hgx⟩ := h.row hlt
    unfold GV at hgx
    have hgs := hf rs[k] (List.getElem_mem hlt)
    have hr := (hv4 rs[k] (List.getElem_mem hlt)).1
    repeat' (first
      | refine SC_seq ?_
      | refine SC_block ?_
      | refine SC_region ?_
      | refine SL_seq ?_
      | refine SL_move (by decide) (by rfl) ?_
      | refine SL_assign (by decide) (by rfl) ?_
      | (refine SL_lss (by decide) (by rfl) (by rfl) (fun hT => ?_) (fun hT => ?_) <;> first | (exfalso; omega) | skip)
      | refine SL_len_v (by decide) (by rfl) (by assumption) (by rfl) (slF (by rfl)) (by simp only [List.length_map]; first | rfl | assumption) ?_
      | refine SC_cond_t (by rfl) ?_
      | (refine SC_skip' (fun tm σ hE hH => ?_); refine SC.app ?_ hE hH; clear hE hH; clear tm σ)
      | fail)
    refine SC_loop (fun j : Nat => [(0, .sl sc 0 m none), (1, ra), (2, .s (.int .i64 k0)), (3, .s (.int .i64 i)), (9, .s (.int .i64 (LS.of F i (evU rs i k ++ evR k i (rs[k].take j))).total)), (10, .s (.int .i64 (LS.of F i (evU rs i k ++ evR k i (rs[k].take j))).low)), (11, .s (.int .i64 (LS.of F i (evU rs i k ++ evR k i (rs[k].take j))).high)), (12, .s (.int .i64 (LS.of F i (evU rs i k ++ evR k i (rs[k].take j))).many)), (13, .s (.int .i64 (LS.of F i (evU rs i k ++ evR k i (rs[k].take j))).sonne)), (14, .s (.int .i64 (LS.of F i (evU rs i k ++ evR k i (rs[k].take j))).wins)), (15, .s (.int .i64 (LS.of F i (evU rs i k ++ evR k i (rs[k].take j))).direct)), (16, .s (.int .i64 (progE k (evU rs i k)))), (17, .s (.int .i64 (LS.of F i (evU rs i k ++ evR k i (rs[k].take j))).score)), (18, .s (.int .i64 k)), (19, .s (.int .i64 j))])
      (fun _ => [(sc, .cells 3 1 true (tab m F))]) (fun _ => []) (fun j => j ≤ rs[k].length) (fun j => rs[k].length - j) 0 (by omega) (by rw [show evR k i (rs[k].take 0) = [] from rfl, List.append_nil]; exact ⟨rfl, rfl, rfl, rfl, rfl, rfl, rfl, rfl, rfl, rfl, rfl, rfl, rfl, rfl, rfl, trivial⟩) ⟨.head _, trivial⟩ (by simp) rfl ?_
    intro j hj
    by_cases hjlt : j < rs[k].length
    · have hrow : (rs[k].map cells3)[j]? = some (cells3 rs[k][j]) := by rw [List.getElem?_map, List.getElem?_eq_getElem hjlt]; rfl
      have hgj := hr rs[k][j] (List.getElem_mem hjlt)
      have hpre := ev_pre hlt hjlt i
      have hok1 := hok _ ((List.prefix_append _ _).trans hpre)
      have hnext : LS.of F i (evU rs i k ++ evR k i (rs[k].take (j + 1))) = (LS.of F i (evU rs i k ++ evR k i (rs[k].take j))).add F i (pts rs[k][j] i).1 (pts rs[k][j] i).2 := by
        rw [evR_next hjlt, ← List.append_assoc, LS.of_ev1]
      have h22 := points_fn (G := G) rs[k][j] (i : Int) hgj.2.2.2.2.1 hgj.2.2.2.2.2 (ho _ _ _ (by rfl))
      have hpt := pts_bd hgj.2.2.2.2.1 hgj.2.2.2.2.2 (i : Int)
      have hpo : (pts rs[k][j] i).2 < m := pts_lt hgj i
      generalize (pts rs[k][j] i).1 = p at hnext h22 hpt
      generalize (pts rs[k][j] i).2 = o at hnext h22 hpo
      generalize LS.of F i (evU rs i k ++ evR k i (rs[k].take j)) = s at hok1 hnext ⊢
      obtain ⟨⟨b1, b2, b3, b4, b5, b6, b7, b8⟩, hes⟩ := hok1
      generalize (evU rs i k ++ evR k i (rs[k].take j)).length = c at b1 b4 b5 b6 b7 b8 hes
      by_cases hon : o < 0
      · rw [LS.add_neg _ _ _ _ hon] at hnext
        repeat' (first
          | (refine SL_call (by decide) (by rfl) bd22 (by rfl) (by rfl) (h22) trivial List.nodup_nil ?_; rintro _ _ _ ⟨rfl, rfl⟩; rw [List.nil_append])
          | refine SC_seq ?_
          | refine SC_block ?_
          | refine SC_region ?_
          | refine SL_seq ?_
          | refine SL_move (by decide) (by rfl) ?_
          | refine SL_assign (by decide) (by rfl) ?_
          | refine SL_add (by decide) (by rfl) (by rfl) (by omega) (by omega) ?_
          | (refine SL_lss (by decide) (by rfl) (by rfl) (fun hT => ?_) (fun hT => ?_) <;> first | (exfalso; omega) | skip)
          | refine SL_extract_s (by decide) (by rfl) (by rfl) ?_
          | refine SL_len_v (by decide) (by rfl) (by assumption) (by rfl) (slF (by rfl)) (by simp only [List.length_map]; first | rfl | assumption) ?_
          | refine SL_indexAddr_v (by decide) (by rfl) (by rfl) (by assumption) (slF (by rfl)) _ (by first | rfl | exact (Int.toNat_of_nonneg (by omega)).symm) (by simp only [List.length_map]; omega) (fun ad => ?_)
          | refine SL_load_r (by decide) (by rfl) (rowF (by rfl)) (by first | assumption | rfl | exact tab_get _ _ (by omega)) (by rfl) ?_
          | refine SL_load_rr (by decide) (by rfl) (rowF (by rfl)) (by first | assumption | rfl | exact tab_get _ _ (by omega)) (Nat.le_of_ble_eq_true (by rfl)) (by first | exact mk3 _ | rfl) ?_
          | refine SC_cond_t (by rfl) ?_
          | (refine SC_exit (fun tm σ hE hH => ?_); refine SC.app ?_ hE hH; clear hE hH; clear tm σ)
          | (refine SC_skip' (fun tm σ hE hH => ?_); refine SC.app ?_ hE hH; clear hE hH; clear tm σ)
          | fail)
        refine SL_nil fun tm σ hE hH => ⟨j + 1, by omega, by omega, tm, σ, rfl, ?_, hH.sub ⟨.head _, trivial⟩ (by simp)⟩
        rw [hnext]
        exact hE.sub ⟨rfl, rfl, rfl, rfl, rfl, rfl, rfl, rfl, rfl, rfl, rfl, rfl, rfl, rfl, rfl, trivial⟩
      · have hFo := hF o.toNat (by omega)
        have hmb := mul_bd hpt.1 hpt.2 hFo.1 hFo.2
        obtain ⟨lo, hg, wi, di, he, a1, a2, a3, a4, a5, a6, a7, a8⟩ := LS.add_pos F i s p hon
        rw [he] at hnext
        clear he
        repeat' (first
          | refine SL_mul (by decide) (by rfl) (by rfl) (by omega) (by omega) ?_
          | (refine SL_call (by decide) (by rfl) bd22 (by rfl) (by rfl) (h22) trivial List.nodup_nil ?_; rintro _ _ _ ⟨rfl, rfl⟩; rw [List.nil_append])
          | refine SC_seq ?_
          | refine SC_block ?_
          | refine SC_region ?_
          | refine SL_seq ?_
          | (refine SL_nil (fun tm σ hE hH => ?_); refine SC.app ?_ hE hH; clear hE hH; clear tm σ)
          | refine SL_run (by rfl) (by rfl) ?_
          | refine SL_not (by rfl) (by rfl) (by rfl) (by decide) ?_
          | refine SL_move (by decide) (by rfl) ?_
          | refine SL_assign (by decide) (by rfl) ?_
          | refine SL_pick_t (by decide) (by rfl) (by rfl) ?_
          | refine SL_pick_f (by decide) (by rfl) (by rfl) ?_
          | refine SL_add (by decide) (by rfl) (by rfl) (by omega) (by omega) ?_
          | (refine SL_lss (by decide) (by rfl) (by rfl) (fun hT => ?_) (fun hT => ?_) <;> first | (exfalso; omega) | skip)
          | (refine SL_gtr (by decide) (by rfl) (by rfl) (fun hT => ?_) (fun hT => ?_) <;> first | (exfalso; omega) | skip)
          | (refine SL_eql (by decide) (by rfl) (by rfl) (fun hT => ?_) (fun hT => ?_) <;> first | (exfalso; omega) | skip)
          | refine SL_extract_s (by decide) (by rfl) (by rfl) ?_
          | refine SL_len_v (by decide) (by rfl) (by assumption) (by rfl) (slF (by rfl)) (by simp only [List.length_map]; first | rfl | assumption) ?_
          | refine SL_indexAddr_v (by decide) (by rfl) (by rfl) (by assumption) (slF (by rfl)) _ (by first | rfl | exact (Int.toNat_of_nonneg (by omega)).symm) (by simp only [List.length_map]; omega) (fun ad => ?_)
          | refine SL_indexAddr_0 (by decide) (by rfl) (by rfl) (by repeat (first | exact .head _ | refine .tail _ ?_)) (slF (by rfl)) _ (by first | rfl | exact (Int.toNat_of_nonneg (by omega)).symm) (by omega) ?_
          | refine SL_load_r (by decide) (by rfl) (rowF (by rfl)) (by first | assumption | rfl | exact tab_get _ _ (by omega)) (by rfl) ?_
          | refine SL_load_rr (by decide) (by rfl) (rowF (by rfl)) (by first | assumption | rfl | exact tab_get _ _ (by omega)) (Nat.le_of_ble_eq_true (by rfl)) (by first | exact mk3 _ | rfl) ?_
          | refine SL_load_o (by decide) (by rfl) (by repeat (first | exact .head _ | refine .tail _ ?_)) (rowF (by rfl)) (by first | assumption | rfl | exact tab_get _ _ (by omega)) (by rfl) ?_
          | refine SC_cond_t (by rfl) ?_
          | refine SC_cond_f (by rfl) ?_
          | (refine SC_skip' (fun tm σ hE hH => ?_); refine SC.app ?_ hE hH; clear hE hH; clear tm σ)
          | fail)
        all_goals
          refine SL_nil fun tm σ hE hH => ⟨j + 1, by omega, by omega, tm, σ, rfl, ?_, hH.sub ⟨.head _, trivial⟩ (by simp)⟩
          rw [hnext]
          refine hE.sub ⟨rfl, rfl, rfl, rfl, rfl, ?_, ?_, rfl, rfl, ?_, ?_, rfl, rfl, rfl, rfl, trivial⟩
          · first | exact (congrArg (fun x => some (AV.s (Value.int .i64 x))) (a1 (by omega))).symm | exact (congrArg (fun x => some (AV.s (Value.int .i64 x))) (a2 (by omega) (by omega))).symm
          · first | exact (congrArg (fun x => some (AV.s (Value.int .i64 x))) (a3 (by omega))).symm | exact (congrArg (fun x => some (AV.s (Value.int .i64 x))) (a4 (by omega) (by omega))).symm
          · first | exact (congrArg (fun x => some (AV.s (Value.int .i64 x))) (a5 (by omega))).symm | exact (congrArg (fun x => some (AV.s (Value.int .i64 x))) (a6 (by omega))).symm
          · first | exact (congrArg (fun x => some (AV.s (Value.int .i64 x))) (a7 (by omega))).symm | exact (congrArg (fun x => some (AV.s (Value.int .i64 x))) (a8 (by omega))).symm
    · obtain rfl : j = rs[k].length := by omega
      rw [List.take_length, ← evU_next hlt]
      have hpk := hprog k hk
      have hok1 := hok _ (evU_pre rs i (show k + 1 ≤ rs.length from hlt))
      have hsc := LS.score_eq F i (evU rs i (k + 1))
      have hst := progE_step k i hlt
      obtain ⟨⟨b1, b2, b3, b4, b5, b6, b7, b8⟩, hes⟩ := hok1
      repeat' (first
        | refine SC_seq ?_
        | refine SC_region ?_
        | refine SL_seq ?_
        | (refine SL_nil (fun tm σ hE hH => ?_); refine SC.app ?_ hE hH; clear hE hH; clear tm σ)
        | refine SL_move (by decide) (by rfl) ?_
        | refine SL_assign (by decide) (by rfl) ?_
        | refine SL_add (by decide) (by rfl) (by rfl) (by omega) (by omega) ?_
        | (refine SL_lss (by decide) (by rfl) (by rfl) (fun hT => ?_) (fun hT => ?_) <;> first | (exfalso; omega) | skip)
        | refine SL_len_v (by decide) (by rfl) (by assumption) (by rfl) (slF (by rfl)) (by simp only [List.length_map]; first | rfl | assumption) ?_
        | refine SL_indexAddr_v (by decide) (by rfl) (by rfl) (by assumption) (slF (by rfl)) _ (by first | rfl | exact (Int.toNat_of_nonneg (by omega)).symm) (by simp only [List.length_map]; omega) (fun ad => ?_)
        | refine SL_load_r (by decide) (by rfl) (rowF (by rfl)) (by first | assumption | rfl | exact tab_get _ _ (by omega)) (by rfl) ?_
        | refine SC_cond_f (by rfl) ?_
        | (refine SC_exit (fun tm σ hE hH => ?_); refine SC.app ?_ hE hH; clear hE hH; clear tm σ)
        | fail)
      refine SL_nil fun tm σ hE hH => ⟨k + 1, by omega, by omega, tm, σ, rfl, hE.sub ⟨rfl, rfl, rfl, rfl, rfl, rfl, rfl, rfl, rfl, rfl, rfl, ?_, rfl, rfl, trivial⟩, hH.sub ⟨.head _, trivial⟩ (by simp)⟩
      rw [hst, ← hsc]; rfl
  · obtain rfl : k = rs.length := by omega
    have hok1 := hok _ (List.prefix_refl _)
    obtain ⟨⟨b1, b2, b3, b4, b5, b6, b7, b8⟩, hes⟩ := hok1
    repeat' (first
      | refine SC_seq ?_
      | refine SC_block ?_
      | refine SC_region ?_
      | refine SL_seq ?_
      | refine SL_move (by decide) (by rfl) ?_
      | refine SL_assign (by decide) (by rfl) ?_
      | refine SL_sub (by decide) (by rfl) (by rfl) (by omega) (by omega) ?_
      | (refine SL_lss (by decide) (by rfl) (by rfl) (fun hT => ?_) (fun hT => ?_) <;> first | (exfalso; omega) | skip)
      | (refine SL_eql (by decide) (by rfl) (by rfl) (fun hT => ?_) (fun hT => ?_) <;> first | (exfalso; omega) | skip)
      | refine SL_len_v (by decide) (by rfl) (by assumption) (by rfl) (slF (by rfl)) (by simp only [List.length_map]; first | rfl | assumption) ?_
      | refine SC_cond_t (by rfl) ?_
      | refine SC_cond_f (by rfl) ?_
      | (refine SC_exit (fun tm σ hE hH => ?_); refine SC.app ?_ hE hH; clear hE hH; clear tm σ)
      | (refine SC_skip' (fun tm σ hE hH => ?_); refine SC.app ?_ hE hH; clear hE hH; clear tm σ)
      | fail)
    all_goals refine SC_ret (fun tm σ hE hH => Post.intro (Hn := []) (.inr rfl) hE hH (by rfl) trivial List.nodup_nil (fun p hp => by cases hp) ⟨?_, rfl⟩)
    all_goals first
      | (obtain rfl : k0 = 1 := by omega); rfl
      | (obtain rfl : k0 = 2 := by omega); rfl
      | (obtain rfl : k0 = 4 := by omega); rfl
      | (obtain rfl : k0 = 5 := by omega); rfl
      | (obtain rfl : k0 = 6 := by omega); rfl
      | (obtain rfl : k0 = 7 := by omega); rfl
      | (obtain rfl : k0 = 3 := by omega); (unfold lawV; rw [if_pos (by omega)]; rfl)
      | (obtain rfl : k0 = 3 := by omega); (unfold lawV; rw [if_neg (by omega)]; rfl)
end Go.Proofs.YtnhnlkljcfbhfaaGreatDoor.Tb
/- The program's tie-breaks and the law's are the same numbers: plain lists. -/
namespace Go.Proofs.YtnhnlkljcfbhfaaGreatDoor.Tb
open Go Go.Ab
theorem foesL_add (F : Nat → Int) (i : Nat) (es : List Ev) (e : Ev) (h : ¬ e.o < 0) : foesL F (es ++ [e]) = foesL F es ++ [F e.o.toNat] := foesL_in F es e (by omega)
theorem of_many (F : Nat → Int) (i : Nat) : ∀ es, (LS.of F i es).many = (foesL F es).length := by
  refine snoc_ind rfl fun es e ih => ?_
  rw [LS.of_snoc]
  by_cases h : e.o < 0
  · rw [LS.add_neg _ _ _ _ h, foesL_out _ _ _ h]; exact ih
  · rw [foesL_add F i _ _ h]
    obtain ⟨_, _, _, _, he, _⟩ := LS.add_pos F i (LS.of F i es) e.p h
    rw [he, List.length_append]; dsimp only; rw [ih]; rfl
theorem of_total (F : Nat → Int) (i : Nat) : ∀ es, (LS.of F i es).total = (foesL F es).sum := by
  refine snoc_ind rfl fun es e ih => ?_
  rw [LS.of_snoc]
  by_cases h : e.o < 0
  · rw [LS.add_neg _ _ _ _ h, foesL_out _ _ _ h]; exact ih
  · rw [foesL_add F i _ _ h]
    obtain ⟨_, _, _, _, he, _⟩ := LS.add_pos F i (LS.of F i es) e.p h
    rw [he, List.sum_append]; dsimp only; rw [ih]; simp
def Least (l : List Int) (x : Int) : Prop := (l = [] → x = 0) ∧ (l ≠ [] → x ∈ l ∧ ∀ y ∈ l, x ≤ y)
def Greatest (l : List Int) (x : Int) : Prop := (l = [] → x = 0) ∧ (l ≠ [] → x ∈ l ∧ ∀ y ∈ l, y ≤ x)
theorem of_low (F : Nat → Int) (i : Nat) : ∀ es, Least (foesL F es) (LS.of F i es).low := by
  refine snoc_ind ⟨fun _ => rfl, fun h => absurd rfl h⟩ fun es e ih => ?_
  have hm := of_many F i es
  rw [LS.of_snoc]
  by_cases h : e.o < 0
  · rw [LS.add_neg _ _ _ _ h, foesL_out _ _ _ h]; exact ih
  · rw [foesL_add F i _ _ h]
    obtain ⟨lo, _, _, _, he, a1, a2, _⟩ := LS.add_pos F i (LS.of F i es) e.p h
    rw [he]; dsimp only
    refine ⟨fun h => by simp at h, fun _ => ?_⟩
    by_cases h0 : foesL F es = []
    · rw [a1 (.inl (by rw [hm, h0]; rfl)), h0]; simp
    · obtain ⟨h1, h2⟩ := ih.2 h0
      have hne : (LS.of F i es).many ≠ 0 := by
        rw [hm]; intro hz; exact h0 (List.eq_nil_of_length_eq_zero (by omega))
      by_cases hlt : F e.o.toNat < (LS.of F i es).low
      · rw [a1 (.inr hlt)]
        refine ⟨by simp, fun y hy => ?_⟩
        rcases List.mem_append.1 hy with hy | hy
        · have := h2 y hy; omega
        · rw [List.mem_singleton] at hy; omega
      · rw [a2 hne (by omega)]
        refine ⟨List.mem_append_left _ h1, fun y hy => ?_⟩
        rcases List.mem_append.1 hy with hy | hy
        · exact h2 y hy
        · rw [List.mem_singleton] at hy; omega
theorem of_high (F : Nat → Int) (i : Nat) : ∀ es, Greatest (foesL F es) (LS.of F i es).high := by
  refine snoc_ind ⟨fun _ => rfl, fun h => absurd rfl h⟩ fun es e ih => ?_
  have hm := of_many F i es
  rw [LS.of_snoc]
  by_cases h : e.o < 0
  · rw [LS.add_neg _ _ _ _ h, foesL_out _ _ _ h]; exact ih
  · rw [foesL_add F i _ _ h]
    obtain ⟨_, hi, _, _, he, _, _, a1, a2, _⟩ := LS.add_pos F i (LS.of F i es) e.p h
    rw [he]; dsimp only
    refine ⟨fun h => by simp at h, fun _ => ?_⟩
    by_cases h0 : foesL F es = []
    · rw [a1 (.inl (by rw [hm, h0]; rfl)), h0]; simp
    · obtain ⟨h1, h2⟩ := ih.2 h0
      have hne : (LS.of F i es).many ≠ 0 := by
        rw [hm]; intro hz; exact h0 (List.eq_nil_of_length_eq_zero (by omega))
      by_cases hlt : (LS.of F i es).high < F e.o.toNat
      · rw [a1 (.inr hlt)]
        refine ⟨by simp, fun y hy => ?_⟩
        rcases List.mem_append.1 hy with hy | hy
        · have := h2 y hy; omega
        · rw [List.mem_singleton] at hy; omega
      · rw [a2 hne (by omega)]
        refine ⟨List.mem_append_left _ h1, fun y hy => ?_⟩
        rcases List.mem_append.1 hy with hy | hy
        · exact h2 y hy
        · rw [List.mem_singleton] at hy; omega
theorem of_sonne (F : Nat → Int) (i : Nat) : ∀ es, (LS.of F i es).sonne = totE (fun e => e.p * F e.o.toNat) es := by
  refine snoc_ind rfl fun es e ih => ?_
  rw [LS.of_snoc]
  by_cases h : e.o < 0
  · rw [LS.add_neg _ _ _ _ h, totE_out _ _ _ h]; exact ih
  · rw [totE_in _ _ _ (by omega)]
    obtain ⟨_, _, _, _, he, _⟩ := LS.add_pos F i (LS.of F i es) e.p h
    rw [he]; dsimp only; rw [ih]
theorem of_wins (F : Nat → Int) (i : Nat) : ∀ es, (∀ e ∈ es, 0 ≤ e.p ∧ e.p ≤ 2) → (LS.of F i es).wins = totE (fun e => e.p / 2) es := by
  refine snoc_ind (fun _ => rfl) fun es e ih hp => ?_
  have ih := ih fun e' he' => hp e' (List.mem_append_left _ he')
  have hpe := hp e (by simp)
  rw [LS.of_snoc]
  by_cases h : e.o < 0
  · rw [LS.add_neg _ _ _ _ h, totE_out _ _ _ h]; exact ih
  · rw [totE_in _ _ _ (by omega)]
    obtain ⟨_, _, _, _, he, _, _, _, _, a1, a2, _⟩ := LS.add_pos F i (LS.of F i es) e.p h
    rw [he]; dsimp only
    by_cases h2 : e.p = 2
    · rw [a1 h2, ih, h2]; rfl
    · rw [a2 h2, ih]; omega
theorem of_direct (F : Nat → Int) (i : Nat) : ∀ es, (LS.of F i es).direct = totE (fun e => if F e.o.toNat = F i then e.p else 0) es := by
  refine snoc_ind rfl fun es e ih => ?_
  rw [LS.of_snoc]
  by_cases h : e.o < 0
  · rw [LS.add_neg _ _ _ _ h, totE_out _ _ _ h]; exact ih
  · rw [totE_in _ _ _ (by omega)]
    obtain ⟨_, _, _, _, he, _, _, _, _, _, _, a1, a2⟩ := LS.add_pos F i (LS.of F i es) e.p h
    rw [he]; dsimp only
    by_cases h2 : F e.o.toNat = F i
    · rw [a1 h2, ih, if_pos h2]
    · rw [a2 h2, ih, if_neg h2]; omega
theorem sorted_head {x : Int} {t : List Int} (h : SortedTo (x :: t) (x :: t).length) : ∀ y ∈ t, x ≤ y := by
  intro y hy
  obtain ⟨j, hj, rfl⟩ := List.mem_iff_getElem.1 hy
  have := h 0 (j + 1) (by omega) (by simp; omega)
  simpa [List.getD, hj] using this
theorem sorted_last {y : Int} {t : List Int} (h : SortedTo (t ++ [y]) (t ++ [y]).length) : ∀ x ∈ t, x ≤ y := by
  intro x hx
  obtain ⟨j, hj, rfl⟩ := List.mem_iff_getElem.1 hx
  have := h j t.length hj (by simp)
  simpa [List.getD, hj, List.getElem?_append] using this
theorem least_eq {l c : List Int} {x a : Int} {t : List Int} (hc : c.Perm l) (hx : c = x :: t) (hs : SortedTo c c.length) (ha : Least l a) : a = x := by
  subst hx
  have hne : l ≠ [] := fun h => by rw [h] at hc; exact absurd hc.length_eq (by simp)
  obtain ⟨h1, h2⟩ := ha.2 hne
  have h3 := h2 x (hc.subset (by simp))
  have h4 := hc.symm.subset h1
  rcases List.mem_cons.1 h4 with h4 | h4
  · exact h4
  · have := sorted_head hs a h4; omega
theorem greatest_eq {l c : List Int} {y a : Int} {t : List Int} (hc : c.Perm l) (hy : c = t ++ [y]) (hs : SortedTo c c.length) (ha : Greatest l a) : a = y := by
  subst hy
  have hne : l ≠ [] := fun h => by rw [h] at hc; exact absurd hc.length_eq (by simp)
  obtain ⟨h1, h2⟩ := ha.2 hne
  have h3 := h2 y (hc.subset (by simp))
  have h4 := hc.symm.subset h1
  rcases List.mem_append.1 h4 with h4 | h4
  · have := sorted_last hs a h4; omega
  · rw [List.mem_singleton] at h4; exact h4
theorem tie_eq {F : Nat → Int} {i : Nat} {R : Int} {es : List Ev} {k : Nat} {n : Int} (hp : ∀ e ∈ es, 0 ≤ e.p ∧ e.p ≤ 2) (h : TieV F i R es k n) : n = lawV (LS.of F i es) (progE R es) k := by
  have hlow := of_low F i es
  have hhigh := of_high F i es
  rcases h with ⟨rfl, rfl⟩ | ⟨rfl, c, hc, hs, rfl⟩ | ⟨rfl, c, hc, hs, rfl⟩ | ⟨rfl, rfl⟩ | ⟨rfl, rfl⟩ | ⟨rfl, rfl⟩ | ⟨rfl, rfl⟩
  · exact (of_total F i es).symm
  · show _ = (LS.of F i es).total - (LS.of F i es).low
    rw [of_total, ← perm_sum hc]
    cases c with
    | nil => rw [hlow.1 (List.length_eq_zero_iff.1 hc.length_eq.symm)]; rfl
    | cons x t =>
      rw [least_eq hc rfl hs hlow]
      simp only [List.drop_succ_cons, List.drop_zero, List.sum_cons]; omega
  · show _ = if (LS.of F i es).many < 2 then 0 else (LS.of F i es).total - (LS.of F i es).low - (LS.of F i es).high
    have hl := hc.length_eq
    rw [of_many, of_total, ← perm_sum hc]
    by_cases h2 : c.length < 2
    · rw [if_pos h2, if_pos (by omega)]
    · rw [if_neg h2, if_neg (by omega)]
      match c, h2 with
      | x :: t, h2 =>
        simp only [List.length_cons] at h2
        have hne : t ≠ [] := fun e => by rw [e] at h2; simp at h2
        have ht : t.dropLast ++ [t.getLast hne] = t := List.dropLast_concat_getLast hne
        rw [least_eq hc rfl hs hlow, greatest_eq (t := x :: t.dropLast) (y := t.getLast hne) hc (by rw [List.cons_append, ht]) hs hhigh]
        have hsum : t.sum = t.dropLast.sum + t.getLast hne := by
          have := congrArg List.sum ht
          rw [List.sum_append] at this
          simp only [List.sum_cons, List.sum_nil] at this
          omega
        simp only [List.drop_succ_cons, List.drop_zero, List.sum_cons, List.length_cons, hsum]
        rw [show t.length + 1 - 2 = t.length - 1 by omega, ← List.dropLast_eq_take]
        omega
  · exact (of_sonne F i es).symm
  · rfl
  · exact (of_wins F i es hp).symm
  · exact (of_direct F i es).symm
end Go.Proofs.YtnhnlkljcfbhfaaGreatDoor.Tb
/- tiebreak.Valid. -/
namespace Go.Proofs.YtnhnlkljcfbhfaaGreatDoor.Tb
open Go Go.Ab
theorem v_game {n : Int} {rs : List (List Sc)} (hv : VOk n rs) {k : Nat} (hk : k < rs.length) {j : Nat} (hj : j < rs[k].length) : GOk n rs[k][j] := (hv.2.2.2 _ (List.getElem_mem hk)).1 _ (List.getElem_mem hj)
theorem r_nodup {gs : List Sc} (h : (gs.flatMap pl).Nodup) {j : Nat} (hj : j < gs.length) : ((gs.take j).flatMap pl ++ pl gs[j]).Nodup := by
  rw [← take_flat hj]
  have e : gs.flatMap pl = (gs.take (j + 1)).flatMap pl ++ (gs.drop (j + 1)).flatMap pl := by rw [← List.flatMap_append, List.take_append_drop]
  rw [e] at h
  exact (List.nodup_append.1 h).1
theorem v_w {n : Int} {rs : List (List Sc)} (hv : VOk n rs) {k : Nat} (hk : k < rs.length) {j : Nat} (hj : j < rs[k].length) : rs[k][j].w ∉ (rs[k].take j).flatMap pl := by
  have h := r_nodup (hv.2.2.2 _ (List.getElem_mem hk)).2 hj
  intro hm
  rw [List.nodup_append] at h
  exact h.2.2 _ hm _ (by unfold pl; split <;> simp) rfl
theorem v_b {n : Int} {rs : List (List Sc)} (hv : VOk n rs) {k : Nat} (hk : k < rs.length) {j : Nat} (hj : j < rs[k].length) (hb : 0 ≤ rs[k][j].b) : rs[k][j].b ∉ (rs[k].take j).flatMap pl ∧ rs[k][j].b ≠ rs[k][j].w := by
  have h := r_nodup (hv.2.2.2 _ (List.getElem_mem hk)).2 hj
  have e : pl rs[k][j] = [rs[k][j].w, rs[k][j].b] := by unfold pl; rw [if_pos hb]
  rw [e, List.nodup_append] at h
  refine ⟨fun hm => h.2.2 _ hm _ (by simp) rfl, fun he => ?_⟩
  have := h.2.1
  simp [he] at this
theorem n_next {gs : List Sc} {j : Nat} (hj : j < gs.length) (h : ((gs.take j).flatMap pl).Nodup) (hw : gs[j].w ∉ (gs.take j).flatMap pl) (hb : 0 ≤ gs[j].b → gs[j].b ∉ (gs.take j).flatMap pl ∧ gs[j].b ≠ gs[j].w) : ((gs.take (j + 1)).flatMap pl).Nodup := by
  rw [take_flat hj, List.nodup_append]
  refine ⟨h, ?_, fun a ha b hb' e => ?_⟩
  · unfold pl
    split
    · rename_i h0
      have := (hb h0).2
      simp [Ne.symm this]
    · simp
  · subst e
    unfold pl at hb'
    split at hb'
    · rename_i h0
      simp only [List.mem_cons, List.not_mem_nil, or_false] at hb'
      rcases hb' with rfl | rfl
      · exact hw ha
      · exact (hb h0).1 ha
    · simp only [List.mem_cons, List.not_mem_nil, or_false] at hb'
      subst hb'; exact hw ha
theorem g_next {n : Int} {gs : List Sc} {j : Nat} (hj : j < gs.length) (h : ∀ g ∈ gs.take j, GOk n g) (hg : GOk n gs[j]) : ∀ g ∈ gs.take (j + 1), GOk n g := by
  intro g hm
  rw [List.take_succ_eq_append_getElem hj, List.mem_append] at hm
  rcases hm with hm | hm
  · exact h g hm
  · rw [List.mem_singleton] at hm
    subst hm; exact hg
theorem r_next {n : Int} {rs : List (List Sc)} {k : Nat} (hk : k < rs.length) (h : ∀ gs ∈ rs.take k, ROk n gs) (hg : ROk n rs[k]) : ∀ gs ∈ rs.take (k + 1), ROk n gs := by
  intro g hm
  rw [List.take_succ_eq_append_getElem hk, List.mem_append] at hm
  rcases hm with hm | hm
  · exact h g hm
  · rw [List.mem_singleton] at hm
    subst hm; exact hg
theorem not_dec {p : Prop} [Decidable p] (h : decide p = false) : ¬ p := by simpa using h
attribute [local irreducible] SC SL wpc wpl wpd wpf wpy wpn FnC
set_option maxRecDepth 100000
set_option maxHeartbeats 2000000
theorem valid_fn {G : Gl} {rs : List (List Sc)} {ra : AV} {xs : List AV} (h : RV rs ra xs) (n : Int) (ho : G.orc 55 [.s (.int .i64 n), ra] = none) :
    FnC Tryz.prog G 55 [.s (.int .i64 n), ra] [] (fun v Hn => v = .s (.bool (validB n rs)) ∧ Hn = []) := by
  have hsl := h.sl
  have hlen := h.len
  have hbig := h.big
  refine Fn_body (N := 103) ho Tryz.func55 rfl rfl fun B => ?_
  repeat' (first
    | refine SC_seq ?_
    | refine SC_block ?_
    | refine SC_region ?_
    | refine SL_seq ?_
    | refine SL_run (by rfl) (by rfl) ?_
    | refine SL_not (by rfl) (by rfl) (by rfl) (by decide) ?_
    | refine SL_move (by decide) (by rfl) ?_
    | refine SL_assign (by decide) (by rfl) ?_
    | refine SL_pick_t (by decide) (by rfl) (by rfl) ?_
    | refine SL_pick_f (by decide) (by rfl) (by rfl) ?_
    | (refine SL_lss (by decide) (by rfl) (by rfl) (fun hT => ?_) (fun hT => ?_) <;> first | (exfalso; omega) | skip)
    | (refine SL_gtr (by decide) (by rfl) (by rfl) (fun hT => ?_) (fun hT => ?_) <;> first | (exfalso; omega) | skip)
    | refine SL_len_v (by decide) (by rfl) (by assumption) (by rfl) (slF (by rfl)) (by simp only [List.length_map]; first | rfl | assumption) ?_
    | refine SC_cond_t (by rfl) ?_
    | refine SC_cond_f (by rfl) ?_
    | (refine SC_skip' (fun tm σ hE hH => ?_); refine SC.app ?_ hE hH; clear hE hH; clear tm σ)
    | refine SC_ret (fun tm σ hE hH => Post.intro (Hn := []) (.inr rfl) hE hH (by rfl) trivial List.nodup_nil (fun p hp => (by cases hp)) ?_)
    | fail)
  all_goals try (refine ⟨?_, rfl⟩; rw [validB_f (fun hv => by unfold VOk at hv; omega)]; rfl)
  refine SC_loop (fun k : Nat => [(0, .s (.int .i64 n)), (1, ra), (4, .s (.bool false)), (21, ra), (22, .s (.int .i64 xs.length)), (23, .s (.int .i64 k))]) (fun _ => []) (fun _ => []) (fun k => k ≤ rs.length ∧ ∀ gs ∈ rs.take k, ROk n gs) (fun k => rs.length - k) 0 ⟨by omega, by simp⟩ ⟨rfl, rfl, rfl, rfl, rfl, rfl, trivial⟩ trivial List.nodup_nil rfl ?_
  rintro k ⟨hk1, hk2⟩
  by_cases hlt : k < rs.length
  · obtain ⟨x, hx, hgx⟩ := h.row hlt
    unfold GV at hgx
    have heach := h.each rs[k] (List.getElem_mem hlt)
    repeat' (first
      | refine SC_seq ?_
      | refine SC_block ?_
      | refine SC_region ?_
      | refine SL_seq ?_
      | refine SL_move (by decide) (by rfl) ?_
      | refine SL_assign (by decide) (by rfl) ?_
      | refine SL_add (by decide) (by rfl) (by rfl) (by omega) (by omega) ?_
      | (refine SL_lss (by decide) (by rfl) (by rfl) (fun hT => ?_) (fun hT => ?_) <;> first | (exfalso; omega) | skip)
      | refine SL_len_v (by decide) (by rfl) (by assumption) (by rfl) (slF (by rfl)) (by simp only [List.length_map]; first | rfl | assumption) ?_
      | refine SL_indexAddr_v (by decide) (by rfl) (by rfl) (by assumption) (slF (by rfl)) _ (by first | rfl | exact (Int.toNat_of_nonneg (by omega)).symm) (by simp only [List.length_map]; omega) (fun ad => ?_)
      | refine SL_load_r (by decide) (by rfl) (rowF (by rfl)) (by first | assumption | rfl | exact seenR_get _ _ (by omega)) (by rfl) ?_
      | refine SL_makeSlice (by decide) (by rfl) (by rfl) (elF (by rfl)) (by omega) (by omega) (by omega) (by omega) (fun id hid => ?_)
      | refine SC_cond_t (by rfl) ?_
      | (refine SC_skip' (fun tm σ hE hH => ?_); refine SC.app ?_ hE hH; clear hE hH; clear tm σ)
      | fail)
    rename_i id hid
    refine SC_loop (fun j : Nat => [(0, .s (.int .i64 n)), (1, ra), (4, .s (.bool false)), (21, ra), (22, .s (.int .i64 xs.length)), (23, .s (.int .i64 k)), (7, .sl id 0 (n + 1).toNat none), (30, x), (31, .s (.int .i64 rs[k].length)), (32, .s (.int .i64 j))])
      (fun j => [(id, .cells 4 1 true (seenR (n + 1).toNat ((rs[k].take j).flatMap pl)))]) (fun _ => []) (fun j => j ≤ rs[k].length ∧ (∀ g ∈ rs[k].take j, GOk n g) ∧ ((rs[k].take j).flatMap pl).Nodup) (fun j => rs[k].length - j) 0 ⟨by omega, by simp, by simp⟩
      ⟨rfl, rfl, rfl, rfl, rfl, rfl, rfl, rfl, rfl, rfl, trivial⟩ ⟨by rw [show (rs[k].take 0).flatMap pl = [] from rfl, ← seenR_0]; exact .head _, trivial⟩ (by simp) rfl ?_
    rintro j ⟨hj1, hj2, hj3⟩
    by_cases hjlt : j < rs[k].length
    · have hrow : (rs[k].map cells3)[j]? = some (cells3 rs[k][j]) := by rw [List.getElem?_map, List.getElem?_eq_getElem hjlt]; rfl
      repeat' (first
        | refine SC_seq ?_
        | refine SC_block ?_
        | refine SC_region ?_
        | refine SL_seq ?_
        | (refine SL_nil (fun tm σ hE hH => ?_); refine SC.app ?_ hE hH; clear hE hH; clear tm σ)
        | refine SL_run (by rfl) (by rfl) ?_
        | refine SL_not (by rfl) (by rfl) (by rfl) (by decide) ?_
        | refine SL_notu (by rfl) (by rfl) (by decide) ?_
        | refine SL_move (by decide) (by rfl) ?_
        | refine SL_assign (by decide) (by rfl) ?_
        | refine SL_pick_t (by decide) (by rfl) (by rfl) ?_
        | refine SL_pick_f (by decide) (by rfl) (by rfl) ?_
        | refine SL_add (by decide) (by rfl) (by rfl) (by omega) (by omega) ?_
        | (refine SL_lss (by decide) (by rfl) (by rfl) (fun hT => ?_) (fun hT => ?_) <;> first | (exfalso; omega) | skip)
        | (refine SL_gtr (by decide) (by rfl) (by rfl) (fun hT => ?_) (fun hT => ?_) <;> first | (exfalso; omega) | skip)
        | (refine SL_geq (by decide) (by rfl) (by rfl) (fun hT => ?_) (fun hT => ?_) <;> first | (exfalso; omega) | skip)
        | (refine SL_eql (by decide) (by rfl) (by rfl) (fun hT => ?_) (fun hT => ?_) <;> first | (exfalso; omega) | skip)
        | refine SL_fieldAddr (by decide) (by rfl) (fldF (by rfl)) ?_
        | refine SL_indexAddr_v (by decide) (by rfl) (by rfl) (by assumption) (slF (by rfl)) _ (by first | rfl | exact (Int.toNat_of_nonneg (by omega)).symm) (by simp only [List.length_map]; omega) (fun ad => ?_)
        | refine SL_indexAddr_0 (by decide) (by rfl) (by rfl) (by repeat (first | exact .head _ | refine .tail _ ?_)) (slF (by rfl)) _ (by first | rfl | exact (Int.toNat_of_nonneg (by omega)).symm) (by omega) ?_
        | refine SL_load_rr (by decide) (by rfl) (rowF (by rfl)) (by first | assumption | rfl | exact seenR_get _ _ (by omega)) (Nat.le_of_ble_eq_true (by rfl)) (by first | exact mk3 _ | rfl) ?_
        | (refine SL_load_ob (by decide) (by rfl) (by repeat (first | exact .head _ | refine .tail _ ?_)) (rowF (by rfl)) (by first | assumption | rfl | exact seenR_get _ _ (by omega)) (by rfl) (fun hT => ?_) (fun hT => ?_) <;> first | (exfalso; simp at hT; done) | skip)
        | refine SL_load_o (by decide) (by rfl) (by repeat (first | exact .head _ | refine .tail _ ?_)) (rowF (by rfl)) (by first | assumption | rfl | exact seenR_get _ _ (by omega)) (by rfl) ?_
        | refine SL_store_box (by rfl) (by rfl) (by first | exact cells_3 _ _ _ | rfl) (by repeat (first | exact .head | apply Upd.tail)) (by first | exact .inl (by assumption) | exact .inr (by simp)) (by rfl) (szF (by rfl)) (by rfl) ?_
        | refine SL_store_n (by rfl) (by rfl) (by repeat (first | exact .head _ | refine .tail _ ?_)) (by first | assumption | rfl | exact seenR_get _ _ (by omega)) (by rfl) (by first | exact seenR_set' _ _ (by omega) _ | rfl) (by repeat (first | exact .head | apply Upd.tail)) (by first | exact .inl (by assumption) | exact .inr (by simp)) (szF (by rfl)) (Nat.le_of_ble_eq_true (by rfl)) (by rfl) ?_
        | refine SL_alloc (by decide) (zeroF (by rfl)) (fun id hid => ?_)
        | refine SC_cond_t (by rfl) ?_
        | refine SC_cond_f (by rfl) ?_
        | (refine SC_skip' (fun tm σ hE hH => ?_); refine SC.app ?_ hE hH; clear hE hH; clear tm σ)
        | refine SC_ret (fun tm σ hE hH => Post.intro (Hn := []) (.inr rfl) hE hH (by rfl) trivial List.nodup_nil (fun p hp => (by cases hp)) ?_)
        | fail)
      all_goals try (refine ⟨?_, rfl⟩; rw [validB_f (fun hv => by have hg := v_game hv hlt hjlt; unfold GOk at hg; omega)]; rfl)
      · have hw0 : 0 ≤ rs[k][j].w := by assumption
        have hs : decide (((rs[k][j].w.toNat : Nat) : Int) ∈ (rs[k].take j).flatMap pl) = true := by assumption
        rw [Int.toNat_of_nonneg hw0] at hs
        refine ⟨?_, rfl⟩
        rw [validB_f (fun hv => v_w hv hlt hjlt (of_decide_eq_true hs))]; rfl
      · have hb0 : 0 ≤ rs[k][j].b := by assumption
        have hs : decide (((rs[k][j].b.toNat : Nat) : Int) ∈ (rs[k].take j).flatMap pl) = true := by assumption
        rw [Int.toNat_of_nonneg hb0] at hs
        refine ⟨?_, rfl⟩
        rw [validB_f (fun hv => (v_b hv hlt hjlt hb0).1 (of_decide_eq_true hs))]; rfl
      · have hb0 : 0 ≤ rs[k][j].b := by assumption
        have he : rs[k][j].b = rs[k][j].w := by assumption
        refine ⟨?_, rfl⟩
        rw [validB_f (fun hv => (v_b hv hlt hjlt hb0).2 he)]; rfl
      · have hw0 : 0 ≤ rs[k][j].w := by assumption
        have hw1 : rs[k][j].w < n := by assumption
        have hb1 : -1 ≤ rs[k][j].b := by assumption
        have hb2 : rs[k][j].b < n := by assumption
        have hp1 : 0 ≤ rs[k][j].p := by assumption
        have hp2 : rs[k][j].p ≤ 2 := by assumption
        have hs : decide (((rs[k][j].w.toNat : Nat) : Int) ∈ (rs[k].take j).flatMap pl) = false := by assumption
        have hb0 : 0 ≤ rs[k][j].b := by assumption
        have hsb : decide (((rs[k][j].b.toNat : Nat) : Int) ∈ (rs[k].take j).flatMap pl) = false := by assumption
        have hne : rs[k][j].b ≠ rs[k][j].w := by assumption
        rw [Int.toNat_of_nonneg hw0] at hs
        rw [Int.toNat_of_nonneg hb0] at hsb
        refine SL_nil fun tm σ hE hH => ⟨j + 1, by omega, ⟨by omega, g_next hjlt hj2 ⟨hw0, hw1, hb1, hb2, hp1, hp2⟩, n_next hjlt hj3 (not_dec hs) (fun _ => ⟨not_dec hsb, hne⟩)⟩, tm, σ, rfl, hE.sub ⟨rfl, rfl, rfl, rfl, rfl, rfl, rfl, rfl, rfl, rfl, trivial⟩, hH.sub ⟨?_, trivial⟩ (by simp)⟩
        rw [take_flat hjlt, show pl rs[k][j] = [rs[k][j].w, rs[k][j].b] by unfold pl; rw [if_pos hb0]]
        rw [Int.toNat_of_nonneg hw0, Int.toNat_of_nonneg hb0, List.append_assoc]
        exact .tail _ (.head _)
      · have hw0 : 0 ≤ rs[k][j].w := by assumption
        have hw1 : rs[k][j].w < n := by assumption
        have hb1 : -1 ≤ rs[k][j].b := by assumption
        have hb2 : rs[k][j].b < n := by assumption
        have hp1 : 0 ≤ rs[k][j].p := by assumption
        have hp2 : rs[k][j].p ≤ 2 := by assumption
        have hs : decide (((rs[k][j].w.toNat : Nat) : Int) ∈ (rs[k].take j).flatMap pl) = false := by assumption
        have hb0 : rs[k][j].b < 0 := by assumption
        rw [Int.toNat_of_nonneg hw0] at hs
        refine SL_nil fun tm σ hE hH => ⟨j + 1, by omega, ⟨by omega, g_next hjlt hj2 ⟨hw0, hw1, hb1, hb2, hp1, hp2⟩, n_next hjlt hj3 (not_dec hs) (fun hb => by omega)⟩, tm, σ, rfl, hE.sub ⟨rfl, rfl, rfl, rfl, rfl, rfl, rfl, rfl, rfl, rfl, trivial⟩, hH.sub ⟨?_, trivial⟩ (by simp)⟩
        rw [take_flat hjlt, show pl rs[k][j] = [rs[k][j].w] by unfold pl; rw [if_neg (by omega)]]
        rw [Int.toNat_of_nonneg hw0]
        exact .tail _ (.head _)
    ·
      repeat' (first
        | refine SC_seq ?_
        | refine SC_region ?_
        | refine SL_seq ?_
        | refine SL_move (by decide) (by rfl) ?_
        | refine SL_add (by decide) (by rfl) (by rfl) (by omega) (by omega) ?_
        | (refine SL_lss (by decide) (by rfl) (by rfl) (fun hT => ?_) (fun hT => ?_) <;> first | (exfalso; omega) | skip)
        | refine SC_cond_f (by rfl) ?_
        | (refine SC_exit (fun tm σ hE hH => ?_); refine SC.app ?_ hE hH; clear hE hH; clear tm σ)
        | fail)
      refine SL_nil fun tm σ hE hH => ⟨k + 1, by omega, ⟨by omega, r_next hlt hk2 ⟨fun g hg => hj2 g ?_, ?_⟩⟩, tm, σ, rfl, hE.sub ⟨rfl, rfl, rfl, rfl, rfl, rfl, trivial⟩, hH.sub trivial List.nodup_nil⟩
      · rw [List.take_of_length_le (by omega)]; exact hg
      · rw [List.take_of_length_le (by omega)] at hj3; exact hj3
  ·
    repeat' (first
      | refine SC_seq ?_
      | refine SC_region ?_
      | refine SL_seq ?_
      | refine SL_assign (by decide) (by rfl) ?_
      | (refine SL_lss (by decide) (by rfl) (by rfl) (fun hT => ?_) (fun hT => ?_) <;> first | (exfalso; omega) | skip)
      | refine SC_cond_f (by rfl) ?_
      | (refine SC_exit (fun tm σ hE hH => ?_); refine SC.app ?_ hE hH; clear hE hH; clear tm σ)
      | refine SC_ret (fun tm σ hE hH => Post.intro (Hn := []) (.inr rfl) hE hH (by rfl) trivial List.nodup_nil (fun p hp => (by cases hp)) ?_)
      | fail)
    refine ⟨?_, rfl⟩
    rw [validB_t ⟨by omega, by omega, by omega, fun gs hgs => hk2 gs (by rw [List.take_of_length_le (by omega)]; exact hgs)⟩]
    rfl
end Go.Proofs.YtnhnlkljcfbhfaaGreatDoor.Tb
/- TiebreakScores, walked. -/
namespace Go.Proofs.YtnhnlkljcfbhfaaGreatDoor.Tb
open Go Go.Ab
attribute [local irreducible] SC SL wpc wpl wpd wpf wpy wpn FnC FnW RdW
set_option maxRecDepth 100000
set_option maxHeartbeats 2000000
theorem few_all {rs : List (List Sc)} (h : fewB rs 12 = true) : ∀ gs ∈ rs, gs.length ≤ 12 := by
  unfold fewB at h
  rw [Bool.and_eq_true, decide_eq_true_eq, decide_eq_true_eq] at h
  intro gs hgs
  have := h.1 gs (by rw [List.take_of_length_le (by omega)]; exact hgs)
  omega
theorem api_t {G : Gl} {rs : List (List Sc)} {ra : AV} {xs : List AV} (h : RV rs ra xs) (hf : ∀ gs ∈ rs, gs.length ≤ 12) {m : Nat} (hv : VOk m rs) (ho : ∀ f a b, offT f = true → G.orc f (a :: b) = none) :
    FnC Tryz.prog G 52 [.s (.int .i64 m), ra] [] (fun v Hn => ∃ id, v = .tup [.sl id 0 m none, .s (.int .i64 0)] ∧ Hn = [(id, .cells 3 1 true (tab m (fun x => sumT rs x)))]) := by
  have h11 : FnC Tryz.prog G 55 [.s (.int .i64 m), ra] [] (fun v Hn => v = .s (.bool true) ∧ Hn = []) := by
    have := valid_fn h m (G := G) (ho _ _ _ (by rfl))
    rw [validB_t hv] at this; exact this
  have h26 := scores_fn h hf hv (G := G) (ho _ _ _ (by rfl)) (fun _ => ho _ _ _ (by rfl)) (fun _ _ _ => ho _ _ _ (by rfl))
  refine Fn_body (N := 13) (ho _ _ _ (by rfl)) Tryz.func52 rfl rfl fun B => ?_
  repeat' (first
    | (refine SL_call (by decide) (by rfl) bd26 (by rfl) (by rfl) h26 trivial List.nodup_nil ?_; rintro _ _ hB26 ⟨ida, rfl, rfl⟩; simp only [List.cons_append, List.nil_append])
    | (refine SL_call (by decide) (by rfl) bd11 (by rfl) (by rfl) (h11) trivial List.nodup_nil ?_; rintro _ _ _ ⟨rfl, rfl⟩; rw [List.nil_append])
    | refine SC_seq ?_
    | refine SC_region ?_
    | refine SL_seq ?_
    | refine SL_move (by decide) (by rfl) ?_
    | refine SL_assign (by decide) (by rfl) ?_
    | refine SL_not_op (by decide) (by rfl) ?_
    | refine SC_cond_f (by rfl) ?_
    | (refine SC_skip' (fun tm σ hE hH => ?_); refine SC.app ?_ hE hH; clear hE hH; clear tm σ)
    | fail)
  refine SC_ret (fun tm σ hE hH => Post.intro (Hn := [(_, _)]) (.inr rfl) hE hH (by rfl) ⟨.head _, trivial⟩ (by simp) hB26 ⟨_, rfl, rfl⟩)
theorem api_f {G : Gl} {rs : List (List Sc)} {ra : AV} {xs : List AV} (h : RV rs ra xs) {n : Int} (hv : ¬ VOk n rs) (ho : ∀ f a b, offT f = true → G.orc f (a :: b) = none) :
    FnC Tryz.prog G 52 [.s (.int .i64 n), ra] [] (fun v Hn => v = .s (.tuple #[.slice none 0 0, .int .i64 2]) ∧ Hn = []) := by
  have h11 : FnC Tryz.prog G 55 [.s (.int .i64 n), ra] [] (fun v Hn => v = .s (.bool false) ∧ Hn = []) := by
    have := valid_fn h n (G := G) (ho _ _ _ (by rfl))
    rw [validB_f hv] at this; exact this
  refine Fn_body (N := 13) (ho _ _ _ (by rfl)) Tryz.func52 rfl rfl fun B => ?_
  repeat' (first
    | (refine SL_call (by decide) (by rfl) bd11 (by rfl) (by rfl) (h11) trivial List.nodup_nil ?_; rintro _ _ _ ⟨rfl, rfl⟩; rw [List.nil_append])
    | refine SC_seq ?_
    | refine SC_region ?_
    | refine SL_seq ?_
    | refine SL_move (by decide) (by rfl) ?_
    | refine SL_assign (by decide) (by rfl) ?_
    | refine SL_not_op (by decide) (by rfl) ?_
    | refine SC_cond_t (by rfl) ?_
    | fail)
  refine SC_ret (fun tm σ hE hH => Post.intro (Hn := []) (.inr rfl) hE hH (by rfl) trivial List.nodup_nil (fun p hp => by cases hp) ⟨rfl, rfl⟩)
end Go.Proofs.YtnhnlkljcfbhfaaGreatDoor.Tb
/- TiebreakValues, walked. -/
namespace Go.Proofs.YtnhnlkljcfbhfaaGreatDoor.Tb
open Go Go.Ab
attribute [local irreducible] SC SL wpc wpl wpd wpf wpy wpn FnC FnW RdW SD
set_option maxRecDepth 100000
set_option maxHeartbeats 4000000
theorem ev1_count (k : Nat) (i : Int) (hi : 0 ≤ i) (g : Sc) : (ev1 k i g).length ≤ (pl g).count i := by
  unfold ev1
  split
  · rename_i h; subst h; unfold pl; split <;> simp
  · split
    · rename_i h1 h2; subst h2; unfold pl; rw [if_pos hi]; simp
    · simp
theorem evR_count (k : Nat) (i : Int) (hi : 0 ≤ i) (gs : List Sc) : (evR k i gs).length ≤ (gs.flatMap pl).count i := by
  induction gs with
  | nil => simp [evR]
  | cons g gs ih =>
    have := ev1_count k i hi g
    unfold evR at ih ⊢
    rw [List.flatMap_cons, List.flatMap_cons, List.length_append, List.count_append]
    omega
theorem evU_one {n : Int} {rs : List (List Sc)} (h : ∀ gs ∈ rs, ROk n gs) (i : Int) (hi : 0 ≤ i) : ∀ k, k ≤ rs.length → (evU rs i k).length ≤ k
  | 0, _ => by simp [evU]
  | k + 1, hk => by
    have h1 := evU_one h i hi k (by omega)
    have h2 := evR_count k i hi rs[k]
    have h3 := List.nodup_iff_count.1 (h rs[k] (List.getElem_mem hk)).2 i
    rw [evU_next hk, List.length_append]; omega
theorem foesL_le (F : Nat → Int) (es : List Ev) : (foesL F es).length ≤ es.length := by
  unfold foesL; rw [List.length_map]; exact List.length_filter_le _ _
theorem sumT_F {rs : List (List Sc)} (hf : ∀ gs ∈ rs, gs.length ≤ 12) {m : Nat} (hv : VOk m rs) : ∀ x : Nat, x < m → 0 ≤ sumT rs x ∧ sumT rs x ≤ 1000 := fun x _ => by
  have h1 := sumT_bd hf (fun gs hgs g hgg => ((hv.2.2.2 gs hgs).1 g hgg).2.2.2.2) x
  have h2 := hv.2.2.1
  omega
theorem known27 {G : Gl} (ho : ∀ f x y, offT f = true → G.orc f (x :: y) = none) (k : Int) : FnC Tryz.prog G 56 [.s (.int .i64 k)] [] (fun v Hn => v = .s (.bool (decide (1 ≤ k ∧ k ≤ 7))) ∧ Hn = []) := by
  refine Fn_body (N := 9) (ho _ _ _ (by rfl)) Tryz.func56 rfl rfl fun B => ?_
  repeat' (first
    | refine SC_seq ?_
    | refine SC_region ?_
    | refine SL_seq ?_
    | refine SL_run (by rfl) (by rfl) ?_
    | refine SL_not (by rfl) (by rfl) (by rfl) (by decide) ?_
    | refine SL_move (by decide) (by rfl) ?_
    | refine SL_assign (by decide) (by rfl) ?_
    | refine SL_pick_t (by decide) (by rfl) (by rfl) ?_
    | refine SL_pick_f (by decide) (by rfl) (by rfl) ?_
    | (refine SL_leq (by decide) (by rfl) (by rfl) (fun hT => ?_) (fun hT => ?_) <;> first | (exfalso; omega) | skip)
    | (refine SL_geq (by decide) (by rfl) (by rfl) (fun hT => ?_) (fun hT => ?_) <;> first | (exfalso; omega) | skip)
    | fail)
  all_goals refine SC_ret (fun tm σ hE hH => Post.intro (Hn := []) (.inr rfl) hE hH (by rfl) trivial List.nodup_nil (fun p hp => by cases hp) ⟨?_, rfl⟩)
  all_goals first
    | (rw [decide_eq_true (by omega)]; rfl)
    | (rw [decide_eq_false (by omega)]; rfl)
section
variable {G : Gl} {rs : List (List Sc)} {ra : AV} {xs : List AV} (h : RV rs ra xs) (hf : ∀ gs ∈ rs, gs.length ≤ 12) (ho : ∀ f x y, offT f = true → G.orc f (x :: y) = none)
include h hf ho in
theorem api15_t {m : Nat} (hv : VOk m rs) (hr : rs.length ≤ 10) (i : Nat) (hi : i < m) (k : Nat) (hk1 : 1 ≤ k) (hk7 : k ≤ 7) :
    FnC Tryz.prog G 53 [.s (.int .i64 m), ra, .s (.int .i64 k), .s (.int .i64 i)] [] (fun v Hn => ∃ n, v = .s (.tuple #[.int .i64 n, .int .i64 0]) ∧ n = lawV (LS.of (fun x => sumT rs x) i (evU rs i rs.length)) (progE rs.length (evU rs i rs.length)) k ∧ Hn = []) := by
  have h11 : FnC Tryz.prog G 55 [.s (.int .i64 m), ra] [] (fun v Hn => v = .s (.bool true) ∧ Hn = []) := by
    have := valid_fn h m (G := G) (ho _ _ _ (by rfl))
    rw [validB_t hv] at this; exact this
  have h27 : FnC Tryz.prog G 56 [.s (.int .i64 k)] [] (fun v Hn => v = .s (.bool true) ∧ Hn = []) := by
    have := known27 (G := G) ho k
    rw [decide_eq_true (by omega)] at this; exact this
  have h26 := scores_fn h hf hv (G := G) (ho _ _ _ (by rfl)) (fun _ => ho _ _ _ (by rfl)) (fun _ _ _ => ho _ _ _ (by rfl))
  have hgok : ∀ gs ∈ rs, ∀ g ∈ gs, GOk m g := fun gs hgs g hgg => (hv.2.2.2 gs hgs).1 g hgg
  have hgp : ∀ gs ∈ rs, ∀ g ∈ gs, 0 ≤ g.p ∧ g.p ≤ 2 := fun gs hgs g hgg => (hgok gs hgs g hgg).2.2.2.2
  have h1 := evU_one hv.2.2.2 i (by omega) rs.length (Nat.le_refl _)
  have h2 := foesL_le (fun x => sumT rs x) (evU rs i rs.length)
  have h28 := value_fn (G := G) h hgp ho (fun x => sumT rs x) (sumT_F hf hv) i hi (evU_lt hgok i rs.length (Nat.le_refl _)) (by omega) (by omega) (by omega) k hk1 hk7
  refine Fn_body (N := 35) (ho _ _ _ (by rfl)) Tryz.func53 rfl rfl fun B => ?_
  repeat' (first
    | (refine SL_call (by decide) (by rfl) bd28 (by rfl) (by rfl) (h28 ida) ⟨.head _, trivial⟩ (by simp) ?_; rintro _ _ _ ⟨n28, rfl, hn28, rfl⟩; rw [List.nil_append])
    | (refine SL_call (by decide) (by rfl) bd26 (by rfl) (by rfl) h26 trivial List.nodup_nil ?_; rintro _ _ hB26 ⟨ida, rfl, rfl⟩; simp only [List.cons_append, List.nil_append])
    | (refine SL_call (by decide) (by rfl) bd27 (by rfl) (by rfl) (h27) trivial List.nodup_nil ?_; rintro _ _ _ ⟨rfl, rfl⟩; rw [List.nil_append])
    | (refine SL_call (by decide) (by rfl) bd11 (by rfl) (by rfl) (h11) trivial List.nodup_nil ?_; rintro _ _ _ ⟨rfl, rfl⟩; rw [List.nil_append])
    | refine SC_seq ?_
    | refine SC_region ?_
    | refine SL_seq ?_
    | refine SL_run (by rfl) (by rfl) ?_
    | refine SL_move (by decide) (by rfl) ?_
    | refine SL_assign (by decide) (by rfl) ?_
    | refine SL_pick_f (by decide) (by rfl) (by rfl) ?_
    | refine SL_not_op (by decide) (by rfl) ?_
    | (refine SL_lss (by decide) (by rfl) (by rfl) (fun hT => ?_) (fun hT => ?_) <;> first | (exfalso; omega) | skip)
    | (refine SL_geq (by decide) (by rfl) (by rfl) (fun hT => ?_) (fun hT => ?_) <;> first | (exfalso; omega) | skip)
    | refine SC_cond_f (by rfl) ?_
    | (refine SC_skip' (fun tm σ hE hH => ?_); refine SC.app ?_ hE hH; clear hE hH; clear tm σ)
    | fail)
  refine SC_ret (fun tm σ hE hH => Post.intro (Hn := []) (.inr rfl) hE hH (by rfl) trivial List.nodup_nil (fun p hp => by cases hp) ⟨_, rfl, ?_, rfl⟩)
  exact tie_eq (evU_bd hgp i rs.length (Nat.le_refl _)) hn28
omit hf in
include h ho in
theorem api15_f {n k i : Int} (hb : ¬ (VOk n rs ∧ 0 ≤ i ∧ i < n ∧ 1 ≤ k ∧ k ≤ 7)) :
    FnC Tryz.prog G 53 [.s (.int .i64 n), ra, .s (.int .i64 k), .s (.int .i64 i)] [] (fun v Hn => v = .s (.tuple #[.int .i64 0, .int .i64 2]) ∧ Hn = []) := by
  have h11 := valid_fn h n (G := G) (ho _ _ _ (by rfl))
  have h27 := known27 (G := G) ho k
  by_cases hv : VOk n rs
  · rw [validB_t hv] at h11
    by_cases hk : 1 ≤ k ∧ k ≤ 7
    · rw [decide_eq_true hk] at h27
      have hb' : ¬ (0 ≤ i ∧ i < n) := fun h => hb ⟨hv, h.1, h.2, hk⟩
      refine Fn_body (N := 35) (ho _ _ _ (by rfl)) Tryz.func53 rfl rfl fun B => ?_
      repeat' (first
        | (refine SL_call (by decide) (by rfl) bd11 (by rfl) (by rfl) (h11) trivial List.nodup_nil ?_; rintro _ _ _ ⟨rfl, rfl⟩; rw [List.nil_append])
        | refine SC_seq ?_
        | refine SC_region ?_
        | refine SL_seq ?_
        | refine SL_run (by rfl) (by rfl) ?_
        | refine SL_not (by rfl) (by rfl) (by rfl) (by decide) ?_
        | refine SL_move (by decide) (by rfl) ?_
        | refine SL_assign (by decide) (by rfl) ?_
        | refine SL_pick_t (by decide) (by rfl) (by rfl) ?_
        | refine SL_pick_f (by decide) (by rfl) (by rfl) ?_
        | refine SL_not_op (by decide) (by rfl) ?_
        | (refine SL_lss (by decide) (by rfl) (by rfl) (fun hT => ?_) (fun hT => ?_) <;> first | (exfalso; omega) | skip)
        | (refine SL_geq (by decide) (by rfl) (by rfl) (fun hT => ?_) (fun hT => ?_) <;> first | (exfalso; omega) | skip)
        | refine SC_cond_t (by rfl) ?_
        | fail)
      all_goals first
        | (exfalso; omega)
        | exact SC_ret (fun tm σ hE hH => Post.intro (Hn := []) (.inr rfl) hE hH (by rfl) trivial List.nodup_nil (fun p hp => by cases hp) ⟨rfl, rfl⟩)
    · rw [decide_eq_false hk] at h27
      refine Fn_body (N := 35) (ho _ _ _ (by rfl)) Tryz.func53 rfl rfl fun B => ?_
      repeat' (first
        | (refine SL_call (by decide) (by rfl) bd27 (by rfl) (by rfl) (h27) trivial List.nodup_nil ?_; rintro _ _ _ ⟨rfl, rfl⟩; rw [List.nil_append])
        | (refine SL_call (by decide) (by rfl) bd11 (by rfl) (by rfl) (h11) trivial List.nodup_nil ?_; rintro _ _ _ ⟨rfl, rfl⟩; rw [List.nil_append])
        | refine SC_seq ?_
        | refine SC_region ?_
        | refine SL_seq ?_
        | refine SL_run (by rfl) (by rfl) ?_
        | refine SL_not (by rfl) (by rfl) (by rfl) (by decide) ?_
        | refine SL_move (by decide) (by rfl) ?_
        | refine SL_assign (by decide) (by rfl) ?_
        | refine SL_pick_t (by decide) (by rfl) (by rfl) ?_
        | refine SL_pick_f (by decide) (by rfl) (by rfl) ?_
        | refine SL_not_op (by decide) (by rfl) ?_
        | (refine SL_lss (by decide) (by rfl) (by rfl) (fun hT => ?_) (fun hT => ?_) <;> first | (exfalso; omega) | skip)
        | (refine SL_geq (by decide) (by rfl) (by rfl) (fun hT => ?_) (fun hT => ?_) <;> first | (exfalso; omega) | skip)
        | refine SC_cond_t (by rfl) ?_
        | fail)
      all_goals exact SC_ret (fun tm σ hE hH => Post.intro (Hn := []) (.inr rfl) hE hH (by rfl) trivial List.nodup_nil (fun p hp => by cases hp) ⟨rfl, rfl⟩)
  · rw [validB_f hv] at h11
    refine Fn_body (N := 35) (ho _ _ _ (by rfl)) Tryz.func53 rfl rfl fun B => ?_
    repeat' (first
      | (refine SL_call (by decide) (by rfl) bd11 (by rfl) (by rfl) (h11) trivial List.nodup_nil ?_; rintro _ _ _ ⟨rfl, rfl⟩; rw [List.nil_append])
      | refine SC_seq ?_
      | refine SC_region ?_
      | refine SL_seq ?_
      | refine SL_not (by rfl) (by rfl) (by rfl) (by decide) ?_
      | refine SL_move (by decide) (by rfl) ?_
      | refine SL_assign (by decide) (by rfl) ?_
      | refine SL_pick_t (by decide) (by rfl) (by rfl) ?_
      | refine SL_not_op (by decide) (by rfl) ?_
      | refine SC_cond_t (by rfl) ?_
      | fail)
    all_goals exact SC_ret (fun tm σ hE hH => Post.intro (Hn := []) (.inr rfl) hE hH (by rfl) trivial List.nodup_nil (fun p hp => by cases hp) ⟨rfl, rfl⟩)
end
end Go.Proofs.YtnhnlkljcfbhfaaGreatDoor.Tb
/- Which kinds are valid. -/
namespace Go.Proofs.YtnhnlkljcfbhfaaGreatDoor.Tb
open Go Go.Ab
attribute [local irreducible] SC SL wpc wpl wpd wpf wpy wpn FnC FnW RdW SD
set_option maxRecDepth 100000
set_option maxHeartbeats 2000000
theorem mem_getD {l : List Int} {k : Int} (h : k ∈ l) : ∃ j, j < l.length ∧ l.getD j 0 = k := by
  obtain ⟨j, hj, he⟩ := List.mem_iff_getElem.1 h
  exact ⟨j, hj, by rw [getD_at _ hj]; exact he⟩
theorem index_fn {G : Gl} (ho : ∀ f x y, offT f = true → G.orc f (x :: y) = none) (l : List Int) (hl : l.length ≤ 9223372036854775807) (ad : Addr) (cap : Nat) (k : Int) :
    FnC Tryz.prog G 84 [.rsl ad 1 cap (ints l), .s (.int .i64 k)] [] (fun v Hn => (∃ x : Int, v = .s (.int .i64 x) ∧ (0 ≤ x ↔ k ∈ l)) ∧ Hn = []) := by
  have hil := ints_len l
  refine Fn_body (N := 19) (ho _ _ _ (by rfl)) Tryz.func84 rfl rfl fun B => ?_
  repeat' (first
    | refine SL_len_rsl (by decide) (by rfl) (by rfl) (sliceOf_spec sl64).1 ?_
    | refine SC_seq ?_
    | refine SC_block ?_
    | refine SC_region ?_
    | refine SL_seq ?_
    | refine SL_move (by decide) (by rfl) ?_
    | refine SL_assign (by decide) (by rfl) ?_
    | fail)
  refine SC_loop (fun j : Nat => [(0, .rsl ad 1 cap (ints l)), (1, .s (.int .i64 k)), (7, .s (.int .i64 (ints l).length)), (8, .s (.int .i64 j))]) (fun _ => []) (fun _ => []) (fun j => j ≤ l.length ∧ ∀ i, i < j → l.getD i 0 ≠ k) (fun j => l.length - j) 0 ⟨by omega, fun i hi => by omega⟩ ⟨rfl, rfl, rfl, rfl, trivial⟩ trivial List.nodup_nil rfl ?_
  rintro j ⟨hj, hne⟩
  by_cases hlt : j < l.length
  ·
    repeat' (first
      | refine SL_indexAddr_r (by decide) (by rfl) (by rfl) sl64 j (by omega) (by omega) ?_
      | refine SC_seq ?_
      | refine SC_block ?_
      | refine SC_region ?_
      | refine SL_seq ?_
      | refine SL_move (by decide) (by rfl) ?_
      | refine SL_assign (by decide) (by rfl) ?_
      | refine SL_add (by decide) (by rfl) (by rfl) (by omega) (by omega) ?_
      | (refine SL_lss (by decide) (by rfl) (by rfl) (fun hT => ?_) (fun hT => ?_) <;> first | (exfalso; omega) | skip)
      | (refine SL_eql (by decide) (by rfl) (by rfl) (fun hT => ?_) (fun hT => ?_) <;> first | (exfalso; omega) | skip)
      | refine SL_load_r (by decide) (by rfl) (rowF (by rfl)) (by first | assumption | rfl | exact ints_getD _ (by omega)) (by rfl) ?_
      | refine SC_cond_t (by rfl) ?_
      | refine SC_cond_f (by rfl) ?_
      | (refine SC_skip' (fun tm σ hE hH => ?_); refine SC.app ?_ hE hH; clear hE hH; clear tm σ)
      | fail)
    · refine SC_ret (fun tm σ hE hH => Post.intro (Hn := []) (.inr rfl) hE hH (by rfl) trivial List.nodup_nil (fun p hp => by cases hp) ⟨⟨_, rfl, ?_⟩, rfl⟩)
      exact ⟨fun _ => by rw [hT]; exact getD_mem hlt, fun _ => by omega⟩
    · exact SL_nil fun tm σ hE hH => ⟨j + 1, by omega, ⟨by omega, fun i hi => by
        by_cases e : i = j
        · subst e; exact fun h => hT h.symm
        · exact hne i (by omega)⟩, tm, σ, rfl, hE.sub ⟨rfl, rfl, rfl, rfl, trivial⟩, hH⟩
  · obtain rfl : j = l.length := by omega
    repeat' (first
      | refine SC_seq ?_
      | refine SC_region ?_
      | refine SL_seq ?_
      | refine SL_assign (by decide) (by rfl) ?_
      | (refine SL_lss (by decide) (by rfl) (by rfl) (fun hT => ?_) (fun hT => ?_) <;> first | (exfalso; omega) | skip)
      | refine SC_cond_f (by rfl) ?_
      | (refine SC_exit (fun tm σ hE hH => ?_); refine SC.app ?_ hE hH; clear hE hH; clear tm σ)
      | fail)
    refine SC_ret (fun tm σ hE hH => Post.intro (Hn := []) (.inr rfl) hE hH (by rfl) trivial List.nodup_nil (fun p hp => by cases hp) ⟨⟨-1, rfl, ?_⟩, rfl⟩)
    refine ⟨fun h => by omega, fun h => ?_⟩
    obtain ⟨i, hi, he⟩ := mem_getD h
    exact absurd he (hne i hi)
theorem contains_fn {G : Gl} (ho : ∀ f x y, offT f = true → G.orc f (x :: y) = none) (l : List Int) (hl : l.length ≤ 9223372036854775807) (ad : Addr) (cap : Nat) (k : Int) :
    FnC Tryz.prog G 57 [.rsl ad 1 cap (ints l), .s (.int .i64 k)] [] (fun v Hn => v = .s (.bool (decide (k ∈ l))) ∧ Hn = []) := by
  have h54 := index_fn ho l hl ad cap k
  refine Fn_body (N := 9) (ho _ _ _ (by rfl)) Tryz.func57 rfl rfl fun B => ?_
  repeat' (first
    | (refine SL_call (by decide) (by rfl) bd54 (by rfl) (by rfl) h54 trivial List.nodup_nil ?_; rintro _ _ _ ⟨⟨x, rfl, hx⟩, rfl⟩; rw [List.nil_append])
    | refine SC_seq ?_
    | refine SC_region ?_
    | refine SL_seq ?_
    | refine SL_move (by decide) (by rfl) ?_
    | refine SL_assign (by decide) (by rfl) ?_
    | (refine SL_geq (by decide) (by rfl) (by rfl) (fun hT => ?_) (fun hT => ?_) <;> first | (exfalso; omega) | skip)
    | fail)
  · refine SC_ret (fun tm σ hE hH => Post.intro (Hn := []) (.inr rfl) hE hH (by rfl) trivial List.nodup_nil (fun p hp => by cases hp) ⟨?_, rfl⟩)
    rw [decide_eq_true (hx.1 (by omega))]; rfl
  · refine SC_ret (fun tm σ hE hH => Post.intro (Hn := []) (.inr rfl) hE hH (by rfl) trivial List.nodup_nil (fun p hp => by cases hp) ⟨?_, rfl⟩)
    rw [decide_eq_false (fun h => by have := hx.2 h; omega)]; rfl
def KOk (ks : List Int) : Prop := (∀ k ∈ ks, 1 ≤ k ∧ k ≤ 7) ∧ ks.Nodup ∧ ks.length ≤ 7
theorem take_mem {l : List Int} {j : Nat} {k : Int} : k ∈ l.take j ↔ ∃ i, i < j ∧ i < l.length ∧ l.getD i 0 = k := by
  constructor
  · intro h
    obtain ⟨i, hi, he⟩ := List.mem_iff_getElem.1 h
    rw [List.length_take] at hi
    rw [List.getElem_take] at he
    exact ⟨i, by omega, by omega, by rw [getD_at _ (by omega)]; exact he⟩
  · rintro ⟨i, h1, h2, he⟩
    rw [getD_at _ h2] at he
    exact List.mem_iff_getElem.2 ⟨i, by rw [List.length_take]; omega, by rw [List.getElem_take]; exact he⟩
def KSt (ks : List Int) (j : Nat) : Prop := ∀ i, i < j → (1 ≤ ks.getD i 0 ∧ ks.getD i 0 ≤ 7) ∧ ∀ h, h < i → ks.getD h 0 ≠ ks.getD i 0
theorem KSt.ok {ks : List Int} (h : KSt ks ks.length) (hl : ks.length ≤ 7) : KOk ks := by
  refine ⟨fun k hk => ?_, ?_, hl⟩
  · obtain ⟨j, hj, rfl⟩ := mem_getD hk
    exact (h j hj).1
  · refine List.pairwise_iff_getElem.2 fun i j hi hj hij => ?_
    have := (h j hj).2 i hij
    rwa [getD_at _ hi, getD_at _ hj] at this
theorem KOk.st {ks : List Int} (h : KOk ks) : KSt ks ks.length := fun i hi => ⟨h.1 _ (getD_mem hi), fun j hj => getD_ne h.2.1 (by omega) hi (by omega)⟩
theorem KSt.next {ks : List Int} {j : Nat} (h : KSt ks j) (h1 : 1 ≤ ks.getD j 0 ∧ ks.getD j 0 ≤ 7) (h2 : ∀ i, i < j → ks.getD i 0 ≠ ks.getD j 0) : KSt ks (j + 1) := fun i hi => by
  by_cases e : i = j
  · subst e; exact ⟨h1, h2⟩
  · exact h i (by omega)
noncomputable def kindsB (ks : List Int) : Bool := @decide (KOk ks) (Classical.propDecidable _)
theorem kindsB_t {ks : List Int} (h : KOk ks) : kindsB ks = true := by unfold kindsB; exact @decide_eq_true _ (Classical.propDecidable _) h
theorem kindsB_f {ks : List Int} (h : ¬ KOk ks) : kindsB ks = false := by unfold kindsB; exact @decide_eq_false _ (Classical.propDecidable _) h
end Go.Proofs.YtnhnlkljcfbhfaaGreatDoor.Tb
/- The places along an order. -/
namespace Go.Proofs.YtnhnlkljcfbhfaaGreatDoor.Tb
open Go Go.Ab
def kval (rs : List (List Sc)) (i : Nat) (k : Int) : Int := lawV (LS.of (fun x => sumT rs x) i (evU rs i rs.length)) (progE rs.length (evU rs i rs.length)) k.toNat
def keyOf (rs : List (List Sc)) (ks : List Int) (i : Nat) : List Int := sumT rs i :: ks.map (kval rs i)
theorem keyOf_len (rs : List (List Sc)) (ks : List Int) (i : Nat) : (keyOf rs ks i).length = 1 + ks.length := by simp [keyOf]; omega
def iota (n : Nat) : List Int := (List.range n).map fun x : Nat => (x : Int)
theorem iota_len (n : Nat) : (iota n).length = n := by simp [iota]
theorem iota_nodup (n : Nat) : (iota n).Nodup := by
  refine List.pairwise_iff_getElem.2 fun i j hi hj hij => ?_
  simp [iota]; omega
theorem iota_mem {n : Nat} {x : Int} (h : x ∈ iota n) : 0 ≤ x ∧ x < n := by
  unfold iota at h
  obtain ⟨y, hy, rfl⟩ := List.mem_map.1 h
  have := List.mem_range.1 hy
  omega
theorem iota_next (i : Nat) : iota i ++ [(i : Int)] = iota (i + 1) := by unfold iota; rw [List.range_succ]; simp
def plOf (key : Nat → List Int) (ord : List Int) : Nat → Int
  | 0 => 1
  | a + 1 => if key (ord.getD (a + 1) 0).toNat = key (ord.getD a 0).toNat then plOf key ord a else a + 2
theorem plOf_pos (key : Nat → List Int) (ord : List Int) {a : Nat} (h : 0 < a) : plOf key ord a = if key (ord.getD a 0).toNat = key (ord.getD (a - 1) 0).toNat then plOf key ord (a - 1) else a + 1 := by
  obtain ⟨b, rfl⟩ : ∃ b, a = b + 1 := ⟨a - 1, by omega⟩
  show (if _ then _ else _) = _
  rw [Nat.add_sub_cancel]
  split
  · rfl
  · show (b : Int) + 2 = ((b + 1 : Nat) : Int) + 1
    omega
theorem place_set {ord pls : List Int} {i a x : Nat} {f : Nat → Int} (hol : ord.length = i) (hpl : pls.length = i) (hon : ord.Nodup) (hbd : ∀ a, a < i → 0 ≤ ord.getD a 0 ∧ ord.getD a 0 < i) (hx : ord.getD a 0 = x) (ha : a < i) (hpa : ∀ b, b < a → pls.getD (ord.getD b 0).toNat 0 = f b) {v : Int} (hv : v = f a) :
    ∀ b, b < a + 1 → (pls.set x v).getD (ord.getD b 0).toNat 0 = f b := by
  intro b hb
  have hxi := hbd a ha
  rw [getD_set _ _ _ (by omega)]
  by_cases e : b = a
  · subst e
    rw [hx, Int.toNat_natCast, if_pos rfl, hv]
  · have hne := getD_ne hon (p := b) (q := a) (by omega) (by omega) e
    have hbb := hbd b (by omega)
    rw [if_neg (by omega)]
    exact hpa b (by omega)
theorem place_eq {ord pls : List Int} {i a x y : Nat} {key : Nat → List Int} (hol : ord.length = i) (hpl : pls.length = i) (hon : ord.Nodup) (hbd : ∀ a, a < i → 0 ≤ ord.getD a 0 ∧ ord.getD a 0 < i) (hx : ord.getD a 0 = x) (hy : ord.getD (a - 1) 0 = y) (ha : a < i) (ha0 : 0 < a) (hxy : x ≠ y) (hpa : ∀ b, b < a → pls.getD (ord.getD b 0).toNat 0 = plOf key ord b) (hk : key x = key y) (w : Int) :
    ∀ b, b < a + 1 → ((pls.set x w).set x ((pls.set x w).getD y 0)).getD (ord.getD b 0).toNat 0 = plOf key ord b := by
  rw [List.set_set]
  have hxi := hbd a ha
  refine place_set hol hpl hon hbd hx ha hpa ?_
  rw [getD_set _ _ _ (by omega), if_neg (fun e => hxy e.symm), plOf_pos _ _ ha0, hx, hy, Int.toNat_natCast, Int.toNat_natCast, if_pos hk]
  have := hpa (a - 1) (by omega)
  rwa [hy, Int.toNat_natCast] at this
theorem place_ne {ord pls : List Int} {i a x y : Nat} {key : Nat → List Int} (hol : ord.length = i) (hpl : pls.length = i) (hon : ord.Nodup) (hbd : ∀ a, a < i → 0 ≤ ord.getD a 0 ∧ ord.getD a 0 < i) (hx : ord.getD a 0 = x) (hy : ord.getD (a - 1) 0 = y) (ha : a < i) (ha0 : 0 < a) (hpa : ∀ b, b < a → pls.getD (ord.getD b 0).toNat 0 = plOf key ord b) (hk : key x ≠ key y) :
    ∀ b, b < a + 1 → (pls.set x ((a : Int) + 1)).getD (ord.getD b 0).toNat 0 = plOf key ord b := by
  refine place_set hol hpl hon hbd hx ha hpa ?_
  rw [plOf_pos _ _ ha0, hx, hy, Int.toNat_natCast, Int.toNat_natCast, if_neg hk]
theorem place_0 {ord pls : List Int} {i x : Nat} {key : Nat → List Int} (hol : ord.length = i) (hpl : pls.length = i) (hon : ord.Nodup) (hbd : ∀ a, a < i → 0 ≤ ord.getD a 0 ∧ ord.getD a 0 < i) (hx : ord.getD 0 0 = x) (ha : 0 < i) :
    ∀ b, b < 0 + 1 → (pls.set x (((0 : Nat) : Int) + 1)).getD (ord.getD b 0).toNat 0 = plOf key ord b :=
  place_set hol hpl hon hbd hx ha (fun b hb => absurd hb (Nat.not_lt_zero _)) rfl
end Go.Proofs.YtnhnlkljcfbhfaaGreatDoor.Tb
