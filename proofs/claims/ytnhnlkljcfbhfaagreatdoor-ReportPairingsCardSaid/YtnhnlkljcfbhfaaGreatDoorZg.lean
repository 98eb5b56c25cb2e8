/- ParsePairing, walked. -/
import Derived.Test.YtnhnlkljcfbhfaaGreatDoorZf
import Derived.Test.YtnhnlkljcfbhfaaGreatDoorZd
import Derived.Lib.SplitLaws
namespace Go.Proofs.YtnhnlkljcfbhfaaGreatDoor
open Go Go.Ab
set_option maxRecDepth 100000
theorem bd20 : (Tryz.prog.funcs[20]?).map (·.body.isNone) = some false := by rw [Tryz.func20]; rfl
theorem bd48 : (Tryz.prog.funcs[48]?).map (·.body.isNone) = some false := by rw [Tryz.func48]; rfl
theorem b55 (a b n m : Nat) : effBuild Tryz.prog 55 [(0, .sl a 0 n none), (1, .sl b 0 m none)] = some (mkAgg [.sl a 0 n none, .sl b 0 m none]) := by kernel_rfl
theorem b55z : effBuild Tryz.prog 55 [] = some (.s (.agg #[.slice none 0 0, .slice none 0 0])) := by kernel_rfl
def zr2 : List AV := [.s (.slice none 0 0), .s (.slice none 0 0)]
def R21 (xs ys : List ByteArray) (v : AV) (Hn : List (Nat × AObj)) : Prop := (v = .s (.tuple #[.agg #[.slice none 0 0, .slice none 0 0], .int .i64 6]) ∧ Hn = []) ∨
  ∃ (rid wid : Nat) (op : List Int) (wh : List Bool), v = .tup [mkAgg [.sl rid 0 xs.length none, .sl wid 0 xs.length none], .s (.int .i64 0)] ∧ Hn = [(rid, .cells 3 1 true (op.map fun x => [AV.s (.int .i64 x)])), (wid, .cells 4 1 true (wh.map fun x => [AV.s (.bool x)]))] ∧ op.length = xs.length ∧ wh.length = xs.length ∧ Right xs op wh ∧ linesP xs op wh = ys
theorem ints_set (xs : List Int) (k : Nat) (v : Int) : (xs.map fun x => [AV.s (.int .i64 x)]).set k [.s (.int .i64 v)] = (xs.set k v).map fun x => [AV.s (.int .i64 x)] := by rw [List.map_set]
theorem bools_set (xs : List Bool) (k : Nat) (v : Bool) : (xs.map fun x => [AV.s (.bool x)]).set k [.s (.bool v)] = (xs.set k v).map fun x => [AV.s (.bool x)] := by rw [List.map_set]
theorem fill_n (n : Nat) : fillR n n = (List.replicate n (-2 : Int)).map fun x => [AV.s (.int .i64 x)] := by
  unfold fillR
  rw [Nat.sub_self, List.replicate_zero, List.append_nil, List.map_replicate]
theorem bools_n (n : Nat) : List.replicate (n : Int).toNat [AV.s (.bool false)] = (List.replicate n false).map fun x => [AV.s (.bool x)] := by
  rw [List.map_replicate, Int.toNat_natCast]
attribute [local irreducible] SC SL wpc wpl wpd wpf wpy wpn FnC FnW RdW SD SI SJ
set_option pp.deepTerms false
set_option pp.maxSteps 900
set_option maxHeartbeats 4000000
theorem parsep_np {G : Gl} {na la : AV} (ho : ∀ x y, G.orc 21 [x, y] = none) (h47 : FnC Tryz.prog G 47 [na] [] (fun v Hn => v = .s (.bool false) ∧ Hn = [])) :
    FnC Tryz.prog G 21 [na, la] [] (fun v Hn => v = .s (.tuple #[.agg #[.slice none 0 0, .slice none 0 0], .int .i64 2]) ∧ Hn = []) := by
  refine Fn_body (N := 96) (ho _ _) Tryz.func21 rfl rfl fun B => ?_
  repeat' (first
    | (refine SL_store_n (by rfl) (by rfl) (by repeat (first | exact .head _ | refine .tail _ ?_)) (by first | exact ints_at hgp | exact ints_at hgq | exact ints_at hgq2 | exact bools_at hgw | rfl) (by rfl) (by first | exact ints_set _ _ _ | exact bools_set _ _ _ | rfl) (by repeat (first | exact .head | apply Upd.tail)) (by first | exact .inl (by assumption) | exact .inl (by omega) | exact .inr (by simp)) (szF (by rfl)) (Nat.le_of_ble_eq_true (by rfl)) (by rfl) ?_)
    | (refine SL_build (by decide) (by rfl) b55z ?_)
    | (refine SL_alloc (d := 4) (by decide) (zeroF (by rfl)) (fun b4 hb4 => ?_))
    | (refine SL_call (by decide) (by rfl) bd47 (by rfl) (by rfl) (h47) trivial List.nodup_nil ?_; rintro _ _ _ ⟨rfl, rfl⟩; rw [List.nil_append])
    | refine SC_seq ?_
    | refine SC_region ?_
    | refine SL_seq ?_
    | refine SL_move (by decide) (by rfl) ?_
    | refine SL_assign (by decide) (by rfl) ?_
    | refine SL_not_op (by decide) (by rfl) ?_
    | refine SC_cond_t (by rfl) ?_
    | fail)
  refine SC_ret (fun tm σ hE hH => Post.introC (Hn := []) (.inr rfl) hE hH rfl (by rfl) (by rfl) (by repeat (first | exact .head _ | refine .tail _ ?_)) (rowF (by rfl)) (by rfl) (Nat.le_of_ble_eq_true (by rfl)) (mk2 _ _) trivial List.nodup_nil (fun p hp => (by cases hp)) ?_)
  exact ⟨rfl, rfl⟩
theorem parsep_fn {G : Gl} {xs ys : List ByteArray} {na la : AV} (hsl : SlV 1 na (xs.map fun x => [.s (.string x)])) (hsl2 : SlV 1 la (ys.map fun x => [.s (.string x)])) (h2 : 2 ≤ xs.length) (h12 : xs.length ≤ 12) (hb : ys.length ≤ 100) (hys : ∀ y ∈ ys, y.size ≤ 100) (ho : ∀ x y, G.orc 21 [x, y] = none) (h47 : FnC Tryz.prog G 47 [na] [] (fun v Hn => v = .s (.bool true) ∧ Hn = []))
    (h48 : ∀ xid : Nat, FnC Tryz.prog G 48 [.sl xid 0 1 none, .s (.int .i64 xs.length)] [(xid, .cells 3 1 true [[.s (.int .i64 (-2))]])] (fun v Hn => ∃ id, v = .sl id 0 xs.length none ∧ Hn = [(id, .cells 3 1 true (fillR xs.length xs.length))]))
    (cA cB : ByteArray → ByteArray) (cC : ByteArray → Bool) (h43 : ∀ s : ByteArray, s.size ≤ 100 → FnC Tryz.prog G 43 [.s (.string s), .s (.string ⟨#[32, 45, 32]⟩)] [] (fun v Hn => v = .s (.tuple #[.string (cA s), .string (cB s), .bool (cC s)]) ∧ Hn = []))
    (h20 : ∀ (rid wid : Nat) (op : List Int) (wh : List Bool), wid ≠ rid → op.length = xs.length → wh.length = xs.length → FnC Tryz.prog G 20 [na, mkAgg [.sl rid 0 xs.length none, .sl wid 0 xs.length none]] [(wid, .cells 4 1 true (wh.map fun x => [AV.s (.bool x)])), (rid, .cells 3 1 true (op.map fun x => [AV.s (.int .i64 x)]))] (R20 xs op wh))
    (h50 : ∀ (id : Nat) (ls : List ByteArray), ls.length ≤ 1000 → FnC Tryz.prog G 50 [.sl id 0 ls.length none, la] [(id, .cells 9 1 false (strs ls))] (fun v Hn => ((v = .s (.bool true) ∧ ls = ys) ∨ (v = .s (.bool false) ∧ ls ≠ ys)) ∧ Hn = []))
    (h49 : ∀ w : ByteArray, FnC Tryz.prog G 49 [na, .s (.string w)] [] (fun v Hn => v = .s (.int .i64 (idxS xs w)) ∧ Hn = [])) :
    FnC Tryz.prog G 21 [na, la] [] (R21 xs ys) := by
  refine Fn_body (N := 96) (ho _ _) Tryz.func21 rfl rfl fun B => ?_
  repeat' (first
    | (refine SL_store_n (by rfl) (by rfl) (by repeat (first | exact .head _ | refine .tail _ ?_)) (by first | exact ints_at hgp | exact ints_at hgq | exact ints_at hgq2 | exact bools_at hgw | rfl) (by rfl) (by first | exact ints_set _ _ _ | exact bools_set _ _ _ | rfl) (by repeat (first | exact .head | apply Upd.tail)) (by first | exact .inl (by assumption) | exact .inl (by omega) | exact .inr (by simp)) (szF (by rfl)) (Nat.le_of_ble_eq_true (by rfl)) (by rfl) ?_)
    | (refine SL_call (by decide) (by rfl) bd48 (by rfl) (by rfl) (h48 _) ⟨(by repeat (first | exact .head _ | refine .tail _ ?_)), trivial⟩ (by simp) ?_; rintro _ _ hrn ⟨rid, rfl, rfl⟩; have hrid : B2.next ≤ rid := hrn (rid, _) (.head _); rw [List.singleton_append])
    | (refine SL_build (by decide) (by rfl) (b55 _ _ _ _) ?_)
    | (refine SL_alloc (d := 4) (by decide) (zeroF (by rfl)) (fun b4 hb4 => ?_))
    | refine SL_len_v (by decide) (by rfl) hsl2 (by rfl) (slF (by rfl)) (strs_len0 _) ?_
    | refine SL_len_v (by decide) (by rfl) hsl (by rfl) (slF (by rfl)) (strs_len0 _) ?_
    | (refine SC_drawP (id := 3) [(1, []), (2, []), (4, []), (5, []), (0, []), (3, []), (6, []), (7, []), (8, []), (9, [])] (by kernel_rfl) (fun B2 base hBB hold hbB => ?_))
    | (refine SJ_buildSlice (by rfl) (by decide) (by rfl) (by rfl) (by rfl) (elF (by rfl)) (by decide) (by rfl) (fun xid hxid => ?_))
    | (refine SJ_makeSlice (by rfl) (by decide) (by rfl) (by rfl) (by rfl) (by rfl) (elF (by rfl)) (by omega) (by omega) (by omega) (by omega) (fun wid hwid => ?_))
    | (refine SJ_alloc (by rfl) (by decide) (by rfl) (by rfl) (zeroF (by rfl)) (fun b6 hb6 => ?_))
    | (refine SJ_turn (i := 9) [] (fun j hj => by cases hj) (fun j hj => by cases hj) hbB (by rfl) (by rfl) (by rfl) (fun k hk => by cases hk) ?_)
    | (refine SJ_op (by rfl) (by rfl) (by rfl) ?_)
    | (refine SJ_nil (fun tm σ hE hH => ?_); refine SC.app ?_ hE hH; clear hE hH; clear tm σ)
    | (refine SL_nil (fun tm σ hE hH => ⟨tm, σ, _, _, rfl, hE, hH, ?_⟩); clear hE hH; clear tm σ)
    | (refine SL_call (by decide) (by rfl) bd47 (by rfl) (by rfl) (h47) trivial List.nodup_nil ?_; rintro _ _ _ ⟨rfl, rfl⟩; rw [List.nil_append])
    | refine SC_seq ?_
    | refine SC_block ?_
    | refine SC_region ?_
    | refine SL_seq ?_
    | refine SL_move (by decide) (by rfl) ?_
    | refine SL_assign (by decide) (by rfl) ?_
    | refine SL_not_op (by decide) (by rfl) ?_
    | refine SC_cond_f (by rfl) ?_
    | (refine SC_skip' (fun tm σ hE hH => ?_); refine SC.app ?_ hE hH; clear hE hH; clear tm σ)
    | fail)
  rw [fill_n, bools_n]
  refine SC_nd fun hnd => ?_
  refine SC_loop (fun a : Nat × List Int × List Bool => [(0, na), (1, la), (4, .ptr b4 0 0), (5, .s (.int .i64 0)), (6, .ptr b6 0 0), (28, la), (29, .s (.int .i64 ys.length)), (30, .s (.int .i64 a.1))]) (fun a => [(b6, AObj.cells 55 2 true [[.sl rid 0 xs.length none, .sl wid 0 xs.length none]]), (wid, AObj.cells 4 1 true (a.2.2.map fun x => [AV.s (.bool x)])), (rid, AObj.cells 3 1 true (a.2.1.map fun x => [AV.s (.int .i64 x)])), (b4, AObj.cells 55 2 true [zr2])]) (fun _ => []) (fun a => a.1 ≤ ys.length ∧ a.2.1.length = xs.length ∧ a.2.2.length = xs.length) (fun a => ys.length - a.1) (0, List.replicate xs.length (-2), List.replicate xs.length false) ⟨by omega, by simp, by simp⟩ ⟨rfl, rfl, rfl, rfl, rfl, rfl, rfl, rfl, trivial⟩ ⟨.head _, .tail _ (.head _), .tail _ (.tail _ (.head _)), .tail _ (.tail _ (.tail _ (.tail _ (.head _)))), trivial⟩ (List.Nodup.sublist (.map _ (.cons_cons _ (.cons_cons _ (.cons_cons _ (.cons _ (.cons_cons _ .slnil)))))) hnd) rfl ?_
  have hb6r : b6 ≠ rid := by
    intro e
    subst e
    simp at hnd
  have hwr : wid ≠ rid := by
    intro e
    subst e
    simp at hnd
  unfold R20 at h20
  rintro ⟨k, op, wh⟩ ⟨hk, hlo, hlw⟩
  dsimp only at hk hlo hlw ⊢
  by_cases hlt : k < ys.length
  · have h49a := h49 (cA ys[k])
    have h49b := h49 (cB ys[k])
    have hba := idxS_lt xs (cA ys[k])
    have hbb := idxS_lt xs (cB ys[k])
    by_cases hi : 0 ≤ idxS xs (cA ys[k])
    · obtain ⟨p, hp⟩ : ∃ p : Nat, idxS xs (cA ys[k]) = p := ⟨(idxS xs (cA ys[k])).toNat, by omega⟩
      rw [hp] at h49a
      have hpx : p < xs.length := by omega
      obtain ⟨v0, hgp⟩ : ∃ v, op[p]? = some v := ⟨op[p], List.getElem?_eq_getElem (by omega)⟩
      by_cases hq : 0 ≤ idxS xs (cB ys[k])
      · obtain ⟨q, hqe⟩ : ∃ q : Nat, idxS xs (cB ys[k]) = q := ⟨(idxS xs (cB ys[k])).toNat, by omega⟩
        rw [hqe] at h49b
        have hqx : q < xs.length := by omega
        obtain ⟨v1, hgq⟩ : ∃ v, (op.set p (q : Int))[q]? = some v := ⟨(op.set p (q : Int))[q]'(by rw [List.length_set]; omega), List.getElem?_eq_getElem _⟩
        obtain ⟨w0, hgw⟩ : ∃ v, wh[p]? = some v := ⟨wh[p], List.getElem?_eq_getElem (by omega)⟩
        repeat' (first
          | (refine SL_store_n (by rfl) (by rfl) (by repeat (first | exact .head _ | refine .tail _ ?_)) (by first | exact ints_at hgp | exact ints_at hgq | exact ints_at hgq2 | exact bools_at hgw | rfl) (by rfl) (by first | exact ints_set _ _ _ | exact bools_set _ _ _ | rfl) (by repeat (first | exact .head | apply Upd.tail)) (by first | exact .inl (by assumption) | exact .inl (by omega) | exact .inr (by simp)) (szF (by rfl)) (Nat.le_of_ble_eq_true (by rfl)) (by rfl) ?_)
          | (refine SL_call (by decide) (by rfl) bd43 (by rfl) (by rfl) (h43 _ (hys _ (List.getElem_mem hlt))) trivial List.nodup_nil ?_; rintro _ _ _ ⟨rfl, rfl⟩; rw [List.nil_append])
          | (refine SC_drawP (id := 9) [(0, []), (1, []), (2, []), (3, []), (4, []), (5, []), (6, []), (7, []), (8, []), (9, []), (10, []), (11, []), (12, [7, 4]), (13, []), (14, [7]), (15, []), (16, [])] (by kernel_rfl) (fun B2 base hBB2 hold2 hbB => ?_); have hb6b : b6 < base := hold2 (b6, _) (.head _); have hwidb : wid < base := hold2 (wid, _) (.tail _ (.head _)); have hridb : rid < base := hold2 (rid, _) (.tail _ (.tail _ (.head _))))
          | (refine SJ_turn (i := 16) [wid] (fun j hj => by cases List.mem_singleton.1 hj; exact .inl (by omega)) (fun j hj => by cases List.mem_singleton.1 hj; exact hwidb) hbB (by rfl) (by rfl) (by rfl) (fun k hk => by cases hk) ?_)
          | (refine SJ_turn (i := 14) [rid] (fun j hj => by cases List.mem_singleton.1 hj; exact .inl (by omega)) (fun j hj => by cases List.mem_singleton.1 hj; exact hridb) hbB (by rfl) (by rfl) (by rfl) (fun k hk => by simp at hk; subst hk; exact ⟨b6, by simp, by simpa using hb6r, hb6b⟩) ?_)
          | (refine SJ_turn (i := 12) [rid] (fun j hj => by cases List.mem_singleton.1 hj; exact .inl (by omega)) (fun j hj => by cases List.mem_singleton.1 hj; exact hridb) hbB (by rfl) (by rfl) (by rfl) (fun k hk => by simp at hk; rcases hk with rfl | rfl <;> exact ⟨b6, by simp, by simpa using hb6r, hb6b⟩) ?_)
          | (refine SJ_look (i := 7) b6 (by rfl) (by rfl) (by rfl) (by rfl) (by simp) hb6b hbB (by rfl) (by rfl) ?_)
          | (refine SJ_look (i := 4) b6 (by rfl) (by rfl) (by rfl) (by rfl) (by simp) hb6b hbB (by rfl) (by rfl) ?_)
          | (refine SJ_turn (i := 9) [] (fun j hj => by cases hj) (fun j hj => by cases hj) hbB (by rfl) (by rfl) (by rfl) (fun k hk => by cases hk) ?_)
          | (refine SJ_op (by rfl) (by rfl) (by rfl) ?_)
          | (refine SJ_nil (fun tm σ hE hH => ?_); refine SC.app ?_ hE hH; clear hE hH; clear tm σ)
          | (refine SL_nil (fun tm σ hE hH => ⟨tm, σ, _, _, rfl, hE, hH, ?_⟩); clear hE hH; clear tm σ)
          | (refine SL_call (by decide) (by rfl) bd49 (by rfl) (by rfl) (h49b) trivial List.nodup_nil ?_; rintro _ _ _ ⟨rfl, rfl⟩; rw [List.nil_append])
          | (refine SL_call (by decide) (by rfl) bd49 (by rfl) (by rfl) (h49a) trivial List.nodup_nil ?_; rintro _ _ _ ⟨rfl, rfl⟩; rw [List.nil_append])
          | refine SC_seq ?_
          | refine SC_block ?_
          | refine SC_region ?_
          | refine SL_seq ?_
          | refine SL_run (by rfl) (by rfl) ?_
          | refine SL_not (by rfl) (by rfl) (by rfl) (by decide) ?_
          | refine SL_move (by decide) (by rfl) ?_
          | refine SL_assign (by decide) (by rfl) ?_
          | refine SL_pick_f (by decide) (by rfl) (by rfl) ?_
          | refine SL_add (by decide) (by rfl) (by rfl) (by omega) (by omega) ?_
          | (refine SL_lss (by decide) (by rfl) (by rfl) (fun hT => ?_) (fun hT => ?_) <;> first | (exfalso; omega) | skip)
          | refine SL_extract_s (by decide) (by rfl) (by rfl) ?_
          | refine SL_fieldAddr (by decide) (by rfl) (fldF (by rfl)) ?_
          | refine SL_indexAddr_v (by decide) (by rfl) (by rfl) (by assumption) (slF (by rfl)) _ (by first | rfl | exact (Int.toNat_of_nonneg (by omega)).symm) (by simp only [List.length_map]; omega) (fun ad => ?_)
          | refine SL_indexAddr_0 (by decide) (by rfl) (by rfl) (by repeat (first | exact .head _ | refine .tail _ ?_)) (slF (by rfl)) _ (by first | rfl | exact (Int.toNat_of_nonneg (by omega)).symm) (by omega) ?_
          | refine SL_load_r (by decide) (by rfl) (rowF (by rfl)) (by first | assumption | rfl | exact strs_get _ hlt | exact ints_at hgp | exact ints_at hgq | exact bools_at hgw) (by rfl) ?_
          | refine SL_load_o (by decide) (by rfl) (by repeat (first | exact .head _ | refine .tail _ ?_)) (rowF (by rfl)) (by first | assumption | rfl | exact strs_get _ hlt | exact ints_at hgp | exact ints_at hgq | exact bools_at hgw) (by rfl) ?_
          | refine SC_cond_t (by rfl) ?_
          | refine SC_cond_f (by rfl) ?_
          | (refine SC_skip' (fun tm σ hE hH => ?_); refine SC.app ?_ hE hH; clear hE hH; clear tm σ)
          | fail)
        refine SL_nil fun tm σ hE hH => ⟨(k + 1, (op.set p (q : Int)).set q (p : Int), wh.set p true), by dsimp only; omega, ⟨by dsimp only; omega, by simp [hlo], by simp [hlw]⟩, tm, σ, rfl, hE.sub ⟨rfl, rfl, rfl, rfl, rfl, rfl, rfl, rfl, trivial⟩, hH⟩
      · by_cases hbye : cB ys[k] = ⟨#[98, 121, 101]⟩
        ·
          repeat' (first
            | (refine SL_store_n (by rfl) (by rfl) (by repeat (first | exact .head _ | refine .tail _ ?_)) (by first | exact ints_at hgp | exact ints_at hgq | exact ints_at hgq2 | exact bools_at hgw | rfl) (by rfl) (by first | exact ints_set _ _ _ | exact bools_set _ _ _ | rfl) (by repeat (first | exact .head | apply Upd.tail)) (by first | exact .inl (by assumption) | exact .inl (by omega) | exact .inr (by simp)) (szF (by rfl)) (Nat.le_of_ble_eq_true (by rfl)) (by rfl) ?_)
            | (refine SL_sneq (by decide) (by rfl) (by rfl) (fun hS => ?_) (fun hS => ?_) <;> first | (exact absurd (by assumption) hS) | (exact absurd hS (by assumption)) | skip)
            | (refine SL_call (by decide) (by rfl) bd43 (by rfl) (by rfl) (h43 _ (hys _ (List.getElem_mem hlt))) trivial List.nodup_nil ?_; rintro _ _ _ ⟨rfl, rfl⟩; rw [List.nil_append])
            | (refine SL_call (by decide) (by rfl) bd49 (by rfl) (by rfl) (h49b) trivial List.nodup_nil ?_; rintro _ _ _ ⟨rfl, rfl⟩; rw [List.nil_append])
            | (refine SL_call (by decide) (by rfl) bd49 (by rfl) (by rfl) (h49a) trivial List.nodup_nil ?_; rintro _ _ _ ⟨rfl, rfl⟩; rw [List.nil_append])
            | refine SC_seq ?_
            | refine SC_block ?_
            | refine SC_region ?_
            | refine SL_seq ?_
            | (refine SL_nil (fun tm σ hE hH => ?_); refine SC.app ?_ hE hH; clear hE hH; clear tm σ)
            | refine SL_run (by rfl) (by rfl) ?_
            | refine SL_move (by decide) (by rfl) ?_
            | refine SL_assign (by decide) (by rfl) ?_
            | refine SL_pick_t (by decide) (by rfl) (by rfl) ?_
            | refine SL_pick_f (by decide) (by rfl) (by rfl) ?_
            | refine SL_add (by decide) (by rfl) (by rfl) (by omega) (by omega) ?_
            | (refine SL_lss (by decide) (by rfl) (by rfl) (fun hT => ?_) (fun hT => ?_) <;> first | (exfalso; omega) | skip)
            | refine SL_extract_s (by decide) (by rfl) (by rfl) ?_
            | refine SL_fieldAddr (by decide) (by rfl) (fldF (by rfl)) ?_
            | refine SL_indexAddr_v (by decide) (by rfl) (by rfl) (by assumption) (slF (by rfl)) _ (by first | rfl | exact (Int.toNat_of_nonneg (by omega)).symm) (by simp only [List.length_map]; omega) (fun ad => ?_)
            | refine SL_indexAddr_0 (by decide) (by rfl) (by rfl) (by repeat (first | exact .head _ | refine .tail _ ?_)) (slF (by rfl)) _ (by first | rfl | exact (Int.toNat_of_nonneg (by omega)).symm) (by omega) ?_
            | refine SL_load_r (by decide) (by rfl) (rowF (by rfl)) (by first | assumption | rfl | exact strs_get _ hlt | exact ints_at hgp | exact ints_at hgq | exact bools_at hgw) (by rfl) ?_
            | refine SL_load_o (by decide) (by rfl) (by repeat (first | exact .head _ | refine .tail _ ?_)) (rowF (by rfl)) (by first | assumption | rfl | exact strs_get _ hlt | exact ints_at hgp | exact ints_at hgq | exact bools_at hgw) (by rfl) ?_
            | refine SC_cond_t (by rfl) ?_
            | refine SC_cond_f (by rfl) ?_
            | (refine SC_skip' (fun tm σ hE hH => ?_); refine SC.app ?_ hE hH; clear hE hH; clear tm σ)
            | fail)
          refine SL_nil fun tm σ hE hH => ⟨(k + 1, op.set p (-1), wh), by dsimp only; omega, ⟨by dsimp only; omega, by simp [hlo], hlw⟩, tm, σ, rfl, hE.sub ⟨rfl, rfl, rfl, rfl, rfl, rfl, rfl, rfl, trivial⟩, hH⟩
        ·
          repeat' (first
            | (refine SL_store_n (by rfl) (by rfl) (by repeat (first | exact .head _ | refine .tail _ ?_)) (by first | exact ints_at hgp | exact ints_at hgq | exact ints_at hgq2 | exact bools_at hgw | rfl) (by rfl) (by first | exact ints_set _ _ _ | exact bools_set _ _ _ | rfl) (by repeat (first | exact .head | apply Upd.tail)) (by first | exact .inl (by assumption) | exact .inl (by omega) | exact .inr (by simp)) (szF (by rfl)) (Nat.le_of_ble_eq_true (by rfl)) (by rfl) ?_)
            | (refine SL_sneq (by decide) (by rfl) (by rfl) (fun hS => ?_) (fun hS => ?_) <;> first | (exact absurd (by assumption) hS) | (exact absurd hS (by assumption)) | skip)
            | (refine SL_call (by decide) (by rfl) bd43 (by rfl) (by rfl) (h43 _ (hys _ (List.getElem_mem hlt))) trivial List.nodup_nil ?_; rintro _ _ _ ⟨rfl, rfl⟩; rw [List.nil_append])
            | (refine SL_build (by decide) (by rfl) b55z ?_)
            | (refine SL_call (by decide) (by rfl) bd49 (by rfl) (by rfl) (h49b) trivial List.nodup_nil ?_; rintro _ _ _ ⟨rfl, rfl⟩; rw [List.nil_append])
            | (refine SL_call (by decide) (by rfl) bd49 (by rfl) (by rfl) (h49a) trivial List.nodup_nil ?_; rintro _ _ _ ⟨rfl, rfl⟩; rw [List.nil_append])
            | refine SC_seq ?_
            | refine SC_block ?_
            | refine SC_region ?_
            | refine SL_seq ?_
            | refine SL_run (by rfl) (by rfl) ?_
            | refine SL_move (by decide) (by rfl) ?_
            | refine SL_assign (by decide) (by rfl) ?_
            | refine SL_pick_t (by decide) (by rfl) (by rfl) ?_
            | refine SL_pick_f (by decide) (by rfl) (by rfl) ?_
            | (refine SL_lss (by decide) (by rfl) (by rfl) (fun hT => ?_) (fun hT => ?_) <;> first | (exfalso; omega) | skip)
            | refine SL_extract_s (by decide) (by rfl) (by rfl) ?_
            | refine SL_indexAddr_v (by decide) (by rfl) (by rfl) (by assumption) (slF (by rfl)) _ (by first | rfl | exact (Int.toNat_of_nonneg (by omega)).symm) (by simp only [List.length_map]; omega) (fun ad => ?_)
            | refine SL_load_r (by decide) (by rfl) (rowF (by rfl)) (by first | assumption | rfl | exact strs_get _ hlt | exact ints_at hgp | exact ints_at hgq | exact bools_at hgw) (by rfl) ?_
            | refine SC_cond_t (by rfl) ?_
            | (refine SC_skip' (fun tm σ hE hH => ?_); refine SC.app ?_ hE hH; clear hE hH; clear tm σ)
            | fail)
          refine SC_ret (fun tm σ hE hH => Post.introC (Hn := []) (.inr rfl) hE hH rfl (by rfl) (by rfl) (by repeat (first | exact .head _ | refine .tail _ ?_)) (rowF (by rfl)) (by rfl) (Nat.le_of_ble_eq_true (by rfl)) (mk2 _ _) trivial List.nodup_nil (fun p hp => (by cases hp)) ?_)
          exact .inl ⟨rfl, rfl⟩
    ·
      repeat' (first
        | (refine SL_store_n (by rfl) (by rfl) (by repeat (first | exact .head _ | refine .tail _ ?_)) (by first | exact ints_at hgp | exact ints_at hgq | exact ints_at hgq2 | exact bools_at hgw | rfl) (by rfl) (by first | exact ints_set _ _ _ | exact bools_set _ _ _ | rfl) (by repeat (first | exact .head | apply Upd.tail)) (by first | exact .inl (by assumption) | exact .inl (by omega) | exact .inr (by simp)) (szF (by rfl)) (Nat.le_of_ble_eq_true (by rfl)) (by rfl) ?_)
        | (refine SL_call (by decide) (by rfl) bd43 (by rfl) (by rfl) (h43 _ (hys _ (List.getElem_mem hlt))) trivial List.nodup_nil ?_; rintro _ _ _ ⟨rfl, rfl⟩; rw [List.nil_append])
        | (refine SL_build (by decide) (by rfl) b55z ?_)
        | (refine SL_call (by decide) (by rfl) bd49 (by rfl) (by rfl) (h49b) trivial List.nodup_nil ?_; rintro _ _ _ ⟨rfl, rfl⟩; rw [List.nil_append])
        | (refine SL_call (by decide) (by rfl) bd49 (by rfl) (by rfl) (h49a) trivial List.nodup_nil ?_; rintro _ _ _ ⟨rfl, rfl⟩; rw [List.nil_append])
        | refine SC_seq ?_
        | refine SC_block ?_
        | refine SC_region ?_
        | refine SL_seq ?_
        | refine SL_not (by rfl) (by rfl) (by rfl) (by decide) ?_
        | refine SL_notu (by rfl) (by rfl) (by decide) ?_
        | refine SL_move (by decide) (by rfl) ?_
        | refine SL_assign (by decide) (by rfl) ?_
        | refine SL_pick_t (by decide) (by rfl) (by rfl) ?_
        | (refine SL_lss (by decide) (by rfl) (by rfl) (fun hT => ?_) (fun hT => ?_) <;> first | (exfalso; omega) | skip)
        | refine SL_extract_s (by decide) (by rfl) (by rfl) ?_
        | refine SL_indexAddr_v (by decide) (by rfl) (by rfl) (by assumption) (slF (by rfl)) _ (by first | rfl | exact (Int.toNat_of_nonneg (by omega)).symm) (by simp only [List.length_map]; omega) (fun ad => ?_)
        | refine SL_load_r (by decide) (by rfl) (rowF (by rfl)) (by first | assumption | rfl | exact strs_get _ hlt | exact ints_at hgp | exact ints_at hgq | exact bools_at hgw) (by rfl) ?_
        | refine SC_cond_t (by rfl) ?_
        | (refine SC_skip' (fun tm σ hE hH => ?_); refine SC.app ?_ hE hH; clear hE hH; clear tm σ)
        | fail)
      refine SC_ret (fun tm σ hE hH => Post.introC (Hn := []) (.inr rfl) hE hH rfl (by rfl) (by rfl) (by repeat (first | exact .head _ | refine .tail _ ?_)) (rowF (by rfl)) (by rfl) (Nat.le_of_ble_eq_true (by rfl)) (mk2 _ _) trivial List.nodup_nil (fun p hp => (by cases hp)) ?_)
      exact .inl ⟨rfl, rfl⟩
  · obtain rfl : k = ys.length := by omega
    repeat' (first
      | (refine SL_store_n (by rfl) (by rfl) (by repeat (first | exact .head _ | refine .tail _ ?_)) (by first | exact ints_at hgp | exact ints_at hgq | exact ints_at hgq2 | exact bools_at hgw | rfl) (by rfl) (by first | exact ints_set _ _ _ | exact bools_set _ _ _ | rfl) (by repeat (first | exact .head | apply Upd.tail)) (by first | exact .inl (by assumption) | exact .inl (by omega) | exact .inr (by simp)) (szF (by rfl)) (Nat.le_of_ble_eq_true (by rfl)) (by rfl) ?_)
      | refine SL_load_or (by decide) (by rfl) (by repeat (first | exact .head _ | refine .tail _ ?_)) (rowF (by rfl)) (by rfl) (Nat.le_of_ble_eq_true (by rfl)) (by first | exact mk2 _ _ | rfl) ?_
      | (refine SL_call (by decide) (by rfl) bd50 (by rfl) (by rfl) (h50 _ _ (Nat.le_trans (linesP_len _ _ _) (by omega))) ⟨.head _, trivial⟩ (by simp) ?_; rintro _ _ _ ⟨hk50, rfl⟩; rw [List.nil_append]; rcases hk50 with ⟨rfl, he50⟩ | ⟨rfl, he50⟩)
      | (refine SL_call (by decide) (by rfl) bd20 (by rfl) (by rfl) (h20 rid wid op wh hwr hlo hlw) ⟨.tail _ (.head _), .tail _ (.tail _ (.head _)), trivial⟩ (by simpa using hwr) ?_; rintro _ _ hn20 hk20; rcases hk20 with ⟨hR, lid, rfl, rfl⟩ | ⟨hR, rfl, rfl⟩ <;> first | rw [List.nil_append] | rw [List.singleton_append])
      | (refine SL_build (by decide) (by rfl) b55z ?_)
      | refine SC_seq ?_
      | refine SC_region ?_
      | refine SL_seq ?_
      | refine SL_run (by rfl) (by rfl) ?_
      | refine SL_not (by rfl) (by rfl) (by rfl) (by decide) ?_
      | refine SL_move (by decide) (by rfl) ?_
      | refine SL_assign (by decide) (by rfl) ?_
      | refine SL_pick_t (by decide) (by rfl) (by rfl) ?_
      | refine SL_pick_f (by decide) (by rfl) (by rfl) ?_
      | refine SL_not_op (by decide) (by rfl) ?_
      | (refine SL_lss (by decide) (by rfl) (by rfl) (fun hT => ?_) (fun hT => ?_) <;> first | (exfalso; omega) | skip)
      | (refine SL_neq (by decide) (by rfl) (by rfl) (fun hT => ?_) (fun hT => ?_) <;> first | (exfalso; omega) | skip)
      | refine SL_extract_tup (by decide) (by rfl) (by rfl) ?_
      | refine SL_extract_s (by decide) (by rfl) (by rfl) ?_
      | refine SC_cond_t (by rfl) ?_
      | refine SC_cond_f (by rfl) ?_
      | (refine SC_exit (fun tm σ hE hH => ?_); refine SC.app ?_ hE hH; clear hE hH; clear tm σ)
      | (refine SC_skip' (fun tm σ hE hH => ?_); refine SC.app ?_ hE hH; clear hE hH; clear tm σ)
      | fail)
    · refine SC_ret (fun tm σ hE hH => Post.introC (Hn := [(rid, _), (wid, _)]) (.inr rfl) hE hH rfl (by rfl) (by rfl) (by repeat (first | exact .head _ | refine .tail _ ?_)) (rowF (by rfl)) (by rfl) (Nat.le_of_ble_eq_true (by rfl)) (by rfl) ⟨(by repeat (first | exact .head _ | refine .tail _ ?_)), (by repeat (first | exact .head _ | refine .tail _ ?_)), trivial⟩ (by simpa using hwr.symm) (fun p hp => ?_) ?_)
      · simp only [List.mem_cons, List.not_mem_nil, or_false] at hp
        rcases hp with rfl | rfl
        · dsimp only; omega
        · dsimp only; omega
      · exact .inr ⟨rid, wid, op, wh, rfl, rfl, hlo, hlw, hR, he50⟩
    · refine SC_ret (fun tm σ hE hH => Post.introC (Hn := []) (.inr rfl) hE hH rfl (by rfl) (by rfl) (by repeat (first | exact .head _ | refine .tail _ ?_)) (rowF (by rfl)) (by rfl) (Nat.le_of_ble_eq_true (by rfl)) (mk2 _ _) trivial List.nodup_nil (fun p hp => (by cases hp)) ?_)
      exact .inl ⟨rfl, rfl⟩
    · refine SC_ret (fun tm σ hE hH => Post.introC (Hn := []) (.inr rfl) hE hH rfl (by rfl) (by rfl) (by repeat (first | exact .head _ | refine .tail _ ?_)) (rowF (by rfl)) (by rfl) (Nat.le_of_ble_eq_true (by rfl)) (mk2 _ _) trivial List.nodup_nil (fun p hp => (by cases hp)) ?_)
      exact .inl ⟨rfl, rfl⟩
end Go.Proofs.YtnhnlkljcfbhfaaGreatDoor
/- The law's own lines of a pairing, walked: over any lists, own ones or such as came in. -/
namespace Go.Proofs.YtnhnlkljcfbhfaaGreatDoor
open Go Go.Ab
set_option maxRecDepth 100000
theorem sz3p : (⟨#[32, 45, 32]⟩ : ByteArray).size = 3 := rfl
theorem sz6p : (⟨#[32, 45, 32, 98, 121, 101]⟩ : ByteArray).size = 6 := rfl
/-- What pairs gives. -/
def R23 (xs : List ByteArray) (op : List Int) (wh : List Bool) (v : AV) (Hn : List (Nat × AObj)) : Prop := (Right xs op wh ∧ ∃ id, v = .tup [.sl id 0 (linesP xs op wh).length none, .s (.bool true)] ∧ Hn = [(id, .cells 9 1 false (strs (linesP xs op wh)))]) ∨ (¬ Right xs op wh ∧ v = .s (.tuple #[.slice none 0 0, .bool false]) ∧ Hn = [])
def byeOf (xs : List ByteArray) (op : List Int) (k : Nat) : ByteArray := (byesN xs op k).headD ⟨#[]⟩
attribute [local irreducible] SC SL wpc wpl wpd wpf wpy wpn FnC FnW RdW SD SI
set_option pp.deepTerms false
set_option pp.maxSteps 900
set_option maxHeartbeats 4000000
theorem pairs_fn {G : Gl} {H0 : List (Nat × AObj)} (hnd0 : (H0.map (·.1)).Nodup) {xs : List ByteArray} {op : List Int} {wh : List Bool} {na ov wv : AV} (hsl : SlV 1 na (xs.map fun x => [.s (.string x)])) (hso : SlH H0 1 ov (op.map fun x => [.s (.int .i64 x)])) (hsw : SlH H0 1 wv (wh.map fun x => [.s (.bool x)]))
    (hb1 : xs.length ≤ 9223372036854775807) (hb2 : op.length ≤ 9223372036854775807) (hb3 : wh.length ≤ 9223372036854775807) (ho : ∀ x y, G.orc 23 [x, y] = none) (h2 : 2 ≤ xs.length) (h12 : xs.length ≤ 12) (hsz : ∀ x ∈ xs, x.size ≤ 100) (hne0 : ∀ x ∈ xs, 1 ≤ x.size) :
    FnC Tryz.prog G 23 [na, mkAgg [ov, wv]] H0 (R23 xs op wh) := by
  by_cases hlens : op.length = xs.length ∧ wh.length = xs.length
  · obtain ⟨hlo, hlw⟩ := hlens
    refine Fn_body (N := 111) (ho _ _) Tryz.func23 rfl rfl fun B => ?_
    repeat' (first
      | (refine SL_box (d := 3) (by decide) (by rfl) (cells_r _ _) (fun b3 hid3 => ?_))
      | refine SL_len_h (by decide) (by rfl) hsw (by rfl) (slF (by rfl)) (bools_len1 _) ?_
      | refine SL_len_h (by decide) (by rfl) hso (by rfl) (slF (by rfl)) (ints_len1 _) ?_
      | refine SL_len_v (by decide) (by rfl) (by assumption) (by rfl) (slF (by rfl)) (strs_len0 _) ?_
      | refine SC_seq ?_
      | refine SC_block ?_
      | refine SC_region ?_
      | refine SL_seq ?_
      | refine SL_run (by rfl) (by rfl) ?_
      | refine SL_move (by decide) (by rfl) ?_
      | refine SL_assign (by decide) (by rfl) ?_
      | refine SL_pick_f (by decide) (by rfl) (by rfl) ?_
      | (refine SL_neq (by decide) (by rfl) (by rfl) (fun hT => ?_) (fun hT => ?_) <;> first | (exfalso; omega) | skip)
      | refine SL_fieldAddr (by decide) (by rfl) (fldF (by rfl)) ?_
      | refine SL_load_o (by decide) (by rfl) (by repeat (first | exact .head _ | refine .tail _ ?_)) (rowF (by rfl)) (by first | assumption | rfl | exact strs_get _ hlt | exact strs_get _ hlt2) (by rfl) ?_
      | refine SC_cond_f (by rfl) ?_
      | (refine SC_skip' (fun tm σ hE hH => ?_); refine SC.app ?_ hE hH; clear hE hH; clear tm σ)
      | fail)
    refine SC_nd fun hnd1 => ?_
    refine SC_loop (fun a : Nat × Option Nat => [(0, na), (3, .ptr b3 0 0), (6, outS (outsN xs op wh a.1).length a.2), (7, .s (.string (byeOf xs op a.1))), (8, .s (.int .i64 a.1))])
      (fun a => (b3, AObj.cells 55 2 true [[ov, wv]]) :: (outH (outsN xs op wh a.1) a.2 ++ H0)) (fun _ => [])
      (fun a => a.1 ≤ xs.length ∧ (∀ i, i < a.1 → OkAt xs.length op wh i) ∧ (a.2 = none ↔ outsN xs op wh a.1 = []) ∧ (byesN xs op a.1).length ≤ 1 ∧ (∀ b ∈ byesN xs op a.1, 1 ≤ b.size ∧ b.size ≤ 100) ∧ (∀ id, a.2 = some id → B.next ≤ id)) (fun a => xs.length - a.1) (0, none)
      ⟨by omega, fun i h => by omega, by simp [outsN], by simp [byesN], by simp [byesN], by simp⟩ ⟨rfl, rfl, rfl, rfl, rfl, trivial⟩ (.refl _) hnd1 rfl ?_
    rintro ⟨k, o1⟩ ⟨hk, hoks, ho1, hb1', hbsz, hn1⟩
    dsimp only at hk hoks ho1 hb1' hbsz hn1
    have hol := outsN_le xs op wh k
    by_cases hlt : k < xs.length
    · obtain ⟨kk, hkop⟩ : ∃ kk, op[k]? = some kk := ⟨op[k], List.getElem?_eq_getElem (by omega)⟩
      obtain ⟨wk, hkwh⟩ : ∃ wk, wh[k]? = some wk := ⟨wh[k], List.getElem?_eq_getElem (by omega)⟩
      have hgo := getD_at (d := (0 : Int)) hkop
      have hgw := getD_at (d := false) hkwh
      have hgx : xs.getD k ⟨#[]⟩ = xs[k] := getD_at (List.getElem?_eq_getElem hlt)
      have hszk := hsz _ (List.getElem_mem hlt)
      by_cases hbye : kk = -1
      · subst hbye
        cases wk with
        | false =>
          have hok : OkAt xs.length op wh k := .inl ⟨hgo, hgw⟩
          have hoks' : ∀ i, i < k + 1 → OkAt xs.length op wh i := fun i hi => by
            by_cases e : i = k
            · subst e; exact hok
            · exact hoks i (by omega)
          have hout : outsN xs op wh (k + 1) = outsN xs op wh k := by rw [out_step, outAt, if_neg (by rw [hgo]; simp), List.append_nil]
          have hbys : byesN xs op (k + 1) = byesN xs op k ++ [xs[k]] := by rw [bye_step, byeAt, if_pos hgo, hgx]
          by_cases hb0 : byesN xs op k = []
          · have hbe : byeOf xs op k = ⟨#[]⟩ := by unfold byeOf; rw [hb0]; rfl
            have hbe' : byeOf xs op (k + 1) = xs[k] := by unfold byeOf; rw [hbys, hb0]; rfl
            rw [hbe]
            repeat' (first
              | (refine SL_sneq (by decide) (by rfl) (by rfl) (fun hS => ?_) (fun hS => ?_) <;> first | (exact absurd rfl hS) | (exact absurd (by assumption) hS) | (exact absurd hS (by assumption)) | skip)
              | refine SL_load_h (by decide) (by rfl) (by assumption) (by intro p hp; repeat (first | exact hp | refine List.Mem.tail _ ?_ | refine List.mem_append_right _ ?_)) (rowF (by rfl)) (by first | exact ints_at hkop | exact ints_at hk2op | exact bools_at hkwh | exact bools_at hk2wh) (by rfl) ?_
              | (refine SL_indexAddr_h (by decide) (by rfl) (by rfl) hsw (by intro p hp; repeat (first | exact hp | refine List.Mem.tail _ ?_ | refine List.mem_append_right _ ?_)) (slF (by rfl)) _ (by first | rfl | exact (Int.toNat_of_nonneg (by omega)).symm) (by simp only [List.length_map]; omega) (fun pa hpa => ?_))
              | (refine SL_indexAddr_h (by decide) (by rfl) (by rfl) hso (by intro p hp; repeat (first | exact hp | refine List.Mem.tail _ ?_ | refine List.mem_append_right _ ?_)) (slF (by rfl)) _ (by first | rfl | exact (Int.toNat_of_nonneg (by omega)).symm) (by simp only [List.length_map]; omega) (fun pa hpa => ?_))
              | refine SL_len_v (by decide) (by rfl) (by assumption) (by rfl) (slF (by rfl)) (strs_len0 _) ?_
              | refine SC_seq ?_
              | refine SC_block ?_
              | refine SC_region ?_
              | refine SL_seq ?_
              | refine SL_run (by rfl) (by rfl) ?_
              | refine SL_move (by decide) (by rfl) ?_
              | refine SL_assign (by decide) (by rfl) ?_
              | refine SL_pick_f (by decide) (by rfl) (by rfl) ?_
              | refine SL_add (by decide) (by rfl) (by rfl) (by omega) (by omega) ?_
              | (refine SL_lss (by decide) (by rfl) (by rfl) (fun hT => ?_) (fun hT => ?_) <;> first | (exfalso; omega) | skip)
              | (refine SL_eql (by decide) (by rfl) (by rfl) (fun hT => ?_) (fun hT => ?_) <;> first | (exfalso; omega) | skip)
              | refine SL_fieldAddr (by decide) (by rfl) (fldF (by rfl)) ?_
              | refine SL_indexAddr_v (by decide) (by rfl) (by rfl) (by assumption) (slF (by rfl)) _ (by first | rfl | exact (Int.toNat_of_nonneg (by omega)).symm) (by simp only [List.length_map]; omega) (fun ad => ?_)
              | refine SL_load_r (by decide) (by rfl) (rowF (by rfl)) (by first | assumption | rfl | exact strs_get _ hlt | exact strs_get _ hlt2) (by rfl) ?_
              | refine SL_load_o (by decide) (by rfl) (by repeat (first | exact .head _ | refine .tail _ ?_)) (rowF (by rfl)) (by first | assumption | rfl | exact strs_get _ hlt | exact strs_get _ hlt2) (by rfl) ?_
              | refine SC_cond_t (by rfl) ?_
              | refine SC_cond_f (by rfl) ?_
              | (refine SC_exit (fun tm σ hE hH => ?_); refine SC.app ?_ hE hH; clear hE hH; clear tm σ)
              | (refine SC_skip' (fun tm σ hE hH => ?_); refine SC.app ?_ hE hH; clear hE hH; clear tm σ)
              | fail)
            refine SL_nil fun tm σ hE hH => ⟨(k + 1, o1), by dsimp only; omega, ⟨by dsimp only; omega, hoks', by dsimp only; rw [hout]; exact ho1, by dsimp only; rw [hbys, hb0]; exact Nat.le_refl _, fun b hb => ?_, hn1⟩, tm, σ, rfl, hE.sub ⟨rfl, rfl, ?_, ?_, rfl, trivial⟩, ?_⟩
            · dsimp only at hb
              rw [hbys, hb0, List.nil_append, List.mem_singleton] at hb
              subst hb
              exact ⟨hne0 _ (List.getElem_mem hlt), hszk⟩
            · dsimp only; rw [hout]; rfl
            · dsimp only; rw [hbe']; rfl
            · dsimp only; rw [hout]; exact hH
          · obtain ⟨b, hb⟩ : ∃ b, byesN xs op k = [b] := by
              match hbb : byesN xs op k, hb1' with
              | [], _ => exact absurd hbb hb0
              | [y], _ => exact ⟨y, rfl⟩
            have hbe : byeOf xs op k = b := by unfold byeOf; rw [hb]; rfl
            have hbn : b ≠ ⟨#[]⟩ := by
              intro e
              have := (hbsz b (by rw [hb]; exact List.mem_singleton.2 rfl)).1
              rw [e] at this
              exact absurd this (by decide)
            have hnr : ¬ Right xs op wh := fun h => by
              have h3 := byesN_le xs op (show k + 1 ≤ xs.length by omega)
              have h4 := h.one
              rw [hbys, hb, List.length_append] at h3
              simp at h3
              omega
            rw [hbe]
            repeat' (first
              | (refine SL_sneq (by decide) (by rfl) (by rfl) (fun hS => ?_) (fun hS => ?_) <;> first | (exact absurd rfl hS) | (exact absurd (by assumption) hS) | (exact absurd hS (by assumption)) | skip)
              | refine SL_load_h (by decide) (by rfl) (by assumption) (by intro p hp; repeat (first | exact hp | refine List.Mem.tail _ ?_ | refine List.mem_append_right _ ?_)) (rowF (by rfl)) (by first | exact ints_at hkop | exact ints_at hk2op | exact bools_at hkwh | exact bools_at hk2wh) (by rfl) ?_
              | (refine SL_indexAddr_h (by decide) (by rfl) (by rfl) hsw (by intro p hp; repeat (first | exact hp | refine List.Mem.tail _ ?_ | refine List.mem_append_right _ ?_)) (slF (by rfl)) _ (by first | rfl | exact (Int.toNat_of_nonneg (by omega)).symm) (by simp only [List.length_map]; omega) (fun pa hpa => ?_))
              | (refine SL_indexAddr_h (by decide) (by rfl) (by rfl) hso (by intro p hp; repeat (first | exact hp | refine List.Mem.tail _ ?_ | refine List.mem_append_right _ ?_)) (slF (by rfl)) _ (by first | rfl | exact (Int.toNat_of_nonneg (by omega)).symm) (by simp only [List.length_map]; omega) (fun pa hpa => ?_))
              | refine SL_len_v (by decide) (by rfl) (by assumption) (by rfl) (slF (by rfl)) (strs_len0 _) ?_
              | refine SC_seq ?_
              | refine SC_block ?_
              | refine SC_region ?_
              | refine SL_seq ?_
              | refine SL_run (by rfl) (by rfl) ?_
              | refine SL_move (by decide) (by rfl) ?_
              | refine SL_assign (by decide) (by rfl) ?_
              | refine SL_pick_f (by decide) (by rfl) (by rfl) ?_
              | (refine SL_lss (by decide) (by rfl) (by rfl) (fun hT => ?_) (fun hT => ?_) <;> first | (exfalso; omega) | skip)
              | (refine SL_eql (by decide) (by rfl) (by rfl) (fun hT => ?_) (fun hT => ?_) <;> first | (exfalso; omega) | skip)
              | refine SL_fieldAddr (by decide) (by rfl) (fldF (by rfl)) ?_
              | refine SL_load_o (by decide) (by rfl) (by repeat (first | exact .head _ | refine .tail _ ?_)) (rowF (by rfl)) (by first | assumption | rfl | exact strs_get _ hlt | exact strs_get _ hlt2) (by rfl) ?_
              | refine SC_cond_t (by rfl) ?_
              | (refine SC_skip' (fun tm σ hE hH => ?_); refine SC.app ?_ hE hH; clear hE hH; clear tm σ)
              | fail)
            all_goals refine SC_ret (fun tm σ hE hH => Post.intro (Hn := []) (.inr rfl) hE hH (by rfl) trivial List.nodup_nil (fun p hp => (by cases hp)) ?_)
            all_goals exact .inr ⟨hnr, rfl, rfl⟩
        | true =>
          have hno : ¬ OkAt xs.length op wh k := by
            intro h
            unfold OkAt at h
            rw [hgo, hgw] at h
            rcases h with ⟨_, h⟩ | ⟨h, _⟩
            · cases h
            · omega
          repeat' (first
            | refine SL_load_h (by decide) (by rfl) (by assumption) (by intro p hp; repeat (first | exact hp | refine List.Mem.tail _ ?_ | refine List.mem_append_right _ ?_)) (rowF (by rfl)) (by first | exact ints_at hkop | exact ints_at hk2op | exact bools_at hkwh | exact bools_at hk2wh) (by rfl) ?_
            | (refine SL_indexAddr_h (by decide) (by rfl) (by rfl) hsw (by intro p hp; repeat (first | exact hp | refine List.Mem.tail _ ?_ | refine List.mem_append_right _ ?_)) (slF (by rfl)) _ (by first | rfl | exact (Int.toNat_of_nonneg (by omega)).symm) (by simp only [List.length_map]; omega) (fun pa hpa => ?_))
            | (refine SL_indexAddr_h (by decide) (by rfl) (by rfl) hso (by intro p hp; repeat (first | exact hp | refine List.Mem.tail _ ?_ | refine List.mem_append_right _ ?_)) (slF (by rfl)) _ (by first | rfl | exact (Int.toNat_of_nonneg (by omega)).symm) (by simp only [List.length_map]; omega) (fun pa hpa => ?_))
            | refine SL_len_v (by decide) (by rfl) (by assumption) (by rfl) (slF (by rfl)) (strs_len0 _) ?_
            | refine SC_seq ?_
            | refine SC_block ?_
            | refine SC_region ?_
            | refine SL_seq ?_
            | refine SL_not (by rfl) (by rfl) (by rfl) (by decide) ?_
            | refine SL_move (by decide) (by rfl) ?_
            | refine SL_assign (by decide) (by rfl) ?_
            | refine SL_pick_t (by decide) (by rfl) (by rfl) ?_
            | (refine SL_lss (by decide) (by rfl) (by rfl) (fun hT => ?_) (fun hT => ?_) <;> first | (exfalso; omega) | skip)
            | (refine SL_eql (by decide) (by rfl) (by rfl) (fun hT => ?_) (fun hT => ?_) <;> first | (exfalso; omega) | skip)
            | refine SL_fieldAddr (by decide) (by rfl) (fldF (by rfl)) ?_
            | refine SL_load_o (by decide) (by rfl) (by repeat (first | exact .head _ | refine .tail _ ?_)) (rowF (by rfl)) (by first | assumption | rfl | exact strs_get _ hlt | exact strs_get _ hlt2) (by rfl) ?_
            | refine SC_cond_t (by rfl) ?_
            | (refine SC_skip' (fun tm σ hE hH => ?_); refine SC.app ?_ hE hH; clear hE hH; clear tm σ)
            | fail)
          all_goals refine SC_ret (fun tm σ hE hH => Post.intro (Hn := []) (.inr rfl) hE hH (by rfl) trivial List.nodup_nil (fun p hp => (by cases hp)) ?_)
          all_goals exact .inr ⟨fun h => hno (h.ok k hlt), rfl, rfl⟩
      · have hbyk : byesN xs op (k + 1) = byesN xs op k := by rw [bye_step, byeAt, if_neg (by rw [hgo]; exact hbye), List.append_nil]
        have hbe' : byeOf xs op (k + 1) = byeOf xs op k := by unfold byeOf; rw [hbyk]
        by_cases hr : 0 ≤ kk ∧ kk < xs.length
        · obtain ⟨q, rfl⟩ : ∃ q : Nat, kk = q := ⟨kk.toNat, by omega⟩
          have hlt2 : q < xs.length := by omega
          have hszq := hsz _ (List.getElem_mem hlt2)
          obtain ⟨k2, hk2op⟩ : ∃ k2, op[q]? = some k2 := ⟨op[q], List.getElem?_eq_getElem (by omega)⟩
          obtain ⟨w2, hk2wh⟩ : ∃ w2, wh[q]? = some w2 := ⟨wh[q], List.getElem?_eq_getElem (by omega)⟩
          have hgo2 := getD_at (d := (0 : Int)) hk2op
          have hgw2 := getD_at (d := false) hk2wh
          have hgx2 : xs.getD q ⟨#[]⟩ = xs[q] := getD_at (List.getElem?_eq_getElem hlt2)
          have hiff : OkAt xs.length op wh k ↔ q ≠ k ∧ k2 = k ∧ wk ≠ w2 := by
            unfold OkAt
            rw [hgo, hgw, Int.toNat_natCast, hgo2, hgw2]
            constructor
            · rintro (⟨h, _⟩ | ⟨_, _, h1, h2, h3⟩)
              · omega
              · exact ⟨by omega, h2, h3⟩
            · rintro ⟨h1, h2, h3⟩
              exact .inr ⟨by omega, by omega, by omega, h2, h3⟩
          by_cases hok : q ≠ k ∧ k2 = k ∧ wk ≠ w2
          · obtain ⟨hqk, hk2k, hww⟩ := hok
            have hoks' : ∀ i, i < k + 1 → OkAt xs.length op wh i := fun i hi => by
              by_cases e : i = k
              · subst e; exact hiff.2 ⟨hqk, hk2k, hww⟩
              · exact hoks i (by omega)
            cases wk with
            | false =>
              obtain rfl : w2 = true := by cases w2 with | true => rfl | false => exact absurd rfl hww
              have hout : outsN xs op wh (k + 1) = outsN xs op wh k := by rw [out_step, outAt, if_neg (by rw [hgw]; simp), List.append_nil]
              repeat' (first
                | refine SL_beq4 (by decide) (by rfl) (by rfl) ?_
                | refine SL_load_h (by decide) (by rfl) (by assumption) (by intro p hp; repeat (first | exact hp | refine List.Mem.tail _ ?_ | refine List.mem_append_right _ ?_)) (rowF (by rfl)) (by first | exact ints_at hkop | exact ints_at hk2op | exact bools_at hkwh | exact bools_at hk2wh) (by rfl) ?_
                | (refine SL_indexAddr_h (by decide) (by rfl) (by rfl) hsw (by intro p hp; repeat (first | exact hp | refine List.Mem.tail _ ?_ | refine List.mem_append_right _ ?_)) (slF (by rfl)) _ (by first | rfl | exact (Int.toNat_of_nonneg (by omega)).symm) (by simp only [List.length_map]; omega) (fun pa hpa => ?_))
                | (refine SL_indexAddr_h (by decide) (by rfl) (by rfl) hso (by intro p hp; repeat (first | exact hp | refine List.Mem.tail _ ?_ | refine List.mem_append_right _ ?_)) (slF (by rfl)) _ (by first | rfl | exact (Int.toNat_of_nonneg (by omega)).symm) (by simp only [List.length_map]; omega) (fun pa hpa => ?_))
                | refine SL_len_v (by decide) (by rfl) (by assumption) (by rfl) (slF (by rfl)) (strs_len0 _) ?_
                | refine SC_seq ?_
                | refine SC_block ?_
                | refine SC_region ?_
                | refine SL_seq ?_
                | refine SL_run (by rfl) (by rfl) ?_
                | refine SL_move (by decide) (by rfl) ?_
                | refine SL_assign (by decide) (by rfl) ?_
                | refine SL_pick_f (by decide) (by rfl) (by rfl) ?_
                | refine SL_add (by decide) (by rfl) (by rfl) (by omega) (by omega) ?_
                | (refine SL_lss (by decide) (by rfl) (by rfl) (fun hT => ?_) (fun hT => ?_) <;> first | (exfalso; omega) | skip)
                | (refine SL_geq (by decide) (by rfl) (by rfl) (fun hT => ?_) (fun hT => ?_) <;> first | (exfalso; omega) | skip)
                | (refine SL_eql (by decide) (by rfl) (by rfl) (fun hT => ?_) (fun hT => ?_) <;> first | (exfalso; omega) | skip)
                | (refine SL_neq (by decide) (by rfl) (by rfl) (fun hT => ?_) (fun hT => ?_) <;> first | (exfalso; omega) | skip)
                | refine SL_fieldAddr (by decide) (by rfl) (fldF (by rfl)) ?_
                | refine SL_load_o (by decide) (by rfl) (by repeat (first | exact .head _ | refine .tail _ ?_)) (rowF (by rfl)) (by first | assumption | rfl | exact strs_get _ hlt | exact strs_get _ hlt2) (by rfl) ?_
                | refine SC_draw (by kernel_rfl) ?_
                | refine SC_cond_t (by rfl) ?_
                | refine SC_cond_f (by rfl) ?_
                | (refine SC_skip' (fun tm σ hE hH => ?_); refine SC.app ?_ hE hH; clear hE hH; clear tm σ)
                | fail)
              refine SL_nil fun tm σ hE hH => ⟨(k + 1, o1), by dsimp only; omega, ⟨by dsimp only; omega, hoks', by dsimp only; rw [hout]; exact ho1, by dsimp only; rw [hbyk]; exact hb1', by dsimp only; rw [hbyk]; exact hbsz, hn1⟩, tm, σ, rfl, hE.sub ⟨rfl, rfl, ?_, ?_, rfl, trivial⟩, ?_⟩
              · dsimp only; rw [hout]; rfl
              · dsimp only; rw [hbe']; rfl
              · dsimp only; rw [hout]; exact hH
            | true =>
              obtain rfl : w2 = false := by cases w2 with | false => rfl | true => exact absurd rfl hww
              have hout : outsN xs op wh (k + 1) = outsN xs op wh k ++ [xs[k] ++ midS ++ xs[q]] := by rw [out_step, outAt, if_pos ⟨by rw [hgo]; omega, hgw⟩, hgo, Int.toNat_natCast, hgx, hgx2]
              cases o1 with
              | none =>
                have he1 := ho1.1 rfl
                dsimp only [outS, outH, List.nil_append, List.cons_append, strs]
                repeat' (first
                  | refine SL_beq4 (by decide) (by rfl) (by rfl) ?_
                  | refine SL_cat (by decide) (by rfl) (by rfl) (by simp only [ByteArray.size_append, sz3p, sz6p]; omega) ?_
                  | refine SL_load_h (by decide) (by rfl) (by assumption) (by intro p hp; repeat (first | exact hp | refine List.Mem.tail _ ?_ | refine List.mem_append_right _ ?_)) (rowF (by rfl)) (by first | exact ints_at hkop | exact ints_at hk2op | exact bools_at hkwh | exact bools_at hk2wh) (by rfl) ?_
                  | (refine SL_indexAddr_h (by decide) (by rfl) (by rfl) hsw (by intro p hp; repeat (first | exact hp | refine List.Mem.tail _ ?_ | refine List.mem_append_right _ ?_)) (slF (by rfl)) _ (by first | rfl | exact (Int.toNat_of_nonneg (by omega)).symm) (by simp only [List.length_map]; omega) (fun pa hpa => ?_))
                  | (refine SL_indexAddr_h (by decide) (by rfl) (by rfl) hso (by intro p hp; repeat (first | exact hp | refine List.Mem.tail _ ?_ | refine List.mem_append_right _ ?_)) (slF (by rfl)) _ (by first | rfl | exact (Int.toNat_of_nonneg (by omega)).symm) (by simp only [List.length_map]; omega) (fun pa hpa => ?_))
                  | refine SL_len_v (by decide) (by rfl) (by assumption) (by rfl) (slF (by rfl)) (strs_len0 _) ?_
                  | (refine SC_drawK (id := 16) (by kernel_rfl) (fun B2 base hBB hold => ?_); first | (have hoidb : oid1 < base := hold (oid1, _) (by repeat (first | exact .head _ | refine .tail _ ?_))) | skip)
                  | refine SC_seq ?_
                  | refine SC_block ?_
                  | refine SC_region ?_
                  | refine SL_seq ?_
                  | refine SL_run (by rfl) (by rfl) ?_
                  | refine SL_move (by decide) (by rfl) ?_
                  | refine SL_assign (by decide) (by rfl) ?_
                  | refine SL_pick_f (by decide) (by rfl) (by rfl) ?_
                  | refine SL_add (by decide) (by rfl) (by rfl) (by omega) (by omega) ?_
                  | (refine SL_lss (by decide) (by rfl) (by rfl) (fun hT => ?_) (fun hT => ?_) <;> first | (exfalso; omega) | skip)
                  | (refine SL_geq (by decide) (by rfl) (by rfl) (fun hT => ?_) (fun hT => ?_) <;> first | (exfalso; omega) | skip)
                  | (refine SL_eql (by decide) (by rfl) (by rfl) (fun hT => ?_) (fun hT => ?_) <;> first | (exfalso; omega) | skip)
                  | (refine SL_neq (by decide) (by rfl) (by rfl) (fun hT => ?_) (fun hT => ?_) <;> first | (exfalso; omega) | skip)
                  | refine SL_fieldAddr (by decide) (by rfl) (fldF (by rfl)) ?_
                  | refine SL_indexAddr_v (by decide) (by rfl) (by rfl) (by assumption) (slF (by rfl)) _ (by first | rfl | exact (Int.toNat_of_nonneg (by omega)).symm) (by simp only [List.length_map]; omega) (fun ad => ?_)
                  | refine SL_load_r (by decide) (by rfl) (rowF (by rfl)) (by first | assumption | rfl | exact strs_get _ hlt | exact strs_get _ hlt2) (by rfl) ?_
                  | refine SL_load_o (by decide) (by rfl) (by repeat (first | exact .head _ | refine .tail _ ?_)) (rowF (by rfl)) (by first | assumption | rfl | exact strs_get _ hlt | exact strs_get _ hlt2) (by rfl) ?_
                  | refine SL_append1_nil (by decide) (by rfl) (by rfl) (by repeat (first | exact .head _ | refine .tail _ ?_)) (elF (by rfl)) (sliceOf_spec (slF (by rfl))).1 (by rfl) (by decide) (fun id hid => ?_)
                  | refine SC_draw (by kernel_rfl) ?_
                  | refine SC_cond_t (by rfl) ?_
                  | refine SC_cond_f (by rfl) ?_
                  | (refine SC_skip' (fun tm σ hE hH => ?_); refine SC.app ?_ hE hH; clear hE hH; clear tm σ)
                  | refine SI_build1 (by decide) (by rfl) (elF (by rfl)) (by rfl) (by rfl) (fun id hid => ?_)
                  | refine SI_op (by rfl) ?_
                  | (refine SI_nil (fun tm σ hE hH => ?_); refine SC.app ?_ hE hH; clear hE hH; clear tm σ)
                  | (refine SL_nil (fun tm σ hE hH => ⟨tm, σ, _, _, rfl, hE, hH, ?_⟩); clear hE hH; clear tm σ)
                  | fail)
                refine SL_nil fun tm σ hE hH => ⟨(k + 1, some id), by dsimp only; omega, ⟨by dsimp only; omega, hoks', by simp [hout], by dsimp only; rw [hbyk]; exact hb1', by dsimp only; rw [hbyk]; exact hbsz, fun j hj => by cases hj; omega⟩, tm, σ, rfl, hE.sub ⟨rfl, rfl, ?_, ?_, rfl, trivial⟩, ?_⟩
                · dsimp only [outS]; rw [hout, List.length_append, he1]; rfl
                · dsimp only; rw [hbe']; rfl
                · dsimp only [outH, strs, List.nil_append, List.cons_append]; rw [hout, he1]; exact (hH.perm ((List.perm_append_comm (l₁ := [_, _]) (l₂ := [_])).append_right _)).subl (.cons_cons _ (.cons_cons _ (.cons _ (.refl _))))
              | some oid1 =>
                have hoid1 := hn1 oid1 rfl
                dsimp only [outS, outH, List.nil_append, List.cons_append, strs]
                repeat' (first
                  | refine SL_beq4 (by decide) (by rfl) (by rfl) ?_
                  | refine SL_append1_own (by decide) (by rfl) (by rfl) (by repeat (first | exact .head | apply Upd.tail)) (by first | exact (List.length_map _).symm | simp only [List.length_map]) (by first | exact .inl (by assumption) | exact .inr (by simp)) (by repeat (first | exact .head _ | refine .tail _ ?_)) (elF (by rfl)) (sliceOf_spec (slF (by rfl))).1 (by rfl) (by first | omega | (simp only [List.length_map]; omega)) (by first | omega | (simp only [List.length_map]; omega)) (fun id hid => ?_)
                  | refine SL_cat (by decide) (by rfl) (by rfl) (by simp only [ByteArray.size_append, sz3p, sz6p]; omega) ?_
                  | refine SL_load_h (by decide) (by rfl) (by assumption) (by intro p hp; repeat (first | exact hp | refine List.Mem.tail _ ?_ | refine List.mem_append_right _ ?_)) (rowF (by rfl)) (by first | exact ints_at hkop | exact ints_at hk2op | exact bools_at hkwh | exact bools_at hk2wh) (by rfl) ?_
                  | (refine SL_indexAddr_h (by decide) (by rfl) (by rfl) hsw (by intro p hp; repeat (first | exact hp | refine List.Mem.tail _ ?_ | refine List.mem_append_right _ ?_)) (slF (by rfl)) _ (by first | rfl | exact (Int.toNat_of_nonneg (by omega)).symm) (by simp only [List.length_map]; omega) (fun pa hpa => ?_))
                  | (refine SL_indexAddr_h (by decide) (by rfl) (by rfl) hso (by intro p hp; repeat (first | exact hp | refine List.Mem.tail _ ?_ | refine List.mem_append_right _ ?_)) (slF (by rfl)) _ (by first | rfl | exact (Int.toNat_of_nonneg (by omega)).symm) (by simp only [List.length_map]; omega) (fun pa hpa => ?_))
                  | refine SL_len_v (by decide) (by rfl) (by assumption) (by rfl) (slF (by rfl)) (strs_len0 _) ?_
                  | (refine SI_opX (os := [_]) oid1 (.inl hoid1) hoidb (by rfl) ?_)
                  | (refine SC_drawK (id := 16) (by kernel_rfl) (fun B2 base hBB hold => ?_); first | (have hoidb : oid1 < base := hold (oid1, _) (by repeat (first | exact .head _ | refine .tail _ ?_))) | skip)
                  | refine SC_seq ?_
                  | refine SC_block ?_
                  | refine SC_region ?_
                  | refine SL_seq ?_
                  | refine SL_run (by rfl) (by rfl) ?_
                  | refine SL_move (by decide) (by rfl) ?_
                  | refine SL_assign (by decide) (by rfl) ?_
                  | refine SL_pick_f (by decide) (by rfl) (by rfl) ?_
                  | refine SL_add (by decide) (by rfl) (by rfl) (by omega) (by omega) ?_
                  | (refine SL_lss (by decide) (by rfl) (by rfl) (fun hT => ?_) (fun hT => ?_) <;> first | (exfalso; omega) | skip)
                  | (refine SL_geq (by decide) (by rfl) (by rfl) (fun hT => ?_) (fun hT => ?_) <;> first | (exfalso; omega) | skip)
                  | (refine SL_eql (by decide) (by rfl) (by rfl) (fun hT => ?_) (fun hT => ?_) <;> first | (exfalso; omega) | skip)
                  | (refine SL_neq (by decide) (by rfl) (by rfl) (fun hT => ?_) (fun hT => ?_) <;> first | (exfalso; omega) | skip)
                  | refine SL_fieldAddr (by decide) (by rfl) (fldF (by rfl)) ?_
                  | refine SL_indexAddr_v (by decide) (by rfl) (by rfl) (by assumption) (slF (by rfl)) _ (by first | rfl | exact (Int.toNat_of_nonneg (by omega)).symm) (by simp only [List.length_map]; omega) (fun ad => ?_)
                  | refine SL_load_r (by decide) (by rfl) (rowF (by rfl)) (by first | assumption | rfl | exact strs_get _ hlt | exact strs_get _ hlt2) (by rfl) ?_
                  | refine SL_load_o (by decide) (by rfl) (by repeat (first | exact .head _ | refine .tail _ ?_)) (rowF (by rfl)) (by first | assumption | rfl | exact strs_get _ hlt | exact strs_get _ hlt2) (by rfl) ?_
                  | refine SC_draw (by kernel_rfl) ?_
                  | refine SC_cond_t (by rfl) ?_
                  | refine SC_cond_f (by rfl) ?_
                  | (refine SC_skip' (fun tm σ hE hH => ?_); refine SC.app ?_ hE hH; clear hE hH; clear tm σ)
                  | refine SI_build1 (by decide) (by rfl) (elF (by rfl)) (by rfl) (by rfl) (fun id hid => ?_)
                  | refine SI_op (by rfl) ?_
                  | (refine SI_nil (fun tm σ hE hH => ?_); refine SC.app ?_ hE hH; clear hE hH; clear tm σ)
                  | (refine SL_nil (fun tm σ hE hH => ⟨tm, σ, _, _, rfl, hE, hH, ?_⟩); clear hE hH; clear tm σ)
                  | fail)
                refine SL_nil fun tm σ hE hH => ⟨(k + 1, some id), by dsimp only; omega, ⟨by dsimp only; omega, hoks', by simp [hout], by dsimp only; rw [hbyk]; exact hb1', by dsimp only; rw [hbyk]; exact hbsz, fun j hj => by cases hj; omega⟩, tm, σ, rfl, hE.sub ⟨rfl, rfl, ?_, ?_, rfl, trivial⟩, ?_⟩
                · dsimp only [outS]; rw [hout, List.length_append]; rfl
                · dsimp only; rw [hbe']; rfl
                · dsimp only [outH, strs, List.nil_append, List.cons_append]; rw [hout, List.map_append]; exact (hH.perm ((List.perm_append_comm (l₁ := [_, _]) (l₂ := [_])).append_right _)).subl (.cons_cons _ (.cons_cons _ (.cons _ (.cons _ (.refl _)))))
          · have hno : ¬ OkAt xs.length op wh k := fun h => hok (hiff.1 h)
            by_cases hqk : q = k
            ·
              repeat' (first
                | refine SL_load_h (by decide) (by rfl) (by assumption) (by intro p hp; repeat (first | exact hp | refine List.Mem.tail _ ?_ | refine List.mem_append_right _ ?_)) (rowF (by rfl)) (by first | exact ints_at hkop | exact ints_at hk2op | exact bools_at hkwh | exact bools_at hk2wh) (by rfl) ?_
                | (refine SL_indexAddr_h (by decide) (by rfl) (by rfl) hso (by intro p hp; repeat (first | exact hp | refine List.Mem.tail _ ?_ | refine List.mem_append_right _ ?_)) (slF (by rfl)) _ (by first | rfl | exact (Int.toNat_of_nonneg (by omega)).symm) (by simp only [List.length_map]; omega) (fun pa hpa => ?_))
                | refine SL_len_v (by decide) (by rfl) (by assumption) (by rfl) (slF (by rfl)) (strs_len0 _) ?_
                | refine SC_seq ?_
                | refine SC_block ?_
                | refine SC_region ?_
                | refine SL_seq ?_
                | refine SL_run (by rfl) (by rfl) ?_
                | refine SL_not (by rfl) (by rfl) (by rfl) (by decide) ?_
                | refine SL_move (by decide) (by rfl) ?_
                | refine SL_assign (by decide) (by rfl) ?_
                | refine SL_pick_t (by decide) (by rfl) (by rfl) ?_
                | refine SL_pick_f (by decide) (by rfl) (by rfl) ?_
                | (refine SL_lss (by decide) (by rfl) (by rfl) (fun hT => ?_) (fun hT => ?_) <;> first | (exfalso; omega) | skip)
                | (refine SL_geq (by decide) (by rfl) (by rfl) (fun hT => ?_) (fun hT => ?_) <;> first | (exfalso; omega) | skip)
                | (refine SL_eql (by decide) (by rfl) (by rfl) (fun hT => ?_) (fun hT => ?_) <;> first | (exfalso; omega) | skip)
                | refine SL_fieldAddr (by decide) (by rfl) (fldF (by rfl)) ?_
                | refine SL_load_o (by decide) (by rfl) (by repeat (first | exact .head _ | refine .tail _ ?_)) (rowF (by rfl)) (by first | assumption | rfl | exact strs_get _ hlt | exact strs_get _ hlt2) (by rfl) ?_
                | refine SC_draw (by kernel_rfl) ?_
                | refine SC_cond_t (by rfl) ?_
                | refine SC_cond_f (by rfl) ?_
                | (refine SC_skip' (fun tm σ hE hH => ?_); refine SC.app ?_ hE hH; clear hE hH; clear tm σ)
                | fail)
              all_goals refine SC_ret (fun tm σ hE hH => Post.intro (Hn := []) (.inr rfl) hE hH (by rfl) trivial List.nodup_nil (fun p hp => (by cases hp)) ?_)
              all_goals exact .inr ⟨fun h => hno (h.ok k hlt), rfl, rfl⟩
            · by_cases hk2k : k2 = k
              · obtain rfl : wk = w2 := by
                  apply Classical.byContradiction
                  intro h
                  exact hok ⟨hqk, hk2k, h⟩
                cases wk with
                | false =>
                  repeat' (first
                    | refine SL_beq4 (by decide) (by rfl) (by rfl) ?_
                    | refine SL_load_h (by decide) (by rfl) (by assumption) (by intro p hp; repeat (first | exact hp | refine List.Mem.tail _ ?_ | refine List.mem_append_right _ ?_)) (rowF (by rfl)) (by first | exact ints_at hkop | exact ints_at hk2op | exact bools_at hkwh | exact bools_at hk2wh) (by rfl) ?_
                    | (refine SL_indexAddr_h (by decide) (by rfl) (by rfl) hsw (by intro p hp; repeat (first | exact hp | refine List.Mem.tail _ ?_ | refine List.mem_append_right _ ?_)) (slF (by rfl)) _ (by first | rfl | exact (Int.toNat_of_nonneg (by omega)).symm) (by simp only [List.length_map]; omega) (fun pa hpa => ?_))
                    | (refine SL_indexAddr_h (by decide) (by rfl) (by rfl) hso (by intro p hp; repeat (first | exact hp | refine List.Mem.tail _ ?_ | refine List.mem_append_right _ ?_)) (slF (by rfl)) _ (by first | rfl | exact (Int.toNat_of_nonneg (by omega)).symm) (by simp only [List.length_map]; omega) (fun pa hpa => ?_))
                    | refine SL_len_v (by decide) (by rfl) (by assumption) (by rfl) (slF (by rfl)) (strs_len0 _) ?_
                    | refine SC_seq ?_
                    | refine SC_block ?_
                    | refine SC_region ?_
                    | refine SL_seq ?_
                    | refine SL_run (by rfl) (by rfl) ?_
                    | refine SL_move (by decide) (by rfl) ?_
                    | refine SL_assign (by decide) (by rfl) ?_
                    | refine SL_pick_f (by decide) (by rfl) (by rfl) ?_
                    | (refine SL_lss (by decide) (by rfl) (by rfl) (fun hT => ?_) (fun hT => ?_) <;> first | (exfalso; omega) | skip)
                    | (refine SL_geq (by decide) (by rfl) (by rfl) (fun hT => ?_) (fun hT => ?_) <;> first | (exfalso; omega) | skip)
                    | (refine SL_eql (by decide) (by rfl) (by rfl) (fun hT => ?_) (fun hT => ?_) <;> first | (exfalso; omega) | skip)
                    | (refine SL_neq (by decide) (by rfl) (by rfl) (fun hT => ?_) (fun hT => ?_) <;> first | (exfalso; omega) | skip)
                    | refine SL_fieldAddr (by decide) (by rfl) (fldF (by rfl)) ?_
                    | refine SL_load_o (by decide) (by rfl) (by repeat (first | exact .head _ | refine .tail _ ?_)) (rowF (by rfl)) (by first | assumption | rfl | exact strs_get _ hlt | exact strs_get _ hlt2) (by rfl) ?_
                    | refine SC_draw (by kernel_rfl) ?_
                    | refine SC_cond_t (by rfl) ?_
                    | refine SC_cond_f (by rfl) ?_
                    | (refine SC_skip' (fun tm σ hE hH => ?_); refine SC.app ?_ hE hH; clear hE hH; clear tm σ)
                    | fail)
                  all_goals refine SC_ret (fun tm σ hE hH => Post.intro (Hn := []) (.inr rfl) hE hH (by rfl) trivial List.nodup_nil (fun p hp => (by cases hp)) ?_)
                  all_goals exact .inr ⟨fun h => hno (h.ok k hlt), rfl, rfl⟩
                | true =>
                  repeat' (first
                    | refine SL_beq4 (by decide) (by rfl) (by rfl) ?_
                    | refine SL_load_h (by decide) (by rfl) (by assumption) (by intro p hp; repeat (first | exact hp | refine List.Mem.tail _ ?_ | refine List.mem_append_right _ ?_)) (rowF (by rfl)) (by first | exact ints_at hkop | exact ints_at hk2op | exact bools_at hkwh | exact bools_at hk2wh) (by rfl) ?_
                    | (refine SL_indexAddr_h (by decide) (by rfl) (by rfl) hsw (by intro p hp; repeat (first | exact hp | refine List.Mem.tail _ ?_ | refine List.mem_append_right _ ?_)) (slF (by rfl)) _ (by first | rfl | exact (Int.toNat_of_nonneg (by omega)).symm) (by simp only [List.length_map]; omega) (fun pa hpa => ?_))
                    | (refine SL_indexAddr_h (by decide) (by rfl) (by rfl) hso (by intro p hp; repeat (first | exact hp | refine List.Mem.tail _ ?_ | refine List.mem_append_right _ ?_)) (slF (by rfl)) _ (by first | rfl | exact (Int.toNat_of_nonneg (by omega)).symm) (by simp only [List.length_map]; omega) (fun pa hpa => ?_))
                    | refine SL_len_v (by decide) (by rfl) (by assumption) (by rfl) (slF (by rfl)) (strs_len0 _) ?_
                    | refine SC_seq ?_
                    | refine SC_block ?_
                    | refine SC_region ?_
                    | refine SL_seq ?_
                    | refine SL_run (by rfl) (by rfl) ?_
                    | refine SL_move (by decide) (by rfl) ?_
                    | refine SL_assign (by decide) (by rfl) ?_
                    | refine SL_pick_f (by decide) (by rfl) (by rfl) ?_
                    | (refine SL_lss (by decide) (by rfl) (by rfl) (fun hT => ?_) (fun hT => ?_) <;> first | (exfalso; omega) | skip)
                    | (refine SL_geq (by decide) (by rfl) (by rfl) (fun hT => ?_) (fun hT => ?_) <;> first | (exfalso; omega) | skip)
                    | (refine SL_eql (by decide) (by rfl) (by rfl) (fun hT => ?_) (fun hT => ?_) <;> first | (exfalso; omega) | skip)
                    | (refine SL_neq (by decide) (by rfl) (by rfl) (fun hT => ?_) (fun hT => ?_) <;> first | (exfalso; omega) | skip)
                    | refine SL_fieldAddr (by decide) (by rfl) (fldF (by rfl)) ?_
                    | refine SL_load_o (by decide) (by rfl) (by repeat (first | exact .head _ | refine .tail _ ?_)) (rowF (by rfl)) (by first | assumption | rfl | exact strs_get _ hlt | exact strs_get _ hlt2) (by rfl) ?_
                    | refine SC_draw (by kernel_rfl) ?_
                    | refine SC_cond_t (by rfl) ?_
                    | refine SC_cond_f (by rfl) ?_
                    | (refine SC_skip' (fun tm σ hE hH => ?_); refine SC.app ?_ hE hH; clear hE hH; clear tm σ)
                    | fail)
                  all_goals refine SC_ret (fun tm σ hE hH => Post.intro (Hn := []) (.inr rfl) hE hH (by rfl) trivial List.nodup_nil (fun p hp => (by cases hp)) ?_)
                  all_goals exact .inr ⟨fun h => hno (h.ok k hlt), rfl, rfl⟩
              ·
                repeat' (first
                  | refine SL_load_h (by decide) (by rfl) (by assumption) (by intro p hp; repeat (first | exact hp | refine List.Mem.tail _ ?_ | refine List.mem_append_right _ ?_)) (rowF (by rfl)) (by first | exact ints_at hkop | exact ints_at hk2op | exact bools_at hkwh | exact bools_at hk2wh) (by rfl) ?_
                  | (refine SL_indexAddr_h (by decide) (by rfl) (by rfl) hso (by intro p hp; repeat (first | exact hp | refine List.Mem.tail _ ?_ | refine List.mem_append_right _ ?_)) (slF (by rfl)) _ (by first | rfl | exact (Int.toNat_of_nonneg (by omega)).symm) (by simp only [List.length_map]; omega) (fun pa hpa => ?_))
                  | refine SL_len_v (by decide) (by rfl) (by assumption) (by rfl) (slF (by rfl)) (strs_len0 _) ?_
                  | refine SC_seq ?_
                  | refine SC_block ?_
                  | refine SC_region ?_
                  | refine SL_seq ?_
                  | refine SL_run (by rfl) (by rfl) ?_
                  | refine SL_not (by rfl) (by rfl) (by rfl) (by decide) ?_
                  | refine SL_move (by decide) (by rfl) ?_
                  | refine SL_assign (by decide) (by rfl) ?_
                  | refine SL_pick_t (by decide) (by rfl) (by rfl) ?_
                  | refine SL_pick_f (by decide) (by rfl) (by rfl) ?_
                  | (refine SL_lss (by decide) (by rfl) (by rfl) (fun hT => ?_) (fun hT => ?_) <;> first | (exfalso; omega) | skip)
                  | (refine SL_geq (by decide) (by rfl) (by rfl) (fun hT => ?_) (fun hT => ?_) <;> first | (exfalso; omega) | skip)
                  | (refine SL_eql (by decide) (by rfl) (by rfl) (fun hT => ?_) (fun hT => ?_) <;> first | (exfalso; omega) | skip)
                  | (refine SL_neq (by decide) (by rfl) (by rfl) (fun hT => ?_) (fun hT => ?_) <;> first | (exfalso; omega) | skip)
                  | refine SL_fieldAddr (by decide) (by rfl) (fldF (by rfl)) ?_
                  | refine SL_load_o (by decide) (by rfl) (by repeat (first | exact .head _ | refine .tail _ ?_)) (rowF (by rfl)) (by first | assumption | rfl | exact strs_get _ hlt | exact strs_get _ hlt2) (by rfl) ?_
                  | refine SC_draw (by kernel_rfl) ?_
                  | refine SC_cond_t (by rfl) ?_
                  | refine SC_cond_f (by rfl) ?_
                  | (refine SC_skip' (fun tm σ hE hH => ?_); refine SC.app ?_ hE hH; clear hE hH; clear tm σ)
                  | fail)
                all_goals refine SC_ret (fun tm σ hE hH => Post.intro (Hn := []) (.inr rfl) hE hH (by rfl) trivial List.nodup_nil (fun p hp => (by cases hp)) ?_)
                all_goals exact .inr ⟨fun h => hno (h.ok k hlt), rfl, rfl⟩
        · have hno : ¬ OkAt xs.length op wh k := by
            intro h
            unfold OkAt at h
            rw [hgo] at h
            rcases h with ⟨h, _⟩ | ⟨h1, h2, _⟩
            · exact hbye h
            · exact hr ⟨h1, h2⟩
          repeat' (first
            | refine SL_load_h (by decide) (by rfl) (by assumption) (by intro p hp; repeat (first | exact hp | refine List.Mem.tail _ ?_ | refine List.mem_append_right _ ?_)) (rowF (by rfl)) (by first | exact ints_at hkop | exact ints_at hk2op | exact bools_at hkwh | exact bools_at hk2wh) (by rfl) ?_
            | (refine SL_indexAddr_h (by decide) (by rfl) (by rfl) hso (by intro p hp; repeat (first | exact hp | refine List.Mem.tail _ ?_ | refine List.mem_append_right _ ?_)) (slF (by rfl)) _ (by first | rfl | exact (Int.toNat_of_nonneg (by omega)).symm) (by simp only [List.length_map]; omega) (fun pa hpa => ?_))
            | refine SL_len_v (by decide) (by rfl) (by assumption) (by rfl) (slF (by rfl)) (strs_len0 _) ?_
            | refine SC_seq ?_
            | refine SC_block ?_
            | refine SC_region ?_
            | refine SL_seq ?_
            | refine SL_run (by rfl) (by rfl) ?_
            | refine SL_not (by rfl) (by rfl) (by rfl) (by decide) ?_
            | refine SL_move (by decide) (by rfl) ?_
            | refine SL_assign (by decide) (by rfl) ?_
            | refine SL_pick_t (by decide) (by rfl) (by rfl) ?_
            | refine SL_pick_f (by decide) (by rfl) (by rfl) ?_
            | (refine SL_lss (by decide) (by rfl) (by rfl) (fun hT => ?_) (fun hT => ?_) <;> first | (exfalso; omega) | skip)
            | (refine SL_geq (by decide) (by rfl) (by rfl) (fun hT => ?_) (fun hT => ?_) <;> first | (exfalso; omega) | skip)
            | (refine SL_eql (by decide) (by rfl) (by rfl) (fun hT => ?_) (fun hT => ?_) <;> first | (exfalso; omega) | skip)
            | refine SL_fieldAddr (by decide) (by rfl) (fldF (by rfl)) ?_
            | refine SL_load_o (by decide) (by rfl) (by repeat (first | exact .head _ | refine .tail _ ?_)) (rowF (by rfl)) (by first | assumption | rfl | exact strs_get _ hlt | exact strs_get _ hlt2) (by rfl) ?_
            | refine SC_draw (by kernel_rfl) ?_
            | refine SC_cond_t (by rfl) ?_
            | refine SC_cond_f (by rfl) ?_
            | (refine SC_skip' (fun tm σ hE hH => ?_); refine SC.app ?_ hE hH; clear hE hH; clear tm σ)
            | fail)
          all_goals refine SC_ret (fun tm σ hE hH => Post.intro (Hn := []) (.inr rfl) hE hH (by rfl) trivial List.nodup_nil (fun p hp => (by cases hp)) ?_)
          all_goals exact .inr ⟨fun h => hno (h.ok k hlt), rfl, rfl⟩
    · obtain rfl : k = xs.length := by omega
      have hR : Right xs op wh := ⟨hlo, hlw, hoks, hb1'⟩
      have hne := hR.some h2
      cases o1 with
      | none => exact absurd (ho1.1 rfl) hne
      | some oid1 =>
        have hoid1 := hn1 oid1 rfl
        by_cases hb0 : byesN xs op xs.length = []
        · have hbe : byeOf xs op xs.length = ⟨#[]⟩ := by unfold byeOf; rw [hb0]; rfl
          have hl : linesP xs op wh = outsN xs op wh xs.length := by unfold linesP; rw [hb0]; simp
          rw [hbe]
          dsimp only [outS, outH, List.nil_append, List.cons_append, strs]
          repeat' (first
            | (refine SL_sneq (by decide) (by rfl) (by rfl) (fun hS => ?_) (fun hS => ?_) <;> first | (exact absurd rfl hS) | (exact absurd (by assumption) hS) | (exact absurd hS (by assumption)) | skip)
            | refine SL_len_v (by decide) (by rfl) (by assumption) (by rfl) (slF (by rfl)) (strs_len0 _) ?_
            | refine SC_seq ?_
            | refine SC_region ?_
            | refine SL_seq ?_
            | refine SL_move (by decide) (by rfl) ?_
            | refine SL_assign (by decide) (by rfl) ?_
            | (refine SL_lss (by decide) (by rfl) (by rfl) (fun hT => ?_) (fun hT => ?_) <;> first | (exfalso; omega) | skip)
            | refine SC_cond_f (by rfl) ?_
            | (refine SC_exit (fun tm σ hE hH => ?_); refine SC.app ?_ hE hH; clear hE hH; clear tm σ)
            | (refine SC_skip' (fun tm σ hE hH => ?_); refine SC.app ?_ hE hH; clear hE hH; clear tm σ)
            | fail)
          refine SC_ret (fun tm σ hE hH => Post.intro (Hn := [(oid1, _)]) (.inr rfl) hE hH (by rfl) ⟨(by repeat (first | exact .head _ | refine .tail _ ?_)), trivial⟩ (by simp) (fun p hp => by cases List.mem_singleton.1 hp; exact hoid1) ?_)
          exact .inl ⟨hR, oid1, by rw [hl]; rfl, by rw [hl]; rfl⟩
        · obtain ⟨b, hb⟩ : ∃ b, byesN xs op xs.length = [b] := by
            match hbb : byesN xs op xs.length, hb1' with
            | [], _ => exact absurd hbb hb0
            | [y], _ => exact ⟨y, rfl⟩
          have hbe : byeOf xs op xs.length = b := by unfold byeOf; rw [hb]; rfl
          have hbs := hbsz b (by rw [hb]; exact List.mem_singleton.2 rfl)
          have hbn : b ≠ ⟨#[]⟩ := by
            intro e
            have := hbs.1
            rw [e] at this
            exact absurd this (by decide)
          have hl : linesP xs op wh = outsN xs op wh xs.length ++ [b ++ endS] := by unfold linesP; rw [hb]; rfl
          rw [hbe]
          dsimp only [outS, outH, List.nil_append, List.cons_append, strs]
          repeat' (first
            | refine SL_append1_own (by decide) (by rfl) (by rfl) (by repeat (first | exact .head | apply Upd.tail)) (by first | exact (List.length_map _).symm | simp only [List.length_map]) (by first | exact .inl (by assumption) | exact .inr (by simp)) (by repeat (first | exact .head _ | refine .tail _ ?_)) (elF (by rfl)) (sliceOf_spec (slF (by rfl))).1 (by rfl) (by first | omega | (simp only [List.length_map]; omega)) (by first | omega | (simp only [List.length_map]; omega)) (fun id hid => ?_)
            | (refine SL_sneq (by decide) (by rfl) (by rfl) (fun hS => ?_) (fun hS => ?_) <;> first | (exact absurd rfl hS) | (exact absurd (by assumption) hS) | (exact absurd hS (by assumption)) | skip)
            | refine SL_cat (by decide) (by rfl) (by rfl) (by simp only [ByteArray.size_append, sz3p, sz6p]; omega) ?_
            | refine SL_len_v (by decide) (by rfl) (by assumption) (by rfl) (slF (by rfl)) (strs_len0 _) ?_
            | refine SC_seq ?_
            | refine SC_region ?_
            | refine SL_seq ?_
            | refine SL_move (by decide) (by rfl) ?_
            | refine SL_assign (by decide) (by rfl) ?_
            | (refine SL_lss (by decide) (by rfl) (by rfl) (fun hT => ?_) (fun hT => ?_) <;> first | (exfalso; omega) | skip)
            | refine SL_build1 (by decide) (by rfl) (elF (by rfl)) (by rfl) (by rfl) (fun id hid => ?_)
            | refine SC_cond_t (by rfl) ?_
            | refine SC_cond_f (by rfl) ?_
            | (refine SC_exit (fun tm σ hE hH => ?_); refine SC.app ?_ hE hH; clear hE hH; clear tm σ)
            | fail)
          refine SC_ret (fun tm σ hE hH => Post.intro (Hn := [(id, _)]) (.inr rfl) hE hH (by rfl) ⟨(by repeat (first | exact .head _ | refine .tail _ ?_)), trivial⟩ (by simp) (fun p hp => by cases List.mem_singleton.1 hp; omega) ?_)
          exact .inl ⟨hR, id, by rw [hl, List.length_append]; rfl, by rw [hl, strs, List.map_append]; rfl⟩
  · refine Fn_body (N := 111) (ho _ _) Tryz.func23 rfl rfl fun B => ?_
    repeat' (first
      | (refine SL_box (d := 3) (by decide) (by rfl) (cells_r _ _) (fun b3 hid3 => ?_))
      | refine SL_len_h (by decide) (by rfl) hsw (by rfl) (slF (by rfl)) (bools_len1 _) ?_
      | refine SL_len_h (by decide) (by rfl) hso (by rfl) (slF (by rfl)) (ints_len1 _) ?_
      | refine SL_len_v (by decide) (by rfl) (by assumption) (by rfl) (slF (by rfl)) (strs_len0 _) ?_
      | refine SC_seq ?_
      | refine SC_region ?_
      | refine SL_seq ?_
      | refine SL_run (by rfl) (by rfl) ?_
      | refine SL_not (by rfl) (by rfl) (by rfl) (by decide) ?_
      | refine SL_move (by decide) (by rfl) ?_
      | refine SL_assign (by decide) (by rfl) ?_
      | refine SL_pick_t (by decide) (by rfl) (by rfl) ?_
      | refine SL_pick_f (by decide) (by rfl) (by rfl) ?_
      | (refine SL_neq (by decide) (by rfl) (by rfl) (fun hT => ?_) (fun hT => ?_) <;> first | (exfalso; omega) | skip)
      | refine SL_fieldAddr (by decide) (by rfl) (fldF (by rfl)) ?_
      | refine SL_load_o (by decide) (by rfl) (by repeat (first | exact .head _ | refine .tail _ ?_)) (rowF (by rfl)) (by first | assumption | rfl | exact strs_get _ hlt | exact strs_get _ hlt2) (by rfl) ?_
      | refine SC_cond_t (by rfl) ?_
      | fail)
    all_goals refine SC_ret (fun tm σ hE hH => Post.intro (Hn := []) (.inr rfl) hE hH (by rfl) trivial List.nodup_nil (fun p hp => (by cases hp)) ?_)
    all_goals exact .inr ⟨fun h => hlens ⟨h.lo, h.lw⟩, rfl, rfl⟩
end Go.Proofs.YtnhnlkljcfbhfaaGreatDoor
/- The plain law of reading a diagram, line by line, word by word. -/
namespace Go.Proofs.YtnhnlkljcfbhfaaGreatDoor
open Go
/-- The words of a line. -/
def wordsOf (x : ByteArray) : List ByteArray := Lib.splitB ⟨#[32]⟩ 0 (Lib.countB x ⟨#[32]⟩) x
theorem wordsOf_len (x : ByteArray) : (wordsOf x).length = Lib.countB x ⟨#[32]⟩ + 1 := Lib.splitB_all ⟨#[32]⟩ (by decide) 0 _ x rfl
theorem wordsOf_le (x : ByteArray) : (wordsOf x).length ≤ x.size + 1 := by
  rw [wordsOf_len]
  have := Lib.countB_le ⟨#[32]⟩ (by decide) x.size x (Nat.le_refl _)
  omega
/-- The first byte of a word. -/
def fst (w : ByteArray) : UInt8 := w.data.toList.headD 0
theorem one_byte {w : ByteArray} (h : (w.size : Int) = 1) : w.data.toList = [fst w] := by
  have h1 : w.data.toList.length = 1 := by
    have : w.data.toList.length = w.size := Array.length_toList
    omega
  unfold fst
  match hl : w.data.toList, h1 with
  | [c], _ => rfl
theorem idx0 {w : ByteArray} (h : (w.size : Int) = 1) : w.data.toList[0]? = some (fst w) := by rw [one_byte h]; rfl
theorem readW_dot {w : ByteArray} (h : w = ⟨#[46]⟩) : readW w = some 0 := by unfold readW; rw [if_pos h]
theorem readW_one {w : ByteArray} (h : w ≠ ⟨#[46]⟩) (h1 : (w.size : Int) = 1) : readW w = parP ((fst w).toNat : Int) := by
  unfold readW
  rw [if_neg h, one_byte h1]
theorem readL_snoc : ∀ {ws : List ByteArray} {rs : List Int} {w : ByteArray} {p : Int}, readL ws = some rs → readW w = some p → readL (ws ++ [w]) = some (rs ++ [p])
  | [], rs, w, p, h, hw => by
    simp only [readL, Option.some.injEq] at h
    subst h
    simp only [List.nil_append, readL, hw]
  | v :: ws, rs, w, p, h, hw => by
    unfold readL at h
    split at h
    · rename_i q qs hq hqs
      cases h
      rw [List.cons_append]
      unfold readL
      rw [hq, readL_snoc hqs hw]
      rfl
    · cases h
theorem readL_len : ∀ {ws : List ByteArray} {rs : List Int}, readL ws = some rs → rs.length = ws.length
  | [], rs, h => by
    simp only [readL, Option.some.injEq] at h
    subst h; rfl
  | v :: ws, rs, h => by
    unfold readL at h
    split at h
    · rename_i q qs hq hqs
      cases h
      rw [List.length_cons, List.length_cons, readL_len hqs]
    · cases h
/-- What is known after some lines. -/
structure PInv (N0 : Nat) (xs : List ByteArray) (n fl : Nat) (ps : List Int) (o : Option Nat) : Prop where
  le : n ≤ xs.length
  on : o = none ↔ n = 0
  z : n = 0 → fl = 0 ∧ ps = []
  p : 0 < n → 1 ≤ fl ∧ fl ≤ 8 ∧ xs.length ≤ 8
  len : ps.length = n * fl
  ln : ∀ j, j < n → xs[xs.length - 1 - j]? = some (lineP ((ps.drop (j * fl)).take fl))
  new : ∀ id, o = some id → N0 ≤ id
theorem PInv.zero (N0 : Nat) (xs : List ByteArray) : PInv N0 xs 0 0 [] none where
  le := Nat.zero_le _
  on := by simp
  z := fun _ => ⟨rfl, rfl⟩
  p := fun h => absurd h (by omega)
  len := by simp
  ln := fun j hj => absurd hj (by omega)
  new := fun id h => by cases h
theorem PInv.step {N0 : Nat} {xs : List ByteArray} {n fl : Nat} {ps rs : List Int} {o : Option Nat} {x : ByteArray} {id : Nat} (h : PInv N0 xs n fl ps o) (hn : n < xs.length) (hx : xs[xs.length - 1 - n]? = some x) (hr : readL (wordsOf x) = some rs) (hf : 0 < n → fl = (wordsOf x).length)
    (h8 : (wordsOf x).length ≤ 8) (hx8 : xs.length ≤ 8) (hid : N0 ≤ id) : PInv N0 xs (n + 1) (wordsOf x).length (ps ++ rs) (some id) := by
  have hrl := readL_len hr
  have hln : ps.length = n * (wordsOf x).length := by
    by_cases h0 : n = 0
    · rw [(h.z h0).2, h0]; simp
    · rw [h.len, hf (by omega)]
  have hlp : lineP rs = x := lineP_of hr
  refine ⟨by omega, by simp, fun h0 => by omega, fun _ => ⟨?_, h8, hx8⟩, ?_, fun j hj => ?_, fun j hj => by cases hj; exact hid⟩
  · rw [wordsOf_len]; omega
  · rw [List.length_append, hln, hrl, Nat.add_mul, Nat.one_mul]
  · by_cases hjn : j < n
    · have hfl := hf (by omega)
      have hle : j * (wordsOf x).length + (wordsOf x).length ≤ ps.length := by
        rw [hln]
        have := Nat.mul_le_mul_right (wordsOf x).length (show j + 1 ≤ n by omega)
        rw [Nat.add_mul, Nat.one_mul] at this
        exact this
      rw [h.ln j hjn, hfl, List.drop_append_of_le_length (by omega), List.take_append_of_le_length (by rw [List.length_drop]; omega)]
    · obtain rfl : j = n := by omega
      rw [hx, ← hln, List.drop_left, ← hrl, List.take_of_length_le (Nat.le_refl _), hlp]
/-- All lines read: the diagram of the pieces is the lines. -/
theorem PInv.all {N0 : Nat} {xs : List ByteArray} {n fl : Nat} {ps : List Int} {o : Option Nat} (h : PInv N0 xs n fl ps o) (hn : n = xs.length) : diagR fl ps xs.length = xs := by
  refine diagR_of fl ps xs fun j hj => ?_
  have := h.ln j (by omega)
  rw [List.getElem?_eq_getElem (by omega)] at this
  exact (Option.some.inj this).symm
end Go.Proofs.YtnhnlkljcfbhfaaGreatDoor
/- Reading a diagram: ParseDiagram, walked. -/
namespace Go.Proofs.YtnhnlkljcfbhfaaGreatDoor
open Go Go.Ab
set_option maxRecDepth 100000
theorem bd38 : (Tryz.prog.funcs[38]?).map (·.body.isNone) = some false := by rw [Tryz.func38]; rfl
theorem bd39 : (Tryz.prog.funcs[39]?).map (·.body.isNone) = some false := by rw [Tryz.func39]; rfl
theorem b26 : effBuild Tryz.prog 26 [] = some (.s (.agg #[.int .i64 0, .int .i64 0, .slice none 0 0])) := by kernel_rfl
def outP (ps : List Int) : Option Nat → List (Nat × AObj)
  | none => []
  | some id => [(id, .cells 81 1 false (ps.map fun p => [.s (.int .i8 p)]))]
def zrow : List AV := [.s (.int .i64 0), .s (.int .i64 0), .s (.slice none 0 0)]
theorem mkz (a b c : Value) : mkAgg ((List.drop 0 [AV.s a, AV.s b, AV.s c]).take 3) = .s (.agg #[a, b, c]) := rfl
def PDR (xs : List ByteArray) (v : AV) (Hn : List (Nat × AObj)) : Prop := (v = .s (.tuple #[.agg #[.int .i64 0, .int .i64 0, .slice none 0 0], .int .i64 6]) ∧ Hn = []) ∨
  ∃ (F R : Nat) (id : Nat) (ps : List Int), v = .tup [brd F R (.sl id 0 ps.length none), .s (.int .i64 0)] ∧ Hn = [(id, .cells 81 1 false (ps.map fun p => [AV.s (.int .i8 p)]))] ∧ OkB F R ps ∧ diagR F ps R = xs
attribute [local irreducible] SC SL wpc wpl wpd wpf wpy wpn FnC FnW RdW SD
set_option pp.deepTerms false
set_option pp.maxSteps 900
set_option maxHeartbeats 4000000
theorem pardia {G : Gl} {xs : List ByteArray} {l : AV} (hsl : StV xs l) (hx9 : xs.length ≤ 9) (hxs : ∀ x ∈ xs, x.size ≤ 100) (ho : ∀ a, G.orc 13 [a] = none)
    (h38 : ∀ (x : ByteArray) (ws : List ByteArray), ws = wordsOf x → x.size ≤ 100 → FnC Tryz.prog G 38 [.s (.string x), .s (.string ⟨#[32]⟩)] [] (fun v Hn => ∃ id, v = .sl id 0 ws.length none ∧ Hn = [(id, .cells 9 1 true (strs ws))]))
    (h39n : ∀ c : UInt8, parP (c.toNat : Int) = none → FnC Tryz.prog G 39 [.s (.int .u8 c.toNat)] [] (fun v Hn => v = .s (.tuple #[.int .i8 0, .int .i64 6]) ∧ Hn = []))
    (h39s : ∀ (c : UInt8) (p : Int), parP (c.toNat : Int) = some p → FnC Tryz.prog G 39 [.s (.int .u8 c.toNat)] [] (fun v Hn => v = .s (.tuple #[.int .i8 p, .int .i64 0]) ∧ Hn = []))
    (h10n : FnC Tryz.prog G 10 [.s (.agg #[.int .i64 0, .int .i64 xs.length, .slice none 0 0])] [] (fun v Hn => v = .s (.bool false) ∧ Hn = []))
    (h10 : ∀ (f r : Nat) (id : Nat) (ps : List Int), ps.length ≤ 100 → FnC Tryz.prog G 10 [brd f r (.sl id 0 ps.length none)] [(id, .cells 81 1 false (ps.map fun p => [AV.s (.int .i8 p)]))] (fun v Hn => Says (OkB f r ps) v ∧ Hn = [])) :
    FnC Tryz.prog G 13 [l] [] (PDR xs) := by
  unfold StV at hsl
  refine Fn_body (N := 88) (ho _) Tryz.func13 rfl rfl fun B => ?_
  repeat' (first
    | refine SL_store_n (by rfl) (by rfl) (by repeat (first | exact .head _ | refine .tail _ ?_)) (by rfl) (by first | rfl | exact cells_b _ _ _) (by rfl) (by repeat (first | exact .head | apply Upd.tail)) (by first | exact .inl (by assumption) | exact .inr (by simp)) (szF (by rfl)) (Nat.le_of_ble_eq_true (by rfl)) (by rfl) ?_
    | refine SL_alloc (d := 4) (by decide) (zeroF (by rfl)) (fun b4 hid4 => ?_)
    | refine SL_alloc (d := 2) (by decide) (zeroF (by rfl)) (fun b2 hid2 => ?_)
    | refine SL_len_v (by decide) (by rfl) (by assumption) (by rfl) (slF (by rfl)) (strs_len _) ?_
    | refine SC_seq ?_
    | refine SC_block ?_
    | refine SC_region ?_
    | refine SL_seq ?_
    | refine SL_move (by decide) (by rfl) ?_
    | refine SL_assign (by decide) (by rfl) ?_
    | refine SL_sub (by decide) (by rfl) (by rfl) (by omega) (by omega) ?_
    | refine SL_fieldAddr (by decide) (by rfl) (fldF (by rfl)) ?_
    | fail)
  refine SC_nd fun hnd0 => ?_
  refine SC_loop (fun a : Nat × Nat × List Int × Option Nat => [(0, l), (2, .ptr b2 0 0), (3, .s (.int .i64 0)), (4, .ptr b4 0 0), (5, .s (.int .i64 ((xs.length : Int) - 1 - a.1)))]) (fun a => (b4, AObj.cells 26 3 true [[.s (.int .i64 a.2.1), .s (.int .i64 xs.length), outS a.2.2.1.length a.2.2.2]]) :: (b2, AObj.cells 26 3 true [zrow]) :: outP a.2.2.1 a.2.2.2) (fun _ => []) (fun a => PInv B.next xs a.1 a.2.1 a.2.2.1 a.2.2.2) (fun a => xs.length - a.1) (0, 0, [], none) (PInv.zero _ _) ⟨rfl, rfl, rfl, rfl, ?_, trivial⟩ ⟨.head _, .tail _ (.head _), trivial⟩ hnd0 rfl ?_
  · show some (AV.s (Value.int IntKind.i64 ((xs.length : Int) - 1))) = some (.s (.int .i64 ((xs.length : Int) - 1 - ((0 : Nat) : Int))))
    rw [Int.natCast_zero, Int.sub_zero]
  rintro ⟨n, fl, ps, o⟩ hI
  dsimp only at hI
  by_cases hn : n < xs.length
  · obtain ⟨q, hq⟩ : ∃ q : Nat, (xs.length : Int) - 1 - n = q := ⟨xs.length - 1 - n, by omega⟩
    have hqx : q < xs.length := by omega
    have hqn : xs.length - 1 - n = q := by omega
    dsimp only
    rw [hq]
    obtain ⟨ws, hws⟩ : ∃ ws, ws = wordsOf xs[q] := ⟨_, rfl⟩
    have hx100 := hxs _ (List.getElem_mem hqx)
    have hw101 := wordsOf_le xs[q]
    rw [← hws] at hw101
    have hwpos : 1 ≤ ws.length := by rw [hws, wordsOf_len]; omega
    have hxq : xs[xs.length - 1 - n]? = some xs[q] := by rw [hqn, List.getElem?_eq_getElem hqx]
    by_cases hok : ws.length ≤ 8 ∧ xs.length ≤ 8 ∧ (0 < n → fl = ws.length)
    · obtain ⟨hok1, hok2, hok3⟩ := hok
      have hpsl : ps.length ≤ 64 := by
        rw [hI.len]
        by_cases h0 : n = 0
        · rw [h0]; omega
        · rw [hok3 (by omega)]
          have : n * ws.length ≤ 8 * 8 := Nat.mul_le_mul (by omega) (by omega)
          omega
      have hgo : (n = 0 ∧ fl = 0) ∨ (0 < n ∧ ws.length = fl) := by
        by_cases h0 : n = 0
        · exact .inl ⟨h0, (hI.z h0).1⟩
        · exact .inr ⟨by omega, (hok3 (by omega)).symm⟩
      rcases hgo with ⟨hn0, hf0⟩ | ⟨hn0, hf0⟩
      ·
        repeat' (first
          | refine SL_store_n (by rfl) (by rfl) (by repeat (first | exact .head _ | refine .tail _ ?_)) (by rfl) (by first | rfl | exact cells_b _ _ _) (by rfl) (by repeat (first | exact .head | apply Upd.tail)) (by first | exact .inl (by assumption) | exact .inr (by simp)) (szF (by rfl)) (Nat.le_of_ble_eq_true (by rfl)) (by rfl) ?_
          | (refine SL_call (by decide) (by rfl) bd38 (by rfl) (by rfl) (h38 _ ws hws hx100) trivial List.nodup_nil ?_; rintro _ _ hwn ⟨wid, rfl, rfl⟩; rw [List.singleton_append])
          | refine SL_len_v (by decide) (by rfl) (by assumption) (by rfl) (slF (by rfl)) (strs_len _) ?_
          | refine SC_seq ?_
          | refine SC_block ?_
          | refine SC_region ?_
          | refine SL_seq ?_
          | refine SL_run (by rfl) (by rfl) ?_
          | refine SL_move (by decide) (by rfl) ?_
          | refine SL_assign (by decide) (by rfl) ?_
          | refine SL_pick_f (by decide) (by rfl) (by rfl) ?_
          | refine SL_sub (by decide) (by rfl) (by rfl) (by omega) (by omega) ?_
          | (refine SL_gtr (by decide) (by rfl) (by rfl) (fun hT => ?_) (fun hT => ?_) <;> first | (exfalso; omega) | skip)
          | (refine SL_geq (by decide) (by rfl) (by rfl) (fun hT => ?_) (fun hT => ?_) <;> first | (exfalso; omega) | skip)
          | (refine SL_eql (by decide) (by rfl) (by rfl) (fun hT => ?_) (fun hT => ?_) <;> first | (exfalso; omega) | skip)
          | (refine SL_neq (by decide) (by rfl) (by rfl) (fun hT => ?_) (fun hT => ?_) <;> first | (exfalso; omega) | skip)
          | refine SL_fieldAddr (by decide) (by rfl) (fldF (by rfl)) ?_
          | refine SL_len_sl (by decide) (by rfl) (by rfl) (sliceOf_spec (slF (by rfl))).1 ?_
          | refine SL_indexAddr_v (by decide) (by rfl) (by rfl) (by assumption) (slF (by rfl)) _ (by first | rfl | exact (Int.toNat_of_nonneg (by omega)).symm) (by simp only [List.length_map]; omega) (fun ad => ?_)
          | refine SL_load_r (by decide) (by rfl) (rowF (by rfl)) (by first | assumption | rfl | exact strs_get _ hlt | exact strs_get _ hqx) (by rfl) ?_
          | refine SL_load_o (by decide) (by rfl) (by repeat (first | exact .head _ | refine .tail _ ?_)) (rowF (by rfl)) (by first | assumption | rfl | exact strs_get _ hlt | exact strs_get _ hqx) (by rfl) ?_
          | refine SC_cond_t (by rfl) ?_
          | refine SC_cond_f (by rfl) ?_
          | (refine SC_skip' (fun tm σ hE hH => ?_); refine SC.app ?_ hE hH; clear hE hH; clear tm σ)
          | fail)
        refine SC_nd fun hnd => ?_
        refine SC_loop (fun a : Nat × List Int × Option Nat => [(0, l), (2, .ptr b2 0 0), (3, .s (.int .i64 0)), (4, .ptr b4 0 0), (5, .s (.int .i64 q)), (54, .sl wid 0 ws.length none), (55, .s (.int .i64 ws.length)), (56, .s (.int .i64 a.1))]) (fun a => (wid, AObj.cells 9 1 true (strs ws)) :: (b4, AObj.cells 26 3 true [[.s (.int .i64 ws.length), .s (.int .i64 xs.length), outS (ps ++ a.2.1).length a.2.2]]) :: (b2, AObj.cells 26 3 true [zrow]) :: outP (ps ++ a.2.1) a.2.2) (fun _ => []) (fun a => a.1 ≤ ws.length ∧ readL (ws.take a.1) = some a.2.1 ∧ (a.2.2 = none ↔ ps ++ a.2.1 = []) ∧ ∀ id, a.2.2 = some id → B.next ≤ id) (fun a => ws.length - a.1) (0, [], o) ⟨by omega, rfl, ?_, fun id h => hI.new id h⟩ ⟨rfl, rfl, rfl, rfl, rfl, rfl, rfl, rfl, trivial⟩ (.of_mem fun p hp => ?_) ?_ rfl ?_
        · rw [(hI.z hn0).2]
          exact ⟨fun _ => rfl, fun _ => hI.on.2 hn0⟩
        · have ho0 := hI.on.2 hn0
          obtain ⟨rfl, rfl⟩ := hI.z hn0
          subst ho0
          exact hp
        · have ho0 := hI.on.2 hn0
          obtain ⟨rfl, rfl⟩ := hI.z hn0
          subst ho0
          exact hnd
        rintro ⟨k, rs, o'⟩ ⟨hk, hrd, hon', hnew'⟩
        dsimp only at hk hrd hon' hnew'
        have hrl := readL_len hrd
        rw [List.length_take] at hrl
        by_cases hlt : k < ws.length
        · have htk := List.take_succ_eq_append_getElem hlt
          by_cases hdot : ws[k] = ⟨#[46]⟩
          · have hnx := readL_snoc hrd (readW_dot hdot)
            rw [← htk] at hnx
            cases o' with
            | none =>
              have he := hon'.1 rfl
              obtain ⟨rfl, rfl⟩ := List.append_eq_nil_iff.1 he
              dsimp only [outS, outP, List.length_nil, List.nil_append]
              repeat' (first
                | refine SL_store_n (by rfl) (by rfl) (by repeat (first | exact .head _ | refine .tail _ ?_)) (by rfl) (by first | rfl | exact cells_b _ _ _) (by rfl) (by repeat (first | exact .head | apply Upd.tail)) (by first | exact .inl (by assumption) | exact .inr (by simp)) (szF (by rfl)) (Nat.le_of_ble_eq_true (by rfl)) (by rfl) ?_
                | (refine SL_sneq (by decide) (by rfl) (by rfl) (fun hS => ?_) (fun hS => ?_) <;> first | (exact absurd (by assumption) hS) | (exact absurd hS (by assumption)) | skip)
                | refine SC_seq ?_
                | refine SC_block ?_
                | refine SC_region ?_
                | refine SL_seq ?_
                | (refine SL_nil (fun tm σ hE hH => ?_); refine SC.app ?_ hE hH; clear hE hH; clear tm σ)
                | refine SL_move (by decide) (by rfl) ?_
                | refine SL_assign (by decide) (by rfl) ?_
                | refine SL_add (by decide) (by rfl) (by rfl) (by omega) (by omega) ?_
                | (refine SL_lss (by decide) (by rfl) (by rfl) (fun hT => ?_) (fun hT => ?_) <;> first | (exfalso; omega) | skip)
                | refine SL_fieldAddr (by decide) (by rfl) (fldF (by rfl)) ?_
                | refine SL_indexAddr_0 (by decide) (by rfl) (by rfl) (by repeat (first | exact .head _ | refine .tail _ ?_)) (slF (by rfl)) _ (by first | rfl | exact (Int.toNat_of_nonneg (by omega)).symm) (by omega) ?_
                | refine SL_load_o (by decide) (by rfl) (by repeat (first | exact .head _ | refine .tail _ ?_)) (rowF (by rfl)) (by first | assumption | rfl | exact strs_get _ hlt | exact strs_get _ hqx) (by rfl) ?_
                | refine SL_build1 (by decide) (by rfl) (elF (by rfl)) (by rfl) (by rfl) (fun id hid => ?_)
                | refine SL_append1_nil (by decide) (by rfl) (by rfl) (by repeat (first | exact .head _ | refine .tail _ ?_)) (elF (by rfl)) (sliceOf_spec (slF (by rfl))).1 (by rfl) (by decide) (fun id hid => ?_)
                | refine SC_cond_t (by rfl) ?_
                | refine SC_cond_f (by rfl) ?_
                | (refine SC_skip' (fun tm σ hE hH => ?_); refine SC.app ?_ hE hH; clear hE hH; clear tm σ)
                | fail)
              refine SL_nil fun tm σ hE hH => ⟨(k + 1, [0], some id), by dsimp only; omega, ⟨by dsimp only; omega, hnx, by simp, fun j hj => by cases hj; assumption⟩, tm, σ, rfl, hE.sub ⟨rfl, rfl, rfl, rfl, rfl, rfl, rfl, rfl, trivial⟩, ?_⟩
              dsimp only [outS, outP]
              exact (hH.perm (List.perm_append_comm (l₁ := [_, _]) (l₂ := [_, _, _]))).subl (.cons_cons _ (.cons_cons _ (.cons_cons _ (.cons_cons _ (.cons _ .slnil)))))
            | some oid =>
              have hoid := hnew' oid rfl
              have hlen : (ps ++ rs).length ≤ 80 := by rw [List.length_append]; omega
              dsimp only [outS, outP]
              repeat' (first
                | refine SL_store_n (by rfl) (by rfl) (by repeat (first | exact .head _ | refine .tail _ ?_)) (by rfl) (by first | rfl | exact cells_b _ _ _) (by rfl) (by repeat (first | exact .head | apply Upd.tail)) (by first | exact .inl (by assumption) | exact .inr (by simp)) (szF (by rfl)) (Nat.le_of_ble_eq_true (by rfl)) (by rfl) ?_
                | (refine SL_append1_own (by decide) (by rfl) (by rfl) (by repeat (first | exact .head | apply Upd.tail)) (by rw [List.length_map]) (by first | exact .inl (by assumption) | exact .inr (by simp)) (by repeat (first | exact .head _ | refine .tail _ ?_)) (elF (by rfl)) (sliceOf_spec (slF (by rfl))).1 (by rfl) (by omega) (by omega) (fun id hid => ?_))
                | (refine SL_sneq (by decide) (by rfl) (by rfl) (fun hS => ?_) (fun hS => ?_) <;> first | (exact absurd (by assumption) hS) | (exact absurd hS (by assumption)) | skip)
                | refine SC_seq ?_
                | refine SC_block ?_
                | refine SC_region ?_
                | refine SL_seq ?_
                | (refine SL_nil (fun tm σ hE hH => ?_); refine SC.app ?_ hE hH; clear hE hH; clear tm σ)
                | refine SL_move (by decide) (by rfl) ?_
                | refine SL_assign (by decide) (by rfl) ?_
                | refine SL_add (by decide) (by rfl) (by rfl) (by omega) (by omega) ?_
                | (refine SL_lss (by decide) (by rfl) (by rfl) (fun hT => ?_) (fun hT => ?_) <;> first | (exfalso; omega) | skip)
                | refine SL_fieldAddr (by decide) (by rfl) (fldF (by rfl)) ?_
                | refine SL_indexAddr_0 (by decide) (by rfl) (by rfl) (by repeat (first | exact .head _ | refine .tail _ ?_)) (slF (by rfl)) _ (by first | rfl | exact (Int.toNat_of_nonneg (by omega)).symm) (by omega) ?_
                | refine SL_load_o (by decide) (by rfl) (by repeat (first | exact .head _ | refine .tail _ ?_)) (rowF (by rfl)) (by first | assumption | rfl | exact strs_get _ hlt | exact strs_get _ hqx) (by rfl) ?_
                | refine SL_build1 (by decide) (by rfl) (elF (by rfl)) (by rfl) (by rfl) (fun id hid => ?_)
                | refine SC_cond_t (by rfl) ?_
                | refine SC_cond_f (by rfl) ?_
                | (refine SC_skip' (fun tm σ hE hH => ?_); refine SC.app ?_ hE hH; clear hE hH; clear tm σ)
                | fail)
              refine SL_nil fun tm σ hE hH => ⟨(k + 1, rs ++ [0], some id), by dsimp only; omega, ⟨by dsimp only; omega, hnx, by simp, fun j hj => by cases hj; assumption⟩, tm, σ, rfl, hE.sub ⟨rfl, rfl, rfl, rfl, rfl, rfl, rfl, rfl, trivial⟩, ?_⟩
              dsimp only [outS, outP]
              rw [← List.append_assoc, List.length_append, List.map_append]
              exact (hH.perm (List.perm_append_comm (l₁ := [_, _]) (l₂ := [_, _, _, _]))).subl (.cons_cons _ (.cons_cons _ (.cons_cons _ (.cons _ (.cons_cons _ (.cons _ .slnil))))))
          · by_cases hsz : (ws[k].size : Int) = 1
            · cases hpp : parP ((fst ws[k]).toNat : Int) with
              | none =>
                repeat' (first
                  | refine SL_store_n (by rfl) (by rfl) (by repeat (first | exact .head _ | refine .tail _ ?_)) (by rfl) (by first | rfl | exact cells_b _ _ _) (by rfl) (by repeat (first | exact .head | apply Upd.tail)) (by first | exact .inl (by assumption) | exact .inr (by simp)) (szF (by rfl)) (Nat.le_of_ble_eq_true (by rfl)) (by rfl) ?_
                  | (refine SL_sneq (by decide) (by rfl) (by rfl) (fun hS => ?_) (fun hS => ?_) <;> first | (exact absurd (by assumption) hS) | (exact absurd hS (by assumption)) | skip)
                  | refine SL_build (by decide) (by rfl) b26 ?_
                  | (have hw1 := hT; refine SL_index_s (by decide) (by rfl) (by rfl) Tryz.underlying9 (i := 0) (by rfl) (idx0 hw1) ?_)
                  | refine SL_len_s (by decide) (by rfl) (by rfl) Tryz.underlying9 ?_
                  | (refine SL_call (by decide) (by rfl) bd39 (by rfl) (by rfl) (h39n _ (by assumption)) trivial List.nodup_nil ?_; rintro _ _ _ ⟨rfl, rfl⟩; rw [List.nil_append])
                  | refine SC_seq ?_
                  | refine SC_block ?_
                  | refine SC_region ?_
                  | refine SL_seq ?_
                  | refine SL_move (by decide) (by rfl) ?_
                  | refine SL_assign (by decide) (by rfl) ?_
                  | (refine SL_lss (by decide) (by rfl) (by rfl) (fun hT => ?_) (fun hT => ?_) <;> first | (exfalso; omega) | skip)
                  | (refine SL_neq (by decide) (by rfl) (by rfl) (fun hT => ?_) (fun hT => ?_) <;> first | (exfalso; omega) | skip)
                  | refine SL_extract_s (by decide) (by rfl) (by rfl) ?_
                  | refine SL_indexAddr_0 (by decide) (by rfl) (by rfl) (by repeat (first | exact .head _ | refine .tail _ ?_)) (slF (by rfl)) _ (by first | rfl | exact (Int.toNat_of_nonneg (by omega)).symm) (by omega) ?_
                  | refine SL_load_o (by decide) (by rfl) (by repeat (first | exact .head _ | refine .tail _ ?_)) (rowF (by rfl)) (by first | assumption | rfl | exact strs_get _ hlt | exact strs_get _ hqx) (by rfl) ?_
                  | refine SC_cond_t (by rfl) ?_
                  | refine SC_cond_f (by rfl) ?_
                  | (refine SC_skip' (fun tm σ hE hH => ?_); refine SC.app ?_ hE hH; clear hE hH; clear tm σ)
                  | fail)
                refine SC_ret (fun tm σ hE hH => Post.introC (Hn := []) (.inr rfl) hE hH rfl (by rfl) (by rfl) (by repeat (first | exact .head _ | refine .tail _ ?_)) (rowF (by rfl)) (by rfl) (Nat.le_of_ble_eq_true (by rfl)) (mkz _ _ _) trivial List.nodup_nil (fun p hp => (by cases hp)) ?_)
                exact .inl ⟨rfl, rfl⟩
              | some p =>
                have hnx := readL_snoc hrd ((readW_one hdot hsz).trans hpp)
                rw [← htk] at hnx
                cases o' with
                | none =>
                  have he := hon'.1 rfl
                  obtain ⟨rfl, rfl⟩ := List.append_eq_nil_iff.1 he
                  dsimp only [outS, outP, List.length_nil, List.nil_append]
                  repeat' (first
                    | refine SL_store_n (by rfl) (by rfl) (by repeat (first | exact .head _ | refine .tail _ ?_)) (by rfl) (by first | rfl | exact cells_b _ _ _) (by rfl) (by repeat (first | exact .head | apply Upd.tail)) (by first | exact .inl (by assumption) | exact .inr (by simp)) (szF (by rfl)) (Nat.le_of_ble_eq_true (by rfl)) (by rfl) ?_
                    | (refine SL_sneq (by decide) (by rfl) (by rfl) (fun hS => ?_) (fun hS => ?_) <;> first | (exact absurd (by assumption) hS) | (exact absurd hS (by assumption)) | skip)
                    | (have hw1 := hT; refine SL_index_s (by decide) (by rfl) (by rfl) Tryz.underlying9 (i := 0) (by rfl) (idx0 hw1) ?_)
                    | refine SL_len_s (by decide) (by rfl) (by rfl) Tryz.underlying9 ?_
                    | (refine SL_call (by decide) (by rfl) bd39 (by rfl) (by rfl) (h39s _ _ (by assumption)) trivial List.nodup_nil ?_; rintro _ _ _ ⟨rfl, rfl⟩; rw [List.nil_append])
                    | refine SC_seq ?_
                    | refine SC_block ?_
                    | refine SC_region ?_
                    | refine SL_seq ?_
                    | (refine SL_nil (fun tm σ hE hH => ?_); refine SC.app ?_ hE hH; clear hE hH; clear tm σ)
                    | refine SL_move (by decide) (by rfl) ?_
                    | refine SL_assign (by decide) (by rfl) ?_
                    | refine SL_add (by decide) (by rfl) (by rfl) (by omega) (by omega) ?_
                    | (refine SL_lss (by decide) (by rfl) (by rfl) (fun hT => ?_) (fun hT => ?_) <;> first | (exfalso; omega) | skip)
                    | (refine SL_neq (by decide) (by rfl) (by rfl) (fun hT => ?_) (fun hT => ?_) <;> first | (exfalso; omega) | skip)
                    | refine SL_extract_s (by decide) (by rfl) (by rfl) ?_
                    | refine SL_fieldAddr (by decide) (by rfl) (fldF (by rfl)) ?_
                    | refine SL_indexAddr_0 (by decide) (by rfl) (by rfl) (by repeat (first | exact .head _ | refine .tail _ ?_)) (slF (by rfl)) _ (by first | rfl | exact (Int.toNat_of_nonneg (by omega)).symm) (by omega) ?_
                    | refine SL_load_o (by decide) (by rfl) (by repeat (first | exact .head _ | refine .tail _ ?_)) (rowF (by rfl)) (by first | assumption | rfl | exact strs_get _ hlt | exact strs_get _ hqx) (by rfl) ?_
                    | refine SL_build1 (by decide) (by rfl) (elF (by rfl)) (by rfl) (by rfl) (fun id hid => ?_)
                    | refine SL_append1_nil (by decide) (by rfl) (by rfl) (by repeat (first | exact .head _ | refine .tail _ ?_)) (elF (by rfl)) (sliceOf_spec (slF (by rfl))).1 (by rfl) (by decide) (fun id hid => ?_)
                    | refine SC_cond_t (by rfl) ?_
                    | refine SC_cond_f (by rfl) ?_
                    | (refine SC_skip' (fun tm σ hE hH => ?_); refine SC.app ?_ hE hH; clear hE hH; clear tm σ)
                    | fail)
                  refine SL_nil fun tm σ hE hH => ⟨(k + 1, [p], some id), by dsimp only; omega, ⟨by dsimp only; omega, hnx, by simp, fun j hj => by cases hj; assumption⟩, tm, σ, rfl, hE.sub ⟨rfl, rfl, rfl, rfl, rfl, rfl, rfl, rfl, trivial⟩, ?_⟩
                  dsimp only [outS, outP]
                  exact (hH.perm (List.perm_append_comm (l₁ := [_, _]) (l₂ := [_, _, _]))).subl (.cons_cons _ (.cons_cons _ (.cons_cons _ (.cons_cons _ (.cons _ .slnil)))))
                | some oid =>
                  have hoid := hnew' oid rfl
                  have hlen : (ps ++ rs).length ≤ 80 := by rw [List.length_append]; omega
                  dsimp only [outS, outP]
                  repeat' (first
                    | refine SL_store_n (by rfl) (by rfl) (by repeat (first | exact .head _ | refine .tail _ ?_)) (by rfl) (by first | rfl | exact cells_b _ _ _) (by rfl) (by repeat (first | exact .head | apply Upd.tail)) (by first | exact .inl (by assumption) | exact .inr (by simp)) (szF (by rfl)) (Nat.le_of_ble_eq_true (by rfl)) (by rfl) ?_
                    | (refine SL_append1_own (by decide) (by rfl) (by rfl) (by repeat (first | exact .head | apply Upd.tail)) (by rw [List.length_map]) (by first | exact .inl (by assumption) | exact .inr (by simp)) (by repeat (first | exact .head _ | refine .tail _ ?_)) (elF (by rfl)) (sliceOf_spec (slF (by rfl))).1 (by rfl) (by omega) (by omega) (fun id hid => ?_))
                    | (refine SL_sneq (by decide) (by rfl) (by rfl) (fun hS => ?_) (fun hS => ?_) <;> first | (exact absurd (by assumption) hS) | (exact absurd hS (by assumption)) | skip)
                    | (have hw1 := hT; refine SL_index_s (by decide) (by rfl) (by rfl) Tryz.underlying9 (i := 0) (by rfl) (idx0 hw1) ?_)
                    | refine SL_len_s (by decide) (by rfl) (by rfl) Tryz.underlying9 ?_
                    | (refine SL_call (by decide) (by rfl) bd39 (by rfl) (by rfl) (h39s _ _ (by assumption)) trivial List.nodup_nil ?_; rintro _ _ _ ⟨rfl, rfl⟩; rw [List.nil_append])
                    | refine SC_seq ?_
                    | refine SC_block ?_
                    | refine SC_region ?_
                    | refine SL_seq ?_
                    | (refine SL_nil (fun tm σ hE hH => ?_); refine SC.app ?_ hE hH; clear hE hH; clear tm σ)
                    | refine SL_move (by decide) (by rfl) ?_
                    | refine SL_assign (by decide) (by rfl) ?_
                    | refine SL_add (by decide) (by rfl) (by rfl) (by omega) (by omega) ?_
                    | (refine SL_lss (by decide) (by rfl) (by rfl) (fun hT => ?_) (fun hT => ?_) <;> first | (exfalso; omega) | skip)
                    | (refine SL_neq (by decide) (by rfl) (by rfl) (fun hT => ?_) (fun hT => ?_) <;> first | (exfalso; omega) | skip)
                    | refine SL_extract_s (by decide) (by rfl) (by rfl) ?_
                    | refine SL_fieldAddr (by decide) (by rfl) (fldF (by rfl)) ?_
                    | refine SL_indexAddr_0 (by decide) (by rfl) (by rfl) (by repeat (first | exact .head _ | refine .tail _ ?_)) (slF (by rfl)) _ (by first | rfl | exact (Int.toNat_of_nonneg (by omega)).symm) (by omega) ?_
                    | refine SL_load_o (by decide) (by rfl) (by repeat (first | exact .head _ | refine .tail _ ?_)) (rowF (by rfl)) (by first | assumption | rfl | exact strs_get _ hlt | exact strs_get _ hqx) (by rfl) ?_
                    | refine SL_build1 (by decide) (by rfl) (elF (by rfl)) (by rfl) (by rfl) (fun id hid => ?_)
                    | refine SC_cond_t (by rfl) ?_
                    | refine SC_cond_f (by rfl) ?_
                    | (refine SC_skip' (fun tm σ hE hH => ?_); refine SC.app ?_ hE hH; clear hE hH; clear tm σ)
                    | fail)
                  refine SL_nil fun tm σ hE hH => ⟨(k + 1, rs ++ [p], some id), by dsimp only; omega, ⟨by dsimp only; omega, hnx, by simp, fun j hj => by cases hj; assumption⟩, tm, σ, rfl, hE.sub ⟨rfl, rfl, rfl, rfl, rfl, rfl, rfl, rfl, trivial⟩, ?_⟩
                  dsimp only [outS, outP]
                  rw [← List.append_assoc, List.length_append, List.map_append]
                  exact (hH.perm (List.perm_append_comm (l₁ := [_, _]) (l₂ := [_, _, _, _]))).subl (.cons_cons _ (.cons_cons _ (.cons_cons _ (.cons _ (.cons_cons _ (.cons _ .slnil))))))
            ·
              repeat' (first
                | refine SL_store_n (by rfl) (by rfl) (by repeat (first | exact .head _ | refine .tail _ ?_)) (by rfl) (by first | rfl | exact cells_b _ _ _) (by rfl) (by repeat (first | exact .head | apply Upd.tail)) (by first | exact .inl (by assumption) | exact .inr (by simp)) (szF (by rfl)) (Nat.le_of_ble_eq_true (by rfl)) (by rfl) ?_
                | (refine SL_sneq (by decide) (by rfl) (by rfl) (fun hS => ?_) (fun hS => ?_) <;> first | (exact absurd (by assumption) hS) | (exact absurd hS (by assumption)) | skip)
                | refine SL_build (by decide) (by rfl) b26 ?_
                | refine SL_len_s (by decide) (by rfl) (by rfl) Tryz.underlying9 ?_
                | refine SC_seq ?_
                | refine SC_block ?_
                | refine SC_region ?_
                | refine SL_seq ?_
                | refine SL_move (by decide) (by rfl) ?_
                | refine SL_assign (by decide) (by rfl) ?_
                | (refine SL_lss (by decide) (by rfl) (by rfl) (fun hT => ?_) (fun hT => ?_) <;> first | (exfalso; omega) | skip)
                | (refine SL_neq (by decide) (by rfl) (by rfl) (fun hT => ?_) (fun hT => ?_) <;> first | (exfalso; omega) | skip)
                | refine SL_indexAddr_0 (by decide) (by rfl) (by rfl) (by repeat (first | exact .head _ | refine .tail _ ?_)) (slF (by rfl)) _ (by first | rfl | exact (Int.toNat_of_nonneg (by omega)).symm) (by omega) ?_
                | refine SL_load_o (by decide) (by rfl) (by repeat (first | exact .head _ | refine .tail _ ?_)) (rowF (by rfl)) (by first | assumption | rfl | exact strs_get _ hlt | exact strs_get _ hqx) (by rfl) ?_
                | refine SC_cond_t (by rfl) ?_
                | (refine SC_skip' (fun tm σ hE hH => ?_); refine SC.app ?_ hE hH; clear hE hH; clear tm σ)
                | fail)
              refine SC_ret (fun tm σ hE hH => Post.introC (Hn := []) (.inr rfl) hE hH rfl (by rfl) (by rfl) (by repeat (first | exact .head _ | refine .tail _ ?_)) (rowF (by rfl)) (by rfl) (Nat.le_of_ble_eq_true (by rfl)) (mkz _ _ _) trivial List.nodup_nil (fun p hp => (by cases hp)) ?_)
              exact .inl ⟨rfl, rfl⟩
        · obtain rfl : k = ws.length := by omega
          rw [List.take_of_length_le (Nat.le_refl _), hws] at hrd
          have hne : ps ++ rs ≠ [] := by
            intro e
            have := congrArg List.length e
            rw [List.length_append, List.length_nil] at this
            omega
          cases o' with
          | none => exact absurd (hon'.1 rfl) hne
          | some oid =>
            have hI' := hI.step hn hxq hrd (fun h => by rw [← hws]; exact hok3 h) (by rw [← hws]; exact hok1) hok2 (hnew' oid rfl)
            rw [← hws] at hI'
            dsimp only [outS, outP]
            repeat' (first
              | refine SC_seq ?_
              | refine SC_region ?_
              | refine SL_seq ?_
              | refine SL_move (by decide) (by rfl) ?_
              | refine SL_assign (by decide) (by rfl) ?_
              | refine SL_sub (by decide) (by rfl) (by rfl) (by omega) (by omega) ?_
              | (refine SL_lss (by decide) (by rfl) (by rfl) (fun hT => ?_) (fun hT => ?_) <;> first | (exfalso; omega) | skip)
              | refine SC_cond_f (by rfl) ?_
              | (refine SC_exit (fun tm σ hE hH => ?_); refine SC.app ?_ hE hH; clear hE hH; clear tm σ)
              | fail)
            refine SL_nil fun tm σ hE hH => ⟨(n + 1, ws.length, ps ++ rs, some oid), by dsimp only; omega, hI', tm, σ, rfl, hE.sub ⟨rfl, rfl, rfl, rfl, ?_, trivial⟩, hH.subl (.cons _ (.refl _))⟩
            show some (AV.s (Value.int IntKind.i64 ((q : Int) - 1))) = some (.s (.int .i64 ((xs.length : Int) - 1 - ((n + 1 : Nat) : Int))))
            rw [show (xs.length : Int) - 1 - ((n + 1 : Nat) : Int) = (q : Int) - 1 by omega]
      ·
        repeat' (first
          | (refine SL_call (by decide) (by rfl) bd38 (by rfl) (by rfl) (h38 _ ws hws hx100) trivial List.nodup_nil ?_; rintro _ _ hwn ⟨wid, rfl, rfl⟩; rw [List.singleton_append])
          | refine SL_len_v (by decide) (by rfl) (by assumption) (by rfl) (slF (by rfl)) (strs_len _) ?_
          | refine SC_seq ?_
          | refine SC_block ?_
          | refine SC_region ?_
          | refine SL_seq ?_
          | refine SL_run (by rfl) (by rfl) ?_
          | refine SL_move (by decide) (by rfl) ?_
          | refine SL_assign (by decide) (by rfl) ?_
          | refine SL_pick_f (by decide) (by rfl) (by rfl) ?_
          | refine SL_sub (by decide) (by rfl) (by rfl) (by omega) (by omega) ?_
          | (refine SL_gtr (by decide) (by rfl) (by rfl) (fun hT => ?_) (fun hT => ?_) <;> first | (exfalso; omega) | skip)
          | (refine SL_geq (by decide) (by rfl) (by rfl) (fun hT => ?_) (fun hT => ?_) <;> first | (exfalso; omega) | skip)
          | (refine SL_eql (by decide) (by rfl) (by rfl) (fun hT => ?_) (fun hT => ?_) <;> first | (exfalso; omega) | skip)
          | (refine SL_neq (by decide) (by rfl) (by rfl) (fun hT => ?_) (fun hT => ?_) <;> first | (exfalso; omega) | skip)
          | refine SL_fieldAddr (by decide) (by rfl) (fldF (by rfl)) ?_
          | refine SL_len_sl (by decide) (by rfl) (by rfl) (sliceOf_spec (slF (by rfl))).1 ?_
          | refine SL_indexAddr_v (by decide) (by rfl) (by rfl) (by assumption) (slF (by rfl)) _ (by first | rfl | exact (Int.toNat_of_nonneg (by omega)).symm) (by simp only [List.length_map]; omega) (fun ad => ?_)
          | refine SL_load_r (by decide) (by rfl) (rowF (by rfl)) (by first | assumption | rfl | exact strs_get _ hlt | exact strs_get _ hqx) (by rfl) ?_
          | refine SL_load_o (by decide) (by rfl) (by repeat (first | exact .head _ | refine .tail _ ?_)) (rowF (by rfl)) (by first | assumption | rfl | exact strs_get _ hlt | exact strs_get _ hqx) (by rfl) ?_
          | refine SC_cond_t (by rfl) ?_
          | refine SC_cond_f (by rfl) ?_
          | (refine SC_skip' (fun tm σ hE hH => ?_); refine SC.app ?_ hE hH; clear hE hH; clear tm σ)
          | fail)
        refine SC_nd fun hnd => ?_
        refine SC_loop (fun a : Nat × List Int × Option Nat => [(0, l), (2, .ptr b2 0 0), (3, .s (.int .i64 0)), (4, .ptr b4 0 0), (5, .s (.int .i64 q)), (54, .sl wid 0 ws.length none), (55, .s (.int .i64 ws.length)), (56, .s (.int .i64 a.1))]) (fun a => (wid, AObj.cells 9 1 true (strs ws)) :: (b4, AObj.cells 26 3 true [[.s (.int .i64 ws.length), .s (.int .i64 xs.length), outS (ps ++ a.2.1).length a.2.2]]) :: (b2, AObj.cells 26 3 true [zrow]) :: outP (ps ++ a.2.1) a.2.2) (fun _ => []) (fun a => a.1 ≤ ws.length ∧ readL (ws.take a.1) = some a.2.1 ∧ (a.2.2 = none ↔ ps ++ a.2.1 = []) ∧ ∀ id, a.2.2 = some id → B.next ≤ id) (fun a => ws.length - a.1) (0, [], o) ⟨by omega, rfl, ?_, fun id h => hI.new id h⟩ ⟨rfl, rfl, rfl, rfl, rfl, rfl, rfl, rfl, trivial⟩ (.of_mem fun p hp => ?_) ?_ rfl ?_
        · refine ⟨fun h => absurd (hI.on.1 h) (by omega), fun h => ?_⟩
          have := congrArg List.length h
          rw [List.length_append, List.length_nil, hI.len] at this
          have h2 : n * 1 ≤ n * fl := Nat.mul_le_mul_left n (by omega)
          omega
        · rw [hf0, List.append_nil] at hp
          exact hp
        · rw [hf0, List.append_nil]
          exact hnd
        rintro ⟨k, rs, o'⟩ ⟨hk, hrd, hon', hnew'⟩
        dsimp only at hk hrd hon' hnew'
        have hrl := readL_len hrd
        rw [List.length_take] at hrl
        by_cases hlt : k < ws.length
        · have htk := List.take_succ_eq_append_getElem hlt
          by_cases hdot : ws[k] = ⟨#[46]⟩
          · have hnx := readL_snoc hrd (readW_dot hdot)
            rw [← htk] at hnx
            cases o' with
            | none =>
              have he := hon'.1 rfl
              obtain ⟨rfl, rfl⟩ := List.append_eq_nil_iff.1 he
              dsimp only [outS, outP, List.length_nil, List.nil_append]
              repeat' (first
                | refine SL_store_n (by rfl) (by rfl) (by repeat (first | exact .head _ | refine .tail _ ?_)) (by rfl) (by first | rfl | exact cells_b _ _ _) (by rfl) (by repeat (first | exact .head | apply Upd.tail)) (by first | exact .inl (by assumption) | exact .inr (by simp)) (szF (by rfl)) (Nat.le_of_ble_eq_true (by rfl)) (by rfl) ?_
                | (refine SL_sneq (by decide) (by rfl) (by rfl) (fun hS => ?_) (fun hS => ?_) <;> first | (exact absurd (by assumption) hS) | (exact absurd hS (by assumption)) | skip)
                | refine SC_seq ?_
                | refine SC_block ?_
                | refine SC_region ?_
                | refine SL_seq ?_
                | (refine SL_nil (fun tm σ hE hH => ?_); refine SC.app ?_ hE hH; clear hE hH; clear tm σ)
                | refine SL_move (by decide) (by rfl) ?_
                | refine SL_assign (by decide) (by rfl) ?_
                | refine SL_add (by decide) (by rfl) (by rfl) (by omega) (by omega) ?_
                | (refine SL_lss (by decide) (by rfl) (by rfl) (fun hT => ?_) (fun hT => ?_) <;> first | (exfalso; omega) | skip)
                | refine SL_fieldAddr (by decide) (by rfl) (fldF (by rfl)) ?_
                | refine SL_indexAddr_0 (by decide) (by rfl) (by rfl) (by repeat (first | exact .head _ | refine .tail _ ?_)) (slF (by rfl)) _ (by first | rfl | exact (Int.toNat_of_nonneg (by omega)).symm) (by omega) ?_
                | refine SL_load_o (by decide) (by rfl) (by repeat (first | exact .head _ | refine .tail _ ?_)) (rowF (by rfl)) (by first | assumption | rfl | exact strs_get _ hlt | exact strs_get _ hqx) (by rfl) ?_
                | refine SL_build1 (by decide) (by rfl) (elF (by rfl)) (by rfl) (by rfl) (fun id hid => ?_)
                | refine SL_append1_nil (by decide) (by rfl) (by rfl) (by repeat (first | exact .head _ | refine .tail _ ?_)) (elF (by rfl)) (sliceOf_spec (slF (by rfl))).1 (by rfl) (by decide) (fun id hid => ?_)
                | refine SC_cond_t (by rfl) ?_
                | refine SC_cond_f (by rfl) ?_
                | (refine SC_skip' (fun tm σ hE hH => ?_); refine SC.app ?_ hE hH; clear hE hH; clear tm σ)
                | fail)
              refine SL_nil fun tm σ hE hH => ⟨(k + 1, [0], some id), by dsimp only; omega, ⟨by dsimp only; omega, hnx, by simp, fun j hj => by cases hj; assumption⟩, tm, σ, rfl, hE.sub ⟨rfl, rfl, rfl, rfl, rfl, rfl, rfl, rfl, trivial⟩, ?_⟩
              dsimp only [outS, outP]
              exact (hH.perm (List.perm_append_comm (l₁ := [_, _]) (l₂ := [_, _, _]))).subl (.cons_cons _ (.cons_cons _ (.cons_cons _ (.cons_cons _ (.cons _ .slnil)))))
            | some oid =>
              have hoid := hnew' oid rfl
              have hlen : (ps ++ rs).length ≤ 80 := by rw [List.length_append]; omega
              dsimp only [outS, outP]
              repeat' (first
                | refine SL_store_n (by rfl) (by rfl) (by repeat (first | exact .head _ | refine .tail _ ?_)) (by rfl) (by first | rfl | exact cells_b _ _ _) (by rfl) (by repeat (first | exact .head | apply Upd.tail)) (by first | exact .inl (by assumption) | exact .inr (by simp)) (szF (by rfl)) (Nat.le_of_ble_eq_true (by rfl)) (by rfl) ?_
                | (refine SL_append1_own (by decide) (by rfl) (by rfl) (by repeat (first | exact .head | apply Upd.tail)) (by rw [List.length_map]) (by first | exact .inl (by assumption) | exact .inr (by simp)) (by repeat (first | exact .head _ | refine .tail _ ?_)) (elF (by rfl)) (sliceOf_spec (slF (by rfl))).1 (by rfl) (by omega) (by omega) (fun id hid => ?_))
                | (refine SL_sneq (by decide) (by rfl) (by rfl) (fun hS => ?_) (fun hS => ?_) <;> first | (exact absurd (by assumption) hS) | (exact absurd hS (by assumption)) | skip)
                | refine SC_seq ?_
                | refine SC_block ?_
                | refine SC_region ?_
                | refine SL_seq ?_
                | (refine SL_nil (fun tm σ hE hH => ?_); refine SC.app ?_ hE hH; clear hE hH; clear tm σ)
                | refine SL_move (by decide) (by rfl) ?_
                | refine SL_assign (by decide) (by rfl) ?_
                | refine SL_add (by decide) (by rfl) (by rfl) (by omega) (by omega) ?_
                | (refine SL_lss (by decide) (by rfl) (by rfl) (fun hT => ?_) (fun hT => ?_) <;> first | (exfalso; omega) | skip)
                | refine SL_fieldAddr (by decide) (by rfl) (fldF (by rfl)) ?_
                | refine SL_indexAddr_0 (by decide) (by rfl) (by rfl) (by repeat (first | exact .head _ | refine .tail _ ?_)) (slF (by rfl)) _ (by first | rfl | exact (Int.toNat_of_nonneg (by omega)).symm) (by omega) ?_
                | refine SL_load_o (by decide) (by rfl) (by repeat (first | exact .head _ | refine .tail _ ?_)) (rowF (by rfl)) (by first | assumption | rfl | exact strs_get _ hlt | exact strs_get _ hqx) (by rfl) ?_
                | refine SL_build1 (by decide) (by rfl) (elF (by rfl)) (by rfl) (by rfl) (fun id hid => ?_)
                | refine SC_cond_t (by rfl) ?_
                | refine SC_cond_f (by rfl) ?_
                | (refine SC_skip' (fun tm σ hE hH => ?_); refine SC.app ?_ hE hH; clear hE hH; clear tm σ)
                | fail)
              refine SL_nil fun tm σ hE hH => ⟨(k + 1, rs ++ [0], some id), by dsimp only; omega, ⟨by dsimp only; omega, hnx, by simp, fun j hj => by cases hj; assumption⟩, tm, σ, rfl, hE.sub ⟨rfl, rfl, rfl, rfl, rfl, rfl, rfl, rfl, trivial⟩, ?_⟩
              dsimp only [outS, outP]
              rw [← List.append_assoc, List.length_append, List.map_append]
              exact (hH.perm (List.perm_append_comm (l₁ := [_, _]) (l₂ := [_, _, _, _]))).subl (.cons_cons _ (.cons_cons _ (.cons_cons _ (.cons _ (.cons_cons _ (.cons _ .slnil))))))
          · by_cases hsz : (ws[k].size : Int) = 1
            · cases hpp : parP ((fst ws[k]).toNat : Int) with
              | none =>
                repeat' (first
                  | refine SL_store_n (by rfl) (by rfl) (by repeat (first | exact .head _ | refine .tail _ ?_)) (by rfl) (by first | rfl | exact cells_b _ _ _) (by rfl) (by repeat (first | exact .head | apply Upd.tail)) (by first | exact .inl (by assumption) | exact .inr (by simp)) (szF (by rfl)) (Nat.le_of_ble_eq_true (by rfl)) (by rfl) ?_
                  | (refine SL_sneq (by decide) (by rfl) (by rfl) (fun hS => ?_) (fun hS => ?_) <;> first | (exact absurd (by assumption) hS) | (exact absurd hS (by assumption)) | skip)
                  | refine SL_build (by decide) (by rfl) b26 ?_
                  | (have hw1 := hT; refine SL_index_s (by decide) (by rfl) (by rfl) Tryz.underlying9 (i := 0) (by rfl) (idx0 hw1) ?_)
                  | refine SL_len_s (by decide) (by rfl) (by rfl) Tryz.underlying9 ?_
                  | (refine SL_call (by decide) (by rfl) bd39 (by rfl) (by rfl) (h39n _ (by assumption)) trivial List.nodup_nil ?_; rintro _ _ _ ⟨rfl, rfl⟩; rw [List.nil_append])
                  | refine SC_seq ?_
                  | refine SC_block ?_
                  | refine SC_region ?_
                  | refine SL_seq ?_
                  | refine SL_move (by decide) (by rfl) ?_
                  | refine SL_assign (by decide) (by rfl) ?_
                  | (refine SL_lss (by decide) (by rfl) (by rfl) (fun hT => ?_) (fun hT => ?_) <;> first | (exfalso; omega) | skip)
                  | (refine SL_neq (by decide) (by rfl) (by rfl) (fun hT => ?_) (fun hT => ?_) <;> first | (exfalso; omega) | skip)
                  | refine SL_extract_s (by decide) (by rfl) (by rfl) ?_
                  | refine SL_indexAddr_0 (by decide) (by rfl) (by rfl) (by repeat (first | exact .head _ | refine .tail _ ?_)) (slF (by rfl)) _ (by first | rfl | exact (Int.toNat_of_nonneg (by omega)).symm) (by omega) ?_
                  | refine SL_load_o (by decide) (by rfl) (by repeat (first | exact .head _ | refine .tail _ ?_)) (rowF (by rfl)) (by first | assumption | rfl | exact strs_get _ hlt | exact strs_get _ hqx) (by rfl) ?_
                  | refine SC_cond_t (by rfl) ?_
                  | refine SC_cond_f (by rfl) ?_
                  | (refine SC_skip' (fun tm σ hE hH => ?_); refine SC.app ?_ hE hH; clear hE hH; clear tm σ)
                  | fail)
                refine SC_ret (fun tm σ hE hH => Post.introC (Hn := []) (.inr rfl) hE hH rfl (by rfl) (by rfl) (by repeat (first | exact .head _ | refine .tail _ ?_)) (rowF (by rfl)) (by rfl) (Nat.le_of_ble_eq_true (by rfl)) (mkz _ _ _) trivial List.nodup_nil (fun p hp => (by cases hp)) ?_)
                exact .inl ⟨rfl, rfl⟩
              | some p =>
                have hnx := readL_snoc hrd ((readW_one hdot hsz).trans hpp)
                rw [← htk] at hnx
                cases o' with
                | none =>
                  have he := hon'.1 rfl
                  obtain ⟨rfl, rfl⟩ := List.append_eq_nil_iff.1 he
                  dsimp only [outS, outP, List.length_nil, List.nil_append]
                  repeat' (first
                    | refine SL_store_n (by rfl) (by rfl) (by repeat (first | exact .head _ | refine .tail _ ?_)) (by rfl) (by first | rfl | exact cells_b _ _ _) (by rfl) (by repeat (first | exact .head | apply Upd.tail)) (by first | exact .inl (by assumption) | exact .inr (by simp)) (szF (by rfl)) (Nat.le_of_ble_eq_true (by rfl)) (by rfl) ?_
                    | (refine SL_sneq (by decide) (by rfl) (by rfl) (fun hS => ?_) (fun hS => ?_) <;> first | (exact absurd (by assumption) hS) | (exact absurd hS (by assumption)) | skip)
                    | (have hw1 := hT; refine SL_index_s (by decide) (by rfl) (by rfl) Tryz.underlying9 (i := 0) (by rfl) (idx0 hw1) ?_)
                    | refine SL_len_s (by decide) (by rfl) (by rfl) Tryz.underlying9 ?_
                    | (refine SL_call (by decide) (by rfl) bd39 (by rfl) (by rfl) (h39s _ _ (by assumption)) trivial List.nodup_nil ?_; rintro _ _ _ ⟨rfl, rfl⟩; rw [List.nil_append])
                    | refine SC_seq ?_
                    | refine SC_block ?_
                    | refine SC_region ?_
                    | refine SL_seq ?_
                    | (refine SL_nil (fun tm σ hE hH => ?_); refine SC.app ?_ hE hH; clear hE hH; clear tm σ)
                    | refine SL_move (by decide) (by rfl) ?_
                    | refine SL_assign (by decide) (by rfl) ?_
                    | refine SL_add (by decide) (by rfl) (by rfl) (by omega) (by omega) ?_
                    | (refine SL_lss (by decide) (by rfl) (by rfl) (fun hT => ?_) (fun hT => ?_) <;> first | (exfalso; omega) | skip)
                    | (refine SL_neq (by decide) (by rfl) (by rfl) (fun hT => ?_) (fun hT => ?_) <;> first | (exfalso; omega) | skip)
                    | refine SL_extract_s (by decide) (by rfl) (by rfl) ?_
                    | refine SL_fieldAddr (by decide) (by rfl) (fldF (by rfl)) ?_
                    | refine SL_indexAddr_0 (by decide) (by rfl) (by rfl) (by repeat (first | exact .head _ | refine .tail _ ?_)) (slF (by rfl)) _ (by first | rfl | exact (Int.toNat_of_nonneg (by omega)).symm) (by omega) ?_
                    | refine SL_load_o (by decide) (by rfl) (by repeat (first | exact .head _ | refine .tail _ ?_)) (rowF (by rfl)) (by first | assumption | rfl | exact strs_get _ hlt | exact strs_get _ hqx) (by rfl) ?_
                    | refine SL_build1 (by decide) (by rfl) (elF (by rfl)) (by rfl) (by rfl) (fun id hid => ?_)
                    | refine SL_append1_nil (by decide) (by rfl) (by rfl) (by repeat (first | exact .head _ | refine .tail _ ?_)) (elF (by rfl)) (sliceOf_spec (slF (by rfl))).1 (by rfl) (by decide) (fun id hid => ?_)
                    | refine SC_cond_t (by rfl) ?_
                    | refine SC_cond_f (by rfl) ?_
                    | (refine SC_skip' (fun tm σ hE hH => ?_); refine SC.app ?_ hE hH; clear hE hH; clear tm σ)
                    | fail)
                  refine SL_nil fun tm σ hE hH => ⟨(k + 1, [p], some id), by dsimp only; omega, ⟨by dsimp only; omega, hnx, by simp, fun j hj => by cases hj; assumption⟩, tm, σ, rfl, hE.sub ⟨rfl, rfl, rfl, rfl, rfl, rfl, rfl, rfl, trivial⟩, ?_⟩
                  dsimp only [outS, outP]
                  exact (hH.perm (List.perm_append_comm (l₁ := [_, _]) (l₂ := [_, _, _]))).subl (.cons_cons _ (.cons_cons _ (.cons_cons _ (.cons_cons _ (.cons _ .slnil)))))
                | some oid =>
                  have hoid := hnew' oid rfl
                  have hlen : (ps ++ rs).length ≤ 80 := by rw [List.length_append]; omega
                  dsimp only [outS, outP]
                  repeat' (first
                    | refine SL_store_n (by rfl) (by rfl) (by repeat (first | exact .head _ | refine .tail _ ?_)) (by rfl) (by first | rfl | exact cells_b _ _ _) (by rfl) (by repeat (first | exact .head | apply Upd.tail)) (by first | exact .inl (by assumption) | exact .inr (by simp)) (szF (by rfl)) (Nat.le_of_ble_eq_true (by rfl)) (by rfl) ?_
                    | (refine SL_append1_own (by decide) (by rfl) (by rfl) (by repeat (first | exact .head | apply Upd.tail)) (by rw [List.length_map]) (by first | exact .inl (by assumption) | exact .inr (by simp)) (by repeat (first | exact .head _ | refine .tail _ ?_)) (elF (by rfl)) (sliceOf_spec (slF (by rfl))).1 (by rfl) (by omega) (by omega) (fun id hid => ?_))
                    | (refine SL_sneq (by decide) (by rfl) (by rfl) (fun hS => ?_) (fun hS => ?_) <;> first | (exact absurd (by assumption) hS) | (exact absurd hS (by assumption)) | skip)
                    | (have hw1 := hT; refine SL_index_s (by decide) (by rfl) (by rfl) Tryz.underlying9 (i := 0) (by rfl) (idx0 hw1) ?_)
                    | refine SL_len_s (by decide) (by rfl) (by rfl) Tryz.underlying9 ?_
                    | (refine SL_call (by decide) (by rfl) bd39 (by rfl) (by rfl) (h39s _ _ (by assumption)) trivial List.nodup_nil ?_; rintro _ _ _ ⟨rfl, rfl⟩; rw [List.nil_append])
                    | refine SC_seq ?_
                    | refine SC_block ?_
                    | refine SC_region ?_
                    | refine SL_seq ?_
                    | (refine SL_nil (fun tm σ hE hH => ?_); refine SC.app ?_ hE hH; clear hE hH; clear tm σ)
                    | refine SL_move (by decide) (by rfl) ?_
                    | refine SL_assign (by decide) (by rfl) ?_
                    | refine SL_add (by decide) (by rfl) (by rfl) (by omega) (by omega) ?_
                    | (refine SL_lss (by decide) (by rfl) (by rfl) (fun hT => ?_) (fun hT => ?_) <;> first | (exfalso; omega) | skip)
                    | (refine SL_neq (by decide) (by rfl) (by rfl) (fun hT => ?_) (fun hT => ?_) <;> first | (exfalso; omega) | skip)
                    | refine SL_extract_s (by decide) (by rfl) (by rfl) ?_
                    | refine SL_fieldAddr (by decide) (by rfl) (fldF (by rfl)) ?_
                    | refine SL_indexAddr_0 (by decide) (by rfl) (by rfl) (by repeat (first | exact .head _ | refine .tail _ ?_)) (slF (by rfl)) _ (by first | rfl | exact (Int.toNat_of_nonneg (by omega)).symm) (by omega) ?_
                    | refine SL_load_o (by decide) (by rfl) (by repeat (first | exact .head _ | refine .tail _ ?_)) (rowF (by rfl)) (by first | assumption | rfl | exact strs_get _ hlt | exact strs_get _ hqx) (by rfl) ?_
                    | refine SL_build1 (by decide) (by rfl) (elF (by rfl)) (by rfl) (by rfl) (fun id hid => ?_)
                    | refine SC_cond_t (by rfl) ?_
                    | refine SC_cond_f (by rfl) ?_
                    | (refine SC_skip' (fun tm σ hE hH => ?_); refine SC.app ?_ hE hH; clear hE hH; clear tm σ)
                    | fail)
                  refine SL_nil fun tm σ hE hH => ⟨(k + 1, rs ++ [p], some id), by dsimp only; omega, ⟨by dsimp only; omega, hnx, by simp, fun j hj => by cases hj; assumption⟩, tm, σ, rfl, hE.sub ⟨rfl, rfl, rfl, rfl, rfl, rfl, rfl, rfl, trivial⟩, ?_⟩
                  dsimp only [outS, outP]
                  rw [← List.append_assoc, List.length_append, List.map_append]
                  exact (hH.perm (List.perm_append_comm (l₁ := [_, _]) (l₂ := [_, _, _, _]))).subl (.cons_cons _ (.cons_cons _ (.cons_cons _ (.cons _ (.cons_cons _ (.cons _ .slnil))))))
            ·
              repeat' (first
                | refine SL_store_n (by rfl) (by rfl) (by repeat (first | exact .head _ | refine .tail _ ?_)) (by rfl) (by first | rfl | exact cells_b _ _ _) (by rfl) (by repeat (first | exact .head | apply Upd.tail)) (by first | exact .inl (by assumption) | exact .inr (by simp)) (szF (by rfl)) (Nat.le_of_ble_eq_true (by rfl)) (by rfl) ?_
                | (refine SL_sneq (by decide) (by rfl) (by rfl) (fun hS => ?_) (fun hS => ?_) <;> first | (exact absurd (by assumption) hS) | (exact absurd hS (by assumption)) | skip)
                | refine SL_build (by decide) (by rfl) b26 ?_
                | refine SL_len_s (by decide) (by rfl) (by rfl) Tryz.underlying9 ?_
                | refine SC_seq ?_
                | refine SC_block ?_
                | refine SC_region ?_
                | refine SL_seq ?_
                | refine SL_move (by decide) (by rfl) ?_
                | refine SL_assign (by decide) (by rfl) ?_
                | (refine SL_lss (by decide) (by rfl) (by rfl) (fun hT => ?_) (fun hT => ?_) <;> first | (exfalso; omega) | skip)
                | (refine SL_neq (by decide) (by rfl) (by rfl) (fun hT => ?_) (fun hT => ?_) <;> first | (exfalso; omega) | skip)
                | refine SL_indexAddr_0 (by decide) (by rfl) (by rfl) (by repeat (first | exact .head _ | refine .tail _ ?_)) (slF (by rfl)) _ (by first | rfl | exact (Int.toNat_of_nonneg (by omega)).symm) (by omega) ?_
                | refine SL_load_o (by decide) (by rfl) (by repeat (first | exact .head _ | refine .tail _ ?_)) (rowF (by rfl)) (by first | assumption | rfl | exact strs_get _ hlt | exact strs_get _ hqx) (by rfl) ?_
                | refine SC_cond_t (by rfl) ?_
                | (refine SC_skip' (fun tm σ hE hH => ?_); refine SC.app ?_ hE hH; clear hE hH; clear tm σ)
                | fail)
              refine SC_ret (fun tm σ hE hH => Post.introC (Hn := []) (.inr rfl) hE hH rfl (by rfl) (by rfl) (by repeat (first | exact .head _ | refine .tail _ ?_)) (rowF (by rfl)) (by rfl) (Nat.le_of_ble_eq_true (by rfl)) (mkz _ _ _) trivial List.nodup_nil (fun p hp => (by cases hp)) ?_)
              exact .inl ⟨rfl, rfl⟩
        · obtain rfl : k = ws.length := by omega
          rw [List.take_of_length_le (Nat.le_refl _), hws] at hrd
          have hne : ps ++ rs ≠ [] := by
            intro e
            have := congrArg List.length e
            rw [List.length_append, List.length_nil] at this
            omega
          cases o' with
          | none => exact absurd (hon'.1 rfl) hne
          | some oid =>
            have hI' := hI.step hn hxq hrd (fun h => by rw [← hws]; exact hok3 h) (by rw [← hws]; exact hok1) hok2 (hnew' oid rfl)
            rw [← hws] at hI'
            dsimp only [outS, outP]
            repeat' (first
              | refine SC_seq ?_
              | refine SC_region ?_
              | refine SL_seq ?_
              | refine SL_move (by decide) (by rfl) ?_
              | refine SL_assign (by decide) (by rfl) ?_
              | refine SL_sub (by decide) (by rfl) (by rfl) (by omega) (by omega) ?_
              | (refine SL_lss (by decide) (by rfl) (by rfl) (fun hT => ?_) (fun hT => ?_) <;> first | (exfalso; omega) | skip)
              | refine SC_cond_f (by rfl) ?_
              | (refine SC_exit (fun tm σ hE hH => ?_); refine SC.app ?_ hE hH; clear hE hH; clear tm σ)
              | fail)
            refine SL_nil fun tm σ hE hH => ⟨(n + 1, ws.length, ps ++ rs, some oid), by dsimp only; omega, hI', tm, σ, rfl, hE.sub ⟨rfl, rfl, rfl, rfl, ?_, trivial⟩, hH.subl (.cons _ (.refl _))⟩
            show some (AV.s (Value.int IntKind.i64 ((q : Int) - 1))) = some (.s (.int .i64 ((xs.length : Int) - 1 - ((n + 1 : Nat) : Int))))
            rw [show (xs.length : Int) - 1 - ((n + 1 : Nat) : Int) = (q : Int) - 1 by omega]
    · have hz := hI.z
      by_cases hn0 : n = 0
      · obtain ⟨rfl, -⟩ := hz hn0
        repeat' (first
          | refine SL_store_n (by rfl) (by rfl) (by repeat (first | exact .head _ | refine .tail _ ?_)) (by rfl) (by first | rfl | exact cells_b _ _ _) (by rfl) (by repeat (first | exact .head | apply Upd.tail)) (by first | exact .inl (by assumption) | exact .inr (by simp)) (szF (by rfl)) (Nat.le_of_ble_eq_true (by rfl)) (by rfl) ?_
          | (refine SL_call (by decide) (by rfl) bd38 (by rfl) (by rfl) (h38 _ ws hws hx100) trivial List.nodup_nil ?_; rintro _ _ hwn ⟨wid, rfl, rfl⟩; rw [List.singleton_append])
          | refine SL_build (by decide) (by rfl) b26 ?_
          | refine SL_len_v (by decide) (by rfl) (by assumption) (by rfl) (slF (by rfl)) (strs_len _) ?_
          | refine SC_seq ?_
          | refine SC_block ?_
          | refine SC_region ?_
          | refine SL_seq ?_
          | refine SL_run (by rfl) (by rfl) ?_
          | refine SL_not (by rfl) (by rfl) (by rfl) (by decide) ?_
          | refine SL_move (by decide) (by rfl) ?_
          | refine SL_assign (by decide) (by rfl) ?_
          | refine SL_pick_t (by decide) (by rfl) (by rfl) ?_
          | refine SL_pick_f (by decide) (by rfl) (by rfl) ?_
          | refine SL_sub (by decide) (by rfl) (by rfl) (by omega) (by omega) ?_
          | (refine SL_gtr (by decide) (by rfl) (by rfl) (fun hT => ?_) (fun hT => ?_) <;> first | (exfalso; omega) | skip)
          | (refine SL_geq (by decide) (by rfl) (by rfl) (fun hT => ?_) (fun hT => ?_) <;> first | (exfalso; omega) | skip)
          | (refine SL_eql (by decide) (by rfl) (by rfl) (fun hT => ?_) (fun hT => ?_) <;> first | (exfalso; omega) | skip)
          | (refine SL_neq (by decide) (by rfl) (by rfl) (fun hT => ?_) (fun hT => ?_) <;> first | (exfalso; omega) | skip)
          | refine SL_fieldAddr (by decide) (by rfl) (fldF (by rfl)) ?_
          | refine SL_len_sl (by decide) (by rfl) (by rfl) (sliceOf_spec (slF (by rfl))).1 ?_
          | refine SL_indexAddr_v (by decide) (by rfl) (by rfl) (by assumption) (slF (by rfl)) _ (by first | rfl | exact (Int.toNat_of_nonneg (by omega)).symm) (by simp only [List.length_map]; omega) (fun ad => ?_)
          | refine SL_load_r (by decide) (by rfl) (rowF (by rfl)) (by first | assumption | rfl | exact strs_get _ hlt | exact strs_get _ hqx) (by rfl) ?_
          | refine SL_load_o (by decide) (by rfl) (by repeat (first | exact .head _ | refine .tail _ ?_)) (rowF (by rfl)) (by first | assumption | rfl | exact strs_get _ hlt | exact strs_get _ hqx) (by rfl) ?_
          | refine SC_cond_t (by rfl) ?_
          | (refine SC_skip' (fun tm σ hE hH => ?_); refine SC.app ?_ hE hH; clear hE hH; clear tm σ)
          | fail)
        all_goals
          refine SC_ret (fun tm σ hE hH => Post.introC (Hn := []) (.inr rfl) hE hH rfl (by rfl) (by rfl) (by repeat (first | exact .head _ | refine .tail _ ?_)) (rowF (by rfl)) (by rfl) (Nat.le_of_ble_eq_true (by rfl)) (mkz _ _ _) trivial List.nodup_nil (fun p hp => (by cases hp)) ?_)
          exact .inl ⟨rfl, rfl⟩
      · have hp := hI.p (by omega)
        have hok' : ws.length ≠ fl ∨ 8 < ws.length ∨ 8 < xs.length := by omega
        repeat' (first
          | refine SL_store_n (by rfl) (by rfl) (by repeat (first | exact .head _ | refine .tail _ ?_)) (by rfl) (by first | rfl | exact cells_b _ _ _) (by rfl) (by repeat (first | exact .head | apply Upd.tail)) (by first | exact .inl (by assumption) | exact .inr (by simp)) (szF (by rfl)) (Nat.le_of_ble_eq_true (by rfl)) (by rfl) ?_
          | (refine SL_call (by decide) (by rfl) bd38 (by rfl) (by rfl) (h38 _ ws hws hx100) trivial List.nodup_nil ?_; rintro _ _ hwn ⟨wid, rfl, rfl⟩; rw [List.singleton_append])
          | refine SL_build (by decide) (by rfl) b26 ?_
          | refine SL_len_v (by decide) (by rfl) (by assumption) (by rfl) (slF (by rfl)) (strs_len _) ?_
          | refine SC_seq ?_
          | refine SC_block ?_
          | refine SC_region ?_
          | refine SL_seq ?_
          | refine SL_not (by rfl) (by rfl) (by rfl) (by decide) ?_
          | refine SL_move (by decide) (by rfl) ?_
          | refine SL_assign (by decide) (by rfl) ?_
          | refine SL_pick_t (by decide) (by rfl) (by rfl) ?_
          | refine SL_sub (by decide) (by rfl) (by rfl) (by omega) (by omega) ?_
          | (refine SL_geq (by decide) (by rfl) (by rfl) (fun hT => ?_) (fun hT => ?_) <;> first | (exfalso; omega) | skip)
          | (refine SL_eql (by decide) (by rfl) (by rfl) (fun hT => ?_) (fun hT => ?_) <;> first | (exfalso; omega) | skip)
          | (refine SL_neq (by decide) (by rfl) (by rfl) (fun hT => ?_) (fun hT => ?_) <;> first | (exfalso; omega) | skip)
          | refine SL_fieldAddr (by decide) (by rfl) (fldF (by rfl)) ?_
          | refine SL_len_sl (by decide) (by rfl) (by rfl) (sliceOf_spec (slF (by rfl))).1 ?_
          | refine SL_indexAddr_v (by decide) (by rfl) (by rfl) (by assumption) (slF (by rfl)) _ (by first | rfl | exact (Int.toNat_of_nonneg (by omega)).symm) (by simp only [List.length_map]; omega) (fun ad => ?_)
          | refine SL_load_r (by decide) (by rfl) (rowF (by rfl)) (by first | assumption | rfl | exact strs_get _ hlt | exact strs_get _ hqx) (by rfl) ?_
          | refine SL_load_o (by decide) (by rfl) (by repeat (first | exact .head _ | refine .tail _ ?_)) (rowF (by rfl)) (by first | assumption | rfl | exact strs_get _ hlt | exact strs_get _ hqx) (by rfl) ?_
          | refine SC_cond_t (by rfl) ?_
          | refine SC_cond_f (by rfl) ?_
          | (refine SC_skip' (fun tm σ hE hH => ?_); refine SC.app ?_ hE hH; clear hE hH; clear tm σ)
          | fail)
        all_goals
          refine SC_ret (fun tm σ hE hH => Post.introC (Hn := []) (.inr rfl) hE hH rfl (by rfl) (by rfl) (by repeat (first | exact .head _ | refine .tail _ ?_)) (rowF (by rfl)) (by rfl) (Nat.le_of_ble_eq_true (by rfl)) (mkz _ _ _) trivial List.nodup_nil (fun p hp => (by cases hp)) ?_)
          exact .inl ⟨rfl, rfl⟩
  · obtain rfl : n = xs.length := by have := hI.le; omega
    cases o with
    | none =>
      have h0 := hI.on.1 rfl
      obtain ⟨rfl, rfl⟩ := hI.z h0
      dsimp only [outS, outP, List.length_nil]
      repeat' (first
        | refine SL_store_n (by rfl) (by rfl) (by repeat (first | exact .head _ | refine .tail _ ?_)) (by rfl) (by first | rfl | exact cells_b _ _ _) (by rfl) (by repeat (first | exact .head | apply Upd.tail)) (by first | exact .inl (by assumption) | exact .inr (by simp)) (szF (by rfl)) (Nat.le_of_ble_eq_true (by rfl)) (by rfl) ?_
        | refine SL_build (by decide) (by rfl) b26 ?_
        | refine SL_load_or (by decide) (by rfl) (by repeat (first | exact .head _ | refine .tail _ ?_)) (rowF (by rfl)) (by rfl) (Nat.le_of_ble_eq_true (by rfl)) (by first | exact mk2 _ _ | exact mk2b _ _ _ | exact mkb _ _ _) ?_
        | (refine SL_call (by decide) (by rfl) bd10 (by rfl) (by rfl) (h10n) trivial List.nodup_nil ?_; rintro _ _ _ ⟨rfl, rfl⟩; rw [List.nil_append])
        | refine SC_seq ?_
        | refine SC_region ?_
        | refine SL_seq ?_
        | refine SL_move (by decide) (by rfl) ?_
        | refine SL_assign (by decide) (by rfl) ?_
        | refine SL_not_op (by decide) (by rfl) ?_
        | (refine SL_geq (by decide) (by rfl) (by rfl) (fun hT => ?_) (fun hT => ?_) <;> first | (exfalso; omega) | skip)
        | refine SC_cond_t (by rfl) ?_
        | refine SC_cond_f (by rfl) ?_
        | (refine SC_exit (fun tm σ hE hH => ?_); refine SC.app ?_ hE hH; clear hE hH; clear tm σ)
        | fail)
      refine SC_ret (fun tm σ hE hH => Post.introC (Hn := []) (.inr rfl) hE hH rfl (by rfl) (by rfl) (by repeat (first | exact .head _ | refine .tail _ ?_)) (rowF (by rfl)) (by rfl) (Nat.le_of_ble_eq_true (by rfl)) (mkz _ _ _) trivial List.nodup_nil (fun p hp => (by cases hp)) ?_)
      exact .inl ⟨rfl, rfl⟩
    | some oid =>
      have hoid := hI.new oid rfl
      dsimp only [outS, outP]
      have hpl : ps.length ≤ 100 := by
        have hpos : 0 < xs.length := Nat.pos_of_ne_zero (fun h => by have := hI.on.2 h; cases this)
        obtain ⟨h1, h2, h3⟩ := hI.p hpos
        have h4 : xs.length * fl ≤ 8 * 8 := Nat.mul_le_mul h3 h2
        have := hI.len
        omega
      have h10' := h10 fl xs.length oid ps hpl
      unfold Says at h10'
      repeat' (first
        | refine SL_store_n (by rfl) (by rfl) (by repeat (first | exact .head _ | refine .tail _ ?_)) (by rfl) (by first | rfl | exact cells_b _ _ _) (by rfl) (by repeat (first | exact .head | apply Upd.tail)) (by first | exact .inl (by assumption) | exact .inr (by simp)) (szF (by rfl)) (Nat.le_of_ble_eq_true (by rfl)) (by rfl) ?_
        | refine SL_build (by decide) (by rfl) b26 ?_
        | refine SL_load_or (by decide) (by rfl) (by repeat (first | exact .head _ | refine .tail _ ?_)) (rowF (by rfl)) (by rfl) (Nat.le_of_ble_eq_true (by rfl)) (by first | exact mk2 _ _ | exact mk2b _ _ _ | exact mkb _ _ _) ?_
        | (refine SL_call (by decide) (by rfl) bd10 (by rfl) (by rfl) h10' ⟨.tail _ (.tail _ (.head _)), trivial⟩ (by simp) ?_; rintro _ _ _ ⟨hk, rfl⟩; rw [List.nil_append]; rcases hk with ⟨rfl, hok⟩ | ⟨rfl, hok⟩)
        | refine SC_seq ?_
        | refine SC_region ?_
        | refine SL_seq ?_
        | refine SL_move (by decide) (by rfl) ?_
        | refine SL_assign (by decide) (by rfl) ?_
        | refine SL_not_op (by decide) (by rfl) ?_
        | (refine SL_geq (by decide) (by rfl) (by rfl) (fun hT => ?_) (fun hT => ?_) <;> first | (exfalso; omega) | skip)
        | refine SC_cond_t (by rfl) ?_
        | refine SC_cond_f (by rfl) ?_
        | (refine SC_exit (fun tm σ hE hH => ?_); refine SC.app ?_ hE hH; clear hE hH; clear tm σ)
        | (refine SC_skip' (fun tm σ hE hH => ?_); refine SC.app ?_ hE hH; clear hE hH; clear tm σ)
        | fail)
      · refine SC_ret (fun tm σ hE hH => Post.introC (Hn := [(oid, _)]) (.inr rfl) hE hH rfl (by rfl) (by rfl) (by repeat (first | exact .head _ | refine .tail _ ?_)) (rowF (by rfl)) (by rfl) (Nat.le_of_ble_eq_true (by rfl)) (mkb _ _ _) ⟨.tail _ (.tail _ (.head _)), trivial⟩ (by simp) (fun p hp => by cases List.mem_singleton.1 hp; exact hoid) ?_)
        exact .inr ⟨fl, xs.length, oid, ps, rfl, rfl, hok, hI.all rfl⟩
      · refine SC_ret (fun tm σ hE hH => Post.introC (Hn := []) (.inr rfl) hE hH rfl (by rfl) (by rfl) (by repeat (first | exact .head _ | refine .tail _ ?_)) (rowF (by rfl)) (by rfl) (Nat.le_of_ble_eq_true (by rfl)) (mkz _ _ _) trivial List.nodup_nil (fun p hp => (by cases hp)) ?_)
        exact .inl ⟨rfl, rfl⟩
end Go.Proofs.YtnhnlkljcfbhfaaGreatDoor
/- The law's own diagram, of an own board. -/
namespace Go.Proofs.YtnhnlkljcfbhfaaGreatDoor
open Go Go.Ab
set_option maxRecDepth 100000
attribute [local irreducible] SC SL wpc wpl wpd wpf wpy wpn FnC FnW RdW SD
set_option pp.deepTerms false
set_option pp.maxSteps 900
set_option maxHeartbeats 2000000
theorem diagram_o {G : Gl} {F R : Nat} {ps : List Int} {pid : Nat} {px : Bool} (hF : 3 ≤ F ∧ F ≤ 8) (hR : 3 ≤ R ∧ R ≤ 8) (hl : ps.length = F * R) (hps : OkPs ps) (ho : ∀ a, G.orc 12 [a] = none)
    (h32z : ∀ p : Int, p = 0 → FnC Tryz.prog G 32 [.s (.int .i8 p)] [] (fun v Hn => v = .s (.tuple #[.int .u8 0, .int .i64 2]) ∧ Hn = []))
    (h32 : ∀ p : Int, p ≠ 0 → -15 ≤ p → p ≤ 15 → FnC Tryz.prog G 32 [.s (.int .i8 p)] [] (fun v Hn => v = .s (.tuple #[.int .u8 (codeOf p), .int .i64 0]) ∧ Hn = [])) :
    FnC Tryz.prog G 12 [brd F R (.sl pid 0 ps.length none)] [(pid, .cells 81 1 px (ps.map fun p => [AV.s (.int .i8 p)]))] (fun v Hn => ∃ id, v = .sl id 0 R none ∧ Hn = [(id, .cells 9 1 false (strs (diagR F ps R)))]) := by
  refine Fn_body (N := 55) (ho _) Tryz.func12 rfl rfl fun B => ?_
  repeat' (first
    | (refine SL_box (by decide) (by rfl) (by first | exact cells_2 _ _ | exact cells_b _ _ _) (fun b1 hid => ?_))
    | refine SC_seq ?_
    | refine SC_block ?_
    | refine SC_region ?_
    | refine SL_seq ?_
    | refine SL_assign (by decide) (by rfl) ?_
    | refine SL_sub (by decide) (by rfl) (by rfl) (by omega) (by omega) ?_
    | refine SL_fieldAddr (by decide) (by rfl) (fldF (by rfl)) ?_
    | refine SL_load_o (by decide) (by rfl) (by repeat (first | exact .head _ | refine .tail _ ?_)) (rowF (by rfl)) (by first | assumption | rfl | exact ps_get _ hlt) (by rfl) ?_
    | fail)
  refine SC_nd fun hnd0 => ?_
  refine SC_loop (fun a : Nat × Option Nat => [(1, .ptr b1 0 0), (3, outS a.1 a.2), (4, .s (.int .i64 ((R : Int) - 1 - a.1)))]) (fun a => (b1, .cells 26 3 true [[.s (.int .i64 F), .s (.int .i64 R), .sl pid 0 ps.length none]]) :: (pid, .cells 81 1 px (ps.map fun p => [AV.s (.int .i8 p)])) :: outH ((diagR F ps R).take a.1) a.2) (fun _ => []) (fun a => a.1 ≤ R ∧ (a.2 = none ↔ a.1 = 0) ∧ ∀ id, a.2 = some id → B.next ≤ id) (fun a => R - a.1) (0, none) ⟨by omega, by simp, by simp⟩ ⟨rfl, rfl, ?_, trivial⟩ ?_ (by simpa [outH] using hnd0) rfl ?_
  · show some (AV.s (Value.int IntKind.i64 ((R : Int) - 1))) = some (.s (.int .i64 ((R : Int) - 1 - ((0 : Nat) : Int))))
    rw [Int.natCast_zero, Int.sub_zero]
  · exact ⟨.head _, .tail _ (.head _), trivial⟩
  rintro ⟨n, o⟩ ⟨hn, hon, hnew⟩
  dsimp only at hn hon hnew
  by_cases hnR : n < R
  · obtain ⟨q, hq⟩ : ∃ q : Nat, (R : Int) - 1 - n = q := ⟨R - 1 - n, by omega⟩
    dsimp only
    rw [hq]
    repeat' (first
      | refine SC_seq ?_
      | refine SC_block ?_
      | refine SC_region ?_
      | refine SL_seq ?_
      | refine SL_move (by decide) (by rfl) ?_
      | refine SL_assign (by decide) (by rfl) ?_
      | (refine SL_geq (by decide) (by rfl) (by rfl) (fun hT => ?_) (fun hT => ?_) <;> first | (exfalso; omega) | skip)
      | refine SC_cond_t (by rfl) ?_
      | (refine SC_skip' (fun tm σ hE hH => ?_); refine SC.app ?_ hE hH; clear hE hH; clear tm σ)
      | fail)
    refine SC_nd fun hnd => ?_
    refine SC_loop (fun k : Nat => [(1, .ptr b1 0 0), (3, outS n o), (4, .s (.int .i64 q)), (5, .s (.string (lineP (((ps.drop (q * F)).take F).take k)))), (6, .s (.int .i64 k))]) (fun _ => (b1, .cells 26 3 true [[.s (.int .i64 F), .s (.int .i64 R), .sl pid 0 ps.length none]]) :: (pid, .cells 81 1 px (ps.map fun p => [AV.s (.int .i8 p)])) :: outH ((diagR F ps R).take n) o) (fun _ => []) (fun k => k ≤ F) (fun k => F - k) 0 (by omega) ⟨rfl, rfl, rfl, rfl, rfl, trivial⟩ (.of_mem fun p hp => hp) hnd rfl ?_
    intro k hk
    by_cases hkF : k < F
    · obtain ⟨hidx, hget⟩ := rank_at hl (show q < R by omega) hkF
      have hrl := rank_len hl (show q < R by omega)
      have hX0 : 0 ≤ (q : Int) * F := Int.mul_nonneg (by omega) (by omega)
      have hX1 : (q : Int) * F + k < ps.length := by have := hidx; rw [← Int.natCast_mul]; omega
      have hX2 : (ps.length : Int) ≤ 64 := by
        have : F * R ≤ 8 * 8 := Nat.mul_le_mul (by omega) (by omega)
        omega
      have hlt : ((q : Int) * F + k).toNat < ps.length := by omega
      have hp := hps _ (List.getElem_mem hlt)
      have hls := lineP_size ((ps.drop (q * F)).take F) k (by omega)
      have hix : ((q : Int) * F + k).toNat = q * F + k := by rw [← Int.natCast_mul]; omega
      have hrow : ((ps.drop (q * F)).take F)[k]'(by omega) = ps[((q : Int) * F + k).toNat] := by
        have h1 := List.getElem?_eq_getElem (show k < ((ps.drop (q * F)).take F).length by omega)
        rw [hget] at h1
        simp only [hix]
        exact (Option.some.inj h1).symm
      have hval := lineP_take (show k < ((ps.drop (q * F)).take F).length by omega)
      rw [hrow] at hval
      by_cases hz : ps[((q : Int) * F + k).toNat] = 0
      · by_cases hk0 : k = 0
        ·
          repeat' (first
            | refine SL_mul (by decide) (by rfl) (by rfl) (by omega) (by omega) ?_
            | refine SL_cat (by decide) (by rfl) (by rfl) (catOk (by first | omega | (rw [ByteArray.size_append, size32]; omega) | exact Nat.le_of_ble_eq_true (by rfl)) (by first | omega | exact Nat.le_of_ble_eq_true (by rfl))) ?_
            | refine SL_bytes (by decide) (by rfl) (by repeat (first | exact .head _ | refine .tail _ ?_)) Tryz.underlying84 Tryz.underlying9 Tryz.underlying5 (Nat.le_of_ble_eq_true (by rfl)) (by rfl) ?_
            | (refine SL_call (by decide) (by rfl) bd32 (by rfl) (by rfl) (h32z _ (by assumption)) trivial List.nodup_nil ?_; rintro _ _ _ ⟨rfl, rfl⟩; rw [List.nil_append])
            | refine SC_seq ?_
            | refine SC_block ?_
            | refine SC_region ?_
            | refine SL_seq ?_
            | (refine SL_nil (fun tm σ hE hH => ?_); refine SC.app ?_ hE hH; clear hE hH; clear tm σ)
            | refine SL_move (by decide) (by rfl) ?_
            | refine SL_assign (by decide) (by rfl) ?_
            | refine SL_add (by decide) (by rfl) (by rfl) (by omega) (by omega) ?_
            | (refine SL_lss (by decide) (by rfl) (by rfl) (fun hT => ?_) (fun hT => ?_) <;> first | (exfalso; omega) | skip)
            | (refine SL_gtr (by decide) (by rfl) (by rfl) (fun hT => ?_) (fun hT => ?_) <;> first | (exfalso; omega) | skip)
            | (refine SL_neq (by decide) (by rfl) (by rfl) (fun hT => ?_) (fun hT => ?_) <;> first | (exfalso; omega) | skip)
            | refine SL_extract_s (by decide) (by rfl) (by rfl) ?_
            | refine SL_fieldAddr (by decide) (by rfl) (fldF (by rfl)) ?_
            | refine SL_indexAddr_0 (by decide) (by rfl) (by rfl) (by repeat (first | exact .head _ | refine .tail _ ?_)) (slF (by rfl)) _ (by first | rfl | exact (Int.toNat_of_nonneg (by omega)).symm) (by omega) ?_
            | refine SL_load_o (by decide) (by rfl) (by repeat (first | exact .head _ | refine .tail _ ?_)) (rowF (by rfl)) (by first | assumption | rfl | exact ps_get _ hlt) (by rfl) ?_
            | refine SL_build1 (by decide) (by rfl) (elF (by rfl)) (by rfl) (by rfl) (fun id hid => ?_)
            | refine SC_cond_t (by rfl) ?_
            | refine SC_cond_f (by rfl) ?_
            | (refine SC_skip' (fun tm σ hE hH => ?_); refine SC.app ?_ hE hH; clear hE hH; clear tm σ)
            | fail)
          refine SL_nil fun tm σ hE hH => ⟨k + 1, by omega, by omega, tm, σ, rfl, hE.sub ⟨rfl, rfl, rfl, congrArg (fun s => some (AV.s (Value.string s))) (Eq.trans ?_ hval.symm), rfl, trivial⟩, hH.subl (List.Sublist.cons _ (List.Sublist.refl _))⟩
          rw [if_pos hk0, hz]; rfl
        ·
          repeat' (first
            | refine SL_mul (by decide) (by rfl) (by rfl) (by omega) (by omega) ?_
            | refine SL_cat (by decide) (by rfl) (by rfl) (catOk (by first | omega | (rw [ByteArray.size_append, size32]; omega) | exact Nat.le_of_ble_eq_true (by rfl)) (by first | omega | exact Nat.le_of_ble_eq_true (by rfl))) ?_
            | refine SL_bytes (by decide) (by rfl) (by repeat (first | exact .head _ | refine .tail _ ?_)) Tryz.underlying84 Tryz.underlying9 Tryz.underlying5 (Nat.le_of_ble_eq_true (by rfl)) (by rfl) ?_
            | (refine SL_call (by decide) (by rfl) bd32 (by rfl) (by rfl) (h32z _ (by assumption)) trivial List.nodup_nil ?_; rintro _ _ _ ⟨rfl, rfl⟩; rw [List.nil_append])
            | refine SC_seq ?_
            | refine SC_block ?_
            | refine SC_region ?_
            | refine SL_seq ?_
            | (refine SL_nil (fun tm σ hE hH => ?_); refine SC.app ?_ hE hH; clear hE hH; clear tm σ)
            | refine SL_move (by decide) (by rfl) ?_
            | refine SL_assign (by decide) (by rfl) ?_
            | refine SL_add (by decide) (by rfl) (by rfl) (by omega) (by omega) ?_
            | (refine SL_lss (by decide) (by rfl) (by rfl) (fun hT => ?_) (fun hT => ?_) <;> first | (exfalso; omega) | skip)
            | (refine SL_gtr (by decide) (by rfl) (by rfl) (fun hT => ?_) (fun hT => ?_) <;> first | (exfalso; omega) | skip)
            | (refine SL_neq (by decide) (by rfl) (by rfl) (fun hT => ?_) (fun hT => ?_) <;> first | (exfalso; omega) | skip)
            | refine SL_extract_s (by decide) (by rfl) (by rfl) ?_
            | refine SL_fieldAddr (by decide) (by rfl) (fldF (by rfl)) ?_
            | refine SL_indexAddr_0 (by decide) (by rfl) (by rfl) (by repeat (first | exact .head _ | refine .tail _ ?_)) (slF (by rfl)) _ (by first | rfl | exact (Int.toNat_of_nonneg (by omega)).symm) (by omega) ?_
            | refine SL_load_o (by decide) (by rfl) (by repeat (first | exact .head _ | refine .tail _ ?_)) (rowF (by rfl)) (by first | assumption | rfl | exact ps_get _ hlt) (by rfl) ?_
            | refine SL_build1 (by decide) (by rfl) (elF (by rfl)) (by rfl) (by rfl) (fun id hid => ?_)
            | refine SC_cond_t (by rfl) ?_
            | (refine SC_skip' (fun tm σ hE hH => ?_); refine SC.app ?_ hE hH; clear hE hH; clear tm σ)
            | fail)
          refine SL_nil fun tm σ hE hH => ⟨k + 1, by omega, by omega, tm, σ, rfl, hE.sub ⟨rfl, rfl, rfl, congrArg (fun s => some (AV.s (Value.string s))) (Eq.trans ?_ hval.symm), rfl, trivial⟩, hH.subl (List.Sublist.cons _ (List.Sublist.refl _))⟩
          rw [if_neg hk0, hz]; rfl
      · by_cases hk0 : k = 0
        ·
          repeat' (first
            | refine SL_mul (by decide) (by rfl) (by rfl) (by omega) (by omega) ?_
            | refine SL_cat (by decide) (by rfl) (by rfl) (catOk (by first | omega | (rw [ByteArray.size_append, size32]; omega) | exact Nat.le_of_ble_eq_true (by rfl)) (by first | omega | exact Nat.le_of_ble_eq_true (by rfl))) ?_
            | refine SL_bytes (by decide) (by rfl) (by repeat (first | exact .head _ | refine .tail _ ?_)) Tryz.underlying84 Tryz.underlying9 Tryz.underlying5 (Nat.le_of_ble_eq_true (by rfl)) (by rfl) ?_
            | (refine SL_call (by decide) (by rfl) bd32 (by rfl) (by rfl) (h32 _ (by assumption) (by omega) (by omega)) trivial List.nodup_nil ?_; rintro _ _ _ ⟨rfl, rfl⟩; rw [List.nil_append])
            | refine SC_seq ?_
            | refine SC_block ?_
            | refine SC_region ?_
            | refine SL_seq ?_
            | (refine SL_nil (fun tm σ hE hH => ?_); refine SC.app ?_ hE hH; clear hE hH; clear tm σ)
            | refine SL_move (by decide) (by rfl) ?_
            | refine SL_assign (by decide) (by rfl) ?_
            | refine SL_add (by decide) (by rfl) (by rfl) (by omega) (by omega) ?_
            | (refine SL_lss (by decide) (by rfl) (by rfl) (fun hT => ?_) (fun hT => ?_) <;> first | (exfalso; omega) | skip)
            | (refine SL_gtr (by decide) (by rfl) (by rfl) (fun hT => ?_) (fun hT => ?_) <;> first | (exfalso; omega) | skip)
            | (refine SL_neq (by decide) (by rfl) (by rfl) (fun hT => ?_) (fun hT => ?_) <;> first | (exfalso; omega) | skip)
            | refine SL_extract_s (by decide) (by rfl) (by rfl) ?_
            | refine SL_fieldAddr (by decide) (by rfl) (fldF (by rfl)) ?_
            | refine SL_indexAddr_0 (by decide) (by rfl) (by rfl) (by repeat (first | exact .head _ | refine .tail _ ?_)) (slF (by rfl)) _ (by first | rfl | exact (Int.toNat_of_nonneg (by omega)).symm) (by omega) ?_
            | refine SL_load_o (by decide) (by rfl) (by repeat (first | exact .head _ | refine .tail _ ?_)) (rowF (by rfl)) (by first | assumption | rfl | exact ps_get _ hlt) (by rfl) ?_
            | refine SL_build1 (by decide) (by rfl) (elF (by rfl)) (by rfl) (by rfl) (fun id hid => ?_)
            | refine SC_cond_t (by rfl) ?_
            | refine SC_cond_f (by rfl) ?_
            | (refine SC_skip' (fun tm σ hE hH => ?_); refine SC.app ?_ hE hH; clear hE hH; clear tm σ)
            | fail)
          refine SL_nil fun tm σ hE hH => ⟨k + 1, by omega, by omega, tm, σ, rfl, hE.sub ⟨rfl, rfl, rfl, congrArg (fun s => some (AV.s (Value.string s))) (Eq.trans ?_ hval.symm), rfl, trivial⟩, hH.subl (List.Sublist.cons _ (List.Sublist.refl _))⟩
          rw [if_pos hk0]; rfl
        ·
          repeat' (first
            | refine SL_mul (by decide) (by rfl) (by rfl) (by omega) (by omega) ?_
            | refine SL_cat (by decide) (by rfl) (by rfl) (catOk (by first | omega | (rw [ByteArray.size_append, size32]; omega) | exact Nat.le_of_ble_eq_true (by rfl)) (by first | omega | exact Nat.le_of_ble_eq_true (by rfl))) ?_
            | refine SL_bytes (by decide) (by rfl) (by repeat (first | exact .head _ | refine .tail _ ?_)) Tryz.underlying84 Tryz.underlying9 Tryz.underlying5 (Nat.le_of_ble_eq_true (by rfl)) (by rfl) ?_
            | (refine SL_call (by decide) (by rfl) bd32 (by rfl) (by rfl) (h32 _ (by assumption) (by omega) (by omega)) trivial List.nodup_nil ?_; rintro _ _ _ ⟨rfl, rfl⟩; rw [List.nil_append])
            | refine SC_seq ?_
            | refine SC_block ?_
            | refine SC_region ?_
            | refine SL_seq ?_
            | (refine SL_nil (fun tm σ hE hH => ?_); refine SC.app ?_ hE hH; clear hE hH; clear tm σ)
            | refine SL_move (by decide) (by rfl) ?_
            | refine SL_assign (by decide) (by rfl) ?_
            | refine SL_add (by decide) (by rfl) (by rfl) (by omega) (by omega) ?_
            | (refine SL_lss (by decide) (by rfl) (by rfl) (fun hT => ?_) (fun hT => ?_) <;> first | (exfalso; omega) | skip)
            | (refine SL_gtr (by decide) (by rfl) (by rfl) (fun hT => ?_) (fun hT => ?_) <;> first | (exfalso; omega) | skip)
            | (refine SL_neq (by decide) (by rfl) (by rfl) (fun hT => ?_) (fun hT => ?_) <;> first | (exfalso; omega) | skip)
            | refine SL_extract_s (by decide) (by rfl) (by rfl) ?_
            | refine SL_fieldAddr (by decide) (by rfl) (fldF (by rfl)) ?_
            | refine SL_indexAddr_0 (by decide) (by rfl) (by rfl) (by repeat (first | exact .head _ | refine .tail _ ?_)) (slF (by rfl)) _ (by first | rfl | exact (Int.toNat_of_nonneg (by omega)).symm) (by omega) ?_
            | refine SL_load_o (by decide) (by rfl) (by repeat (first | exact .head _ | refine .tail _ ?_)) (rowF (by rfl)) (by first | assumption | rfl | exact ps_get _ hlt) (by rfl) ?_
            | refine SL_build1 (by decide) (by rfl) (elF (by rfl)) (by rfl) (by rfl) (fun id hid => ?_)
            | refine SC_cond_t (by rfl) ?_
            | refine SC_cond_f (by rfl) ?_
            | (refine SC_skip' (fun tm σ hE hH => ?_); refine SC.app ?_ hE hH; clear hE hH; clear tm σ)
            | fail)
          refine SL_nil fun tm σ hE hH => ⟨k + 1, by omega, by omega, tm, σ, rfl, hE.sub ⟨rfl, rfl, rfl, congrArg (fun s => some (AV.s (Value.string s))) (Eq.trans ?_ hval.symm), rfl, trivial⟩, hH.subl (List.Sublist.cons _ (List.Sublist.refl _))⟩
          rw [if_neg hk0]; rfl
    · obtain rfl : k = F := by omega
      have hrl := rank_len hl (show q < R by omega)
      have hDn : (diagR k ps R).take (n + 1) = (diagR k ps R).take n ++ [lineP (((ps.drop (q * k)).take k).take k)] := by
        have := diagR_take k ps (show q < R by omega)
        rw [show R - q = n + 1 by omega, show R - (q + 1) = n by omega] at this
        rw [this, List.take_take, Nat.min_self]
      cases o with
      | none =>
        obtain rfl : n = 0 := hon.1 rfl
        dsimp only [outS, outH]
        repeat' (first
          | refine SC_seq ?_
          | refine SC_region ?_
          | refine SL_seq ?_
          | (refine SL_nil (fun tm σ hE hH => ?_); refine SC.app ?_ hE hH; clear hE hH; clear tm σ)
          | refine SL_move (by decide) (by rfl) ?_
          | refine SL_assign (by decide) (by rfl) ?_
          | refine SL_sub (by decide) (by rfl) (by rfl) (by omega) (by omega) ?_
          | (refine SL_lss (by decide) (by rfl) (by rfl) (fun hT => ?_) (fun hT => ?_) <;> first | (exfalso; omega) | skip)
          | refine SL_fieldAddr (by decide) (by rfl) (fldF (by rfl)) ?_
          | refine SL_load_o (by decide) (by rfl) (by repeat (first | exact .head _ | refine .tail _ ?_)) (rowF (by rfl)) (by first | assumption | rfl | exact ps_get _ hlt) (by rfl) ?_
          | refine SL_build1 (by decide) (by rfl) (elF (by rfl)) (by rfl) (by rfl) (fun id hid => ?_)
          | refine SL_append1_nil (by decide) (by rfl) (by rfl) (by repeat (first | exact .head _ | refine .tail _ ?_)) (elF (by rfl)) (sliceOf_spec (slF (by rfl))).1 (by rfl) (by decide) (fun id hid => ?_)
          | refine SC_cond_f (by rfl) ?_
          | (refine SC_exit (fun tm σ hE hH => ?_); refine SC.app ?_ hE hH; clear hE hH; clear tm σ)
          | fail)
        refine SL_nil fun tm σ hE hH => ⟨(1, some id), by dsimp only; omega, ⟨by dsimp only; omega, by simp, fun j hj => by cases hj; assumption⟩, tm, σ, rfl, hE.sub ⟨rfl, rfl, ?_, trivial⟩, ?_⟩
        · show some (AV.s (Value.int IntKind.i64 ((q : Int) - 1))) = some (.s (.int .i64 ((R : Int) - 1 - ((1 : Nat) : Int))))
          rw [show (R : Int) - 1 - ((1 : Nat) : Int) = (q : Int) - 1 by omega]
        · dsimp only [outH, strs]
          rw [hDn]
          exact (hH.perm (List.perm_append_comm (l₁ := [_, _]) (l₂ := [_, _]))).subl (.cons_cons _ (.cons_cons _ (.cons_cons _ (.cons _ .slnil))))
      | some oid =>
        have hDl : ((diagR k ps R).take n).length = n := by rw [List.length_take, diagR_len]; omega
        have hoid := hnew oid rfl
        dsimp only [outS, outH, strs]
        repeat' (first
          | refine SL_append1_own (by decide) (by rfl) (by rfl) (by repeat (first | exact .head | apply Upd.tail)) (by rw [List.length_map]; exact hDl.symm) (by first | exact .inl (by assumption) | exact .inr (by simp)) (by repeat (first | exact .head _ | refine .tail _ ?_)) (elF (by rfl)) (sliceOf_spec (slF (by rfl))).1 (by rfl) (by omega) (by omega) (fun id hid => ?_)
          | refine SC_seq ?_
          | refine SC_region ?_
          | refine SL_seq ?_
          | (refine SL_nil (fun tm σ hE hH => ?_); refine SC.app ?_ hE hH; clear hE hH; clear tm σ)
          | refine SL_move (by decide) (by rfl) ?_
          | refine SL_assign (by decide) (by rfl) ?_
          | refine SL_sub (by decide) (by rfl) (by rfl) (by omega) (by omega) ?_
          | (refine SL_lss (by decide) (by rfl) (by rfl) (fun hT => ?_) (fun hT => ?_) <;> first | (exfalso; omega) | skip)
          | refine SL_fieldAddr (by decide) (by rfl) (fldF (by rfl)) ?_
          | refine SL_load_o (by decide) (by rfl) (by repeat (first | exact .head _ | refine .tail _ ?_)) (rowF (by rfl)) (by first | assumption | rfl | exact ps_get _ hlt) (by rfl) ?_
          | refine SL_build1 (by decide) (by rfl) (elF (by rfl)) (by rfl) (by rfl) (fun id hid => ?_)
          | refine SC_cond_f (by rfl) ?_
          | (refine SC_exit (fun tm σ hE hH => ?_); refine SC.app ?_ hE hH; clear hE hH; clear tm σ)
          | fail)
        refine SL_nil fun tm σ hE hH => ⟨(n + 1, some id), by dsimp only; omega, ⟨by dsimp only; omega, by simp, fun j hj => by cases hj; assumption⟩, tm, σ, rfl, hE.sub ⟨rfl, rfl, ?_, trivial⟩, ?_⟩
        · show some (AV.s (Value.int IntKind.i64 ((q : Int) - 1))) = some (.s (.int .i64 ((R : Int) - 1 - ((n + 1 : Nat) : Int))))
          rw [show (R : Int) - 1 - ((n + 1 : Nat) : Int) = (q : Int) - 1 by omega]
        · dsimp only [outH, strs]
          rw [hDn, List.map_append]
          exact (hH.perm (List.perm_append_comm (l₁ := [_, _]) (l₂ := [_, _, _]))).subl (.cons_cons _ (.cons_cons _ (.cons _ (.cons_cons _ (.cons _ .slnil)))))
  · obtain rfl : n = R := by omega
    cases o with
    | none => exact absurd (hon.1 rfl) (by omega)
    | some oid =>
      dsimp only [outS, outH]
      repeat' (first
        | refine SC_seq ?_
        | refine SC_region ?_
        | refine SL_seq ?_
        | refine SL_move (by decide) (by rfl) ?_
        | refine SL_assign (by decide) (by rfl) ?_
        | (refine SL_geq (by decide) (by rfl) (by rfl) (fun hT => ?_) (fun hT => ?_) <;> first | (exfalso; omega) | skip)
        | refine SC_cond_f (by rfl) ?_
        | (refine SC_exit (fun tm σ hE hH => ?_); refine SC.app ?_ hE hH; clear hE hH; clear tm σ)
        | fail)
      refine SC_ret (fun tm σ hE hH => Post.intro (Hn := [(oid, _)]) (.inr rfl) hE hH (by rfl) ⟨.tail _ (.tail _ (.head _)), trivial⟩ (by simp) (fun p hp => by cases List.mem_singleton.1 hp; exact hnew oid rfl) ⟨oid, rfl, by rw [List.take_of_length_le (by rw [diagR_len]; exact Nat.le_refl _)]⟩)
end Go.Proofs.YtnhnlkljcfbhfaaGreatDoor
/- ReportBoards, walked. -/
namespace Go.Proofs.YtnhnlkljcfbhfaaGreatDoor
open Go Go.Ab
set_option maxRecDepth 100000
theorem bd8b : (Tryz.prog.funcs[8]?).map (·.body.isNone) = some false := by rw [Tryz.func8]; rfl
theorem bd7 : (Tryz.prog.funcs[7]?).map (·.body.isNone) = some false := by rw [Tryz.func7]; rfl
theorem bd9 : (Tryz.prog.funcs[9]?).map (·.body.isNone) = some false := by rw [Tryz.func9]; rfl
theorem bd11 : (Tryz.prog.funcs[11]?).map (·.body.isNone) = some false := by rw [Tryz.func11]; rfl
theorem bd12 : (Tryz.prog.funcs[12]?).map (·.body.isNone) = some false := by rw [Tryz.func12]; rfl
theorem bd13 : (Tryz.prog.funcs[13]?).map (·.body.isNone) = some false := by rw [Tryz.func13]; rfl
theorem ps_len (ps : List Int) : (ps.map fun p => [AV.s (.int .i8 p)]).length = ps.length := List.length_map _
structure Bds (G : Gl) (xs : List ByteArray) (al : AV) : Prop where
  o3 : ∀ a b, G.orc 3 [a, b] = none
  h8 : FnC Tryz.prog G 8 [] [] (fun v Hn => v = .s (.bool true) ∧ Hn = [])
  h7 : FnC Tryz.prog G 7 [al, .s (.int .i64 9)] [] (fun v Hn => v = .s (.bool (fewS xs 9)) ∧ Hn = [])
  h13 : fewS xs 9 = true → FnC Tryz.prog G 13 [al] [] (PDR xs)
  h10o : ∀ (F R pid : Nat) (qs : List Int), OkB F R qs → FnC Tryz.prog G 10 [brd F R (.sl pid 0 qs.length none)] [(pid, .cells 81 1 false (qs.map fun p => [AV.s (.int .i8 p)]))] (fun v Hn => v = .s (.bool true) ∧ Hn = [])
  h12o : ∀ (F R pid : Nat) (qs : List Int), OkB F R qs → FnC Tryz.prog G 12 [brd F R (.sl pid 0 qs.length none)] [(pid, .cells 81 1 false (qs.map fun p => [AV.s (.int .i8 p)]))] (fun v Hn => ∃ id, v = .sl id 0 R none ∧ Hn = [(id, .cells 9 1 false (strs (diagR F qs R)))])
  h11ov : ∀ (a n : Nat) (ys : List ByteArray), ys = xs → n = xs.length → n ≤ 1000 → FnC Tryz.prog G 11 [.sl a 0 n none, al] [(a, .cells 9 1 false (strs ys))] (fun v Hn => v = .s (.bool true) ∧ Hn = [])
attribute [local irreducible] SC SL wpc wpl wpd wpf wpy wpn FnC FnW RdW SD
set_option pp.deepTerms false
set_option pp.maxSteps 900
set_option maxHeartbeats 4000000
theorem law3_k {G : Gl} {f r : Int} {ps : List Int} {l al : AV} {xs : List ByteArray} (hG : Bds G xs al) (hsl0 : SlK 1 l (ps.map fun p => [AV.s (.int .i8 p)])) (hbig : 70 < ps.length ∨ fewS xs 9 = false) : FnC Tryz.prog G 3 [brd f r l, al] [] (fun v Hn => v = .s (.bool true) ∧ Hn = []) := by
  obtain ⟨o3, h8, h7, -, -, -, -⟩ := hG
  have hsl := hsl0.v
  by_cases hb : 70 < ps.length
  · refine Fn_body (N := 72) (o3 _ _) Tryz.func3 rfl rfl fun B => ?_
    repeat' (first
      | (refine SL_box (d := 2) (by decide) (by rfl) (by first | exact cells_2 _ _ | exact cells_b _ _ _) (fun b2 hid2 => ?_))
      | refine SL_len_v (by decide) (by rfl) (by assumption) (by rfl) (slF (by rfl)) (ps_len _) ?_
      | (refine SL_call (by decide) (by rfl) bd8b (by rfl) (by rfl) (h8) trivial List.nodup_nil ?_; rintro _ _ _ ⟨rfl, rfl⟩; rw [List.nil_append])
      | refine SC_seq ?_
      | refine SC_region ?_
      | refine SL_seq ?_
      | refine SL_not (by rfl) (by rfl) (by rfl) (by decide) ?_
      | refine SL_move (by decide) (by rfl) ?_
      | refine SL_assign (by decide) (by rfl) ?_
      | refine SL_pick_t (by decide) (by rfl) (by rfl) ?_
      | (refine SL_gtr (by decide) (by rfl) (by rfl) (fun hT => ?_) (fun hT => ?_) <;> first | (exfalso; omega) | skip)
      | refine SL_fieldAddr (by decide) (by rfl) (fldF (by rfl)) ?_
      | refine SL_load_o (by decide) (by rfl) (by repeat (first | exact .head _ | refine .tail _ ?_)) (rowF (by rfl)) (by first | assumption | rfl) (by rfl) ?_
      | refine SC_cond_t (by rfl) ?_
      | fail)
    refine SC_ret (fun tm σ hE hH => Post.intro (Hn := []) (.inr rfl) hE hH (by rfl) trivial List.nodup_nil (fun p hp => (by cases hp)) ?_)
    exact ⟨rfl, rfl⟩
  · rw [hbig.resolve_left hb] at h7
    refine Fn_body (N := 72) (o3 _ _) Tryz.func3 rfl rfl fun B => ?_
    repeat' (first
      | (refine SL_box (d := 2) (by decide) (by rfl) (by first | exact cells_2 _ _ | exact cells_b _ _ _) (fun b2 hid2 => ?_))
      | refine SL_len_v (by decide) (by rfl) (by assumption) (by rfl) (slF (by rfl)) (ps_len _) ?_
      | (refine SL_call (by decide) (by rfl) bd7 (by rfl) (by rfl) (h7) trivial List.nodup_nil ?_; rintro _ _ _ ⟨rfl, rfl⟩; rw [List.nil_append])
      | (refine SL_call (by decide) (by rfl) bd8b (by rfl) (by rfl) (h8) trivial List.nodup_nil ?_; rintro _ _ _ ⟨rfl, rfl⟩; rw [List.nil_append])
      | refine SC_seq ?_
      | refine SC_region ?_
      | refine SL_seq ?_
      | refine SL_run (by rfl) (by rfl) ?_
      | refine SL_move (by decide) (by rfl) ?_
      | refine SL_assign (by decide) (by rfl) ?_
      | refine SL_pick_f (by decide) (by rfl) (by rfl) ?_
      | refine SL_not_op (by decide) (by rfl) ?_
      | (refine SL_gtr (by decide) (by rfl) (by rfl) (fun hT => ?_) (fun hT => ?_) <;> first | (exfalso; omega) | skip)
      | refine SL_fieldAddr (by decide) (by rfl) (fldF (by rfl)) ?_
      | refine SL_load_o (by decide) (by rfl) (by repeat (first | exact .head _ | refine .tail _ ?_)) (rowF (by rfl)) (by first | assumption | rfl) (by rfl) ?_
      | refine SC_cond_t (by rfl) ?_
      | fail)
    refine SC_ret (fun tm σ hE hH => Post.intro (Hn := []) (.inr rfl) hE hH (by rfl) trivial List.nodup_nil (fun p hp => (by cases hp)) ?_)
    exact ⟨rfl, rfl⟩
theorem law3_f {G : Gl} {f r : Int} {ps : List Int} {l al : AV} {xs : List ByteArray} (hG : Bds G xs al) (hsl0 : SlK 1 l (ps.map fun p => [AV.s (.int .i8 p)])) (hb : ps.length ≤ 70) (hfew : fewS xs 9 = true)
    (h9 : FnC Tryz.prog G 9 [brd f r l] [] (fun v Hn => v = .s (.tuple #[.slice none 0 0, .int .i64 2]) ∧ Hn = [])) (h10 : FnC Tryz.prog G 10 [brd f r l] [] (fun v Hn => v = .s (.bool false) ∧ Hn = [])) :
    FnC Tryz.prog G 3 [brd f r l, al] [] (fun v Hn => v = .s (.bool true) ∧ Hn = []) := by
  obtain ⟨o3, h8, h7, h13', h10o, h12o, h11ov⟩ := hG
  have h13 := h13' hfew
  rw [hfew] at h7
  have hsl := hsl0.v
  unfold PDR at h13
  refine Fn_body (N := 72) (o3 _ _) Tryz.func3 rfl rfl fun B => ?_
  repeat' (first
    | (refine SL_call (by decide) (by rfl) bd11 (by rfl) (by rfl) (h11ov _ _ _ hdiag (by rw [← hdiag, diagR_len]) (by have := hokb.1.2.2.2; omega)) ⟨by repeat (first | exact .head _ | refine .tail _ ?_), trivial⟩ (by simp) ?_; rintro _ _ _ ⟨rfl, rfl⟩; rw [List.nil_append])
    | (refine SL_call (by decide) (by rfl) bd12 (by rfl) (by rfl) (h12o _ _ _ _ hokb) ⟨by repeat (first | exact .head _ | refine .tail _ ?_), trivial⟩ (by simp) ?_; rintro _ _ hn12 ⟨id12', rfl, rfl⟩; rw [List.singleton_append])
    | (refine SL_call (by decide) (by rfl) bd10 (by rfl) (by rfl) (h10o _ _ _ _ hokb) ⟨by repeat (first | exact .head _ | refine .tail _ ?_), trivial⟩ (by simp) ?_; rintro _ _ _ ⟨rfl, rfl⟩; rw [List.nil_append])
    | (refine SL_call (by decide) (by rfl) bd13 (by rfl) (by rfl) h13 trivial List.nodup_nil ?_; rintro _ _ hn13 hk; rcases hk with ⟨rfl, rfl⟩ | ⟨F', R', pid, qs, rfl, rfl, hokb, hdiag⟩ <;> first | rw [List.nil_append] | rw [List.singleton_append])
    | refine SL_store_n (by rfl) (by rfl) (by repeat (first | exact .head _ | refine .tail _ ?_)) (by rfl) (by first | rfl | exact cells_b _ _ _) (by rfl) (by repeat (first | exact .head | apply Upd.tail)) (by first | exact .inl (by assumption) | exact .inr (by simp)) (szF (by rfl)) (Nat.le_of_ble_eq_true (by rfl)) (by rfl) ?_
    | refine SL_alloc (d := 7) (by decide) (zeroF (by rfl)) (fun b7 hid7 => ?_)
    | (refine SL_box (d := 2) (by decide) (by rfl) (by first | exact cells_2 _ _ | exact cells_b _ _ _) (fun b2 hid2 => ?_))
    | refine SL_load_or (by decide) (by rfl) (by repeat (first | exact .head _ | refine .tail _ ?_)) (rowF (by rfl)) (by rfl) (Nat.le_of_ble_eq_true (by rfl)) (by first | exact mk2 _ _ | exact mk2b _ _ _ | exact mkz _ _ _ | exact mkb _ _ _) ?_
    | refine SL_len_v (by decide) (by rfl) (by assumption) (by rfl) (slF (by rfl)) (ps_len _) ?_
    | (refine SL_call (by decide) (by rfl) bd10 (by rfl) (by rfl) (h10) trivial List.nodup_nil ?_; rintro _ _ _ ⟨rfl, rfl⟩; rw [List.nil_append])
    | (refine SL_call (by decide) (by rfl) bd9 (by rfl) (by rfl) (h9) trivial List.nodup_nil ?_; rintro _ _ _ ⟨rfl, rfl⟩; rw [List.nil_append])
    | (refine SL_call (by decide) (by rfl) bd7 (by rfl) (by rfl) (h7) trivial List.nodup_nil ?_; rintro _ _ _ ⟨rfl, rfl⟩; rw [List.nil_append])
    | (refine SL_call (by decide) (by rfl) bd8b (by rfl) (by rfl) (h8) trivial List.nodup_nil ?_; rintro _ _ _ ⟨rfl, rfl⟩; rw [List.nil_append])
    | refine SC_seq ?_
    | refine SC_region ?_
    | refine SL_seq ?_
    | refine SL_run (by rfl) (by rfl) ?_
    | refine SL_move (by decide) (by rfl) ?_
    | refine SL_assign (by decide) (by rfl) ?_
    | refine SL_pick_t (by decide) (by rfl) (by rfl) ?_
    | refine SL_pick_f (by decide) (by rfl) (by rfl) ?_
    | refine SL_not_op (by decide) (by rfl) ?_
    | (refine SL_gtr (by decide) (by rfl) (by rfl) (fun hT => ?_) (fun hT => ?_) <;> first | (exfalso; omega) | skip)
    | (refine SL_eql (by decide) (by rfl) (by rfl) (fun hT => ?_) (fun hT => ?_) <;> first | (exfalso; omega) | skip)
    | (refine SL_neq (by decide) (by rfl) (by rfl) (fun hT => ?_) (fun hT => ?_) <;> first | (exfalso; omega) | skip)
    | refine SL_extract_tup (by decide) (by rfl) (by rfl) ?_
    | refine SL_extract_s (by decide) (by rfl) (by rfl) ?_
    | refine SL_fieldAddr (by decide) (by rfl) (fldF (by rfl)) ?_
    | refine SL_len_0 (by decide) (by rfl) (by rfl) (sliceOf_spec (slF (by rfl))).1 ?_
    | refine SL_load_o (by decide) (by rfl) (by repeat (first | exact .head _ | refine .tail _ ?_)) (rowF (by rfl)) (by first | assumption | rfl) (by rfl) ?_
    | refine SC_cond_t (by rfl) ?_
    | refine SC_cond_f (by rfl) ?_
    | (refine SC_skip' (fun tm σ hE hH => ?_); refine SC.app ?_ hE hH; clear hE hH; clear tm σ)
    | fail)
  all_goals refine SC_ret (fun tm σ hE hH => Post.intro (Hn := []) (.inr rfl) hE hH (by rfl) trivial List.nodup_nil (fun p hp => (by cases hp)) ?_)
  all_goals exact ⟨rfl, rfl⟩
theorem law3_t {G : Gl} {F R : Nat} {ps : List Int} {l al : AV} {xs : List ByteArray} (hG : Bds G xs al) (hsl0 : SlK 1 l (ps.map fun p => [AV.s (.int .i8 p)])) (hb : ps.length ≤ 70) (hfew : fewS xs 9 = true)
    (h9t : FnC Tryz.prog G 9 [brd F R l] [] (fun v Hn => ∃ id, v = .tup [.sl id 0 R none, .s (.int .i64 0)] ∧ Hn = [(id, .cells 9 1 false (strs (diagR F ps R)))])) (h10 : FnC Tryz.prog G 10 [brd F R l] [] (fun v Hn => v = .s (.bool true) ∧ Hn = []))
    (h12 : FnC Tryz.prog G 12 [brd F R l] [] (fun v Hn => ∃ id, v = .sl id 0 R none ∧ Hn = [(id, .cells 9 1 false (strs (diagR F ps R)))]))
    (h11oo : ∀ (a b : Nat), a ≠ b → FnC Tryz.prog G 11 [.sl a 0 R none, .sl b 0 R none] [(a, .cells 9 1 false (strs (diagR F ps R))), (b, .cells 9 1 false (strs (diagR F ps R)))] (fun v Hn => v = .s (.bool true) ∧ Hn = [])) :
    FnC Tryz.prog G 3 [brd F R l, al] [] (fun v Hn => v = .s (.bool true) ∧ Hn = []) := by
  obtain ⟨o3, h8, h7, h13', h10o, h12o, h11ov⟩ := hG
  have h13 := h13' hfew
  rw [hfew] at h7
  have hsl := hsl0.v
  unfold PDR at h13
  refine Fn_body (N := 72) (o3 _ _) Tryz.func3 rfl rfl fun B => ?_
  repeat' (first
    | (refine SL_call (by decide) (by rfl) bd11 (by rfl) (by rfl) (h11ov _ _ _ hdiag (by rw [← hdiag, diagR_len]) (by have := hokb.1.2.2.2; omega)) ⟨by repeat (first | exact .head _ | refine .tail _ ?_), trivial⟩ (by simp) ?_; rintro _ _ _ ⟨rfl, rfl⟩; rw [List.nil_append])
    | (refine SL_call (by decide) (by rfl) bd12 (by rfl) (by rfl) (h12o _ _ _ _ hokb) ⟨by repeat (first | exact .head _ | refine .tail _ ?_), trivial⟩ (by simp) ?_; rintro _ _ hn12 ⟨id12', rfl, rfl⟩; rw [List.singleton_append])
    | (refine SL_call (by decide) (by rfl) bd10 (by rfl) (by rfl) (h10o _ _ _ _ hokb) ⟨by repeat (first | exact .head _ | refine .tail _ ?_), trivial⟩ (by simp) ?_; rintro _ _ _ ⟨rfl, rfl⟩; rw [List.nil_append])
    | (refine SL_call (by decide) (by rfl) bd13 (by rfl) (by rfl) h13 trivial List.nodup_nil ?_; rintro _ _ hn13 hk; rcases hk with ⟨rfl, rfl⟩ | ⟨F', R', pid, qs, rfl, rfl, hokb, hdiag⟩ <;> first | rw [List.nil_append] | rw [List.singleton_append])
    | (refine SL_nd fun hnd' => ?_; refine SL_call (by decide) (by rfl) bd11 (by rfl) (by rfl) (h11oo _ _ (by intro e; subst e; simp at hnd')) ⟨by repeat (first | exact .head _ | refine .tail _ ?_), by repeat (first | exact .head _ | refine .tail _ ?_), trivial⟩ (by simp; intro e; subst e; simp at hnd') ?_; rintro _ _ _ ⟨rfl, rfl⟩; rw [List.nil_append])
    | (refine SL_call (by decide) (by rfl) bd12 (by rfl) (by rfl) h12 trivial List.nodup_nil ?_; rintro _ _ hn12 ⟨id12, rfl, rfl⟩; rw [List.singleton_append])
    | (refine SL_call (by decide) (by rfl) bd9 (by rfl) (by rfl) h9t trivial List.nodup_nil ?_; rintro _ _ hn9 ⟨id9, rfl, rfl⟩; rw [List.singleton_append])
    | refine SL_store_n (by rfl) (by rfl) (by repeat (first | exact .head _ | refine .tail _ ?_)) (by rfl) (by first | rfl | exact cells_b _ _ _) (by rfl) (by repeat (first | exact .head | apply Upd.tail)) (by first | exact .inl (by assumption) | exact .inr (by simp)) (szF (by rfl)) (Nat.le_of_ble_eq_true (by rfl)) (by rfl) ?_
    | refine SL_alloc (d := 7) (by decide) (zeroF (by rfl)) (fun b7 hid7 => ?_)
    | (refine SL_box (d := 2) (by decide) (by rfl) (by first | exact cells_2 _ _ | exact cells_b _ _ _) (fun b2 hid2 => ?_))
    | refine SL_load_or (by decide) (by rfl) (by repeat (first | exact .head _ | refine .tail _ ?_)) (rowF (by rfl)) (by rfl) (Nat.le_of_ble_eq_true (by rfl)) (by first | exact mk2 _ _ | exact mk2b _ _ _ | exact mkz _ _ _ | exact mkb _ _ _) ?_
    | refine SL_len_v (by decide) (by rfl) (by assumption) (by rfl) (slF (by rfl)) (ps_len _) ?_
    | (refine SL_call (by decide) (by rfl) bd10 (by rfl) (by rfl) (h10) trivial List.nodup_nil ?_; rintro _ _ _ ⟨rfl, rfl⟩; rw [List.nil_append])
    | (refine SL_call (by decide) (by rfl) bd7 (by rfl) (by rfl) (h7) trivial List.nodup_nil ?_; rintro _ _ _ ⟨rfl, rfl⟩; rw [List.nil_append])
    | (refine SL_call (by decide) (by rfl) bd8b (by rfl) (by rfl) (h8) trivial List.nodup_nil ?_; rintro _ _ _ ⟨rfl, rfl⟩; rw [List.nil_append])
    | refine SC_seq ?_
    | refine SC_region ?_
    | refine SL_seq ?_
    | refine SL_run (by rfl) (by rfl) ?_
    | refine SL_move (by decide) (by rfl) ?_
    | refine SL_assign (by decide) (by rfl) ?_
    | refine SL_pick_t (by decide) (by rfl) (by rfl) ?_
    | refine SL_pick_f (by decide) (by rfl) (by rfl) ?_
    | refine SL_not_op (by decide) (by rfl) ?_
    | (refine SL_gtr (by decide) (by rfl) (by rfl) (fun hT => ?_) (fun hT => ?_) <;> first | (exfalso; omega) | skip)
    | (refine SL_eql (by decide) (by rfl) (by rfl) (fun hT => ?_) (fun hT => ?_) <;> first | (exfalso; omega) | skip)
    | (refine SL_neq (by decide) (by rfl) (by rfl) (fun hT => ?_) (fun hT => ?_) <;> first | (exfalso; omega) | skip)
    | refine SL_extract_tup (by decide) (by rfl) (by rfl) ?_
    | refine SL_extract_s (by decide) (by rfl) (by rfl) ?_
    | refine SL_fieldAddr (by decide) (by rfl) (fldF (by rfl)) ?_
    | refine SL_len_0 (by decide) (by rfl) (by rfl) (sliceOf_spec (slF (by rfl))).1 ?_
    | refine SL_load_o (by decide) (by rfl) (by repeat (first | exact .head _ | refine .tail _ ?_)) (rowF (by rfl)) (by first | assumption | rfl) (by rfl) ?_
    | refine SC_cond_t (by rfl) ?_
    | refine SC_cond_f (by rfl) ?_
    | (refine SC_skip' (fun tm σ hE hH => ?_); refine SC.app ?_ hE hH; clear hE hH; clear tm σ)
    | fail)
  all_goals refine SC_ret (fun tm σ hE hH => Post.intro (Hn := []) (.inr rfl) hE hH (by rfl) trivial List.nodup_nil (fun p hp => (by cases hp)) ?_)
  all_goals exact ⟨rfl, rfl⟩
end Go.Proofs.YtnhnlkljcfbhfaaGreatDoor
/- ReportPairings, walked. -/
namespace Go.Proofs.YtnhnlkljcfbhfaaGreatDoor
open Go Go.Ab
set_option maxRecDepth 100000
theorem bd21 : (Tryz.prog.funcs[21]?).map (·.body.isNone) = some false := by rw [Tryz.func21]; rfl
theorem bd23 : (Tryz.prog.funcs[23]?).map (·.body.isNone) = some false := by rw [Tryz.func23]; rfl
structure Prs (G : Gl) (xs ys : List ByteArray) (na la : AV) : Prop where
  o5 : ∀ a b c, G.orc 5 [a, b, c] = none
  h8 : FnC Tryz.prog G 8 [] [] (fun v Hn => v = .s (.bool true) ∧ Hn = [])
  h7a : FnC Tryz.prog G 7 [la, .s (.int .i64 8)] [] (fun v Hn => v = .s (.bool (fewS ys 8)) ∧ Hn = [])
  h7b : FnC Tryz.prog G 7 [na, .s (.int .i64 13)] [] (fun v Hn => v = .s (.bool (fewS xs 13)) ∧ Hn = [])
attribute [local irreducible] SC SL wpc wpl wpd wpf wpy wpn FnC FnW RdW SD SI SJ
set_option pp.deepTerms false
set_option pp.maxSteps 900
set_option maxHeartbeats 4000000
theorem law5_k {G : Gl} {xs ys : List ByteArray} {op : List Int} {wh : List Bool} {na la ov wv : AV} (hG : Prs G xs ys na la) (hsl : SlV 1 na (xs.map fun x => [.s (.string x)])) (hso : SlV 1 ov (op.map fun x => [.s (.int .i64 x)])) (hsw : SlV 1 wv (wh.map fun x => [.s (.bool x)]))
    (hk : 13 < xs.length ∨ 13 < op.length ∨ 13 < wh.length ∨ fewS ys 8 = false ∨ fewS xs 13 = false) : FnC Tryz.prog G 5 [na, mkAgg [ov, wv], la] [] (fun v Hn => v = .s (.bool true) ∧ Hn = []) := by
  obtain ⟨o5, h8, h7a, h7b⟩ := hG
  by_cases h1 : 13 < xs.length
  · refine Fn_body (N := 132) (o5 _ _ _) Tryz.func5 rfl rfl fun B => ?_
    repeat' (first
      | (refine SL_box (d := 4) (by decide) (by rfl) (cells_r _ _) (fun b4 hid4 => ?_))
      | refine SL_len_v (by decide) (by rfl) hsl (by rfl) (slF (by rfl)) (strs_len0 _) ?_
      | (refine SL_call (by decide) (by rfl) bd8b (by rfl) (by rfl) (h8) trivial List.nodup_nil ?_; rintro _ _ _ ⟨rfl, rfl⟩; rw [List.nil_append])
      | refine SC_seq ?_
      | refine SC_region ?_
      | refine SL_seq ?_
      | refine SL_not (by rfl) (by rfl) (by rfl) (by decide) ?_
      | refine SL_move (by decide) (by rfl) ?_
      | refine SL_assign (by decide) (by rfl) ?_
      | refine SL_pick_t (by decide) (by rfl) (by rfl) ?_
      | (refine SL_gtr (by decide) (by rfl) (by rfl) (fun hT => ?_) (fun hT => ?_) <;> first | (exfalso; omega) | skip)
      | refine SC_cond_t (by rfl) ?_
      | fail)
    refine SC_ret (fun tm σ hE hH => Post.intro (Hn := []) (.inr rfl) hE hH (by rfl) trivial List.nodup_nil (fun p hp => (by cases hp)) ?_)
    exact ⟨rfl, rfl⟩
  by_cases h2 : 13 < op.length
  · refine Fn_body (N := 132) (o5 _ _ _) Tryz.func5 rfl rfl fun B => ?_
    repeat' (first
      | (refine SL_box (d := 4) (by decide) (by rfl) (cells_r _ _) (fun b4 hid4 => ?_))
      | refine SL_len_v (by decide) (by rfl) hso (by rfl) (slF (by rfl)) (ints_len1 _) ?_
      | refine SL_len_v (by decide) (by rfl) hsl (by rfl) (slF (by rfl)) (strs_len0 _) ?_
      | (refine SL_call (by decide) (by rfl) bd8b (by rfl) (by rfl) (h8) trivial List.nodup_nil ?_; rintro _ _ _ ⟨rfl, rfl⟩; rw [List.nil_append])
      | refine SC_seq ?_
      | refine SC_region ?_
      | refine SL_seq ?_
      | refine SL_run (by rfl) (by rfl) ?_
      | refine SL_not (by rfl) (by rfl) (by rfl) (by decide) ?_
      | refine SL_move (by decide) (by rfl) ?_
      | refine SL_assign (by decide) (by rfl) ?_
      | refine SL_pick_t (by decide) (by rfl) (by rfl) ?_
      | refine SL_pick_f (by decide) (by rfl) (by rfl) ?_
      | (refine SL_gtr (by decide) (by rfl) (by rfl) (fun hT => ?_) (fun hT => ?_) <;> first | (exfalso; omega) | skip)
      | refine SL_fieldAddr (by decide) (by rfl) (fldF (by rfl)) ?_
      | refine SL_load_o (by decide) (by rfl) (by repeat (first | exact .head _ | refine .tail _ ?_)) (rowF (by rfl)) (by first | assumption | rfl) (by rfl) ?_
      | refine SC_cond_t (by rfl) ?_
      | fail)
    refine SC_ret (fun tm σ hE hH => Post.intro (Hn := []) (.inr rfl) hE hH (by rfl) trivial List.nodup_nil (fun p hp => (by cases hp)) ?_)
    exact ⟨rfl, rfl⟩
  by_cases h3 : 13 < wh.length
  · refine Fn_body (N := 132) (o5 _ _ _) Tryz.func5 rfl rfl fun B => ?_
    repeat' (first
      | (refine SL_box (d := 4) (by decide) (by rfl) (cells_r _ _) (fun b4 hid4 => ?_))
      | refine SL_len_v (by decide) (by rfl) hsw (by rfl) (slF (by rfl)) (bools_len1 _) ?_
      | refine SL_len_v (by decide) (by rfl) hso (by rfl) (slF (by rfl)) (ints_len1 _) ?_
      | refine SL_len_v (by decide) (by rfl) hsl (by rfl) (slF (by rfl)) (strs_len0 _) ?_
      | (refine SL_call (by decide) (by rfl) bd8b (by rfl) (by rfl) (h8) trivial List.nodup_nil ?_; rintro _ _ _ ⟨rfl, rfl⟩; rw [List.nil_append])
      | refine SC_seq ?_
      | refine SC_region ?_
      | refine SL_seq ?_
      | refine SL_run (by rfl) (by rfl) ?_
      | refine SL_not (by rfl) (by rfl) (by rfl) (by decide) ?_
      | refine SL_move (by decide) (by rfl) ?_
      | refine SL_assign (by decide) (by rfl) ?_
      | refine SL_pick_t (by decide) (by rfl) (by rfl) ?_
      | refine SL_pick_f (by decide) (by rfl) (by rfl) ?_
      | (refine SL_gtr (by decide) (by rfl) (by rfl) (fun hT => ?_) (fun hT => ?_) <;> first | (exfalso; omega) | skip)
      | refine SL_fieldAddr (by decide) (by rfl) (fldF (by rfl)) ?_
      | refine SL_load_o (by decide) (by rfl) (by repeat (first | exact .head _ | refine .tail _ ?_)) (rowF (by rfl)) (by first | assumption | rfl) (by rfl) ?_
      | refine SC_cond_t (by rfl) ?_
      | fail)
    refine SC_ret (fun tm σ hE hH => Post.intro (Hn := []) (.inr rfl) hE hH (by rfl) trivial List.nodup_nil (fun p hp => (by cases hp)) ?_)
    exact ⟨rfl, rfl⟩
  cases h4 : fewS ys 8 with
  | false =>
    rw [h4] at h7a
    refine Fn_body (N := 132) (o5 _ _ _) Tryz.func5 rfl rfl fun B => ?_
    repeat' (first
      | (refine SL_box (d := 4) (by decide) (by rfl) (cells_r _ _) (fun b4 hid4 => ?_))
      | refine SL_len_v (by decide) (by rfl) hsw (by rfl) (slF (by rfl)) (bools_len1 _) ?_
      | refine SL_len_v (by decide) (by rfl) hso (by rfl) (slF (by rfl)) (ints_len1 _) ?_
      | refine SL_len_v (by decide) (by rfl) hsl (by rfl) (slF (by rfl)) (strs_len0 _) ?_
      | (refine SL_call (by decide) (by rfl) bd7 (by rfl) (by rfl) (h7a) trivial List.nodup_nil ?_; rintro _ _ _ ⟨rfl, rfl⟩; rw [List.nil_append])
      | (refine SL_call (by decide) (by rfl) bd8b (by rfl) (by rfl) (h8) trivial List.nodup_nil ?_; rintro _ _ _ ⟨rfl, rfl⟩; rw [List.nil_append])
      | refine SC_seq ?_
      | refine SC_region ?_
      | refine SL_seq ?_
      | refine SL_run (by rfl) (by rfl) ?_
      | refine SL_not (by rfl) (by rfl) (by rfl) (by decide) ?_
      | refine SL_move (by decide) (by rfl) ?_
      | refine SL_assign (by decide) (by rfl) ?_
      | refine SL_pick_t (by decide) (by rfl) (by rfl) ?_
      | refine SL_pick_f (by decide) (by rfl) (by rfl) ?_
      | refine SL_not_op (by decide) (by rfl) ?_
      | (refine SL_gtr (by decide) (by rfl) (by rfl) (fun hT => ?_) (fun hT => ?_) <;> first | (exfalso; omega) | skip)
      | refine SL_fieldAddr (by decide) (by rfl) (fldF (by rfl)) ?_
      | refine SL_load_o (by decide) (by rfl) (by repeat (first | exact .head _ | refine .tail _ ?_)) (rowF (by rfl)) (by first | assumption | rfl) (by rfl) ?_
      | refine SC_cond_t (by rfl) ?_
      | fail)
    refine SC_ret (fun tm σ hE hH => Post.intro (Hn := []) (.inr rfl) hE hH (by rfl) trivial List.nodup_nil (fun p hp => (by cases hp)) ?_)
    exact ⟨rfl, rfl⟩
  | true =>
    have h5 : fewS xs 13 = false := by
      rcases hk with h | h | h | h | h
      · exact absurd h h1
      · exact absurd h h2
      · exact absurd h h3
      · rw [h4] at h; cases h
      · exact h
    rw [h4] at h7a
    rw [h5] at h7b
    refine Fn_body (N := 132) (o5 _ _ _) Tryz.func5 rfl rfl fun B => ?_
    repeat' (first
      | (refine SL_box (d := 4) (by decide) (by rfl) (cells_r _ _) (fun b4 hid4 => ?_))
      | refine SL_len_v (by decide) (by rfl) hsw (by rfl) (slF (by rfl)) (bools_len1 _) ?_
      | refine SL_len_v (by decide) (by rfl) hso (by rfl) (slF (by rfl)) (ints_len1 _) ?_
      | refine SL_len_v (by decide) (by rfl) hsl (by rfl) (slF (by rfl)) (strs_len0 _) ?_
      | (refine SL_call (by decide) (by rfl) bd7 (by rfl) (by rfl) (h7b) trivial List.nodup_nil ?_; rintro _ _ _ ⟨rfl, rfl⟩; rw [List.nil_append])
      | (refine SL_call (by decide) (by rfl) bd7 (by rfl) (by rfl) (h7a) trivial List.nodup_nil ?_; rintro _ _ _ ⟨rfl, rfl⟩; rw [List.nil_append])
      | (refine SL_call (by decide) (by rfl) bd8b (by rfl) (by rfl) (h8) trivial List.nodup_nil ?_; rintro _ _ _ ⟨rfl, rfl⟩; rw [List.nil_append])
      | refine SC_seq ?_
      | refine SC_region ?_
      | refine SL_seq ?_
      | refine SL_run (by rfl) (by rfl) ?_
      | refine SL_move (by decide) (by rfl) ?_
      | refine SL_assign (by decide) (by rfl) ?_
      | refine SL_pick_f (by decide) (by rfl) (by rfl) ?_
      | refine SL_not_op (by decide) (by rfl) ?_
      | (refine SL_gtr (by decide) (by rfl) (by rfl) (fun hT => ?_) (fun hT => ?_) <;> first | (exfalso; omega) | skip)
      | refine SL_fieldAddr (by decide) (by rfl) (fldF (by rfl)) ?_
      | refine SL_load_o (by decide) (by rfl) (by repeat (first | exact .head _ | refine .tail _ ?_)) (rowF (by rfl)) (by first | assumption | rfl) (by rfl) ?_
      | refine SC_cond_t (by rfl) ?_
      | fail)
    refine SC_ret (fun tm σ hE hH => Post.intro (Hn := []) (.inr rfl) hE hH (by rfl) trivial List.nodup_nil (fun p hp => (by cases hp)) ?_)
    exact ⟨rfl, rfl⟩
end Go.Proofs.YtnhnlkljcfbhfaaGreatDoor
