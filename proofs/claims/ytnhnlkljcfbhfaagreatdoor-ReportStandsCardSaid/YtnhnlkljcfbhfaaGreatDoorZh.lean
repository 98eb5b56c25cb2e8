/- Names: which lists may be. -/
import Derived.Test.YtnhnlkljcfbhfaaGreatDoorZg
import Derived.Test.YtnhnlkljcfbhfaaGreatDoorZd
import Derived.Test.YtnhnlkljcfbhfaaGreatDoorZe
import Derived.Test.YtnhnlkljcfbhfaaGreatDoorCards
import Derived.Test.YtnhnlkljcfbhfaaGreatDoorTie
import Derived.Test.YtnhnlkljcfbhfaaGreatDoorZc
import Derived.LaidMore
import Derived.Lay
import Derived.ProofKit
import Derived.Stop.Joined
import Derived.SevenTiedAt
namespace Go.Proofs.YtnhnlkljcfbhfaaGreatDoor
open Go Go.Ab
set_option maxRecDepth 100000
theorem bd22 : (Tryz.prog.funcs[22]?).map (·.body.isNone) = some false := by rw [Tryz.func22]; rfl
theorem bd47 : (Tryz.prog.funcs[47]?).map (·.body.isNone) = some false := by rw [Tryz.func47]; rfl
attribute [local irreducible] SC SL wpc wpl wpd wpf wpy wpn FnC FnW RdW SD SI
set_option maxHeartbeats 4000000
theorem part_fn {G : Gl} {xs : List ByteArray} {ad : Addr} {cap k : Nat} (hk : k < xs.length) (hbig : xs.length ≤ 9223372036854775807) (ho : ∀ x y, G.orc 82 [x, y] = none) (ho' : ∀ x y, G.orc 49 [x, y] = none) :
    FnC Tryz.prog G 82 [.rsl ad 1 cap ((xs.map fun x => [AV.s (.string x)]).take k), .s (.string xs[k])] [] (fun v Hn => v = .s (.bool (memB (xs.take k) xs[k])) ∧ Hn = []) := by
  by_cases h0 : k = 0
  · subst h0
    exact contains_0 _ ho ho'
  · have hsh : SlH [] 1 (.rsl ad 1 cap ((xs.map fun x => [AV.s (.string x)]).take k)) ((xs.take k).map fun x => [AV.s (.string x)]) := by
      rw [List.map_take]
      exact .v (.rsl (by rw [List.length_take, List.length_map]; omega))
    exact contains_fn (H0 := []) List.nodup_nil _ (ho _ _) (index_fn (H0 := []) List.nodup_nil hsh (by rw [List.length_take]; omega) _ (ho' _ _))
theorem named_fn {G : Gl} {xs : List ByteArray} {l : AV} (hsk : SlK 1 l (xs.map fun x => [AV.s (.string x)])) (hbig : xs.length ≤ 9223372036854775807) (hsz : ∀ x ∈ xs, x.size ≤ 9223372036854775807) (lo hi : Int) (ho : ∀ x y z, G.orc 51 [x, y, z] = none) (ho1 : ∀ a, G.orc 54 [a] = none) (ho2 : ∀ x y, G.orc 82 [x, y] = none) (ho3 : ∀ x y, G.orc 49 [x, y] = none) :
    FnC Tryz.prog G 51 [l, .s (.int .i64 lo), .s (.int .i64 hi)] [] (fun v Hn => v = .s (.bool (namedB xs lo hi)) ∧ Hn = []) := by
  have hsl := hsk.v
  refine Fn_body (N := 37) (ho _ _ _) Tryz.func51 rfl rfl fun B => ?_
  repeat' (first
    | refine SL_len_v (by decide) (by rfl) (by assumption) (by rfl) (slF (by rfl)) (strs_len0 _) ?_
    | refine SC_seq ?_
    | refine SC_block ?_
    | refine SC_region ?_
    | refine SL_seq ?_
    | refine SL_move (by decide) (by rfl) ?_
    | refine SL_assign (by decide) (by rfl) ?_
    | fail)
  refine SC_loop (fun k : Nat => [(0, l), (1, .s (.int .i64 lo)), (2, .s (.int .i64 hi)), (6, .s (.bool false)), (9, l), (10, .s (.int .i64 xs.length)), (11, .s (.int .i64 k))]) (fun _ => []) (fun _ => []) (fun k => k ≤ xs.length ∧ okN [] xs = okN (xs.take k) (xs.drop k)) (fun k => xs.length - k) 0 ⟨by omega, rfl⟩ ⟨rfl, rfl, rfl, rfl, rfl, rfl, rfl, trivial⟩ trivial List.nodup_nil rfl ?_
  rintro k ⟨hk, hok⟩
  by_cases hlt : k < xs.length
  · obtain ⟨ad, cap, rfl, hcap⟩ : ∃ ad cap, l = .rsl ad 1 cap (xs.map fun x => [AV.s (.string x)]) ∧ (xs.map fun x => [AV.s (.string x)]).length ≤ cap := by
      generalize hr : (xs.map fun x => [AV.s (.string x)]) = rows at hsk
      cases hsk with
      | nil => rw [List.map_eq_nil_iff] at hr; subst hr; exact absurd hlt (by simp)
      | rsl h hc => exact ⟨_, _, rfl, hc⟩
    rw [okN_step hlt] at hok
    have h54 := name_fn (G := G) xs[k] (hsz _ (List.getElem_mem hlt)) ho1
    have h82a := part_fn (G := G) (ad := ad) (cap := cap) hlt hbig ho2 ho3
    cases hv : validN xs[k] with
    | false =>
      rw [hv] at h54 hok
      have hn : namedB xs lo hi = false := by unfold namedB; rw [hok]; rfl
      repeat' (first
        | (refine SL_call (by decide) (by rfl) bd54 (by rfl) (by rfl) (h54) trivial List.nodup_nil ?_; rintro _ _ _ ⟨rfl, rfl⟩; rw [List.nil_append])
        | refine SC_seq ?_
        | refine SC_block ?_
        | refine SC_region ?_
        | refine SL_seq ?_
        | refine SL_not (by rfl) (by rfl) (by rfl) (by decide) ?_
        | refine SL_move (by decide) (by rfl) ?_
        | refine SL_assign (by decide) (by rfl) ?_
        | refine SL_pick_t (by decide) (by rfl) (by rfl) ?_
        | refine SL_not_op (by decide) (by rfl) ?_
        | (refine SL_lss (by decide) (by rfl) (by rfl) (fun hT => ?_) (fun hT => ?_) <;> first | (exfalso; omega) | skip)
        | refine SL_indexAddr_v (by decide) (by rfl) (by rfl) (by assumption) (slF (by rfl)) _ (by first | rfl | exact (Int.toNat_of_nonneg (by omega)).symm) (by simp only [List.length_map]; omega) (fun ad => ?_)
        | refine SL_load_r (by decide) (by rfl) (rowF (by rfl)) (by first | assumption | rfl | exact strs_get _ hlt | exact strs_get _ hlt2) (by rfl) ?_
        | refine SC_cond_t (by rfl) ?_
        | (refine SC_skip' (fun tm σ hE hH => ?_); refine SC.app ?_ hE hH; clear hE hH; clear tm σ)
        | fail)
      refine SC_ret (fun tm σ hE hH => Post.intro (Hn := []) (.inr rfl) hE hH (by rfl) trivial List.nodup_nil (fun p hp => (by cases hp)) ?_)
      exact ⟨by rw [hn]; rfl, rfl⟩
    | true =>
      rw [hv] at h54 hok
      cases hm : memB (xs.take k) xs[k] with
      | true =>
        rw [hm] at h82a hok
        have hn : namedB xs lo hi = false := by unfold namedB; rw [hok]; rfl
        repeat' (first
          | (refine SL_slice_r (i := k) (by decide) (by rfl) (by rfl) (slF (by rfl)) (by rfl) (by rw [List.length_map]; omega) hcap ?_)
          | (refine SL_call (by decide) (by rfl) bd82 (by rfl) (by rfl) h82a trivial List.nodup_nil ?_; rintro _ _ _ ⟨rfl, rfl⟩; rw [List.nil_append])
          | (refine SL_call (by decide) (by rfl) bd54 (by rfl) (by rfl) (h54) trivial List.nodup_nil ?_; rintro _ _ _ ⟨rfl, rfl⟩; rw [List.nil_append])
          | refine SC_seq ?_
          | refine SC_block ?_
          | refine SC_region ?_
          | refine SL_seq ?_
          | refine SL_run (by rfl) (by rfl) ?_
          | refine SL_move (by decide) (by rfl) ?_
          | refine SL_assign (by decide) (by rfl) ?_
          | refine SL_pick_f (by decide) (by rfl) (by rfl) ?_
          | refine SL_not_op (by decide) (by rfl) ?_
          | (refine SL_lss (by decide) (by rfl) (by rfl) (fun hT => ?_) (fun hT => ?_) <;> first | (exfalso; omega) | skip)
          | refine SL_indexAddr_v (by decide) (by rfl) (by rfl) (by assumption) (slF (by rfl)) _ (by first | rfl | exact (Int.toNat_of_nonneg (by omega)).symm) (by simp only [List.length_map]; omega) (fun ad => ?_)
          | refine SL_load_r (by decide) (by rfl) (rowF (by rfl)) (by first | assumption | rfl | exact strs_get _ hlt | exact strs_get _ hlt2) (by rfl) ?_
          | refine SC_cond_t (by rfl) ?_
          | (refine SC_skip' (fun tm σ hE hH => ?_); refine SC.app ?_ hE hH; clear hE hH; clear tm σ)
          | fail)
        refine SC_ret (fun tm σ hE hH => Post.intro (Hn := []) (.inr rfl) hE hH (by rfl) trivial List.nodup_nil (fun p hp => (by cases hp)) ?_)
        exact ⟨by rw [hn]; rfl, rfl⟩
      | false =>
        rw [hm] at h82a hok
        repeat' (first
          | (refine SL_slice_r (i := k) (by decide) (by rfl) (by rfl) (slF (by rfl)) (by rfl) (by rw [List.length_map]; omega) hcap ?_)
          | (refine SL_call (by decide) (by rfl) bd82 (by rfl) (by rfl) h82a trivial List.nodup_nil ?_; rintro _ _ _ ⟨rfl, rfl⟩; rw [List.nil_append])
          | (refine SL_call (by decide) (by rfl) bd54 (by rfl) (by rfl) (h54) trivial List.nodup_nil ?_; rintro _ _ _ ⟨rfl, rfl⟩; rw [List.nil_append])
          | refine SC_seq ?_
          | refine SC_block ?_
          | refine SC_region ?_
          | refine SL_seq ?_
          | refine SL_run (by rfl) (by rfl) ?_
          | refine SL_move (by decide) (by rfl) ?_
          | refine SL_assign (by decide) (by rfl) ?_
          | refine SL_pick_f (by decide) (by rfl) (by rfl) ?_
          | refine SL_not_op (by decide) (by rfl) ?_
          | refine SL_add (by decide) (by rfl) (by rfl) (by omega) (by omega) ?_
          | (refine SL_lss (by decide) (by rfl) (by rfl) (fun hT => ?_) (fun hT => ?_) <;> first | (exfalso; omega) | skip)
          | refine SL_indexAddr_v (by decide) (by rfl) (by rfl) (by assumption) (slF (by rfl)) _ (by first | rfl | exact (Int.toNat_of_nonneg (by omega)).symm) (by simp only [List.length_map]; omega) (fun ad => ?_)
          | refine SL_load_r (by decide) (by rfl) (rowF (by rfl)) (by first | assumption | rfl | exact strs_get _ hlt | exact strs_get _ hlt2) (by rfl) ?_
          | refine SC_cond_t (by rfl) ?_
          | refine SC_cond_f (by rfl) ?_
          | (refine SC_skip' (fun tm σ hE hH => ?_); refine SC.app ?_ hE hH; clear hE hH; clear tm σ)
          | fail)
        exact SL_nil fun tm σ hE hH => ⟨k + 1, by omega, ⟨by omega, hok⟩, tm, σ, rfl, hE.sub ⟨rfl, rfl, rfl, rfl, rfl, rfl, rfl, trivial⟩, hH.sub trivial List.nodup_nil⟩
  · obtain rfl : k = xs.length := by omega
    rw [List.drop_eq_nil_of_le (Nat.le_refl _)] at hok
    by_cases hs : lo ≤ xs.length ∧ (xs.length : Int) ≤ hi
    · have hn : namedB xs lo hi = true := by unfold namedB; rw [hok, decide_eq_true hs]; rfl
      repeat' (first
        | refine SL_len_v (by decide) (by rfl) (by assumption) (by rfl) (slF (by rfl)) (strs_len0 _) ?_
        | refine SC_seq ?_
        | refine SC_region ?_
        | refine SL_seq ?_
        | refine SL_run (by rfl) (by rfl) ?_
        | refine SL_move (by decide) (by rfl) ?_
        | refine SL_assign (by decide) (by rfl) ?_
        | refine SL_pick_t (by decide) (by rfl) (by rfl) ?_
        | (refine SL_lss (by decide) (by rfl) (by rfl) (fun hT => ?_) (fun hT => ?_) <;> first | (exfalso; omega) | skip)
        | (refine SL_leq (by decide) (by rfl) (by rfl) (fun hT => ?_) (fun hT => ?_) <;> first | (exfalso; omega) | skip)
        | (refine SL_geq (by decide) (by rfl) (by rfl) (fun hT => ?_) (fun hT => ?_) <;> first | (exfalso; omega) | skip)
        | refine SC_cond_f (by rfl) ?_
        | (refine SC_exit (fun tm σ hE hH => ?_); refine SC.app ?_ hE hH; clear hE hH; clear tm σ)
        | fail)
      refine SC_ret (fun tm σ hE hH => Post.intro (Hn := []) (.inr rfl) hE hH (by rfl) trivial List.nodup_nil (fun p hp => (by cases hp)) ?_)
      exact ⟨by rw [hn]; rfl, rfl⟩
    · have hn : namedB xs lo hi = false := by unfold namedB; rw [hok, decide_eq_false hs]; rfl
      repeat' (first
        | refine SL_len_v (by decide) (by rfl) (by assumption) (by rfl) (slF (by rfl)) (strs_len0 _) ?_
        | refine SC_seq ?_
        | refine SC_region ?_
        | refine SL_seq ?_
        | refine SL_run (by rfl) (by rfl) ?_
        | refine SL_not (by rfl) (by rfl) (by rfl) (by decide) ?_
        | refine SL_move (by decide) (by rfl) ?_
        | refine SL_assign (by decide) (by rfl) ?_
        | refine SL_pick_t (by decide) (by rfl) (by rfl) ?_
        | refine SL_pick_f (by decide) (by rfl) (by rfl) ?_
        | (refine SL_lss (by decide) (by rfl) (by rfl) (fun hT => ?_) (fun hT => ?_) <;> first | (exfalso; omega) | skip)
        | (refine SL_leq (by decide) (by rfl) (by rfl) (fun hT => ?_) (fun hT => ?_) <;> first | (exfalso; omega) | skip)
        | (refine SL_geq (by decide) (by rfl) (by rfl) (fun hT => ?_) (fun hT => ?_) <;> first | (exfalso; omega) | skip)
        | refine SC_cond_f (by rfl) ?_
        | (refine SC_exit (fun tm σ hE hH => ?_); refine SC.app ?_ hE hH; clear hE hH; clear tm σ)
        | fail)
      all_goals refine SC_ret (fun tm σ hE hH => Post.intro (Hn := []) (.inr rfl) hE hH (by rfl) trivial List.nodup_nil (fun p hp => (by cases hp)) ?_)
      all_goals exact ⟨by rw [hn]; rfl, rfl⟩
theorem lnamed_fn {G : Gl} {xs : List ByteArray} {l : AV} (hsl : SlV 1 l (xs.map fun x => [AV.s (.string x)])) (hbig : xs.length ≤ 9223372036854775807) (hsz : ∀ x ∈ xs, x.size ≤ 9223372036854775807) (lo hi : Int) (ho : ∀ x y z, G.orc 25 [x, y, z] = none) (ho1 : ∀ a, G.orc 54 [a] = none) :
    FnC Tryz.prog G 25 [l, .s (.int .i64 lo), .s (.int .i64 hi)] [] (fun v Hn => v = .s (.bool (namedB xs lo hi)) ∧ Hn = []) := by
  have hsh : SlH [] 1 l (xs.map fun x => [AV.s (.string x)]) := .v hsl
  refine Fn_body (N := 45) (ho _ _ _) Tryz.func25 rfl rfl fun B => ?_
  repeat' (first
    | refine SC_seq ?_
    | refine SC_block ?_
    | refine SC_region ?_
    | refine SL_seq ?_
    | refine SL_assign (by decide) (by rfl) ?_
    | fail)
  refine SC_loop (fun k : Nat => [(0, l), (1, .s (.int .i64 lo)), (2, .s (.int .i64 hi)), (6, .s (.bool false)), (7, .s (.int .i64 k))]) (fun _ => []) (fun _ => []) (fun k => k ≤ xs.length ∧ okN [] xs = okN (xs.take k) (xs.drop k)) (fun k => xs.length - k) 0 ⟨by omega, rfl⟩ ⟨rfl, rfl, rfl, rfl, rfl, trivial⟩ trivial List.nodup_nil rfl ?_
  rintro k ⟨hk, hok⟩
  by_cases hlt : k < xs.length
  · rw [okN_step hlt] at hok
    have h54 := name_fn (G := G) xs[k] (hsz _ (List.getElem_mem hlt)) ho1
    cases hv : validN xs[k] with
    | false =>
      rw [hv] at h54 hok
      have hn : namedB xs lo hi = false := by unfold namedB; rw [hok]; rfl
      repeat' (first
        | refine SL_load_h (by decide) (by rfl) (by assumption) (fun p hp => hp) (rowF (by rfl)) (by first | exact strs_get _ hlt | exact strs_get _ hlt2) (by rfl) ?_
        | (refine SL_indexAddr_h (by decide) (by rfl) (by rfl) hsh (fun p hp => hp) (slF (by rfl)) _ (by first | rfl | exact (Int.toNat_of_nonneg (by omega)).symm) (by simp only [List.length_map]; omega) (fun pa hpa => ?_))
        | refine SL_len_h (by decide) (by rfl) hsh (by rfl) (slF (by rfl)) (strs_len0 _) ?_
        | (refine SL_call (by decide) (by rfl) bd54 (by rfl) (by rfl) (h54) trivial List.nodup_nil ?_; rintro _ _ _ ⟨rfl, rfl⟩; rw [List.nil_append])
        | refine SC_seq ?_
        | refine SC_block ?_
        | refine SC_region ?_
        | refine SL_seq ?_
        | refine SL_move (by decide) (by rfl) ?_
        | refine SL_assign (by decide) (by rfl) ?_
        | refine SL_not_op (by decide) (by rfl) ?_
        | (refine SL_lss (by decide) (by rfl) (by rfl) (fun hT => ?_) (fun hT => ?_) <;> first | (exfalso; omega) | skip)
        | refine SC_cond_t (by rfl) ?_
        | (refine SC_skip' (fun tm σ hE hH => ?_); refine SC.app ?_ hE hH; clear hE hH; clear tm σ)
        | fail)
      refine SC_ret (fun tm σ hE hH => Post.intro (Hn := []) (.inr rfl) hE hH (by rfl) trivial List.nodup_nil (fun p hp => (by cases hp)) ?_)
      exact ⟨by rw [hn]; rfl, rfl⟩
    | true =>
      rw [hv] at h54 hok
      repeat' (first
        | refine SL_load_h (by decide) (by rfl) (by assumption) (fun p hp => hp) (rowF (by rfl)) (by first | exact strs_get _ hlt | exact strs_get _ hlt2) (by rfl) ?_
        | (refine SL_indexAddr_h (by decide) (by rfl) (by rfl) hsh (fun p hp => hp) (slF (by rfl)) _ (by first | rfl | exact (Int.toNat_of_nonneg (by omega)).symm) (by simp only [List.length_map]; omega) (fun pa hpa => ?_))
        | refine SL_len_h (by decide) (by rfl) hsh (by rfl) (slF (by rfl)) (strs_len0 _) ?_
        | (refine SL_call (by decide) (by rfl) bd54 (by rfl) (by rfl) (h54) trivial List.nodup_nil ?_; rintro _ _ _ ⟨rfl, rfl⟩; rw [List.nil_append])
        | refine SC_seq ?_
        | refine SC_block ?_
        | refine SC_region ?_
        | refine SL_seq ?_
        | refine SL_move (by decide) (by rfl) ?_
        | refine SL_assign (by decide) (by rfl) ?_
        | refine SL_not_op (by decide) (by rfl) ?_
        | (refine SL_lss (by decide) (by rfl) (by rfl) (fun hT => ?_) (fun hT => ?_) <;> first | (exfalso; omega) | skip)
        | refine SC_cond_t (by rfl) ?_
        | refine SC_cond_f (by rfl) ?_
        | (refine SC_skip' (fun tm σ hE hH => ?_); refine SC.app ?_ hE hH; clear hE hH; clear tm σ)
        | fail)
      refine SC_loop (fun j : Nat => [(0, l), (1, .s (.int .i64 lo)), (2, .s (.int .i64 hi)), (6, .s (.bool false)), (7, .s (.int .i64 k)), (8, .s (.int .i64 j))]) (fun _ => []) (fun _ => []) (fun j => j ≤ k ∧ ∀ i, (h : i < xs.length) → i < j → xs[i] ≠ xs[k]) (fun j => k - j) 0 ⟨by omega, fun i _ h => by omega⟩ ⟨rfl, rfl, rfl, rfl, rfl, rfl, trivial⟩ trivial List.nodup_nil rfl ?_
      rintro j ⟨hj, hne⟩
      by_cases hjk : j < k
      · have hlt2 : j < xs.length := by omega
        by_cases he : xs[j] = xs[k]
        · have hm : memB (xs.take k) xs[k] = true := memB_iff.2 (mem_take_iff.2 ⟨j, hlt2, hjk, he⟩)
          have hn : namedB xs lo hi = false := by unfold namedB; rw [hok, hm]; rfl
          repeat' (first
            | (refine SL_seql (by decide) (by rfl) (by rfl) (fun hS => ?_) (fun hS => ?_) <;> first | (exact absurd (by assumption) hS) | (exact absurd hS (by assumption)) | skip)
            | refine SL_load_h (by decide) (by rfl) (by assumption) (fun p hp => hp) (rowF (by rfl)) (by first | exact strs_get _ hlt | exact strs_get _ hlt2) (by rfl) ?_
            | (refine SL_indexAddr_h (by decide) (by rfl) (by rfl) hsh (fun p hp => hp) (slF (by rfl)) _ (by first | rfl | exact (Int.toNat_of_nonneg (by omega)).symm) (by simp only [List.length_map]; omega) (fun pa hpa => ?_))
            | refine SC_seq ?_
            | refine SC_block ?_
            | refine SC_region ?_
            | refine SL_seq ?_
            | refine SL_move (by decide) (by rfl) ?_
            | refine SL_assign (by decide) (by rfl) ?_
            | (refine SL_lss (by decide) (by rfl) (by rfl) (fun hT => ?_) (fun hT => ?_) <;> first | (exfalso; omega) | skip)
            | refine SC_draw (by kernel_rfl) ?_
            | refine SC_cond_t (by rfl) ?_
            | (refine SC_skip' (fun tm σ hE hH => ?_); refine SC.app ?_ hE hH; clear hE hH; clear tm σ)
            | fail)
          refine SC_ret (fun tm σ hE hH => Post.intro (Hn := []) (.inr rfl) hE hH (by rfl) trivial List.nodup_nil (fun p hp => (by cases hp)) ?_)
          exact ⟨by rw [hn]; rfl, rfl⟩
        ·
          repeat' (first
            | (refine SL_seql (by decide) (by rfl) (by rfl) (fun hS => ?_) (fun hS => ?_) <;> first | (exact absurd (by assumption) hS) | (exact absurd hS (by assumption)) | skip)
            | refine SL_load_h (by decide) (by rfl) (by assumption) (fun p hp => hp) (rowF (by rfl)) (by first | exact strs_get _ hlt | exact strs_get _ hlt2) (by rfl) ?_
            | (refine SL_indexAddr_h (by decide) (by rfl) (by rfl) hsh (fun p hp => hp) (slF (by rfl)) _ (by first | rfl | exact (Int.toNat_of_nonneg (by omega)).symm) (by simp only [List.length_map]; omega) (fun pa hpa => ?_))
            | refine SC_seq ?_
            | refine SC_block ?_
            | refine SC_region ?_
            | refine SL_seq ?_
            | refine SL_move (by decide) (by rfl) ?_
            | refine SL_assign (by decide) (by rfl) ?_
            | refine SL_add (by decide) (by rfl) (by rfl) (by omega) (by omega) ?_
            | (refine SL_lss (by decide) (by rfl) (by rfl) (fun hT => ?_) (fun hT => ?_) <;> first | (exfalso; omega) | skip)
            | refine SC_draw (by kernel_rfl) ?_
            | refine SC_cond_t (by rfl) ?_
            | refine SC_cond_f (by rfl) ?_
            | (refine SC_skip' (fun tm σ hE hH => ?_); refine SC.app ?_ hE hH; clear hE hH; clear tm σ)
            | fail)
          refine SL_nil fun tm σ hE hH => ⟨j + 1, by omega, ⟨by omega, fun i hi1 hi2 => ?_⟩, tm, σ, rfl, hE.sub ⟨rfl, rfl, rfl, rfl, rfl, rfl, trivial⟩, hH.sub trivial List.nodup_nil⟩
          by_cases hij : i = j
          · subst hij; exact he
          · exact hne i hi1 (by omega)
      · obtain rfl : j = k := by omega
        have hm : memB (xs.take j) xs[j] = false := memB_f.2 fun h => by
          obtain ⟨i, h1, h2, h3⟩ := mem_take_iff.1 h
          exact hne i h1 h2 h3
        rw [hm] at hok
        repeat' (first
          | refine SC_seq ?_
          | refine SC_region ?_
          | refine SL_seq ?_
          | refine SL_move (by decide) (by rfl) ?_
          | refine SL_assign (by decide) (by rfl) ?_
          | refine SL_add (by decide) (by rfl) (by rfl) (by omega) (by omega) ?_
          | (refine SL_lss (by decide) (by rfl) (by rfl) (fun hT => ?_) (fun hT => ?_) <;> first | (exfalso; omega) | skip)
          | refine SC_cond_f (by rfl) ?_
          | (refine SC_exit (fun tm σ hE hH => ?_); refine SC.app ?_ hE hH; clear hE hH; clear tm σ)
          | fail)
        exact SL_nil fun tm σ hE hH => ⟨j + 1, by omega, ⟨by omega, hok⟩, tm, σ, rfl, hE.sub ⟨rfl, rfl, rfl, rfl, rfl, trivial⟩, hH.sub trivial List.nodup_nil⟩
  · obtain rfl : k = xs.length := by omega
    rw [List.drop_eq_nil_of_le (Nat.le_refl _)] at hok
    by_cases hs : lo ≤ xs.length ∧ (xs.length : Int) ≤ hi
    · have hn : namedB xs lo hi = true := by unfold namedB; rw [hok, decide_eq_true hs]; rfl
      repeat' (first
        | refine SL_len_h (by decide) (by rfl) hsh (by rfl) (slF (by rfl)) (strs_len0 _) ?_
        | refine SC_seq ?_
        | refine SC_region ?_
        | refine SL_seq ?_
        | refine SL_run (by rfl) (by rfl) ?_
        | refine SL_move (by decide) (by rfl) ?_
        | refine SL_assign (by decide) (by rfl) ?_
        | refine SL_pick_t (by decide) (by rfl) (by rfl) ?_
        | (refine SL_lss (by decide) (by rfl) (by rfl) (fun hT => ?_) (fun hT => ?_) <;> first | (exfalso; omega) | skip)
        | (refine SL_leq (by decide) (by rfl) (by rfl) (fun hT => ?_) (fun hT => ?_) <;> first | (exfalso; omega) | skip)
        | (refine SL_geq (by decide) (by rfl) (by rfl) (fun hT => ?_) (fun hT => ?_) <;> first | (exfalso; omega) | skip)
        | refine SC_cond_f (by rfl) ?_
        | (refine SC_exit (fun tm σ hE hH => ?_); refine SC.app ?_ hE hH; clear hE hH; clear tm σ)
        | fail)
      refine SC_ret (fun tm σ hE hH => Post.intro (Hn := []) (.inr rfl) hE hH (by rfl) trivial List.nodup_nil (fun p hp => (by cases hp)) ?_)
      exact ⟨by rw [hn]; rfl, rfl⟩
    · have hn : namedB xs lo hi = false := by unfold namedB; rw [hok, decide_eq_false hs]; rfl
      repeat' (first
        | refine SL_len_h (by decide) (by rfl) hsh (by rfl) (slF (by rfl)) (strs_len0 _) ?_
        | refine SC_seq ?_
        | refine SC_region ?_
        | refine SL_seq ?_
        | refine SL_run (by rfl) (by rfl) ?_
        | refine SL_not (by rfl) (by rfl) (by rfl) (by decide) ?_
        | refine SL_move (by decide) (by rfl) ?_
        | refine SL_assign (by decide) (by rfl) ?_
        | refine SL_pick_t (by decide) (by rfl) (by rfl) ?_
        | refine SL_pick_f (by decide) (by rfl) (by rfl) ?_
        | (refine SL_lss (by decide) (by rfl) (by rfl) (fun hT => ?_) (fun hT => ?_) <;> first | (exfalso; omega) | skip)
        | (refine SL_leq (by decide) (by rfl) (by rfl) (fun hT => ?_) (fun hT => ?_) <;> first | (exfalso; omega) | skip)
        | (refine SL_geq (by decide) (by rfl) (by rfl) (fun hT => ?_) (fun hT => ?_) <;> first | (exfalso; omega) | skip)
        | refine SC_cond_f (by rfl) ?_
        | (refine SC_exit (fun tm σ hE hH => ?_); refine SC.app ?_ hE hH; clear hE hH; clear tm σ)
        | fail)
      all_goals refine SC_ret (fun tm σ hE hH => Post.intro (Hn := []) (.inr rfl) hE hH (by rfl) trivial List.nodup_nil (fun p hp => (by cases hp)) ?_)
      all_goals exact ⟨by rw [hn]; rfl, rfl⟩
theorem players_fn {G : Gl} {xs : List ByteArray} {l : AV} (ho : ∀ x, G.orc 47 [x] = none) (h51' : FnC Tryz.prog G 51 [l, .s (.int .i64 2), .s (.int .i64 12)] [] (fun v Hn => v = .s (.bool (namedB xs 2 12)) ∧ Hn = []))
    (h82' : FnC Tryz.prog G 82 [l, .s (.string byeS)] [] (fun v Hn => v = .s (.bool (memB xs byeS)) ∧ Hn = [])) : FnC Tryz.prog G 47 [l] [] (fun v Hn => v = .s (.bool (playersB xs)) ∧ Hn = []) := by
  have h51 := h51'
  have h82a := h82'
  unfold byeS at h82a
  cases hn : namedB xs 2 12 with
  | false =>
    have hp : playersB xs = false := by unfold playersB; rw [hn]; rfl
    rw [hn] at h51
    refine Fn_body (N := 10) (ho _) Tryz.func47 rfl rfl fun B => ?_
    repeat' (first
      | (refine SL_call (by decide) (by rfl) bd51 (by rfl) (by rfl) (h51) trivial List.nodup_nil ?_; rintro _ _ _ ⟨rfl, rfl⟩; rw [List.nil_append])
      | refine SC_seq ?_
      | refine SC_region ?_
      | refine SL_seq ?_
      | refine SL_not (by rfl) (by rfl) (by rfl) (by decide) ?_
      | refine SL_move (by decide) (by rfl) ?_
      | refine SL_assign (by decide) (by rfl) ?_
      | refine SL_pick_f (by decide) (by rfl) (by rfl) ?_
      | fail)
    refine SC_ret (fun tm σ hE hH => Post.intro (Hn := []) (.inr rfl) hE hH (by rfl) trivial List.nodup_nil (fun p hp => (by cases hp)) ?_)
    exact ⟨by rw [hp]; rfl, rfl⟩
  | true =>
    rw [hn] at h51
    cases hm : memB xs byeS with
    | true =>
      have hp : playersB xs = false := by unfold playersB; rw [hn, hm]; rfl
      unfold byeS at hm
      rw [hm] at h82a
      refine Fn_body (N := 10) (ho _) Tryz.func47 rfl rfl fun B => ?_
      repeat' (first
        | (refine SL_call (by decide) (by rfl) bd82 (by rfl) (by rfl) h82a trivial List.nodup_nil ?_; rintro _ _ _ ⟨rfl, rfl⟩; rw [List.nil_append])
        | (refine SL_call (by decide) (by rfl) bd51 (by rfl) (by rfl) (h51) trivial List.nodup_nil ?_; rintro _ _ _ ⟨rfl, rfl⟩; rw [List.nil_append])
        | refine SC_seq ?_
        | refine SC_region ?_
        | refine SL_seq ?_
        | refine SL_run (by rfl) (by rfl) ?_
        | refine SL_move (by decide) (by rfl) ?_
        | refine SL_assign (by decide) (by rfl) ?_
        | refine SL_pick_t (by decide) (by rfl) (by rfl) ?_
        | refine SL_not_op (by decide) (by rfl) ?_
        | fail)
      refine SC_ret (fun tm σ hE hH => Post.intro (Hn := []) (.inr rfl) hE hH (by rfl) trivial List.nodup_nil (fun p hp => (by cases hp)) ?_)
      exact ⟨by rw [hp]; rfl, rfl⟩
    | false =>
      have hp : playersB xs = true := by unfold playersB; rw [hn, hm]; rfl
      unfold byeS at hm
      rw [hm] at h82a
      refine Fn_body (N := 10) (ho _) Tryz.func47 rfl rfl fun B => ?_
      repeat' (first
        | (refine SL_call (by decide) (by rfl) bd82 (by rfl) (by rfl) h82a trivial List.nodup_nil ?_; rintro _ _ _ ⟨rfl, rfl⟩; rw [List.nil_append])
        | (refine SL_call (by decide) (by rfl) bd51 (by rfl) (by rfl) (h51) trivial List.nodup_nil ?_; rintro _ _ _ ⟨rfl, rfl⟩; rw [List.nil_append])
        | refine SC_seq ?_
        | refine SC_region ?_
        | refine SL_seq ?_
        | refine SL_run (by rfl) (by rfl) ?_
        | refine SL_move (by decide) (by rfl) ?_
        | refine SL_assign (by decide) (by rfl) ?_
        | refine SL_pick_t (by decide) (by rfl) (by rfl) ?_
        | refine SL_not_op (by decide) (by rfl) ?_
        | fail)
      refine SC_ret (fun tm σ hE hH => Post.intro (Hn := []) (.inr rfl) hE hH (by rfl) trivial List.nodup_nil (fun p hp => (by cases hp)) ?_)
      exact ⟨by rw [hp]; rfl, rfl⟩
theorem lplayers_fn {G : Gl} {xs : List ByteArray} {l : AV} (hsl : SlV 1 l (xs.map fun x => [AV.s (.string x)])) (hbig : xs.length ≤ 9223372036854775807) (ho : ∀ x, G.orc 22 [x] = none) (h25 : FnC Tryz.prog G 25 [l, .s (.int .i64 2), .s (.int .i64 12)] [] (fun v Hn => v = .s (.bool (namedB xs 2 12)) ∧ Hn = [])) :
    FnC Tryz.prog G 22 [l] [] (fun v Hn => v = .s (.bool (playersB xs)) ∧ Hn = []) := by
  have hsh : SlH [] 1 l (xs.map fun x => [AV.s (.string x)]) := .v hsl
  refine Fn_body (N := 17) (ho _) Tryz.func22 rfl rfl fun B => ?_
  repeat' (first
    | refine SC_seq ?_
    | refine SC_block ?_
    | refine SC_region ?_
    | refine SL_seq ?_
    | refine SL_assign (by decide) (by rfl) ?_
    | fail)
  refine SC_loop (fun k : Nat => [(0, l), (2, .s (.bool false)), (3, .s (.int .i64 k))]) (fun _ => []) (fun _ => []) (fun k => k ≤ xs.length ∧ ∀ i, (h : i < xs.length) → i < k → xs[i] ≠ ⟨#[98, 121, 101]⟩) (fun k => xs.length - k) 0 ⟨by omega, fun i _ h => by omega⟩ ⟨rfl, rfl, rfl, trivial⟩ trivial List.nodup_nil rfl ?_
  rintro k ⟨hk, hne⟩
  by_cases hlt : k < xs.length
  · by_cases he : xs[k] = ⟨#[98, 121, 101]⟩
    · have hm : memB xs byeS = true := memB_iff.2 (by unfold byeS; exact he ▸ List.getElem_mem hlt)
      have hp : playersB xs = false := by unfold playersB; rw [hm]; simp
      repeat' (first
        | (refine SL_seql (by decide) (by rfl) (by rfl) (fun hS => ?_) (fun hS => ?_) <;> first | (exact absurd (by assumption) hS) | (exact absurd hS (by assumption)) | skip)
        | refine SL_load_h (by decide) (by rfl) (by assumption) (fun p hp => hp) (rowF (by rfl)) (by first | exact strs_get _ hlt | exact strs_get _ hlt2) (by rfl) ?_
        | (refine SL_indexAddr_h (by decide) (by rfl) (by rfl) hsh (fun p hp => hp) (slF (by rfl)) _ (by first | rfl | exact (Int.toNat_of_nonneg (by omega)).symm) (by simp only [List.length_map]; omega) (fun pa hpa => ?_))
        | refine SL_len_h (by decide) (by rfl) hsh (by rfl) (slF (by rfl)) (strs_len0 _) ?_
        | refine SC_seq ?_
        | refine SC_block ?_
        | refine SC_region ?_
        | refine SL_seq ?_
        | refine SL_move (by decide) (by rfl) ?_
        | refine SL_assign (by decide) (by rfl) ?_
        | (refine SL_lss (by decide) (by rfl) (by rfl) (fun hT => ?_) (fun hT => ?_) <;> first | (exfalso; omega) | skip)
        | refine SC_cond_t (by rfl) ?_
        | (refine SC_skip' (fun tm σ hE hH => ?_); refine SC.app ?_ hE hH; clear hE hH; clear tm σ)
        | fail)
      refine SC_ret (fun tm σ hE hH => Post.intro (Hn := []) (.inr rfl) hE hH (by rfl) trivial List.nodup_nil (fun p hp => (by cases hp)) ?_)
      exact ⟨by rw [hp]; rfl, rfl⟩
    ·
      repeat' (first
        | (refine SL_seql (by decide) (by rfl) (by rfl) (fun hS => ?_) (fun hS => ?_) <;> first | (exact absurd (by assumption) hS) | (exact absurd hS (by assumption)) | skip)
        | refine SL_load_h (by decide) (by rfl) (by assumption) (fun p hp => hp) (rowF (by rfl)) (by first | exact strs_get _ hlt | exact strs_get _ hlt2) (by rfl) ?_
        | (refine SL_indexAddr_h (by decide) (by rfl) (by rfl) hsh (fun p hp => hp) (slF (by rfl)) _ (by first | rfl | exact (Int.toNat_of_nonneg (by omega)).symm) (by simp only [List.length_map]; omega) (fun pa hpa => ?_))
        | refine SL_len_h (by decide) (by rfl) hsh (by rfl) (slF (by rfl)) (strs_len0 _) ?_
        | refine SC_seq ?_
        | refine SC_block ?_
        | refine SC_region ?_
        | refine SL_seq ?_
        | refine SL_move (by decide) (by rfl) ?_
        | refine SL_assign (by decide) (by rfl) ?_
        | refine SL_add (by decide) (by rfl) (by rfl) (by omega) (by omega) ?_
        | (refine SL_lss (by decide) (by rfl) (by rfl) (fun hT => ?_) (fun hT => ?_) <;> first | (exfalso; omega) | skip)
        | refine SC_cond_t (by rfl) ?_
        | refine SC_cond_f (by rfl) ?_
        | (refine SC_skip' (fun tm σ hE hH => ?_); refine SC.app ?_ hE hH; clear hE hH; clear tm σ)
        | fail)
      refine SL_nil fun tm σ hE hH => ⟨k + 1, by omega, ⟨by omega, fun i hi1 hi2 => ?_⟩, tm, σ, rfl, hE.sub ⟨rfl, rfl, rfl, trivial⟩, hH.sub trivial List.nodup_nil⟩
      by_cases hij : i = k
      · subst hij; exact he
      · exact hne i hi1 (by omega)
  · obtain rfl : k = xs.length := by omega
    have hm : memB xs byeS = false := memB_f.2 fun h => by
      obtain ⟨i, h1, h2⟩ := List.mem_iff_getElem.1 h
      exact hne i h1 h1 h2
    have hp : playersB xs = namedB xs 2 12 := by unfold playersB; rw [hm]; simp
    repeat' (first
      | refine SL_len_h (by decide) (by rfl) hsh (by rfl) (slF (by rfl)) (strs_len0 _) ?_
      | (refine SL_call (by decide) (by rfl) bd25 (by rfl) (by rfl) (h25) trivial List.nodup_nil ?_; rintro _ _ _ ⟨rfl, rfl⟩; rw [List.nil_append])
      | refine SC_seq ?_
      | refine SC_region ?_
      | refine SL_seq ?_
      | refine SL_move (by decide) (by rfl) ?_
      | refine SL_assign (by decide) (by rfl) ?_
      | (refine SL_lss (by decide) (by rfl) (by rfl) (fun hT => ?_) (fun hT => ?_) <;> first | (exfalso; omega) | skip)
      | refine SC_cond_f (by rfl) ?_
      | (refine SC_exit (fun tm σ hE hH => ?_); refine SC.app ?_ hE hH; clear hE hH; clear tm σ)
      | fail)
    refine SC_ret (fun tm σ hE hH => Post.intro (Hn := []) (.inr rfl) hE hH (by rfl) trivial List.nodup_nil (fun p hp => (by cases hp)) ?_)
    exact ⟨by rw [hp]; rfl, rfl⟩
end Go.Proofs.YtnhnlkljcfbhfaaGreatDoor
/- Two equal lists of strings are the same. -/
namespace Go.Proofs.YtnhnlkljcfbhfaaGreatDoor
open Go Go.Ab
set_option maxRecDepth 100000
def strs (xs : List ByteArray) : List (List AV) := xs.map fun x => [.s (.string x)]
theorem strs_len (xs : List ByteArray) : (xs.map fun x => [AV.s (.string x)]).length = xs.length := List.length_map _
attribute [local irreducible] SC SL wpc wpl wpd wpf wpy wpn FnC FnW RdW SD
set_option maxHeartbeats 2000000
theorem same_oo {G : Gl} (xs : List ByteArray) (hb : xs.length ≤ 1000) {a b : Nat} {x1 x2 : Bool} (hab : a ≠ b) (ho : G.orc 11 [.sl a 0 xs.length none, .sl b 0 xs.length none] = none) :
    FnC Tryz.prog G 11 [.sl a 0 xs.length none, .sl b 0 xs.length none] [(a, .cells 9 1 x1 (strs xs)), (b, .cells 9 1 x2 (strs xs))] (fun v Hn => v = .s (.bool true) ∧ Hn = []) := by
  unfold strs
  refine Fn_body (N := 26) ho Tryz.func11 rfl rfl fun B => ?_
  repeat' (first
    | refine SC_seq ?_
    | refine SC_block ?_
    | refine SC_region ?_
    | refine SL_seq ?_
    | refine SL_move (by decide) (by rfl) ?_
    | refine SL_assign (by decide) (by rfl) ?_
    | (refine SL_neq (by decide) (by rfl) (by rfl) (fun hT => ?_) (fun hT => ?_) <;> first | (exfalso; omega) | skip)
    | refine SL_len_sl (by decide) (by rfl) (by rfl) (sliceOf_spec (slF (by rfl))).1 ?_
    | refine SC_cond_f (by rfl) ?_
    | (refine SC_skip' (fun tm σ hE hH => ?_); refine SC.app ?_ hE hH; clear hE hH; clear tm σ)
    | fail)
  refine SC_loop (fun i : Nat => [(0, .sl a 0 xs.length none), (1, .sl b 0 xs.length none), (5, .s (.int .i64 i))]) (fun i => [(a, .cells 9 1 x1 (xs.map fun x => [.s (.string x)])), (b, .cells 9 1 x2 (xs.map fun x => [.s (.string x)]))]) (fun _ => []) (fun i => i ≤ xs.length) (fun i => xs.length - i) 0 (by omega) ⟨rfl, rfl, rfl, trivial⟩ ⟨.head _, .tail _ (.head _), trivial⟩ (by simp [hab]) rfl ?_
  intro i hi
  by_cases hlt : i < xs.length
  ·
    repeat' (first
      | (refine SL_sneq (by decide) (by rfl) (by rfl) (fun hS => ?_) (fun hS => ?_) <;> first | (exact absurd rfl hS) | skip)
      | refine SC_seq ?_
      | refine SC_block ?_
      | refine SC_region ?_
      | refine SL_seq ?_
      | refine SL_move (by decide) (by rfl) ?_
      | refine SL_assign (by decide) (by rfl) ?_
      | refine SL_add (by decide) (by rfl) (by rfl) (by omega) (by omega) ?_
      | (refine SL_lss (by decide) (by rfl) (by rfl) (fun hT => ?_) (fun hT => ?_) <;> first | (exfalso; omega) | skip)
      | refine SL_len_sl (by decide) (by rfl) (by rfl) (sliceOf_spec (slF (by rfl))).1 ?_
      | refine SL_indexAddr_0 (by decide) (by rfl) (by rfl) (by repeat (first | exact .head _ | refine .tail _ ?_)) (slF (by rfl)) _ (by first | rfl | exact (Int.toNat_of_nonneg (by omega)).symm) (by omega) ?_
      | refine SL_load_o (by decide) (by rfl) (by repeat (first | exact .head _ | refine .tail _ ?_)) (rowF (by rfl)) (by first | assumption | rfl | exact strs_get _ hlt) (by rfl) ?_
      | refine SC_draw (by kernel_rfl) ?_
      | refine SC_cond_t (by rfl) ?_
      | refine SC_cond_f (by rfl) ?_
      | (refine SC_skip' (fun tm σ hE hH => ?_); refine SC.app ?_ hE hH; clear hE hH; clear tm σ)
      | fail)
    refine SL_nil fun tm σ hE hH => ⟨i + 1, by omega, by omega, tm, σ, rfl, hE.sub ⟨rfl, rfl, rfl, trivial⟩, hH.sub ⟨.head _, .tail _ (.head _), trivial⟩ hH.nodup⟩
  · obtain rfl : i = xs.length := by omega
    repeat' (first
      | refine SC_seq ?_
      | refine SC_region ?_
      | refine SL_seq ?_
      | refine SL_move (by decide) (by rfl) ?_
      | refine SL_assign (by decide) (by rfl) ?_
      | (refine SL_lss (by decide) (by rfl) (by rfl) (fun hT => ?_) (fun hT => ?_) <;> first | (exfalso; omega) | skip)
      | refine SL_len_sl (by decide) (by rfl) (by rfl) (sliceOf_spec (slF (by rfl))).1 ?_
      | refine SC_cond_f (by rfl) ?_
      | (refine SC_exit (fun tm σ hE hH => ?_); refine SC.app ?_ hE hH; clear hE hH; clear tm σ)
      | refine SC_ret (fun tm σ hE hH => Post.intro (Hn := []) (.inr rfl) hE hH (by rfl) trivial List.nodup_nil (fun p hp => (by cases hp)) ?_)
      | fail)
    exact ⟨rfl, rfl⟩
theorem same_ov {G : Gl} (xs : List ByteArray) (hb : xs.length ≤ 1000) {a : Nat} {l : AV} {x1 : Bool} (hsl : StV xs l) (ho : G.orc 11 [.sl a 0 xs.length none, l] = none) :
    FnC Tryz.prog G 11 [.sl a 0 xs.length none, l] [(a, .cells 9 1 x1 (strs xs))] (fun v Hn => v = .s (.bool true) ∧ Hn = []) := by
  unfold strs
  unfold StV at hsl
  refine Fn_body (N := 26) ho Tryz.func11 rfl rfl fun B => ?_
  repeat' (first
    | refine SL_len_v (by decide) (by rfl) (by assumption) (by rfl) (slF (by rfl)) (strs_len _) ?_
    | refine SC_seq ?_
    | refine SC_block ?_
    | refine SC_region ?_
    | refine SL_seq ?_
    | refine SL_move (by decide) (by rfl) ?_
    | refine SL_assign (by decide) (by rfl) ?_
    | (refine SL_neq (by decide) (by rfl) (by rfl) (fun hT => ?_) (fun hT => ?_) <;> first | (exfalso; omega) | skip)
    | refine SL_len_sl (by decide) (by rfl) (by rfl) (sliceOf_spec (slF (by rfl))).1 ?_
    | refine SC_cond_f (by rfl) ?_
    | (refine SC_skip' (fun tm σ hE hH => ?_); refine SC.app ?_ hE hH; clear hE hH; clear tm σ)
    | fail)
  refine SC_loop (fun i : Nat => [(0, .sl a 0 xs.length none), (1, l), (5, .s (.int .i64 i))]) (fun i => [(a, .cells 9 1 x1 (xs.map fun x => [.s (.string x)]))]) (fun _ => []) (fun i => i ≤ xs.length) (fun i => xs.length - i) 0 (by omega) ⟨rfl, rfl, rfl, trivial⟩ ⟨.head _, trivial⟩ (by simp) rfl ?_
  intro i hi
  by_cases hlt : i < xs.length
  ·
    repeat' (first
      | (refine SL_sneq (by decide) (by rfl) (by rfl) (fun hS => ?_) (fun hS => ?_) <;> first | (exact absurd rfl hS) | skip)
      | refine SC_seq ?_
      | refine SC_block ?_
      | refine SC_region ?_
      | refine SL_seq ?_
      | refine SL_move (by decide) (by rfl) ?_
      | refine SL_assign (by decide) (by rfl) ?_
      | refine SL_add (by decide) (by rfl) (by rfl) (by omega) (by omega) ?_
      | (refine SL_lss (by decide) (by rfl) (by rfl) (fun hT => ?_) (fun hT => ?_) <;> first | (exfalso; omega) | skip)
      | refine SL_len_sl (by decide) (by rfl) (by rfl) (sliceOf_spec (slF (by rfl))).1 ?_
      | refine SL_indexAddr_v (by decide) (by rfl) (by rfl) (by assumption) (slF (by rfl)) _ (by first | rfl | exact (Int.toNat_of_nonneg (by omega)).symm) (by simp only [List.length_map]; omega) (fun ad => ?_)
      | refine SL_indexAddr_0 (by decide) (by rfl) (by rfl) (by repeat (first | exact .head _ | refine .tail _ ?_)) (slF (by rfl)) _ (by first | rfl | exact (Int.toNat_of_nonneg (by omega)).symm) (by omega) ?_
      | refine SL_load_r (by decide) (by rfl) (rowF (by rfl)) (by first | assumption | rfl | exact strs_get _ hlt) (by rfl) ?_
      | refine SL_load_o (by decide) (by rfl) (by repeat (first | exact .head _ | refine .tail _ ?_)) (rowF (by rfl)) (by first | assumption | rfl | exact strs_get _ hlt) (by rfl) ?_
      | refine SC_draw (by kernel_rfl) ?_
      | refine SC_cond_t (by rfl) ?_
      | refine SC_cond_f (by rfl) ?_
      | (refine SC_skip' (fun tm σ hE hH => ?_); refine SC.app ?_ hE hH; clear hE hH; clear tm σ)
      | fail)
    refine SL_nil fun tm σ hE hH => ⟨i + 1, by omega, by omega, tm, σ, rfl, hE.sub ⟨rfl, rfl, rfl, trivial⟩, hH.sub ⟨.head _, trivial⟩ hH.nodup⟩
  · obtain rfl : i = xs.length := by omega
    repeat' (first
      | refine SC_seq ?_
      | refine SC_region ?_
      | refine SL_seq ?_
      | refine SL_move (by decide) (by rfl) ?_
      | refine SL_assign (by decide) (by rfl) ?_
      | (refine SL_lss (by decide) (by rfl) (by rfl) (fun hT => ?_) (fun hT => ?_) <;> first | (exfalso; omega) | skip)
      | refine SL_len_sl (by decide) (by rfl) (by rfl) (sliceOf_spec (slF (by rfl))).1 ?_
      | refine SC_cond_f (by rfl) ?_
      | (refine SC_exit (fun tm σ hE hH => ?_); refine SC.app ?_ hE hH; clear hE hH; clear tm σ)
      | refine SC_ret (fun tm σ hE hH => Post.intro (Hn := []) (.inr rfl) hE hH (by rfl) trivial List.nodup_nil (fun p hp => (by cases hp)) ?_)
      | fail)
    exact ⟨rfl, rfl⟩
end Go.Proofs.YtnhnlkljcfbhfaaGreatDoor
/- report.Standings, walked. -/
namespace Go.Ab
theorem SJ_lookN {P : Program} {G : Gl} {B0 B : AS} {W0 W : List Nat} {base : Nat} {l : List Oper} {r : List (Nat × List Nat)} {RC : List (Nat × Nat)} {L : List (Nat × AV)} {N : Nat} {H : List (Nat × AObj)} {Q : AEx → Cfg → Prop} {i : Nat} {o : Oper} {a : Operand} {v : AV} (id : Nat) (hi : l[i]? = some o) (ha : lookAt o = some a) (hv : evL G L a = some v) (hid : idOf v = none) (hc : (cls o == 3) = false) (hrc : (RC.all fun p => p.1 != i) = true)
    (h : SL P G B W l.toArray [o] L N [] H (JNext P G B0 W0 B base l r W ((i, id) :: RC) N Q)) : SJ P G B0 W0 B base l ((i, []) :: r) W RC L N H Q := fun hd hW =>
  SD_opN W ((i, id) :: RC) (by simpa using hi) hc (fun _ h => h) (fun p hp => by simpa using List.all_eq_true.1 hrc p hp) (fun k hk => by cases hk) ⟨a, v, id, ha, hv, hid, rfl⟩ (SL_mono h fun s ⟨tm, σ, L', H', e, a, b, c⟩ => ⟨tm, σ, L', H', e, a, b, c hd fun id hid => ⟨(hW id hid).1, fun p hp => (hW id hid).2 p (List.mem_cons_of_mem _ hp)⟩⟩)
end Go.Ab
namespace Go.Proofs.YtnhnlkljcfbhfaaGreatDoor.Tb
open Go Go.Ab
set_option maxRecDepth 100000
theorem bd33s : (Tryz.prog.funcs[33]?).map (·.body.isNone) = some false := by rw [Tryz.func33]; rfl
theorem bd8s : (Tryz.prog.funcs[8]?).map (·.body.isNone) = some false := by rw [Tryz.func8]; rfl
theorem bd7s : (Tryz.prog.funcs[7]?).map (·.body.isNone) = some false := by rw [Tryz.func7]; rfl
theorem bd11s : (Tryz.prog.funcs[11]?).map (·.body.isNone) = some false := by rw [Tryz.func11]; rfl
theorem bd74s : (Tryz.prog.funcs[74]?).map (·.body.isNone) = some false := by rw [Tryz.func74]; rfl
def outVS (a : Nat) : Option Nat → AV
  | none => nilV
  | some o => .sl o 0 a none
def outHS (ls : List ByteArray) : Option Nat → List (Nat × AObj)
  | none => []
  | some o => [(o, .cells 9 1 false (strs ls))]
theorem strs_snoc (l : List ByteArray) (s : ByteArray) : strs l ++ [[AV.s (.string s)]] = strs (l ++ [s]) := by unfold strs; rw [List.map_append]; rfl
theorem strs_lenS (l : List ByteArray) : (strs l).length = l.length := List.length_map _
theorem linesS_0 (rs : List (List Sc)) (ks : List Int) (xs : List ByteArray) (ord pls : List Int) : linesS rs ks xs ord pls 0 = [] := rfl
attribute [local irreducible] SC SL wpc wpl wpd wpf wpy wpn FnC FnW RdW SD SI SJ
set_option maxHeartbeats 4000000
theorem wordsS_fn {G : Gl} (ho : ∀ a, G.orc 33 [a] = none) {id n : Nat} {x : Bool} {xs : List ByteArray} {s : ByteArray} (h74 : FnC Tryz.prog G 74 [.sl id 0 n none, .s (.string ⟨#[32]⟩)] [(id, .cells 9 1 x (strs xs))] (fun v Hn => v = .s (.string s) ∧ Hn = [])) :
    FnC Tryz.prog G 33 [.sl id 0 n none] [(id, .cells 9 1 x (strs xs))] (fun v Hn => v = .s (.string s) ∧ Hn = []) := by
  refine Fn_body (N := 5) (ho _) Tryz.func33 rfl rfl fun B => ?_
  repeat' (first
    | (refine SL_call (by decide) (by rfl) bd74s (by rfl) (by rfl) h74 ⟨.head _, trivial⟩ (by simp) ?_; rintro _ _ _ ⟨rfl, rfl⟩; rw [List.nil_append])
    | refine SC_seq ?_
    | refine SC_region ?_
    | refine SL_seq ?_
    | refine SL_move (by decide) (by rfl) ?_
    | refine SL_assign (by decide) (by rfl) ?_
    | fail)
  refine SC_ret (fun tm σ hE hH => Post.intro (Hn := []) (.inr rfl) hE hH (by rfl) trivial List.nodup_nil (fun p hp => (by cases hp)) ?_)
  exact ⟨rfl, rfl⟩
theorem rstands_np {G : Gl} {na ra ka : AV} (ho : ∀ x y z, G.orc 24 [x, y, z] = none) (h51 : FnC Tryz.prog G 51 [na, .s (.int .i64 2), .s (.int .i64 200)] [] (fun v Hn => v = .s (.bool false) ∧ Hn = [])) :
    FnC Tryz.prog G 24 [na, ra, ka] [] (fun v Hn => v = .s (.tuple #[.slice none 0 0, .int .i64 2]) ∧ Hn = []) := by
  refine Fn_body (N := 98) (ho _ _ _) Tryz.func24 rfl rfl fun B => ?_
  repeat' (first
    | (refine SL_call (by decide) (by rfl) YtnhnlkljcfbhfaaGreatDoor.bd51 (by rfl) (by rfl) (h51) trivial List.nodup_nil ?_; rintro _ _ _ ⟨rfl, rfl⟩; rw [List.nil_append])
    | refine SC_seq ?_
    | refine SC_region ?_
    | refine SL_seq ?_
    | refine SL_move (by decide) (by rfl) ?_
    | refine SL_assign (by decide) (by rfl) ?_
    | refine SL_not_op (by decide) (by rfl) ?_
    | refine SC_cond_t (by rfl) ?_
    | fail)
  refine SC_ret (fun tm σ hE hH => Post.intro (Hn := []) (.inr rfl) hE hH (by rfl) trivial List.nodup_nil (fun p hp => (by cases hp)) ?_)
  exact ⟨rfl, rfl⟩
theorem rstands_t {G : Gl} {rs : List (List Sc)} {ra : AV} {xs : List ByteArray} {na : AV} (hsk : SlK 1 na (xs.map fun x => [AV.s (.string x)])) (ho : ∀ x y z, G.orc 24 [x, y, z] = none) {ka : AV} {ks : List Int} (hk : SlV 1 ka (ints ks)) (hkl : ks.length ≤ 10) (h2 : 2 ≤ xs.length) (h24 : xs.length ≤ 24) (hxz : ∀ x ∈ xs, x.size ≤ 100) (hF : ∀ i : Nat, i < xs.length → 0 ≤ sumT rs i ∧ sumT rs i ≤ 1000) (hKV : ∀ i : Nat, i < xs.length → ∀ j, j < ks.length → 0 ≤ kval rs i (ks.getD j 0) ∧ kval rs i (ks.getD j 0) ≤ 20000)
    (h51 : FnC Tryz.prog G 51 [na, .s (.int .i64 2), .s (.int .i64 200)] [] (fun v Hn => v = .s (.bool true) ∧ Hn = []))
    (h26 : FnC Tryz.prog G 26 [.s (.int .i64 xs.length), ra, ka] [] (fun v Hn => ∃ oid pid ord pls, v = .tup [.sl oid 0 xs.length none, .sl pid 0 xs.length none, .s (.int .i64 0)] ∧ Hn = [(oid, .cells 3 1 false (ints ord)), (pid, .cells 3 1 true (ints pls))] ∧ Stood rs ks xs.length ord pls))
    (h52 : FnC Tryz.prog G 52 [.s (.int .i64 xs.length), ra] [] (fun v Hn => ∃ id, v = .tup [.sl id 0 xs.length none, .s (.int .i64 0)] ∧ Hn = [(id, .cells 3 1 true (tab xs.length (fun x => sumT rs x)))]))
    (h14A : ∀ n : Int, 0 ≤ n → n ≤ 1000 → FnC Tryz.prog G 14 [.s (.int .i64 n)] [] (fun v Hn => v = .s (.tuple #[.string (ptS n), .int .i64 0]) ∧ Hn = []))
    (h40A : ∀ n : Int, 0 ≤ n → n ≤ 100000 → FnC Tryz.prog G 40 [.s (.int .i64 n)] [] (fun v Hn => v = .s (.string (decI n)) ∧ Hn = []))
    (h33A : ∀ (id n : Nat) (x : Bool) (ws : List ByteArray), ws.length = n → n ≤ 1000 → (joinW ws).size ≤ 1000000 → FnC Tryz.prog G 33 [.sl id 0 n none] [(id, .cells 9 1 x (strs ws))] (fun v Hn => v = .s (.string (joinW ws)) ∧ Hn = []))
    (h53A : ∀ i : Nat, i < xs.length → ∀ j, j < ks.length → FnC Tryz.prog G 53 [.s (.int .i64 xs.length), ra, .s (.int .i64 (ks.getD j 0)), .s (.int .i64 i)] [] (fun v Hn => v = .s (.tuple #[.int .i64 (kval rs i (ks.getD j 0)), .int .i64 0]) ∧ Hn = [])) :
    FnC Tryz.prog G 24 [na, ra, ka] [] (fun v Hn => ∃ id ord pls, Stood rs ks xs.length ord pls ∧ v = .tup [.sl id 0 xs.length none, .s (.int .i64 0)] ∧ Hn = [(id, .cells 9 1 false (strs (linesS rs ks xs ord pls xs.length)))]) := by
  have hil := ints_len ks
  obtain ⟨nad, ncap, rfl⟩ : ∃ ad cap, na = .rsl ad 1 cap (xs.map fun x => [AV.s (.string x)]) := by
    generalize hrw : (xs.map fun x => [AV.s (.string x)]) = rows at hsk
    cases hsk with
    | nil => have := congrArg List.length hrw; simp at this; subst this; simp at h2
    | rsl hp => exact ⟨_, _, rfl⟩
  have hsl := hsk.v
  refine Fn_body (N := 98) (ho _ _ _) Tryz.func24 rfl rfl fun B => ?_
  repeat' (first
    | refine SL_len_v (by decide) (by rfl) hsl (by rfl) (slF (by rfl)) (List.length_map _) ?_
    | (refine SL_call (by decide) (by rfl) bd10 (by rfl) (by rfl) h52 trivial List.nodup_nil ?_; rintro _ _ hB52 ⟨sid, rfl, rfl⟩; simp only [List.cons_append, List.nil_append])
    | (refine SL_call (by decide) (by rfl) bd17 (by rfl) (by rfl) h26 trivial List.nodup_nil ?_; rintro _ _ hB26 ⟨oid, pid, ord, pls, rfl, rfl, hst⟩; simp only [List.cons_append, List.nil_append])
    | (refine SL_call (by decide) (by rfl) YtnhnlkljcfbhfaaGreatDoor.bd51 (by rfl) (by rfl) (h51) trivial List.nodup_nil ?_; rintro _ _ _ ⟨rfl, rfl⟩; rw [List.nil_append])
    | refine SC_seq ?_
    | refine SC_block ?_
    | refine SC_region ?_
    | refine SL_seq ?_
    | refine SL_move (by decide) (by rfl) ?_
    | refine SL_assign (by decide) (by rfl) ?_
    | refine SL_not_op (by decide) (by rfl) ?_
    | (refine SL_neq (by decide) (by rfl) (by rfl) (fun hT => ?_) (fun hT => ?_) <;> first | (exfalso; omega) | skip)
    | refine SL_extract_tup (by decide) (by rfl) (by rfl) ?_
    | refine SL_len_sl (by decide) (by rfl) (by rfl) (sliceOf_spec (slF (by rfl))).1 ?_
    | refine SC_cond_f (by rfl) ?_
    | (refine SC_skip' (fun tm σ hE hH => ?_); refine SC.app ?_ hE hH; clear hE hH; clear tm σ)
    | fail)
  have hol := hst.len
  have hpl := hst.plen
  have hilo := ints_len ord
  have hilp := ints_len pls
  have htl := tab_len xs.length (fun x => sumT rs x)
  have hoidB : B.next ≤ oid := hB26 (oid, _) (.head _)
  refine SC_nd fun hnd0 => ?_
  refine SC_loop (fun u : Nat × Option Nat => [(0, .rsl nad 1 ncap (xs.map fun x => [AV.s (.string x)])), (1, ra), (2, ka), (8, .sl oid 0 xs.length none), (9, .sl pid 0 xs.length none), (11, .sl sid 0 xs.length none), (13, outVS u.1 u.2), (45, .sl oid 0 xs.length none), (46, .s (.int .i64 xs.length)), (47, .s (.int .i64 u.1))])
    (fun u => (sid, .cells 3 1 true (tab xs.length (fun x => sumT rs x))) :: (oid, .cells 3 1 false (ints ord)) :: (pid, .cells 3 1 true (ints pls)) :: outHS (linesS rs ks xs ord pls u.1) u.2) (fun _ => [])
    (fun u => u.1 ≤ xs.length ∧ (u.2 = none → u.1 = 0) ∧ ∀ o, u.2 = some o → B.next ≤ o) (fun u => xs.length - u.1) (0, none)
    ⟨Nat.zero_le _, fun _ => rfl, fun o h => (by cases h)⟩ ⟨rfl, rfl, rfl, rfl, rfl, rfl, rfl, rfl, rfl, rfl, trivial⟩ (.refl _) hnd0 rfl ?_
  rintro ⟨a, od⟩ ⟨ha, ho0, hoo⟩
  dsimp only at ha ho0 hoo ⊢
  by_cases halt : a < xs.length
  · obtain ⟨i, hi, hoi⟩ := hst.mem halt
    have hoa : (ints ord)[a]? = some [AV.s (.int .i64 (i : Int))] := by rw [ints_getD _ (by omega), hoi]
    have hpa : (ints pls)[i]? = some [AV.s (.int .i64 (pls.getD i 0))] := ints_getD _ (by omega)
    have hsa : (tab xs.length (fun x => sumT rs x))[i]? = some [AV.s (.int .i64 (sumT rs i))] := tab_get _ _ hi
    have hna : (xs.map fun x => [AV.s (.string x)])[i]? = some [AV.s (.string (xs.getD i ⟨#[]⟩))] := by rw [List.getElem?_map, List.getElem?_eq_getElem hi]; simp [hi]
    have hsz := hF i hi
    have hpb : 1 ≤ pls.getD i 0 ∧ pls.getD i 0 ≤ a + 1 := by
      have h1 := hst.at_ a halt
      rw [hoi, Int.toNat_natCast] at h1
      rw [h1]; exact plOf_bd _ _ a
    have hxi : (xs.getD i ⟨#[]⟩).size ≤ 100 := by
      rw [show xs.getD i ⟨#[]⟩ = xs[i] by simp [hi]]
      exact hxz _ (List.getElem_mem hi)
    have h14 := h14A _ hsz.1 hsz.2
    have h40p := h40A (pls.getD i 0) (by omega) (by omega)
    repeat' (first
      | (refine SL_nil (fun tm σ hE hH => ⟨tm, σ, _, _, rfl, hE, hH, ?_⟩); clear hE hH; clear tm σ)
      | (refine SJ_nil (fun tm σ hE hH => ?_); refine SC.app ?_ hE hH; clear hE hH; clear tm σ)
      | (refine SJ_buildSlice (i := 10) (by rfl) (by decide) (by rfl) (by rfl) (by rfl) (elF (by rfl)) (by decide) (by rfl) (fun cur hcur => ?_))
      | (refine SJ_turn (i := 4) [] (fun j hj => by cases hj) (fun j hj => by cases hj) hbB (by rfl) (by rfl) (by rfl) (fun k hk => by simp at hk; rcases hk with rfl | rfl <;> exact ⟨oid, by simp, by simp, hoidb⟩) ?_)
      | (refine SJ_lookN (i := 8) oid (by rfl) (by rfl) (by rfl) (by rfl) (by rfl) (by rfl) ?_)
      | (refine SJ_lookN (i := 7) oid (by rfl) (by rfl) (by rfl) (by rfl) (by rfl) (by rfl) ?_)
      | (refine SJ_op (by rfl) (by rfl) (by rfl) ?_)
      | (refine SC_drawP (id := 12) [(0, []), (1, []), (2, []), (3, []), (5, []), (6, []), (7, []), (8, []), (9, []), (4, [8, 7]), (10, []), (11, [])] (by kernel_rfl) (fun B2 base hBB hold hbB => ?_); have hoidb : oid < base := hold (oid, _) (by repeat (first | exact .head _ | exact .tail _ (.head _) | refine .tail _ ?_)))
      | refine SL_indexAddr_0 (by decide) (by rfl) (by rfl) (by repeat (first | exact .head _ | refine .tail _ ?_)) (slF (by rfl)) _ (by rfl) (by omega) ?_
      | refine SL_load_r (by decide) (by rfl) (rowF (by rfl)) (by first | exact hna | exact hka) (by rfl) ?_
      | refine SL_load_o (by decide) (by rfl) (by repeat (first | exact .head _ | refine .tail _ ?_)) (rowF (by rfl)) (by first | exact hoa | exact hpa | exact hsa) (by rfl) ?_
      | refine SL_indexAddr_v (by decide) (by rfl) (by rfl) hsl (slF (by rfl)) i (by rfl) (by simp only [List.length_map]; omega) (fun ad => ?_)
      | refine SL_len_v (by decide) (by rfl) hk (by rfl) (slF (by rfl)) hil ?_
      | (refine SL_call (by decide) (by rfl) YtnhnlkljcfbhfaaGreatDoor.bd40 (by rfl) (by rfl) h40p trivial List.nodup_nil ?_; rintro _ _ _ ⟨rfl, rfl⟩; rw [List.nil_append])
      | (refine SL_call (by decide) (by rfl) YtnhnlkljcfbhfaaGreatDoor.bd14 (by rfl) (by rfl) h14 trivial List.nodup_nil ?_; rintro _ _ _ ⟨rfl, rfl⟩; rw [List.nil_append])
      | refine SC_seq ?_
      | refine SC_block ?_
      | refine SC_region ?_
      | refine SL_seq ?_
      | refine SL_move (by decide) (by rfl) ?_
      | refine SL_assign (by decide) (by rfl) ?_
      | (refine SL_lss (by decide) (by rfl) (by rfl) (fun hT => ?_) (fun hT => ?_) <;> first | (exfalso; omega) | skip)
      | refine SL_extract_s (by decide) (by rfl) (by rfl) ?_
      | refine SC_cond_t (by rfl) ?_
      | (refine SC_skip' (fun tm σ hE hH => ?_); refine SC.app ?_ hE hH; clear hE hH; clear tm σ)
      | fail)
    have hw0 : [[AV.s (.string (decI (pls.getD i 0)))], [AV.s (.string (xs.getD i ⟨#[]⟩))], [AV.s (.string (ptS (sumT rs i)))]] = strs (wordsL rs ks xs i (pls.getD i 0) 0) := rfl
    refine SC_nd fun hnd1 => ?_
    refine SC_loop (fun v : Nat × Nat × Bool => [(0, .rsl nad 1 ncap (xs.map fun x => [AV.s (.string x)])), (1, ra), (2, ka), (8, .sl oid 0 xs.length none), (9, .sl pid 0 xs.length none), (11, .sl sid 0 xs.length none), (13, outVS a od), (15, .s (.int .i64 (i : Int))), (18, .sl v.2.1 0 (3 + v.1) none), (45, .sl oid 0 xs.length none), (46, .s (.int .i64 xs.length)), (47, .s (.int .i64 a)), (70, ka), (71, .s (.int .i64 ks.length)), (72, .s (.int .i64 v.1))])
      (fun v => (v.2.1, .cells 9 1 v.2.2 (strs (wordsL rs ks xs i (pls.getD i 0) v.1))) :: (sid, .cells 3 1 true (tab xs.length (fun x => sumT rs x))) :: (oid, .cells 3 1 false (ints ord)) :: (pid, .cells 3 1 true (ints pls)) :: outHS (linesS rs ks xs ord pls a) od) (fun _ => [])
      (fun v => v.1 ≤ ks.length ∧ v.2.2 = decide (v.1 = 0) ∧ B.next ≤ v.2.1) (fun v => ks.length - v.1) (0, cur, true) ⟨Nat.zero_le _, rfl, hcur⟩ ⟨rfl, rfl, rfl, rfl, rfl, rfl, rfl, rfl, rfl, rfl, rfl, rfl, rfl, rfl, rfl, trivial⟩ (.refl _) hnd1 rfl ?_
    clear hnd1 hcur cur
    rintro ⟨j, cur, e⟩ ⟨hj, he, hcur⟩
    dsimp only at hj he hcur ⊢
    have hwl : 3 + j = (strs (wordsL rs ks xs i (pls.getD i 0) j)).length := by rw [strs_lenS, wordsL_len rs ks xs i _ hj]
    by_cases hjlt : j < ks.length
    · have hka : (ints ks)[j]? = some [AV.s (.int .i64 (ks.getD j 0))] := ints_getD _ hjlt
      have h53 := h53A i hi j hjlt
      have hkv := hKV i hi j hjlt
      have h40v := h40A _ hkv.1 (by omega)
      have htk : strs (wordsL rs ks xs i (pls.getD i 0) j) ++ [[AV.s (.string (decI (kval rs i (ks.getD j 0))))]] = strs (wordsL rs ks xs i (pls.getD i 0) (j + 1)) := by rw [strs_snoc, ← wordsL_next xs i _ hjlt]
      by_cases hj0 : j = 0
      · obtain rfl : e = true := by rw [he, hj0]; rfl
        repeat' (first
          | refine SL_append1_grow (by decide) (by rfl) (by rfl) (.tail _ (.head _)) hwl (by repeat (first | exact .head _ | refine .tail _ ?_)) (elF (by rfl)) (sliceOf_spec (slF (by rfl))).1 (by rfl) (by omega) (by omega) (fun id hid => ?_)
          | refine SL_load_r (by decide) (by rfl) (rowF (by rfl)) (by first | exact hna | exact hka) (by rfl) ?_
          | refine SL_indexAddr_v (by decide) (by rfl) (by rfl) hk (slF (by rfl)) j (by rfl) (by omega) (fun ad => ?_)
          | refine SL_len_v (by decide) (by rfl) hsl (by rfl) (slF (by rfl)) (List.length_map _) ?_
          | (refine SL_call (by decide) (by rfl) YtnhnlkljcfbhfaaGreatDoor.bd40 (by rfl) (by rfl) h40v trivial List.nodup_nil ?_; rintro _ _ _ ⟨rfl, rfl⟩; rw [List.nil_append])
          | (refine SL_call (by decide) (by rfl) bd15 (by rfl) (by rfl) h53 trivial List.nodup_nil ?_; rintro _ _ _ ⟨rfl, rfl⟩; rw [List.nil_append])
          | refine SC_seq ?_
          | refine SC_block ?_
          | refine SC_region ?_
          | refine SL_seq ?_
          | (refine SL_nil (fun tm σ hE hH => ?_); refine SC.app ?_ hE hH; clear hE hH; clear tm σ)
          | refine SL_move (by decide) (by rfl) ?_
          | refine SL_assign (by decide) (by rfl) ?_
          | refine SL_add (by decide) (by rfl) (by rfl) (by omega) (by omega) ?_
          | (refine SL_lss (by decide) (by rfl) (by rfl) (fun hT => ?_) (fun hT => ?_) <;> first | (exfalso; omega) | skip)
          | refine SL_extract_s (by decide) (by rfl) (by rfl) ?_
          | refine SL_build1 (by decide) (by rfl) (elF (by rfl)) (by rfl) (by rfl) (fun id hid => ?_)
          | refine SC_cond_t (by rfl) ?_
          | (refine SC_skip' (fun tm σ hE hH => ?_); refine SC.app ?_ hE hH; clear hE hH; clear tm σ)
          | fail)
        refine SL_nil fun tm σ hE hH => ⟨(j + 1, id, false), by show ks.length - (j + 1) < ks.length - j; omega, ⟨by show j + 1 ≤ _; omega, by simp, by assumption⟩, tm, σ, rfl, hE.sub ⟨rfl, rfl, rfl, rfl, rfl, rfl, rfl, rfl, rfl, rfl, rfl, rfl, rfl, rfl, rfl, trivial⟩, ?_⟩
        dsimp only
        rw [← htk]
        exact hH.subl (.cons_cons _ (.cons _ (.cons _ (.refl _))))
      · obtain rfl : e = false := by rw [he]; exact decide_eq_false hj0
        repeat' (first
          | refine SL_append1_own (by decide) (by rfl) (by rfl) (.tail .head) hwl (.inl hcur) (by repeat (first | exact .head _ | refine .tail _ ?_)) (elF (by rfl)) (sliceOf_spec (slF (by rfl))).1 (by rfl) (by omega) (by omega) (fun id hid => ?_)
          | refine SL_load_r (by decide) (by rfl) (rowF (by rfl)) (by first | exact hna | exact hka) (by rfl) ?_
          | refine SL_indexAddr_v (by decide) (by rfl) (by rfl) hk (slF (by rfl)) j (by rfl) (by omega) (fun ad => ?_)
          | refine SL_len_v (by decide) (by rfl) hsl (by rfl) (slF (by rfl)) (List.length_map _) ?_
          | (refine SL_call (by decide) (by rfl) YtnhnlkljcfbhfaaGreatDoor.bd40 (by rfl) (by rfl) h40v trivial List.nodup_nil ?_; rintro _ _ _ ⟨rfl, rfl⟩; rw [List.nil_append])
          | (refine SL_call (by decide) (by rfl) bd15 (by rfl) (by rfl) h53 trivial List.nodup_nil ?_; rintro _ _ _ ⟨rfl, rfl⟩; rw [List.nil_append])
          | refine SC_seq ?_
          | refine SC_block ?_
          | refine SC_region ?_
          | refine SL_seq ?_
          | (refine SL_nil (fun tm σ hE hH => ?_); refine SC.app ?_ hE hH; clear hE hH; clear tm σ)
          | refine SL_move (by decide) (by rfl) ?_
          | refine SL_assign (by decide) (by rfl) ?_
          | refine SL_add (by decide) (by rfl) (by rfl) (by omega) (by omega) ?_
          | (refine SL_lss (by decide) (by rfl) (by rfl) (fun hT => ?_) (fun hT => ?_) <;> first | (exfalso; omega) | skip)
          | refine SL_extract_s (by decide) (by rfl) (by rfl) ?_
          | refine SL_build1 (by decide) (by rfl) (elF (by rfl)) (by rfl) (by rfl) (fun id hid => ?_)
          | refine SC_cond_t (by rfl) ?_
          | (refine SC_skip' (fun tm σ hE hH => ?_); refine SC.app ?_ hE hH; clear hE hH; clear tm σ)
          | fail)
        refine SL_nil fun tm σ hE hH => ⟨(j + 1, id, false), by show ks.length - (j + 1) < ks.length - j; omega, ⟨by show j + 1 ≤ _; omega, by simp, by assumption⟩, tm, σ, rfl, hE.sub ⟨rfl, rfl, rfl, rfl, rfl, rfl, rfl, rfl, rfl, rfl, rfl, rfl, rfl, rfl, rfl, trivial⟩, ?_⟩
        dsimp only
        rw [← htk]
        exact hH.subl (.cons_cons _ (.cons _ (.cons _ (.refl _))))
    · obtain rfl : j = ks.length := by omega
      have hls := lineW_size (ks := ks) (pl := pls.getD i 0) hxi hsz (Nat.le_refl ks.length)
      have h33c := h33A cur (3 + ks.length) e (wordsL rs ks xs i (pls.getD i 0) ks.length) (wordsL_len rs ks xs i _ (Nat.le_refl _)) (by omega) (by unfold lineW at hls; omega)
      have hln : linesS rs ks xs ord pls (a + 1) = linesS rs ks xs ord pls a ++ [joinW (wordsL rs ks xs i (pls.getD i 0) ks.length)] := by
        rw [linesS_next (by omega), hoi, Int.toNat_natCast]
        rfl
      cases od with
      | none =>
        obtain rfl : a = 0 := ho0 rfl
        dsimp only [outVS, outHS, List.nil_append]
        repeat' (first
          | (refine SL_call (by decide) (by rfl) bd33s (by rfl) (by rfl) h33c ⟨.head _, trivial⟩ (by simp) ?_; rintro _ _ _ ⟨rfl, rfl⟩; rw [List.nil_append])
          | refine SC_seq ?_
          | refine SC_region ?_
          | refine SL_seq ?_
          | (refine SL_nil (fun tm σ hE hH => ?_); refine SC.app ?_ hE hH; clear hE hH; clear tm σ)
          | refine SL_move (by decide) (by rfl) ?_
          | refine SL_assign (by decide) (by rfl) ?_
          | refine SL_add (by decide) (by rfl) (by rfl) (by omega) (by omega) ?_
          | (refine SL_lss (by decide) (by rfl) (by rfl) (fun hT => ?_) (fun hT => ?_) <;> first | (exfalso; omega) | skip)
          | refine SL_build1 (by decide) (by rfl) (elF (by rfl)) (by rfl) (by rfl) (fun id hid => ?_)
          | refine SL_append1_nil (by decide) (by rfl) (by rfl) (by repeat (first | exact .head _ | refine .tail _ ?_)) (elF (by rfl)) (sliceOf_spec (slF (by rfl))).1 (by rfl) (by decide) (fun id hid => ?_)
          | refine SC_cond_f (by rfl) ?_
          | (refine SC_exit (fun tm σ hE hH => ?_); refine SC.app ?_ hE hH; clear hE hH; clear tm σ)
          | fail)
        refine SL_nil fun tm σ hE hH => ⟨(0 + 1, some id), by show xs.length - (0 + 1) < xs.length - 0; omega, ⟨by show 0 + 1 ≤ xs.length; omega, fun h => (by cases h), fun o h => (by cases h; assumption)⟩, tm, σ, rfl, hE.sub ⟨rfl, rfl, rfl, rfl, rfl, rfl, rfl, rfl, rfl, rfl, trivial⟩, ?_⟩
        dsimp only [outHS]
        rw [hln, linesS_0]
        exact (hH.subl (H' := (id, _) :: (sid, _) :: (oid, _) :: (pid, _) :: []) (.cons_cons _ (.cons _ (.cons _ (.refl _))))).perm (List.perm_append_comm (l₁ := [(id, _)]) (l₂ := [(sid, _), (oid, _), (pid, _)]))
      | some o =>
        have hoB := hoo o rfl
        have hll : a = (strs (linesS rs ks xs ord pls a)).length := by rw [strs_lenS, linesS_len rs ks xs ord pls (by omega)]
        dsimp only [outVS, outHS, List.cons_append, List.nil_append]
        repeat' (first
          | refine SL_append1_own (by decide) (by rfl) (by rfl) (.tail (.tail (.tail (.tail (.tail .head))))) hll (.inl hoB) (by repeat (first | exact .head _ | refine .tail _ ?_)) (elF (by rfl)) (sliceOf_spec (slF (by rfl))).1 (by rfl) (by omega) (by omega) (fun id hid => ?_)
          | (refine SL_call (by decide) (by rfl) bd33s (by rfl) (by rfl) h33c ⟨.head _, trivial⟩ (by simp) ?_; rintro _ _ _ ⟨rfl, rfl⟩; rw [List.nil_append])
          | refine SC_seq ?_
          | refine SC_region ?_
          | refine SL_seq ?_
          | (refine SL_nil (fun tm σ hE hH => ?_); refine SC.app ?_ hE hH; clear hE hH; clear tm σ)
          | refine SL_move (by decide) (by rfl) ?_
          | refine SL_assign (by decide) (by rfl) ?_
          | refine SL_add (by decide) (by rfl) (by rfl) (by omega) (by omega) ?_
          | (refine SL_lss (by decide) (by rfl) (by rfl) (fun hT => ?_) (fun hT => ?_) <;> first | (exfalso; omega) | skip)
          | refine SL_build1 (by decide) (by rfl) (elF (by rfl)) (by rfl) (by rfl) (fun id hid => ?_)
          | refine SC_cond_f (by rfl) ?_
          | (refine SC_exit (fun tm σ hE hH => ?_); refine SC.app ?_ hE hH; clear hE hH; clear tm σ)
          | fail)
        refine SL_nil fun tm σ hE hH => ⟨(a + 1, some id), by show xs.length - (a + 1) < xs.length - a; omega, ⟨by show a + 1 ≤ xs.length; omega, fun h => (by cases h), fun o h => (by cases h; assumption)⟩, tm, σ, rfl, hE.sub ⟨rfl, rfl, rfl, rfl, rfl, rfl, rfl, rfl, rfl, rfl, trivial⟩, ?_⟩
        dsimp only [outHS]
        rw [hln, ← strs_snoc]
        exact (hH.subl (H' := (id, _) :: (sid, _) :: (oid, _) :: (pid, _) :: []) (.cons_cons _ (.cons _ (.cons _ (.cons_cons _ (.cons_cons _ (.cons_cons _ (.cons _ .slnil)))))))).perm (List.perm_append_comm (l₁ := [(id, _)]) (l₂ := [(sid, _), (oid, _), (pid, _)]))
  · obtain rfl : a = xs.length := by omega
    cases od with
    | none => have := ho0 rfl; omega
    | some o =>
      have hoB := hoo o rfl
      dsimp only [outVS, outHS, List.cons_append, List.nil_append]
      repeat' (first
        | refine SC_seq ?_
        | refine SC_region ?_
        | refine SL_seq ?_
        | refine SL_move (by decide) (by rfl) ?_
        | refine SL_assign (by decide) (by rfl) ?_
        | (refine SL_lss (by decide) (by rfl) (by rfl) (fun hT => ?_) (fun hT => ?_) <;> first | (exfalso; omega) | skip)
        | refine SC_cond_f (by rfl) ?_
        | (refine SC_exit (fun tm σ hE hH => ?_); refine SC.app ?_ hE hH; clear hE hH; clear tm σ)
        | fail)
      refine SC_ret (fun tm σ hE hH => Post.intro (Hn := [(o, _)]) (.inr rfl) hE hH (by rfl) ⟨.tail _ (.tail _ (.tail _ (.head _))), trivial⟩ (by simp) (fun p hp => by cases List.mem_singleton.1 hp; exact hoB) ⟨o, ord, pls, hst, rfl, rfl⟩)
end Go.Proofs.YtnhnlkljcfbhfaaGreatDoor.Tb
/- The law's own decimal, for greater numbers. -/
namespace Go.Proofs.YtnhnlkljcfbhfaaGreatDoor
open Go Go.Ab
theorem decI_stepB {n : Int} (h : 10 ≤ n) (h2 : n ≤ 100000) : decI n = decI (n / 10) ++ ⟨#[UInt8.ofNat (48 + n % 10).toNat]⟩ := by
  have e : decN 30 n.toNat = decN 30 (n / 10).toNat ++ [UInt8.ofNat (48 + n % 10).toNat] := by
    have e30 : (10 : Nat) ^ 30 = 1000000000000000000000000000000 := by decide
    rw [decN_eq 30 _ (by omega) (by decide), decN_eq 30 _ (by omega) (by decide), Lib.decDigits, dif_neg (by omega), show (n / 10).toNat = n.toNat / 10 by omega, show (48 + n % 10).toNat = 48 + n.toNat % 10 by omega]
  unfold decI
  rw [e]
  apply ByteArray.ext
  simp
attribute [local irreducible] SC SL wpc wpl wpd wpf wpy wpn FnC FnW RdW SD
set_option maxRecDepth 1000000
set_option maxHeartbeats 2000000
theorem digitsB_fn {G : Gl} (ho : ∀ a, G.orc 67 [a] = none) : ∀ (k : Nat) (n : Int), 0 ≤ n → n ≤ 100000 → n ≤ k → FnC Tryz.prog G 67 [.s (.int .u64 n)] [] (fun v Hn => v = .s (.string (decI n)) ∧ Hn = []) := by
  intro k
  induction k with
  | zero =>
    intro n h0 h1 h2
    refine Fn_body (N := 20) (ho _) Tryz.func67 rfl rfl fun B => ?_
    repeat' (first
      | refine SL_bytes (by decide) (by rfl) (by repeat (first | exact .head _ | refine .tail _ ?_)) Tryz.underlying84 Tryz.underlying9 Tryz.underlying5 (Nat.le_of_ble_eq_true (by rfl)) (by rfl) ?_
      | refine SL_conv (by decide) (by rfl) k124_5 (IntWalk.u8_in _ ⟨by omega, by omega⟩) ?_
      | refine SL_addU (by decide) (by rfl) (by rfl) (by omega) (by omega) ?_
      | refine SC_seq ?_
      | refine SC_region ?_
      | refine SL_seq ?_
      | refine SL_move (by decide) (by rfl) ?_
      | refine SL_assign (by decide) (by rfl) ?_
      | (refine SL_lss (by decide) (by rfl) (by rfl) (fun hT => ?_) (fun hT => ?_) <;> first | (exfalso; omega) | skip)
      | refine SL_build1 (by decide) (by rfl) (elF (by rfl)) (by rfl) (by rfl) (fun id hid => ?_)
      | refine SC_cond_t (by rfl) ?_
      | refine SC_ret (fun tm σ hE hH => Post.intro (Hn := []) (.inr rfl) hE hH (by rfl) trivial List.nodup_nil (fun p hp => (by cases hp)) ?_)
      | fail)
    exact ⟨by rw [decI_small h0 (by omega)]; rfl, rfl⟩
  | succ k ih =>
    intro n h0 h1 h2
    have hrec : ∀ i : Int, 0 ≤ i → i ≤ 100000 → i ≤ k → FnC Tryz.prog G 67 [.s (.int .u64 i)] [] (fun v Hn => v = .s (.string (decI i)) ∧ Hn = []) := ih
    refine Fn_body (N := 20) (ho _) Tryz.func67 rfl rfl fun B => ?_
    repeat' (first
      | (refine SD_nil (fun tm σ hE hH => ⟨_, _, _, _, _, rfl, hE, hH, fun q hq => .inl (by rw [List.mem_singleton] at hq; subst hq; omega), ?_⟩); clear hE hH; clear tm σ; intro tm σ hE hH; refine SC.app ?_ hE hH; clear hE hH; clear tm σ)
      | (refine SL_call (by decide) (by rfl) bd67 (by rfl) (by rfl) (hrec _ (by omega) (by omega) (by omega)) trivial List.nodup_nil ?_; rintro _ _ _ ⟨rfl, rfl⟩; rw [List.nil_append])
      | refine SL_cat (by decide) (by rfl) (by rfl) (catOk (by first | exact decI_le _ | exact Nat.le_of_ble_eq_true (by rfl)) (by first | exact decI_le _ | exact Nat.le_of_ble_eq_true (by rfl))) ?_
      | refine SL_bytes (by decide) (by rfl) (by repeat (first | exact .head _ | refine .tail _ ?_)) Tryz.underlying84 Tryz.underlying9 Tryz.underlying5 (Nat.le_of_ble_eq_true (by rfl)) (by rfl) ?_
      | refine SL_conv (by decide) (by rfl) k124_5 (IntWalk.u8_in _ ⟨by omega, by omega⟩) ?_
      | refine SL_rem (by decide) (by rfl) (by rfl) (by omega) (by decide) ?_
      | refine SL_quoU (by decide) (by rfl) (by rfl) (by omega) (by omega) (by decide) ?_
      | refine SL_addU (by decide) (by rfl) (by rfl) (by omega) (by omega) ?_
      | refine SD_op (i := 10) [base + 7] [(6, base)] (by rfl) (by rfl) (fun _ h => h) (fun p hp => by rw [List.mem_singleton] at hp; subst hp; simp) (fun k hk => by cases hk) (.inl rfl) ?_
      | refine SD_op (i := 9) [base + 7] [(6, base)] (by rfl) (by rfl) (fun _ h => h) (fun p hp => by rw [List.mem_singleton] at hp; subst hp; simp) (fun k hk => by cases hk) (.inl rfl) ?_
      | refine SD_mkstr (i := 7) (j := 8) (by rfl) (by rfl) (by rfl) (by decide) (by decide) (by decide) (by rfl) el84 Tryz.underlying5 Tryz.underlying9 (fun p hp => by rw [List.mem_singleton] at hp; subst hp; simp) (fun p hp => by rw [List.mem_singleton] at hp; subst hp; simp) List.not_mem_nil (fun hm => not_base hb4 hm) (by simp at hb2; omega) (hb3 _ (by omega)) ?_
      | refine SD_op (i := 2) [] [(6, base)] (by rfl) (by rfl) (fun _ h => h) (fun p hp => by rw [List.mem_singleton] at hp; subst hp; simp) (fun k hk => ⟨base, by rw [List.mem_singleton] at hk; subst hk; exact List.mem_singleton.2 rfl, List.not_mem_nil, by simp at hb2; omega⟩) (.inl rfl) ?_
      | refine SD_opN (i := 6) [] [(6, base)] (by rfl) (by rfl) (fun _ h => h) (fun p hp => by cases hp) (fun k hk => by cases hk) ⟨_, _, base, rfl, rfl, rfl, rfl⟩ ?_
      | (refine SC_drawn (id := 3) (pl := [(0, []), (1, []), (3, []), (4, []), (5, []), (6, []), (2, [6]), (7, []), (8, []), (9, []), (10, [])]) (by kernel_rfl) (by kernel_rfl) ?_; intro B' base hb1 hb2 hb3 hb4)
      | refine SC_seq ?_
      | refine SC_region ?_
      | refine SL_seq ?_
      | refine SL_move (by decide) (by rfl) ?_
      | refine SL_assign (by decide) (by rfl) ?_
      | (refine SL_lss (by decide) (by rfl) (by rfl) (fun hT => ?_) (fun hT => ?_) <;> first | (exfalso; omega) | skip)
      | refine SL_build1 (by decide) (by rfl) (elF (by rfl)) (by rfl) (by rfl) (fun id hid => ?_)
      | refine SC_cond_t (by rfl) ?_
      | refine SC_cond_f (by rfl) ?_
      | (refine SC_skip' (fun tm σ hE hH => ?_); refine SC.app ?_ hE hH; clear hE hH; clear tm σ)
      | refine SC_ret (fun tm σ hE hH => Post.intro (Hn := []) (.inr rfl) hE hH (by rfl) trivial List.nodup_nil (fun p hp => (by cases hp)) ?_)
      | (refine SL_nil (fun tm σ hE hH => ⟨_, _, _, _, rfl, hE, hH, ?_⟩); clear hE hH; clear tm σ)
      | refine SD_op _ [] (by rfl) (by rfl) (fun _ h => h) (fun p hp => by cases hp) (fun k hk => by cases hk) (.inl rfl) ?_
      | fail)
    · exact ⟨by rw [decI_small h0 (by omega)]; rfl, rfl⟩
    · exact ⟨by rw [decI_stepB (by omega) h1]; rfl, rfl⟩
theorem decimalB_fn {G : Gl} (ho : ∀ f a, G.orc f [a] = none ∨ f ≠ 67 ∧ f ≠ 28) (n : Int) (h0 : 0 ≤ n) (h1 : n ≤ 100000) : FnC Tryz.prog G 28 [.s (.int .i64 n)] [] (fun v Hn => v = .s (.string (decI n)) ∧ Hn = []) := by
  have h67 : ∀ a, G.orc 67 [a] = none := fun a => (ho 67 a).resolve_right (fun h => h.1 rfl)
  have h28 : ∀ a, G.orc 28 [a] = none := fun a => (ho 28 a).resolve_right (fun h => h.2 rfl)
  have hrec : ∀ i : Int, 0 ≤ i → i ≤ 100000 → i ≤ 100000 → FnC Tryz.prog G 67 [.s (.int .u64 i)] [] (fun v Hn => v = .s (.string (decI i)) ∧ Hn = []) := fun i a b c => digitsB_fn h67 100000 i a b c
  refine Fn_body (N := 13) (h28 _) Tryz.func28 rfl rfl fun B => ?_
  repeat' (first
    | (refine SL_call (by decide) (by rfl) bd67 (by rfl) (by rfl) (hrec _ (by omega) (by omega) (by omega)) trivial List.nodup_nil ?_; rintro _ _ _ ⟨rfl, rfl⟩; rw [List.nil_append])
    | refine SL_conv (by decide) (by rfl) k3_124 (IntWalk.u64_in _ ⟨by omega, by omega⟩) ?_
    | refine SC_seq ?_
    | refine SC_region ?_
    | refine SL_seq ?_
    | refine SL_move (by decide) (by rfl) ?_
    | refine SL_assign (by decide) (by rfl) ?_
    | (refine SL_lss (by decide) (by rfl) (by rfl) (fun hT => ?_) (fun hT => ?_) <;> first | (exfalso; omega) | skip)
    | refine SC_cond_f (by rfl) ?_
    | (refine SC_skip' (fun tm σ hE hH => ?_); refine SC.app ?_ hE hH; clear hE hH; clear tm σ)
    | refine SC_ret (fun tm σ hE hH => Post.intro (Hn := []) (.inr rfl) hE hH (by rfl) trivial List.nodup_nil (fun p hp => (by cases hp)) ?_)
    | fail)
  exact ⟨rfl, rfl⟩
end Go.Proofs.YtnhnlkljcfbhfaaGreatDoor
/- ReportStands, walked. -/
namespace Go.Proofs.YtnhnlkljcfbhfaaGreatDoor.Tb
open Go Go.Ab
set_option maxRecDepth 100000
theorem bd24s : (Tryz.prog.funcs[24]?).map (·.body.isNone) = some false := by rw [Tryz.func24]; rfl
theorem sz32S : (⟨#[32]⟩ : ByteArray).size = 1 := rfl
attribute [local irreducible] SC SL wpc wpl wpd wpf wpy wpn FnC FnW RdW SD SI SJ
set_option maxHeartbeats 4000000
theorem rstands_f {G : Gl} {rs : List (List Sc)} {ra : AV} {xs : List ByteArray} {na ka : AV} (hsk : SlK 1 na (xs.map fun x => [AV.s (.string x)])) (hxb : xs.length ≤ 9223372036854775807) (ho : ∀ x y z, G.orc 24 [x, y, z] = none) (h51 : FnC Tryz.prog G 51 [na, .s (.int .i64 2), .s (.int .i64 200)] [] (fun v Hn => v = .s (.bool true) ∧ Hn = []))
    (h26f : FnC Tryz.prog G 26 [.s (.int .i64 xs.length), ra, ka] [] (fun v Hn => v = .s (.tuple #[.slice none 0 0, .slice none 0 0, .int .i64 2]) ∧ Hn = [])) :
    FnC Tryz.prog G 24 [na, ra, ka] [] (fun v Hn => v = .s (.tuple #[.slice none 0 0, .int .i64 2]) ∧ Hn = []) := by
  have hsl := hsk.v
  refine Fn_body (N := 98) (ho _ _ _) Tryz.func24 rfl rfl fun B => ?_
  repeat' (first
    | refine SL_len_v (by decide) (by rfl) hsl (by rfl) (slF (by rfl)) (List.length_map _) ?_
    | (refine SL_call (by decide) (by rfl) YtnhnlkljcfbhfaaGreatDoor.bd51 (by rfl) (by rfl) (h51) trivial List.nodup_nil ?_; rintro _ _ _ ⟨rfl, rfl⟩; rw [List.nil_append])
    | (refine SL_call (by decide) (by rfl) bd17 (by rfl) (by rfl) (h26f) trivial List.nodup_nil ?_; rintro _ _ _ ⟨rfl, rfl⟩; rw [List.nil_append])
    | refine SC_seq ?_
    | refine SC_region ?_
    | refine SL_seq ?_
    | refine SL_move (by decide) (by rfl) ?_
    | refine SL_assign (by decide) (by rfl) ?_
    | refine SL_not_op (by decide) (by rfl) ?_
    | (refine SL_neq (by decide) (by rfl) (by rfl) (fun hT => ?_) (fun hT => ?_) <;> first | (exfalso; omega) | skip)
    | refine SL_extract_s (by decide) (by rfl) (by rfl) ?_
    | refine SC_cond_t (by rfl) ?_
    | refine SC_cond_f (by rfl) ?_
    | (refine SC_skip' (fun tm σ hE hH => ?_); refine SC.app ?_ hE hH; clear hE hH; clear tm σ)
    | fail)
  all_goals refine SC_ret (fun tm σ hE hH => Post.intro (Hn := []) (.inr rfl) hE hH (by rfl) trivial List.nodup_nil (fun p hp => (by cases hp)) ?_)
  all_goals exact ⟨rfl, rfl⟩
theorem law6_k {G : Gl} {rs : List (List Sc)} {ra : AV} {axs : List AV} (h : RV rs ra axs) {xs : List ByteArray} {na : AV} (hsk : SlK 1 na (xs.map fun x => [AV.s (.string x)])) {ka : AV} {ks : List Int} (hk : SlV 1 ka (ints ks)) (ho : ∀ x y z, G.orc 6 [x, y, z] = none) (hxb : xs.length ≤ 9223372036854775807) (hkb : ks.length ≤ 9223372036854775807) (h8 : FnC Tryz.prog G 8 [] [] (fun v Hn => v = .s (.bool true) ∧ Hn = [])) (h7 : FnC Tryz.prog G 7 [na, .s (.int .i64 12)] [] (fun v Hn => v = .s (.bool (fewS xs 12)) ∧ Hn = []))
    (hkk : fewS xs 12 = false ∨ 10 < rs.length ∨ 8 < ks.length ∨ ∃ gs ∈ rs, 8 < gs.length) : FnC Tryz.prog G 6 [na, ra, ka] [] (fun v Hn => v = .s (.bool true) ∧ Hn = []) := by
  have hil := ints_len ks
  have hsl := hsk.v
  have hra := h.sl
  have hral : (axs.map fun x => [x]).length = rs.length := by rw [List.length_map]; exact h.len
  have hrb := h.big
  cases hfw : fewS xs 12 with
  | false =>
    rw [hfw] at h7
    refine Fn_body (N := 158) (ho _ _ _) Tryz.func6 rfl rfl fun B => ?_
    repeat' (first
      | (refine SL_call (by decide) (by rfl) bd7s (by rfl) (by rfl) (h7) trivial List.nodup_nil ?_; rintro _ _ _ ⟨rfl, rfl⟩; rw [List.nil_append])
      | (refine SL_call (by decide) (by rfl) bd8s (by rfl) (by rfl) (h8) trivial List.nodup_nil ?_; rintro _ _ _ ⟨rfl, rfl⟩; rw [List.nil_append])
      | refine SC_seq ?_
      | refine SC_region ?_
      | refine SL_seq ?_
      | refine SL_not (by rfl) (by rfl) (by rfl) (by decide) ?_
      | refine SL_move (by decide) (by rfl) ?_
      | refine SL_assign (by decide) (by rfl) ?_
      | refine SL_pick_t (by decide) (by rfl) (by rfl) ?_
      | refine SL_not_op (by decide) (by rfl) ?_
      | refine SC_cond_t (by rfl) ?_
      | fail)
    all_goals refine SC_ret (fun tm σ hE hH => Post.intro (Hn := []) (.inr rfl) hE hH (by rfl) trivial List.nodup_nil (fun p hp => (by cases hp)) ?_)
    all_goals exact ⟨rfl, rfl⟩
  | true =>
    rw [hfw] at h7
    by_cases hr : 10 < rs.length
    · refine Fn_body (N := 158) (ho _ _ _) Tryz.func6 rfl rfl fun B => ?_
      repeat' (first
        | refine SL_len_v (by decide) (by rfl) hra (by rfl) (slF (by rfl)) hral ?_
        | (refine SL_call (by decide) (by rfl) bd7s (by rfl) (by rfl) (h7) trivial List.nodup_nil ?_; rintro _ _ _ ⟨rfl, rfl⟩; rw [List.nil_append])
        | (refine SL_call (by decide) (by rfl) bd8s (by rfl) (by rfl) (h8) trivial List.nodup_nil ?_; rintro _ _ _ ⟨rfl, rfl⟩; rw [List.nil_append])
        | refine SC_seq ?_
        | refine SC_region ?_
        | refine SL_seq ?_
        | refine SL_run (by rfl) (by rfl) ?_
        | refine SL_not (by rfl) (by rfl) (by rfl) (by decide) ?_
        | refine SL_move (by decide) (by rfl) ?_
        | refine SL_assign (by decide) (by rfl) ?_
        | refine SL_pick_t (by decide) (by rfl) (by rfl) ?_
        | refine SL_pick_f (by decide) (by rfl) (by rfl) ?_
        | refine SL_not_op (by decide) (by rfl) ?_
        | (refine SL_gtr (by decide) (by rfl) (by rfl) (fun hT => ?_) (fun hT => ?_) <;> first | (exfalso; omega) | skip)
        | refine SC_cond_t (by rfl) ?_
        | fail)
      all_goals refine SC_ret (fun tm σ hE hH => Post.intro (Hn := []) (.inr rfl) hE hH (by rfl) trivial List.nodup_nil (fun p hp => (by cases hp)) ?_)
      all_goals exact ⟨rfl, rfl⟩
    by_cases hk8 : 8 < ks.length
    · refine Fn_body (N := 158) (ho _ _ _) Tryz.func6 rfl rfl fun B => ?_
      repeat' (first
        | refine SL_len_v (by decide) (by rfl) hk (by rfl) (slF (by rfl)) hil ?_
        | refine SL_len_v (by decide) (by rfl) hra (by rfl) (slF (by rfl)) hral ?_
        | (refine SL_call (by decide) (by rfl) bd7s (by rfl) (by rfl) (h7) trivial List.nodup_nil ?_; rintro _ _ _ ⟨rfl, rfl⟩; rw [List.nil_append])
        | (refine SL_call (by decide) (by rfl) bd8s (by rfl) (by rfl) (h8) trivial List.nodup_nil ?_; rintro _ _ _ ⟨rfl, rfl⟩; rw [List.nil_append])
        | refine SC_seq ?_
        | refine SC_region ?_
        | refine SL_seq ?_
        | refine SL_run (by rfl) (by rfl) ?_
        | refine SL_move (by decide) (by rfl) ?_
        | refine SL_assign (by decide) (by rfl) ?_
        | refine SL_pick_f (by decide) (by rfl) (by rfl) ?_
        | refine SL_not_op (by decide) (by rfl) ?_
        | (refine SL_gtr (by decide) (by rfl) (by rfl) (fun hT => ?_) (fun hT => ?_) <;> first | (exfalso; omega) | skip)
        | refine SC_cond_t (by rfl) ?_
        | fail)
      all_goals refine SC_ret (fun tm σ hE hH => Post.intro (Hn := []) (.inr rfl) hE hH (by rfl) trivial List.nodup_nil (fun p hp => (by cases hp)) ?_)
      all_goals exact ⟨rfl, rfl⟩
    have hex : ∃ gs ∈ rs, 8 < gs.length := by
      rcases hkk with e | e | e | e
      · rw [hfw] at e; cases e
      · exact absurd e hr
      · exact absurd e hk8
      · exact e
    refine Fn_body (N := 158) (ho _ _ _) Tryz.func6 rfl rfl fun B => ?_
    repeat' (first
      | refine SL_len_v (by decide) (by rfl) hk (by rfl) (slF (by rfl)) hil ?_
      | refine SL_len_v (by decide) (by rfl) hra (by rfl) (slF (by rfl)) hral ?_
      | (refine SL_call (by decide) (by rfl) bd7s (by rfl) (by rfl) (h7) trivial List.nodup_nil ?_; rintro _ _ _ ⟨rfl, rfl⟩; rw [List.nil_append])
      | refine SC_seq ?_
      | refine SC_block ?_
      | refine SC_region ?_
      | refine SL_seq ?_
      | refine SL_run (by rfl) (by rfl) ?_
      | refine SL_move (by decide) (by rfl) ?_
      | refine SL_assign (by decide) (by rfl) ?_
      | refine SL_pick_f (by decide) (by rfl) (by rfl) ?_
      | refine SL_not_op (by decide) (by rfl) ?_
      | (refine SL_gtr (by decide) (by rfl) (by rfl) (fun hT => ?_) (fun hT => ?_) <;> first | (exfalso; omega) | skip)
      | refine SC_cond_f (by rfl) ?_
      | (refine SC_skip' (fun tm σ hE hH => ?_); refine SC.app ?_ hE hH; clear hE hH; clear tm σ)
      | fail)
    refine SC_loop (fun k : Nat => [(0, na), (1, ra), (2, ka), (7, .s (.int .i64 k))]) (fun _ => []) (fun _ => []) (fun k => k ≤ rs.length ∧ ∀ i (hi : i < rs.length), i < k → rs[i].length ≤ 8) (fun k => rs.length - k) 0 ⟨Nat.zero_le _, fun i hi h => absurd h (Nat.not_lt_zero _)⟩ ⟨rfl, rfl, rfl, rfl, trivial⟩ trivial List.nodup_nil rfl ?_
    rintro k ⟨hkr, hall⟩
    by_cases hlt : k < rs.length
    · obtain ⟨x, hx, hgx⟩ := h.row hlt
      unfold GV at hgx
      have hgb := h.each _ (List.getElem_mem hlt)
      by_cases hg8 : rs[k].length ≤ 8
      ·
        repeat' (first
          | refine SL_load_r (by decide) (by rfl) (rowF (by rfl)) (by first | exact hx | exact hna | exact hka) (by rfl) ?_
          | refine SL_indexAddr_v (by decide) (by rfl) (by rfl) hra (slF (by rfl)) k (by rfl) (by omega) (fun ad => ?_)
          | refine SL_len_v (by decide) (by rfl) hgx (by rfl) (slF (by rfl)) (List.length_map _) ?_
          | refine SL_len_v (by decide) (by rfl) hra (by rfl) (slF (by rfl)) hral ?_
          | refine SC_seq ?_
          | refine SC_block ?_
          | refine SC_region ?_
          | refine SL_seq ?_
          | refine SL_move (by decide) (by rfl) ?_
          | refine SL_assign (by decide) (by rfl) ?_
          | refine SL_add (by decide) (by rfl) (by rfl) (by omega) (by omega) ?_
          | (refine SL_lss (by decide) (by rfl) (by rfl) (fun hT => ?_) (fun hT => ?_) <;> first | (exfalso; omega) | skip)
          | (refine SL_gtr (by decide) (by rfl) (by rfl) (fun hT => ?_) (fun hT => ?_) <;> first | (exfalso; omega) | skip)
          | refine SC_cond_t (by rfl) ?_
          | refine SC_cond_f (by rfl) ?_
          | (refine SC_skip' (fun tm σ hE hH => ?_); refine SC.app ?_ hE hH; clear hE hH; clear tm σ)
          | fail)
        exact SL_nil fun tm σ hE hH => ⟨k + 1, by omega, ⟨by omega, fun i hi hik => by
          by_cases e : i = k
          · subst e; exact hg8
          · exact hall i hi (by omega)⟩, tm, σ, rfl, hE.sub ⟨rfl, rfl, rfl, rfl, trivial⟩, hH⟩
      ·
        repeat' (first
          | refine SL_load_r (by decide) (by rfl) (rowF (by rfl)) (by first | exact hx | exact hna | exact hka) (by rfl) ?_
          | refine SL_indexAddr_v (by decide) (by rfl) (by rfl) hra (slF (by rfl)) k (by rfl) (by omega) (fun ad => ?_)
          | refine SL_len_v (by decide) (by rfl) hgx (by rfl) (slF (by rfl)) (List.length_map _) ?_
          | refine SL_len_v (by decide) (by rfl) hra (by rfl) (slF (by rfl)) hral ?_
          | (refine SL_call (by decide) (by rfl) bd8s (by rfl) (by rfl) (h8) trivial List.nodup_nil ?_; rintro _ _ _ ⟨rfl, rfl⟩; rw [List.nil_append])
          | refine SC_seq ?_
          | refine SC_block ?_
          | refine SC_region ?_
          | refine SL_seq ?_
          | refine SL_move (by decide) (by rfl) ?_
          | refine SL_assign (by decide) (by rfl) ?_
          | (refine SL_lss (by decide) (by rfl) (by rfl) (fun hT => ?_) (fun hT => ?_) <;> first | (exfalso; omega) | skip)
          | (refine SL_gtr (by decide) (by rfl) (by rfl) (fun hT => ?_) (fun hT => ?_) <;> first | (exfalso; omega) | skip)
          | refine SC_cond_t (by rfl) ?_
          | (refine SC_skip' (fun tm σ hE hH => ?_); refine SC.app ?_ hE hH; clear hE hH; clear tm σ)
          | fail)
        all_goals refine SC_ret (fun tm σ hE hH => Post.intro (Hn := []) (.inr rfl) hE hH (by rfl) trivial List.nodup_nil (fun p hp => (by cases hp)) ?_)
        all_goals exact ⟨rfl, rfl⟩
    · obtain ⟨gs, hgs, hg⟩ := hex
      obtain ⟨i, hi, rfl⟩ := List.mem_iff_getElem.1 hgs
      have := hall i hi (by omega)
      omega
theorem law6_np {G : Gl} {rs : List (List Sc)} {ra : AV} {axs : List AV} (h : RV rs ra axs) {xs : List ByteArray} {na : AV} (hsk : SlK 1 na (xs.map fun x => [AV.s (.string x)])) {ka : AV} {ks : List Int} (hk : SlV 1 ka (ints ks)) (ho : ∀ x y z, G.orc 6 [x, y, z] = none) (hxb : xs.length ≤ 9223372036854775807) (hkb : ks.length ≤ 9223372036854775807) (h8 : FnC Tryz.prog G 8 [] [] (fun v Hn => v = .s (.bool true) ∧ Hn = [])) (h7 : FnC Tryz.prog G 7 [na, .s (.int .i64 12)] [] (fun v Hn => v = .s (.bool true) ∧ Hn = [])) (hr : rs.length ≤ 10) (hk8 : ks.length ≤ 8) (h8g : ∀ gs ∈ rs, gs.length ≤ 8)
    (h24f : FnC Tryz.prog G 24 [na, ra, ka] [] (fun v Hn => v = .s (.tuple #[.slice none 0 0, .int .i64 2]) ∧ Hn = [])) (h25 : FnC Tryz.prog G 25 [na, .s (.int .i64 2), .s (.int .i64 200)] [] (fun v Hn => v = .s (.bool false) ∧ Hn = [])) :
    FnC Tryz.prog G 6 [na, ra, ka] [] (fun v Hn => v = .s (.bool true) ∧ Hn = []) := by
  have hil := ints_len ks
  have hsl := hsk.v
  have hra := h.sl
  have hral : (axs.map fun x => [x]).length = rs.length := by rw [List.length_map]; exact h.len
  have hrb := h.big
  refine Fn_body (N := 158) (ho _ _ _) Tryz.func6 rfl rfl fun B => ?_
  repeat' (first
    | refine SL_len_v (by decide) (by rfl) hk (by rfl) (slF (by rfl)) hil ?_
    | refine SL_len_v (by decide) (by rfl) hra (by rfl) (slF (by rfl)) hral ?_
    | (refine SL_call (by decide) (by rfl) bd7s (by rfl) (by rfl) (h7) trivial List.nodup_nil ?_; rintro _ _ _ ⟨rfl, rfl⟩; rw [List.nil_append])
    | refine SC_seq ?_
    | refine SC_block ?_
    | refine SC_region ?_
    | refine SL_seq ?_
    | refine SL_run (by rfl) (by rfl) ?_
    | refine SL_move (by decide) (by rfl) ?_
    | refine SL_assign (by decide) (by rfl) ?_
    | refine SL_pick_f (by decide) (by rfl) (by rfl) ?_
    | refine SL_not_op (by decide) (by rfl) ?_
    | (refine SL_gtr (by decide) (by rfl) (by rfl) (fun hT => ?_) (fun hT => ?_) <;> first | (exfalso; omega) | skip)
    | refine SC_cond_f (by rfl) ?_
    | (refine SC_skip' (fun tm σ hE hH => ?_); refine SC.app ?_ hE hH; clear hE hH; clear tm σ)
    | fail)
  refine SC_loop (fun k : Nat => [(0, na), (1, ra), (2, ka), (7, .s (.int .i64 k))]) (fun _ => []) (fun _ => []) (fun k => k ≤ rs.length) (fun k => rs.length - k) 0 (Nat.zero_le _) ⟨rfl, rfl, rfl, rfl, trivial⟩ trivial List.nodup_nil rfl ?_
  intro k hkr
  by_cases hlt : k < rs.length
  · obtain ⟨x, hx, hgx⟩ := h.row hlt
    unfold GV at hgx
    have hg8 := h8g _ (List.getElem_mem hlt)
    have hgb := h.each _ (List.getElem_mem hlt)
    repeat' (first
      | refine SL_load_r (by decide) (by rfl) (rowF (by rfl)) (by first | exact hx | exact hna | exact hka) (by rfl) ?_
      | refine SL_indexAddr_v (by decide) (by rfl) (by rfl) hra (slF (by rfl)) k (by rfl) (by omega) (fun ad => ?_)
      | refine SL_len_v (by decide) (by rfl) hgx (by rfl) (slF (by rfl)) (List.length_map _) ?_
      | refine SL_len_v (by decide) (by rfl) hra (by rfl) (slF (by rfl)) hral ?_
      | refine SC_seq ?_
      | refine SC_block ?_
      | refine SC_region ?_
      | refine SL_seq ?_
      | refine SL_move (by decide) (by rfl) ?_
      | refine SL_assign (by decide) (by rfl) ?_
      | refine SL_add (by decide) (by rfl) (by rfl) (by omega) (by omega) ?_
      | (refine SL_lss (by decide) (by rfl) (by rfl) (fun hT => ?_) (fun hT => ?_) <;> first | (exfalso; omega) | skip)
      | (refine SL_gtr (by decide) (by rfl) (by rfl) (fun hT => ?_) (fun hT => ?_) <;> first | (exfalso; omega) | skip)
      | refine SC_cond_t (by rfl) ?_
      | refine SC_cond_f (by rfl) ?_
      | (refine SC_skip' (fun tm σ hE hH => ?_); refine SC.app ?_ hE hH; clear hE hH; clear tm σ)
      | fail)
    exact SL_nil fun tm σ hE hH => ⟨k + 1, by omega, by omega, tm, σ, rfl, hE.sub ⟨rfl, rfl, rfl, rfl, trivial⟩, hH⟩
  obtain rfl : k = rs.length := by omega
  repeat' (first
    | refine SL_len_v (by decide) (by rfl) hra (by rfl) (slF (by rfl)) hral ?_
    | (refine SL_call (by decide) (by rfl) YtnhnlkljcfbhfaaGreatDoor.bd25 (by rfl) (by rfl) (h25) trivial List.nodup_nil ?_; rintro _ _ _ ⟨rfl, rfl⟩; rw [List.nil_append])
    | (refine SL_call (by decide) (by rfl) bd24s (by rfl) (by rfl) (h24f) trivial List.nodup_nil ?_; rintro _ _ _ ⟨rfl, rfl⟩; rw [List.nil_append])
    | (refine SL_call (by decide) (by rfl) bd8s (by rfl) (by rfl) (h8) trivial List.nodup_nil ?_; rintro _ _ _ ⟨rfl, rfl⟩; rw [List.nil_append])
    | refine SC_seq ?_
    | refine SC_region ?_
    | refine SL_seq ?_
    | refine SL_run (by rfl) (by rfl) ?_
    | refine SL_move (by decide) (by rfl) ?_
    | refine SL_assign (by decide) (by rfl) ?_
    | refine SL_pick_t (by decide) (by rfl) (by rfl) ?_
    | refine SL_not_op (by decide) (by rfl) ?_
    | (refine SL_lss (by decide) (by rfl) (by rfl) (fun hT => ?_) (fun hT => ?_) <;> first | (exfalso; omega) | skip)
    | (refine SL_eql (by decide) (by rfl) (by rfl) (fun hT => ?_) (fun hT => ?_) <;> first | (exfalso; omega) | skip)
    | refine SL_extract_s (by decide) (by rfl) (by rfl) ?_
    | refine SL_len_0 (by decide) (by rfl) (by rfl) (sliceOf_spec (slF (by rfl))).1 ?_
    | refine SC_cond_t (by rfl) ?_
    | refine SC_cond_f (by rfl) ?_
    | (refine SC_exit (fun tm σ hE hH => ?_); refine SC.app ?_ hE hH; clear hE hH; clear tm σ)
    | fail)
  all_goals refine SC_ret (fun tm σ hE hH => Post.intro (Hn := []) (.inr rfl) hE hH (by rfl) trivial List.nodup_nil (fun p hp => (by cases hp)) ?_)
  all_goals exact ⟨rfl, rfl⟩
theorem law6_f {G : Gl} {rs : List (List Sc)} {ra : AV} {axs : List AV} (h : RV rs ra axs) {xs : List ByteArray} {na : AV} (hsk : SlK 1 na (xs.map fun x => [AV.s (.string x)])) {ka : AV} {ks : List Int} (hk : SlV 1 ka (ints ks)) (ho : ∀ x y z, G.orc 6 [x, y, z] = none) (hxb : xs.length ≤ 9223372036854775807) (hkb : ks.length ≤ 9223372036854775807) (h8 : FnC Tryz.prog G 8 [] [] (fun v Hn => v = .s (.bool true) ∧ Hn = [])) (h7 : FnC Tryz.prog G 7 [na, .s (.int .i64 12)] [] (fun v Hn => v = .s (.bool true) ∧ Hn = [])) (hr : rs.length ≤ 10) (hk8 : ks.length ≤ 8) (h8g : ∀ gs ∈ rs, gs.length ≤ 8)
    (h24f : FnC Tryz.prog G 24 [na, ra, ka] [] (fun v Hn => v = .s (.tuple #[.slice none 0 0, .int .i64 2]) ∧ Hn = [])) (h25 : FnC Tryz.prog G 25 [na, .s (.int .i64 2), .s (.int .i64 200)] [] (fun v Hn => v = .s (.bool true) ∧ Hn = []))
    (h26f : FnC Tryz.prog G 26 [.s (.int .i64 xs.length), ra, ka] [] (fun v Hn => v = .s (.tuple #[.slice none 0 0, .slice none 0 0, .int .i64 2]) ∧ Hn = [])) :
    FnC Tryz.prog G 6 [na, ra, ka] [] (fun v Hn => v = .s (.bool true) ∧ Hn = []) := by
  have hil := ints_len ks
  have hsl := hsk.v
  have hra := h.sl
  have hral : (axs.map fun x => [x]).length = rs.length := by rw [List.length_map]; exact h.len
  have hrb := h.big
  refine Fn_body (N := 158) (ho _ _ _) Tryz.func6 rfl rfl fun B => ?_
  repeat' (first
    | refine SL_len_v (by decide) (by rfl) hk (by rfl) (slF (by rfl)) hil ?_
    | refine SL_len_v (by decide) (by rfl) hra (by rfl) (slF (by rfl)) hral ?_
    | (refine SL_call (by decide) (by rfl) bd7s (by rfl) (by rfl) (h7) trivial List.nodup_nil ?_; rintro _ _ _ ⟨rfl, rfl⟩; rw [List.nil_append])
    | refine SC_seq ?_
    | refine SC_block ?_
    | refine SC_region ?_
    | refine SL_seq ?_
    | refine SL_run (by rfl) (by rfl) ?_
    | refine SL_move (by decide) (by rfl) ?_
    | refine SL_assign (by decide) (by rfl) ?_
    | refine SL_pick_f (by decide) (by rfl) (by rfl) ?_
    | refine SL_not_op (by decide) (by rfl) ?_
    | (refine SL_gtr (by decide) (by rfl) (by rfl) (fun hT => ?_) (fun hT => ?_) <;> first | (exfalso; omega) | skip)
    | refine SC_cond_f (by rfl) ?_
    | (refine SC_skip' (fun tm σ hE hH => ?_); refine SC.app ?_ hE hH; clear hE hH; clear tm σ)
    | fail)
  refine SC_loop (fun k : Nat => [(0, na), (1, ra), (2, ka), (7, .s (.int .i64 k))]) (fun _ => []) (fun _ => []) (fun k => k ≤ rs.length) (fun k => rs.length - k) 0 (Nat.zero_le _) ⟨rfl, rfl, rfl, rfl, trivial⟩ trivial List.nodup_nil rfl ?_
  intro k hkr
  by_cases hlt : k < rs.length
  · obtain ⟨x, hx, hgx⟩ := h.row hlt
    unfold GV at hgx
    have hg8 := h8g _ (List.getElem_mem hlt)
    have hgb := h.each _ (List.getElem_mem hlt)
    repeat' (first
      | refine SL_load_r (by decide) (by rfl) (rowF (by rfl)) (by first | exact hx | exact hna | exact hka) (by rfl) ?_
      | refine SL_indexAddr_v (by decide) (by rfl) (by rfl) hra (slF (by rfl)) k (by rfl) (by omega) (fun ad => ?_)
      | refine SL_len_v (by decide) (by rfl) hgx (by rfl) (slF (by rfl)) (List.length_map _) ?_
      | refine SL_len_v (by decide) (by rfl) hra (by rfl) (slF (by rfl)) hral ?_
      | refine SC_seq ?_
      | refine SC_block ?_
      | refine SC_region ?_
      | refine SL_seq ?_
      | refine SL_move (by decide) (by rfl) ?_
      | refine SL_assign (by decide) (by rfl) ?_
      | refine SL_add (by decide) (by rfl) (by rfl) (by omega) (by omega) ?_
      | (refine SL_lss (by decide) (by rfl) (by rfl) (fun hT => ?_) (fun hT => ?_) <;> first | (exfalso; omega) | skip)
      | (refine SL_gtr (by decide) (by rfl) (by rfl) (fun hT => ?_) (fun hT => ?_) <;> first | (exfalso; omega) | skip)
      | refine SC_cond_t (by rfl) ?_
      | refine SC_cond_f (by rfl) ?_
      | (refine SC_skip' (fun tm σ hE hH => ?_); refine SC.app ?_ hE hH; clear hE hH; clear tm σ)
      | fail)
    exact SL_nil fun tm σ hE hH => ⟨k + 1, by omega, by omega, tm, σ, rfl, hE.sub ⟨rfl, rfl, rfl, rfl, trivial⟩, hH⟩
  obtain rfl : k = rs.length := by omega
  repeat' (first
    | refine SL_len_v (by decide) (by rfl) hsl (by rfl) (slF (by rfl)) (List.length_map _) ?_
    | refine SL_len_v (by decide) (by rfl) hra (by rfl) (slF (by rfl)) hral ?_
    | (refine SL_call (by decide) (by rfl) bd17 (by rfl) (by rfl) (h26f) trivial List.nodup_nil ?_; rintro _ _ _ ⟨rfl, rfl⟩; rw [List.nil_append])
    | (refine SL_call (by decide) (by rfl) YtnhnlkljcfbhfaaGreatDoor.bd25 (by rfl) (by rfl) (h25) trivial List.nodup_nil ?_; rintro _ _ _ ⟨rfl, rfl⟩; rw [List.nil_append])
    | (refine SL_call (by decide) (by rfl) bd24s (by rfl) (by rfl) (h24f) trivial List.nodup_nil ?_; rintro _ _ _ ⟨rfl, rfl⟩; rw [List.nil_append])
    | (refine SL_call (by decide) (by rfl) bd8s (by rfl) (by rfl) (h8) trivial List.nodup_nil ?_; rintro _ _ _ ⟨rfl, rfl⟩; rw [List.nil_append])
    | refine SC_seq ?_
    | refine SC_region ?_
    | refine SL_seq ?_
    | refine SL_run (by rfl) (by rfl) ?_
    | refine SL_move (by decide) (by rfl) ?_
    | refine SL_assign (by decide) (by rfl) ?_
    | refine SL_pick_t (by decide) (by rfl) (by rfl) ?_
    | refine SL_not_op (by decide) (by rfl) ?_
    | (refine SL_lss (by decide) (by rfl) (by rfl) (fun hT => ?_) (fun hT => ?_) <;> first | (exfalso; omega) | skip)
    | (refine SL_eql (by decide) (by rfl) (by rfl) (fun hT => ?_) (fun hT => ?_) <;> first | (exfalso; omega) | skip)
    | (refine SL_neq (by decide) (by rfl) (by rfl) (fun hT => ?_) (fun hT => ?_) <;> first | (exfalso; omega) | skip)
    | refine SL_extract_s (by decide) (by rfl) (by rfl) ?_
    | refine SL_len_0 (by decide) (by rfl) (by rfl) (sliceOf_spec (slF (by rfl))).1 ?_
    | refine SC_cond_t (by rfl) ?_
    | refine SC_cond_f (by rfl) ?_
    | (refine SC_exit (fun tm σ hE hH => ?_); refine SC.app ?_ hE hH; clear hE hH; clear tm σ)
    | (refine SC_skip' (fun tm σ hE hH => ?_); refine SC.app ?_ hE hH; clear hE hH; clear tm σ)
    | fail)
  all_goals refine SC_ret (fun tm σ hE hH => Post.intro (Hn := []) (.inr rfl) hE hH (by rfl) trivial List.nodup_nil (fun p hp => (by cases hp)) ?_)
  all_goals exact ⟨rfl, rfl⟩
end Go.Proofs.YtnhnlkljcfbhfaaGreatDoor.Tb
/- ReportStands, walked: standings that are. -/
namespace Go.Proofs.YtnhnlkljcfbhfaaGreatDoor.Tb
open Go Go.Ab
set_option maxRecDepth 100000
attribute [local irreducible] SC SL wpc wpl wpd wpf wpy wpn FnC FnW RdW SD SI SJ
set_option maxHeartbeats 4000000
theorem law6_t {G : Gl} {rs : List (List Sc)} {ra : AV} {axs : List AV} (h : RV rs ra axs) {xs : List ByteArray} {na : AV} (hsk : SlK 1 na (xs.map fun x => [AV.s (.string x)])) {ka : AV} {ks : List Int} (hk : SlV 1 ka (ints ks)) (ho : ∀ x y z, G.orc 6 [x, y, z] = none) (hxb : xs.length ≤ 9223372036854775807) (hkb : ks.length ≤ 9223372036854775807) (h8 : FnC Tryz.prog G 8 [] [] (fun v Hn => v = .s (.bool true) ∧ Hn = [])) (h7 : FnC Tryz.prog G 7 [na, .s (.int .i64 12)] [] (fun v Hn => v = .s (.bool true) ∧ Hn = [])) (hr : rs.length ≤ 10) (hk8 : ks.length ≤ 8) (h8g : ∀ gs ∈ rs, gs.length ≤ 8) (h2 : 2 ≤ xs.length) (h24 : xs.length ≤ 24) (hxz : ∀ x ∈ xs, x.size ≤ 100) (hF : ∀ i : Nat, i < xs.length → 0 ≤ sumT rs i ∧ sumT rs i ≤ 1000) (hKV : ∀ i : Nat, i < xs.length → ∀ j, j < ks.length → 0 ≤ kval rs i (ks.getD j 0) ∧ kval rs i (ks.getD j 0) ≤ 20000)
    (h24t : FnC Tryz.prog G 24 [na, ra, ka] [] (fun v Hn => ∃ id ord pls, Stood rs ks xs.length ord pls ∧ v = .tup [.sl id 0 xs.length none, .s (.int .i64 0)] ∧ Hn = [(id, .cells 9 1 false (strs (linesS rs ks xs ord pls xs.length)))])) (h25 : FnC Tryz.prog G 25 [na, .s (.int .i64 2), .s (.int .i64 200)] [] (fun v Hn => v = .s (.bool true) ∧ Hn = []))
    (h26 : FnC Tryz.prog G 26 [.s (.int .i64 xs.length), ra, ka] [] (fun v Hn => ∃ oid pid ord pls, v = .tup [.sl oid 0 xs.length none, .sl pid 0 xs.length none, .s (.int .i64 0)] ∧ Hn = [(oid, .cells 3 1 false (ints ord)), (pid, .cells 3 1 true (ints pls))] ∧ Stood rs ks xs.length ord pls))
    (h27 : FnC Tryz.prog G 27 [.s (.int .i64 xs.length), ra] [] (fun v Hn => ∃ id, v = .sl id 0 xs.length none ∧ Hn = [(id, .cells 3 1 true (tab xs.length (fun x => sumT rs x)))]))
    (h16A : ∀ n : Int, 0 ≤ n → n ≤ 1000 → FnC Tryz.prog G 16 [.s (.int .i64 n)] [] (fun v Hn => v = .s (.tuple #[.string (ptS n), .bool true]) ∧ Hn = []))
    (h28A : ∀ n : Int, 0 ≤ n → n ≤ 100000 → FnC Tryz.prog G 28 [.s (.int .i64 n)] [] (fun v Hn => v = .s (.string (decI n)) ∧ Hn = []))
    (h29A : ∀ sc i : Nat, i < xs.length → ∀ j, j < ks.length → FnC Tryz.prog G 29 [.sl sc 0 xs.length none, ra, .s (.int .i64 (ks.getD j 0)), .s (.int .i64 i)] [(sc, .cells 3 1 true (tab xs.length (fun x => sumT rs x)))] (fun v Hn => v = .s (.int .i64 (kval rs i (ks.getD j 0))) ∧ Hn = []))
    (h11A : ∀ (ls : List ByteArray) (a b : Nat), ls.length = xs.length → a ≠ b → FnC Tryz.prog G 11 [.sl a 0 xs.length none, .sl b 0 xs.length none] [(a, .cells 9 1 false (strs ls)), (b, .cells 9 1 false (strs ls))] (fun v Hn => v = .s (.bool true) ∧ Hn = [])) :
    FnC Tryz.prog G 6 [na, ra, ka] [] (fun v Hn => v = .s (.bool true) ∧ Hn = []) := by
  have hil := ints_len ks
  have hsl := hsk.v
  have hra := h.sl
  have hral : (axs.map fun x => [x]).length = rs.length := by rw [List.length_map]; exact h.len
  have hrb := h.big
  obtain ⟨nad, ncap, rfl⟩ : ∃ ad cap, na = .rsl ad 1 cap (xs.map fun x => [AV.s (.string x)]) := by
    generalize hrw : (xs.map fun x => [AV.s (.string x)]) = rows at hsk
    cases hsk with
    | nil => have := congrArg List.length hrw; simp at this; subst this; simp at h2
    | rsl hp => exact ⟨_, _, rfl⟩
  refine Fn_body (N := 158) (ho _ _ _) Tryz.func6 rfl rfl fun B => ?_
  repeat' (first
    | refine SL_len_v (by decide) (by rfl) hk (by rfl) (slF (by rfl)) hil ?_
    | refine SL_len_v (by decide) (by rfl) hra (by rfl) (slF (by rfl)) hral ?_
    | (refine SL_call (by decide) (by rfl) bd7s (by rfl) (by rfl) (h7) trivial List.nodup_nil ?_; rintro _ _ _ ⟨rfl, rfl⟩; rw [List.nil_append])
    | refine SC_seq ?_
    | refine SC_block ?_
    | refine SC_region ?_
    | refine SL_seq ?_
    | refine SL_run (by rfl) (by rfl) ?_
    | refine SL_move (by decide) (by rfl) ?_
    | refine SL_assign (by decide) (by rfl) ?_
    | refine SL_pick_f (by decide) (by rfl) (by rfl) ?_
    | refine SL_not_op (by decide) (by rfl) ?_
    | (refine SL_gtr (by decide) (by rfl) (by rfl) (fun hT => ?_) (fun hT => ?_) <;> first | (exfalso; omega) | skip)
    | refine SC_cond_f (by rfl) ?_
    | (refine SC_skip' (fun tm σ hE hH => ?_); refine SC.app ?_ hE hH; clear hE hH; clear tm σ)
    | fail)
  refine SC_loop (fun k : Nat => [(0, .rsl nad 1 ncap (xs.map fun x => [AV.s (.string x)])), (1, ra), (2, ka), (7, .s (.int .i64 k))]) (fun _ => []) (fun _ => []) (fun k => k ≤ rs.length) (fun k => rs.length - k) 0 (Nat.zero_le _) ⟨rfl, rfl, rfl, rfl, trivial⟩ trivial List.nodup_nil rfl ?_
  intro k hkr
  by_cases hlt : k < rs.length
  · obtain ⟨x, hx, hgx⟩ := h.row hlt
    unfold GV at hgx
    have hg8 := h8g _ (List.getElem_mem hlt)
    have hgb := h.each _ (List.getElem_mem hlt)
    repeat' (first
      | refine SL_load_r (by decide) (by rfl) (rowF (by rfl)) (by first | exact hx | exact hna | exact hka) (by rfl) ?_
      | refine SL_indexAddr_v (by decide) (by rfl) (by rfl) hra (slF (by rfl)) k (by rfl) (by omega) (fun ad => ?_)
      | refine SL_len_v (by decide) (by rfl) hgx (by rfl) (slF (by rfl)) (List.length_map _) ?_
      | refine SL_len_v (by decide) (by rfl) hra (by rfl) (slF (by rfl)) hral ?_
      | refine SC_seq ?_
      | refine SC_block ?_
      | refine SC_region ?_
      | refine SL_seq ?_
      | refine SL_move (by decide) (by rfl) ?_
      | refine SL_assign (by decide) (by rfl) ?_
      | refine SL_add (by decide) (by rfl) (by rfl) (by omega) (by omega) ?_
      | (refine SL_lss (by decide) (by rfl) (by rfl) (fun hT => ?_) (fun hT => ?_) <;> first | (exfalso; omega) | skip)
      | (refine SL_gtr (by decide) (by rfl) (by rfl) (fun hT => ?_) (fun hT => ?_) <;> first | (exfalso; omega) | skip)
      | refine SC_cond_t (by rfl) ?_
      | refine SC_cond_f (by rfl) ?_
      | (refine SC_skip' (fun tm σ hE hH => ?_); refine SC.app ?_ hE hH; clear hE hH; clear tm σ)
      | fail)
    exact SL_nil fun tm σ hE hH => ⟨k + 1, by omega, by omega, tm, σ, rfl, hE.sub ⟨rfl, rfl, rfl, rfl, trivial⟩, hH⟩
  obtain rfl : k = rs.length := by omega
  repeat' (first
    | refine SL_len_v (by decide) (by rfl) hsl (by rfl) (slF (by rfl)) (List.length_map _) ?_
    | refine SL_len_v (by decide) (by rfl) hra (by rfl) (slF (by rfl)) hral ?_
    | (refine SL_call (by decide) (by rfl) bd14 (by rfl) (by rfl) h27 trivial List.nodup_nil ?_; rintro _ _ hB27 ⟨sid, rfl, rfl⟩; simp only [List.cons_append, List.nil_append])
    | (refine SL_call (by decide) (by rfl) bd17 (by rfl) (by rfl) h26 trivial List.nodup_nil ?_; rintro _ _ hB26 ⟨oid, pid, ord2, pls2, rfl, rfl, hst2⟩; obtain ⟨rfl, rfl⟩ := hst.one hst2; simp only [List.cons_append, List.nil_append])
    | (refine SL_call (by decide) (by rfl) bd24s (by rfl) (by rfl) h24t trivial List.nodup_nil ?_; rintro _ _ hB24 ⟨lid, ord, pls, hst, rfl, rfl⟩; simp only [List.cons_append, List.nil_append])
    | (refine SL_call (by decide) (by rfl) YtnhnlkljcfbhfaaGreatDoor.bd25 (by rfl) (by rfl) (h25) trivial List.nodup_nil ?_; rintro _ _ _ ⟨rfl, rfl⟩; rw [List.nil_append])
    | refine SC_seq ?_
    | refine SC_block ?_
    | refine SC_region ?_
    | refine SL_seq ?_
    | refine SL_move (by decide) (by rfl) ?_
    | refine SL_assign (by decide) (by rfl) ?_
    | refine SL_not_op (by decide) (by rfl) ?_
    | (refine SL_lss (by decide) (by rfl) (by rfl) (fun hT => ?_) (fun hT => ?_) <;> first | (exfalso; omega) | skip)
    | (refine SL_neq (by decide) (by rfl) (by rfl) (fun hT => ?_) (fun hT => ?_) <;> first | (exfalso; omega) | skip)
    | refine SL_extract_tup (by decide) (by rfl) (by rfl) ?_
    | refine SC_cond_f (by rfl) ?_
    | (refine SC_exit (fun tm σ hE hH => ?_); refine SC.app ?_ hE hH; clear hE hH; clear tm σ)
    | (refine SC_skip' (fun tm σ hE hH => ?_); refine SC.app ?_ hE hH; clear hE hH; clear tm σ)
    | fail)
  have hol := hst.len
  have hpl := hst.plen
  have hilo := ints_len ord
  have hilp := ints_len pls
  have htl := tab_len xs.length (fun x => sumT rs x)
  have h11 := h11A (linesS rs ks xs ord pls xs.length)
  refine SC_nd fun hnd0 => ?_
  refine SC_loop (fun u : Nat × Option Nat => [(0, .rsl nad 1 ncap (xs.map fun x => [AV.s (.string x)])), (1, ra), (2, ka), (8, .sl lid 0 xs.length none), (9, .s (.int .i64 0)), (10, .sl oid 0 xs.length none), (11, .sl pid 0 xs.length none), (13, .sl sid 0 xs.length none), (14, outVS u.1 u.2), (15, .s (.int .i64 u.1))])
    (fun u => (sid, .cells 3 1 true (tab xs.length (fun x => sumT rs x))) :: (oid, .cells 3 1 false (ints ord)) :: (pid, .cells 3 1 true (ints pls)) :: (lid, .cells 9 1 false (strs (linesS rs ks xs ord pls xs.length))) :: outHS (linesS rs ks xs ord pls u.1) u.2) (fun _ => [])
    (fun u => u.1 ≤ xs.length ∧ (u.2 = none → u.1 = 0) ∧ ∀ o, u.2 = some o → B.next ≤ o) (fun u => xs.length - u.1) (0, none)
    ⟨Nat.zero_le _, fun _ => rfl, fun o h => (by cases h)⟩ ⟨rfl, rfl, rfl, rfl, rfl, rfl, rfl, rfl, rfl, rfl, trivial⟩ (.refl _) hnd0 rfl ?_
  rintro ⟨a, od⟩ ⟨ha, ho0, hoo⟩
  dsimp only at ha ho0 hoo ⊢
  by_cases halt : a < xs.length
  · obtain ⟨i, hi, hoi⟩ := hst.mem halt
    have hoa : (ints ord)[a]? = some [AV.s (.int .i64 (i : Int))] := by rw [ints_getD _ (by omega), hoi]
    have hpa : (ints pls)[i]? = some [AV.s (.int .i64 (pls.getD i 0))] := ints_getD _ (by omega)
    have hsa : (tab xs.length (fun x => sumT rs x))[i]? = some [AV.s (.int .i64 (sumT rs i))] := tab_get _ _ hi
    have hna : (xs.map fun x => [AV.s (.string x)])[i]? = some [AV.s (.string (xs.getD i ⟨#[]⟩))] := by rw [List.getElem?_map, List.getElem?_eq_getElem hi]; simp [hi]
    have hsz := hF i hi
    have hpb : 1 ≤ pls.getD i 0 ∧ pls.getD i 0 ≤ a + 1 := by
      have h1 := hst.at_ a halt
      rw [hoi, Int.toNat_natCast] at h1
      rw [h1]; exact plOf_bd _ _ a
    have hxi : (xs.getD i ⟨#[]⟩).size ≤ 100 := by
      rw [show xs.getD i ⟨#[]⟩ = xs[i] by simp [hi]]
      exact hxz _ (List.getElem_mem hi)
    have h16 := h16A _ hsz.1 hsz.2
    have h28p := h28A (pls.getD i 0) (by omega) (by omega)
    have hs1 := decI_30 (pls.getD i 0)
    have hs3 := ptS_32 hsz.1 (by omega)
    repeat' (first
      | (refine SL_nil (fun tm σ hE hH => ⟨tm, σ, _, _, rfl, hE, hH, ?_⟩); clear hE hH; clear tm σ)
      | (refine SJ_nil (fun tm σ hE hH => ?_); refine SC.app ?_ hE hH; clear hE hH; clear tm σ)
      | (refine SJ_turn (i := 4) [] (fun j hj => by cases hj) (fun j hj => by cases hj) hbB (by rfl) (by rfl) (by rfl) (fun k hk => by simp at hk; rcases hk with rfl | rfl <;> exact ⟨oid, by simp, by simp, hoidb⟩) ?_)
      | (refine SJ_lookN (i := 9) oid (by rfl) (by rfl) (by rfl) (by rfl) (by rfl) (by rfl) ?_)
      | (refine SJ_lookN (i := 8) oid (by rfl) (by rfl) (by rfl) (by rfl) (by rfl) (by rfl) ?_)
      | (refine SJ_op (by rfl) (by rfl) (by rfl) ?_)
      | (refine SC_drawP (id := 21) [(0, []), (1, []), (2, []), (3, []), (6, []), (7, []), (8, []), (9, []), (12, []), (4, [9, 8]), (5, []), (10, []), (11, []), (13, []), (14, [])] (by kernel_rfl) (fun B2 base hBB hold hbB => ?_); have hoidb : oid < base := hold (oid, _) (.tail _ (.head _)))
      | refine SL_cat (by decide) (by rfl) (by rfl) (by simp only [ByteArray.size_append, sz32S]; omega) ?_
      | refine SL_indexAddr_0 (by decide) (by rfl) (by rfl) (by repeat (first | exact .head _ | refine .tail _ ?_)) (slF (by rfl)) _ (by rfl) (by omega) ?_
      | refine SL_load_r (by decide) (by rfl) (rowF (by rfl)) (by first | exact hx | exact hna | exact hka) (by rfl) ?_
      | refine SL_load_o (by decide) (by rfl) (by repeat (first | exact .head _ | refine .tail _ ?_)) (rowF (by rfl)) (by first | exact hoa | exact hpa | exact hsa) (by rfl) ?_
      | refine SL_indexAddr_v (by decide) (by rfl) (by rfl) hsl (slF (by rfl)) i (by rfl) (by simp only [List.length_map]; omega) (fun ad => ?_)
      | (refine SL_call (by decide) (by rfl) YtnhnlkljcfbhfaaGreatDoor.bd28 (by rfl) (by rfl) h28p trivial List.nodup_nil ?_; rintro _ _ _ ⟨rfl, rfl⟩; rw [List.nil_append])
      | (refine SL_call (by decide) (by rfl) YtnhnlkljcfbhfaaGreatDoor.bd16 (by rfl) (by rfl) h16 trivial List.nodup_nil ?_; rintro _ _ _ ⟨rfl, rfl⟩; rw [List.nil_append])
      | refine SC_seq ?_
      | refine SC_block ?_
      | refine SC_region ?_
      | refine SL_seq ?_
      | refine SL_move (by decide) (by rfl) ?_
      | refine SL_assign (by decide) (by rfl) ?_
      | (refine SL_lss (by decide) (by rfl) (by rfl) (fun hT => ?_) (fun hT => ?_) <;> first | (exfalso; omega) | skip)
      | refine SL_extract_s (by decide) (by rfl) (by rfl) ?_
      | refine SL_len_sl (by decide) (by rfl) (by rfl) (sliceOf_spec (slF (by rfl))).1 ?_
      | refine SC_cond_t (by rfl) ?_
      | (refine SC_skip' (fun tm σ hE hH => ?_); refine SC.app ?_ hE hH; clear hE hH; clear tm σ)
      | fail)
    rw [show decI (pls.getD i 0) ++ (⟨#[32]⟩ : ByteArray) ++ xs.getD i ⟨#[]⟩ ++ (⟨#[32]⟩ : ByteArray) ++ ptS (sumT rs i) = lineW rs ks xs i (pls.getD i 0) 0 from (lineW_0 rs ks xs i _).symm]
    refine SC_nd fun hnd1 => ?_
    refine SC_loop (fun j : Nat => [(0, .rsl nad 1 ncap (xs.map fun x => [AV.s (.string x)])), (1, ra), (2, ka), (8, .sl lid 0 xs.length none), (9, .s (.int .i64 0)), (10, .sl oid 0 xs.length none), (11, .sl pid 0 xs.length none), (13, .sl sid 0 xs.length none), (14, outVS a od), (15, .s (.int .i64 a)), (16, .s (.int .i64 (i : Int))), (19, .s (.string (lineW rs ks xs i (pls.getD i 0) j))), (20, .s (.int .i64 j))])
      (fun _ => (sid, .cells 3 1 true (tab xs.length (fun x => sumT rs x))) :: (oid, .cells 3 1 false (ints ord)) :: (pid, .cells 3 1 true (ints pls)) :: (lid, .cells 9 1 false (strs (linesS rs ks xs ord pls xs.length))) :: outHS (linesS rs ks xs ord pls a) od) (fun _ => [])
      (fun j => j ≤ ks.length) (fun j => ks.length - j) 0 (Nat.zero_le _) ⟨rfl, rfl, rfl, rfl, rfl, rfl, rfl, rfl, rfl, rfl, rfl, rfl, rfl, trivial⟩ (.refl _) hnd1 rfl ?_
    clear hnd1
    intro j hj
    have hls := lineW_size (ks := ks) (pl := pls.getD i 0) hxi hsz hj
    by_cases hjlt : j < ks.length
    · have hka : (ints ks)[j]? = some [AV.s (.int .i64 (ks.getD j 0))] := ints_getD _ hjlt
      have h29 := h29A sid i hi j hjlt
      have hkv := hKV i hi j hjlt
      have h28v := h28A _ hkv.1 (by omega)
      have hs4 := decI_30 (kval rs i (ks.getD j 0))
      repeat' (first
        | refine SL_cat (by decide) (by rfl) (by rfl) (by simp only [ByteArray.size_append, sz32S]; omega) ?_
        | refine SL_load_r (by decide) (by rfl) (rowF (by rfl)) (by first | exact hx | exact hna | exact hka) (by rfl) ?_
        | refine SL_indexAddr_v (by decide) (by rfl) (by rfl) hk (slF (by rfl)) j (by rfl) (by omega) (fun ad => ?_)
        | refine SL_len_v (by decide) (by rfl) hk (by rfl) (slF (by rfl)) hil ?_
        | (refine SL_call (by decide) (by rfl) bd16 (by rfl) (by rfl) h29 ⟨.head _, trivial⟩ (by simp) ?_; rintro _ _ _ ⟨rfl, rfl⟩; rw [List.nil_append])
        | (refine SL_call (by decide) (by rfl) YtnhnlkljcfbhfaaGreatDoor.bd28 (by rfl) (by rfl) h28v trivial List.nodup_nil ?_; rintro _ _ _ ⟨rfl, rfl⟩; rw [List.nil_append])
        | refine SC_seq ?_
        | refine SC_block ?_
        | refine SC_region ?_
        | refine SL_seq ?_
        | (refine SL_nil (fun tm σ hE hH => ?_); refine SC.app ?_ hE hH; clear hE hH; clear tm σ)
        | refine SL_move (by decide) (by rfl) ?_
        | refine SL_assign (by decide) (by rfl) ?_
        | refine SL_add (by decide) (by rfl) (by rfl) (by omega) (by omega) ?_
        | (refine SL_lss (by decide) (by rfl) (by rfl) (fun hT => ?_) (fun hT => ?_) <;> first | (exfalso; omega) | skip)
        | refine SC_cond_t (by rfl) ?_
        | (refine SC_skip' (fun tm σ hE hH => ?_); refine SC.app ?_ hE hH; clear hE hH; clear tm σ)
        | fail)
      rw [show lineW rs ks xs i (pls.getD i 0) j ++ (⟨#[32]⟩ : ByteArray) ++ decI (kval rs i (ks.getD j 0)) = lineW rs ks xs i (pls.getD i 0) (j + 1) from (lineW_next xs i _ hjlt).symm]
      exact SL_nil fun tm σ hE hH => ⟨j + 1, by omega, by omega, tm, σ, rfl, hE.sub ⟨rfl, rfl, rfl, rfl, rfl, rfl, rfl, rfl, rfl, rfl, rfl, rfl, rfl, trivial⟩, hH⟩
    · obtain rfl : j = ks.length := by omega
      have hln : linesS rs ks xs ord pls (a + 1) = linesS rs ks xs ord pls a ++ [lineW rs ks xs i (pls.getD i 0) ks.length] := by
        rw [linesS_next (by omega), hoi, Int.toNat_natCast]
      cases od with
      | none =>
        obtain rfl : a = 0 := ho0 rfl
        dsimp only [outVS, outHS, List.nil_append]
        repeat' (first
          | refine SL_len_v (by decide) (by rfl) hk (by rfl) (slF (by rfl)) hil ?_
          | refine SC_seq ?_
          | refine SC_region ?_
          | refine SL_seq ?_
          | (refine SL_nil (fun tm σ hE hH => ?_); refine SC.app ?_ hE hH; clear hE hH; clear tm σ)
          | refine SL_move (by decide) (by rfl) ?_
          | refine SL_assign (by decide) (by rfl) ?_
          | refine SL_add (by decide) (by rfl) (by rfl) (by omega) (by omega) ?_
          | (refine SL_lss (by decide) (by rfl) (by rfl) (fun hT => ?_) (fun hT => ?_) <;> first | (exfalso; omega) | skip)
          | refine SL_build1 (by decide) (by rfl) (elF (by rfl)) (by rfl) (by rfl) (fun id hid => ?_)
          | refine SL_append1_nil (by decide) (by rfl) (by rfl) (by repeat (first | exact .head _ | refine .tail _ ?_)) (elF (by rfl)) (sliceOf_spec (slF (by rfl))).1 (by rfl) (by decide) (fun id hid => ?_)
          | refine SC_cond_f (by rfl) ?_
          | (refine SC_exit (fun tm σ hE hH => ?_); refine SC.app ?_ hE hH; clear hE hH; clear tm σ)
          | fail)
        refine SL_nil fun tm σ hE hH => ⟨(0 + 1, some id), by show xs.length - (0 + 1) < xs.length - 0; omega, ⟨by show 0 + 1 ≤ xs.length; omega, fun h => (by cases h), fun o h => (by cases h; assumption)⟩, tm, σ, rfl, hE.sub ⟨rfl, rfl, rfl, rfl, rfl, rfl, rfl, rfl, rfl, rfl, trivial⟩, ?_⟩
        dsimp only [outHS]
        rw [hln, linesS_0]
        exact (hH.subl (H' := (id, _) :: (sid, _) :: (oid, _) :: (pid, _) :: (lid, _) :: []) (.cons_cons _ (.cons _ (.refl _)))).perm (List.perm_append_comm (l₁ := [(id, _)]) (l₂ := [(sid, _), (oid, _), (pid, _), (lid, _)]))
      | some o =>
        have hoB := hoo o rfl
        have hll : a = (strs (linesS rs ks xs ord pls a)).length := by rw [strs_lenS, linesS_len rs ks xs ord pls (by omega)]
        dsimp only [outVS, outHS, List.cons_append, List.nil_append]
        repeat' (first
          | refine SL_append1_own (by decide) (by rfl) (by rfl) (.tail (.tail (.tail (.tail (.tail .head))))) hll (.inl hoB) (by repeat (first | exact .head _ | refine .tail _ ?_)) (elF (by rfl)) (sliceOf_spec (slF (by rfl))).1 (by rfl) (by omega) (by omega) (fun id hid => ?_)
          | refine SL_len_v (by decide) (by rfl) hk (by rfl) (slF (by rfl)) hil ?_
          | refine SC_seq ?_
          | refine SC_region ?_
          | refine SL_seq ?_
          | (refine SL_nil (fun tm σ hE hH => ?_); refine SC.app ?_ hE hH; clear hE hH; clear tm σ)
          | refine SL_move (by decide) (by rfl) ?_
          | refine SL_assign (by decide) (by rfl) ?_
          | refine SL_add (by decide) (by rfl) (by rfl) (by omega) (by omega) ?_
          | (refine SL_lss (by decide) (by rfl) (by rfl) (fun hT => ?_) (fun hT => ?_) <;> first | (exfalso; omega) | skip)
          | refine SL_build1 (by decide) (by rfl) (elF (by rfl)) (by rfl) (by rfl) (fun id hid => ?_)
          | refine SC_cond_f (by rfl) ?_
          | (refine SC_exit (fun tm σ hE hH => ?_); refine SC.app ?_ hE hH; clear hE hH; clear tm σ)
          | fail)
        refine SL_nil fun tm σ hE hH => ⟨(a + 1, some id), by show xs.length - (a + 1) < xs.length - a; omega, ⟨by show a + 1 ≤ xs.length; omega, fun h => (by cases h), fun o h => (by cases h; assumption)⟩, tm, σ, rfl, hE.sub ⟨rfl, rfl, rfl, rfl, rfl, rfl, rfl, rfl, rfl, rfl, trivial⟩, ?_⟩
        dsimp only [outHS]
        rw [hln, ← strs_snoc]
        exact (hH.subl (H' := (id, _) :: (sid, _) :: (oid, _) :: (pid, _) :: (lid, _) :: []) (.cons_cons _ (.cons _ (.cons_cons _ (.cons_cons _ (.cons_cons _ (.cons_cons _ (.cons _ .slnil)))))))).perm (List.perm_append_comm (l₁ := [(id, _)]) (l₂ := [(sid, _), (oid, _), (pid, _), (lid, _)]))
  · obtain rfl : a = xs.length := by omega
    cases od with
    | none => have := ho0 rfl; omega
    | some o =>
      have hoB := hoo o rfl
      replace h11 := fun a b => h11 a b (linesS_len rs ks xs ord pls (by omega))
      dsimp only [outVS, outHS, List.cons_append, List.nil_append]
      repeat' (first
        | (refine SL_nd fun hnd' => ?_; refine SL_call (by decide) (by rfl) bd11s (by rfl) (by rfl) (h11 _ _ (by intro e; subst e; simp at hnd')) ⟨.tail _ (.tail _ (.tail _ (.head _))), .tail _ (.tail _ (.tail _ (.tail _ (.head _)))), trivial⟩ (by simp; intro e; subst e; simp at hnd') ?_; rintro _ _ _ ⟨rfl, rfl⟩; rw [List.nil_append])
        | (refine SL_call (by decide) (by rfl) bd8s (by rfl) (by rfl) (h8) trivial List.nodup_nil ?_; rintro _ _ _ ⟨rfl, rfl⟩; rw [List.nil_append])
        | refine SC_seq ?_
        | refine SC_region ?_
        | refine SL_seq ?_
        | refine SL_run (by rfl) (by rfl) ?_
        | refine SL_move (by decide) (by rfl) ?_
        | refine SL_assign (by decide) (by rfl) ?_
        | refine SL_pick_t (by decide) (by rfl) (by rfl) ?_
        | (refine SL_lss (by decide) (by rfl) (by rfl) (fun hT => ?_) (fun hT => ?_) <;> first | (exfalso; omega) | skip)
        | (refine SL_eql (by decide) (by rfl) (by rfl) (fun hT => ?_) (fun hT => ?_) <;> first | (exfalso; omega) | skip)
        | refine SL_len_sl (by decide) (by rfl) (by rfl) (sliceOf_spec (slF (by rfl))).1 ?_
        | refine SC_cond_f (by rfl) ?_
        | (refine SC_exit (fun tm σ hE hH => ?_); refine SC.app ?_ hE hH; clear hE hH; clear tm σ)
        | fail)
      refine SC_ret (fun tm σ hE hH => Post.intro (Hn := []) (.inr rfl) hE hH (by rfl) trivial List.nodup_nil (fun p hp => (by cases hp)) ?_)
      exact ⟨rfl, rfl⟩
end Go.Proofs.YtnhnlkljcfbhfaaGreatDoor.Tb
/- ReportStands, joined: the law over the table of the library's answers. -/
namespace Go.Proofs.YtnhnlkljcfbhfaaGreatDoor.Tb
open Go Go.Ab
theorem byF_off {l : List (FuncId × (List AV → Option (AS → Option (AV × AS))))} {f : FuncId} (h : (l.map (·.1)).contains f = false) (al : List AV) : byF l f al = none := by
  induction l with
  | nil => rfl
  | cons p l ih =>
    obtain ⟨g, c⟩ := p
    rw [List.map_cons, List.contains_cons, Bool.or_eq_false_iff] at h
    unfold byF
    have hne : Nat.beq g f = false := by
      have h1 : (f == g) = false := h.1
      cases hb : Nat.beq g f with
      | false => rfl
      | true =>
        have := Nat.eq_of_beq_eq_true hb
        subst this
        simp at h1
    rw [hne, cond_false]
    exact ih h.2
section
variable {m : Int} {e2 e3 : Value}
theorem k_ho : ∀ f x y, offT f = true → (glK m e2 e3).orc f (x :: y) = none := fun f x y h => by
  have hk : ([83, 8, 74, 44, 40, 43, 38].contains f) = false := by
    unfold offT at h
    simpa using h
  refine byF_off (l := (8, knownC) :: libs) ?_ _
  show [8, 74, 44, 40, 43, 38].contains f = false
  rw [List.contains_cons, Bool.or_eq_false_iff] at hk
  exact hk.2
theorem strsOf_strsS : ∀ xs : List ByteArray, strsOf (strs xs) = some xs
  | [] => rfl
  | x :: xs => by
    unfold strs
    rw [List.map_cons]
    unfold strsOf
    rw [show strsOf (xs.map fun x => [AV.s (.string x)]) = some xs from strsOf_strsS xs]
theorem k_74 {id n : Nat} {x : Bool} {xs : List ByteArray} {s : ByteArray} (hn : xs.length = n) (hn2 : n ≤ 1000) (hs : s = ⟨(Lib.join (xs.map (·.data.toList)) [32]).toArray⟩) (hs2 : s.size ≤ 1000000) :
    FnC Tryz.prog (glK m e2 e3) 74 [.sl id 0 n none, .s (.string ⟨#[32]⟩)] [(id, .cells 9 1 x (strs xs))] (fun v Hn => v = .s (.string s) ∧ Hn = []) := by
  refine Fn_orc2 (v := .s (.string s)) rfl (fun σ hσ => ?_) ⟨rfl, rfl⟩
  have hg := hσ.get _ (.head _)
  simp only at hg
  rw [hg]
  have hl : (strs xs).length = n := by unfold strs; rw [List.length_map, hn]
  have h1 : strsOf (((strs xs).drop 0).take n) = some xs := by
    rw [List.drop_zero, List.take_of_length_le (by omega), strsOf_strsS]
  have h2 : (Lib.join (xs.map (·.data.toList)) (⟨#[32]⟩ : ByteArray).data.toList).length ≤ 140737488355328 := by
    have h3 : s.size = (Lib.join (xs.map (·.data.toList)) [32]).length := by rw [hs]; exact List.size_toArray
    have : (⟨#[32]⟩ : ByteArray).data.toList = [32] := rfl
    rw [this]; omega
  simp only
  rw [if_pos ⟨trivial, by omega, by omega⟩, h1]
  simp only
  rw [if_pos h2, hs]
theorem hoS (f : FuncId) (a : AV) : (glK m e2 e3).orc f [a] = none ∨ f ≠ 67 ∧ f ≠ 28 ∧ f ≠ 16 := by
  by_cases h1 : f = 67
  · subst h1; exact .inl rfl
  · by_cases h2 : f = 28
    · subst h2; exact .inl rfl
    · by_cases h3 : f = 16
      · subst h3; exact .inl rfl
      · exact .inr ⟨h1, h2, h3⟩
theorem k_33 (id n : Nat) (x : Bool) (ws : List ByteArray) (h : ws.length = n) (hn : n ≤ 1000) (hs : (joinW ws).size ≤ 1000000) : FnC Tryz.prog (glK m e2 e3) 33 [.sl id 0 n none] [(id, .cells 9 1 x (strs ws))] (fun v Hn => v = .s (.string (joinW ws)) ∧ Hn = []) :=
  wordsS_fn (fun _ => rfl) (k_74 h hn rfl hs)
theorem k_40 (n : Int) (h0 : 0 ≤ n) (h1 : n ≤ 100000) : FnC Tryz.prog (glK m e2 e3) 40 [.s (.int .i64 n)] [] (fun v Hn => v = .s (.string (decI n)) ∧ Hn = []) := by
  refine Fn_orc (v := .s (.string (decI n))) ?_ ⟨rfl, rfl⟩
  show itoaC [.s (.int .i64 n)] = _
  unfold itoaC
  dsimp only
  rw [if_pos ⟨by omega, by omega⟩]
  unfold itoaN
  rw [if_neg (by omega)]
  rfl
theorem k_40d : Dec (glK m e2 e3) 40 := fun n h0 h1 => k_40 n h0 (by omega)
theorem prog_bd {rs : List (List Sc)} (hg : ∀ gs ∈ rs, ∀ g ∈ gs, 0 ≤ g.p ∧ g.p ≤ 2) (hr : rs.length ≤ 10) (i : Int) (hl : (evU rs i rs.length).length ≤ 10) : 0 ≤ progE rs.length (evU rs i rs.length) ∧ progE rs.length (evU rs i rs.length) ≤ 20000 := by
  have h := progE_bd (R := rs.length) (es := evU rs i rs.length) fun e he => by
    have h1 := evU_bd hg i rs.length (Nat.le_refl _) e he
    have h2 := evU_k i rs.length (Nat.le_refl _) e he
    obtain e0 | e0 | e0 : e.p = 0 ∨ e.p = 1 ∨ e.p = 2 := by omega
    all_goals rw [e0]; omega
  omega
theorem law6_fn {rs : List (List Sc)} {ra : AV} {axs : List AV} (h : RV rs ra axs) {xs : List ByteArray} {na : AV} (hsk : SlK 1 na (xs.map fun x => [AV.s (.string x)])) {ka : AV} {ks : List Int} (hkk : SlK 1 ka (ints ks)) (hxb : xs.length ≤ 9223372036854775807) (hz : ∀ x ∈ xs, x.size ≤ 9223372036854775807) (hkb : ks.length ≤ 9223372036854775807) :
    FnC Tryz.prog (glK m e2 e3) 6 [na, ra, ka] [] (fun v Hn => v = .s (.bool true) ∧ Hn = []) := by
  have hk := hkk.v
  have h8 : FnC Tryz.prog (glK m e2 e3) 8 [] [] (fun v Hn => v = .s (.bool true) ∧ Hn = []) := Fn_orc (v := .s (.bool true)) rfl ⟨rfl, rfl⟩
  have h7 := YtnhnlkljcfbhfaaGreatDoor.few_fn (G := glK m e2 e3) hsk.v hxb 12 (by decide) rfl
  by_cases hc : fewS xs 12 = false ∨ 10 < rs.length ∨ 8 < ks.length ∨ ∃ gs ∈ rs, 8 < gs.length
  · exact law6_k h hsk hk (fun _ _ _ => rfl) hxb hkb h8 h7 hc
  have hfw : fewS xs 12 = true := by
    cases e : fewS xs 12 with
    | true => rfl
    | false => exact absurd (.inl e) hc
  have hr : rs.length ≤ 10 := by
    apply Classical.byContradiction
    intro e
    exact hc (.inr (.inl (by omega)))
  have hk8 : ks.length ≤ 8 := by
    apply Classical.byContradiction
    intro e
    exact hc (.inr (.inr (.inl (by omega))))
  have h8g : ∀ gs ∈ rs, gs.length ≤ 8 := fun gs hgs => by
    apply Classical.byContradiction
    intro e
    exact hc (.inr (.inr (.inr ⟨gs, hgs, by omega⟩)))
  rw [hfw] at h7
  obtain ⟨hx12, hx100⟩ : xs.length ≤ 12 ∧ ∀ x ∈ xs, x.size ≤ 100 := by
    unfold fewS at hfw
    rw [Bool.and_eq_true, decide_eq_true_eq, decide_eq_true_eq] at hfw
    obtain ⟨h1, h2⟩ := hfw
    rw [List.take_of_length_le h2] at h1
    exact ⟨h2, h1⟩
  have h51 := named_fn (G := glK m e2 e3) hsk hxb hz 2 200 (fun _ _ _ => rfl) (fun _ => rfl) (fun _ _ => rfl) (fun _ _ => rfl)
  have h25 := lnamed_fn (G := glK m e2 e3) hsk.v hxb hz 2 200 (fun _ _ _ => rfl) (fun _ => rfl)
  cases hnm : namedB xs 2 200 with
  | false =>
    rw [hnm] at h51 h25
    exact law6_np h hsk hk (fun _ _ _ => rfl) hxb hkb h8 h7 hr hk8 h8g (rstands_np (fun _ _ _ => rfl) h51) h25
  | true =>
    rw [hnm] at h51 h25
    have hx2 : 2 ≤ xs.length := by
      unfold namedB at hnm
      rw [Bool.and_eq_true, decide_eq_true_eq] at hnm
      omega
    have hf12 : ∀ gs ∈ rs, gs.length ≤ 12 := fun gs hgs => by have := h8g gs hgs; omega
    have hkc : ∀ ad cap, ka = .rsl ad 1 cap (ints ks) → ks.length ≤ cap := fun ad cap e => by
      subst e
      cases hkk with
      | rsl h1 h2 => rw [ints_len] at h2; exact h2
    by_cases hok : VOk xs.length rs ∧ KOk ks
    · obtain ⟨hv, hko⟩ := hok
      have hgok : ∀ gs ∈ rs, ∀ g ∈ gs, GOk xs.length g := fun gs hgs g hgg => (hv.2.2.2 gs hgs).1 g hgg
      have hgp : ∀ gs ∈ rs, ∀ g ∈ gs, 0 ≤ g.p ∧ g.p ≤ 2 := fun gs hgs g hgg => (hgok gs hgs g hgg).2.2.2.2
      have hF := sumT_F hf12 hv
      have hev : ∀ i : Nat, (evU rs i rs.length).length ≤ 10 := fun i => by
        have := evU_one hv.2.2.2 i (by omega) rs.length (Nat.le_refl _)
        omega
      have hkv : ∀ j, j < ks.length → 1 ≤ ks.getD j 0 ∧ ks.getD j 0 ≤ 7 := fun j hj => hko.1 _ (getD_mem hj)
      have hKV : ∀ i : Nat, i < xs.length → ∀ j, j < ks.length → 0 ≤ kval rs i (ks.getD j 0) ∧ kval rs i (ks.getD j 0) ≤ 20000 := fun i hi j hj =>
        lawV_bd hF hi (evU_bd hgp i rs.length (Nat.le_refl _)) (evU_lt hgok i rs.length (Nat.le_refl _)) (hev i) (prog_bd hgp hr i (hev i)) _
      have h26 : FnC Tryz.prog (glK m e2 e3) 26 [.s (.int .i64 xs.length), ra, ka] [] (fun v Hn => ∃ oid pid ord pls, v = .tup [.sl oid 0 xs.length none, .sl pid 0 xs.length none, .s (.int .i64 0)] ∧ Hn = [(oid, .cells 3 1 false (ints ord)), (pid, .cells 3 1 true (ints pls))] ∧ Stood rs ks xs.length ord pls) :=
        (standT_fn h hf12 k_ho hv hr hk hkc hko (by omega)).mono fun v Hn ⟨oid, pid, ord, pls, h1, h2, h3, h4, h5, h6⟩ => ⟨oid, pid, ord, pls, h1, h2, h3, h4, h5, h6⟩
      have h53 : ∀ i : Nat, i < xs.length → ∀ j, j < ks.length → FnC Tryz.prog (glK m e2 e3) 53 [.s (.int .i64 xs.length), ra, .s (.int .i64 (ks.getD j 0)), .s (.int .i64 i)] [] (fun v Hn => v = .s (.tuple #[.int .i64 (kval rs i (ks.getD j 0)), .int .i64 0]) ∧ Hn = []) := fun i hi j hj => by
        have hkj := hkv j hj
        have := api15_t h hf12 (k_ho (m := m) (e2 := e2) (e3 := e3)) hv hr i hi (ks.getD j 0).toNat (by omega) (by omega)
        rw [show (((ks.getD j 0).toNat : Nat) : Int) = ks.getD j 0 by omega] at this
        exact this.mono fun v Hn ⟨n, h1, h2, h3⟩ => ⟨by rw [h1, h2]; rfl, h3⟩
      have h29 : ∀ sc i : Nat, i < xs.length → ∀ j, j < ks.length → FnC Tryz.prog (glK m e2 e3) 29 [.sl sc 0 xs.length none, ra, .s (.int .i64 (ks.getD j 0)), .s (.int .i64 i)] [(sc, .cells 3 1 true (tab xs.length (fun x => sumT rs x)))] (fun v Hn => v = .s (.int .i64 (kval rs i (ks.getD j 0))) ∧ Hn = []) := fun sc i hi j hj => by
        have hkj := hkv j hj
        have := lawValue_fn h hf12 hv (k_ho (m := m) (e2 := e2) (e3 := e3)) (fun x => sumT rs x) hF i hi (ks.getD j 0).toNat (by omega) (by omega) sc
        rw [show (((ks.getD j 0).toNat : Nat) : Int) = ks.getD j 0 by omega] at this
        exact this
      have h24 := rstands_t (G := glK m e2 e3) hsk (fun _ _ _ => rfl) hk (by omega) hx2 (by omega) hx100 (fun i hi => hF i hi) hKV h51 h26 (api_t h hf12 hv k_ho) (fun n h0 h1 => Points_t (fun _ => rfl) k_40d n _ (ptS_eq h0 (by omega))) k_40 k_33 h53
      exact law6_t h hsk hk (fun _ _ _ => rfl) hxb hkb h8 h7 hr hk8 h8g hx2 (by omega) hx100 (fun i hi => hF i hi) hKV h24 h25 h26 (lawScores_fn h hf12 hv (k_ho _ _ _ rfl) (fun _ _ => k_ho _ _ _ rfl)) (fun n h0 h1 => points_t hoS n _ (ptS_eq h0 (by omega)))
        (fun n h0 h1 => decimalB_fn (fun f a => (hoS f a).imp_right fun h => ⟨h.1, h.2.1⟩) n h0 h1) h29 (fun ls a b hl hab => by
          have := YtnhnlkljcfbhfaaGreatDoor.same_oo (G := glK m e2 e3) ls (by omega) (x1 := false) (x2 := false) hab rfl
          rwa [hl] at this)
    · have h26 := standF_fn h (k_ho (m := m) (e2 := e2) (e3 := e3)) (n := xs.length) hk hkc (by omega) hok
      exact law6_f h hsk hk (fun _ _ _ => rfl) hxb hkb h8 h7 hr hk8 h8g (rstands_f (rs := rs) hsk hxb (fun _ _ _ => rfl) h51 h26) h25 h26
end
end Go.Proofs.YtnhnlkljcfbhfaaGreatDoor.Tb
/- What the listed tables are, as rows: for all laws of this seat. -/
namespace Go.Proofs.YtnhnlkljcfbhfaaGreatDoor
open Go Go.Ab Go.ChangeShapes Go.WideShapes Go.ChangeAt Go.WideElems Go.RowKit
def laidT : List (String × DataW Unit) := [("caissa/piece.kinds", Rows.laid_caissa_piece_kinds), ("math/bits.deBruijn32tab", Rows.laid_math_bits_deBruijn32tab), ("math/bits.deBruijn64tab", Rows.laid_math_bits_deBruijn64tab), ("internal/strconv.uint64pow10", Rows.laid_internal_strconv_uint64pow10), ("unicode/utf8.acceptRanges", Rows.laid_unicode_utf8_acceptRanges), ("caissa/ray.straight", Rows.laid_caissa_ray_straight), ("caissa/ray.diagonal", Rows.laid_caissa_ray_diagonal), ("caissa/ray.leaps", Rows.laid_caissa_ray_leaps), ("strconv.ErrRange", Rows.laid_strconv_ErrRange), ("strconv.ErrSyntax", Rows.laid_strconv_ErrSyntax), ("caissa/position.full", Rows.laid_caissa_position_full), ("unicode/utf8.first", Rows.laid_unicode_utf8_first)]
theorem gn0 : Tryz.prog.globalNamed "caissa/piece.kinds" = some 0 := by kernel_rfl
theorem gn2 : Tryz.prog.globalNamed "strconv.ErrSyntax" = some 2 := by kernel_rfl
theorem gn3 : Tryz.prog.globalNamed "strconv.ErrRange" = some 3 := by kernel_rfl
theorem gn4 : Tryz.prog.globalNamed "caissa/position.full" = some 4 := by kernel_rfl
theorem gn5 : Tryz.prog.globalNamed "internal/strconv.uint64pow10" = some 5 := by kernel_rfl
theorem gn8 : Tryz.prog.globalNamed "math/bits.deBruijn32tab" = some 8 := by kernel_rfl
theorem gn9 : Tryz.prog.globalNamed "math/bits.deBruijn64tab" = some 9 := by kernel_rfl
theorem gn10 : Tryz.prog.globalNamed "caissa/ray.leaps" = some 10 := by kernel_rfl
theorem gn11 : Tryz.prog.globalNamed "caissa/ray.diagonal" = some 11 := by kernel_rfl
theorem gn12 : Tryz.prog.globalNamed "caissa/ray.straight" = some 12 := by kernel_rfl
theorem gt0 : (Tryz.prog.globals[0]?).map (·.type) = some 136 := by kernel_rfl
theorem gt2 : (Tryz.prog.globals[2]?).map (·.type) = some 97 := by kernel_rfl
theorem gt3 : (Tryz.prog.globals[3]?).map (·.type) = some 97 := by kernel_rfl
theorem gt4 : (Tryz.prog.globals[4]?).map (·.type) = some 23 := by kernel_rfl
theorem gt5 : (Tryz.prog.globals[5]?).map (·.type) = some 239 := by kernel_rfl
theorem gt8 : (Tryz.prog.globals[8]?).map (·.type) = some 265 := by kernel_rfl
theorem gt9 : (Tryz.prog.globals[9]?).map (·.type) = some 266 := by kernel_rfl
theorem gt10 : (Tryz.prog.globals[10]?).map (·.type) = some 278 := by kernel_rfl
theorem gt11 : (Tryz.prog.globals[11]?).map (·.type) = some 280 := by kernel_rfl
theorem gt12 : (Tryz.prog.globals[12]?).map (·.type) = some 280 := by kernel_rfl
theorem dc0 : (datCells Tryz.prog 5 136 Rows.laid_caissa_piece_kinds).map (·.map AV.s) = some rw0 := by kernel_rfl
theorem dc4 : (datCells Tryz.prog 5 23 Rows.laid_caissa_position_full).map (·.map AV.s) = some rw4 := by kernel_rfl
theorem dc5 : (datCells Tryz.prog 5 239 Rows.laid_internal_strconv_uint64pow10).map (·.map AV.s) = some rw5 := by kernel_rfl
theorem dc8 : (datCells Tryz.prog 5 265 Rows.laid_math_bits_deBruijn32tab).map (·.map AV.s) = some rw8 := by kernel_rfl
theorem dc9 : (datCells Tryz.prog 5 266 Rows.laid_math_bits_deBruijn64tab).map (·.map AV.s) = some rw9 := by kernel_rfl
theorem dc10 : (datCells Tryz.prog 5 278 Rows.laid_caissa_ray_leaps).map (·.map AV.s) = some rw10 := by kernel_rfl
theorem dc11 : (datCells Tryz.prog 5 280 Rows.laid_caissa_ray_diagonal).map (·.map AV.s) = some rw11 := by kernel_rfl
theorem dc12 : (datCells Tryz.prog 5 280 Rows.laid_caissa_ray_straight).map (·.map AV.s) = some rw12 := by kernel_rfl
theorem held_dat {w : World} {enc : TypeId × Value → Unit} {spare : Nat → Bool} {held : Bool} {nm : String} {g g' : Nat} {t t' : TypeId} {cs : Array Value} {fuel : Nat} {d : DataW Unit} {ps : List MemPlace} {row : List AV} (hn : Tryz.prog.globalNamed nm = some g) (ht : (Tryz.prog.globals[g]?).map (·.type) = some t) (hc : (datCells Tryz.prog 5 t d).map (·.map AV.s) = some row)
    (hg : Tryz.prog.globalNamed nm = some g') (ht' : (Tryz.prog.globals[g']?).map (·.type) = some t') (hv : w.var? Tryz.prog nm = some cs) (hd : DataW.trod enc Tryz.prog w 0 spare held fuel t' cs.toList = some (d, ps)) : Held w g row := by
  obtain rfl := Option.some.inj (hn.symm.trans hg)
  obtain rfl := Option.some.inj (ht.symm.trans ht')
  obtain ⟨vs, hvs, rfl⟩ := Option.map_eq_some_iff.1 hc
  exact Held.of_dat hg hv hd hvs rfl
theorem held_err {w : World} {enc : TypeId × Value → Unit} {spare : Nat → Bool} {held : Bool} {nm nt : String} {g g' : Nat} {t' : TypeId} {cs : Array Value} {fuel : Nat} {d : DataW Unit} {ps : List MemPlace} (hn : Tryz.prog.globalNamed nm = some g) (ht : (Tryz.prog.globals[g]?).map (·.type) = some 97)
    (hg : Tryz.prog.globalNamed nm = some g') (ht' : (Tryz.prog.globals[g']?).map (·.type) = some t') (hv : w.var? Tryz.prog nm = some cs) (hd : DataW.trod enc Tryz.prog w 0 spare held fuel t' cs.toList = some (.iface nt d, ps)) : ∃ v, Held w g [.s v] ∧ (v = .nilIface ∨ ∃ te pe, v = .iface te pe) := by
  obtain rfl := Option.some.inj (hn.symm.trans hg)
  obtain rfl := Option.some.inj (ht.symm.trans ht')
  exact Held.of_err hg hv Tryz.underlying97 hd
theorem held_max {w : World} (hs : w.ShapedOpen Tryz.prog) : ∃ m, Held w 1 [.s (.int .i64 m)] := by
  obtain ⟨m, hm⟩ := Go.Proofs.cell_of_shapedOpen_int (g := 1) (zero := #[.int .i64 0]) (t := 3) hs (of_decide_eq_true (by kernel_rfl)) (by kernel_rfl) rfl (by kernel_rfl) (by kernel_rfl) Tryz.underlying3
  obtain ⟨cs, hh, hsz, _⟩ := hs.1 1 #[.int .i64 0] 3 (of_decide_eq_true (by kernel_rfl)) (by kernel_rfl)
  refine ⟨m, [.int .i64 m], rfl, cs, 3, _, hh, ?_⟩
  have h1 : cs.size = 1 := hsz
  simp only [World.cell?, hh] at hm
  obtain ⟨l⟩ := cs
  match l, h1 with
  | [v], _ => simpa using hm
theorem of_laid {W : World} (h : laidMetH Tryz.prog laidT W) (hs : W.ShapedOpen Tryz.prog) : ∃ m e2 e3, GlOk (memOf W) (fun _ => none) (glK m e2 e3) ∧ (e2 = .nilIface ∨ ∃ te pe, e2 = .iface te pe) ∧ (e3 = .nilIface ∨ ∃ te pe, e3 = .iface te pe) := by
  rw [MakeChecks.laidMetH_plain _ _ _ (by kernel_rfl)] at h
  obtain ⟨ps, ⟨_, _, _, _, _, _, hg0, ht0, hv0, hd0, ⟨_, _, _, _, _, _, hg8, ht8, hv8, hd8, ⟨_, _, _, _, _, _, hg9, ht9, hv9, hd9, ⟨_, _, _, _, _, _, hg5, ht5, hv5, hd5, ⟨_, _, _, _, _, _, _, _, _, _, ⟨_, _, _, _, _, _, hg12, ht12, hv12, hd12, ⟨_, _, _, _, _, _, hg11, ht11, hv11, hd11, ⟨_, _, _, _, _, _, hg10, ht10, hv10, hd10, ⟨_, _, _, _, _, _, hg3, ht3, hv3, hd3, ⟨_, _, _, _, _, _, hg2, ht2, hv2, hd2, ⟨_, _, _, _, _, _, hg4, ht4, hv4, hd4, _, _⟩, _⟩, _⟩, _⟩, _⟩, _⟩, _⟩, _⟩, _⟩, _⟩, _⟩, _, _⟩ := h
  have k0 := held_dat gn0 gt0 dc0 hg0 ht0 hv0 hd0
  have k8 := held_dat gn8 gt8 dc8 hg8 ht8 hv8 hd8
  have k9 := held_dat gn9 gt9 dc9 hg9 ht9 hv9 hd9
  have k5 := held_dat gn5 gt5 dc5 hg5 ht5 hv5 hd5
  have k12 := held_dat gn12 gt12 dc12 hg12 ht12 hv12 hd12
  have k11 := held_dat gn11 gt11 dc11 hg11 ht11 hv11 hd11
  have k10 := held_dat gn10 gt10 dc10 hg10 ht10 hv10 hd10
  have k4 := held_dat gn4 gt4 dc4 hg4 ht4 hv4 hd4
  obtain ⟨e3, k3, q3⟩ := held_err gn3 gt3 hg3 ht3 hv3 hd3
  obtain ⟨e2, k2, q2⟩ := held_err gn2 gt2 hg2 ht2 hv2 hd2
  obtain ⟨m, k1⟩ := held_max hs
  refine ⟨m, e2, e3, fun g row hr => ?_, q2, q3⟩
  have hr' : rowsR m e2 e3 g = some row := hr
  unfold rowsR at hr'
  split at hr' <;> cases hr'
  · exact k0.mem
  · exact k1.mem
  · exact k2.mem
  · exact k3.mem
  · exact k4.mem
  · exact k5.mem
  · exact k8.mem
  · exact k9.mem
  · exact k10.mem
  · exact k11.mem
  · exact k12.mem
theorem own : ownKnob Tryz.prog.godebug = none := by kernel_rfl
theorem laidOut : laidOutB Tryz.prog = true := by kernel_rfl
theorem run_of {m : Int} {e2 e3 : Value} {f : FuncId} {args : List AV} (h : FnC Tryz.prog (glK m e2 e3) f args [] (fun v Hn => v = .s (.bool true) ∧ Hn = [])) : ∃ n σ, runCall Tryz.prog (glK m e2 e3) n f args = some (.s (.bool true), σ) := by
  obtain ⟨n, v, σ, h1, Hn, _, _, rfl, _⟩ := wpf_run (h ⟨.e, 0, none⟩ (.start rfl (fun id _ => by simp [Tr.get_e]) List.nodup_nil (fun p hp => by cases hp)))
  exact ⟨n, σ, h1⟩
theorem shaped_wit (os : Os) : (World.laidAll Tryz.prog os laidT).Shaped Tryz.prog := World.shaped_of_ZipB (by kernel_rfl) (by kernel_rfl)
theorem met_wit (os : Os) (args : Array Value) : laidMetH Tryz.prog laidT ((World.laidAll Tryz.prog os laidT).forCall (fun _ _ => 0) ⟨#[], args, []⟩).memory := by
  rw [MakeChecks.laidMetH_plain _ _ _ (by kernel_rfl)]; exact laidMet_laidAll _ (by kernel_rfl) (by kernel_rfl)
end Go.Proofs.YtnhnlkljcfbhfaaGreatDoor
