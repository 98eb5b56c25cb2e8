/- TiebreakHolds, walked: scores and values together. -/
import Derived.Test.YtldckcopeiginaaZf
import Derived.Stop.Joined
import Derived.SevenTiedAt
import Derived.ProofKit
namespace Go.Proofs.Ytldckcopeiginaa
open Go.Ab
attribute [local irreducible] SC SL wpc wpl wpd wpf wpy wpn FnC FnW RdW SD
set_option maxRecDepth 100000
set_option pp.deepTerms false
set_option pp.maxSteps 900
set_option maxHeartbeats 4000000
theorem sumI_bd {f : Nat → Int} {b : Int} : ∀ {m : Nat}, (∀ i, i < m → 0 ≤ f i ∧ f i ≤ b) → 0 ≤ sumI f m ∧ sumI f m ≤ b * m
  | 0, _ => by simp [sumI]
  | m + 1, h => by
    have h1 := sumI_bd (m := m) fun i hi => h i (Nat.lt_succ_of_lt hi)
    have h2 := h m (Nat.lt_succ_self m)
    simp only [sumI]
    rw [Int.natCast_add, Int.mul_add]
    omega
theorem son1_bd {F : Nat → Int} {m : Nat} (hF : ∀ x, x < m → 0 ≤ F x ∧ F x ≤ 1000) {g : Sc} (h : GOk m g) (i : Int) : 0 ≤ son1 F g i ∧ son1 F g i ≤ 2000 := by
  obtain ⟨a1, a2, a3, a4, a5, a6⟩ := h
  unfold son1
  by_cases e1 : g.w = i
  · rw [pts_w e1]
    split
    · rename_i hb
      simp only at hb ⊢
      have h1 := hF g.b.toNat (by omega)
      exact mulp_bd a5 a6 h1.1 h1.2
    · omega
  · by_cases e2 : g.b = i
    · rw [pts_b e1 e2]
      split
      · simp only
        have h1 := hF g.w.toNat (by omega)
        exact mulp_bd (by omega) (by omega) h1.1 h1.2
      · omega
    · rw [pts_n e1 e2]
      simp
theorem valT4_bd {rs : List (List Sc)} (hf : ∀ gs ∈ rs, gs.length ≤ 12) {m : Nat} (hv : VOk m rs) (i : Nat) : 0 ≤ valT rs i 4 ∧ valT rs i 4 ≤ 720000 := by
  rw [valT4]
  have hF := sumT_F hf hv
  have h1 := sum_bd (f := fun gs : List Sc => (gs.map fun g => son1 (fun x => sumT rs x) g i).sum) (B := 24000) (l := rs) fun gs hgs => by
    have h2 := sum_bd (f := fun g => son1 (fun x : Nat => sumT rs x) g i) (B := 2000) (l := gs) fun g hg => son1_bd hF ((hv.2.2.2 gs hgs).1 g hg) i
    have := hf gs hgs
    omega
  have := hv.2.2.1
  omega
/-- The loop over the players. -/
noncomputable def loop8 : Code := blkC (sndC (fstC (code6 9)))
theorem vals_part {G : Gl} (h20 : ∀ i x y : Int, FnC Try.prog G 20 [.s (.int .i64 i), .s (.int .i64 x), .s (.int .i64 y)] [] (fun v Hn => v = .s (.int .i64 (oth i x y)) ∧ Hn = [])) {rs : List (List Sc)} {ra : AV} (hf : ∀ gs ∈ rs, gs.length ≤ 12) {m : Nat} (hv : VOk m rs) {B : AS} {ka : AV} {more : Int} {x y ida : Nat} (hxm : x < m) (hym : y < m) {sw : AV} {HS : List (Nat × AObj)}
    (h15 : ∀ (i : Nat), i < m → ∀ k : Nat, 1 ≤ k → k ≤ 7 → FnC Try.prog G 15 [.s (.int .i64 m), ra, .s (.int .i64 k), .s (.int .i64 i)] [] (fun v Hn => v = .s (.tuple #[.int .i64 (valT rs i k), .int .i64 0]) ∧ Hn = []))
    (h15o : ∀ (i : Nat), i < m → ∀ k : Nat, 1 ≤ k → k ≤ 7 → FnC Try.prog G 15 [.s (.int .i64 m), sw, .s (.int .i64 k), .s (.int .i64 i)] HS (fun v Hn => v = .s (.tuple #[.int .i64 (valT (swR x y rs) i k), .int .i64 0]) ∧ Hn = []))
    {Q : AEx → Cfg → Prop}
    (hQ : ∀ tm σ, En tm 311 [(0, .s (.int .i64 m)), (1, ra), (2, ka), (3, .s (.int .i64 more)), (15, .s (.int .i64 (wantT rs))), (16, .s (.int .i64 (wantT rs))), (17, .s (.int .i64 0)), (21, .s (.int .i64 x)), (22, .s (.int .i64 y))] → He B [] σ [] [] → Q .normal ⟨tm, [], σ⟩) :
    SC Try.prog G B [] none loop8 [(0, .s (.int .i64 m)), (1, ra), (2, ka), (3, .s (.int .i64 more)), (13, .sl ida 0 m none), (15, .s (.int .i64 0)), (16, .s (.int .i64 (wantT rs))), (17, .s (.int .i64 (bothT (fun x : Nat => sumT rs x) rs))), (21, .s (.int .i64 x)), (22, .s (.int .i64 y)), (23, sw), (28, .s (.int .i64 0))] 311 [] ((ida, .cells 3 1 true (tab m (fun x => sumT rs x))) :: HS) (InB 8 Q) := by
  show SC _ _ _ _ _ (Code.loop _) _ _ _ _ _
  refine SC_nd fun hnd => ?_
  have hndS : (HS.map (·.1)).Nodup := by rw [List.map_cons, List.nodup_cons] at hnd; exact hnd.2
  have hv1 := hv.1
  have hv2 := hv.2.1
  have hF := sumT_F hf hv
  refine SC_loop (fun i : Nat => [(0, .s (.int .i64 m)), (1, ra), (2, ka), (3, .s (.int .i64 more)), (13, .sl ida 0 m none), (15, .s (.int .i64 (sumI (fun x => sumT rs x) i))), (16, .s (.int .i64 (wantT rs))), (17, .s (.int .i64 (bothT (fun x : Nat => sumT rs x) rs - sumI (fun x => valT rs x 4) i))), (21, .s (.int .i64 x)), (22, .s (.int .i64 y)), (23, sw), (28, .s (.int .i64 i))])
    (fun _ => (ida, .cells 3 1 true (tab m (fun x => sumT rs x))) :: HS) (fun _ => []) (fun i => i ≤ m) (fun i => m - i) 0 (Nat.zero_le _) ⟨rfl, rfl, rfl, rfl, rfl, rfl, rfl, by rw [show sumI (fun x => valT rs x 4) 0 = 0 from rfl, Int.sub_zero]; rfl, rfl, rfl, rfl, rfl, trivial⟩ (.refl _) hnd rfl ?_
  intro i hi
  have hb := bothT_bd hF (rs := rs) hf (fun gs hgs => (hv.2.2.2 gs hgs).1)
  have hrl := hv.2.2.1
  have hs1 := sumI_bd (m := i) (f := fun x => sumT rs x) (b := 1000) fun z hz => hF z (by omega)
  have hs4 := sumI_bd (m := i) (f := fun x => valT rs x 4) (b := 720000) fun z _ => valT4_bd hf hv z
  by_cases hilt : i < m
  · have hFi := hF i hilt
    have h4i := valT4_bd hf hv i
    repeat' (first
      | (refine SL_call (by decide) (by rfl) bd15 (by rfl) (by rfl) (h15 i (by omega) 4 (by omega) (by omega)) trivial List.nodup_nil ?_; rintro _ _ _ ⟨rfl, rfl⟩; rw [List.nil_append])
      | refine SC_seq ?_
      | refine SC_block ?_
      | refine SC_region ?_
      | refine SL_seq ?_
      | refine SL_move (by decide) (by rfl) ?_
      | refine SL_assign (by decide) (by rfl) ?_
      | refine SL_add (by decide) (by rfl) (by rfl) (by omega) (by omega) ?_
      | refine SL_sub (by decide) (by rfl) (by rfl) (by omega) (by omega) ?_
      | (refine SL_lss (by decide) (by rfl) (by rfl) (fun hT => ?_) (fun hT => ?_) <;> first | (exfalso; omega) | skip)
      | (refine SL_neq (by decide) (by rfl) (by rfl) (fun hT => ?_) (fun hT => ?_) <;> first | (exfalso; omega) | skip)
      | refine SL_extract_s (by decide) (by rfl) (by rfl) ?_
      | refine SL_indexAddr_0 (by decide) (by rfl) (by rfl) (by repeat (first | exact .head _ | refine .tail _ ?_)) (slF (by rfl)) _ (by first | rfl | exact (Int.toNat_of_nonneg (by omega)).symm) (by omega) ?_
      | refine SL_load_o (by decide) (by rfl) (by repeat (first | exact .head _ | refine .tail _ ?_)) (rowF (by rfl)) (by first | assumption | rfl | exact tab_get _ _ (by omega)) (by rfl) ?_
      | refine SC_cond_t (by rfl) ?_
      | refine SC_cond_f (by rfl) ?_
      | (refine SC_skip' (fun tm σ hE hH => ?_); refine SC.app ?_ hE hH; clear hE hH; clear tm σ)
      | fail)
    refine SC_loop (fun k : Nat => [(0, .s (.int .i64 m)), (1, ra), (2, ka), (3, .s (.int .i64 more)), (13, .sl ida 0 m none), (15, .s (.int .i64 (sumI (fun x => sumT rs x) (i + 1)))), (16, .s (.int .i64 (wantT rs))), (17, .s (.int .i64 (bothT (fun x : Nat => sumT rs x) rs - sumI (fun x => valT rs x 4) (i + 1)))), (21, .s (.int .i64 x)), (22, .s (.int .i64 y)), (23, sw), (28, .s (.int .i64 i)), (31, .s (.int .i64 k))])
      (fun _ => (ida, .cells 3 1 true (tab m (fun x => sumT rs x))) :: HS) (fun _ => []) (fun k => 1 ≤ k ∧ k ≤ 8) (fun k => 8 - k) 1 (by omega) ⟨rfl, rfl, rfl, rfl, rfl, rfl, rfl, by simp only [sumI, ← Int.sub_sub]; rfl, rfl, rfl, rfl, rfl, rfl, trivial⟩ (.refl _) hnd rfl ?_
    intro k hk
    by_cases hk7 : k ≤ 7
    · obtain ⟨i', hi'⟩ : ∃ i' : Nat, oth i x y = i' := ⟨(oth i x y).toNat, by have := oth_pos (x := x) (y := y) (by omega) (by omega) (i := i) (by omega); omega⟩
      have him : i' < m := by have := oth_lt (x := x) (y := y) (n := m) (i := i) (by omega) (by omega) (by omega); omega
      have hval : valT (swR x y rs) i' k = valT rs i k := by
        have := valT_sw (x := x) (y := y) (by omega) (by omega) rs i k
        rw [hi', Int.toNat_natCast] at this
        exact this
      have hown := h15o i' him k (by omega) (by omega)
      repeat' (first
        | (refine SL_call (by decide) (by rfl) bd15 (by rfl) (by rfl) hown (.of_mem fun p hp => List.mem_cons_of_mem _ hp) hndS ?_; rintro _ _ _ ⟨rfl, rfl⟩; rw [List.nil_append, hval])
        | (refine SL_call (by decide) (by rfl) bd20 (by rfl) (by rfl) (h20 i x y) trivial List.nodup_nil ?_; rintro _ _ _ ⟨rfl, rfl⟩; rw [List.nil_append, hi'])
        | (refine SL_call (by decide) (by rfl) bd15 (by rfl) (by rfl) (h15 i (by omega) k (by omega) (by omega)) trivial List.nodup_nil ?_; rintro _ _ _ ⟨rfl, rfl⟩; rw [List.nil_append])
        | refine SC_seq ?_
        | refine SC_block ?_
        | refine SC_region ?_
        | refine SL_seq ?_
        | refine SL_run (by rfl) (by rfl) ?_
        | refine SL_move (by decide) (by rfl) ?_
        | refine SL_assign (by decide) (by rfl) ?_
        | refine SL_pick_f (by decide) (by rfl) (by rfl) ?_
        | refine SL_add (by decide) (by rfl) (by rfl) (by omega) (by omega) ?_
        | (refine SL_leq (by decide) (by rfl) (by rfl) (fun hT => ?_) (fun hT => ?_) <;> first | (exfalso; omega) | skip)
        | (refine SL_neq (by decide) (by rfl) (by rfl) (fun hT => ?_) (fun hT => ?_) <;> first | (exfalso; omega) | skip)
        | refine SL_extract_s (by decide) (by rfl) (by rfl) ?_
        | refine SC_cond_t (by rfl) ?_
        | refine SC_cond_f (by rfl) ?_
        | (refine SC_skip' (fun tm σ hE hH => ?_); refine SC.app ?_ hE hH; clear hE hH; clear tm σ)
        | fail)
      exact SL_nil fun tm σ hE hH => ⟨k + 1, by omega, by omega, tm, σ, rfl, hE.sub ⟨rfl, rfl, rfl, rfl, rfl, rfl, rfl, rfl, rfl, rfl, rfl, rfl, rfl, trivial⟩, hH⟩
    · obtain rfl : k = 8 := by omega
      repeat' (first
        | refine SC_seq ?_
        | refine SC_region ?_
        | refine SL_seq ?_
        | refine SL_move (by decide) (by rfl) ?_
        | refine SL_assign (by decide) (by rfl) ?_
        | refine SL_add (by decide) (by rfl) (by rfl) (by omega) (by omega) ?_
        | (refine SL_leq (by decide) (by rfl) (by rfl) (fun hT => ?_) (fun hT => ?_) <;> first | (exfalso; omega) | skip)
        | refine SC_cond_f (by rfl) ?_
        | (refine SC_exit (fun tm σ hE hH => ?_); refine SC.app ?_ hE hH; clear hE hH; clear tm σ)
        | fail)
      exact SL_nil fun tm σ hE hH => ⟨i + 1, by omega, by omega, tm, σ, rfl, hE.sub ⟨rfl, rfl, rfl, rfl, rfl, rfl, rfl, rfl, rfl, rfl, rfl, rfl, trivial⟩, hH⟩
  · obtain rfl : i = m := by omega
    have e1 := sums_all hv
    have e2 := sonne_all hv
    rw [e1, e2, Int.sub_self]
    repeat' (first
      | refine SC_seq ?_
      | refine SC_region ?_
      | refine SL_seq ?_
      | refine SL_move (by decide) (by rfl) ?_
      | (refine SL_lss (by decide) (by rfl) (by rfl) (fun hT => ?_) (fun hT => ?_) <;> first | (exfalso; omega) | skip)
      | refine SC_cond_f (by rfl) ?_
      | fail)
    exact SC_exit fun tm σ hE hH => hQ tm σ (hE.sub ⟨rfl, rfl, rfl, rfl, rfl, rfl, rfl, rfl, rfl, trivial⟩) (hH.sub trivial List.nodup_nil)
end Go.Proofs.Ytldckcopeiginaa
/- With one kind more, players that were apart stay so: plain lists. -/
namespace Go.Proofs.Ytldckcopeiginaa
open Go.Ab
theorem lexC_more : ∀ {a b : List Int} (c d : List Int), a.length = b.length → lexC a b ≠ 0 → lexC (a ++ c) (b ++ d) = lexC a b
  | [], [], _, _, _, h => absurd rfl h
  | x :: a, y :: b, c, d, hl, h => by
    rw [List.cons_append, List.cons_append]
    unfold lexC at h ⊢
    by_cases e : x = y
    · rw [if_pos e] at h ⊢
      rw [if_pos e]
      exact lexC_more c d (by simpa using hl) h
    · rw [if_neg e, if_neg e]
  | [], _ :: _, _, _, h, _ => by simp at h
  | _ :: _, [], _, _, h, _ => by simp at h
section
variable {key : Nat → List Int} {K : Nat} (hk : ∀ i, (key i).length = K)
include hk
theorem lexC_le_lt {a b c : Nat} (h : lexC (key a) (key b) ≤ 0) (h' : lexC (key b) (key c) < 0) : lexC (key a) (key c) < 0 := by
  by_cases e : lexC (key a) (key b) = 0
  · rw [lexC_eq _ _ (by rw [hk, hk]) e]; exact h'
  · exact lexC_trans _ _ _ (by rw [hk, hk]) (by rw [hk, hk]) (by omega) h'
theorem aheadN_le {l : List Int} {a b : Nat} (h : lexC (key a) (key b) ≤ 0) : aheadN key l b ≤ aheadN key l a := by
  unfold aheadN
  refine List.countP_mono_left fun x _ hx => ?_
  exact decide_eq_true (lexC_le_lt hk h (of_decide_eq_true hx))
theorem aheadN_lt {l : List Int} {a b : Nat} (h : lexC (key b) (key a) < 0) (ha : (a : Int) ∈ l) : aheadN key l a < aheadN key l b := by
  obtain ⟨s, t, rfl⟩ := List.append_of_mem ha
  have h1 := aheadN_le hk (l := s) (a := b) (b := a) (by omega)
  have h2 := aheadN_le hk (l := t) (a := b) (b := a) (by omega)
  unfold aheadN at h1 h2 ⊢
  rw [List.countP_append, List.countP_append, List.countP_cons, List.countP_cons, Int.toNat_natCast, if_neg (by simp [lexC_refl]), if_pos (decide_eq_true h)]
  omega
end
theorem places_more {rs : List (List Sc)} {ks : List Int} (k : Int) {m x y : Nat} (hx : x < m) (h : aheadN (keyOf rs ks) (iota m) x < aheadN (keyOf rs ks) (iota m) y) :
    aheadN (keyOf rs (ks ++ [k])) (iota m) x < aheadN (keyOf rs (ks ++ [k])) (iota m) y := by
  have e : ∀ i, keyOf rs (ks ++ [k]) i = keyOf rs ks i ++ [kval rs i k] := fun i => by simp [keyOf]
  have h1 : lexC (keyOf rs ks y) (keyOf rs ks x) < 0 := by
    refine Decidable.byContradiction fun hn => ?_
    have h2 := lexC_neg (keyOf rs ks y) (keyOf rs ks x)
    have := aheadN_le (keyOf_len rs ks) (l := iota m) (a := x) (b := y) (by omega)
    omega
  refine aheadN_lt (keyOf_len rs (ks ++ [k])) ?_ (List.mem_map.2 ⟨x, List.mem_range.2 hx, rfl⟩)
  rw [e, e, lexC_more _ _ (by rw [keyOf_len, keyOf_len]) (by omega)]
  exact h1
#print axioms places_more
end Go.Proofs.Ytldckcopeiginaa
/- Standings on own kinds, as a contract of the last law's table; what its places are. -/
namespace Go.Proofs.Ytldckcopeiginaa
open Go Go.Ab
theorem SlV.parts {es : Nat} {a : AV} {rows : List (List AV)} (h : SlV es a rows) : (∃ ad cap, a = .s (.slice ad 0 cap) ∧ rows = []) ∨ (∃ ad cap, a = .rsl ad es cap rows ∧ 0 < rows.length) := by
  cases h with
  | nil => exact .inl ⟨_, _, rfl, rfl⟩
  | rsl h => exact .inr ⟨_, _, rfl, h⟩
/-- What Standings answers. -/
def R17 (rs : List (List Sc)) (ks : List Int) (n : Nat) (v : AV) (Hn : List (Nat × AObj)) : Prop := ∃ oid pid ord pls, v = .tup [.sl oid 0 n none, .sl pid 0 n none, .s (.int .i64 0)] ∧ Hn = [(oid, .cells 3 1 false (ints ord)), (pid, .cells 3 1 true (ints pls))] ∧ Res rs ks n ord pls
theorem res_ex {rs : List (List Sc)} {ra : AV} {xs : List AV} (h : RV rs ra xs) (hf : ∀ gs ∈ rs, gs.length ≤ 12) {n : Nat} (hv : VOk n rs) (hr : rs.length ≤ 10) (hn24 : n ≤ 24) {ks : List Int} (hk : KOk ks) (h0 : 0 < ks.length) : ∃ ord pls, Res rs ks n ord pls := by
  have hoff : ∀ f a b, (oneOrc 9 (.bool true)).orc f (a :: b) = none := fun f a b => oneOrc_off (by simp)
  have hsk : SlV 1 (.rsl ⟨0, 0, none⟩ 1 ks.length (ints ks)) (ints ks) := .rsl (by rw [ints_len]; exact h0)
  obtain ⟨nn, vk, σk, hrun, Hn, hHe, _, oid, pid, ord, pls, rfl, rfl, hop, hos, hpl, hpa⟩ := wpf_run (standT_fn (G := oneOrc 9 (.bool true)) h hf hoff hv hr hsk (fun ad cap e => by cases e; exact Nat.le_refl _) hk hn24 ⟨.e, 0, none⟩ (.start rfl (fun id _ => by simp [Tr.get_e]) List.nodup_nil (fun p hp => by cases hp)))
  exact ⟨ord, pls, hop, hos, hpl, hpa⟩
theorem own17_fn {rs : List (List Sc)} {ra : AV} {xs : List AV} (h : RV rs ra xs) (hf : ∀ gs ∈ rs, gs.length ≤ 12) {m : Nat} (hv : VOk m rs) (hr : rs.length ≤ 10) (hm : m ≤ 24) (o : Nat) {ks : List Int} {l : Nat} {rows : List (List AV)} (hl : l = rows.length) (hrows : rows = ints ks) (h0 : 0 < ks.length) (h1000 : ks.length ≤ 1000) :
    FnC Try.prog (gl6 rs ra m) 17 [.s (.int .i64 m), ra, .sl o 0 l none] [(o, .cells 32 1 false rows)] (fun v Hn => R17 rs ks m v Hn ∨ (v = .s (.tuple #[.slice none 0 0, .slice none 0 0, .int .i64 2]) ∧ Hn = [])) := fun σ hs => by
  subst hl
  have hT : ownT rs ra m 17 [.s (.int .i64 m), ra, .sl o 0 rows.length none] = some (own17 rs m (.sl o 0 rows.length none)) := by
    unfold ownT
    exact if_pos ⟨rfl, rfl⟩
  have horc : (gl6 rs ra m).orc 17 [.s (.int .i64 m), ra, .sl o 0 rows.length none] = some (own17 rs m (.sl o 0 rows.length none)) := by
    unfold gl6 overGl
    simp only [if_neg (by decide : ¬ (17 : Nat) = 6), hT]
  have hown : OwnS σ 1 (.sl o 0 rows.length none) (ints ks) := by
    subst hrows
    exact .sl (hs.get (o, _) (.head _))
  have hs0 : He σ [] σ [] [] := hs.sub trivial List.nodup_nil
  by_cases hk : KOk ks
  · obtain ⟨ord, pls, hres⟩ := res_ex h hf hv hr hm hk h0
    refine wpf_orc horc (own17_of ⟨hown, h1000, .inl ⟨hk, ord, pls, hres, rfl⟩⟩) ⟨[(σ.newId, .cells 3 1 false (ints ord)), ((σ.push (.cells 3 1 false (ints ord))).newId, .cells 3 1 true (ints pls))], ((hs0.push _).push _).perm (.swap ..), ?_, .inl ⟨_, _, ord, pls, rfl, rfl, hres⟩⟩
    have e1 : σ.newId = σ.next := AS.newId_none hs.slot
    have e2 : (σ.push (.cells 3 1 false (ints ord))).newId = (σ.push (.cells 3 1 false (ints ord))).next := AS.newId_none (hs0.push _).slot
    have e3 := AS.next_push_le σ (.cells 3 1 false (ints ord))
    intro p hp
    simp only [List.mem_cons, List.not_mem_nil, or_false] at hp
    rcases hp with rfl | rfl
    · show σ.next ≤ σ.newId
      omega
    · show σ.next ≤ (σ.push (.cells 3 1 false (ints ord))).newId
      omega
  · exact wpf_orc horc (own17_of ⟨hown, h1000, .inr ⟨hk, rfl⟩⟩) ⟨[], hs0, (fun p hp => by cases hp), .inr ⟨rfl, rfl⟩⟩
/-- The place of a player. -/
theorem Res.at_ {rs : List (List Sc)} {ks : List Int} {n : Nat} {ord pls : List Int} (h : Res rs ks n ord pls) {x : Nat} (hx : x < n) : (ints pls)[x]? = some [.s (.int .i64 (1 + (aheadN (keyOf rs ks) (iota n) x : Nat)))] := by
  have hol : ord.length = n := by rw [h.perm.length_eq, iota_len]
  have hom : ∀ a, a < n → 0 ≤ ord.getD a 0 ∧ ord.getD a 0 < n := fun a ha => iota_mem (h.perm.subset (getD_mem (by omega)))
  have hm : (x : Int) ∈ ord := h.perm.symm.subset (List.mem_map.2 ⟨x, List.mem_range.2 hx, rfl⟩)
  obtain ⟨a, ha, hae⟩ := List.mem_iff_getElem.1 hm
  have h1 := h.all a (by omega)
  have h2 := place_all (K := 1 + ks.length) hol hom (fun i _ => keyOf_len rs ks i) h.sort h.perm (a := a) (by omega)
  rw [getD_at _ ha, hae, Int.toNat_natCast] at h1
  rw [getD_at _ ha, hae, Int.toNat_natCast] at h2
  have hl := h.len
  rw [ints_getD _ (by omega), h1, h2]
#print axioms own17_fn
end Go.Proofs.Ytldckcopeiginaa
/- TiebreakHolds, walked: the standings with one kind more. -/
namespace Go.Proofs.Ytldckcopeiginaa
open Go.Ab
attribute [local irreducible] SC SL wpc wpl wpd wpf wpy wpn FnC FnW RdW SD
set_option maxRecDepth 100000
set_option pp.deepTerms false
set_option pp.maxSteps 900
set_option maxHeartbeats 4000000
theorem ints_cells (l : List Int) : (ints l).all (·.all isCell) = true := by
  rw [List.all_eq_true]
  intro r hr
  obtain ⟨n, _, rfl⟩ := List.mem_map.1 hr
  rfl
theorem rest_part {G : Gl} {rs : List (List Sc)} {ra : AV} {m : Nat} {B : AS} {ka : AV} {ks : List Int} (hk : SlV 1 ka (ints ks)) (hk6 : ks.length ≤ 6) {more : Int} {x y : Nat} (hxm : x < m) (hym : y < m)
    (h9 : FnC Try.prog G 9 [] [] (fun v Hn => v = .s (.bool true) ∧ Hn = [])) (h17 : FnC Try.prog G 17 [.s (.int .i64 m), ra, ka] [] (R17 rs ks m))
    (h17o : ∀ (o l : Nat) (rows : List (List AV)), l = rows.length → rows = ints (ks ++ [more]) → FnC Try.prog G 17 [.s (.int .i64 m), ra, .sl o 0 l none] [(o, .cells 32 1 false rows)] (fun v Hn => R17 rs (ks ++ [more]) m v Hn ∨ (v = .s (.tuple #[.slice none 0 0, .slice none 0 0, .int .i64 2]) ∧ Hn = []))) :
    SC Try.prog G B [] none (code6 10) [(0, .s (.int .i64 m)), (1, ra), (2, ka), (3, .s (.int .i64 more)), (15, .s (.int .i64 (wantT rs))), (16, .s (.int .i64 (wantT rs))), (17, .s (.int .i64 0)), (21, .s (.int .i64 x)), (22, .s (.int .i64 y))] 311 [] [] (Post Try.prog B Try.f6 (fun v Hn => v = .s (.bool true) ∧ Hn = [])) := by
  show SC _ _ _ _ _ (Code.seq _ _) _ _ _ _ _
  have hil := ints_len ks
  have hmore := places_more (rs := rs) (ks := ks) more hxm (y := y)
  rcases SlV.parts hk with ⟨ad, cap, rfl, he⟩ | ⟨ad, cap, rfl, h0⟩
  · obtain rfl : ks = [] := List.eq_nil_of_length_eq_zero (by rw [← ints_len, he]; rfl)
    repeat' (first
      | refine SL_append1_nil (by decide) (by rfl) (by rfl) (.head _) el37 (sliceOf_spec sl37).1 (by rfl) (by decide) (fun o2 ho2 => ?_)
      | refine SL_append_nil_nil (by decide) (by rfl) (by rfl) el37 (sliceOf_spec sl37).1 ?_
      | (refine SL_call (by decide) (by rfl) bd17 (by rfl) (by rfl) (h17o o2 _ _ (by simp [ints]) (by simp [ints])) ⟨.head _, trivial⟩ (by simp) ?_; rintro _ _ hB17o (⟨oid2, pid2, ord2, pls2, rfl, rfl, hres2⟩ | ⟨rfl, rfl⟩) <;> simp only [List.cons_append, List.nil_append])
      | (refine SL_call (by decide) (by rfl) bd17 (by rfl) (by rfl) h17 trivial List.nodup_nil ?_; rintro _ _ hB17 ⟨oid, pid, ord, pls, rfl, rfl, hres⟩; simp only [List.cons_append, List.nil_append])
      | (refine SL_call (by decide) (by rfl) bd9 (by rfl) (by rfl) (h9) trivial List.nodup_nil ?_; rintro _ _ _ ⟨rfl, rfl⟩; rw [List.nil_append])
      | refine SC_seq ?_
      | refine SC_region ?_
      | refine SL_seq ?_
      | refine SL_run (by rfl) (by rfl) ?_
      | refine SL_not (by rfl) (by rfl) (by rfl) (by decide) ?_
      | refine SL_move (by decide) (by rfl) ?_
      | refine SL_assign (by decide) (by rfl) ?_
      | refine SL_pick_t (by decide) (by rfl) (by rfl) ?_
      | refine SL_pick_f (by decide) (by rfl) (by rfl) ?_
      | (refine SL_eql (by decide) (by rfl) (by rfl) (fun hT => ?_) (fun hT => ?_) <;> first | (exfalso; omega) | skip)
      | (refine SL_neq (by decide) (by rfl) (by rfl) (fun hT => ?_) (fun hT => ?_) <;> first | (exfalso; omega) | skip)
      | refine SL_extract_tup (by decide) (by rfl) (by rfl) ?_
      | refine SL_extract_s (by decide) (by rfl) (by rfl) ?_
      | refine SL_len_sl (by decide) (by rfl) (by rfl) (sliceOf_spec (slF (by rfl))).1 ?_
      | refine SL_indexAddr_0 (by decide) (by rfl) (by rfl) (by repeat (first | exact .head _ | refine .tail _ ?_)) (slF (by rfl)) _ (by first | rfl | exact (Int.toNat_of_nonneg (by omega)).symm) (by omega) ?_
      | refine SL_build1 (by decide) (by rfl) (elF (by rfl)) (by rfl) (by rfl) (fun id hid => ?_)
      | refine SC_draw (by kernel_rfl) ?_
      | refine SC_cond_f (by rfl) ?_
      | (refine SC_skip' (fun tm σ hE hH => ?_); refine SC.app ?_ hE hH; clear hE hH; clear tm σ)
      | fail)
    · have hx1 := hres.at_ hxm
      have hy1 := hres.at_ hym
      have hx2 := hres2.at_ hxm
      have hy2 := hres2.at_ hym
      repeat' (first
        | (refine SL_call (by decide) (by rfl) bd9 (by rfl) (by rfl) (h9) trivial List.nodup_nil ?_; rintro _ _ _ ⟨rfl, rfl⟩; rw [List.nil_append])
        | refine SC_seq ?_
        | refine SC_region ?_
        | refine SL_seq ?_
        | refine SL_run (by rfl) (by rfl) ?_
        | refine SL_not (by rfl) (by rfl) (by rfl) (by decide) ?_
        | refine SL_move (by decide) (by rfl) ?_
        | refine SL_assign (by decide) (by rfl) ?_
        | refine SL_pick_t (by decide) (by rfl) (by rfl) ?_
        | refine SL_pick_f (by decide) (by rfl) (by rfl) ?_
        | (refine SL_lss (by decide) (by rfl) (by rfl) (fun hT => ?_) (fun hT => ?_) <;> first | (exfalso; omega) | skip)
        | (refine SL_geq (by decide) (by rfl) (by rfl) (fun hT => ?_) (fun hT => ?_) <;> first | (exfalso; omega) | skip)
        | refine SL_indexAddr_0 (by decide) (by rfl) (by rfl) (by repeat (first | exact .head _ | refine .tail _ ?_)) (slF (by rfl)) _ (by first | rfl | exact (Int.toNat_of_nonneg (by omega)).symm) (by omega) ?_
        | refine SL_load_o (by decide) (by rfl) (by repeat (first | exact .head _ | refine .tail _ ?_)) (rowF (by rfl)) (by first | assumption | rfl) (by rfl) ?_
        | refine SC_cond_f (by rfl) ?_
        | (refine SC_skip' (fun tm σ hE hH => ?_); refine SC.app ?_ hE hH; clear hE hH; clear tm σ)
        | fail)
      all_goals exact SC_ret (fun tm σ hE hH => Post.intro (Hn := []) (.inr rfl) hE hH (by rfl) trivial List.nodup_nil (fun p hp => by cases hp) ⟨rfl, rfl⟩)
    all_goals exact SC_ret (fun tm σ hE hH => Post.intro (Hn := []) (.inr rfl) hE hH (by rfl) trivial List.nodup_nil (fun p hp => by cases hp) ⟨rfl, rfl⟩)
  ·
    repeat' (first
      | refine SL_append1_own (by decide) (by rfl) (by rfl) (.tail .head) (by rfl) (.inl ho1) (.head _) el37 (sliceOf_spec sl37).1 (by rfl) (by rw [ints_len]; omega) (by rw [ints_len]; omega) (fun o2 ho2 => ?_)
      | refine SL_append_nil_r (by decide) (by rfl) (by rfl) el37 (sliceOf_spec sl37).1 (ints_cells ks) (by omega) (by rw [ints_len]; omega) (by rw [ints_len]; omega) (fun o1 ho1 => ?_)
      | (refine SL_call (by decide) (by rfl) bd17 (by rfl) (by rfl) (h17o o2 _ _ (by simp [ints]) (by simp [ints])) ⟨.head _, trivial⟩ (by simp) ?_; rintro _ _ hB17o (⟨oid2, pid2, ord2, pls2, rfl, rfl, hres2⟩ | ⟨rfl, rfl⟩) <;> simp only [List.cons_append, List.nil_append])
      | (refine SL_call (by decide) (by rfl) bd17 (by rfl) (by rfl) h17 trivial List.nodup_nil ?_; rintro _ _ hB17 ⟨oid, pid, ord, pls, rfl, rfl, hres⟩; simp only [List.cons_append, List.nil_append])
      | (refine SL_call (by decide) (by rfl) bd9 (by rfl) (by rfl) (h9) trivial List.nodup_nil ?_; rintro _ _ _ ⟨rfl, rfl⟩; rw [List.nil_append])
      | refine SC_seq ?_
      | refine SC_region ?_
      | refine SL_seq ?_
      | refine SL_run (by rfl) (by rfl) ?_
      | refine SL_not (by rfl) (by rfl) (by rfl) (by decide) ?_
      | refine SL_move (by decide) (by rfl) ?_
      | refine SL_assign (by decide) (by rfl) ?_
      | refine SL_pick_t (by decide) (by rfl) (by rfl) ?_
      | refine SL_pick_f (by decide) (by rfl) (by rfl) ?_
      | (refine SL_eql (by decide) (by rfl) (by rfl) (fun hT => ?_) (fun hT => ?_) <;> first | (exfalso; omega) | skip)
      | (refine SL_neq (by decide) (by rfl) (by rfl) (fun hT => ?_) (fun hT => ?_) <;> first | (exfalso; omega) | skip)
      | refine SL_extract_tup (by decide) (by rfl) (by rfl) ?_
      | refine SL_extract_s (by decide) (by rfl) (by rfl) ?_
      | refine SL_len_sl (by decide) (by rfl) (by rfl) (sliceOf_spec (slF (by rfl))).1 ?_
      | refine SL_indexAddr_0 (by decide) (by rfl) (by rfl) (by repeat (first | exact .head _ | refine .tail _ ?_)) (slF (by rfl)) _ (by first | rfl | exact (Int.toNat_of_nonneg (by omega)).symm) (by omega) ?_
      | refine SL_build1 (by decide) (by rfl) (elF (by rfl)) (by rfl) (by rfl) (fun id hid => ?_)
      | refine SC_draw (by kernel_rfl) ?_
      | refine SC_cond_f (by rfl) ?_
      | (refine SC_skip' (fun tm σ hE hH => ?_); refine SC.app ?_ hE hH; clear hE hH; clear tm σ)
      | fail)
    · have hx1 := hres.at_ hxm
      have hy1 := hres.at_ hym
      have hx2 := hres2.at_ hxm
      have hy2 := hres2.at_ hym
      repeat' (first
        | (refine SL_call (by decide) (by rfl) bd9 (by rfl) (by rfl) (h9) trivial List.nodup_nil ?_; rintro _ _ _ ⟨rfl, rfl⟩; rw [List.nil_append])
        | refine SC_seq ?_
        | refine SC_region ?_
        | refine SL_seq ?_
        | refine SL_run (by rfl) (by rfl) ?_
        | refine SL_not (by rfl) (by rfl) (by rfl) (by decide) ?_
        | refine SL_move (by decide) (by rfl) ?_
        | refine SL_assign (by decide) (by rfl) ?_
        | refine SL_pick_t (by decide) (by rfl) (by rfl) ?_
        | refine SL_pick_f (by decide) (by rfl) (by rfl) ?_
        | (refine SL_lss (by decide) (by rfl) (by rfl) (fun hT => ?_) (fun hT => ?_) <;> first | (exfalso; omega) | skip)
        | (refine SL_geq (by decide) (by rfl) (by rfl) (fun hT => ?_) (fun hT => ?_) <;> first | (exfalso; omega) | skip)
        | refine SL_indexAddr_0 (by decide) (by rfl) (by rfl) (by repeat (first | exact .head _ | refine .tail _ ?_)) (slF (by rfl)) _ (by first | rfl | exact (Int.toNat_of_nonneg (by omega)).symm) (by omega) ?_
        | refine SL_load_o (by decide) (by rfl) (by repeat (first | exact .head _ | refine .tail _ ?_)) (rowF (by rfl)) (by first | assumption | rfl) (by rfl) ?_
        | refine SC_cond_f (by rfl) ?_
        | (refine SC_skip' (fun tm σ hE hH => ?_); refine SC.app ?_ hE hH; clear hE hH; clear tm σ)
        | fail)
      all_goals exact SC_ret (fun tm σ hE hH => Post.intro (Hn := []) (.inr rfl) hE hH (by rfl) trivial List.nodup_nil (fun p hp => by cases hp) ⟨rfl, rfl⟩)
    all_goals exact SC_ret (fun tm σ hE hH => Post.intro (Hn := []) (.inr rfl) hE hH (by rfl) trivial List.nodup_nil (fun p hp => by cases hp) ⟨rfl, rfl⟩)
end Go.Proofs.Ytldckcopeiginaa
/- TiebreakHolds, walked. -/
namespace Go.Proofs.Ytldckcopeiginaa
open Go.Ab
attribute [local irreducible] SC SL wpc wpl wpd wpf wpy wpn FnC FnW RdW SD
set_option maxRecDepth 100000
set_option pp.deepTerms false
set_option pp.maxSteps 900
set_option maxHeartbeats 4000000
theorem k5_3 : kinds2 Try.prog 5 3 = some (.u8, .i64) := by kernel_rfl
theorem ownT_15 {rs : List (List Sc)} {ra : AV} {xs : List AV} (h : RV rs ra xs) (r : AV) (m : Nat) (n k i : Int) : ownT rs r m 15 [.s (.int .i64 n), ra, .s (.int .i64 k), .s (.int .i64 i)] = none := by
  have hs := h.sl
  generalize (xs.map fun x => [x]) = rows at hs
  cases hs <;> rfl
theorem ownT_17 {rs : List (List Sc)} (r a : AV) (m : Nat) (n : Int) {ka : AV} {rows : List (List AV)} (hk : SlV 1 ka rows) : ownT rs r m 17 [.s (.int .i64 n), a, ka] = none := by
  cases hk <;> rfl
theorem law6_good {rs : List (List Sc)} {ra : AV} {xs : List AV} (h : RV rs ra xs) (hfew : fewB rs 12 = true) (hr : rs.length ≤ 10) {m : Nat} (hv : VOk m rs) (hm24 : m ≤ 24) {ka : AV} {ks : List Int} (hk : SlV 1 ka (ints ks)) (hkc : ∀ ad cap, ka = .rsl ad 1 cap (ints ks) → ks.length ≤ cap) (hk6 : ks.length ≤ 6) (hko : KOk ks) (more a b : Int) (ha0 : 0 ≤ a) (ha : a ≤ 255) (hb0 : 0 ≤ b) (hb : b ≤ 255) :
    FnC Try.prog (gl6 rs ra m) 6 [.s (.int .i64 m), ra, ka, .s (.int .i64 more), .s (.int .u8 a), .s (.int .u8 b)] [] (fun v Hn => v = .s (.bool true) ∧ Hn = []) := by
  have hf := few_all hfew
  have ho9 : ∀ f a b, (oneOrc 9 (.bool true)).orc f (a :: b) = none := fun f a b => oneOrc_off (by simp)
  have ho : ∀ l, (gl6 rs ra m).orc 6 l = none := fun l => overGl_top l
  have h9 : FnC Try.prog (gl6 rs ra m) 9 [] [] (fun v Hn => v = .s (.bool true) ∧ Hn = []) := FnC.over given9 (Fn_orc (oneOrc_at _ _) ⟨rfl, rfl⟩) (by decide) rfl
  have h8 : FnC Try.prog (gl6 rs ra m) 8 _ [] _ := FnC.over given9 (few_fn h 12 (ho9 _ _ _)) (by decide) rfl
  have h12 : FnC Try.prog (gl6 rs ra m) 12 _ [] _ := FnC.over given9 (lawValid_fn h hf m (ho9 _ _ _)) (by decide) rfl
  have h18 : FnC Try.prog (gl6 rs ra m) 18 _ [] _ := FnC.over given9 (kinds_fn ho9 hk (by omega)) (by decide) rfl
  have h10 : FnC Try.prog (gl6 rs ra m) 10 _ [] _ := FnC.over given9 (api_t h hf hv ho9) (by decide) rfl
  have h20 : ∀ i x y : Int, FnC Try.prog (gl6 rs ra m) 20 _ [] _ := fun i x y => FnC.over given9 (other_fn ho9 i x y) (by decide) rfl
  have h15 : ∀ (i : Nat), i < m → ∀ k : Nat, 1 ≤ k → k ≤ 7 → FnC Try.prog (gl6 rs ra m) 15 [.s (.int .i64 m), ra, .s (.int .i64 k), .s (.int .i64 i)] [] (fun v Hn => v = .s (.tuple #[.int .i64 (valT rs i k), .int .i64 0]) ∧ Hn = []) := fun i hi k hk1 hk7 =>
    FnC.over given9 ((api15_t h hf ho9 hv hr i hi k hk1 hk7).mono fun v Hn hx => by obtain ⟨x, rfl, rfl, rfl⟩ := hx; exact ⟨rfl, rfl⟩) (by decide) (ownT_15 h _ _ _ _ _)
  have h17 : FnC Try.prog (gl6 rs ra m) 17 _ [] (R17 rs ks m) := FnC.over given9 ((standT_fn h hf ho9 hv hr hk hkc hko hm24).mono fun v Hn ⟨oid, pid, ord, pls, e1, e2, e3, e4, e5, e6⟩ => (⟨oid, pid, ord, pls, e1, e2, e3, e4, e5, e6⟩ : R17 rs ks m v Hn)) (by decide) (ownT_17 _ _ _ _ hk)
  rw [hfew] at h8
  rw [validB_t hv] at h12
  rw [kindsB_t hko] at h18
  have hsl := h.sl
  have hlen := h.len
  have hbig := h.big
  have hil := ints_len ks
  have hv1 := hv.1
  have hv2 := hv.2.1
  have hgok : ∀ gs ∈ rs, ∀ g ∈ gs, GOk m g := fun gs hgs g hgg => (hv.2.2.2 gs hgs).1 g hgg
  have hF := sumT_F hf hv
  refine Fn_body (N := 311) (ho _) Try.func6 rfl rfl fun B => ?_
  repeat' (first
    | (refine SL_call (by decide) (by rfl) bd10 (by rfl) (by rfl) h10 trivial List.nodup_nil ?_; rintro _ _ hB10 ⟨ida, rfl, rfl⟩; simp only [List.cons_append, List.nil_append])
    | refine SL_len_v (by decide) (by rfl) hk (by rfl) sl37 hil ?_
    | (refine SL_call (by decide) (by rfl) bd18 (by rfl) (by rfl) (h18) trivial List.nodup_nil ?_; rintro _ _ _ ⟨rfl, rfl⟩; rw [List.nil_append])
    | (refine SL_call (by decide) (by rfl) bd12 (by rfl) (by rfl) (h12) trivial List.nodup_nil ?_; rintro _ _ _ ⟨rfl, rfl⟩; rw [List.nil_append])
    | (refine SL_call (by decide) (by rfl) bd8 (by rfl) (by rfl) (h8) trivial List.nodup_nil ?_; rintro _ _ _ ⟨rfl, rfl⟩; rw [List.nil_append])
    | refine SC_seq ?_
    | refine SC_block ?_
    | refine SC_region ?_
    | refine SL_seq ?_
    | refine SL_run (by rfl) (by rfl) ?_
    | refine SL_move (by decide) (by rfl) ?_
    | refine SL_assign (by decide) (by rfl) ?_
    | refine SL_pick_f (by decide) (by rfl) (by rfl) ?_
    | refine SL_not_op (by decide) (by rfl) ?_
    | (refine SL_gtr (by decide) (by rfl) (by rfl) (fun hT => ?_) (fun hT => ?_) <;> first | (exfalso; omega) | skip)
    | (refine SL_neq (by decide) (by rfl) (by rfl) (fun hT => ?_) (fun hT => ?_) <;> first | (exfalso; omega) | skip)
    | refine SL_extract_tup (by decide) (by rfl) (by rfl) ?_
    | refine SL_len_v (by decide) (by rfl) (by assumption) (by rfl) (slF (by rfl)) (by simp only [List.length_map]; first | rfl | assumption) ?_
    | refine SL_len_sl (by decide) (by rfl) (by rfl) (sliceOf_spec (slF (by rfl))).1 ?_
    | refine SC_cond_f (by rfl) ?_
    | (refine SC_skip' (fun tm σ hE hH => ?_); refine SC.app ?_ hE hH; clear hE hH; clear tm σ)
    | fail)
  refine SC_loop (fun k : Nat => [(0, .s (.int .i64 m)), (1, ra), (2, ka), (3, .s (.int .i64 more)), (4, .s (.int .u8 a)), (5, .s (.int .u8 b)), (13, .sl ida 0 m none), (15, .s (.int .i64 0)), (16, .s (.int .i64 (wantT (rs.take k)))), (17, .s (.int .i64 (bothT (fun x : Nat => sumT rs x) (rs.take k)))), (18, .s (.int .i64 k))])
    (fun _ => [(ida, .cells 3 1 true (tab m (fun x => sumT rs x)))]) (fun _ => []) (fun k => k ≤ rs.length) (fun k => rs.length - k) 0 (by omega) ⟨rfl, rfl, rfl, rfl, rfl, rfl, rfl, rfl, rfl, rfl, rfl, trivial⟩ ⟨.head _, trivial⟩ (by simp) rfl ?_
  intro k hkk
  by_cases hlt : k < rs.length
  · obtain ⟨x, hx, hgx⟩ := h.row hlt
    unfold GV at hgx
    have hgs := hf rs[k] (List.getElem_mem hlt)
    have hrk := hgok rs[k] (List.getElem_mem hlt)
    have hw := wantT_bd (rs := rs.take k) (fun gs hg => hf gs (List.mem_of_mem_take hg)) (fun gs hg => hgok gs (List.mem_of_mem_take hg))
    have hbt := bothT_bd hF (rs := rs.take k) (fun gs hg => hf gs (List.mem_of_mem_take hg)) (fun gs hg => hgok gs (List.mem_of_mem_take hg))
    rw [List.length_take] at hw hbt
    repeat' (first
      | refine SC_seq ?_
      | refine SC_block ?_
      | refine SC_region ?_
      | refine SL_seq ?_
      | refine SL_move (by decide) (by rfl) ?_
      | refine SL_assign (by decide) (by rfl) ?_
      | (refine SL_lss (by decide) (by rfl) (by rfl) (fun hT => ?_) (fun hT => ?_) <;> first | (exfalso; omega) | skip)
      | refine SL_len_v (by decide) (by rfl) (by assumption) (by rfl) (slF (by rfl)) (by simp only [List.length_map]; first | rfl | assumption) ?_
      | refine SC_cond_t (by rfl) ?_
      | (refine SC_skip' (fun tm σ hE hH => ?_); refine SC.app ?_ hE hH; clear hE hH; clear tm σ)
      | fail)
    refine SC_loop (fun j : Nat => [(0, .s (.int .i64 m)), (1, ra), (2, ka), (3, .s (.int .i64 more)), (4, .s (.int .u8 a)), (5, .s (.int .u8 b)), (13, .sl ida 0 m none), (15, .s (.int .i64 0)), (16, .s (.int .i64 (wantT (rs.take k) + want1 (rs[k].take j)))), (17, .s (.int .i64 (bothT (fun x : Nat => sumT rs x) (rs.take k) + both1 (fun x : Nat => sumT rs x) (rs[k].take j)))), (18, .s (.int .i64 k)), (19, .s (.int .i64 j))])
      (fun _ => [(ida, .cells 3 1 true (tab m (fun x => sumT rs x)))]) (fun _ => []) (fun j => j ≤ rs[k].length) (fun j => rs[k].length - j) 0 (by omega) ⟨rfl, rfl, rfl, rfl, rfl, rfl, rfl, rfl, by rw [show want1 (rs[k].take 0) = 0 from rfl, Int.add_zero]; rfl, by rw [show both1 (fun x : Nat => sumT rs x) (rs[k].take 0) = 0 from rfl, Int.add_zero]; rfl, rfl, rfl, trivial⟩ ⟨.head _, trivial⟩ (by simp) rfl ?_
    intro j hj
    by_cases hjlt : j < rs[k].length
    · have hrow : (rs[k].map cells3)[j]? = some (cells3 rs[k][j]) := by rw [List.getElem?_map, List.getElem?_eq_getElem hjlt]; rfl
      have hgj := hrk rs[k][j] (List.getElem_mem hjlt)
      have hw1 := want1_bd (gs := rs[k].take j) fun g hg => hrk g (List.mem_of_mem_take hg)
      have hb1 := both1_bd hF (gs := rs[k].take j) fun g hg => hrk g (List.mem_of_mem_take hg)
      rw [List.length_take] at hw1 hb1
      obtain ⟨g1, g2, g3, g4, g5, g6⟩ := hgj
      have hmw : ∀ z : Nat, z < m → (0 ≤ rs[k][j].p * sumT rs z ∧ rs[k][j].p * sumT rs z ≤ 2000) ∧ (0 ≤ (2 - rs[k][j].p) * sumT rs z ∧ (2 - rs[k][j].p) * sumT rs z ≤ 2000) := fun z hz => ⟨mulp_bd g5 g6 (hF z hz).1 (hF z hz).2, mulp_bd (by omega) (by omega) (hF z hz).1 (hF z hz).2⟩
      have hmw1 := hmw rs[k][j].w.toNat (by omega)
      have hmb1 := fun hb0 : 0 ≤ rs[k][j].b => hmw rs[k][j].b.toNat (by omega)
      repeat' (first
        | refine SL_mul (by decide) (by rfl) (by rfl) (by omega) (by omega) ?_
        | (refine SD_nil (fun tm σ hE hH => ⟨[], _, _, _, _, rfl, hE, hH, fun _ h => (by cases h), ?_⟩); clear hE hH; clear tm σ; intro tm σ hE hH; refine SC.app ?_ hE hH; clear hE hH; clear tm σ)
        | (refine SC_drawn (id := 17) (pl := [(0, []), (1, []), (2, []), (3, []), (4, []), (5, []), (6, []), (7, []), (8, []), (9, []), (10, []), (11, []), (12, []), (13, []), (14, []), (15, []), (16, []), (17, []), (18, []), (19, []), (20, [])]) (by kernel_rfl) (by kernel_rfl) ?_; intro B' base hb1 hb2 hb3 hb4)
        | refine SC_seq ?_
        | refine SC_block ?_
        | refine SC_region ?_
        | refine SL_seq ?_
        | (refine SL_nil (fun tm σ hE hH => ?_); refine SC.app ?_ hE hH; clear hE hH; clear tm σ)
        | refine SL_move (by decide) (by rfl) ?_
        | refine SL_assign (by decide) (by rfl) ?_
        | refine SL_add (by decide) (by rfl) (by rfl) (by omega) (by omega) ?_
        | refine SL_sub (by decide) (by rfl) (by rfl) (by omega) (by omega) ?_
        | (refine SL_lss (by decide) (by rfl) (by rfl) (fun hT => ?_) (fun hT => ?_) <;> first | (exfalso; omega) | skip)
        | refine SL_fieldAddr (by decide) (by rfl) (fldF (by rfl)) ?_
        | refine SL_len_v (by decide) (by rfl) (by assumption) (by rfl) (slF (by rfl)) (by simp only [List.length_map]; first | rfl | assumption) ?_
        | refine SL_indexAddr_v (by decide) (by rfl) (by rfl) (by assumption) (slF (by rfl)) _ (by first | rfl | exact (Int.toNat_of_nonneg (by omega)).symm) (by simp only [List.length_map]; omega) (fun ad => ?_)
        | refine SL_indexAddr_0 (by decide) (by rfl) (by rfl) (by repeat (first | exact .head _ | refine .tail _ ?_)) (slF (by rfl)) _ (by first | rfl | exact (Int.toNat_of_nonneg (by omega)).symm) (by omega) ?_
        | refine SL_load_r (by decide) (by rfl) (rowF (by rfl)) (by first | assumption | rfl | exact tab_get _ _ (by omega)) (by rfl) ?_
        | refine SL_load_rr (by decide) (by rfl) (rowF (by rfl)) (by first | assumption | rfl | exact tab_get _ _ (by omega)) (Nat.le_of_ble_eq_true (by rfl)) (by first | exact mk3 _ | rfl) ?_
        | refine SL_load_o (by decide) (by rfl) (by repeat (first | exact .head _ | refine .tail _ ?_)) (rowF (by rfl)) (by first | assumption | rfl | exact tab_get _ _ (by omega)) (by rfl) ?_
        | refine SL_store_box (by rfl) (by rfl) (by first | exact cells_3 _ _ _ | rfl) (by repeat (first | exact .head | apply Upd.tail)) (by first | exact .inl (by assumption) | exact .inr (by simp)) (by rfl) (szF (by rfl)) (by rfl) ?_
        | refine SL_alloc (by decide) (zeroF (by rfl)) (fun id hid => ?_)
        | refine SC_cond_t (by rfl) ?_
        | refine SC_cond_f (by rfl) ?_
        | (refine SC_skip' (fun tm σ hE hH => ?_); refine SC.app ?_ hE hH; clear hE hH; clear tm σ)
        | (refine SL_nil (fun tm σ hE hH => ⟨_, _, _, _, rfl, hE, hH, ?_⟩); clear hE hH; clear tm σ)
        | refine SD_op _ [] (by rfl) (by rfl) (fun _ h => h) (fun p hp => by cases hp) (fun k hk => by cases hk) (.inl rfl) ?_
        | fail)
      · refine SL_nil fun tm σ hE hH => ⟨j + 1, by omega, by omega, tm, σ, rfl, hE.sub ⟨rfl, rfl, rfl, rfl, rfl, rfl, rfl, rfl, ?_, ?_, rfl, rfl, trivial⟩, hH.sub ⟨.tail _ (.head _), trivial⟩ (by simp)⟩
        · rw [want1_next hjlt, ← Int.add_assoc, show wantG rs[k][j] = rs[k][j].p from if_pos (by assumption)]; rfl
        · rw [both1_next _ hjlt, ← Int.add_assoc, show bothG (fun x : Nat => sumT rs x) rs[k][j] = 0 from if_pos (by assumption), Int.add_zero]; rfl
      · refine SL_nil fun tm σ hE hH => ⟨j + 1, by omega, by omega, tm, σ, rfl, hE.sub ⟨rfl, rfl, rfl, rfl, rfl, rfl, rfl, rfl, ?_, ?_, rfl, rfl, trivial⟩, hH.sub ⟨.tail _ (.head _), trivial⟩ (by simp)⟩
        · rw [want1_next hjlt, ← Int.add_assoc, show wantG rs[k][j] = 2 from if_neg (by omega)]; rfl
        · rw [both1_next _ hjlt, ← Int.add_assoc, show bothG (fun x : Nat => sumT rs x) rs[k][j] = rs[k][j].p * sumT rs (rs[k][j].b.toNat : Nat) + (2 - rs[k][j].p) * sumT rs (rs[k][j].w.toNat : Nat) from if_neg (by omega), ← Int.add_assoc]; rfl
    · obtain rfl : j = rs[k].length := by omega
      rw [List.take_length]
      repeat' (first
        | refine SC_seq ?_
        | refine SC_region ?_
        | refine SL_seq ?_
        | refine SL_move (by decide) (by rfl) ?_
        | refine SL_assign (by decide) (by rfl) ?_
        | refine SL_add (by decide) (by rfl) (by rfl) (by omega) (by omega) ?_
        | (refine SL_lss (by decide) (by rfl) (by rfl) (fun hT => ?_) (fun hT => ?_) <;> first | (exfalso; omega) | skip)
        | refine SL_len_v (by decide) (by rfl) (by assumption) (by rfl) (slF (by rfl)) (by simp only [List.length_map]; first | rfl | assumption) ?_
        | refine SL_indexAddr_v (by decide) (by rfl) (by rfl) (by assumption) (slF (by rfl)) _ (by first | rfl | exact (Int.toNat_of_nonneg (by omega)).symm) (by simp only [List.length_map]; omega) (fun ad => ?_)
        | refine SL_load_r (by decide) (by rfl) (rowF (by rfl)) (by first | assumption | rfl | exact tab_get _ _ (by omega)) (by rfl) ?_
        | refine SC_cond_f (by rfl) ?_
        | (refine SC_exit (fun tm σ hE hH => ?_); refine SC.app ?_ hE hH; clear hE hH; clear tm σ)
        | fail)
      exact SL_nil fun tm σ hE hH => ⟨k + 1, by omega, by omega, tm, σ, rfl, hE.sub ⟨rfl, rfl, rfl, rfl, rfl, rfl, rfl, rfl, by rw [wantT_next hlt]; rfl, by rw [bothT_next _ hlt]; rfl, rfl, trivial⟩, hH⟩
  · obtain rfl : k = rs.length := by omega
    rw [List.take_length]
    repeat' (first
      | (refine SD_nil (fun tm σ hE hH => ⟨[], _, _, _, _, rfl, hE, hH, fun _ h => (by cases h), ?_⟩); clear hE hH; clear tm σ; intro tm σ hE hH; refine SC.app ?_ hE hH; clear hE hH; clear tm σ)
      | refine SL_rem (by decide) (by rfl) (by rfl) (by omega) (by omega) ?_
      | refine SL_conv (by decide) (by rfl) k5_3 (IntWalk.i64_in _ ⟨by omega, by omega⟩) ?_
      | (refine SC_drawn (id := 18) (pl := [(0, []), (1, []), (2, []), (3, []), (4, []), (5, []), (6, []), (7, []), (8, []), (9, [])]) (by kernel_rfl) (by kernel_rfl) ?_; intro B' base hb1 hb2 hb3 hb4)
      | refine SC_seq ?_
      | refine SC_block ?_
      | refine SC_region ?_
      | refine SL_seq ?_
      | refine SL_move (by decide) (by rfl) ?_
      | refine SL_assign (by decide) (by rfl) ?_
      | (refine SL_lss (by decide) (by rfl) (by rfl) (fun hT => ?_) (fun hT => ?_) <;> first | (exfalso; omega) | skip)
      | refine SL_len_v (by decide) (by rfl) (by assumption) (by rfl) (slF (by rfl)) (by simp only [List.length_map]; first | rfl | assumption) ?_
      | refine SC_cond_f (by rfl) ?_
      | (refine SC_exit (fun tm σ hE hH => ?_); refine SC.app ?_ hE hH; clear hE hH; clear tm σ)
      | (refine SL_nil (fun tm σ hE hH => ⟨_, _, _, _, rfl, hE, hH, ?_⟩); clear hE hH; clear tm σ)
      | refine SD_op _ [] (by rfl) (by rfl) (fun _ h => h) (fun p hp => by cases hp) (fun k hk => by cases hk) (.inl rfl) ?_
      | fail)
    obtain ⟨x, hx⟩ : ∃ x : Nat, a % m = x := ⟨(a % m).toNat, by have := Int.emod_nonneg a (b := m) (by omega); omega⟩
    obtain ⟨y, hy⟩ : ∃ y : Nat, b % m = y := ⟨(b % m).toNat, by have := Int.emod_nonneg b (b := m) (by omega); omega⟩
    have hxm : x < m := by have := Int.emod_lt_of_pos a (b := m) (by omega); omega
    have hym : y < m := by have := Int.emod_lt_of_pos b (b := m) (by omega); omega
    rw [hx, hy]
    refine SC.sub (swap_part (x := x) (y := y) h20 h hf hr ?_) ⟨rfl, rfl, rfl, rfl, rfl, rfl, rfl, rfl, rfl, rfl, rfl, rfl, trivial⟩
    intro vs HG oid tm σ hsw hod hoo hE hH
    refine SC.app ?_ hE hH
    clear hE hH
    clear tm σ
    have hswl : (swR x y rs).length = rs.length := by simp [swR]
    repeat' (first
      | refine SC_seq ?_
      | refine SC_block ?_
      | refine SC_region ?_
      | refine SL_seq ?_
      | refine SL_assign (by decide) (by rfl) ?_
      | fail)
    refine SC_nd fun hnd => ?_
    refine SC_perm (H' := (ida, .cells 3 1 true (tab m (fun x => sumT rs x))) :: (swHo vs oid ++ HG)) List.perm_middle ?_
    have hnds : ((swHo vs oid ++ HG).map (·.1)).Nodup := hnd.sublist (((List.sublist_cons_self _ _).append_left _).map _)
    refine SC.sub (vals_part (x := x) (y := y) (sw := ordV rs.length oid) h20 hf hv hxm hym h15 (fun i hi k hk1 hk7 => ?_) ?_) ⟨rfl, rfl, rfl, rfl, rfl, rfl, rfl, rfl, rfl, rfl, rfl, rfl, trivial⟩
    · rw [← hswl]
      refine own_value hsw (fun e => by rw [hod e]; rfl) (swR_ok (by omega) (by omega) (by omega) (by omega) hv) (by omega) (fun gs hgs => ?_) hi hk1 hk7 hnds
      obtain ⟨gs, hg, rfl⟩ := List.mem_map.1 hgs
      rw [List.length_map]
      exact hf gs hg
    · intro tm σ hE hH
      refine SC.app ?_ hE hH
      exact rest_part hk hk6 hxm hym h9 h17 fun o l rows hl hrows => own17_fn h hf hv hr hm24 o hl hrows (by simp) (by rw [List.length_append, List.length_singleton]; omega)
end Go.Proofs.Ytldckcopeiginaa
/- TiebreakStands, walked. -/
namespace Go.Proofs.Ytldckcopeiginaa
open Go.Ab
attribute [local irreducible] SC SL wpc wpl wpd wpf wpy wpn FnC FnW RdW SD
set_option maxRecDepth 100000
set_option pp.deepTerms false
set_option pp.maxSteps 900
set_option maxHeartbeats 4000000
theorem law5_fn {rs : List (List Sc)} {ra : AV} {xs : List AV} (h : RV rs ra xs) (n : Int) {ka : AV} {ks : List Int} (hk : SlV 1 ka (ints ks)) (hkc : ∀ ad cap, ka = .rsl ad 1 cap (ints ks) → ks.length ≤ cap) (hkl : ks.length ≤ 9223372036854775807) :
    FnC Try.prog (oneOrc 9 (.bool true)) 5 [.s (.int .i64 n), ra, ka] [] (fun v Hn => v = .s (.bool true) ∧ Hn = []) := by
  have ho : ∀ f a b, (oneOrc 9 (.bool true)).orc f (a :: b) = none := fun f a b => oneOrc_off (by simp)
  have h9 : FnC Try.prog (oneOrc 9 (.bool true)) 9 [] [] (fun v Hn => v = .s (.bool true) ∧ Hn = []) := Fn_orc (oneOrc_at _ _) ⟨rfl, rfl⟩
  generalize oneOrc 9 (.bool true) = G at ho h9 ⊢
  have h8 := few_fn (G := G) h 12 (ho _ _ _)
  have hsl := h.sl
  have hlen := h.len
  have hbig := h.big
  have hil := ints_len ks
  cases hfew : fewB rs 12 with
  | false =>
    rw [hfew] at h8
    refine Fn_body (N := 172) (ho _ _ _) Try.func5 rfl rfl fun B => ?_
    repeat' (first
      | (refine SL_call (by decide) (by rfl) bd9 (by rfl) (by rfl) (h9) trivial List.nodup_nil ?_; rintro _ _ _ ⟨rfl, rfl⟩; rw [List.nil_append])
      | (refine SL_call (by decide) (by rfl) bd8 (by rfl) (by rfl) (h8) trivial List.nodup_nil ?_; rintro _ _ _ ⟨rfl, rfl⟩; rw [List.nil_append])
      | refine SC_seq ?_
      | refine SC_region ?_
      | refine SL_seq ?_
      | refine SL_not (by rfl) (by rfl) (by rfl) (by decide) ?_
      | refine SL_notu (by rfl) (by rfl) (by decide) ?_
      | refine SL_move (by decide) (by rfl) ?_
      | refine SL_assign (by decide) (by rfl) ?_
      | refine SL_pick_t (by decide) (by rfl) (by rfl) ?_
      | refine SL_not_op (by decide) (by rfl) ?_
      | refine SC_cond_t (by rfl) ?_
      | fail)
    all_goals exact SC_ret (fun tm σ hE hH => Post.intro (Hn := []) (.inr rfl) hE hH (by rfl) trivial List.nodup_nil (fun p hp => by cases hp) ⟨rfl, rfl⟩)
  | true =>
    rw [hfew] at h8
    have hf := few_all hfew
    by_cases hc : rs.length ≤ 10 ∧ ks.length ≤ 9 ∧ ¬ (24 < n ∧ n ≤ 200)
    · obtain ⟨hr, hk9, hn24⟩ := hc
      have h12 := lawValid_fn h hf n (G := G) (ho _ _ _)
      have h18 := kinds_fn ho hk hkl
      by_cases hall : VOk n rs ∧ KOk ks
      · obtain ⟨hv, hko⟩ := hall
        obtain ⟨m, rfl⟩ : ∃ m : Nat, n = m := ⟨n.toNat, by have := hv.1; omega⟩
        have hm24 : m ≤ 24 := by have := hv.2.1; omega
        have hm2 := hv.1
        rw [validB_t hv] at h12
        rw [kindsB_t hko] at h18
        have h17t := standT_fn (G := G) h hf ho hv hr hk hkc hko hm24
        have h14 := lawScores_fn h hf hv (G := G) (ho _ _ _) (fun _ _ => ho _ _ _)
        have h19 := fun a b ha hb sc => ahead_fn (G := G) h hf ho hv hk hko a b ha hb sc
        refine Fn_body (N := 172) (ho _ _ _) Try.func5 rfl rfl fun B => ?_
        repeat' (first
          | (refine SL_call (by decide) (by rfl) bd14 (by rfl) (by rfl) h14 trivial List.nodup_nil ?_; rintro _ _ hB14 ⟨ida, rfl, rfl⟩; simp only [List.cons_append, List.nil_append])
          | (refine SL_call (by decide) (by rfl) bd17 (by rfl) (by rfl) h17t trivial List.nodup_nil ?_; rintro _ _ hB17 ⟨oid, pid, ord, pls, rfl, rfl, hop, hos, hpl, hpa⟩; simp only [List.cons_append, List.nil_append])
          | refine SL_len_v (by decide) (by rfl) hk (by rfl) sl37 hil ?_
          | (refine SL_call (by decide) (by rfl) bd18 (by rfl) (by rfl) (h18) trivial List.nodup_nil ?_; rintro _ _ _ ⟨rfl, rfl⟩; rw [List.nil_append])
          | (refine SL_call (by decide) (by rfl) bd12 (by rfl) (by rfl) (h12) trivial List.nodup_nil ?_; rintro _ _ _ ⟨rfl, rfl⟩; rw [List.nil_append])
          | (refine SL_call (by decide) (by rfl) bd8 (by rfl) (by rfl) (h8) trivial List.nodup_nil ?_; rintro _ _ _ ⟨rfl, rfl⟩; rw [List.nil_append])
          | refine SC_seq ?_
          | refine SC_block ?_
          | refine SC_region ?_
          | refine SL_seq ?_
          | refine SL_run (by rfl) (by rfl) ?_
          | refine SL_not (by rfl) (by rfl) (by rfl) (by decide) ?_
          | refine SL_move (by decide) (by rfl) ?_
          | refine SL_assign (by decide) (by rfl) ?_
          | refine SL_pick_f (by decide) (by rfl) (by rfl) ?_
          | refine SL_not_op (by decide) (by rfl) ?_
          | (refine SL_gtr (by decide) (by rfl) (by rfl) (fun hT => ?_) (fun hT => ?_) <;> first | (exfalso; omega) | skip)
          | (refine SL_neq (by decide) (by rfl) (by rfl) (fun hT => ?_) (fun hT => ?_) <;> first | (exfalso; omega) | skip)
          | refine SL_extract_tup (by decide) (by rfl) (by rfl) ?_
          | refine SL_len_v (by decide) (by rfl) (by assumption) (by rfl) (slF (by rfl)) (by simp only [List.length_map]; first | rfl | assumption) ?_
          | refine SL_len_sl (by decide) (by rfl) (by rfl) (sliceOf_spec (slF (by rfl))).1 ?_
          | refine SL_makeSlice (by decide) (by rfl) (by rfl) (elF (by rfl)) (by omega) (by omega) (by omega) (by omega) (fun id hid => ?_)
          | refine SC_cond_f (by rfl) ?_
          | (refine SC_skip' (fun tm σ hE hH => ?_); refine SC.app ?_ hE hH; clear hE hH; clear tm σ)
          | fail)
        obtain ⟨sid, hsid, rfl⟩ : ∃ b, B.next ≤ b ∧ b = id := ⟨id, hid, rfl⟩
        refine SC_nd fun hnd0 => ?_
        have hol : ord.length = m := by rw [hop.length_eq, iota_len]
        have hon : ord.Nodup := hop.symm.nodup (iota_nodup m)
        have hom : ∀ a, a < m → 0 ≤ ord.getD a 0 ∧ ord.getD a 0 < m := fun a ha => iota_mem (hop.subset (getD_mem (by omega)))
        refine SC_loop (fun i : Nat => [(0, .s (.int .i64 m)), (1, ra), (2, ka), (7, .sl oid 0 m none), (8, .sl pid 0 m none), (10, .sl ida 0 m none), (11, .sl sid 0 m none), (12, .s (.int .i64 i))])
          (fun i => [(sid, .cells 4 1 true (seenR m (ord.take i))), (ida, .cells 3 1 true (tab m (fun x => sumT rs x))), (oid, .cells 3 1 false (ints ord)), (pid, .cells 3 1 true (ints pls))]) (fun _ => []) (fun i => i ≤ m) (fun i => m - i) 0 (by omega) ⟨rfl, rfl, rfl, rfl, rfl, rfl, rfl, rfl, trivial⟩ (by rw [List.take_zero, ← seenR_0]; exact .refl _) hnd0 rfl ?_
        intro i hi
        by_cases hilt : i < m
        · obtain ⟨x, hx⟩ : ∃ x : Nat, ord.getD i 0 = x := ⟨(ord.getD i 0).toNat, by have := hom i hilt; omega⟩
          have hxm : x < m := by have := hom i hilt; omega
          have hgx : (ints ord)[i]? = some [.s (.int .i64 x)] := by rw [ints_getD _ (by omega), hx]
          have hgs : (seenR m (ord.take i))[x]? = some [.s (.bool false)] := by
            rw [seenR_get _ _ hxm, decide_eq_false (fun hm => by
              obtain ⟨q, h1, h2, h3⟩ := take_mem.1 hm
              exact getD_ne hon (p := q) (q := i) h2 (by omega) (by omega) (by rw [h3, hx]))]
          have hpx : pls.getD x 0 = 1 + (aheadN (keyOf rs ks) (iota m) x : Nat) := by
            have h1 := hpa i hilt
            have h2 := place_all (K := 1 + ks.length) hol hom (fun i _ => keyOf_len rs ks i) hos hop hilt
            rw [hx, Int.toNat_natCast] at h1 h2
            rw [h1, h2]
          have hgp : (ints pls)[x]? = some [.s (.int .i64 (1 + (aheadN (keyOf rs ks) (iota m) x : Nat)))] := by rw [ints_getD _ (by omega), hpx]
          have htk : seenR m (ord.take (i + 1)) = seenR m (ord.take i ++ [(x : Int)]) := by rw [List.take_succ_eq_append_getElem (by omega), ← getD_at _ (by omega), hx]
          repeat' (first
            | refine SC_seq ?_
            | refine SC_block ?_
            | refine SC_region ?_
            | refine SL_seq ?_
            | refine SL_run (by rfl) (by rfl) ?_
            | refine SL_move (by decide) (by rfl) ?_
            | refine SL_assign (by decide) (by rfl) ?_
            | refine SL_pick_f (by decide) (by rfl) (by rfl) ?_
            | (refine SL_lss (by decide) (by rfl) (by rfl) (fun hT => ?_) (fun hT => ?_) <;> first | (exfalso; omega) | skip)
            | (refine SL_geq (by decide) (by rfl) (by rfl) (fun hT => ?_) (fun hT => ?_) <;> first | (exfalso; omega) | skip)
            | refine SL_indexAddr_0 (by decide) (by rfl) (by rfl) (by repeat (first | exact .head _ | refine .tail _ ?_)) (slF (by rfl)) _ (by first | rfl | exact (Int.toNat_of_nonneg (by omega)).symm) (by omega) ?_
            | (refine SL_load_ob (by decide) (by rfl) (by repeat (first | exact .head _ | refine .tail _ ?_)) (rowF (by rfl)) (by first | assumption | rfl | exact ints_getD _ (by omega)) (by rfl) (fun hT => ?_) (fun hT => ?_) <;> first | (exfalso; simp at hT; done) | skip)
            | refine SL_load_o (by decide) (by rfl) (by repeat (first | exact .head _ | refine .tail _ ?_)) (rowF (by rfl)) (by first | assumption | rfl | exact ints_getD _ (by omega)) (by rfl) ?_
            | refine SL_store_n (by rfl) (by rfl) (by repeat (first | exact .head _ | refine .tail _ ?_)) (by first | assumption | rfl | exact ints_getD _ (by omega)) (by rfl) (by first | exact seenR_set' _ _ (by omega) _ | rfl) (by repeat (first | exact .head | apply Upd.tail)) (by first | exact .inl (by assumption) | exact .inr (by simp)) (szF (by rfl)) (Nat.le_of_ble_eq_true (by rfl)) (by rfl) ?_
            | refine SC_cond_t (by rfl) ?_
            | refine SC_cond_f (by rfl) ?_
            | (refine SC_skip' (fun tm σ hE hH => ?_); refine SC.app ?_ hE hH; clear hE hH; clear tm σ)
            | fail)
          refine SC_nd fun hnd1 => ?_
          refine SC_loop (fun b : Nat => [(0, .s (.int .i64 m)), (1, ra), (2, ka), (7, .sl oid 0 m none), (8, .sl pid 0 m none), (10, .sl ida 0 m none), (11, .sl sid 0 m none), (12, .s (.int .i64 i)), (13, .s (.int .i64 x)), (14, .s (.int .i64 (1 + (aheadN (keyOf rs ks) (iota b) x : Nat)))), (15, .s (.int .i64 b))])
            (fun _ => [(sid, .cells 4 1 true (seenR m (ord.take i ++ [(x : Int)]))), (ida, .cells 3 1 true (tab m (fun x => sumT rs x))), (oid, .cells 3 1 false (ints ord)), (pid, .cells 3 1 true (ints pls))]) (fun _ => []) (fun b => b ≤ m) (fun b => m - b) 0 (by omega) ⟨rfl, rfl, rfl, rfl, rfl, rfl, rfl, rfl, rfl, rfl, rfl, trivial⟩ (.refl _) hnd1 rfl ?_
          intro b hb
          have hcb : aheadN (keyOf rs ks) (iota b) x ≤ b := by have := List.countP_le_length (p := fun y : Int => decide (lexC (keyOf rs ks x) (keyOf rs ks y.toNat) < 0)) (l := iota b); rw [iota_len] at this; exact this
          have hcn := aheadN_next (keyOf rs ks) x b
          by_cases hblt : b < m
          ·
            repeat' (first
              | (refine SL_call (by decide) (by rfl) bd19 (by rfl) (by rfl) (h19 b x (by omega) hxm ida) ⟨.tail _ (.head _), trivial⟩ (by simp) ?_; rintro _ _ _ ⟨rfl, rfl⟩; rw [List.nil_append]; refine SL_bool (i := 124) (by rfl) (fun hT => ?_) (fun hT => ?_))
              | refine SC_seq ?_
              | refine SC_block ?_
              | refine SC_region ?_
              | refine SL_seq ?_
              | (refine SL_nil (fun tm σ hE hH => ?_); refine SC.app ?_ hE hH; clear hE hH; clear tm σ)
              | refine SL_move (by decide) (by rfl) ?_
              | refine SL_assign (by decide) (by rfl) ?_
              | refine SL_add (by decide) (by rfl) (by rfl) (by omega) (by omega) ?_
              | (refine SL_lss (by decide) (by rfl) (by rfl) (fun hT => ?_) (fun hT => ?_) <;> first | (exfalso; omega) | skip)
              | refine SC_cond_t (by rfl) ?_
              | refine SC_cond_f (by rfl) ?_
              | (refine SC_skip' (fun tm σ hE hH => ?_); refine SC.app ?_ hE hH; clear hE hH; clear tm σ)
              | fail)
            · refine SL_nil fun tm σ hE hH => ⟨b + 1, by omega, by omega, tm, σ, rfl, hE.sub ⟨rfl, rfl, rfl, rfl, rfl, rfl, rfl, rfl, rfl, ?_, rfl, trivial⟩, hH⟩
              rw [hcn, if_pos (of_decide_eq_true hT)]
              exact congrArg (fun z => some (AV.s (Value.int .i64 z))) (by omega)
            · refine SL_nil fun tm σ hE hH => ⟨b + 1, by omega, by omega, tm, σ, rfl, hE.sub ⟨rfl, rfl, rfl, rfl, rfl, rfl, rfl, rfl, rfl, ?_, rfl, trivial⟩, hH⟩
              rw [hcn, if_neg (of_decide_eq_false hT), Nat.add_zero]; rfl
          · obtain rfl : b = m := by omega
            by_cases hi0 : i = 0
            · subst hi0
              repeat' (first
                | refine SC_seq ?_
                | refine SC_region ?_
                | refine SL_seq ?_
                | refine SL_run (by rfl) (by rfl) ?_
                | refine SL_not (by rfl) (by rfl) (by rfl) (by decide) ?_
                | refine SL_notu (by rfl) (by rfl) (by decide) ?_
                | refine SL_move (by decide) (by rfl) ?_
                | refine SL_assign (by decide) (by rfl) ?_
                | refine SL_pick_f (by decide) (by rfl) (by rfl) ?_
                | refine SL_add (by decide) (by rfl) (by rfl) (by omega) (by omega) ?_
                | (refine SL_lss (by decide) (by rfl) (by rfl) (fun hT => ?_) (fun hT => ?_) <;> first | (exfalso; omega) | skip)
                | (refine SL_gtr (by decide) (by rfl) (by rfl) (fun hT => ?_) (fun hT => ?_) <;> first | (exfalso; omega) | skip)
                | (refine SL_neq (by decide) (by rfl) (by rfl) (fun hT => ?_) (fun hT => ?_) <;> first | (exfalso; omega) | skip)
                | refine SL_indexAddr_0 (by decide) (by rfl) (by rfl) (by repeat (first | exact .head _ | refine .tail _ ?_)) (slF (by rfl)) _ (by first | rfl | exact (Int.toNat_of_nonneg (by omega)).symm) (by omega) ?_
                | refine SL_load_o (by decide) (by rfl) (by repeat (first | exact .head _ | refine .tail _ ?_)) (rowF (by rfl)) (by first | assumption | rfl | exact ints_getD _ (by omega)) (by rfl) ?_
                | refine SC_cond_f (by rfl) ?_
                | (refine SC_exit (fun tm σ hE hH => ?_); refine SC.app ?_ hE hH; clear hE hH; clear tm σ)
                | (refine SC_skip' (fun tm σ hE hH => ?_); refine SC.app ?_ hE hH; clear hE hH; clear tm σ)
                | fail)
              all_goals exact SL_nil fun tm σ hE hH => ⟨0 + 1, by omega, by omega, tm, σ, rfl, hE.sub ⟨rfl, rfl, rfl, rfl, rfl, rfl, rfl, rfl, trivial⟩, by rw [htk]; exact hH⟩
            · obtain ⟨y, hy⟩ : ∃ y : Nat, ord.getD (i - 1) 0 = y := ⟨(ord.getD (i - 1) 0).toNat, by have := hom (i - 1) (by omega); omega⟩
              have hym : y < b := by have := hom (i - 1) (by omega); omega
              have hgy : (ints ord)[i - 1]? = some [.s (.int .i64 y)] := by rw [ints_getD _ (by omega), hy]
              have hq : lexC (keyOf rs ks x) (keyOf rs ks y) < 0 ∨ (lexC (keyOf rs ks x) (keyOf rs ks y) = 0 ∧ (y : Int) < x) := by
                have := hos (i - 1) i (Nat.zero_le _) (by omega) hilt
                unfold ltK at this
                rw [hx, hy, Int.toNat_natCast, Int.toNat_natCast] at this
                exact this
              have hn1 : ¬ lexC (keyOf rs ks y) (keyOf rs ks x) < 0 := by
                have := lexC_neg (keyOf rs ks y) (keyOf rs ks x)
                rcases hq with h | ⟨h, _⟩ <;> omega
              repeat' (first
                | (refine SL_indexAddr_0 (by decide) (by rfl) (by rfl) (.tail _ (.tail _ (.head _))) sl25 (i - 1) (by omega) (by omega) ?_)
                | (refine SL_call (by decide) (by rfl) bd19 (by rfl) (by rfl) (h19 y x hym hxm ida) ⟨.tail _ (.head _), trivial⟩ (by simp) ?_; rintro _ _ _ ⟨rfl, rfl⟩; rw [List.nil_append]; refine SL_bool (i := 157) (by rfl) (fun hT => ?_) (fun hT => ?_) <;> first | (have hyx := hq.resolve_left (of_decide_eq_false hT)) | skip)
                | (refine SL_call (by decide) (by rfl) bd19 (by rfl) (by rfl) (h19 x y hxm hym ida) ⟨.tail _ (.head _), trivial⟩ (by simp) ?_; rintro _ _ _ ⟨rfl, rfl⟩; rw [List.nil_append]; refine SL_bool (i := 146) (by rfl) (fun hT => absurd (of_decide_eq_true hT) hn1) (fun _ => ?_))
                | refine SC_seq ?_
                | refine SC_region ?_
                | refine SL_seq ?_
                | refine SL_run (by rfl) (by rfl) ?_
                | refine SL_not (by rfl) (by rfl) (by rfl) (by decide) ?_
                | refine SL_move (by decide) (by rfl) ?_
                | refine SL_assign (by decide) (by rfl) ?_
                | refine SL_pick_t (by decide) (by rfl) (by rfl) ?_
                | refine SL_pick_f (by decide) (by rfl) (by rfl) ?_
                | refine SL_not_op (by decide) (by rfl) ?_
                | refine SL_add (by decide) (by rfl) (by rfl) (by omega) (by omega) ?_
                | refine SL_sub (by decide) (by rfl) (by rfl) (by omega) (by omega) ?_
                | (refine SL_lss (by decide) (by rfl) (by rfl) (fun hT => ?_) (fun hT => ?_) <;> first | (exfalso; omega) | skip)
                | (refine SL_gtr (by decide) (by rfl) (by rfl) (fun hT => ?_) (fun hT => ?_) <;> first | (exfalso; omega) | skip)
                | (refine SL_neq (by decide) (by rfl) (by rfl) (fun hT => ?_) (fun hT => ?_) <;> first | (exfalso; omega) | skip)
                | refine SL_indexAddr_0 (by decide) (by rfl) (by rfl) (by repeat (first | exact .head _ | refine .tail _ ?_)) (slF (by rfl)) _ (by first | rfl | exact (Int.toNat_of_nonneg (by omega)).symm) (by omega) ?_
                | refine SL_load_o (by decide) (by rfl) (by repeat (first | exact .head _ | refine .tail _ ?_)) (rowF (by rfl)) (by first | assumption | rfl | exact ints_getD _ (by omega)) (by rfl) ?_
                | refine SC_cond_f (by rfl) ?_
                | (refine SC_exit (fun tm σ hE hH => ?_); refine SC.app ?_ hE hH; clear hE hH; clear tm σ)
                | (refine SC_skip' (fun tm σ hE hH => ?_); refine SC.app ?_ hE hH; clear hE hH; clear tm σ)
                | fail)
              all_goals exact SL_nil fun tm σ hE hH => ⟨i + 1, by omega, by omega, tm, σ, rfl, hE.sub ⟨rfl, rfl, rfl, rfl, rfl, rfl, rfl, rfl, trivial⟩, by rw [htk]; exact hH⟩
        · obtain rfl : i = m := by omega
          repeat' (first
            | (refine SL_call (by decide) (by rfl) bd9 (by rfl) (by rfl) (h9) trivial List.nodup_nil ?_; rintro _ _ _ ⟨rfl, rfl⟩; rw [List.nil_append])
            | refine SC_seq ?_
            | refine SC_region ?_
            | refine SL_seq ?_
            | refine SL_move (by decide) (by rfl) ?_
            | refine SL_assign (by decide) (by rfl) ?_
            | (refine SL_lss (by decide) (by rfl) (by rfl) (fun hT => ?_) (fun hT => ?_) <;> first | (exfalso; omega) | skip)
            | refine SC_cond_f (by rfl) ?_
            | (refine SC_exit (fun tm σ hE hH => ?_); refine SC.app ?_ hE hH; clear hE hH; clear tm σ)
            | fail)
          all_goals exact SC_ret (fun tm σ hE hH => Post.intro (Hn := []) (.inr rfl) hE hH (by rfl) trivial List.nodup_nil (fun p hp => by cases hp) ⟨rfl, rfl⟩)
      · have h17 := standF_fn (G := G) h ho hk hkc (by omega) hall
        by_cases hv : VOk n rs
        · rw [validB_t hv] at h12
          rw [kindsB_f fun h => hall ⟨hv, h⟩] at h18
          refine Fn_body (N := 172) (ho _ _ _) Try.func5 rfl rfl fun B => ?_
          repeat' (first
            | refine SL_len_v (by decide) (by rfl) hk (by rfl) sl37 hil ?_
            | (refine SL_call (by decide) (by rfl) bd17 (by rfl) (by rfl) (h17) trivial List.nodup_nil ?_; rintro _ _ _ ⟨rfl, rfl⟩; rw [List.nil_append])
            | (refine SL_call (by decide) (by rfl) bd18 (by rfl) (by rfl) (h18) trivial List.nodup_nil ?_; rintro _ _ _ ⟨rfl, rfl⟩; rw [List.nil_append])
            | (refine SL_call (by decide) (by rfl) bd12 (by rfl) (by rfl) (h12) trivial List.nodup_nil ?_; rintro _ _ _ ⟨rfl, rfl⟩; rw [List.nil_append])
            | (refine SL_call (by decide) (by rfl) bd9 (by rfl) (by rfl) (h9) trivial List.nodup_nil ?_; rintro _ _ _ ⟨rfl, rfl⟩; rw [List.nil_append])
            | (refine SL_call (by decide) (by rfl) bd8 (by rfl) (by rfl) (h8) trivial List.nodup_nil ?_; rintro _ _ _ ⟨rfl, rfl⟩; rw [List.nil_append])
            | refine SC_seq ?_
            | refine SC_region ?_
            | refine SL_seq ?_
            | refine SL_run (by rfl) (by rfl) ?_
            | refine SL_not (by rfl) (by rfl) (by rfl) (by decide) ?_
            | refine SL_move (by decide) (by rfl) ?_
            | refine SL_assign (by decide) (by rfl) ?_
            | refine SL_pick_t (by decide) (by rfl) (by rfl) ?_
            | refine SL_pick_f (by decide) (by rfl) (by rfl) ?_
            | refine SL_not_op (by decide) (by rfl) ?_
            | (refine SL_leq (by decide) (by rfl) (by rfl) (fun hT => ?_) (fun hT => ?_) <;> first | (exfalso; omega) | skip)
            | (refine SL_gtr (by decide) (by rfl) (by rfl) (fun hT => ?_) (fun hT => ?_) <;> first | (exfalso; omega) | skip)
            | (refine SL_eql (by decide) (by rfl) (by rfl) (fun hT => ?_) (fun hT => ?_) <;> first | (exfalso; omega) | skip)
            | refine SL_extract_s (by decide) (by rfl) (by rfl) ?_
            | refine SL_len_v (by decide) (by rfl) (by assumption) (by rfl) (slF (by rfl)) (by simp only [List.length_map]; first | rfl | assumption) ?_
            | refine SL_len_0 (by decide) (by rfl) (by rfl) (sliceOf_spec (slF (by rfl))).1 ?_
            | refine SC_cond_t (by rfl) ?_
            | refine SC_cond_f (by rfl) ?_
            | (refine SC_skip' (fun tm σ hE hH => ?_); refine SC.app ?_ hE hH; clear hE hH; clear tm σ)
            | fail)
          all_goals first
            | (exfalso; omega)
            | exact SC_ret (fun tm σ hE hH => Post.intro (Hn := []) (.inr rfl) hE hH (by rfl) trivial List.nodup_nil (fun p hp => by cases hp) ⟨rfl, rfl⟩)
        · rw [validB_f hv] at h12
          refine Fn_body (N := 172) (ho _ _ _) Try.func5 rfl rfl fun B => ?_
          repeat' (first
            | refine SL_len_v (by decide) (by rfl) hk (by rfl) sl37 hil ?_
            | (refine SL_call (by decide) (by rfl) bd17 (by rfl) (by rfl) (h17) trivial List.nodup_nil ?_; rintro _ _ _ ⟨rfl, rfl⟩; rw [List.nil_append])
            | (refine SL_call (by decide) (by rfl) bd12 (by rfl) (by rfl) (h12) trivial List.nodup_nil ?_; rintro _ _ _ ⟨rfl, rfl⟩; rw [List.nil_append])
            | (refine SL_call (by decide) (by rfl) bd9 (by rfl) (by rfl) (h9) trivial List.nodup_nil ?_; rintro _ _ _ ⟨rfl, rfl⟩; rw [List.nil_append])
            | (refine SL_call (by decide) (by rfl) bd8 (by rfl) (by rfl) (h8) trivial List.nodup_nil ?_; rintro _ _ _ ⟨rfl, rfl⟩; rw [List.nil_append])
            | refine SC_seq ?_
            | refine SC_region ?_
            | refine SL_seq ?_
            | refine SL_run (by rfl) (by rfl) ?_
            | refine SL_not (by rfl) (by rfl) (by rfl) (by decide) ?_
            | refine SL_move (by decide) (by rfl) ?_
            | refine SL_assign (by decide) (by rfl) ?_
            | refine SL_pick_t (by decide) (by rfl) (by rfl) ?_
            | refine SL_pick_f (by decide) (by rfl) (by rfl) ?_
            | refine SL_not_op (by decide) (by rfl) ?_
            | (refine SL_leq (by decide) (by rfl) (by rfl) (fun hT => ?_) (fun hT => ?_) <;> first | (exfalso; omega) | skip)
            | (refine SL_gtr (by decide) (by rfl) (by rfl) (fun hT => ?_) (fun hT => ?_) <;> first | (exfalso; omega) | skip)
            | (refine SL_eql (by decide) (by rfl) (by rfl) (fun hT => ?_) (fun hT => ?_) <;> first | (exfalso; omega) | skip)
            | refine SL_extract_s (by decide) (by rfl) (by rfl) ?_
            | refine SL_len_v (by decide) (by rfl) (by assumption) (by rfl) (slF (by rfl)) (by simp only [List.length_map]; first | rfl | assumption) ?_
            | refine SL_len_0 (by decide) (by rfl) (by rfl) (sliceOf_spec (slF (by rfl))).1 ?_
            | refine SC_cond_t (by rfl) ?_
            | refine SC_cond_f (by rfl) ?_
            | (refine SC_skip' (fun tm σ hE hH => ?_); refine SC.app ?_ hE hH; clear hE hH; clear tm σ)
            | fail)
          all_goals first
            | (exfalso; omega)
            | exact SC_ret (fun tm σ hE hH => Post.intro (Hn := []) (.inr rfl) hE hH (by rfl) trivial List.nodup_nil (fun p hp => by cases hp) ⟨rfl, rfl⟩)
    · refine Fn_body (N := 172) (ho _ _ _) Try.func5 rfl rfl fun B => ?_
      repeat' (first
        | refine SL_len_v (by decide) (by rfl) hk (by rfl) sl37 hil ?_
        | (refine SL_call (by decide) (by rfl) bd9 (by rfl) (by rfl) (h9) trivial List.nodup_nil ?_; rintro _ _ _ ⟨rfl, rfl⟩; rw [List.nil_append])
        | (refine SL_call (by decide) (by rfl) bd8 (by rfl) (by rfl) (h8) trivial List.nodup_nil ?_; rintro _ _ _ ⟨rfl, rfl⟩; rw [List.nil_append])
        | refine SC_seq ?_
        | refine SC_region ?_
        | refine SL_seq ?_
        | refine SL_run (by rfl) (by rfl) ?_
        | refine SL_not (by rfl) (by rfl) (by rfl) (by decide) ?_
        | refine SL_notu (by rfl) (by rfl) (by decide) ?_
        | refine SL_move (by decide) (by rfl) ?_
        | refine SL_assign (by decide) (by rfl) ?_
        | refine SL_pick_t (by decide) (by rfl) (by rfl) ?_
        | refine SL_pick_f (by decide) (by rfl) (by rfl) ?_
        | refine SL_not_op (by decide) (by rfl) ?_
        | (refine SL_leq (by decide) (by rfl) (by rfl) (fun hT => ?_) (fun hT => ?_) <;> first | (exfalso; omega) | skip)
        | (refine SL_gtr (by decide) (by rfl) (by rfl) (fun hT => ?_) (fun hT => ?_) <;> first | (exfalso; omega) | skip)
        | refine SL_len_v (by decide) (by rfl) (by assumption) (by rfl) (slF (by rfl)) (by simp only [List.length_map]; first | rfl | assumption) ?_
        | refine SC_cond_t (by rfl) ?_
        | fail)
      all_goals first
        | (exfalso; omega)
        | exact SC_ret (fun tm σ hE hH => Post.intro (Hn := []) (.inr rfl) hE hH (by rfl) trivial List.nodup_nil (fun p hp => by cases hp) ⟨rfl, rfl⟩)
end Go.Proofs.Ytldckcopeiginaa
/- The law TiebreakStands holds: for every number of players, all rounds and all kinds it returns true, and its arguments read as before. -/
namespace Go.Proofs.Ytldckcopeiginaa
open Go Go.Ab Go.ChangeShapes Go.WideShapes Go.ChangeAt Go.WideElems Go.RowKit

theorem spec5 : LawSpec Rows.tiebreakStandsSpec 3 := ⟨rfl, fun H ds hl => by
  match ds, hl with
  | [d1, d2, d3], _ => exact ⟨rfl, rfl, rfl⟩⟩
theorem readable_5 : ([3, 22, 37].all fun t => Try.prog.readableRec t && decide (t < Try.prog.types.size)) = true := by kernel_rfl
theorem desc37 : Try.prog.underlying 37 = some (.slice 32) := by kernel_rfl
theorem plain37 : plainTy Try.prog 8 37 = true := by kernel_rfl
theorem cells32 : Try.prog.cellsOf 32 = 1 := by kernel_rfl
theorem desc32 : Try.prog.underlying 32 = some (.int .i64) := by kernel_rfl

theorem nums_of : ∀ (rows : List (List AV)), (∀ r ∈ rows, Ty Try.prog 32 r) → ∃ ks : List Int, rows = ints ks
  | [], _ => ⟨[], rfl⟩
  | r :: rows, h => by
    obtain ⟨k, rfl⟩ := ty_int desc32 (h r List.mem_cons_self)
    obtain ⟨ks, rfl⟩ := nums_of rows fun r hr => h r (List.mem_cons_of_mem _ hr)
    exact ⟨k :: ks, rfl⟩
theorem ty_kinds {a : AV} (h : Ty Try.prog 37 [a]) : ∃ ks : List Int, SlV 1 a (ints ks) ∧ (∀ ad cap, a = .rsl ad 1 cap (ints ks) → ks.length ≤ cap) ∧ ks.length ≤ 9223372036854775807 := by
  cases h with
  | empty h hc => exact ⟨[], .nil, fun _ _ h => (by cases h), by simp⟩
  | rsl h hp hn hc hl hr =>
    rw [desc37] at h; cases h
    rw [cells32] at hl ⊢
    obtain ⟨ks, rfl⟩ := nums_of _ hr
    rw [ints_len] at hn
    exact ⟨ks, .rsl hp, fun ad cap h => (by cases h; exact hn), Nat.le_trans hn (le_max hc)⟩
  | int h hw => rw [desc37] at h; cases h
  | bool h => rw [desc37] at h; cases h
  | str h => rw [desc37] at h; cases h
  | struct h => rw [desc37] at h; cases h
  | array h => rw [desc37] at h; cases h

set_option maxRecDepth 100000 in
theorem lifted5 (os : Os) (started : os.Started) (H : Type) (enc : TypeId × Value → H) :
    ReturnsInHanded {} Try.checked os 5 .any (Rows.tiebreakStandsSpec.pre6 enc Try.prog Try.f5 Rows.tiebreakStandsRow.domain false) (Rows.tiebreakStandsSpec.post enc Try.prog Try.f5 false true false false) := by
  refine returnsInHanded_of_change (C := Try.checked) own started (by kernel_rfl) Try.func5
    (ChangeSpec.witness6 (enc := enc) (C := Try.checked) false ⟨#[], #[.int .i64 0, .slice none 0 0, .slice none 0 0], []⟩ 8 (by kernel_rfl) (by kernel_rfl) (by kernel_rfl) (by kernel_rfl)) ?_
  intro W base args ds gs before hval0 hW _ _
  have hval : ∀ (j : Nat) t v, Try.f5.params[j]? = some t → args[j]? = some v → Value.okWide Try.prog W .any base t v := hval0
  have hW' := hW
  obtain ⟨p, q, hA0, hV, rfl, hfz, hnd⟩ := hW
  have hA : DataW.TrodAll enc Try.prog W 0 (fun _ => true) true Try.f5.params.toList args.toList ds p := hA0
  rw [Try.params5] at hA hval
  obtain ⟨v0, vs0, d0, ds0, p0, q0, ha0, rfl, rfl, h0, hA1⟩ := trodAll_cons hA
  obtain ⟨v1, vs1, d1, ds1, p1, q1, rfl, rfl, rfl, h1, hA2⟩ := trodAll_cons hA1
  obtain ⟨v2, vs2, d2, ds2, p2, q2, rfl, rfl, rfl, h2, hA3⟩ := trodAll_cons hA2
  obtain ⟨rfl, rfl, rfl⟩ := trodAll_nil hA3
  obtain rfl : args = #[v0, v1, v2] := by cases args; simp_all
  obtain ⟨n, rfl, rfl, rfl, w0⟩ := open_int desc3 (hval 0 3 v0 rfl rfl) h0
  obtain ⟨a, hc, hty⟩ := open_one desc22 plain22 (hval 1 22 v1 rfl rfl) h1
  obtain ⟨rs, xs, hrv⟩ := ty_rounds hty
  obtain ⟨b, hcb, htyb⟩ := open_one desc37 plain37 (hval 2 37 v2 rfl rfl) h2
  obtain ⟨ks, hks, hkc, hkl⟩ := ty_kinds htyb
  obtain ⟨m, σ, hrun⟩ := run_of (law5_fn hrv n hks hkc hkl)
  have hr5 := readable_5
  refine (run_law fit given9 hrun (fun _ _ hr => by cases hr) (.cons (.s _) (.cons hc (.cons hcb .nil)))).mono fun e W' ⟨ρ, σ, he, hrep⟩ => ⟨_, he, ?_⟩
  refine law_post (f := Try.f5) (by rw [Try.params5]; exact spec5) laidOut (fun t ht => ?_) (bt := 4) rfl (by kernel_rfl) hW' hrep
  rw [Try.params5] at ht
  have := List.all_eq_true.1 hr5 t (by simpa using ht)
  simpa only [Bool.and_eq_true, decide_eq_true_eq] using this

theorem tiebreakStands_holds : Rows.TiebreakStandsSaid :=
  OpenClaim.holds_of_wide 5 Try.f5 rfl rfl rfl rfl rfl rfl rfl ⟨rfl, rfl, rfl, rfl, rfl⟩ rfl rfl rfl rfl rfl (by kernel_rfl) Try.func5 (by kernel_rfl)
    (of_decide_eq_true (by kernel_rfl)) (by unfold Func.isWrapper; first | (rw [if_pos (by decide +kernel)]; kernel_rfl) | (rw [if_neg (by decide +kernel)]; exact ⟨rfl, rfl⟩))
    (fun os started H enc _ => lifted5 os started H enc)
#print axioms tiebreakStands_holds
end Go.Proofs.Ytldckcopeiginaa
