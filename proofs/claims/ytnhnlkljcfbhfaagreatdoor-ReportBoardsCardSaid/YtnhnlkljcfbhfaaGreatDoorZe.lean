/- The law's own diagram, of a board that came in. -/
import Derived.Test.YtnhnlkljcfbhfaaGreatDoorZd
import Derived.Test.YtnhnlkljcfbhfaaGreatDoorZc
import Derived.Lib.SplitLaws
import Derived.Test.YtnhnlkljcfbhfaaGreatDoorCards
import Derived.Test.YtnhnlkljcfbhfaaGreatDoorTie
import Derived.LaidMore
import Derived.Lay
import Derived.ProofKit
import Derived.Stop.Joined
import Derived.SevenTiedAt
namespace Go.Proofs.YtnhnlkljcfbhfaaGreatDoor
open Go Go.Ab
set_option maxRecDepth 100000
theorem bd32 : (Tryz.prog.funcs[32]?).map (·.body.isNone) = some false := by rw [Tryz.func32]; rfl
theorem size32 : (⟨#[32]⟩ : ByteArray).size = 1 := rfl
def outS (n : Nat) : Option Nat → AV
  | none => .s (.slice none 0 0)
  | some id => .sl id 0 n none
def outH (D : List ByteArray) : Option Nat → List (Nat × AObj)
  | none => []
  | some id => [(id, .cells 9 1 false (strs D))]
attribute [local irreducible] SC SL wpc wpl wpd wpf wpy wpn FnC FnW RdW SD
set_option pp.deepTerms false
set_option pp.maxSteps 900
set_option maxHeartbeats 2000000
theorem diagram_v {G : Gl} {F R : Nat} {ps : List Int} {l : AV} (hsl : SlV 1 l (ps.map fun p => [AV.s (.int .i8 p)])) (hF : 3 ≤ F ∧ F ≤ 8) (hR : 3 ≤ R ∧ R ≤ 8) (hl : ps.length = F * R) (hps : OkPs ps) (ho : ∀ a, G.orc 12 [a] = none)
    (h32z : ∀ p : Int, p = 0 → FnC Tryz.prog G 32 [.s (.int .i8 p)] [] (fun v Hn => v = .s (.tuple #[.int .u8 0, .int .i64 2]) ∧ Hn = []))
    (h32 : ∀ p : Int, p ≠ 0 → -15 ≤ p → p ≤ 15 → FnC Tryz.prog G 32 [.s (.int .i8 p)] [] (fun v Hn => v = .s (.tuple #[.int .u8 (codeOf p), .int .i64 0]) ∧ Hn = [])) :
    FnC Tryz.prog G 12 [brd F R l] [] (fun v Hn => ∃ id, v = .sl id 0 R none ∧ Hn = [(id, .cells 9 1 false (strs (diagR F ps R)))]) := by
  refine Fn_body (N := 55) (ho _) Tryz.func12 rfl rfl fun B => ?_
  repeat' (first
    | (refine SL_box (by decide) (by rfl) (by first | exact cells_2 _ _ | exact cells_b _ _ _) (fun b1 hid => ?_))
    | refine SC_seq ?_
    | refine SC_block ?_
    | refine SC_region ?_
    | refine SL_seq ?_
    | refine SL_assign (by decide) (by rfl) ?_
    | refine SL_sub (by decide) (by rfl) (by rfl) (by omega) (by omega) ?_
    | refine SL_fieldAddr (by decide) (by rfl) (fldF (by rfl)) ?_
    | refine SL_load_o (by decide) (by rfl) (by repeat (first | exact .head _ | refine .tail _ ?_)) (rowF (by rfl)) (by first | assumption | rfl | exact ps_get _ hlt) (by rfl) ?_
    | fail)
  refine SC_loop (fun a : Nat × Option Nat => [(1, .ptr b1 0 0), (3, outS a.1 a.2), (4, .s (.int .i64 ((R : Int) - 1 - a.1)))]) (fun a => (b1, .cells 26 3 true [[.s (.int .i64 F), .s (.int .i64 R), l]]) :: outH ((diagR F ps R).take a.1) a.2) (fun _ => []) (fun a => a.1 ≤ R ∧ (a.2 = none ↔ a.1 = 0) ∧ ∀ id, a.2 = some id → B.next ≤ id) (fun a => R - a.1) (0, none) ⟨by omega, by simp, by simp⟩ ⟨rfl, rfl, ?_, trivial⟩ ?_ (by simp [outH]) rfl ?_
  · show some (AV.s (Value.int IntKind.i64 ((R : Int) - 1))) = some (.s (.int .i64 ((R : Int) - 1 - ((0 : Nat) : Int))))
    rw [Int.natCast_zero, Int.sub_zero]
  · exact ⟨.head _, trivial⟩
  rintro ⟨n, o⟩ ⟨hn, hon, hnew⟩
  dsimp only at hn hon hnew
  by_cases hnR : n < R
  · obtain ⟨q, hq⟩ : ∃ q : Nat, (R : Int) - 1 - n = q := ⟨R - 1 - n, by omega⟩
    dsimp only
    rw [hq]
    repeat' (first
      | refine SC_seq ?_
      | refine SC_block ?_
      | refine SC_region ?_
      | refine SL_seq ?_
      | refine SL_move (by decide) (by rfl) ?_
      | refine SL_assign (by decide) (by rfl) ?_
      | (refine SL_geq (by decide) (by rfl) (by rfl) (fun hT => ?_) (fun hT => ?_) <;> first | (exfalso; omega) | skip)
      | refine SC_cond_t (by rfl) ?_
      | (refine SC_skip' (fun tm σ hE hH => ?_); refine SC.app ?_ hE hH; clear hE hH; clear tm σ)
      | fail)
    refine SC_nd fun hnd => ?_
    refine SC_loop (fun k : Nat => [(1, .ptr b1 0 0), (3, outS n o), (4, .s (.int .i64 q)), (5, .s (.string (lineP (((ps.drop (q * F)).take F).take k)))), (6, .s (.int .i64 k))]) (fun _ => (b1, .cells 26 3 true [[.s (.int .i64 F), .s (.int .i64 R), l]]) :: outH ((diagR F ps R).take n) o) (fun _ => []) (fun k => k ≤ F) (fun k => F - k) 0 (by omega) ⟨rfl, rfl, rfl, rfl, rfl, trivial⟩ (.of_mem fun p hp => hp) hnd rfl ?_
    intro k hk
    by_cases hkF : k < F
    · obtain ⟨hidx, hget⟩ := rank_at hl (show q < R by omega) hkF
      have hrl := rank_len hl (show q < R by omega)
      have hX0 : 0 ≤ (q : Int) * F := Int.mul_nonneg (by omega) (by omega)
      have hX1 : (q : Int) * F + k < ps.length := by have := hidx; rw [← Int.natCast_mul]; omega
      have hX2 : (ps.length : Int) ≤ 64 := by
        have : F * R ≤ 8 * 8 := Nat.mul_le_mul (by omega) (by omega)
        omega
      have hlt : ((q : Int) * F + k).toNat < ps.length := by omega
      have hp := hps _ (List.getElem_mem hlt)
      have hls := lineP_size ((ps.drop (q * F)).take F) k (by omega)
      have hix : ((q : Int) * F + k).toNat = q * F + k := by rw [← Int.natCast_mul]; omega
      have hrow : ((ps.drop (q * F)).take F)[k]'(by omega) = ps[((q : Int) * F + k).toNat] := by
        have h1 := List.getElem?_eq_getElem (show k < ((ps.drop (q * F)).take F).length by omega)
        rw [hget] at h1
        simp only [hix]
        exact (Option.some.inj h1).symm
      have hval := lineP_take (show k < ((ps.drop (q * F)).take F).length by omega)
      rw [hrow] at hval
      by_cases hz : ps[((q : Int) * F + k).toNat] = 0
      · by_cases hk0 : k = 0
        ·
          repeat' (first
            | refine SL_mul (by decide) (by rfl) (by rfl) (by omega) (by omega) ?_
            | refine SL_cat (by decide) (by rfl) (by rfl) (catOk (by first | omega | (rw [ByteArray.size_append, size32]; omega) | exact Nat.le_of_ble_eq_true (by rfl)) (by first | omega | exact Nat.le_of_ble_eq_true (by rfl))) ?_
            | refine SL_bytes (by decide) (by rfl) (by repeat (first | exact .head _ | refine .tail _ ?_)) Tryz.underlying84 Tryz.underlying9 Tryz.underlying5 (Nat.le_of_ble_eq_true (by rfl)) (by rfl) ?_
            | (refine SL_call (by decide) (by rfl) bd32 (by rfl) (by rfl) (h32z _ (by assumption)) trivial List.nodup_nil ?_; rintro _ _ _ ⟨rfl, rfl⟩; rw [List.nil_append])
            | refine SC_seq ?_
            | refine SC_block ?_
            | refine SC_region ?_
            | refine SL_seq ?_
            | (refine SL_nil (fun tm σ hE hH => ?_); refine SC.app ?_ hE hH; clear hE hH; clear tm σ)
            | refine SL_move (by decide) (by rfl) ?_
            | refine SL_assign (by decide) (by rfl) ?_
            | refine SL_add (by decide) (by rfl) (by rfl) (by omega) (by omega) ?_
            | (refine SL_lss (by decide) (by rfl) (by rfl) (fun hT => ?_) (fun hT => ?_) <;> first | (exfalso; omega) | skip)
            | (refine SL_gtr (by decide) (by rfl) (by rfl) (fun hT => ?_) (fun hT => ?_) <;> first | (exfalso; omega) | skip)
            | (refine SL_neq (by decide) (by rfl) (by rfl) (fun hT => ?_) (fun hT => ?_) <;> first | (exfalso; omega) | skip)
            | refine SL_extract_s (by decide) (by rfl) (by rfl) ?_
            | refine SL_fieldAddr (by decide) (by rfl) (fldF (by rfl)) ?_
            | refine SL_indexAddr_v (by decide) (by rfl) (by rfl) (by assumption) (slF (by rfl)) _ (by first | rfl | exact (Int.toNat_of_nonneg (by omega)).symm) (by simp only [List.length_map]; omega) (fun ad => ?_)
            | refine SL_load_r (by decide) (by rfl) (rowF (by rfl)) (by first | assumption | rfl | exact ps_get _ hlt) (by rfl) ?_
            | refine SL_load_o (by decide) (by rfl) (by repeat (first | exact .head _ | refine .tail _ ?_)) (rowF (by rfl)) (by first | assumption | rfl | exact ps_get _ hlt) (by rfl) ?_
            | refine SL_build1 (by decide) (by rfl) (elF (by rfl)) (by rfl) (by rfl) (fun id hid => ?_)
            | refine SC_cond_t (by rfl) ?_
            | refine SC_cond_f (by rfl) ?_
            | (refine SC_skip' (fun tm σ hE hH => ?_); refine SC.app ?_ hE hH; clear hE hH; clear tm σ)
            | fail)
          refine SL_nil fun tm σ hE hH => ⟨k + 1, by omega, by omega, tm, σ, rfl, hE.sub ⟨rfl, rfl, rfl, congrArg (fun s => some (AV.s (Value.string s))) (Eq.trans ?_ hval.symm), rfl, trivial⟩, hH.subl (List.Sublist.cons _ (List.Sublist.refl _))⟩
          rw [if_pos hk0, hz]; rfl
        ·
          repeat' (first
            | refine SL_mul (by decide) (by rfl) (by rfl) (by omega) (by omega) ?_
            | refine SL_cat (by decide) (by rfl) (by rfl) (catOk (by first | omega | (rw [ByteArray.size_append, size32]; omega) | exact Nat.le_of_ble_eq_true (by rfl)) (by first | omega | exact Nat.le_of_ble_eq_true (by rfl))) ?_
            | refine SL_bytes (by decide) (by rfl) (by repeat (first | exact .head _ | refine .tail _ ?_)) Tryz.underlying84 Tryz.underlying9 Tryz.underlying5 (Nat.le_of_ble_eq_true (by rfl)) (by rfl) ?_
            | (refine SL_call (by decide) (by rfl) bd32 (by rfl) (by rfl) (h32z _ (by assumption)) trivial List.nodup_nil ?_; rintro _ _ _ ⟨rfl, rfl⟩; rw [List.nil_append])
            | refine SC_seq ?_
            | refine SC_block ?_
            | refine SC_region ?_
            | refine SL_seq ?_
            | (refine SL_nil (fun tm σ hE hH => ?_); refine SC.app ?_ hE hH; clear hE hH; clear tm σ)
            | refine SL_move (by decide) (by rfl) ?_
            | refine SL_assign (by decide) (by rfl) ?_
            | refine SL_add (by decide) (by rfl) (by rfl) (by omega) (by omega) ?_
            | (refine SL_lss (by decide) (by rfl) (by rfl) (fun hT => ?_) (fun hT => ?_) <;> first | (exfalso; omega) | skip)
            | (refine SL_gtr (by decide) (by rfl) (by rfl) (fun hT => ?_) (fun hT => ?_) <;> first | (exfalso; omega) | skip)
            | (refine SL_neq (by decide) (by rfl) (by rfl) (fun hT => ?_) (fun hT => ?_) <;> first | (exfalso; omega) | skip)
            | refine SL_extract_s (by decide) (by rfl) (by rfl) ?_
            | refine SL_fieldAddr (by decide) (by rfl) (fldF (by rfl)) ?_
            | refine SL_indexAddr_v (by decide) (by rfl) (by rfl) (by assumption) (slF (by rfl)) _ (by first | rfl | exact (Int.toNat_of_nonneg (by omega)).symm) (by simp only [List.length_map]; omega) (fun ad => ?_)
            | refine SL_load_r (by decide) (by rfl) (rowF (by rfl)) (by first | assumption | rfl | exact ps_get _ hlt) (by rfl) ?_
            | refine SL_load_o (by decide) (by rfl) (by repeat (first | exact .head _ | refine .tail _ ?_)) (rowF (by rfl)) (by first | assumption | rfl | exact ps_get _ hlt) (by rfl) ?_
            | refine SL_build1 (by decide) (by rfl) (elF (by rfl)) (by rfl) (by rfl) (fun id hid => ?_)
            | refine SC_cond_t (by rfl) ?_
            | (refine SC_skip' (fun tm σ hE hH => ?_); refine SC.app ?_ hE hH; clear hE hH; clear tm σ)
            | fail)
          refine SL_nil fun tm σ hE hH => ⟨k + 1, by omega, by omega, tm, σ, rfl, hE.sub ⟨rfl, rfl, rfl, congrArg (fun s => some (AV.s (Value.string s))) (Eq.trans ?_ hval.symm), rfl, trivial⟩, hH.subl (List.Sublist.cons _ (List.Sublist.refl _))⟩
          rw [if_neg hk0, hz]; rfl
      · by_cases hk0 : k = 0
        ·
          repeat' (first
            | refine SL_mul (by decide) (by rfl) (by rfl) (by omega) (by omega) ?_
            | refine SL_cat (by decide) (by rfl) (by rfl) (catOk (by first | omega | (rw [ByteArray.size_append, size32]; omega) | exact Nat.le_of_ble_eq_true (by rfl)) (by first | omega | exact Nat.le_of_ble_eq_true (by rfl))) ?_
            | refine SL_bytes (by decide) (by rfl) (by repeat (first | exact .head _ | refine .tail _ ?_)) Tryz.underlying84 Tryz.underlying9 Tryz.underlying5 (Nat.le_of_ble_eq_true (by rfl)) (by rfl) ?_
            | (refine SL_call (by decide) (by rfl) bd32 (by rfl) (by rfl) (h32 _ (by assumption) (by omega) (by omega)) trivial List.nodup_nil ?_; rintro _ _ _ ⟨rfl, rfl⟩; rw [List.nil_append])
            | refine SC_seq ?_
            | refine SC_block ?_
            | refine SC_region ?_
            | refine SL_seq ?_
            | (refine SL_nil (fun tm σ hE hH => ?_); refine SC.app ?_ hE hH; clear hE hH; clear tm σ)
            | refine SL_move (by decide) (by rfl) ?_
            | refine SL_assign (by decide) (by rfl) ?_
            | refine SL_add (by decide) (by rfl) (by rfl) (by omega) (by omega) ?_
            | (refine SL_lss (by decide) (by rfl) (by rfl) (fun hT => ?_) (fun hT => ?_) <;> first | (exfalso; omega) | skip)
            | (refine SL_gtr (by decide) (by rfl) (by rfl) (fun hT => ?_) (fun hT => ?_) <;> first | (exfalso; omega) | skip)
            | (refine SL_neq (by decide) (by rfl) (by rfl) (fun hT => ?_) (fun hT => ?_) <;> first | (exfalso; omega) | skip)
            | refine SL_extract_s (by decide) (by rfl) (by rfl) ?_
            | refine SL_fieldAddr (by decide) (by rfl) (fldF (by rfl)) ?_
            | refine SL_indexAddr_v (by decide) (by rfl) (by rfl) (by assumption) (slF (by rfl)) _ (by first | rfl | exact (Int.toNat_of_nonneg (by omega)).symm) (by simp only [List.length_map]; omega) (fun ad => ?_)
            | refine SL_load_r (by decide) (by rfl) (rowF (by rfl)) (by first | assumption | rfl | exact ps_get _ hlt) (by rfl) ?_
            | refine SL_load_o (by decide) (by rfl) (by repeat (first | exact .head _ | refine .tail _ ?_)) (rowF (by rfl)) (by first | assumption | rfl | exact ps_get _ hlt) (by rfl) ?_
            | refine SL_build1 (by decide) (by rfl) (elF (by rfl)) (by rfl) (by rfl) (fun id hid => ?_)
            | refine SC_cond_t (by rfl) ?_
            | refine SC_cond_f (by rfl) ?_
            | (refine SC_skip' (fun tm σ hE hH => ?_); refine SC.app ?_ hE hH; clear hE hH; clear tm σ)
            | fail)
          refine SL_nil fun tm σ hE hH => ⟨k + 1, by omega, by omega, tm, σ, rfl, hE.sub ⟨rfl, rfl, rfl, congrArg (fun s => some (AV.s (Value.string s))) (Eq.trans ?_ hval.symm), rfl, trivial⟩, hH.subl (List.Sublist.cons _ (List.Sublist.refl _))⟩
          rw [if_pos hk0]; rfl
        ·
          repeat' (first
            | refine SL_mul (by decide) (by rfl) (by rfl) (by omega) (by omega) ?_
            | refine SL_cat (by decide) (by rfl) (by rfl) (catOk (by first | omega | (rw [ByteArray.size_append, size32]; omega) | exact Nat.le_of_ble_eq_true (by rfl)) (by first | omega | exact Nat.le_of_ble_eq_true (by rfl))) ?_
            | refine SL_bytes (by decide) (by rfl) (by repeat (first | exact .head _ | refine .tail _ ?_)) Tryz.underlying84 Tryz.underlying9 Tryz.underlying5 (Nat.le_of_ble_eq_true (by rfl)) (by rfl) ?_
            | (refine SL_call (by decide) (by rfl) bd32 (by rfl) (by rfl) (h32 _ (by assumption) (by omega) (by omega)) trivial List.nodup_nil ?_; rintro _ _ _ ⟨rfl, rfl⟩; rw [List.nil_append])
            | refine SC_seq ?_
            | refine SC_block ?_
            | refine SC_region ?_
            | refine SL_seq ?_
            | (refine SL_nil (fun tm σ hE hH => ?_); refine SC.app ?_ hE hH; clear hE hH; clear tm σ)
            | refine SL_move (by decide) (by rfl) ?_
            | refine SL_assign (by decide) (by rfl) ?_
            | refine SL_add (by decide) (by rfl) (by rfl) (by omega) (by omega) ?_
            | (refine SL_lss (by decide) (by rfl) (by rfl) (fun hT => ?_) (fun hT => ?_) <;> first | (exfalso; omega) | skip)
            | (refine SL_gtr (by decide) (by rfl) (by rfl) (fun hT => ?_) (fun hT => ?_) <;> first | (exfalso; omega) | skip)
            | (refine SL_neq (by decide) (by rfl) (by rfl) (fun hT => ?_) (fun hT => ?_) <;> first | (exfalso; omega) | skip)
            | refine SL_extract_s (by decide) (by rfl) (by rfl) ?_
            | refine SL_fieldAddr (by decide) (by rfl) (fldF (by rfl)) ?_
            | refine SL_indexAddr_v (by decide) (by rfl) (by rfl) (by assumption) (slF (by rfl)) _ (by first | rfl | exact (Int.toNat_of_nonneg (by omega)).symm) (by simp only [List.length_map]; omega) (fun ad => ?_)
            | refine SL_load_r (by decide) (by rfl) (rowF (by rfl)) (by first | assumption | rfl | exact ps_get _ hlt) (by rfl) ?_
            | refine SL_load_o (by decide) (by rfl) (by repeat (first | exact .head _ | refine .tail _ ?_)) (rowF (by rfl)) (by first | assumption | rfl | exact ps_get _ hlt) (by rfl) ?_
            | refine SL_build1 (by decide) (by rfl) (elF (by rfl)) (by rfl) (by rfl) (fun id hid => ?_)
            | refine SC_cond_t (by rfl) ?_
            | refine SC_cond_f (by rfl) ?_
            | (refine SC_skip' (fun tm σ hE hH => ?_); refine SC.app ?_ hE hH; clear hE hH; clear tm σ)
            | fail)
          refine SL_nil fun tm σ hE hH => ⟨k + 1, by omega, by omega, tm, σ, rfl, hE.sub ⟨rfl, rfl, rfl, congrArg (fun s => some (AV.s (Value.string s))) (Eq.trans ?_ hval.symm), rfl, trivial⟩, hH.subl (List.Sublist.cons _ (List.Sublist.refl _))⟩
          rw [if_neg hk0]; rfl
    · obtain rfl : k = F := by omega
      have hrl := rank_len hl (show q < R by omega)
      have hDn : (diagR k ps R).take (n + 1) = (diagR k ps R).take n ++ [lineP (((ps.drop (q * k)).take k).take k)] := by
        have := diagR_take k ps (show q < R by omega)
        rw [show R - q = n + 1 by omega, show R - (q + 1) = n by omega] at this
        rw [this, List.take_take, Nat.min_self]
      cases o with
      | none =>
        obtain rfl : n = 0 := hon.1 rfl
        dsimp only [outS, outH]
        repeat' (first
          | refine SC_seq ?_
          | refine SC_region ?_
          | refine SL_seq ?_
          | (refine SL_nil (fun tm σ hE hH => ?_); refine SC.app ?_ hE hH; clear hE hH; clear tm σ)
          | refine SL_move (by decide) (by rfl) ?_
          | refine SL_assign (by decide) (by rfl) ?_
          | refine SL_sub (by decide) (by rfl) (by rfl) (by omega) (by omega) ?_
          | (refine SL_lss (by decide) (by rfl) (by rfl) (fun hT => ?_) (fun hT => ?_) <;> first | (exfalso; omega) | skip)
          | refine SL_fieldAddr (by decide) (by rfl) (fldF (by rfl)) ?_
          | refine SL_load_o (by decide) (by rfl) (by repeat (first | exact .head _ | refine .tail _ ?_)) (rowF (by rfl)) (by first | assumption | rfl | exact ps_get _ hlt) (by rfl) ?_
          | refine SL_build1 (by decide) (by rfl) (elF (by rfl)) (by rfl) (by rfl) (fun id hid => ?_)
          | refine SL_append1_nil (by decide) (by rfl) (by rfl) (by repeat (first | exact .head _ | refine .tail _ ?_)) (elF (by rfl)) (sliceOf_spec (slF (by rfl))).1 (by rfl) (by decide) (fun id hid => ?_)
          | refine SC_cond_f (by rfl) ?_
          | (refine SC_exit (fun tm σ hE hH => ?_); refine SC.app ?_ hE hH; clear hE hH; clear tm σ)
          | fail)
        refine SL_nil fun tm σ hE hH => ⟨(1, some id), by dsimp only; omega, ⟨by dsimp only; omega, by simp, fun j hj => by cases hj; assumption⟩, tm, σ, rfl, hE.sub ⟨rfl, rfl, ?_, trivial⟩, ?_⟩
        · show some (AV.s (Value.int IntKind.i64 ((q : Int) - 1))) = some (.s (.int .i64 ((R : Int) - 1 - ((1 : Nat) : Int))))
          rw [show (R : Int) - 1 - ((1 : Nat) : Int) = (q : Int) - 1 by omega]
        · dsimp only [outH, strs]
          rw [hDn]
          exact (hH.perm (List.perm_append_comm (l₁ := [_, _]) (l₂ := [_]))).subl (.cons_cons _ (.cons_cons _ (.cons _ .slnil)))
      | some oid =>
        have hDl : ((diagR k ps R).take n).length = n := by rw [List.length_take, diagR_len]; omega
        have hoid := hnew oid rfl
        dsimp only [outS, outH, strs]
        repeat' (first
          | refine SL_append1_own (by decide) (by rfl) (by rfl) (by repeat (first | exact .head | apply Upd.tail)) (by rw [List.length_map]; exact hDl.symm) (by first | exact .inl (by assumption) | exact .inr (by simp)) (by repeat (first | exact .head _ | refine .tail _ ?_)) (elF (by rfl)) (sliceOf_spec (slF (by rfl))).1 (by rfl) (by omega) (by omega) (fun id hid => ?_)
          | refine SC_seq ?_
          | refine SC_region ?_
          | refine SL_seq ?_
          | (refine SL_nil (fun tm σ hE hH => ?_); refine SC.app ?_ hE hH; clear hE hH; clear tm σ)
          | refine SL_move (by decide) (by rfl) ?_
          | refine SL_assign (by decide) (by rfl) ?_
          | refine SL_sub (by decide) (by rfl) (by rfl) (by omega) (by omega) ?_
          | (refine SL_lss (by decide) (by rfl) (by rfl) (fun hT => ?_) (fun hT => ?_) <;> first | (exfalso; omega) | skip)
          | refine SL_fieldAddr (by decide) (by rfl) (fldF (by rfl)) ?_
          | refine SL_load_o (by decide) (by rfl) (by repeat (first | exact .head _ | refine .tail _ ?_)) (rowF (by rfl)) (by first | assumption | rfl | exact ps_get _ hlt) (by rfl) ?_
          | refine SL_build1 (by decide) (by rfl) (elF (by rfl)) (by rfl) (by rfl) (fun id hid => ?_)
          | refine SC_cond_f (by rfl) ?_
          | (refine SC_exit (fun tm σ hE hH => ?_); refine SC.app ?_ hE hH; clear hE hH; clear tm σ)
          | fail)
        refine SL_nil fun tm σ hE hH => ⟨(n + 1, some id), by dsimp only; omega, ⟨by dsimp only; omega, by simp, fun j hj => by cases hj; assumption⟩, tm, σ, rfl, hE.sub ⟨rfl, rfl, ?_, trivial⟩, ?_⟩
        · show some (AV.s (Value.int IntKind.i64 ((q : Int) - 1))) = some (.s (.int .i64 ((R : Int) - 1 - ((n + 1 : Nat) : Int))))
          rw [show (R : Int) - 1 - ((n + 1 : Nat) : Int) = (q : Int) - 1 by omega]
        · dsimp only [outH, strs]
          rw [hDn, List.map_append]
          exact (hH.perm (List.perm_append_comm (l₁ := [_, _]) (l₂ := [_, _]))).subl (.cons_cons _ (.cons _ (.cons_cons _ (.cons _ .slnil))))
  · obtain rfl : n = R := by omega
    cases o with
    | none => exact absurd (hon.1 rfl) (by omega)
    | some oid =>
      dsimp only [outS, outH]
      repeat' (first
        | refine SC_seq ?_
        | refine SC_region ?_
        | refine SL_seq ?_
        | refine SL_move (by decide) (by rfl) ?_
        | refine SL_assign (by decide) (by rfl) ?_
        | (refine SL_geq (by decide) (by rfl) (by rfl) (fun hT => ?_) (fun hT => ?_) <;> first | (exfalso; omega) | skip)
        | refine SC_cond_f (by rfl) ?_
        | (refine SC_exit (fun tm σ hE hH => ?_); refine SC.app ?_ hE hH; clear hE hH; clear tm σ)
        | fail)
      refine SC_ret (fun tm σ hE hH => Post.intro (Hn := [(oid, _)]) (.inr rfl) hE hH (by rfl) ⟨.tail _ (.head _), trivial⟩ (by simp) (fun p hp => by cases List.mem_singleton.1 hp; exact hnew oid rfl) ⟨oid, rfl, by rw [List.take_of_length_le (by rw [diagR_len]; exact Nat.le_refl _)]⟩)
end Go.Proofs.YtnhnlkljcfbhfaaGreatDoor
/- The program's diagram, of a board that came in. -/
namespace Go.Proofs.YtnhnlkljcfbhfaaGreatDoor
open Go Go.Ab
set_option maxRecDepth 100000
theorem bd10 : (Tryz.prog.funcs[10]?).map (·.body.isNone) = some false := by rw [Tryz.func10]; rfl
theorem bd33 : (Tryz.prog.funcs[33]?).map (·.body.isNone) = some false := by rw [Tryz.func33]; rfl
theorem bd74 : (Tryz.prog.funcs[74]?).map (·.body.isNone) = some false := by rw [Tryz.func74]; rfl
theorem row_sl {ps row : List Int} {q F : Nat} {v : AV} (hrow : row = (ps.drop (q * F)).take F) (hv : SlK 1 v (((ps.map fun p => [AV.s (.int .i8 p)]).take ((q + 1) * F)).drop (q * F))) : SlV 1 v (row.map fun p => [AV.s (.int .i8 p)]) := by
  have : ((ps.map fun p => [AV.s (.int .i8 p)]).take ((q + 1) * F)).drop (q * F) = row.map fun p => [AV.s (.int .i8 p)] := by
    rw [hrow, ← List.map_take, ← List.map_drop, List.drop_take, show (q + 1) * F - q * F = F by rw [Nat.add_mul, Nat.one_mul]; omega]
  rw [this] at hv
  exact hv.v
attribute [local irreducible] SC SL wpc wpl wpd wpf wpy wpn FnC FnW RdW SD
set_option pp.deepTerms false
set_option pp.maxSteps 900
set_option maxHeartbeats 2000000
theorem words_fn {G : Gl} (ho : ∀ a, G.orc 33 [a] = none) {id n : Nat} {x : Bool} {xs : List ByteArray} {s : ByteArray} (h74 : FnC Tryz.prog G 74 [.sl id 0 n none, .s (.string ⟨#[32]⟩)] [(id, .cells 9 1 x (strs xs))] (fun v Hn => v = .s (.string s) ∧ Hn = [])) :
    FnC Tryz.prog G 33 [.sl id 0 n none] [(id, .cells 9 1 x (strs xs))] (fun v Hn => v = .s (.string s) ∧ Hn = []) := by
  refine Fn_body (N := 5) (ho _) Tryz.func33 rfl rfl fun B => ?_
  repeat' (first
    | (refine SL_call (by decide) (by rfl) bd74 (by rfl) (by rfl) h74 ⟨.head _, trivial⟩ (by simp) ?_; rintro _ _ _ ⟨rfl, rfl⟩; rw [List.nil_append])
    | refine SC_seq ?_
    | refine SC_region ?_
    | refine SL_seq ?_
    | refine SL_move (by decide) (by rfl) ?_
    | refine SL_assign (by decide) (by rfl) ?_
    | fail)
  refine SC_ret (fun tm σ hE hH => Post.intro (Hn := []) (.inr rfl) hE hH (by rfl) trivial List.nodup_nil (fun p hp => (by cases hp)) ?_)
  exact ⟨rfl, rfl⟩
theorem pdiag_f {G : Gl} {f r : Int} {l : AV} (ho : ∀ a, G.orc 9 [a] = none) (h10 : FnC Tryz.prog G 10 [brd f r l] [] (fun v Hn => v = .s (.bool false) ∧ Hn = [])) :
    FnC Tryz.prog G 9 [brd f r l] [] (fun v Hn => v = .s (.tuple #[.slice none 0 0, .int .i64 2]) ∧ Hn = []) := by
  refine Fn_body (N := 60) (ho _) Tryz.func9 rfl rfl fun B => ?_
  repeat' (first
    | (refine SL_box (by decide) (by rfl) (by first | exact cells_2 _ _ | exact cells_b _ _ _) (fun b1 hid => ?_))
    | refine SL_load_or (by decide) (by rfl) (by repeat (first | exact .head _ | refine .tail _ ?_)) (rowF (by rfl)) (by rfl) (Nat.le_of_ble_eq_true (by rfl)) (by first | exact mk2 _ _ | exact mk2b _ _ _ | exact mkb _ _ _) ?_
    | (refine SL_call (by decide) (by rfl) bd10 (by rfl) (by rfl) (h10) trivial List.nodup_nil ?_; rintro _ _ _ ⟨rfl, rfl⟩; rw [List.nil_append])
    | refine SC_seq ?_
    | refine SC_region ?_
    | refine SL_seq ?_
    | refine SL_assign (by decide) (by rfl) ?_
    | refine SL_not_op (by decide) (by rfl) ?_
    | refine SC_cond_t (by rfl) ?_
    | fail)
  refine SC_ret (fun tm σ hE hH => Post.intro (Hn := []) (.inr rfl) hE hH (by rfl) trivial List.nodup_nil (fun p hp => (by cases hp)) ?_)
  exact ⟨rfl, rfl⟩
theorem pdiag_t {G : Gl} {F R : Nat} {ps : List Int} {l : AV} (hsl : SlK 1 l (ps.map fun p => [AV.s (.int .i8 p)])) (hF : 3 ≤ F ∧ F ≤ 8) (hR : 3 ≤ R ∧ R ≤ 8) (hl : ps.length = F * R) (hps : OkPs ps) (ho : ∀ a, G.orc 9 [a] = none)
    (h10 : FnC Tryz.prog G 10 [brd F R l] [] (fun v Hn => v = .s (.bool true) ∧ Hn = []))
    (h32 : ∀ p : Int, p ≠ 0 → -15 ≤ p → p ≤ 15 → FnC Tryz.prog G 32 [.s (.int .i8 p)] [] (fun v Hn => v = .s (.tuple #[.int .u8 (codeOf p), .int .i64 0]) ∧ Hn = []))
    (h33 : ∀ (id n : Nat) (row : List Int), (row.map chrP).length = n → n ≤ 8 → FnC Tryz.prog G 33 [.sl id 0 n none] [(id, .cells 9 1 false (strs (row.map chrP)))] (fun v Hn => v = .s (.string (lineP row)) ∧ Hn = [])) :
    FnC Tryz.prog G 9 [brd F R l] [] (fun v Hn => ∃ id, v = .tup [.sl id 0 R none, .s (.int .i64 0)] ∧ Hn = [(id, .cells 9 1 false (strs (diagR F ps R)))]) := by
  refine Fn_body (N := 60) (ho _) Tryz.func9 rfl rfl fun B => ?_
  repeat' (first
    | (refine SL_box (by decide) (by rfl) (by first | exact cells_2 _ _ | exact cells_b _ _ _) (fun b1 hid => ?_))
    | refine SL_load_or (by decide) (by rfl) (by repeat (first | exact .head _ | refine .tail _ ?_)) (rowF (by rfl)) (by rfl) (Nat.le_of_ble_eq_true (by rfl)) (by first | exact mk2 _ _ | exact mk2b _ _ _ | exact mkb _ _ _) ?_
    | (refine SL_call (by decide) (by rfl) bd10 (by rfl) (by rfl) (h10) trivial List.nodup_nil ?_; rintro _ _ _ ⟨rfl, rfl⟩; rw [List.nil_append])
    | refine SC_seq ?_
    | refine SC_block ?_
    | refine SC_region ?_
    | refine SL_seq ?_
    | refine SL_assign (by decide) (by rfl) ?_
    | refine SL_not_op (by decide) (by rfl) ?_
    | refine SL_sub (by decide) (by rfl) (by rfl) (by omega) (by omega) ?_
    | refine SL_fieldAddr (by decide) (by rfl) (fldF (by rfl)) ?_
    | refine SL_load_o (by decide) (by rfl) (by repeat (first | exact .head _ | refine .tail _ ?_)) (rowF (by rfl)) (by first | assumption | rfl | exact ps_get _ hlt) (by rfl) ?_
    | refine SC_cond_f (by rfl) ?_
    | (refine SC_skip' (fun tm σ hE hH => ?_); refine SC.app ?_ hE hH; clear hE hH; clear tm σ)
    | fail)
  refine SC_loop (fun a : Nat × Option Nat => [(1, .ptr b1 0 0), (4, outS a.1 a.2), (5, .s (.int .i64 ((R : Int) - 1 - a.1)))]) (fun a => (b1, .cells 26 3 true [[.s (.int .i64 F), .s (.int .i64 R), l]]) :: outH ((diagR F ps R).take a.1) a.2) (fun _ => []) (fun a => a.1 ≤ R ∧ (a.2 = none ↔ a.1 = 0) ∧ ∀ id, a.2 = some id → B.next ≤ id) (fun a => R - a.1) (0, none) ⟨by omega, by simp, by simp⟩ ⟨rfl, rfl, ?_, trivial⟩ ?_ (by simp [outH]) rfl ?_
  · show some (AV.s (Value.int IntKind.i64 ((R : Int) - 1))) = some (.s (.int .i64 ((R : Int) - 1 - ((0 : Nat) : Int))))
    rw [Int.natCast_zero, Int.sub_zero]
  · exact ⟨.head _, trivial⟩
  rintro ⟨n, o⟩ ⟨hn, hon, hnew⟩
  dsimp only at hn hon hnew
  by_cases hnR : n < R
  · obtain ⟨q, hq⟩ : ∃ q : Nat, (R : Int) - 1 - n = q := ⟨R - 1 - n, by omega⟩
    dsimp only
    rw [hq]
    obtain ⟨row, hrow⟩ : ∃ row, row = (ps.drop (q * F)).take F := ⟨_, rfl⟩
    have hrl : row.length = F := by rw [hrow]; exact rank_len hl (by omega)
    have hm1 : (q : Int) * F = ((q * F : Nat) : Int) := by rw [Int.natCast_mul]
    have hm2 : ((q : Int) + 1) * F = (((q + 1) * F : Nat) : Int) := by rw [Int.natCast_mul, Int.natCast_add, Int.natCast_one]
    have hm3 : q * F < (q + 1) * F := by rw [Nat.add_mul]; omega
    have hm4 : (q + 1) * F ≤ (ps.map fun p => [AV.s (.int .i8 p)]).length := by
      rw [List.length_map, hl, Nat.mul_comm F R]
      exact Nat.mul_le_mul_right F (by omega)
    have hm5 : (q + 1) * F ≤ 64 := by
      have : (q + 1) * F ≤ 8 * 8 := Nat.mul_le_mul (by omega) (by omega)
      omega
    have hm6 : (q : Int) * F ≤ ((q : Int) + 1) * F := by rw [hm1, hm2]; omega
    have hm7 : ((q : Int) + 1) * F ≤ 64 := by rw [hm2]; omega
    have hm8 : 0 ≤ (q : Int) * F := by rw [hm1]; omega
    repeat' (first
      | refine SL_mul (by decide) (by rfl) (by rfl) (by omega) (by omega) ?_
      | (refine SL_slice_rr (l := q * F) (h := (q + 1) * F) (by decide) (by rfl) hsl (by rfl) (by rfl) (slF (by rfl)) hm1 hm2 hm3 hm4 (fun v hv => ?_); have hsl2 := row_sl hrow hv)
      | refine SC_seq ?_
      | refine SC_block ?_
      | refine SC_region ?_
      | refine SL_seq ?_
      | refine SL_move (by decide) (by rfl) ?_
      | refine SL_assign (by decide) (by rfl) ?_
      | refine SL_add (by decide) (by rfl) (by rfl) (by omega) (by omega) ?_
      | (refine SL_geq (by decide) (by rfl) (by rfl) (fun hT => ?_) (fun hT => ?_) <;> first | (exfalso; omega) | skip)
      | refine SL_fieldAddr (by decide) (by rfl) (fldF (by rfl)) ?_
      | refine SL_len_v (by decide) (by rfl) (by assumption) (by rfl) (slF (by rfl)) (by simp only [List.length_map]; first | rfl | assumption) ?_
      | refine SL_load_o (by decide) (by rfl) (by repeat (first | exact .head _ | refine .tail _ ?_)) (rowF (by rfl)) (by first | assumption | rfl | exact ps_get _ hlt) (by rfl) ?_
      | refine SC_cond_t (by rfl) ?_
      | (refine SC_skip' (fun tm σ hE hH => ?_); refine SC.app ?_ hE hH; clear hE hH; clear tm σ)
      | fail)
    refine SC_nd fun hnd => ?_
    refine SC_loop (fun a : Nat × Option Nat => [(1, .ptr b1 0 0), (4, outS n o), (5, .s (.int .i64 q)), (6, outS a.1 a.2), (34, v), (35, .s (.int .i64 row.length)), (36, .s (.int .i64 a.1))]) (fun a => (b1, .cells 26 3 true [[.s (.int .i64 F), .s (.int .i64 R), l]]) :: (outH ((row.take a.1).map chrP) a.2 ++ outH ((diagR F ps R).take n) o)) (fun _ => []) (fun a => a.1 ≤ row.length ∧ (a.2 = none ↔ a.1 = 0) ∧ ∀ id, a.2 = some id → B.next ≤ id) (fun a => row.length - a.1) (0, none) ⟨by omega, by simp, by simp⟩ ⟨rfl, rfl, rfl, rfl, rfl, rfl, rfl, trivial⟩ (.of_mem fun p hp => hp) hnd rfl ?_
    rintro ⟨k, o2⟩ ⟨hk, hok, hnew2⟩
    dsimp only at hk hok hnew2
    by_cases hlt : k < row.length
    · have hp := hps row[k] (List.mem_of_mem_drop (i := q * F) (List.mem_of_mem_take (i := F) (by rw [← hrow]; exact List.getElem_mem hlt)))
      have htk : (row.take (k + 1)).map chrP = (row.take k).map chrP ++ [chrP row[k]] := by rw [List.take_succ_eq_append_getElem hlt, List.map_append, List.map_cons, List.map_nil]
      have hCl : ((row.take k).map chrP).length = k := by rw [List.length_map, List.length_take]; omega
      by_cases hz : row[k] = 0
      · cases o2 with
        | none =>
          obtain rfl : k = 0 := hok.1 rfl
          dsimp only [outS, outH, strs]
          repeat' (first
            | refine SL_bytes (by decide) (by rfl) (by repeat (first | exact .head _ | refine .tail _ ?_)) Tryz.underlying84 Tryz.underlying9 Tryz.underlying5 (Nat.le_of_ble_eq_true (by rfl)) (by rfl) ?_
            | refine SC_seq ?_
            | refine SC_block ?_
            | refine SC_region ?_
            | refine SL_seq ?_
            | (refine SL_nil (fun tm σ hE hH => ?_); refine SC.app ?_ hE hH; clear hE hH; clear tm σ)
            | refine SL_move (by decide) (by rfl) ?_
            | refine SL_assign (by decide) (by rfl) ?_
            | refine SL_add (by decide) (by rfl) (by rfl) (by omega) (by omega) ?_
            | (refine SL_lss (by decide) (by rfl) (by rfl) (fun hT => ?_) (fun hT => ?_) <;> first | (exfalso; omega) | skip)
            | (refine SL_neq (by decide) (by rfl) (by rfl) (fun hT => ?_) (fun hT => ?_) <;> first | (exfalso; omega) | skip)
            | refine SL_indexAddr_v (by decide) (by rfl) (by rfl) (by assumption) (slF (by rfl)) _ (by first | rfl | exact (Int.toNat_of_nonneg (by omega)).symm) (by simp only [List.length_map]; omega) (fun ad => ?_)
            | refine SL_load_r (by decide) (by rfl) (rowF (by rfl)) (by first | assumption | rfl | exact ps_get _ hlt) (by rfl) ?_
            | refine SL_build1 (by decide) (by rfl) (elF (by rfl)) (by rfl) (by rfl) (fun id hid => ?_)
            | refine SL_append1_nil (by decide) (by rfl) (by rfl) (by repeat (first | exact .head _ | refine .tail _ ?_)) (elF (by rfl)) (sliceOf_spec (slF (by rfl))).1 (by rfl) (by decide) (fun id hid => ?_)
            | refine SC_cond_t (by rfl) ?_
            | refine SC_cond_f (by rfl) ?_
            | (refine SC_skip' (fun tm σ hE hH => ?_); refine SC.app ?_ hE hH; clear hE hH; clear tm σ)
            | fail)
          refine SL_nil fun tm σ hE hH => ⟨(1, some id), by dsimp only; omega, ⟨by dsimp only; omega, by simp, fun j hj => by cases hj; assumption⟩, tm, σ, rfl, hE.sub ⟨rfl, rfl, rfl, rfl, rfl, rfl, rfl, trivial⟩, ?_⟩
          dsimp only [outH, strs]
          rw [show 1 = 0 + 1 from rfl, htk, hz]
          exact (hH.perm (List.perm_middle (l₁ := [_, _, _]))).subl (.cons_cons _ (.cons_cons _ (.cons _ (.cons _ (.refl _)))))
        | some oid2 =>
          have hoid := hnew2 oid2 rfl
          dsimp only [outS, outH, strs]
          repeat' (first
            | refine SL_append1_own (by decide) (by rfl) (by rfl) (by repeat (first | exact .head | apply Upd.tail)) (by rw [List.length_map]; first | exact hDl.symm | exact hCl.symm) (by first | exact .inl (by assumption) | exact .inr (by simp)) (by repeat (first | exact .head _ | refine .tail _ ?_)) (elF (by rfl)) (sliceOf_spec (slF (by rfl))).1 (by rfl) (by omega) (by omega) (fun id hid => ?_)
            | refine SL_bytes (by decide) (by rfl) (by repeat (first | exact .head _ | refine .tail _ ?_)) Tryz.underlying84 Tryz.underlying9 Tryz.underlying5 (Nat.le_of_ble_eq_true (by rfl)) (by rfl) ?_
            | refine SC_seq ?_
            | refine SC_block ?_
            | refine SC_region ?_
            | refine SL_seq ?_
            | (refine SL_nil (fun tm σ hE hH => ?_); refine SC.app ?_ hE hH; clear hE hH; clear tm σ)
            | refine SL_move (by decide) (by rfl) ?_
            | refine SL_assign (by decide) (by rfl) ?_
            | refine SL_add (by decide) (by rfl) (by rfl) (by omega) (by omega) ?_
            | (refine SL_lss (by decide) (by rfl) (by rfl) (fun hT => ?_) (fun hT => ?_) <;> first | (exfalso; omega) | skip)
            | (refine SL_neq (by decide) (by rfl) (by rfl) (fun hT => ?_) (fun hT => ?_) <;> first | (exfalso; omega) | skip)
            | refine SL_indexAddr_v (by decide) (by rfl) (by rfl) (by assumption) (slF (by rfl)) _ (by first | rfl | exact (Int.toNat_of_nonneg (by omega)).symm) (by simp only [List.length_map]; omega) (fun ad => ?_)
            | refine SL_load_r (by decide) (by rfl) (rowF (by rfl)) (by first | assumption | rfl | exact ps_get _ hlt) (by rfl) ?_
            | refine SL_build1 (by decide) (by rfl) (elF (by rfl)) (by rfl) (by rfl) (fun id hid => ?_)
            | refine SC_cond_t (by rfl) ?_
            | refine SC_cond_f (by rfl) ?_
            | (refine SC_skip' (fun tm σ hE hH => ?_); refine SC.app ?_ hE hH; clear hE hH; clear tm σ)
            | fail)
          refine SL_nil fun tm σ hE hH => ⟨(k + 1, some id), by dsimp only; omega, ⟨by dsimp only; omega, by simp, fun j hj => by cases hj; assumption⟩, tm, σ, rfl, hE.sub ⟨rfl, rfl, rfl, rfl, rfl, rfl, rfl, trivial⟩, ?_⟩
          dsimp only [outH, strs]
          rw [htk, hz, List.map_append]
          exact (hH.perm (List.perm_middle (l₁ := [_, _, _]))).subl (.cons_cons _ (.cons_cons _ (.cons _ (.cons _ (.cons _ (.refl _))))))
      · cases o2 with
        | none =>
          obtain rfl : k = 0 := hok.1 rfl
          dsimp only [outS, outH, strs]
          repeat' (first
            | refine SL_bytes (by decide) (by rfl) (by repeat (first | exact .head _ | refine .tail _ ?_)) Tryz.underlying84 Tryz.underlying9 Tryz.underlying5 (Nat.le_of_ble_eq_true (by rfl)) (by rfl) ?_
            | (refine SL_call (by decide) (by rfl) bd32 (by rfl) (by rfl) (h32 _ (by assumption) (by omega) (by omega)) trivial List.nodup_nil ?_; rintro _ _ _ ⟨rfl, rfl⟩; rw [List.nil_append])
            | refine SC_seq ?_
            | refine SC_block ?_
            | refine SC_region ?_
            | refine SL_seq ?_
            | (refine SL_nil (fun tm σ hE hH => ?_); refine SC.app ?_ hE hH; clear hE hH; clear tm σ)
            | refine SL_move (by decide) (by rfl) ?_
            | refine SL_assign (by decide) (by rfl) ?_
            | refine SL_add (by decide) (by rfl) (by rfl) (by omega) (by omega) ?_
            | (refine SL_lss (by decide) (by rfl) (by rfl) (fun hT => ?_) (fun hT => ?_) <;> first | (exfalso; omega) | skip)
            | (refine SL_neq (by decide) (by rfl) (by rfl) (fun hT => ?_) (fun hT => ?_) <;> first | (exfalso; omega) | skip)
            | refine SL_extract_s (by decide) (by rfl) (by rfl) ?_
            | refine SL_indexAddr_v (by decide) (by rfl) (by rfl) (by assumption) (slF (by rfl)) _ (by first | rfl | exact (Int.toNat_of_nonneg (by omega)).symm) (by simp only [List.length_map]; omega) (fun ad => ?_)
            | refine SL_load_r (by decide) (by rfl) (rowF (by rfl)) (by first | assumption | rfl | exact ps_get _ hlt) (by rfl) ?_
            | refine SL_build1 (by decide) (by rfl) (elF (by rfl)) (by rfl) (by rfl) (fun id hid => ?_)
            | refine SL_append1_nil (by decide) (by rfl) (by rfl) (by repeat (first | exact .head _ | refine .tail _ ?_)) (elF (by rfl)) (sliceOf_spec (slF (by rfl))).1 (by rfl) (by decide) (fun id hid => ?_)
            | refine SC_cond_t (by rfl) ?_
            | (refine SC_skip' (fun tm σ hE hH => ?_); refine SC.app ?_ hE hH; clear hE hH; clear tm σ)
            | fail)
          refine SL_nil fun tm σ hE hH => ⟨(1, some id), by dsimp only; omega, ⟨by dsimp only; omega, by simp, fun j hj => by cases hj; assumption⟩, tm, σ, rfl, hE.sub ⟨rfl, rfl, rfl, rfl, rfl, rfl, rfl, trivial⟩, ?_⟩
          dsimp only [outH, strs]
          rw [show 1 = 0 + 1 from rfl, htk]
          exact (hH.perm (List.perm_middle (l₁ := [_, _, _]))).subl (.cons_cons _ (.cons_cons _ (.cons _ (.cons _ (.refl _)))))
        | some oid2 =>
          have hoid := hnew2 oid2 rfl
          dsimp only [outS, outH, strs]
          repeat' (first
            | refine SL_append1_own (by decide) (by rfl) (by rfl) (by repeat (first | exact .head | apply Upd.tail)) (by rw [List.length_map]; first | exact hDl.symm | exact hCl.symm) (by first | exact .inl (by assumption) | exact .inr (by simp)) (by repeat (first | exact .head _ | refine .tail _ ?_)) (elF (by rfl)) (sliceOf_spec (slF (by rfl))).1 (by rfl) (by omega) (by omega) (fun id hid => ?_)
            | refine SL_bytes (by decide) (by rfl) (by repeat (first | exact .head _ | refine .tail _ ?_)) Tryz.underlying84 Tryz.underlying9 Tryz.underlying5 (Nat.le_of_ble_eq_true (by rfl)) (by rfl) ?_
            | (refine SL_call (by decide) (by rfl) bd32 (by rfl) (by rfl) (h32 _ (by assumption) (by omega) (by omega)) trivial List.nodup_nil ?_; rintro _ _ _ ⟨rfl, rfl⟩; rw [List.nil_append])
            | refine SC_seq ?_
            | refine SC_block ?_
            | refine SC_region ?_
            | refine SL_seq ?_
            | (refine SL_nil (fun tm σ hE hH => ?_); refine SC.app ?_ hE hH; clear hE hH; clear tm σ)
            | refine SL_move (by decide) (by rfl) ?_
            | refine SL_assign (by decide) (by rfl) ?_
            | refine SL_add (by decide) (by rfl) (by rfl) (by omega) (by omega) ?_
            | (refine SL_lss (by decide) (by rfl) (by rfl) (fun hT => ?_) (fun hT => ?_) <;> first | (exfalso; omega) | skip)
            | (refine SL_neq (by decide) (by rfl) (by rfl) (fun hT => ?_) (fun hT => ?_) <;> first | (exfalso; omega) | skip)
            | refine SL_extract_s (by decide) (by rfl) (by rfl) ?_
            | refine SL_indexAddr_v (by decide) (by rfl) (by rfl) (by assumption) (slF (by rfl)) _ (by first | rfl | exact (Int.toNat_of_nonneg (by omega)).symm) (by simp only [List.length_map]; omega) (fun ad => ?_)
            | refine SL_load_r (by decide) (by rfl) (rowF (by rfl)) (by first | assumption | rfl | exact ps_get _ hlt) (by rfl) ?_
            | refine SL_build1 (by decide) (by rfl) (elF (by rfl)) (by rfl) (by rfl) (fun id hid => ?_)
            | refine SC_cond_t (by rfl) ?_
            | (refine SC_skip' (fun tm σ hE hH => ?_); refine SC.app ?_ hE hH; clear hE hH; clear tm σ)
            | fail)
          refine SL_nil fun tm σ hE hH => ⟨(k + 1, some id), by dsimp only; omega, ⟨by dsimp only; omega, by simp, fun j hj => by cases hj; assumption⟩, tm, σ, rfl, hE.sub ⟨rfl, rfl, rfl, rfl, rfl, rfl, rfl, trivial⟩, ?_⟩
          dsimp only [outH, strs]
          rw [htk, List.map_append]
          exact (hH.perm (List.perm_middle (l₁ := [_, _, _]))).subl (.cons_cons _ (.cons_cons _ (.cons _ (.cons _ (.cons _ (.refl _))))))
    · obtain rfl : k = row.length := by omega
      have hDn : (diagR F ps R).take (n + 1) = (diagR F ps R).take n ++ [lineP row] := by
        have := diagR_take F ps (show q < R by omega)
        rw [show R - q = n + 1 by omega, show R - (q + 1) = n by omega] at this
        rw [this, hrow]
      have hDl : ((diagR F ps R).take n).length = n := by rw [List.length_take, diagR_len]; omega
      have hCl : (row.map chrP).length = row.length := List.length_map _
      rw [List.take_of_length_le (Nat.le_refl _)]
      cases o2 with
      | none => exact absurd (hok.1 rfl) (by omega)
      | some oid2 =>
        have hoid2 := hnew2 oid2 rfl
        cases o with
        | none =>
          obtain rfl : n = 0 := hon.1 rfl
          dsimp only [outS, outH, strs, List.cons_append, List.nil_append]
          repeat' (first
            | (refine SL_call (by decide) (by rfl) bd33 (by rfl) (by rfl) (h33 _ _ _ hCl (by omega)) ⟨.tail _ (.head _), trivial⟩ (by simp) ?_; rintro _ _ _ ⟨rfl, rfl⟩; rw [List.nil_append])
            | refine SC_seq ?_
            | refine SC_region ?_
            | refine SL_seq ?_
            | (refine SL_nil (fun tm σ hE hH => ?_); refine SC.app ?_ hE hH; clear hE hH; clear tm σ)
            | refine SL_move (by decide) (by rfl) ?_
            | refine SL_assign (by decide) (by rfl) ?_
            | refine SL_sub (by decide) (by rfl) (by rfl) (by omega) (by omega) ?_
            | (refine SL_lss (by decide) (by rfl) (by rfl) (fun hT => ?_) (fun hT => ?_) <;> first | (exfalso; omega) | skip)
            | refine SL_build1 (by decide) (by rfl) (elF (by rfl)) (by rfl) (by rfl) (fun id hid => ?_)
            | refine SL_append1_nil (by decide) (by rfl) (by rfl) (by repeat (first | exact .head _ | refine .tail _ ?_)) (elF (by rfl)) (sliceOf_spec (slF (by rfl))).1 (by rfl) (by decide) (fun id hid => ?_)
            | refine SC_cond_f (by rfl) ?_
            | (refine SC_exit (fun tm σ hE hH => ?_); refine SC.app ?_ hE hH; clear hE hH; clear tm σ)
            | fail)
          refine SL_nil fun tm σ hE hH => ⟨(1, some id), by dsimp only; omega, ⟨by dsimp only; omega, by simp, fun j hj => by cases hj; assumption⟩, tm, σ, rfl, hE.sub ⟨rfl, rfl, ?_, trivial⟩, ?_⟩
          · show some (AV.s (Value.int IntKind.i64 ((q : Int) - 1))) = some (.s (.int .i64 ((R : Int) - 1 - ((1 : Nat) : Int))))
            rw [show (R : Int) - 1 - ((1 : Nat) : Int) = (q : Int) - 1 by omega]
          · dsimp only [outH, strs]
            rw [hDn]
            exact (hH.perm (List.perm_middle (l₁ := [_, _]))).subl (.cons_cons _ (.cons_cons _ (.cons _ (.cons _ .slnil))))
        | some oid =>
          have hoid := hnew oid rfl
          dsimp only [outS, outH, strs, List.cons_append, List.nil_append]
          repeat' (first
            | (refine SL_call (by decide) (by rfl) bd33 (by rfl) (by rfl) (h33 _ _ _ hCl (by omega)) ⟨.tail _ (.head _), trivial⟩ (by simp) ?_; rintro _ _ _ ⟨rfl, rfl⟩; rw [List.nil_append])
            | refine SL_append1_own (by decide) (by rfl) (by rfl) (by repeat (first | exact .head | apply Upd.tail)) (by rw [List.length_map]; first | exact hDl.symm | exact hCl.symm) (by first | exact .inl (by assumption) | exact .inr (by simp)) (by repeat (first | exact .head _ | refine .tail _ ?_)) (elF (by rfl)) (sliceOf_spec (slF (by rfl))).1 (by rfl) (by omega) (by omega) (fun id hid => ?_)
            | refine SC_seq ?_
            | refine SC_region ?_
            | refine SL_seq ?_
            | (refine SL_nil (fun tm σ hE hH => ?_); refine SC.app ?_ hE hH; clear hE hH; clear tm σ)
            | refine SL_move (by decide) (by rfl) ?_
            | refine SL_assign (by decide) (by rfl) ?_
            | refine SL_sub (by decide) (by rfl) (by rfl) (by omega) (by omega) ?_
            | (refine SL_lss (by decide) (by rfl) (by rfl) (fun hT => ?_) (fun hT => ?_) <;> first | (exfalso; omega) | skip)
            | refine SL_build1 (by decide) (by rfl) (elF (by rfl)) (by rfl) (by rfl) (fun id hid => ?_)
            | refine SC_cond_f (by rfl) ?_
            | (refine SC_exit (fun tm σ hE hH => ?_); refine SC.app ?_ hE hH; clear hE hH; clear tm σ)
            | fail)
          refine SL_nil fun tm σ hE hH => ⟨(n + 1, some id), by dsimp only; omega, ⟨by dsimp only; omega, by simp, fun j hj => by cases hj; assumption⟩, tm, σ, rfl, hE.sub ⟨rfl, rfl, ?_, trivial⟩, ?_⟩
          · show some (AV.s (Value.int IntKind.i64 ((q : Int) - 1))) = some (.s (.int .i64 ((R : Int) - 1 - ((n + 1 : Nat) : Int))))
            rw [show (R : Int) - 1 - ((n + 1 : Nat) : Int) = (q : Int) - 1 by omega]
          · dsimp only [outH, strs]
            rw [hDn, List.map_append]
            exact (hH.perm (List.perm_middle (l₁ := [_, _]))).subl (.cons_cons _ (.cons_cons _ (.cons _ (.cons _ (.cons _ .slnil)))))
  · obtain rfl : n = R := by omega
    cases o with
    | none => exact absurd (hon.1 rfl) (by omega)
    | some oid =>
      dsimp only [outS, outH]
      repeat' (first
        | refine SC_seq ?_
        | refine SC_region ?_
        | refine SL_seq ?_
        | refine SL_move (by decide) (by rfl) ?_
        | refine SL_assign (by decide) (by rfl) ?_
        | (refine SL_geq (by decide) (by rfl) (by rfl) (fun hT => ?_) (fun hT => ?_) <;> first | (exfalso; omega) | skip)
        | refine SC_cond_f (by rfl) ?_
        | (refine SC_exit (fun tm σ hE hH => ?_); refine SC.app ?_ hE hH; clear hE hH; clear tm σ)
        | fail)
      refine SC_ret (fun tm σ hE hH => Post.intro (Hn := [(oid, _)]) (.inr rfl) hE hH (by rfl) ⟨.tail _ (.head _), trivial⟩ (by simp) (fun p hp => by cases List.mem_singleton.1 hp; exact hnew oid rfl) ⟨oid, rfl, by rw [List.take_of_length_le (by rw [diagR_len]; exact Nat.le_refl _)]⟩)
end Go.Proofs.YtnhnlkljcfbhfaaGreatDoor
/- The plain law of reading a diagram, line by line, word by word. -/
namespace Go.Proofs.YtnhnlkljcfbhfaaGreatDoor
open Go
/-- The words of a line. -/
def wordsOf (x : ByteArray) : List ByteArray := Lib.splitB ⟨#[32]⟩ 0 (Lib.countB x ⟨#[32]⟩) x
theorem wordsOf_len (x : ByteArray) : (wordsOf x).length = Lib.countB x ⟨#[32]⟩ + 1 := Lib.splitB_all ⟨#[32]⟩ (by decide) 0 _ x rfl
theorem wordsOf_le (x : ByteArray) : (wordsOf x).length ≤ x.size + 1 := by
  rw [wordsOf_len]
  have := Lib.countB_le ⟨#[32]⟩ (by decide) x.size x (Nat.le_refl _)
  omega
/-- The first byte of a word. -/
def fst (w : ByteArray) : UInt8 := w.data.toList.headD 0
theorem one_byte {w : ByteArray} (h : (w.size : Int) = 1) : w.data.toList = [fst w] := by
  have h1 : w.data.toList.length = 1 := by
    have : w.data.toList.length = w.size := Array.length_toList
    omega
  unfold fst
  match hl : w.data.toList, h1 with
  | [c], _ => rfl
theorem idx0 {w : ByteArray} (h : (w.size : Int) = 1) : w.data.toList[0]? = some (fst w) := by rw [one_byte h]; rfl
theorem readW_dot {w : ByteArray} (h : w = ⟨#[46]⟩) : readW w = some 0 := by unfold readW; rw [if_pos h]
theorem readW_one {w : ByteArray} (h : w ≠ ⟨#[46]⟩) (h1 : (w.size : Int) = 1) : readW w = parP ((fst w).toNat : Int) := by
  unfold readW
  rw [if_neg h, one_byte h1]
theorem readL_snoc : ∀ {ws : List ByteArray} {rs : List Int} {w : ByteArray} {p : Int}, readL ws = some rs → readW w = some p → readL (ws ++ [w]) = some (rs ++ [p])
  | [], rs, w, p, h, hw => by
    simp only [readL, Option.some.injEq] at h
    subst h
    simp only [List.nil_append, readL, hw]
  | v :: ws, rs, w, p, h, hw => by
    unfold readL at h
    split at h
    · rename_i q qs hq hqs
      cases h
      rw [List.cons_append]
      unfold readL
      rw [hq, readL_snoc hqs hw]
      rfl
    · cases h
theorem readL_len : ∀ {ws : List ByteArray} {rs : List Int}, readL ws = some rs → rs.length = ws.length
  | [], rs, h => by
    simp only [readL, Option.some.injEq] at h
    subst h; rfl
  | v :: ws, rs, h => by
    unfold readL at h
    split at h
    · rename_i q qs hq hqs
      cases h
      rw [List.length_cons, List.length_cons, readL_len hqs]
    · cases h
/-- What is known after some lines. -/
structure PInv (N0 : Nat) (xs : List ByteArray) (n fl : Nat) (ps : List Int) (o : Option Nat) : Prop where
  le : n ≤ xs.length
  on : o = none ↔ n = 0
  z : n = 0 → fl = 0 ∧ ps = []
  p : 0 < n → 1 ≤ fl ∧ fl ≤ 8 ∧ xs.length ≤ 8
  len : ps.length = n * fl
  ln : ∀ j, j < n → xs[xs.length - 1 - j]? = some (lineP ((ps.drop (j * fl)).take fl))
  new : ∀ id, o = some id → N0 ≤ id
theorem PInv.zero (N0 : Nat) (xs : List ByteArray) : PInv N0 xs 0 0 [] none where
  le := Nat.zero_le _
  on := by simp
  z := fun _ => ⟨rfl, rfl⟩
  p := fun h => absurd h (by omega)
  len := by simp
  ln := fun j hj => absurd hj (by omega)
  new := fun id h => by cases h
theorem PInv.step {N0 : Nat} {xs : List ByteArray} {n fl : Nat} {ps rs : List Int} {o : Option Nat} {x : ByteArray} {id : Nat} (h : PInv N0 xs n fl ps o) (hn : n < xs.length) (hx : xs[xs.length - 1 - n]? = some x) (hr : readL (wordsOf x) = some rs) (hf : 0 < n → fl = (wordsOf x).length)
    (h8 : (wordsOf x).length ≤ 8) (hx8 : xs.length ≤ 8) (hid : N0 ≤ id) : PInv N0 xs (n + 1) (wordsOf x).length (ps ++ rs) (some id) := by
  have hrl := readL_len hr
  have hln : ps.length = n * (wordsOf x).length := by
    by_cases h0 : n = 0
    · rw [(h.z h0).2, h0]; simp
    · rw [h.len, hf (by omega)]
  have hlp : lineP rs = x := lineP_of hr
  refine ⟨by omega, by simp, fun h0 => by omega, fun _ => ⟨?_, h8, hx8⟩, ?_, fun j hj => ?_, fun j hj => by cases hj; exact hid⟩
  · rw [wordsOf_len]; omega
  · rw [List.length_append, hln, hrl, Nat.add_mul, Nat.one_mul]
  · by_cases hjn : j < n
    · have hfl := hf (by omega)
      have hle : j * (wordsOf x).length + (wordsOf x).length ≤ ps.length := by
        rw [hln]
        have := Nat.mul_le_mul_right (wordsOf x).length (show j + 1 ≤ n by omega)
        rw [Nat.add_mul, Nat.one_mul] at this
        exact this
      rw [h.ln j hjn, hfl, List.drop_append_of_le_length (by omega), List.take_append_of_le_length (by rw [List.length_drop]; omega)]
    · obtain rfl : j = n := by omega
      rw [hx, ← hln, List.drop_left, ← hrl, List.take_of_length_le (Nat.le_refl _), hlp]
/-- All lines read: the diagram of the pieces is the lines. -/
theorem PInv.all {N0 : Nat} {xs : List ByteArray} {n fl : Nat} {ps : List Int} {o : Option Nat} (h : PInv N0 xs n fl ps o) (hn : n = xs.length) : diagR fl ps xs.length = xs := by
  refine diagR_of fl ps xs fun j hj => ?_
  have := h.ln j (by omega)
  rw [List.getElem?_eq_getElem (by omega)] at this
  exact (Option.some.inj this).symm
end Go.Proofs.YtnhnlkljcfbhfaaGreatDoor
/- Points of the program. -/
namespace Go.Proofs.YtnhnlkljcfbhfaaGreatDoor
open Go Go.Ab
set_option maxRecDepth 100000
attribute [local irreducible] SC SL wpc wpl wpd wpf wpy wpn FnC FnW RdW SD
set_option pp.deepTerms false
set_option pp.maxSteps 900
set_option maxHeartbeats 2000000
theorem Points_t {G : Gl} (ho : ∀ a, G.orc 14 [a] = none) (h40 : Dec G 40) (n : Int) (s : ByteArray) (h : pts n = some s) : FnC Tryz.prog G 14 [.s (.int .i64 n)] [] (fun v Hn => v = .s (.tuple #[.string s, .int .i64 0]) ∧ Hn = []) := by
  unfold Dec at h40
  unfold pts at h
  split at h
  · cases h
  · rename_i hr
    cases h
    rcases Int.emod_two_eq n with hm | hm
    · refine Fn_body (N := 18) (ho _) Tryz.func14 rfl rfl fun B => ?_
      repeat' (first
        | (refine SD_nil (fun tm σ hE hH => ⟨_, _, _, _, _, rfl, hE, hH, fun q hq => (by cases hq), ?_⟩); clear hE hH; clear tm σ; intro tm σ hE hH; refine SC.app ?_ hE hH; clear hE hH; clear tm σ)
        | (refine SL_call (by decide) (by rfl) bd40 (by rfl) (by rfl) (h40 _ (by omega) (by omega)) trivial List.nodup_nil ?_; rintro _ _ _ ⟨rfl, rfl⟩; rw [List.nil_append])
        | refine SL_pure (v := .s (.string ⟨#[46, 48]⟩)) [(13, .s (.agg #[.string ⟨#[46, 48]⟩, .string ⟨#[46, 53]⟩])), (15, .s (.int .i64 0))] (by decide) ⟨rfl, rfl, trivial⟩ (by rfl) (fun tm σ h1 => by unfold eff; simp only [effIndexOp, h1.ev (x := .tmp 13) rfl]) (fun _ _ h => by cases h) (ix92_0 _ _ _) ?_
        | refine SL_build (by decide) (by rfl) b92 ?_
        | refine SL_cat (by decide) (by rfl) (by rfl) (catOk (by first | exact decI_le _ | exact Nat.le_of_ble_eq_true (by rfl)) (by first | exact decI_le _ | exact Nat.le_of_ble_eq_true (by rfl))) ?_
        | refine SL_quo (by decide) (by rfl) (by rfl) (by omega) (by omega) (by decide) ?_
        | refine SL_remV (r := 0) (by decide) (by rfl) (by rfl) (by omega) (by decide) (by omega) ?_
        | (refine SC_drawn (id := 3) (pl := [(0, []), (1, []), (3, []), (4, []), (5, []), (6, []), (2, []), (7, []), (8, []), (9, [])]) (by kernel_rfl) (by kernel_rfl) ?_; intro B' base hb1 hb2 hb3 hb4)
        | refine SC_seq ?_
        | refine SC_region ?_
        | refine SL_seq ?_
        | refine SL_run (by rfl) (by rfl) ?_
        | refine SL_move (by decide) (by rfl) ?_
        | refine SL_assign (by decide) (by rfl) ?_
        | refine SL_pick_f (by decide) (by rfl) (by rfl) ?_
        | (refine SL_lss (by decide) (by rfl) (by rfl) (fun hT => ?_) (fun hT => ?_) <;> first | (exfalso; omega) | skip)
        | (refine SL_gtr (by decide) (by rfl) (by rfl) (fun hT => ?_) (fun hT => ?_) <;> first | (exfalso; omega) | skip)
        | refine SC_cond_f (by rfl) ?_
        | (refine SC_skip' (fun tm σ hE hH => ?_); refine SC.app ?_ hE hH; clear hE hH; clear tm σ)
        | refine SC_ret (fun tm σ hE hH => Post.intro (Hn := []) (.inr rfl) hE hH (by rfl) trivial List.nodup_nil (fun p hp => (by cases hp)) ?_)
        | (refine SL_nil (fun tm σ hE hH => ⟨_, _, _, _, rfl, hE, hH, ?_⟩); clear hE hH; clear tm σ)
        | refine SD_op _ [] (by rfl) (by rfl) (fun _ h => h) (fun p hp => by cases hp) (fun k hk => by cases hk) (.inl rfl) ?_
        | fail)
      exact ⟨by rw [hm]; rfl, rfl⟩
    · refine Fn_body (N := 18) (ho _) Tryz.func14 rfl rfl fun B => ?_
      repeat' (first
        | (refine SD_nil (fun tm σ hE hH => ⟨_, _, _, _, _, rfl, hE, hH, fun q hq => (by cases hq), ?_⟩); clear hE hH; clear tm σ; intro tm σ hE hH; refine SC.app ?_ hE hH; clear hE hH; clear tm σ)
        | (refine SL_call (by decide) (by rfl) bd40 (by rfl) (by rfl) (h40 _ (by omega) (by omega)) trivial List.nodup_nil ?_; rintro _ _ _ ⟨rfl, rfl⟩; rw [List.nil_append])
        | refine SL_pure (v := .s (.string ⟨#[46, 53]⟩)) [(13, .s (.agg #[.string ⟨#[46, 48]⟩, .string ⟨#[46, 53]⟩])), (15, .s (.int .i64 1))] (by decide) ⟨rfl, rfl, trivial⟩ (by rfl) (fun tm σ h1 => by unfold eff; simp only [effIndexOp, h1.ev (x := .tmp 13) rfl]) (fun _ _ h => by cases h) (ix92_1 _ _ _) ?_
        | refine SL_build (by decide) (by rfl) b92 ?_
        | refine SL_cat (by decide) (by rfl) (by rfl) (catOk (by first | exact decI_le _ | exact Nat.le_of_ble_eq_true (by rfl)) (by first | exact decI_le _ | exact Nat.le_of_ble_eq_true (by rfl))) ?_
        | refine SL_quo (by decide) (by rfl) (by rfl) (by omega) (by omega) (by decide) ?_
        | refine SL_remV (r := 1) (by decide) (by rfl) (by rfl) (by omega) (by decide) (by omega) ?_
        | (refine SC_drawn (id := 3) (pl := [(0, []), (1, []), (3, []), (4, []), (5, []), (6, []), (2, []), (7, []), (8, []), (9, [])]) (by kernel_rfl) (by kernel_rfl) ?_; intro B' base hb1 hb2 hb3 hb4)
        | refine SC_seq ?_
        | refine SC_region ?_
        | refine SL_seq ?_
        | refine SL_run (by rfl) (by rfl) ?_
        | refine SL_move (by decide) (by rfl) ?_
        | refine SL_assign (by decide) (by rfl) ?_
        | refine SL_pick_f (by decide) (by rfl) (by rfl) ?_
        | (refine SL_lss (by decide) (by rfl) (by rfl) (fun hT => ?_) (fun hT => ?_) <;> first | (exfalso; omega) | skip)
        | (refine SL_gtr (by decide) (by rfl) (by rfl) (fun hT => ?_) (fun hT => ?_) <;> first | (exfalso; omega) | skip)
        | refine SC_cond_f (by rfl) ?_
        | (refine SC_skip' (fun tm σ hE hH => ?_); refine SC.app ?_ hE hH; clear hE hH; clear tm σ)
        | refine SC_ret (fun tm σ hE hH => Post.intro (Hn := []) (.inr rfl) hE hH (by rfl) trivial List.nodup_nil (fun p hp => (by cases hp)) ?_)
        | (refine SL_nil (fun tm σ hE hH => ⟨_, _, _, _, rfl, hE, hH, ?_⟩); clear hE hH; clear tm σ)
        | refine SD_op _ [] (by rfl) (by rfl) (fun _ h => h) (fun p hp => by cases hp) (fun k hk => by cases hk) (.inl rfl) ?_
        | fail)
      exact ⟨by rw [hm]; rfl, rfl⟩
theorem Points_f {G : Gl} (ho : ∀ a, G.orc 14 [a] = none) (n : Int) (h : pts n = none) : FnC Tryz.prog G 14 [.s (.int .i64 n)] [] (fun v Hn => v = .s (.tuple #[.string ⟨#[]⟩, .int .i64 2]) ∧ Hn = []) := by
  unfold pts at h
  split at h
  · rename_i hr
    rcases hr with hr | hr
    · refine Fn_body (N := 18) (ho _) Tryz.func14 rfl rfl fun B => ?_
      repeat' (first
        | refine SC_seq ?_
        | refine SC_region ?_
        | refine SL_seq ?_
        | refine SL_not (by rfl) (by rfl) (by rfl) (by decide) ?_
        | refine SL_move (by decide) (by rfl) ?_
        | refine SL_assign (by decide) (by rfl) ?_
        | refine SL_pick_t (by decide) (by rfl) (by rfl) ?_
        | (refine SL_lss (by decide) (by rfl) (by rfl) (fun hT => ?_) (fun hT => ?_) <;> first | (exfalso; omega) | skip)
        | refine SC_cond_t (by rfl) ?_
        | refine SC_ret (fun tm σ hE hH => Post.intro (Hn := []) (.inr rfl) hE hH (by rfl) trivial List.nodup_nil (fun p hp => (by cases hp)) ?_)
        | fail)
      exact ⟨rfl, rfl⟩
    · refine Fn_body (N := 18) (ho _) Tryz.func14 rfl rfl fun B => ?_
      repeat' (first
        | refine SC_seq ?_
        | refine SC_region ?_
        | refine SL_seq ?_
        | refine SL_run (by rfl) (by rfl) ?_
        | refine SL_move (by decide) (by rfl) ?_
        | refine SL_assign (by decide) (by rfl) ?_
        | refine SL_pick_f (by decide) (by rfl) (by rfl) ?_
        | (refine SL_lss (by decide) (by rfl) (by rfl) (fun hT => ?_) (fun hT => ?_) <;> first | (exfalso; omega) | skip)
        | (refine SL_gtr (by decide) (by rfl) (by rfl) (fun hT => ?_) (fun hT => ?_) <;> first | (exfalso; omega) | skip)
        | refine SC_cond_t (by rfl) ?_
        | refine SC_ret (fun tm σ hE hH => Post.intro (Hn := []) (.inr rfl) hE hH (by rfl) trivial List.nodup_nil (fun p hp => (by cases hp)) ?_)
        | fail)
      exact ⟨rfl, rfl⟩
  · cases h
end Go.Proofs.YtnhnlkljcfbhfaaGreatDoor
/- ParsePoints and ParseValue: what they read has the text that they were given. -/
namespace Go.Ab
section rules
variable {P : Program} {G : Gl} {B : AS} {W : List Nat} {ops : Array Oper} {os : List Oper} {L : List (Nat × AV)} {N : Nat} {ds : List Nat} {H : List (Nat × AObj)} {Q : Cfg → Prop} {ty : TypeId} {pos : String} {af : Array Edge} {d : Nat}
theorem SL_ifcnil {t yt tt : TypeId} {x y : Operand} {u : AV} {ms : Array (String × TypeId)} (hd : d < N) (hx : evL G L x = some (.ifc tt u)) (hy : evL G L y = some (.s .nilIface)) (ht : P.underlying t = some (.interface ms)) (k : SL P G B W ops os ((d, .s (.bool false)) :: L) N ds H Q) :
    SL P G B W ops (⟨some d, .binOp .eql t x y yt, ty, pos, af, none⟩ :: os) L N ds H Q :=
  SL_val (.s (.bool false)) hd (fun tm σ h1 h2 => by unfold eff; simp only [effBin, h1.ev hx, h1.ev hy, effEq, ht]; rfl) k
end rules
/-- A function's end where the first result is a cell of its own. -/
theorem Post.introC {P : Program} {B : AS} {fn : Func} {R : AV → List (Nat × AObj) → Prop} {e : AEx} {tm : Tm} {N : Nat} {L : List (Nat × AV)} {σ : AS} {H Hn : List (Nat × AObj)} {ds : List Nat} {a b id es i f n : Nat} {t el : TypeId} {ex : Bool} {rows : List (List AV)} {row : List AV} {v u : AV} (he : e = .normal ∨ e = .ret) (h1 : En tm N L) (h2 : He B [] σ H ds)
    (hfr : fn.results.toList = [.cell a t, .tmp b]) (ha : lk L a = some (.ptr id i f)) (hb : lk L b = some u) (hm : (id, AObj.cells el es ex rows) ∈ H) (ht : rowN P t = some (some n)) (hr : rows[i]? = some row) (hf : f + n ≤ row.length) (hv : mkAgg ((row.drop f).take n) = v)
    (hs : SubH Hn H) (hn : (Hn.map (·.1)).Nodup) (hB : ∀ p ∈ Hn, B.next ≤ p.1) (hR : R (tupled [v, u]) Hn) : Post P B fn R e ⟨tm, ds, σ⟩ := by
  obtain ⟨σ', h3, h4⟩ := h2.drop
  refine ⟨he, σ', tupled [v, u], h3, ?_, Hn, h4.sub hs hn, hB, hR⟩
  unfold aresults
  rw [hfr]
  simp only [aresultL, aresult, h1.get _ _ ha, h1.get _ _ hb, effLoad, rows_of (h4.get _ hm), hr, Option.bind_some, readAt_row ht row f hf, hv]
  rfl
theorem bl_of {P : Program} {g : FuncId} (h : (P.funcs[g]?).map (·.body.isNone) = some false) : bodyless P (.s (.func (.func g) #[] #[])) = false := by
  cases hp : P.funcs[g]? with
  | none => simp only [bodyless, hp]
  | some fn => rw [hp] at h; simp at h; simp [bodyless, hp, h]
end Go.Ab
namespace Go.Proofs.YtnhnlkljcfbhfaaGreatDoor
open Go Go.Ab
set_option maxRecDepth 100000
theorem bd43 : (Tryz.prog.funcs[43]?).map (·.body.isNone) = some false := by rw [Tryz.func43]; rfl
theorem bd44 : (Tryz.prog.funcs[44]?).map (·.body.isNone) = some false := by rw [Tryz.func44]; rfl
theorem nil97 (x : Operand) : evalP Tryz.prog (do eqGuard .eql 97 x (.const .nilIface) .nilIface .nilIface; binOp .eql 97 .nilIface .nilIface) = some (.bool true) := by cases x <;> kernel_rfl
theorem b40n (n : Int) : effBuild Tryz.prog 40 [(0, .s (.int .i64 1)), (1, .s (.int .i64 n))] = some (.s (.agg #[.int .i64 1, .int .i64 n])) := by kernel_rfl
theorem min23 (n : Int) (ty : TypeId) (pos : String) (af : Array Edge) : effPure Tryz.prog ⟨some 23, .call ⟨.builtin .min, #[.tmp 22, .const (.int .i64 2000)], #[3, 3]⟩, ty, pos, af, none⟩ (evC [(22, .s (.int .i64 n))]) = some (.s (.int .i64 (if 2000 < n then 2000 else n))) := by kernel_rfl
theorem min29 (n : Int) (ty : TypeId) (pos : String) (af : Array Edge) : effPure Tryz.prog ⟨some 29, .call ⟨.builtin .min, #[.tmp 28, .const (.int .i64 2000)], #[3, 3]⟩, ty, pos, af, none⟩ (evC [(28, .s (.int .i64 n))]) = some (.s (.int .i64 (if 2000 < n then 2000 else n))) := by kernel_rfl
attribute [local irreducible] SC SL wpc wpl wpd wpf wpy wpn FnC FnW RdW SD
set_option pp.deepTerms false
set_option pp.maxSteps 900
set_option maxHeartbeats 2000000
/-- What Atoi gives, as far as it matters here. -/
def Atoi (v : AV) : Prop := ∃ n : Int, v = .s (.tuple #[.int .i64 n, .nilIface]) ∨ ∃ id, v = .tup [.s (.int .i64 n), .ifc 178 (.ptr id 0 0)]
theorem read42 {G : Gl} (ho : ∀ a, G.orc 42 [a] = none) {s x y : ByteArray} {b : Bool} (hcut : FnC Tryz.prog G 43 [.s (.string s), .s (.string ⟨#[46]⟩)] [] (fun v Hn => v = .s (.tuple #[.string x, .string y, .bool b]) ∧ Hn = [])) (hatoi : FnC Tryz.prog G 44 [.s (.string x)] [] (fun v Hn => Atoi v ∧ Hn = [])) :
    FnC Tryz.prog G 42 [.s (.string s)] [] (fun v Hn => (∃ n b, v = .s (.tuple #[.int .i64 n, .bool b])) ∧ Hn = []) := by
  unfold Atoi at hatoi
  refine Fn_body (N := 33) (ho _) Tryz.func42 rfl rfl fun B => ?_
  repeat' (first
    | (refine SD_nil (fun tm σ hE hH => ⟨_, _, _, _, _, rfl, hE, hH, (fun q hq => by first | (cases hq; done) | (rw [List.mem_singleton] at hq; subst hq; exact .inl hid2)), ?_⟩); clear hE hH; clear tm σ; intro tm σ hE hH; refine SC.app ?_ hE hH; clear hE hH; clear tm σ)
    | (refine SL_call (by decide) (by rfl) bd44 (by rfl) (by rfl) hatoi trivial List.nodup_nil ?_; rintro _ _ _ ⟨⟨nn, hv⟩, rfl⟩; rw [List.nil_append]; rcases hv with rfl | ⟨eid, rfl⟩)
    | (refine SL_call (by decide) (by rfl) bd43 (by rfl) (by rfl) hcut trivial List.nodup_nil ?_; rintro _ _ _ ⟨rfl, rfl⟩; rw [List.nil_append])
    | refine SL_fast (o := .add) (by decide) (by rfl) (by rfl) (by rfl) ?_
    | refine SL_fast (o := .mul) (by decide) (by rfl) (by rfl) (by rfl) ?_
    | refine SL_pure [(28, _)] (by decide) ⟨rfl, trivial⟩ (by rfl) (fun tm σ _ => rfl) (fun _ _ h => by cases h) (min29 _ _ _ _) ?_
    | refine SL_pure [(22, _)] (by decide) ⟨rfl, trivial⟩ (by rfl) (fun tm σ _ => rfl) (fun _ _ h => by cases h) (min23 _ _ _ _) ?_
    | refine SL_ifcnil (by decide) (by rfl) (by rfl) Tryz.underlying97 ?_
    | refine SL_bin (by decide) (by rfl) (by rfl) rfl (nil97 _) ?_
    | (refine SL_seql (by decide) (by rfl) (by rfl) (fun hS => ?_) (fun hS => ?_))
    | (refine SC_drawn (id := 5) (pl := [(0, []), (1, []), (2, []), (3, []), (4, []), (5, []), (6, [])]) (by kernel_rfl) (by kernel_rfl) ?_; intro B' base hb1 hb2 hb3 hb4)
    | (refine SC_drawn (id := 4) (pl := [(0, []), (1, []), (2, []), (3, []), (4, []), (5, []), (6, []), (7, [])]) (by kernel_rfl) (by kernel_rfl) ?_; intro B' base hb1 hb2 hb3 hb4)
    | refine SC_seq ?_
    | refine SC_region ?_
    | refine SL_seq ?_
    | refine SL_move (by decide) (by rfl) ?_
    | refine SL_assign (by decide) (by rfl) ?_
    | refine SL_extract_tup (by decide) (by rfl) (by rfl) ?_
    | refine SL_extract_s (by decide) (by rfl) (by rfl) ?_
    | refine SC_cond_t (by rfl) ?_
    | refine SC_cond_f (by rfl) ?_
    | (refine SC_skip' (fun tm σ hE hH => ?_); refine SC.app ?_ hE hH; clear hE hH; clear tm σ)
    | refine SC_ret (fun tm σ hE hH => Post.intro (Hn := []) (.inr rfl) hE hH (by rfl) trivial List.nodup_nil (fun p hp => (by cases hp)) ?_)
    | (refine SL_nil (fun tm σ hE hH => ⟨_, _, _, _, rfl, hE, hH, ?_⟩); clear hE hH; clear tm σ)
    | refine SD_op _ [] (by rfl) (by rfl) (fun _ h => h) (fun p hp => by cases hp) (fun k hk => by cases hk) (.inl rfl) ?_
    | fail)
  all_goals exact ⟨⟨_, _, rfl⟩, rfl⟩
end Go.Proofs.YtnhnlkljcfbhfaaGreatDoor
/- Reading a diagram: ParseDiagram, walked. -/
namespace Go.Proofs.YtnhnlkljcfbhfaaGreatDoor
open Go Go.Ab
set_option maxRecDepth 100000
theorem bd38 : (Tryz.prog.funcs[38]?).map (·.body.isNone) = some false := by rw [Tryz.func38]; rfl
theorem bd39 : (Tryz.prog.funcs[39]?).map (·.body.isNone) = some false := by rw [Tryz.func39]; rfl
theorem b26 : effBuild Tryz.prog 26 [] = some (.s (.agg #[.int .i64 0, .int .i64 0, .slice none 0 0])) := by kernel_rfl
def outP (ps : List Int) : Option Nat → List (Nat × AObj)
  | none => []
  | some id => [(id, .cells 81 1 false (ps.map fun p => [.s (.int .i8 p)]))]
def zrow : List AV := [.s (.int .i64 0), .s (.int .i64 0), .s (.slice none 0 0)]
theorem mkz (a b c : Value) : mkAgg ((List.drop 0 [AV.s a, AV.s b, AV.s c]).take 3) = .s (.agg #[a, b, c]) := rfl
def PDR (xs : List ByteArray) (v : AV) (Hn : List (Nat × AObj)) : Prop := (v = .s (.tuple #[.agg #[.int .i64 0, .int .i64 0, .slice none 0 0], .int .i64 6]) ∧ Hn = []) ∨
  ∃ (F R : Nat) (id : Nat) (ps : List Int), v = .tup [brd F R (.sl id 0 ps.length none), .s (.int .i64 0)] ∧ Hn = [(id, .cells 81 1 false (ps.map fun p => [AV.s (.int .i8 p)]))] ∧ OkB F R ps ∧ diagR F ps R = xs
attribute [local irreducible] SC SL wpc wpl wpd wpf wpy wpn FnC FnW RdW SD
set_option pp.deepTerms false
set_option pp.maxSteps 900
set_option maxHeartbeats 4000000
theorem pardia {G : Gl} {xs : List ByteArray} {l : AV} (hsl : StV xs l) (hx9 : xs.length ≤ 9) (hxs : ∀ x ∈ xs, x.size ≤ 100) (ho : ∀ a, G.orc 13 [a] = none)
    (h38 : ∀ (x : ByteArray) (ws : List ByteArray), ws = wordsOf x → x.size ≤ 100 → FnC Tryz.prog G 38 [.s (.string x), .s (.string ⟨#[32]⟩)] [] (fun v Hn => ∃ id, v = .sl id 0 ws.length none ∧ Hn = [(id, .cells 9 1 true (strs ws))]))
    (h39n : ∀ c : UInt8, parP (c.toNat : Int) = none → FnC Tryz.prog G 39 [.s (.int .u8 c.toNat)] [] (fun v Hn => v = .s (.tuple #[.int .i8 0, .int .i64 6]) ∧ Hn = []))
    (h39s : ∀ (c : UInt8) (p : Int), parP (c.toNat : Int) = some p → FnC Tryz.prog G 39 [.s (.int .u8 c.toNat)] [] (fun v Hn => v = .s (.tuple #[.int .i8 p, .int .i64 0]) ∧ Hn = []))
    (h10n : FnC Tryz.prog G 10 [.s (.agg #[.int .i64 0, .int .i64 xs.length, .slice none 0 0])] [] (fun v Hn => v = .s (.bool false) ∧ Hn = []))
    (h10 : ∀ (f r : Nat) (id : Nat) (ps : List Int), ps.length ≤ 100 → FnC Tryz.prog G 10 [brd f r (.sl id 0 ps.length none)] [(id, .cells 81 1 false (ps.map fun p => [AV.s (.int .i8 p)]))] (fun v Hn => Says (OkB f r ps) v ∧ Hn = [])) :
    FnC Tryz.prog G 13 [l] [] (PDR xs) := by
  unfold StV at hsl
  refine Fn_body (N := 88) (ho _) Tryz.func13 rfl rfl fun B => ?_
  repeat' (first
    | refine SL_store_n (by rfl) (by rfl) (by repeat (first | exact .head _ | refine .tail _ ?_)) (by rfl) (by first | rfl | exact cells_b _ _ _) (by rfl) (by repeat (first | exact .head | apply Upd.tail)) (by first | exact .inl (by assumption) | exact .inr (by simp)) (szF (by rfl)) (Nat.le_of_ble_eq_true (by rfl)) (by rfl) ?_
    | refine SL_alloc (d := 4) (by decide) (zeroF (by rfl)) (fun b4 hid4 => ?_)
    | refine SL_alloc (d := 2) (by decide) (zeroF (by rfl)) (fun b2 hid2 => ?_)
    | refine SL_len_v (by decide) (by rfl) (by assumption) (by rfl) (slF (by rfl)) (strs_len _) ?_
    | refine SC_seq ?_
    | refine SC_block ?_
    | refine SC_region ?_
    | refine SL_seq ?_
    | refine SL_move (by decide) (by rfl) ?_
    | refine SL_assign (by decide) (by rfl) ?_
    | refine SL_sub (by decide) (by rfl) (by rfl) (by omega) (by omega) ?_
    | refine SL_fieldAddr (by decide) (by rfl) (fldF (by rfl)) ?_
    | fail)
  refine SC_nd fun hnd0 => ?_
  refine SC_loop (fun a : Nat × Nat × List Int × Option Nat => [(0, l), (2, .ptr b2 0 0), (3, .s (.int .i64 0)), (4, .ptr b4 0 0), (5, .s (.int .i64 ((xs.length : Int) - 1 - a.1)))]) (fun a => (b4, AObj.cells 26 3 true [[.s (.int .i64 a.2.1), .s (.int .i64 xs.length), outS a.2.2.1.length a.2.2.2]]) :: (b2, AObj.cells 26 3 true [zrow]) :: outP a.2.2.1 a.2.2.2) (fun _ => []) (fun a => PInv B.next xs a.1 a.2.1 a.2.2.1 a.2.2.2) (fun a => xs.length - a.1) (0, 0, [], none) (PInv.zero _ _) ⟨rfl, rfl, rfl, rfl, ?_, trivial⟩ ⟨.head _, .tail _ (.head _), trivial⟩ hnd0 rfl ?_
  · show some (AV.s (Value.int IntKind.i64 ((xs.length : Int) - 1))) = some (.s (.int .i64 ((xs.length : Int) - 1 - ((0 : Nat) : Int))))
    rw [Int.natCast_zero, Int.sub_zero]
  rintro ⟨n, fl, ps, o⟩ hI
  dsimp only at hI
  by_cases hn : n < xs.length
  · obtain ⟨q, hq⟩ : ∃ q : Nat, (xs.length : Int) - 1 - n = q := ⟨xs.length - 1 - n, by omega⟩
    have hqx : q < xs.length := by omega
    have hqn : xs.length - 1 - n = q := by omega
    dsimp only
    rw [hq]
    obtain ⟨ws, hws⟩ : ∃ ws, ws = wordsOf xs[q] := ⟨_, rfl⟩
    have hx100 := hxs _ (List.getElem_mem hqx)
    have hw101 := wordsOf_le xs[q]
    rw [← hws] at hw101
    have hwpos : 1 ≤ ws.length := by rw [hws, wordsOf_len]; omega
    have hxq : xs[xs.length - 1 - n]? = some xs[q] := by rw [hqn, List.getElem?_eq_getElem hqx]
    by_cases hok : ws.length ≤ 8 ∧ xs.length ≤ 8 ∧ (0 < n → fl = ws.length)
    · obtain ⟨hok1, hok2, hok3⟩ := hok
      have hpsl : ps.length ≤ 64 := by
        rw [hI.len]
        by_cases h0 : n = 0
        · rw [h0]; omega
        · rw [hok3 (by omega)]
          have : n * ws.length ≤ 8 * 8 := Nat.mul_le_mul (by omega) (by omega)
          omega
      have hgo : (n = 0 ∧ fl = 0) ∨ (0 < n ∧ ws.length = fl) := by
        by_cases h0 : n = 0
        · exact .inl ⟨h0, (hI.z h0).1⟩
        · exact .inr ⟨by omega, (hok3 (by omega)).symm⟩
      rcases hgo with ⟨hn0, hf0⟩ | ⟨hn0, hf0⟩
      ·
        repeat' (first
          | refine SL_store_n (by rfl) (by rfl) (by repeat (first | exact .head _ | refine .tail _ ?_)) (by rfl) (by first | rfl | exact cells_b _ _ _) (by rfl) (by repeat (first | exact .head | apply Upd.tail)) (by first | exact .inl (by assumption) | exact .inr (by simp)) (szF (by rfl)) (Nat.le_of_ble_eq_true (by rfl)) (by rfl) ?_
          | (refine SL_call (by decide) (by rfl) bd38 (by rfl) (by rfl) (h38 _ ws hws hx100) trivial List.nodup_nil ?_; rintro _ _ hwn ⟨wid, rfl, rfl⟩; rw [List.singleton_append])
          | refine SL_len_v (by decide) (by rfl) (by assumption) (by rfl) (slF (by rfl)) (strs_len _) ?_
          | refine SC_seq ?_
          | refine SC_block ?_
          | refine SC_region ?_
          | refine SL_seq ?_
          | refine SL_run (by rfl) (by rfl) ?_
          | refine SL_move (by decide) (by rfl) ?_
          | refine SL_assign (by decide) (by rfl) ?_
          | refine SL_pick_f (by decide) (by rfl) (by rfl) ?_
          | refine SL_sub (by decide) (by rfl) (by rfl) (by omega) (by omega) ?_
          | (refine SL_gtr (by decide) (by rfl) (by rfl) (fun hT => ?_) (fun hT => ?_) <;> first | (exfalso; omega) | skip)
          | (refine SL_geq (by decide) (by rfl) (by rfl) (fun hT => ?_) (fun hT => ?_) <;> first | (exfalso; omega) | skip)
          | (refine SL_eql (by decide) (by rfl) (by rfl) (fun hT => ?_) (fun hT => ?_) <;> first | (exfalso; omega) | skip)
          | (refine SL_neq (by decide) (by rfl) (by rfl) (fun hT => ?_) (fun hT => ?_) <;> first | (exfalso; omega) | skip)
          | refine SL_fieldAddr (by decide) (by rfl) (fldF (by rfl)) ?_
          | refine SL_len_sl (by decide) (by rfl) (by rfl) (sliceOf_spec (slF (by rfl))).1 ?_
          | refine SL_indexAddr_v (by decide) (by rfl) (by rfl) (by assumption) (slF (by rfl)) _ (by first | rfl | exact (Int.toNat_of_nonneg (by omega)).symm) (by simp only [List.length_map]; omega) (fun ad => ?_)
          | refine SL_load_r (by decide) (by rfl) (rowF (by rfl)) (by first | assumption | rfl | exact strs_get _ hlt | exact strs_get _ hqx) (by rfl) ?_
          | refine SL_load_o (by decide) (by rfl) (by repeat (first | exact .head _ | refine .tail _ ?_)) (rowF (by rfl)) (by first | assumption | rfl | exact strs_get _ hlt | exact strs_get _ hqx) (by rfl) ?_
          | refine SC_cond_t (by rfl) ?_
          | refine SC_cond_f (by rfl) ?_
          | (refine SC_skip' (fun tm σ hE hH => ?_); refine SC.app ?_ hE hH; clear hE hH; clear tm σ)
          | fail)
        refine SC_nd fun hnd => ?_
        refine SC_loop (fun a : Nat × List Int × Option Nat => [(0, l), (2, .ptr b2 0 0), (3, .s (.int .i64 0)), (4, .ptr b4 0 0), (5, .s (.int .i64 q)), (54, .sl wid 0 ws.length none), (55, .s (.int .i64 ws.length)), (56, .s (.int .i64 a.1))]) (fun a => (wid, AObj.cells 9 1 true (strs ws)) :: (b4, AObj.cells 26 3 true [[.s (.int .i64 ws.length), .s (.int .i64 xs.length), outS (ps ++ a.2.1).length a.2.2]]) :: (b2, AObj.cells 26 3 true [zrow]) :: outP (ps ++ a.2.1) a.2.2) (fun _ => []) (fun a => a.1 ≤ ws.length ∧ readL (ws.take a.1) = some a.2.1 ∧ (a.2.2 = none ↔ ps ++ a.2.1 = []) ∧ ∀ id, a.2.2 = some id → B.next ≤ id) (fun a => ws.length - a.1) (0, [], o) ⟨by omega, rfl, ?_, fun id h => hI.new id h⟩ ⟨rfl, rfl, rfl, rfl, rfl, rfl, rfl, rfl, trivial⟩ (.of_mem fun p hp => ?_) ?_ rfl ?_
        · rw [(hI.z hn0).2]
          exact ⟨fun _ => rfl, fun _ => hI.on.2 hn0⟩
        · have ho0 := hI.on.2 hn0
          obtain ⟨rfl, rfl⟩ := hI.z hn0
          subst ho0
          exact hp
        · have ho0 := hI.on.2 hn0
          obtain ⟨rfl, rfl⟩ := hI.z hn0
          subst ho0
          exact hnd
        rintro ⟨k, rs, o'⟩ ⟨hk, hrd, hon', hnew'⟩
        dsimp only at hk hrd hon' hnew'
        have hrl := readL_len hrd
        rw [List.length_take] at hrl
        by_cases hlt : k < ws.length
        · have htk := List.take_succ_eq_append_getElem hlt
          by_cases hdot : ws[k] = ⟨#[46]⟩
          · have hnx := readL_snoc hrd (readW_dot hdot)
            rw [← htk] at hnx
            cases o' with
            | none =>
              have he := hon'.1 rfl
              obtain ⟨rfl, rfl⟩ := List.append_eq_nil_iff.1 he
              dsimp only [outS, outP, List.length_nil, List.nil_append]
              repeat' (first
                | refine SL_store_n (by rfl) (by rfl) (by repeat (first | exact .head _ | refine .tail _ ?_)) (by rfl) (by first | rfl | exact cells_b _ _ _) (by rfl) (by repeat (first | exact .head | apply Upd.tail)) (by first | exact .inl (by assumption) | exact .inr (by simp)) (szF (by rfl)) (Nat.le_of_ble_eq_true (by rfl)) (by rfl) ?_
                | (refine SL_sneq (by decide) (by rfl) (by rfl) (fun hS => ?_) (fun hS => ?_) <;> first | (exact absurd (by assumption) hS) | (exact absurd hS (by assumption)) | skip)
                | refine SC_seq ?_
                | refine SC_block ?_
                | refine SC_region ?_
                | refine SL_seq ?_
                | (refine SL_nil (fun tm σ hE hH => ?_); refine SC.app ?_ hE hH; clear hE hH; clear tm σ)
                | refine SL_move (by decide) (by rfl) ?_
                | refine SL_assign (by decide) (by rfl) ?_
                | refine SL_add (by decide) (by rfl) (by rfl) (by omega) (by omega) ?_
                | (refine SL_lss (by decide) (by rfl) (by rfl) (fun hT => ?_) (fun hT => ?_) <;> first | (exfalso; omega) | skip)
                | refine SL_fieldAddr (by decide) (by rfl) (fldF (by rfl)) ?_
                | refine SL_indexAddr_0 (by decide) (by rfl) (by rfl) (by repeat (first | exact .head _ | refine .tail _ ?_)) (slF (by rfl)) _ (by first | rfl | exact (Int.toNat_of_nonneg (by omega)).symm) (by omega) ?_
                | refine SL_load_o (by decide) (by rfl) (by repeat (first | exact .head _ | refine .tail _ ?_)) (rowF (by rfl)) (by first | assumption | rfl | exact strs_get _ hlt | exact strs_get _ hqx) (by rfl) ?_
                | refine SL_build1 (by decide) (by rfl) (elF (by rfl)) (by rfl) (by rfl) (fun id hid => ?_)
                | refine SL_append1_nil (by decide) (by rfl) (by rfl) (by repeat (first | exact .head _ | refine .tail _ ?_)) (elF (by rfl)) (sliceOf_spec (slF (by rfl))).1 (by rfl) (by decide) (fun id hid => ?_)
                | refine SC_cond_t (by rfl) ?_
                | refine SC_cond_f (by rfl) ?_
                | (refine SC_skip' (fun tm σ hE hH => ?_); refine SC.app ?_ hE hH; clear hE hH; clear tm σ)
                | fail)
              refine SL_nil fun tm σ hE hH => ⟨(k + 1, [0], some id), by dsimp only; omega, ⟨by dsimp only; omega, hnx, by simp, fun j hj => by cases hj; assumption⟩, tm, σ, rfl, hE.sub ⟨rfl, rfl, rfl, rfl, rfl, rfl, rfl, rfl, trivial⟩, ?_⟩
              dsimp only [outS, outP]
              exact (hH.perm (List.perm_append_comm (l₁ := [_, _]) (l₂ := [_, _, _]))).subl (.cons_cons _ (.cons_cons _ (.cons_cons _ (.cons_cons _ (.cons _ .slnil)))))
            | some oid =>
              have hoid := hnew' oid rfl
              have hlen : (ps ++ rs).length ≤ 80 := by rw [List.length_append]; omega
              dsimp only [outS, outP]
              repeat' (first
                | refine SL_store_n (by rfl) (by rfl) (by repeat (first | exact .head _ | refine .tail _ ?_)) (by rfl) (by first | rfl | exact cells_b _ _ _) (by rfl) (by repeat (first | exact .head | apply Upd.tail)) (by first | exact .inl (by assumption) | exact .inr (by simp)) (szF (by rfl)) (Nat.le_of_ble_eq_true (by rfl)) (by rfl) ?_
                | (refine SL_append1_own (by decide) (by rfl) (by rfl) (by repeat (first | exact .head | apply Upd.tail)) (by rw [List.length_map]) (by first | exact .inl (by assumption) | exact .inr (by simp)) (by repeat (first | exact .head _ | refine .tail _ ?_)) (elF (by rfl)) (sliceOf_spec (slF (by rfl))).1 (by rfl) (by omega) (by omega) (fun id hid => ?_))
                | (refine SL_sneq (by decide) (by rfl) (by rfl) (fun hS => ?_) (fun hS => ?_) <;> first | (exact absurd (by assumption) hS) | (exact absurd hS (by assumption)) | skip)
                | refine SC_seq ?_
                | refine SC_block ?_
                | refine SC_region ?_
                | refine SL_seq ?_
                | (refine SL_nil (fun tm σ hE hH => ?_); refine SC.app ?_ hE hH; clear hE hH; clear tm σ)
                | refine SL_move (by decide) (by rfl) ?_
                | refine SL_assign (by decide) (by rfl) ?_
                | refine SL_add (by decide) (by rfl) (by rfl) (by omega) (by omega) ?_
                | (refine SL_lss (by decide) (by rfl) (by rfl) (fun hT => ?_) (fun hT => ?_) <;> first | (exfalso; omega) | skip)
                | refine SL_fieldAddr (by decide) (by rfl) (fldF (by rfl)) ?_
                | refine SL_indexAddr_0 (by decide) (by rfl) (by rfl) (by repeat (first | exact .head _ | refine .tail _ ?_)) (slF (by rfl)) _ (by first | rfl | exact (Int.toNat_of_nonneg (by omega)).symm) (by omega) ?_
                | refine SL_load_o (by decide) (by rfl) (by repeat (first | exact .head _ | refine .tail _ ?_)) (rowF (by rfl)) (by first | assumption | rfl | exact strs_get _ hlt | exact strs_get _ hqx) (by rfl) ?_
                | refine SL_build1 (by decide) (by rfl) (elF (by rfl)) (by rfl) (by rfl) (fun id hid => ?_)
                | refine SC_cond_t (by rfl) ?_
                | refine SC_cond_f (by rfl) ?_
                | (refine SC_skip' (fun tm σ hE hH => ?_); refine SC.app ?_ hE hH; clear hE hH; clear tm σ)
                | fail)
              refine SL_nil fun tm σ hE hH => ⟨(k + 1, rs ++ [0], some id), by dsimp only; omega, ⟨by dsimp only; omega, hnx, by simp, fun j hj => by cases hj; assumption⟩, tm, σ, rfl, hE.sub ⟨rfl, rfl, rfl, rfl, rfl, rfl, rfl, rfl, trivial⟩, ?_⟩
              dsimp only [outS, outP]
              rw [← List.append_assoc, List.length_append, List.map_append]
              exact (hH.perm (List.perm_append_comm (l₁ := [_, _]) (l₂ := [_, _, _, _]))).subl (.cons_cons _ (.cons_cons _ (.cons_cons _ (.cons _ (.cons_cons _ (.cons _ .slnil))))))
          · by_cases hsz : (ws[k].size : Int) = 1
            · cases hpp : parP ((fst ws[k]).toNat : Int) with
              | none =>
                repeat' (first
                  | refine SL_store_n (by rfl) (by rfl) (by repeat (first | exact .head _ | refine .tail _ ?_)) (by rfl) (by first | rfl | exact cells_b _ _ _) (by rfl) (by repeat (first | exact .head | apply Upd.tail)) (by first | exact .inl (by assumption) | exact .inr (by simp)) (szF (by rfl)) (Nat.le_of_ble_eq_true (by rfl)) (by rfl) ?_
                  | (refine SL_sneq (by decide) (by rfl) (by rfl) (fun hS => ?_) (fun hS => ?_) <;> first | (exact absurd (by assumption) hS) | (exact absurd hS (by assumption)) | skip)
                  | refine SL_build (by decide) (by rfl) b26 ?_
                  | (have hw1 := hT; refine SL_index_s (by decide) (by rfl) (by rfl) Tryz.underlying9 (i := 0) (by rfl) (idx0 hw1) ?_)
                  | refine SL_len_s (by decide) (by rfl) (by rfl) Tryz.underlying9 ?_
                  | (refine SL_call (by decide) (by rfl) bd39 (by rfl) (by rfl) (h39n _ (by assumption)) trivial List.nodup_nil ?_; rintro _ _ _ ⟨rfl, rfl⟩; rw [List.nil_append])
                  | refine SC_seq ?_
                  | refine SC_block ?_
                  | refine SC_region ?_
                  | refine SL_seq ?_
                  | refine SL_move (by decide) (by rfl) ?_
                  | refine SL_assign (by decide) (by rfl) ?_
                  | (refine SL_lss (by decide) (by rfl) (by rfl) (fun hT => ?_) (fun hT => ?_) <;> first | (exfalso; omega) | skip)
                  | (refine SL_neq (by decide) (by rfl) (by rfl) (fun hT => ?_) (fun hT => ?_) <;> first | (exfalso; omega) | skip)
                  | refine SL_extract_s (by decide) (by rfl) (by rfl) ?_
                  | refine SL_indexAddr_0 (by decide) (by rfl) (by rfl) (by repeat (first | exact .head _ | refine .tail _ ?_)) (slF (by rfl)) _ (by first | rfl | exact (Int.toNat_of_nonneg (by omega)).symm) (by omega) ?_
                  | refine SL_load_o (by decide) (by rfl) (by repeat (first | exact .head _ | refine .tail _ ?_)) (rowF (by rfl)) (by first | assumption | rfl | exact strs_get _ hlt | exact strs_get _ hqx) (by rfl) ?_
                  | refine SC_cond_t (by rfl) ?_
                  | refine SC_cond_f (by rfl) ?_
                  | (refine SC_skip' (fun tm σ hE hH => ?_); refine SC.app ?_ hE hH; clear hE hH; clear tm σ)
                  | fail)
                refine SC_ret (fun tm σ hE hH => Post.introC (Hn := []) (.inr rfl) hE hH rfl (by rfl) (by rfl) (by repeat (first | exact .head _ | refine .tail _ ?_)) (rowF (by rfl)) (by rfl) (Nat.le_of_ble_eq_true (by rfl)) (mkz _ _ _) trivial List.nodup_nil (fun p hp => (by cases hp)) ?_)
                exact .inl ⟨rfl, rfl⟩
              | some p =>
                have hnx := readL_snoc hrd ((readW_one hdot hsz).trans hpp)
                rw [← htk] at hnx
                cases o' with
                | none =>
                  have he := hon'.1 rfl
                  obtain ⟨rfl, rfl⟩ := List.append_eq_nil_iff.1 he
                  dsimp only [outS, outP, List.length_nil, List.nil_append]
                  repeat' (first
                    | refine SL_store_n (by rfl) (by rfl) (by repeat (first | exact .head _ | refine .tail _ ?_)) (by rfl) (by first | rfl | exact cells_b _ _ _) (by rfl) (by repeat (first | exact .head | apply Upd.tail)) (by first | exact .inl (by assumption) | exact .inr (by simp)) (szF (by rfl)) (Nat.le_of_ble_eq_true (by rfl)) (by rfl) ?_
                    | (refine SL_sneq (by decide) (by rfl) (by rfl) (fun hS => ?_) (fun hS => ?_) <;> first | (exact absurd (by assumption) hS) | (exact absurd hS (by assumption)) | skip)
                    | (have hw1 := hT; refine SL_index_s (by decide) (by rfl) (by rfl) Tryz.underlying9 (i := 0) (by rfl) (idx0 hw1) ?_)
                    | refine SL_len_s (by decide) (by rfl) (by rfl) Tryz.underlying9 ?_
                    | (refine SL_call (by decide) (by rfl) bd39 (by rfl) (by rfl) (h39s _ _ (by assumption)) trivial List.nodup_nil ?_; rintro _ _ _ ⟨rfl, rfl⟩; rw [List.nil_append])
                    | refine SC_seq ?_
                    | refine SC_block ?_
                    | refine SC_region ?_
                    | refine SL_seq ?_
                    | (refine SL_nil (fun tm σ hE hH => ?_); refine SC.app ?_ hE hH; clear hE hH; clear tm σ)
                    | refine SL_move (by decide) (by rfl) ?_
                    | refine SL_assign (by decide) (by rfl) ?_
                    | refine SL_add (by decide) (by rfl) (by rfl) (by omega) (by omega) ?_
                    | (refine SL_lss (by decide) (by rfl) (by rfl) (fun hT => ?_) (fun hT => ?_) <;> first | (exfalso; omega) | skip)
                    | (refine SL_neq (by decide) (by rfl) (by rfl) (fun hT => ?_) (fun hT => ?_) <;> first | (exfalso; omega) | skip)
                    | refine SL_extract_s (by decide) (by rfl) (by rfl) ?_
                    | refine SL_fieldAddr (by decide) (by rfl) (fldF (by rfl)) ?_
                    | refine SL_indexAddr_0 (by decide) (by rfl) (by rfl) (by repeat (first | exact .head _ | refine .tail _ ?_)) (slF (by rfl)) _ (by first | rfl | exact (Int.toNat_of_nonneg (by omega)).symm) (by omega) ?_
                    | refine SL_load_o (by decide) (by rfl) (by repeat (first | exact .head _ | refine .tail _ ?_)) (rowF (by rfl)) (by first | assumption | rfl | exact strs_get _ hlt | exact strs_get _ hqx) (by rfl) ?_
                    | refine SL_build1 (by decide) (by rfl) (elF (by rfl)) (by rfl) (by rfl) (fun id hid => ?_)
                    | refine SL_append1_nil (by decide) (by rfl) (by rfl) (by repeat (first | exact .head _ | refine .tail _ ?_)) (elF (by rfl)) (sliceOf_spec (slF (by rfl))).1 (by rfl) (by decide) (fun id hid => ?_)
                    | refine SC_cond_t (by rfl) ?_
                    | refine SC_cond_f (by rfl) ?_
                    | (refine SC_skip' (fun tm σ hE hH => ?_); refine SC.app ?_ hE hH; clear hE hH; clear tm σ)
                    | fail)
                  refine SL_nil fun tm σ hE hH => ⟨(k + 1, [p], some id), by dsimp only; omega, ⟨by dsimp only; omega, hnx, by simp, fun j hj => by cases hj; assumption⟩, tm, σ, rfl, hE.sub ⟨rfl, rfl, rfl, rfl, rfl, rfl, rfl, rfl, trivial⟩, ?_⟩
                  dsimp only [outS, outP]
                  exact (hH.perm (List.perm_append_comm (l₁ := [_, _]) (l₂ := [_, _, _]))).subl (.cons_cons _ (.cons_cons _ (.cons_cons _ (.cons_cons _ (.cons _ .slnil)))))
                | some oid =>
                  have hoid := hnew' oid rfl
                  have hlen : (ps ++ rs).length ≤ 80 := by rw [List.length_append]; omega
                  dsimp only [outS, outP]
                  repeat' (first
                    | refine SL_store_n (by rfl) (by rfl) (by repeat (first | exact .head _ | refine .tail _ ?_)) (by rfl) (by first | rfl | exact cells_b _ _ _) (by rfl) (by repeat (first | exact .head | apply Upd.tail)) (by first | exact .inl (by assumption) | exact .inr (by simp)) (szF (by rfl)) (Nat.le_of_ble_eq_true (by rfl)) (by rfl) ?_
                    | (refine SL_append1_own (by decide) (by rfl) (by rfl) (by repeat (first | exact .head | apply Upd.tail)) (by rw [List.length_map]) (by first | exact .inl (by assumption) | exact .inr (by simp)) (by repeat (first | exact .head _ | refine .tail _ ?_)) (elF (by rfl)) (sliceOf_spec (slF (by rfl))).1 (by rfl) (by omega) (by omega) (fun id hid => ?_))
                    | (refine SL_sneq (by decide) (by rfl) (by rfl) (fun hS => ?_) (fun hS => ?_) <;> first | (exact absurd (by assumption) hS) | (exact absurd hS (by assumption)) | skip)
                    | (have hw1 := hT; refine SL_index_s (by decide) (by rfl) (by rfl) Tryz.underlying9 (i := 0) (by rfl) (idx0 hw1) ?_)
                    | refine SL_len_s (by decide) (by rfl) (by rfl) Tryz.underlying9 ?_
                    | (refine SL_call (by decide) (by rfl) bd39 (by rfl) (by rfl) (h39s _ _ (by assumption)) trivial List.nodup_nil ?_; rintro _ _ _ ⟨rfl, rfl⟩; rw [List.nil_append])
                    | refine SC_seq ?_
                    | refine SC_block ?_
                    | refine SC_region ?_
                    | refine SL_seq ?_
                    | (refine SL_nil (fun tm σ hE hH => ?_); refine SC.app ?_ hE hH; clear hE hH; clear tm σ)
                    | refine SL_move (by decide) (by rfl) ?_
                    | refine SL_assign (by decide) (by rfl) ?_
                    | refine SL_add (by decide) (by rfl) (by rfl) (by omega) (by omega) ?_
                    | (refine SL_lss (by decide) (by rfl) (by rfl) (fun hT => ?_) (fun hT => ?_) <;> first | (exfalso; omega) | skip)
                    | (refine SL_neq (by decide) (by rfl) (by rfl) (fun hT => ?_) (fun hT => ?_) <;> first | (exfalso; omega) | skip)
                    | refine SL_extract_s (by decide) (by rfl) (by rfl) ?_
                    | refine SL_fieldAddr (by decide) (by rfl) (fldF (by rfl)) ?_
                    | refine SL_indexAddr_0 (by decide) (by rfl) (by rfl) (by repeat (first | exact .head _ | refine .tail _ ?_)) (slF (by rfl)) _ (by first | rfl | exact (Int.toNat_of_nonneg (by omega)).symm) (by omega) ?_
                    | refine SL_load_o (by decide) (by rfl) (by repeat (first | exact .head _ | refine .tail _ ?_)) (rowF (by rfl)) (by first | assumption | rfl | exact strs_get _ hlt | exact strs_get _ hqx) (by rfl) ?_
                    | refine SL_build1 (by decide) (by rfl) (elF (by rfl)) (by rfl) (by rfl) (fun id hid => ?_)
                    | refine SC_cond_t (by rfl) ?_
                    | refine SC_cond_f (by rfl) ?_
                    | (refine SC_skip' (fun tm σ hE hH => ?_); refine SC.app ?_ hE hH; clear hE hH; clear tm σ)
                    | fail)
                  refine SL_nil fun tm σ hE hH => ⟨(k + 1, rs ++ [p], some id), by dsimp only; omega, ⟨by dsimp only; omega, hnx, by simp, fun j hj => by cases hj; assumption⟩, tm, σ, rfl, hE.sub ⟨rfl, rfl, rfl, rfl, rfl, rfl, rfl, rfl, trivial⟩, ?_⟩
                  dsimp only [outS, outP]
                  rw [← List.append_assoc, List.length_append, List.map_append]
                  exact (hH.perm (List.perm_append_comm (l₁ := [_, _]) (l₂ := [_, _, _, _]))).subl (.cons_cons _ (.cons_cons _ (.cons_cons _ (.cons _ (.cons_cons _ (.cons _ .slnil))))))
            ·
              repeat' (first
                | refine SL_store_n (by rfl) (by rfl) (by repeat (first | exact .head _ | refine .tail _ ?_)) (by rfl) (by first | rfl | exact cells_b _ _ _) (by rfl) (by repeat (first | exact .head | apply Upd.tail)) (by first | exact .inl (by assumption) | exact .inr (by simp)) (szF (by rfl)) (Nat.le_of_ble_eq_true (by rfl)) (by rfl) ?_
                | (refine SL_sneq (by decide) (by rfl) (by rfl) (fun hS => ?_) (fun hS => ?_) <;> first | (exact absurd (by assumption) hS) | (exact absurd hS (by assumption)) | skip)
                | refine SL_build (by decide) (by rfl) b26 ?_
                | refine SL_len_s (by decide) (by rfl) (by rfl) Tryz.underlying9 ?_
                | refine SC_seq ?_
                | refine SC_block ?_
                | refine SC_region ?_
                | refine SL_seq ?_
                | refine SL_move (by decide) (by rfl) ?_
                | refine SL_assign (by decide) (by rfl) ?_
                | (refine SL_lss (by decide) (by rfl) (by rfl) (fun hT => ?_) (fun hT => ?_) <;> first | (exfalso; omega) | skip)
                | (refine SL_neq (by decide) (by rfl) (by rfl) (fun hT => ?_) (fun hT => ?_) <;> first | (exfalso; omega) | skip)
                | refine SL_indexAddr_0 (by decide) (by rfl) (by rfl) (by repeat (first | exact .head _ | refine .tail _ ?_)) (slF (by rfl)) _ (by first | rfl | exact (Int.toNat_of_nonneg (by omega)).symm) (by omega) ?_
                | refine SL_load_o (by decide) (by rfl) (by repeat (first | exact .head _ | refine .tail _ ?_)) (rowF (by rfl)) (by first | assumption | rfl | exact strs_get _ hlt | exact strs_get _ hqx) (by rfl) ?_
                | refine SC_cond_t (by rfl) ?_
                | (refine SC_skip' (fun tm σ hE hH => ?_); refine SC.app ?_ hE hH; clear hE hH; clear tm σ)
                | fail)
              refine SC_ret (fun tm σ hE hH => Post.introC (Hn := []) (.inr rfl) hE hH rfl (by rfl) (by rfl) (by repeat (first | exact .head _ | refine .tail _ ?_)) (rowF (by rfl)) (by rfl) (Nat.le_of_ble_eq_true (by rfl)) (mkz _ _ _) trivial List.nodup_nil (fun p hp => (by cases hp)) ?_)
              exact .inl ⟨rfl, rfl⟩
        · obtain rfl : k = ws.length := by omega
          rw [List.take_of_length_le (Nat.le_refl _), hws] at hrd
          have hne : ps ++ rs ≠ [] := by
            intro e
            have := congrArg List.length e
            rw [List.length_append, List.length_nil] at this
            omega
          cases o' with
          | none => exact absurd (hon'.1 rfl) hne
          | some oid =>
            have hI' := hI.step hn hxq hrd (fun h => by rw [← hws]; exact hok3 h) (by rw [← hws]; exact hok1) hok2 (hnew' oid rfl)
            rw [← hws] at hI'
            dsimp only [outS, outP]
            repeat' (first
              | refine SC_seq ?_
              | refine SC_region ?_
              | refine SL_seq ?_
              | refine SL_move (by decide) (by rfl) ?_
              | refine SL_assign (by decide) (by rfl) ?_
              | refine SL_sub (by decide) (by rfl) (by rfl) (by omega) (by omega) ?_
              | (refine SL_lss (by decide) (by rfl) (by rfl) (fun hT => ?_) (fun hT => ?_) <;> first | (exfalso; omega) | skip)
              | refine SC_cond_f (by rfl) ?_
              | (refine SC_exit (fun tm σ hE hH => ?_); refine SC.app ?_ hE hH; clear hE hH; clear tm σ)
              | fail)
            refine SL_nil fun tm σ hE hH => ⟨(n + 1, ws.length, ps ++ rs, some oid), by dsimp only; omega, hI', tm, σ, rfl, hE.sub ⟨rfl, rfl, rfl, rfl, ?_, trivial⟩, hH.subl (.cons _ (.refl _))⟩
            show some (AV.s (Value.int IntKind.i64 ((q : Int) - 1))) = some (.s (.int .i64 ((xs.length : Int) - 1 - ((n + 1 : Nat) : Int))))
            rw [show (xs.length : Int) - 1 - ((n + 1 : Nat) : Int) = (q : Int) - 1 by omega]
      ·
        repeat' (first
          | (refine SL_call (by decide) (by rfl) bd38 (by rfl) (by rfl) (h38 _ ws hws hx100) trivial List.nodup_nil ?_; rintro _ _ hwn ⟨wid, rfl, rfl⟩; rw [List.singleton_append])
          | refine SL_len_v (by decide) (by rfl) (by assumption) (by rfl) (slF (by rfl)) (strs_len _) ?_
          | refine SC_seq ?_
          | refine SC_block ?_
          | refine SC_region ?_
          | refine SL_seq ?_
          | refine SL_run (by rfl) (by rfl) ?_
          | refine SL_move (by decide) (by rfl) ?_
          | refine SL_assign (by decide) (by rfl) ?_
          | refine SL_pick_f (by decide) (by rfl) (by rfl) ?_
          | refine SL_sub (by decide) (by rfl) (by rfl) (by omega) (by omega) ?_
          | (refine SL_gtr (by decide) (by rfl) (by rfl) (fun hT => ?_) (fun hT => ?_) <;> first | (exfalso; omega) | skip)
          | (refine SL_geq (by decide) (by rfl) (by rfl) (fun hT => ?_) (fun hT => ?_) <;> first | (exfalso; omega) | skip)
          | (refine SL_eql (by decide) (by rfl) (by rfl) (fun hT => ?_) (fun hT => ?_) <;> first | (exfalso; omega) | skip)
          | (refine SL_neq (by decide) (by rfl) (by rfl) (fun hT => ?_) (fun hT => ?_) <;> first | (exfalso; omega) | skip)
          | refine SL_fieldAddr (by decide) (by rfl) (fldF (by rfl)) ?_
          | refine SL_len_sl (by decide) (by rfl) (by rfl) (sliceOf_spec (slF (by rfl))).1 ?_
          | refine SL_indexAddr_v (by decide) (by rfl) (by rfl) (by assumption) (slF (by rfl)) _ (by first | rfl | exact (Int.toNat_of_nonneg (by omega)).symm) (by simp only [List.length_map]; omega) (fun ad => ?_)
          | refine SL_load_r (by decide) (by rfl) (rowF (by rfl)) (by first | assumption | rfl | exact strs_get _ hlt | exact strs_get _ hqx) (by rfl) ?_
          | refine SL_load_o (by decide) (by rfl) (by repeat (first | exact .head _ | refine .tail _ ?_)) (rowF (by rfl)) (by first | assumption | rfl | exact strs_get _ hlt | exact strs_get _ hqx) (by rfl) ?_
          | refine SC_cond_t (by rfl) ?_
          | refine SC_cond_f (by rfl) ?_
          | (refine SC_skip' (fun tm σ hE hH => ?_); refine SC.app ?_ hE hH; clear hE hH; clear tm σ)
          | fail)
        refine SC_nd fun hnd => ?_
        refine SC_loop (fun a : Nat × List Int × Option Nat => [(0, l), (2, .ptr b2 0 0), (3, .s (.int .i64 0)), (4, .ptr b4 0 0), (5, .s (.int .i64 q)), (54, .sl wid 0 ws.length none), (55, .s (.int .i64 ws.length)), (56, .s (.int .i64 a.1))]) (fun a => (wid, AObj.cells 9 1 true (strs ws)) :: (b4, AObj.cells 26 3 true [[.s (.int .i64 ws.length), .s (.int .i64 xs.length), outS (ps ++ a.2.1).length a.2.2]]) :: (b2, AObj.cells 26 3 true [zrow]) :: outP (ps ++ a.2.1) a.2.2) (fun _ => []) (fun a => a.1 ≤ ws.length ∧ readL (ws.take a.1) = some a.2.1 ∧ (a.2.2 = none ↔ ps ++ a.2.1 = []) ∧ ∀ id, a.2.2 = some id → B.next ≤ id) (fun a => ws.length - a.1) (0, [], o) ⟨by omega, rfl, ?_, fun id h => hI.new id h⟩ ⟨rfl, rfl, rfl, rfl, rfl, rfl, rfl, rfl, trivial⟩ (.of_mem fun p hp => ?_) ?_ rfl ?_
        · refine ⟨fun h => absurd (hI.on.1 h) (by omega), fun h => ?_⟩
          have := congrArg List.length h
          rw [List.length_append, List.length_nil, hI.len] at this
          have h2 : n * 1 ≤ n * fl := Nat.mul_le_mul_left n (by omega)
          omega
        · rw [hf0, List.append_nil] at hp
          exact hp
        · rw [hf0, List.append_nil]
          exact hnd
        rintro ⟨k, rs, o'⟩ ⟨hk, hrd, hon', hnew'⟩
        dsimp only at hk hrd hon' hnew'
        have hrl := readL_len hrd
        rw [List.length_take] at hrl
        by_cases hlt : k < ws.length
        · have htk := List.take_succ_eq_append_getElem hlt
          by_cases hdot : ws[k] = ⟨#[46]⟩
          · have hnx := readL_snoc hrd (readW_dot hdot)
            rw [← htk] at hnx
            cases o' with
            | none =>
              have he := hon'.1 rfl
              obtain ⟨rfl, rfl⟩ := List.append_eq_nil_iff.1 he
              dsimp only [outS, outP, List.length_nil, List.nil_append]
              repeat' (first
                | refine SL_store_n (by rfl) (by rfl) (by repeat (first | exact .head _ | refine .tail _ ?_)) (by rfl) (by first | rfl | exact cells_b _ _ _) (by rfl) (by repeat (first | exact .head | apply Upd.tail)) (by first | exact .inl (by assumption) | exact .inr (by simp)) (szF (by rfl)) (Nat.le_of_ble_eq_true (by rfl)) (by rfl) ?_
                | (refine SL_sneq (by decide) (by rfl) (by rfl) (fun hS => ?_) (fun hS => ?_) <;> first | (exact absurd (by assumption) hS) | (exact absurd hS (by assumption)) | skip)
                | refine SC_seq ?_
                | refine SC_block ?_
                | refine SC_region ?_
                | refine SL_seq ?_
                | (refine SL_nil (fun tm σ hE hH => ?_); refine SC.app ?_ hE hH; clear hE hH; clear tm σ)
                | refine SL_move (by decide) (by rfl) ?_
                | refine SL_assign (by decide) (by rfl) ?_
                | refine SL_add (by decide) (by rfl) (by rfl) (by omega) (by omega) ?_
                | (refine SL_lss (by decide) (by rfl) (by rfl) (fun hT => ?_) (fun hT => ?_) <;> first | (exfalso; omega) | skip)
                | refine SL_fieldAddr (by decide) (by rfl) (fldF (by rfl)) ?_
                | refine SL_indexAddr_0 (by decide) (by rfl) (by rfl) (by repeat (first | exact .head _ | refine .tail _ ?_)) (slF (by rfl)) _ (by first | rfl | exact (Int.toNat_of_nonneg (by omega)).symm) (by omega) ?_
                | refine SL_load_o (by decide) (by rfl) (by repeat (first | exact .head _ | refine .tail _ ?_)) (rowF (by rfl)) (by first | assumption | rfl | exact strs_get _ hlt | exact strs_get _ hqx) (by rfl) ?_
                | refine SL_build1 (by decide) (by rfl) (elF (by rfl)) (by rfl) (by rfl) (fun id hid => ?_)
                | refine SL_append1_nil (by decide) (by rfl) (by rfl) (by repeat (first | exact .head _ | refine .tail _ ?_)) (elF (by rfl)) (sliceOf_spec (slF (by rfl))).1 (by rfl) (by decide) (fun id hid => ?_)
                | refine SC_cond_t (by rfl) ?_
                | refine SC_cond_f (by rfl) ?_
                | (refine SC_skip' (fun tm σ hE hH => ?_); refine SC.app ?_ hE hH; clear hE hH; clear tm σ)
                | fail)
              refine SL_nil fun tm σ hE hH => ⟨(k + 1, [0], some id), by dsimp only; omega, ⟨by dsimp only; omega, hnx, by simp, fun j hj => by cases hj; assumption⟩, tm, σ, rfl, hE.sub ⟨rfl, rfl, rfl, rfl, rfl, rfl, rfl, rfl, trivial⟩, ?_⟩
              dsimp only [outS, outP]
              exact (hH.perm (List.perm_append_comm (l₁ := [_, _]) (l₂ := [_, _, _]))).subl (.cons_cons _ (.cons_cons _ (.cons_cons _ (.cons_cons _ (.cons _ .slnil)))))
            | some oid =>
              have hoid := hnew' oid rfl
              have hlen : (ps ++ rs).length ≤ 80 := by rw [List.length_append]; omega
              dsimp only [outS, outP]
              repeat' (first
                | refine SL_store_n (by rfl) (by rfl) (by repeat (first | exact .head _ | refine .tail _ ?_)) (by rfl) (by first | rfl | exact cells_b _ _ _) (by rfl) (by repeat (first | exact .head | apply Upd.tail)) (by first | exact .inl (by assumption) | exact .inr (by simp)) (szF (by rfl)) (Nat.le_of_ble_eq_true (by rfl)) (by rfl) ?_
                | (refine SL_append1_own (by decide) (by rfl) (by rfl) (by repeat (first | exact .head | apply Upd.tail)) (by rw [List.length_map]) (by first | exact .inl (by assumption) | exact .inr (by simp)) (by repeat (first | exact .head _ | refine .tail _ ?_)) (elF (by rfl)) (sliceOf_spec (slF (by rfl))).1 (by rfl) (by omega) (by omega) (fun id hid => ?_))
                | (refine SL_sneq (by decide) (by rfl) (by rfl) (fun hS => ?_) (fun hS => ?_) <;> first | (exact absurd (by assumption) hS) | (exact absurd hS (by assumption)) | skip)
                | refine SC_seq ?_
                | refine SC_block ?_
                | refine SC_region ?_
                | refine SL_seq ?_
                | (refine SL_nil (fun tm σ hE hH => ?_); refine SC.app ?_ hE hH; clear hE hH; clear tm σ)
                | refine SL_move (by decide) (by rfl) ?_
                | refine SL_assign (by decide) (by rfl) ?_
                | refine SL_add (by decide) (by rfl) (by rfl) (by omega) (by omega) ?_
                | (refine SL_lss (by decide) (by rfl) (by rfl) (fun hT => ?_) (fun hT => ?_) <;> first | (exfalso; omega) | skip)
                | refine SL_fieldAddr (by decide) (by rfl) (fldF (by rfl)) ?_
                | refine SL_indexAddr_0 (by decide) (by rfl) (by rfl) (by repeat (first | exact .head _ | refine .tail _ ?_)) (slF (by rfl)) _ (by first | rfl | exact (Int.toNat_of_nonneg (by omega)).symm) (by omega) ?_
                | refine SL_load_o (by decide) (by rfl) (by repeat (first | exact .head _ | refine .tail _ ?_)) (rowF (by rfl)) (by first | assumption | rfl | exact strs_get _ hlt | exact strs_get _ hqx) (by rfl) ?_
                | refine SL_build1 (by decide) (by rfl) (elF (by rfl)) (by rfl) (by rfl) (fun id hid => ?_)
                | refine SC_cond_t (by rfl) ?_
                | refine SC_cond_f (by rfl) ?_
                | (refine SC_skip' (fun tm σ hE hH => ?_); refine SC.app ?_ hE hH; clear hE hH; clear tm σ)
                | fail)
              refine SL_nil fun tm σ hE hH => ⟨(k + 1, rs ++ [0], some id), by dsimp only; omega, ⟨by dsimp only; omega, hnx, by simp, fun j hj => by cases hj; assumption⟩, tm, σ, rfl, hE.sub ⟨rfl, rfl, rfl, rfl, rfl, rfl, rfl, rfl, trivial⟩, ?_⟩
              dsimp only [outS, outP]
              rw [← List.append_assoc, List.length_append, List.map_append]
              exact (hH.perm (List.perm_append_comm (l₁ := [_, _]) (l₂ := [_, _, _, _]))).subl (.cons_cons _ (.cons_cons _ (.cons_cons _ (.cons _ (.cons_cons _ (.cons _ .slnil))))))
          · by_cases hsz : (ws[k].size : Int) = 1
            · cases hpp : parP ((fst ws[k]).toNat : Int) with
              | none =>
                repeat' (first
                  | refine SL_store_n (by rfl) (by rfl) (by repeat (first | exact .head _ | refine .tail _ ?_)) (by rfl) (by first | rfl | exact cells_b _ _ _) (by rfl) (by repeat (first | exact .head | apply Upd.tail)) (by first | exact .inl (by assumption) | exact .inr (by simp)) (szF (by rfl)) (Nat.le_of_ble_eq_true (by rfl)) (by rfl) ?_
                  | (refine SL_sneq (by decide) (by rfl) (by rfl) (fun hS => ?_) (fun hS => ?_) <;> first | (exact absurd (by assumption) hS) | (exact absurd hS (by assumption)) | skip)
                  | refine SL_build (by decide) (by rfl) b26 ?_
                  | (have hw1 := hT; refine SL_index_s (by decide) (by rfl) (by rfl) Tryz.underlying9 (i := 0) (by rfl) (idx0 hw1) ?_)
                  | refine SL_len_s (by decide) (by rfl) (by rfl) Tryz.underlying9 ?_
                  | (refine SL_call (by decide) (by rfl) bd39 (by rfl) (by rfl) (h39n _ (by assumption)) trivial List.nodup_nil ?_; rintro _ _ _ ⟨rfl, rfl⟩; rw [List.nil_append])
                  | refine SC_seq ?_
                  | refine SC_block ?_
                  | refine SC_region ?_
                  | refine SL_seq ?_
                  | refine SL_move (by decide) (by rfl) ?_
                  | refine SL_assign (by decide) (by rfl) ?_
                  | (refine SL_lss (by decide) (by rfl) (by rfl) (fun hT => ?_) (fun hT => ?_) <;> first | (exfalso; omega) | skip)
                  | (refine SL_neq (by decide) (by rfl) (by rfl) (fun hT => ?_) (fun hT => ?_) <;> first | (exfalso; omega) | skip)
                  | refine SL_extract_s (by decide) (by rfl) (by rfl) ?_
                  | refine SL_indexAddr_0 (by decide) (by rfl) (by rfl) (by repeat (first | exact .head _ | refine .tail _ ?_)) (slF (by rfl)) _ (by first | rfl | exact (Int.toNat_of_nonneg (by omega)).symm) (by omega) ?_
                  | refine SL_load_o (by decide) (by rfl) (by repeat (first | exact .head _ | refine .tail _ ?_)) (rowF (by rfl)) (by first | assumption | rfl | exact strs_get _ hlt | exact strs_get _ hqx) (by rfl) ?_
                  | refine SC_cond_t (by rfl) ?_
                  | refine SC_cond_f (by rfl) ?_
                  | (refine SC_skip' (fun tm σ hE hH => ?_); refine SC.app ?_ hE hH; clear hE hH; clear tm σ)
                  | fail)
                refine SC_ret (fun tm σ hE hH => Post.introC (Hn := []) (.inr rfl) hE hH rfl (by rfl) (by rfl) (by repeat (first | exact .head _ | refine .tail _ ?_)) (rowF (by rfl)) (by rfl) (Nat.le_of_ble_eq_true (by rfl)) (mkz _ _ _) trivial List.nodup_nil (fun p hp => (by cases hp)) ?_)
                exact .inl ⟨rfl, rfl⟩
              | some p =>
                have hnx := readL_snoc hrd ((readW_one hdot hsz).trans hpp)
                rw [← htk] at hnx
                cases o' with
                | none =>
                  have he := hon'.1 rfl
                  obtain ⟨rfl, rfl⟩ := List.append_eq_nil_iff.1 he
                  dsimp only [outS, outP, List.length_nil, List.nil_append]
                  repeat' (first
                    | refine SL_store_n (by rfl) (by rfl) (by repeat (first | exact .head _ | refine .tail _ ?_)) (by rfl) (by first | rfl | exact cells_b _ _ _) (by rfl) (by repeat (first | exact .head | apply Upd.tail)) (by first | exact .inl (by assumption) | exact .inr (by simp)) (szF (by rfl)) (Nat.le_of_ble_eq_true (by rfl)) (by rfl) ?_
                    | (refine SL_sneq (by decide) (by rfl) (by rfl) (fun hS => ?_) (fun hS => ?_) <;> first | (exact absurd (by assumption) hS) | (exact absurd hS (by assumption)) | skip)
                    | (have hw1 := hT; refine SL_index_s (by decide) (by rfl) (by rfl) Tryz.underlying9 (i := 0) (by rfl) (idx0 hw1) ?_)
                    | refine SL_len_s (by decide) (by rfl) (by rfl) Tryz.underlying9 ?_
                    | (refine SL_call (by decide) (by rfl) bd39 (by rfl) (by rfl) (h39s _ _ (by assumption)) trivial List.nodup_nil ?_; rintro _ _ _ ⟨rfl, rfl⟩; rw [List.nil_append])
                    | refine SC_seq ?_
                    | refine SC_block ?_
                    | refine SC_region ?_
                    | refine SL_seq ?_
                    | (refine SL_nil (fun tm σ hE hH => ?_); refine SC.app ?_ hE hH; clear hE hH; clear tm σ)
                    | refine SL_move (by decide) (by rfl) ?_
                    | refine SL_assign (by decide) (by rfl) ?_
                    | refine SL_add (by decide) (by rfl) (by rfl) (by omega) (by omega) ?_
                    | (refine SL_lss (by decide) (by rfl) (by rfl) (fun hT => ?_) (fun hT => ?_) <;> first | (exfalso; omega) | skip)
                    | (refine SL_neq (by decide) (by rfl) (by rfl) (fun hT => ?_) (fun hT => ?_) <;> first | (exfalso; omega) | skip)
                    | refine SL_extract_s (by decide) (by rfl) (by rfl) ?_
                    | refine SL_fieldAddr (by decide) (by rfl) (fldF (by rfl)) ?_
                    | refine SL_indexAddr_0 (by decide) (by rfl) (by rfl) (by repeat (first | exact .head _ | refine .tail _ ?_)) (slF (by rfl)) _ (by first | rfl | exact (Int.toNat_of_nonneg (by omega)).symm) (by omega) ?_
                    | refine SL_load_o (by decide) (by rfl) (by repeat (first | exact .head _ | refine .tail _ ?_)) (rowF (by rfl)) (by first | assumption | rfl | exact strs_get _ hlt | exact strs_get _ hqx) (by rfl) ?_
                    | refine SL_build1 (by decide) (by rfl) (elF (by rfl)) (by rfl) (by rfl) (fun id hid => ?_)
                    | refine SL_append1_nil (by decide) (by rfl) (by rfl) (by repeat (first | exact .head _ | refine .tail _ ?_)) (elF (by rfl)) (sliceOf_spec (slF (by rfl))).1 (by rfl) (by decide) (fun id hid => ?_)
                    | refine SC_cond_t (by rfl) ?_
                    | refine SC_cond_f (by rfl) ?_
                    | (refine SC_skip' (fun tm σ hE hH => ?_); refine SC.app ?_ hE hH; clear hE hH; clear tm σ)
                    | fail)
                  refine SL_nil fun tm σ hE hH => ⟨(k + 1, [p], some id), by dsimp only; omega, ⟨by dsimp only; omega, hnx, by simp, fun j hj => by cases hj; assumption⟩, tm, σ, rfl, hE.sub ⟨rfl, rfl, rfl, rfl, rfl, rfl, rfl, rfl, trivial⟩, ?_⟩
                  dsimp only [outS, outP]
                  exact (hH.perm (List.perm_append_comm (l₁ := [_, _]) (l₂ := [_, _, _]))).subl (.cons_cons _ (.cons_cons _ (.cons_cons _ (.cons_cons _ (.cons _ .slnil)))))
                | some oid =>
                  have hoid := hnew' oid rfl
                  have hlen : (ps ++ rs).length ≤ 80 := by rw [List.length_append]; omega
                  dsimp only [outS, outP]
                  repeat' (first
                    | refine SL_store_n (by rfl) (by rfl) (by repeat (first | exact .head _ | refine .tail _ ?_)) (by rfl) (by first | rfl | exact cells_b _ _ _) (by rfl) (by repeat (first | exact .head | apply Upd.tail)) (by first | exact .inl (by assumption) | exact .inr (by simp)) (szF (by rfl)) (Nat.le_of_ble_eq_true (by rfl)) (by rfl) ?_
                    | (refine SL_append1_own (by decide) (by rfl) (by rfl) (by repeat (first | exact .head | apply Upd.tail)) (by rw [List.length_map]) (by first | exact .inl (by assumption) | exact .inr (by simp)) (by repeat (first | exact .head _ | refine .tail _ ?_)) (elF (by rfl)) (sliceOf_spec (slF (by rfl))).1 (by rfl) (by omega) (by omega) (fun id hid => ?_))
                    | (refine SL_sneq (by decide) (by rfl) (by rfl) (fun hS => ?_) (fun hS => ?_) <;> first | (exact absurd (by assumption) hS) | (exact absurd hS (by assumption)) | skip)
                    | (have hw1 := hT; refine SL_index_s (by decide) (by rfl) (by rfl) Tryz.underlying9 (i := 0) (by rfl) (idx0 hw1) ?_)
                    | refine SL_len_s (by decide) (by rfl) (by rfl) Tryz.underlying9 ?_
                    | (refine SL_call (by decide) (by rfl) bd39 (by rfl) (by rfl) (h39s _ _ (by assumption)) trivial List.nodup_nil ?_; rintro _ _ _ ⟨rfl, rfl⟩; rw [List.nil_append])
                    | refine SC_seq ?_
                    | refine SC_block ?_
                    | refine SC_region ?_
                    | refine SL_seq ?_
                    | (refine SL_nil (fun tm σ hE hH => ?_); refine SC.app ?_ hE hH; clear hE hH; clear tm σ)
                    | refine SL_move (by decide) (by rfl) ?_
                    | refine SL_assign (by decide) (by rfl) ?_
                    | refine SL_add (by decide) (by rfl) (by rfl) (by omega) (by omega) ?_
                    | (refine SL_lss (by decide) (by rfl) (by rfl) (fun hT => ?_) (fun hT => ?_) <;> first | (exfalso; omega) | skip)
                    | (refine SL_neq (by decide) (by rfl) (by rfl) (fun hT => ?_) (fun hT => ?_) <;> first | (exfalso; omega) | skip)
                    | refine SL_extract_s (by decide) (by rfl) (by rfl) ?_
                    | refine SL_fieldAddr (by decide) (by rfl) (fldF (by rfl)) ?_
                    | refine SL_indexAddr_0 (by decide) (by rfl) (by rfl) (by repeat (first | exact .head _ | refine .tail _ ?_)) (slF (by rfl)) _ (by first | rfl | exact (Int.toNat_of_nonneg (by omega)).symm) (by omega) ?_
                    | refine SL_load_o (by decide) (by rfl) (by repeat (first | exact .head _ | refine .tail _ ?_)) (rowF (by rfl)) (by first | assumption | rfl | exact strs_get _ hlt | exact strs_get _ hqx) (by rfl) ?_
                    | refine SL_build1 (by decide) (by rfl) (elF (by rfl)) (by rfl) (by rfl) (fun id hid => ?_)
                    | refine SC_cond_t (by rfl) ?_
                    | refine SC_cond_f (by rfl) ?_
                    | (refine SC_skip' (fun tm σ hE hH => ?_); refine SC.app ?_ hE hH; clear hE hH; clear tm σ)
                    | fail)
                  refine SL_nil fun tm σ hE hH => ⟨(k + 1, rs ++ [p], some id), by dsimp only; omega, ⟨by dsimp only; omega, hnx, by simp, fun j hj => by cases hj; assumption⟩, tm, σ, rfl, hE.sub ⟨rfl, rfl, rfl, rfl, rfl, rfl, rfl, rfl, trivial⟩, ?_⟩
                  dsimp only [outS, outP]
                  rw [← List.append_assoc, List.length_append, List.map_append]
                  exact (hH.perm (List.perm_append_comm (l₁ := [_, _]) (l₂ := [_, _, _, _]))).subl (.cons_cons _ (.cons_cons _ (.cons_cons _ (.cons _ (.cons_cons _ (.cons _ .slnil))))))
            ·
              repeat' (first
                | refine SL_store_n (by rfl) (by rfl) (by repeat (first | exact .head _ | refine .tail _ ?_)) (by rfl) (by first | rfl | exact cells_b _ _ _) (by rfl) (by repeat (first | exact .head | apply Upd.tail)) (by first | exact .inl (by assumption) | exact .inr (by simp)) (szF (by rfl)) (Nat.le_of_ble_eq_true (by rfl)) (by rfl) ?_
                | (refine SL_sneq (by decide) (by rfl) (by rfl) (fun hS => ?_) (fun hS => ?_) <;> first | (exact absurd (by assumption) hS) | (exact absurd hS (by assumption)) | skip)
                | refine SL_build (by decide) (by rfl) b26 ?_
                | refine SL_len_s (by decide) (by rfl) (by rfl) Tryz.underlying9 ?_
                | refine SC_seq ?_
                | refine SC_block ?_
                | refine SC_region ?_
                | refine SL_seq ?_
                | refine SL_move (by decide) (by rfl) ?_
                | refine SL_assign (by decide) (by rfl) ?_
                | (refine SL_lss (by decide) (by rfl) (by rfl) (fun hT => ?_) (fun hT => ?_) <;> first | (exfalso; omega) | skip)
                | (refine SL_neq (by decide) (by rfl) (by rfl) (fun hT => ?_) (fun hT => ?_) <;> first | (exfalso; omega) | skip)
                | refine SL_indexAddr_0 (by decide) (by rfl) (by rfl) (by repeat (first | exact .head _ | refine .tail _ ?_)) (slF (by rfl)) _ (by first | rfl | exact (Int.toNat_of_nonneg (by omega)).symm) (by omega) ?_
                | refine SL_load_o (by decide) (by rfl) (by repeat (first | exact .head _ | refine .tail _ ?_)) (rowF (by rfl)) (by first | assumption | rfl | exact strs_get _ hlt | exact strs_get _ hqx) (by rfl) ?_
                | refine SC_cond_t (by rfl) ?_
                | (refine SC_skip' (fun tm σ hE hH => ?_); refine SC.app ?_ hE hH; clear hE hH; clear tm σ)
                | fail)
              refine SC_ret (fun tm σ hE hH => Post.introC (Hn := []) (.inr rfl) hE hH rfl (by rfl) (by rfl) (by repeat (first | exact .head _ | refine .tail _ ?_)) (rowF (by rfl)) (by rfl) (Nat.le_of_ble_eq_true (by rfl)) (mkz _ _ _) trivial List.nodup_nil (fun p hp => (by cases hp)) ?_)
              exact .inl ⟨rfl, rfl⟩
        · obtain rfl : k = ws.length := by omega
          rw [List.take_of_length_le (Nat.le_refl _), hws] at hrd
          have hne : ps ++ rs ≠ [] := by
            intro e
            have := congrArg List.length e
            rw [List.length_append, List.length_nil] at this
            omega
          cases o' with
          | none => exact absurd (hon'.1 rfl) hne
          | some oid =>
            have hI' := hI.step hn hxq hrd (fun h => by rw [← hws]; exact hok3 h) (by rw [← hws]; exact hok1) hok2 (hnew' oid rfl)
            rw [← hws] at hI'
            dsimp only [outS, outP]
            repeat' (first
              | refine SC_seq ?_
              | refine SC_region ?_
              | refine SL_seq ?_
              | refine SL_move (by decide) (by rfl) ?_
              | refine SL_assign (by decide) (by rfl) ?_
              | refine SL_sub (by decide) (by rfl) (by rfl) (by omega) (by omega) ?_
              | (refine SL_lss (by decide) (by rfl) (by rfl) (fun hT => ?_) (fun hT => ?_) <;> first | (exfalso; omega) | skip)
              | refine SC_cond_f (by rfl) ?_
              | (refine SC_exit (fun tm σ hE hH => ?_); refine SC.app ?_ hE hH; clear hE hH; clear tm σ)
              | fail)
            refine SL_nil fun tm σ hE hH => ⟨(n + 1, ws.length, ps ++ rs, some oid), by dsimp only; omega, hI', tm, σ, rfl, hE.sub ⟨rfl, rfl, rfl, rfl, ?_, trivial⟩, hH.subl (.cons _ (.refl _))⟩
            show some (AV.s (Value.int IntKind.i64 ((q : Int) - 1))) = some (.s (.int .i64 ((xs.length : Int) - 1 - ((n + 1 : Nat) : Int))))
            rw [show (xs.length : Int) - 1 - ((n + 1 : Nat) : Int) = (q : Int) - 1 by omega]
    · have hz := hI.z
      by_cases hn0 : n = 0
      · obtain ⟨rfl, -⟩ := hz hn0
        repeat' (first
          | refine SL_store_n (by rfl) (by rfl) (by repeat (first | exact .head _ | refine .tail _ ?_)) (by rfl) (by first | rfl | exact cells_b _ _ _) (by rfl) (by repeat (first | exact .head | apply Upd.tail)) (by first | exact .inl (by assumption) | exact .inr (by simp)) (szF (by rfl)) (Nat.le_of_ble_eq_true (by rfl)) (by rfl) ?_
          | (refine SL_call (by decide) (by rfl) bd38 (by rfl) (by rfl) (h38 _ ws hws hx100) trivial List.nodup_nil ?_; rintro _ _ hwn ⟨wid, rfl, rfl⟩; rw [List.singleton_append])
          | refine SL_build (by decide) (by rfl) b26 ?_
          | refine SL_len_v (by decide) (by rfl) (by assumption) (by rfl) (slF (by rfl)) (strs_len _) ?_
          | refine SC_seq ?_
          | refine SC_block ?_
          | refine SC_region ?_
          | refine SL_seq ?_
          | refine SL_run (by rfl) (by rfl) ?_
          | refine SL_not (by rfl) (by rfl) (by rfl) (by decide) ?_
          | refine SL_move (by decide) (by rfl) ?_
          | refine SL_assign (by decide) (by rfl) ?_
          | refine SL_pick_t (by decide) (by rfl) (by rfl) ?_
          | refine SL_pick_f (by decide) (by rfl) (by rfl) ?_
          | refine SL_sub (by decide) (by rfl) (by rfl) (by omega) (by omega) ?_
          | (refine SL_gtr (by decide) (by rfl) (by rfl) (fun hT => ?_) (fun hT => ?_) <;> first | (exfalso; omega) | skip)
          | (refine SL_geq (by decide) (by rfl) (by rfl) (fun hT => ?_) (fun hT => ?_) <;> first | (exfalso; omega) | skip)
          | (refine SL_eql (by decide) (by rfl) (by rfl) (fun hT => ?_) (fun hT => ?_) <;> first | (exfalso; omega) | skip)
          | (refine SL_neq (by decide) (by rfl) (by rfl) (fun hT => ?_) (fun hT => ?_) <;> first | (exfalso; omega) | skip)
          | refine SL_fieldAddr (by decide) (by rfl) (fldF (by rfl)) ?_
          | refine SL_len_sl (by decide) (by rfl) (by rfl) (sliceOf_spec (slF (by rfl))).1 ?_
          | refine SL_indexAddr_v (by decide) (by rfl) (by rfl) (by assumption) (slF (by rfl)) _ (by first | rfl | exact (Int.toNat_of_nonneg (by omega)).symm) (by simp only [List.length_map]; omega) (fun ad => ?_)
          | refine SL_load_r (by decide) (by rfl) (rowF (by rfl)) (by first | assumption | rfl | exact strs_get _ hlt | exact strs_get _ hqx) (by rfl) ?_
          | refine SL_load_o (by decide) (by rfl) (by repeat (first | exact .head _ | refine .tail _ ?_)) (rowF (by rfl)) (by first | assumption | rfl | exact strs_get _ hlt | exact strs_get _ hqx) (by rfl) ?_
          | refine SC_cond_t (by rfl) ?_
          | (refine SC_skip' (fun tm σ hE hH => ?_); refine SC.app ?_ hE hH; clear hE hH; clear tm σ)
          | fail)
        all_goals
          refine SC_ret (fun tm σ hE hH => Post.introC (Hn := []) (.inr rfl) hE hH rfl (by rfl) (by rfl) (by repeat (first | exact .head _ | refine .tail _ ?_)) (rowF (by rfl)) (by rfl) (Nat.le_of_ble_eq_true (by rfl)) (mkz _ _ _) trivial List.nodup_nil (fun p hp => (by cases hp)) ?_)
          exact .inl ⟨rfl, rfl⟩
      · have hp := hI.p (by omega)
        have hok' : ws.length ≠ fl ∨ 8 < ws.length ∨ 8 < xs.length := by omega
        repeat' (first
          | refine SL_store_n (by rfl) (by rfl) (by repeat (first | exact .head _ | refine .tail _ ?_)) (by rfl) (by first | rfl | exact cells_b _ _ _) (by rfl) (by repeat (first | exact .head | apply Upd.tail)) (by first | exact .inl (by assumption) | exact .inr (by simp)) (szF (by rfl)) (Nat.le_of_ble_eq_true (by rfl)) (by rfl) ?_
          | (refine SL_call (by decide) (by rfl) bd38 (by rfl) (by rfl) (h38 _ ws hws hx100) trivial List.nodup_nil ?_; rintro _ _ hwn ⟨wid, rfl, rfl⟩; rw [List.singleton_append])
          | refine SL_build (by decide) (by rfl) b26 ?_
          | refine SL_len_v (by decide) (by rfl) (by assumption) (by rfl) (slF (by rfl)) (strs_len _) ?_
          | refine SC_seq ?_
          | refine SC_block ?_
          | refine SC_region ?_
          | refine SL_seq ?_
          | refine SL_not (by rfl) (by rfl) (by rfl) (by decide) ?_
          | refine SL_move (by decide) (by rfl) ?_
          | refine SL_assign (by decide) (by rfl) ?_
          | refine SL_pick_t (by decide) (by rfl) (by rfl) ?_
          | refine SL_sub (by decide) (by rfl) (by rfl) (by omega) (by omega) ?_
          | (refine SL_geq (by decide) (by rfl) (by rfl) (fun hT => ?_) (fun hT => ?_) <;> first | (exfalso; omega) | skip)
          | (refine SL_eql (by decide) (by rfl) (by rfl) (fun hT => ?_) (fun hT => ?_) <;> first | (exfalso; omega) | skip)
          | (refine SL_neq (by decide) (by rfl) (by rfl) (fun hT => ?_) (fun hT => ?_) <;> first | (exfalso; omega) | skip)
          | refine SL_fieldAddr (by decide) (by rfl) (fldF (by rfl)) ?_
          | refine SL_len_sl (by decide) (by rfl) (by rfl) (sliceOf_spec (slF (by rfl))).1 ?_
          | refine SL_indexAddr_v (by decide) (by rfl) (by rfl) (by assumption) (slF (by rfl)) _ (by first | rfl | exact (Int.toNat_of_nonneg (by omega)).symm) (by simp only [List.length_map]; omega) (fun ad => ?_)
          | refine SL_load_r (by decide) (by rfl) (rowF (by rfl)) (by first | assumption | rfl | exact strs_get _ hlt | exact strs_get _ hqx) (by rfl) ?_
          | refine SL_load_o (by decide) (by rfl) (by repeat (first | exact .head _ | refine .tail _ ?_)) (rowF (by rfl)) (by first | assumption | rfl | exact strs_get _ hlt | exact strs_get _ hqx) (by rfl) ?_
          | refine SC_cond_t (by rfl) ?_
          | refine SC_cond_f (by rfl) ?_
          | (refine SC_skip' (fun tm σ hE hH => ?_); refine SC.app ?_ hE hH; clear hE hH; clear tm σ)
          | fail)
        all_goals
          refine SC_ret (fun tm σ hE hH => Post.introC (Hn := []) (.inr rfl) hE hH rfl (by rfl) (by rfl) (by repeat (first | exact .head _ | refine .tail _ ?_)) (rowF (by rfl)) (by rfl) (Nat.le_of_ble_eq_true (by rfl)) (mkz _ _ _) trivial List.nodup_nil (fun p hp => (by cases hp)) ?_)
          exact .inl ⟨rfl, rfl⟩
  · obtain rfl : n = xs.length := by have := hI.le; omega
    cases o with
    | none =>
      have h0 := hI.on.1 rfl
      obtain ⟨rfl, rfl⟩ := hI.z h0
      dsimp only [outS, outP, List.length_nil]
      repeat' (first
        | refine SL_store_n (by rfl) (by rfl) (by repeat (first | exact .head _ | refine .tail _ ?_)) (by rfl) (by first | rfl | exact cells_b _ _ _) (by rfl) (by repeat (first | exact .head | apply Upd.tail)) (by first | exact .inl (by assumption) | exact .inr (by simp)) (szF (by rfl)) (Nat.le_of_ble_eq_true (by rfl)) (by rfl) ?_
        | refine SL_build (by decide) (by rfl) b26 ?_
        | refine SL_load_or (by decide) (by rfl) (by repeat (first | exact .head _ | refine .tail _ ?_)) (rowF (by rfl)) (by rfl) (Nat.le_of_ble_eq_true (by rfl)) (by first | exact mk2 _ _ | exact mk2b _ _ _ | exact mkb _ _ _) ?_
        | (refine SL_call (by decide) (by rfl) bd10 (by rfl) (by rfl) (h10n) trivial List.nodup_nil ?_; rintro _ _ _ ⟨rfl, rfl⟩; rw [List.nil_append])
        | refine SC_seq ?_
        | refine SC_region ?_
        | refine SL_seq ?_
        | refine SL_move (by decide) (by rfl) ?_
        | refine SL_assign (by decide) (by rfl) ?_
        | refine SL_not_op (by decide) (by rfl) ?_
        | (refine SL_geq (by decide) (by rfl) (by rfl) (fun hT => ?_) (fun hT => ?_) <;> first | (exfalso; omega) | skip)
        | refine SC_cond_t (by rfl) ?_
        | refine SC_cond_f (by rfl) ?_
        | (refine SC_exit (fun tm σ hE hH => ?_); refine SC.app ?_ hE hH; clear hE hH; clear tm σ)
        | fail)
      refine SC_ret (fun tm σ hE hH => Post.introC (Hn := []) (.inr rfl) hE hH rfl (by rfl) (by rfl) (by repeat (first | exact .head _ | refine .tail _ ?_)) (rowF (by rfl)) (by rfl) (Nat.le_of_ble_eq_true (by rfl)) (mkz _ _ _) trivial List.nodup_nil (fun p hp => (by cases hp)) ?_)
      exact .inl ⟨rfl, rfl⟩
    | some oid =>
      have hoid := hI.new oid rfl
      dsimp only [outS, outP]
      have hpl : ps.length ≤ 100 := by
        have hpos : 0 < xs.length := Nat.pos_of_ne_zero (fun h => by have := hI.on.2 h; cases this)
        obtain ⟨h1, h2, h3⟩ := hI.p hpos
        have h4 : xs.length * fl ≤ 8 * 8 := Nat.mul_le_mul h3 h2
        have := hI.len
        omega
      have h10' := h10 fl xs.length oid ps hpl
      unfold Says at h10'
      repeat' (first
        | refine SL_store_n (by rfl) (by rfl) (by repeat (first | exact .head _ | refine .tail _ ?_)) (by rfl) (by first | rfl | exact cells_b _ _ _) (by rfl) (by repeat (first | exact .head | apply Upd.tail)) (by first | exact .inl (by assumption) | exact .inr (by simp)) (szF (by rfl)) (Nat.le_of_ble_eq_true (by rfl)) (by rfl) ?_
        | refine SL_build (by decide) (by rfl) b26 ?_
        | refine SL_load_or (by decide) (by rfl) (by repeat (first | exact .head _ | refine .tail _ ?_)) (rowF (by rfl)) (by rfl) (Nat.le_of_ble_eq_true (by rfl)) (by first | exact mk2 _ _ | exact mk2b _ _ _ | exact mkb _ _ _) ?_
        | (refine SL_call (by decide) (by rfl) bd10 (by rfl) (by rfl) h10' ⟨.tail _ (.tail _ (.head _)), trivial⟩ (by simp) ?_; rintro _ _ _ ⟨hk, rfl⟩; rw [List.nil_append]; rcases hk with ⟨rfl, hok⟩ | ⟨rfl, hok⟩)
        | refine SC_seq ?_
        | refine SC_region ?_
        | refine SL_seq ?_
        | refine SL_move (by decide) (by rfl) ?_
        | refine SL_assign (by decide) (by rfl) ?_
        | refine SL_not_op (by decide) (by rfl) ?_
        | (refine SL_geq (by decide) (by rfl) (by rfl) (fun hT => ?_) (fun hT => ?_) <;> first | (exfalso; omega) | skip)
        | refine SC_cond_t (by rfl) ?_
        | refine SC_cond_f (by rfl) ?_
        | (refine SC_exit (fun tm σ hE hH => ?_); refine SC.app ?_ hE hH; clear hE hH; clear tm σ)
        | (refine SC_skip' (fun tm σ hE hH => ?_); refine SC.app ?_ hE hH; clear hE hH; clear tm σ)
        | fail)
      · refine SC_ret (fun tm σ hE hH => Post.introC (Hn := [(oid, _)]) (.inr rfl) hE hH rfl (by rfl) (by rfl) (by repeat (first | exact .head _ | refine .tail _ ?_)) (rowF (by rfl)) (by rfl) (Nat.le_of_ble_eq_true (by rfl)) (mkb _ _ _) ⟨.tail _ (.tail _ (.head _)), trivial⟩ (by simp) (fun p hp => by cases List.mem_singleton.1 hp; exact hoid) ?_)
        exact .inr ⟨fl, xs.length, oid, ps, rfl, rfl, hok, hI.all rfl⟩
      · refine SC_ret (fun tm σ hE hH => Post.introC (Hn := []) (.inr rfl) hE hH rfl (by rfl) (by rfl) (by repeat (first | exact .head _ | refine .tail _ ?_)) (rowF (by rfl)) (by rfl) (Nat.le_of_ble_eq_true (by rfl)) (mkz _ _ _) trivial List.nodup_nil (fun p hp => (by cases hp)) ?_)
        exact .inl ⟨rfl, rfl⟩
end Go.Proofs.YtnhnlkljcfbhfaaGreatDoor
/- The law's own diagram, of an own board. -/
namespace Go.Proofs.YtnhnlkljcfbhfaaGreatDoor
open Go Go.Ab
set_option maxRecDepth 100000
attribute [local irreducible] SC SL wpc wpl wpd wpf wpy wpn FnC FnW RdW SD
set_option pp.deepTerms false
set_option pp.maxSteps 900
set_option maxHeartbeats 2000000
theorem diagram_o {G : Gl} {F R : Nat} {ps : List Int} {pid : Nat} {px : Bool} (hF : 3 ≤ F ∧ F ≤ 8) (hR : 3 ≤ R ∧ R ≤ 8) (hl : ps.length = F * R) (hps : OkPs ps) (ho : ∀ a, G.orc 12 [a] = none)
    (h32z : ∀ p : Int, p = 0 → FnC Tryz.prog G 32 [.s (.int .i8 p)] [] (fun v Hn => v = .s (.tuple #[.int .u8 0, .int .i64 2]) ∧ Hn = []))
    (h32 : ∀ p : Int, p ≠ 0 → -15 ≤ p → p ≤ 15 → FnC Tryz.prog G 32 [.s (.int .i8 p)] [] (fun v Hn => v = .s (.tuple #[.int .u8 (codeOf p), .int .i64 0]) ∧ Hn = [])) :
    FnC Tryz.prog G 12 [brd F R (.sl pid 0 ps.length none)] [(pid, .cells 81 1 px (ps.map fun p => [AV.s (.int .i8 p)]))] (fun v Hn => ∃ id, v = .sl id 0 R none ∧ Hn = [(id, .cells 9 1 false (strs (diagR F ps R)))]) := by
  refine Fn_body (N := 55) (ho _) Tryz.func12 rfl rfl fun B => ?_
  repeat' (first
    | (refine SL_box (by decide) (by rfl) (by first | exact cells_2 _ _ | exact cells_b _ _ _) (fun b1 hid => ?_))
    | refine SC_seq ?_
    | refine SC_block ?_
    | refine SC_region ?_
    | refine SL_seq ?_
    | refine SL_assign (by decide) (by rfl) ?_
    | refine SL_sub (by decide) (by rfl) (by rfl) (by omega) (by omega) ?_
    | refine SL_fieldAddr (by decide) (by rfl) (fldF (by rfl)) ?_
    | refine SL_load_o (by decide) (by rfl) (by repeat (first | exact .head _ | refine .tail _ ?_)) (rowF (by rfl)) (by first | assumption | rfl | exact ps_get _ hlt) (by rfl) ?_
    | fail)
  refine SC_nd fun hnd0 => ?_
  refine SC_loop (fun a : Nat × Option Nat => [(1, .ptr b1 0 0), (3, outS a.1 a.2), (4, .s (.int .i64 ((R : Int) - 1 - a.1)))]) (fun a => (b1, .cells 26 3 true [[.s (.int .i64 F), .s (.int .i64 R), .sl pid 0 ps.length none]]) :: (pid, .cells 81 1 px (ps.map fun p => [AV.s (.int .i8 p)])) :: outH ((diagR F ps R).take a.1) a.2) (fun _ => []) (fun a => a.1 ≤ R ∧ (a.2 = none ↔ a.1 = 0) ∧ ∀ id, a.2 = some id → B.next ≤ id) (fun a => R - a.1) (0, none) ⟨by omega, by simp, by simp⟩ ⟨rfl, rfl, ?_, trivial⟩ ?_ (by simpa [outH] using hnd0) rfl ?_
  · show some (AV.s (Value.int IntKind.i64 ((R : Int) - 1))) = some (.s (.int .i64 ((R : Int) - 1 - ((0 : Nat) : Int))))
    rw [Int.natCast_zero, Int.sub_zero]
  · exact ⟨.head _, .tail _ (.head _), trivial⟩
  rintro ⟨n, o⟩ ⟨hn, hon, hnew⟩
  dsimp only at hn hon hnew
  by_cases hnR : n < R
  · obtain ⟨q, hq⟩ : ∃ q : Nat, (R : Int) - 1 - n = q := ⟨R - 1 - n, by omega⟩
    dsimp only
    rw [hq]
    repeat' (first
      | refine SC_seq ?_
      | refine SC_block ?_
      | refine SC_region ?_
      | refine SL_seq ?_
      | refine SL_move (by decide) (by rfl) ?_
      | refine SL_assign (by decide) (by rfl) ?_
      | (refine SL_geq (by decide) (by rfl) (by rfl) (fun hT => ?_) (fun hT => ?_) <;> first | (exfalso; omega) | skip)
      | refine SC_cond_t (by rfl) ?_
      | (refine SC_skip' (fun tm σ hE hH => ?_); refine SC.app ?_ hE hH; clear hE hH; clear tm σ)
      | fail)
    refine SC_nd fun hnd => ?_
    refine SC_loop (fun k : Nat => [(1, .ptr b1 0 0), (3, outS n o), (4, .s (.int .i64 q)), (5, .s (.string (lineP (((ps.drop (q * F)).take F).take k)))), (6, .s (.int .i64 k))]) (fun _ => (b1, .cells 26 3 true [[.s (.int .i64 F), .s (.int .i64 R), .sl pid 0 ps.length none]]) :: (pid, .cells 81 1 px (ps.map fun p => [AV.s (.int .i8 p)])) :: outH ((diagR F ps R).take n) o) (fun _ => []) (fun k => k ≤ F) (fun k => F - k) 0 (by omega) ⟨rfl, rfl, rfl, rfl, rfl, trivial⟩ (.of_mem fun p hp => hp) hnd rfl ?_
    intro k hk
    by_cases hkF : k < F
    · obtain ⟨hidx, hget⟩ := rank_at hl (show q < R by omega) hkF
      have hrl := rank_len hl (show q < R by omega)
      have hX0 : 0 ≤ (q : Int) * F := Int.mul_nonneg (by omega) (by omega)
      have hX1 : (q : Int) * F + k < ps.length := by have := hidx; rw [← Int.natCast_mul]; omega
      have hX2 : (ps.length : Int) ≤ 64 := by
        have : F * R ≤ 8 * 8 := Nat.mul_le_mul (by omega) (by omega)
        omega
      have hlt : ((q : Int) * F + k).toNat < ps.length := by omega
      have hp := hps _ (List.getElem_mem hlt)
      have hls := lineP_size ((ps.drop (q * F)).take F) k (by omega)
      have hix : ((q : Int) * F + k).toNat = q * F + k := by rw [← Int.natCast_mul]; omega
      have hrow : ((ps.drop (q * F)).take F)[k]'(by omega) = ps[((q : Int) * F + k).toNat] := by
        have h1 := List.getElem?_eq_getElem (show k < ((ps.drop (q * F)).take F).length by omega)
        rw [hget] at h1
        simp only [hix]
        exact (Option.some.inj h1).symm
      have hval := lineP_take (show k < ((ps.drop (q * F)).take F).length by omega)
      rw [hrow] at hval
      by_cases hz : ps[((q : Int) * F + k).toNat] = 0
      · by_cases hk0 : k = 0
        ·
          repeat' (first
            | refine SL_mul (by decide) (by rfl) (by rfl) (by omega) (by omega) ?_
            | refine SL_cat (by decide) (by rfl) (by rfl) (catOk (by first | omega | (rw [ByteArray.size_append, size32]; omega) | exact Nat.le_of_ble_eq_true (by rfl)) (by first | omega | exact Nat.le_of_ble_eq_true (by rfl))) ?_
            | refine SL_bytes (by decide) (by rfl) (by repeat (first | exact .head _ | refine .tail _ ?_)) Tryz.underlying84 Tryz.underlying9 Tryz.underlying5 (Nat.le_of_ble_eq_true (by rfl)) (by rfl) ?_
            | (refine SL_call (by decide) (by rfl) bd32 (by rfl) (by rfl) (h32z _ (by assumption)) trivial List.nodup_nil ?_; rintro _ _ _ ⟨rfl, rfl⟩; rw [List.nil_append])
            | refine SC_seq ?_
            | refine SC_block ?_
            | refine SC_region ?_
            | refine SL_seq ?_
            | (refine SL_nil (fun tm σ hE hH => ?_); refine SC.app ?_ hE hH; clear hE hH; clear tm σ)
            | refine SL_move (by decide) (by rfl) ?_
            | refine SL_assign (by decide) (by rfl) ?_
            | refine SL_add (by decide) (by rfl) (by rfl) (by omega) (by omega) ?_
            | (refine SL_lss (by decide) (by rfl) (by rfl) (fun hT => ?_) (fun hT => ?_) <;> first | (exfalso; omega) | skip)
            | (refine SL_gtr (by decide) (by rfl) (by rfl) (fun hT => ?_) (fun hT => ?_) <;> first | (exfalso; omega) | skip)
            | (refine SL_neq (by decide) (by rfl) (by rfl) (fun hT => ?_) (fun hT => ?_) <;> first | (exfalso; omega) | skip)
            | refine SL_extract_s (by decide) (by rfl) (by rfl) ?_
            | refine SL_fieldAddr (by decide) (by rfl) (fldF (by rfl)) ?_
            | refine SL_indexAddr_0 (by decide) (by rfl) (by rfl) (by repeat (first | exact .head _ | refine .tail _ ?_)) (slF (by rfl)) _ (by first | rfl | exact (Int.toNat_of_nonneg (by omega)).symm) (by omega) ?_
            | refine SL_load_o (by decide) (by rfl) (by repeat (first | exact .head _ | refine .tail _ ?_)) (rowF (by rfl)) (by first | assumption | rfl | exact ps_get _ hlt) (by rfl) ?_
            | refine SL_build1 (by decide) (by rfl) (elF (by rfl)) (by rfl) (by rfl) (fun id hid => ?_)
            | refine SC_cond_t (by rfl) ?_
            | refine SC_cond_f (by rfl) ?_
            | (refine SC_skip' (fun tm σ hE hH => ?_); refine SC.app ?_ hE hH; clear hE hH; clear tm σ)
            | fail)
          refine SL_nil fun tm σ hE hH => ⟨k + 1, by omega, by omega, tm, σ, rfl, hE.sub ⟨rfl, rfl, rfl, congrArg (fun s => some (AV.s (Value.string s))) (Eq.trans ?_ hval.symm), rfl, trivial⟩, hH.subl (List.Sublist.cons _ (List.Sublist.refl _))⟩
          rw [if_pos hk0, hz]; rfl
        ·
          repeat' (first
            | refine SL_mul (by decide) (by rfl) (by rfl) (by omega) (by omega) ?_
            | refine SL_cat (by decide) (by rfl) (by rfl) (catOk (by first | omega | (rw [ByteArray.size_append, size32]; omega) | exact Nat.le_of_ble_eq_true (by rfl)) (by first | omega | exact Nat.le_of_ble_eq_true (by rfl))) ?_
            | refine SL_bytes (by decide) (by rfl) (by repeat (first | exact .head _ | refine .tail _ ?_)) Tryz.underlying84 Tryz.underlying9 Tryz.underlying5 (Nat.le_of_ble_eq_true (by rfl)) (by rfl) ?_
            | (refine SL_call (by decide) (by rfl) bd32 (by rfl) (by rfl) (h32z _ (by assumption)) trivial List.nodup_nil ?_; rintro _ _ _ ⟨rfl, rfl⟩; rw [List.nil_append])
            | refine SC_seq ?_
            | refine SC_block ?_
            | refine SC_region ?_
            | refine SL_seq ?_
            | (refine SL_nil (fun tm σ hE hH => ?_); refine SC.app ?_ hE hH; clear hE hH; clear tm σ)
            | refine SL_move (by decide) (by rfl) ?_
            | refine SL_assign (by decide) (by rfl) ?_
            | refine SL_add (by decide) (by rfl) (by rfl) (by omega) (by omega) ?_
            | (refine SL_lss (by decide) (by rfl) (by rfl) (fun hT => ?_) (fun hT => ?_) <;> first | (exfalso; omega) | skip)
            | (refine SL_gtr (by decide) (by rfl) (by rfl) (fun hT => ?_) (fun hT => ?_) <;> first | (exfalso; omega) | skip)
            | (refine SL_neq (by decide) (by rfl) (by rfl) (fun hT => ?_) (fun hT => ?_) <;> first | (exfalso; omega) | skip)
            | refine SL_extract_s (by decide) (by rfl) (by rfl) ?_
            | refine SL_fieldAddr (by decide) (by rfl) (fldF (by rfl)) ?_
            | refine SL_indexAddr_0 (by decide) (by rfl) (by rfl) (by repeat (first | exact .head _ | refine .tail _ ?_)) (slF (by rfl)) _ (by first | rfl | exact (Int.toNat_of_nonneg (by omega)).symm) (by omega) ?_
            | refine SL_load_o (by decide) (by rfl) (by repeat (first | exact .head _ | refine .tail _ ?_)) (rowF (by rfl)) (by first | assumption | rfl | exact ps_get _ hlt) (by rfl) ?_
            | refine SL_build1 (by decide) (by rfl) (elF (by rfl)) (by rfl) (by rfl) (fun id hid => ?_)
            | refine SC_cond_t (by rfl) ?_
            | (refine SC_skip' (fun tm σ hE hH => ?_); refine SC.app ?_ hE hH; clear hE hH; clear tm σ)
            | fail)
          refine SL_nil fun tm σ hE hH => ⟨k + 1, by omega, by omega, tm, σ, rfl, hE.sub ⟨rfl, rfl, rfl, congrArg (fun s => some (AV.s (Value.string s))) (Eq.trans ?_ hval.symm), rfl, trivial⟩, hH.subl (List.Sublist.cons _ (List.Sublist.refl _))⟩
          rw [if_neg hk0, hz]; rfl
      · by_cases hk0 : k = 0
        ·
          repeat' (first
            | refine SL_mul (by decide) (by rfl) (by rfl) (by omega) (by omega) ?_
            | refine SL_cat (by decide) (by rfl) (by rfl) (catOk (by first | omega | (rw [ByteArray.size_append, size32]; omega) | exact Nat.le_of_ble_eq_true (by rfl)) (by first | omega | exact Nat.le_of_ble_eq_true (by rfl))) ?_
            | refine SL_bytes (by decide) (by rfl) (by repeat (first | exact .head _ | refine .tail _ ?_)) Tryz.underlying84 Tryz.underlying9 Tryz.underlying5 (Nat.le_of_ble_eq_true (by rfl)) (by rfl) ?_
            | (refine SL_call (by decide) (by rfl) bd32 (by rfl) (by rfl) (h32 _ (by assumption) (by omega) (by omega)) trivial List.nodup_nil ?_; rintro _ _ _ ⟨rfl, rfl⟩; rw [List.nil_append])
            | refine SC_seq ?_
            | refine SC_block ?_
            | refine SC_region ?_
            | refine SL_seq ?_
            | (refine SL_nil (fun tm σ hE hH => ?_); refine SC.app ?_ hE hH; clear hE hH; clear tm σ)
            | refine SL_move (by decide) (by rfl) ?_
            | refine SL_assign (by decide) (by rfl) ?_
            | refine SL_add (by decide) (by rfl) (by rfl) (by omega) (by omega) ?_
            | (refine SL_lss (by decide) (by rfl) (by rfl) (fun hT => ?_) (fun hT => ?_) <;> first | (exfalso; omega) | skip)
            | (refine SL_gtr (by decide) (by rfl) (by rfl) (fun hT => ?_) (fun hT => ?_) <;> first | (exfalso; omega) | skip)
            | (refine SL_neq (by decide) (by rfl) (by rfl) (fun hT => ?_) (fun hT => ?_) <;> first | (exfalso; omega) | skip)
            | refine SL_extract_s (by decide) (by rfl) (by rfl) ?_
            | refine SL_fieldAddr (by decide) (by rfl) (fldF (by rfl)) ?_
            | refine SL_indexAddr_0 (by decide) (by rfl) (by rfl) (by repeat (first | exact .head _ | refine .tail _ ?_)) (slF (by rfl)) _ (by first | rfl | exact (Int.toNat_of_nonneg (by omega)).symm) (by omega) ?_
            | refine SL_load_o (by decide) (by rfl) (by repeat (first | exact .head _ | refine .tail _ ?_)) (rowF (by rfl)) (by first | assumption | rfl | exact ps_get _ hlt) (by rfl) ?_
            | refine SL_build1 (by decide) (by rfl) (elF (by rfl)) (by rfl) (by rfl) (fun id hid => ?_)
            | refine SC_cond_t (by rfl) ?_
            | refine SC_cond_f (by rfl) ?_
            | (refine SC_skip' (fun tm σ hE hH => ?_); refine SC.app ?_ hE hH; clear hE hH; clear tm σ)
            | fail)
          refine SL_nil fun tm σ hE hH => ⟨k + 1, by omega, by omega, tm, σ, rfl, hE.sub ⟨rfl, rfl, rfl, congrArg (fun s => some (AV.s (Value.string s))) (Eq.trans ?_ hval.symm), rfl, trivial⟩, hH.subl (List.Sublist.cons _ (List.Sublist.refl _))⟩
          rw [if_pos hk0]; rfl
        ·
          repeat' (first
            | refine SL_mul (by decide) (by rfl) (by rfl) (by omega) (by omega) ?_
            | refine SL_cat (by decide) (by rfl) (by rfl) (catOk (by first | omega | (rw [ByteArray.size_append, size32]; omega) | exact Nat.le_of_ble_eq_true (by rfl)) (by first | omega | exact Nat.le_of_ble_eq_true (by rfl))) ?_
            | refine SL_bytes (by decide) (by rfl) (by repeat (first | exact .head _ | refine .tail _ ?_)) Tryz.underlying84 Tryz.underlying9 Tryz.underlying5 (Nat.le_of_ble_eq_true (by rfl)) (by rfl) ?_
            | (refine SL_call (by decide) (by rfl) bd32 (by rfl) (by rfl) (h32 _ (by assumption) (by omega) (by omega)) trivial List.nodup_nil ?_; rintro _ _ _ ⟨rfl, rfl⟩; rw [List.nil_append])
            | refine SC_seq ?_
            | refine SC_block ?_
            | refine SC_region ?_
            | refine SL_seq ?_
            | (refine SL_nil (fun tm σ hE hH => ?_); refine SC.app ?_ hE hH; clear hE hH; clear tm σ)
            | refine SL_move (by decide) (by rfl) ?_
            | refine SL_assign (by decide) (by rfl) ?_
            | refine SL_add (by decide) (by rfl) (by rfl) (by omega) (by omega) ?_
            | (refine SL_lss (by decide) (by rfl) (by rfl) (fun hT => ?_) (fun hT => ?_) <;> first | (exfalso; omega) | skip)
            | (refine SL_gtr (by decide) (by rfl) (by rfl) (fun hT => ?_) (fun hT => ?_) <;> first | (exfalso; omega) | skip)
            | (refine SL_neq (by decide) (by rfl) (by rfl) (fun hT => ?_) (fun hT => ?_) <;> first | (exfalso; omega) | skip)
            | refine SL_extract_s (by decide) (by rfl) (by rfl) ?_
            | refine SL_fieldAddr (by decide) (by rfl) (fldF (by rfl)) ?_
            | refine SL_indexAddr_0 (by decide) (by rfl) (by rfl) (by repeat (first | exact .head _ | refine .tail _ ?_)) (slF (by rfl)) _ (by first | rfl | exact (Int.toNat_of_nonneg (by omega)).symm) (by omega) ?_
            | refine SL_load_o (by decide) (by rfl) (by repeat (first | exact .head _ | refine .tail _ ?_)) (rowF (by rfl)) (by first | assumption | rfl | exact ps_get _ hlt) (by rfl) ?_
            | refine SL_build1 (by decide) (by rfl) (elF (by rfl)) (by rfl) (by rfl) (fun id hid => ?_)
            | refine SC_cond_t (by rfl) ?_
            | refine SC_cond_f (by rfl) ?_
            | (refine SC_skip' (fun tm σ hE hH => ?_); refine SC.app ?_ hE hH; clear hE hH; clear tm σ)
            | fail)
          refine SL_nil fun tm σ hE hH => ⟨k + 1, by omega, by omega, tm, σ, rfl, hE.sub ⟨rfl, rfl, rfl, congrArg (fun s => some (AV.s (Value.string s))) (Eq.trans ?_ hval.symm), rfl, trivial⟩, hH.subl (List.Sublist.cons _ (List.Sublist.refl _))⟩
          rw [if_neg hk0]; rfl
    · obtain rfl : k = F := by omega
      have hrl := rank_len hl (show q < R by omega)
      have hDn : (diagR k ps R).take (n + 1) = (diagR k ps R).take n ++ [lineP (((ps.drop (q * k)).take k).take k)] := by
        have := diagR_take k ps (show q < R by omega)
        rw [show R - q = n + 1 by omega, show R - (q + 1) = n by omega] at this
        rw [this, List.take_take, Nat.min_self]
      cases o with
      | none =>
        obtain rfl : n = 0 := hon.1 rfl
        dsimp only [outS, outH]
        repeat' (first
          | refine SC_seq ?_
          | refine SC_region ?_
          | refine SL_seq ?_
          | (refine SL_nil (fun tm σ hE hH => ?_); refine SC.app ?_ hE hH; clear hE hH; clear tm σ)
          | refine SL_move (by decide) (by rfl) ?_
          | refine SL_assign (by decide) (by rfl) ?_
          | refine SL_sub (by decide) (by rfl) (by rfl) (by omega) (by omega) ?_
          | (refine SL_lss (by decide) (by rfl) (by rfl) (fun hT => ?_) (fun hT => ?_) <;> first | (exfalso; omega) | skip)
          | refine SL_fieldAddr (by decide) (by rfl) (fldF (by rfl)) ?_
          | refine SL_load_o (by decide) (by rfl) (by repeat (first | exact .head _ | refine .tail _ ?_)) (rowF (by rfl)) (by first | assumption | rfl | exact ps_get _ hlt) (by rfl) ?_
          | refine SL_build1 (by decide) (by rfl) (elF (by rfl)) (by rfl) (by rfl) (fun id hid => ?_)
          | refine SL_append1_nil (by decide) (by rfl) (by rfl) (by repeat (first | exact .head _ | refine .tail _ ?_)) (elF (by rfl)) (sliceOf_spec (slF (by rfl))).1 (by rfl) (by decide) (fun id hid => ?_)
          | refine SC_cond_f (by rfl) ?_
          | (refine SC_exit (fun tm σ hE hH => ?_); refine SC.app ?_ hE hH; clear hE hH; clear tm σ)
          | fail)
        refine SL_nil fun tm σ hE hH => ⟨(1, some id), by dsimp only; omega, ⟨by dsimp only; omega, by simp, fun j hj => by cases hj; assumption⟩, tm, σ, rfl, hE.sub ⟨rfl, rfl, ?_, trivial⟩, ?_⟩
        · show some (AV.s (Value.int IntKind.i64 ((q : Int) - 1))) = some (.s (.int .i64 ((R : Int) - 1 - ((1 : Nat) : Int))))
          rw [show (R : Int) - 1 - ((1 : Nat) : Int) = (q : Int) - 1 by omega]
        · dsimp only [outH, strs]
          rw [hDn]
          exact (hH.perm (List.perm_append_comm (l₁ := [_, _]) (l₂ := [_, _]))).subl (.cons_cons _ (.cons_cons _ (.cons_cons _ (.cons _ .slnil))))
      | some oid =>
        have hDl : ((diagR k ps R).take n).length = n := by rw [List.length_take, diagR_len]; omega
        have hoid := hnew oid rfl
        dsimp only [outS, outH, strs]
        repeat' (first
          | refine SL_append1_own (by decide) (by rfl) (by rfl) (by repeat (first | exact .head | apply Upd.tail)) (by rw [List.length_map]; exact hDl.symm) (by first | exact .inl (by assumption) | exact .inr (by simp)) (by repeat (first | exact .head _ | refine .tail _ ?_)) (elF (by rfl)) (sliceOf_spec (slF (by rfl))).1 (by rfl) (by omega) (by omega) (fun id hid => ?_)
          | refine SC_seq ?_
          | refine SC_region ?_
          | refine SL_seq ?_
          | (refine SL_nil (fun tm σ hE hH => ?_); refine SC.app ?_ hE hH; clear hE hH; clear tm σ)
          | refine SL_move (by decide) (by rfl) ?_
          | refine SL_assign (by decide) (by rfl) ?_
          | refine SL_sub (by decide) (by rfl) (by rfl) (by omega) (by omega) ?_
          | (refine SL_lss (by decide) (by rfl) (by rfl) (fun hT => ?_) (fun hT => ?_) <;> first | (exfalso; omega) | skip)
          | refine SL_fieldAddr (by decide) (by rfl) (fldF (by rfl)) ?_
          | refine SL_load_o (by decide) (by rfl) (by repeat (first | exact .head _ | refine .tail _ ?_)) (rowF (by rfl)) (by first | assumption | rfl | exact ps_get _ hlt) (by rfl) ?_
          | refine SL_build1 (by decide) (by rfl) (elF (by rfl)) (by rfl) (by rfl) (fun id hid => ?_)
          | refine SC_cond_f (by rfl) ?_
          | (refine SC_exit (fun tm σ hE hH => ?_); refine SC.app ?_ hE hH; clear hE hH; clear tm σ)
          | fail)
        refine SL_nil fun tm σ hE hH => ⟨(n + 1, some id), by dsimp only; omega, ⟨by dsimp only; omega, by simp, fun j hj => by cases hj; assumption⟩, tm, σ, rfl, hE.sub ⟨rfl, rfl, ?_, trivial⟩, ?_⟩
        · show some (AV.s (Value.int IntKind.i64 ((q : Int) - 1))) = some (.s (.int .i64 ((R : Int) - 1 - ((n + 1 : Nat) : Int))))
          rw [show (R : Int) - 1 - ((n + 1 : Nat) : Int) = (q : Int) - 1 by omega]
        · dsimp only [outH, strs]
          rw [hDn, List.map_append]
          exact (hH.perm (List.perm_append_comm (l₁ := [_, _]) (l₂ := [_, _, _]))).subl (.cons_cons _ (.cons_cons _ (.cons _ (.cons_cons _ (.cons _ .slnil)))))
  · obtain rfl : n = R := by omega
    cases o with
    | none => exact absurd (hon.1 rfl) (by omega)
    | some oid =>
      dsimp only [outS, outH]
      repeat' (first
        | refine SC_seq ?_
        | refine SC_region ?_
        | refine SL_seq ?_
        | refine SL_move (by decide) (by rfl) ?_
        | refine SL_assign (by decide) (by rfl) ?_
        | (refine SL_geq (by decide) (by rfl) (by rfl) (fun hT => ?_) (fun hT => ?_) <;> first | (exfalso; omega) | skip)
        | refine SC_cond_f (by rfl) ?_
        | (refine SC_exit (fun tm σ hE hH => ?_); refine SC.app ?_ hE hH; clear hE hH; clear tm σ)
        | fail)
      refine SC_ret (fun tm σ hE hH => Post.intro (Hn := [(oid, _)]) (.inr rfl) hE hH (by rfl) ⟨.tail _ (.tail _ (.head _)), trivial⟩ (by simp) (fun p hp => by cases List.mem_singleton.1 hp; exact hnew oid rfl) ⟨oid, rfl, by rw [List.take_of_length_le (by rw [diagR_len]; exact Nat.le_refl _)]⟩)
end Go.Proofs.YtnhnlkljcfbhfaaGreatDoor
/- ReportBoards, walked. -/
namespace Go.Proofs.YtnhnlkljcfbhfaaGreatDoor
open Go Go.Ab
set_option maxRecDepth 100000
theorem bd8b : (Tryz.prog.funcs[8]?).map (·.body.isNone) = some false := by rw [Tryz.func8]; rfl
theorem bd7 : (Tryz.prog.funcs[7]?).map (·.body.isNone) = some false := by rw [Tryz.func7]; rfl
theorem bd9 : (Tryz.prog.funcs[9]?).map (·.body.isNone) = some false := by rw [Tryz.func9]; rfl
theorem bd11 : (Tryz.prog.funcs[11]?).map (·.body.isNone) = some false := by rw [Tryz.func11]; rfl
theorem bd12 : (Tryz.prog.funcs[12]?).map (·.body.isNone) = some false := by rw [Tryz.func12]; rfl
theorem bd13 : (Tryz.prog.funcs[13]?).map (·.body.isNone) = some false := by rw [Tryz.func13]; rfl
theorem ps_len (ps : List Int) : (ps.map fun p => [AV.s (.int .i8 p)]).length = ps.length := List.length_map _
structure Bds (G : Gl) (xs : List ByteArray) (al : AV) : Prop where
  o3 : ∀ a b, G.orc 3 [a, b] = none
  h8 : FnC Tryz.prog G 8 [] [] (fun v Hn => v = .s (.bool true) ∧ Hn = [])
  h7 : FnC Tryz.prog G 7 [al, .s (.int .i64 9)] [] (fun v Hn => v = .s (.bool (fewS xs 9)) ∧ Hn = [])
  h13 : fewS xs 9 = true → FnC Tryz.prog G 13 [al] [] (PDR xs)
  h10o : ∀ (F R pid : Nat) (qs : List Int), OkB F R qs → FnC Tryz.prog G 10 [brd F R (.sl pid 0 qs.length none)] [(pid, .cells 81 1 false (qs.map fun p => [AV.s (.int .i8 p)]))] (fun v Hn => v = .s (.bool true) ∧ Hn = [])
  h12o : ∀ (F R pid : Nat) (qs : List Int), OkB F R qs → FnC Tryz.prog G 12 [brd F R (.sl pid 0 qs.length none)] [(pid, .cells 81 1 false (qs.map fun p => [AV.s (.int .i8 p)]))] (fun v Hn => ∃ id, v = .sl id 0 R none ∧ Hn = [(id, .cells 9 1 false (strs (diagR F qs R)))])
  h11ov : ∀ (a n : Nat) (ys : List ByteArray), ys = xs → n = xs.length → n ≤ 1000 → FnC Tryz.prog G 11 [.sl a 0 n none, al] [(a, .cells 9 1 false (strs ys))] (fun v Hn => v = .s (.bool true) ∧ Hn = [])
attribute [local irreducible] SC SL wpc wpl wpd wpf wpy wpn FnC FnW RdW SD
set_option pp.deepTerms false
set_option pp.maxSteps 900
set_option maxHeartbeats 4000000
theorem law3_k {G : Gl} {f r : Int} {ps : List Int} {l al : AV} {xs : List ByteArray} (hG : Bds G xs al) (hsl0 : SlK 1 l (ps.map fun p => [AV.s (.int .i8 p)])) (hbig : 70 < ps.length ∨ fewS xs 9 = false) : FnC Tryz.prog G 3 [brd f r l, al] [] (fun v Hn => v = .s (.bool true) ∧ Hn = []) := by
  obtain ⟨o3, h8, h7, -, -, -, -⟩ := hG
  have hsl := hsl0.v
  by_cases hb : 70 < ps.length
  · refine Fn_body (N := 72) (o3 _ _) Tryz.func3 rfl rfl fun B => ?_
    repeat' (first
      | (refine SL_box (d := 2) (by decide) (by rfl) (by first | exact cells_2 _ _ | exact cells_b _ _ _) (fun b2 hid2 => ?_))
      | refine SL_len_v (by decide) (by rfl) (by assumption) (by rfl) (slF (by rfl)) (ps_len _) ?_
      | (refine SL_call (by decide) (by rfl) bd8b (by rfl) (by rfl) (h8) trivial List.nodup_nil ?_; rintro _ _ _ ⟨rfl, rfl⟩; rw [List.nil_append])
      | refine SC_seq ?_
      | refine SC_region ?_
      | refine SL_seq ?_
      | refine SL_not (by rfl) (by rfl) (by rfl) (by decide) ?_
      | refine SL_move (by decide) (by rfl) ?_
      | refine SL_assign (by decide) (by rfl) ?_
      | refine SL_pick_t (by decide) (by rfl) (by rfl) ?_
      | (refine SL_gtr (by decide) (by rfl) (by rfl) (fun hT => ?_) (fun hT => ?_) <;> first | (exfalso; omega) | skip)
      | refine SL_fieldAddr (by decide) (by rfl) (fldF (by rfl)) ?_
      | refine SL_load_o (by decide) (by rfl) (by repeat (first | exact .head _ | refine .tail _ ?_)) (rowF (by rfl)) (by first | assumption | rfl) (by rfl) ?_
      | refine SC_cond_t (by rfl) ?_
      | fail)
    refine SC_ret (fun tm σ hE hH => Post.intro (Hn := []) (.inr rfl) hE hH (by rfl) trivial List.nodup_nil (fun p hp => (by cases hp)) ?_)
    exact ⟨rfl, rfl⟩
  · rw [hbig.resolve_left hb] at h7
    refine Fn_body (N := 72) (o3 _ _) Tryz.func3 rfl rfl fun B => ?_
    repeat' (first
      | (refine SL_box (d := 2) (by decide) (by rfl) (by first | exact cells_2 _ _ | exact cells_b _ _ _) (fun b2 hid2 => ?_))
      | refine SL_len_v (by decide) (by rfl) (by assumption) (by rfl) (slF (by rfl)) (ps_len _) ?_
      | (refine SL_call (by decide) (by rfl) bd7 (by rfl) (by rfl) (h7) trivial List.nodup_nil ?_; rintro _ _ _ ⟨rfl, rfl⟩; rw [List.nil_append])
      | (refine SL_call (by decide) (by rfl) bd8b (by rfl) (by rfl) (h8) trivial List.nodup_nil ?_; rintro _ _ _ ⟨rfl, rfl⟩; rw [List.nil_append])
      | refine SC_seq ?_
      | refine SC_region ?_
      | refine SL_seq ?_
      | refine SL_run (by rfl) (by rfl) ?_
      | refine SL_move (by decide) (by rfl) ?_
      | refine SL_assign (by decide) (by rfl) ?_
      | refine SL_pick_f (by decide) (by rfl) (by rfl) ?_
      | refine SL_not_op (by decide) (by rfl) ?_
      | (refine SL_gtr (by decide) (by rfl) (by rfl) (fun hT => ?_) (fun hT => ?_) <;> first | (exfalso; omega) | skip)
      | refine SL_fieldAddr (by decide) (by rfl) (fldF (by rfl)) ?_
      | refine SL_load_o (by decide) (by rfl) (by repeat (first | exact .head _ | refine .tail _ ?_)) (rowF (by rfl)) (by first | assumption | rfl) (by rfl) ?_
      | refine SC_cond_t (by rfl) ?_
      | fail)
    refine SC_ret (fun tm σ hE hH => Post.intro (Hn := []) (.inr rfl) hE hH (by rfl) trivial List.nodup_nil (fun p hp => (by cases hp)) ?_)
    exact ⟨rfl, rfl⟩
theorem law3_f {G : Gl} {f r : Int} {ps : List Int} {l al : AV} {xs : List ByteArray} (hG : Bds G xs al) (hsl0 : SlK 1 l (ps.map fun p => [AV.s (.int .i8 p)])) (hb : ps.length ≤ 70) (hfew : fewS xs 9 = true)
    (h9 : FnC Tryz.prog G 9 [brd f r l] [] (fun v Hn => v = .s (.tuple #[.slice none 0 0, .int .i64 2]) ∧ Hn = [])) (h10 : FnC Tryz.prog G 10 [brd f r l] [] (fun v Hn => v = .s (.bool false) ∧ Hn = [])) :
    FnC Tryz.prog G 3 [brd f r l, al] [] (fun v Hn => v = .s (.bool true) ∧ Hn = []) := by
  obtain ⟨o3, h8, h7, h13', h10o, h12o, h11ov⟩ := hG
  have h13 := h13' hfew
  rw [hfew] at h7
  have hsl := hsl0.v
  unfold PDR at h13
  refine Fn_body (N := 72) (o3 _ _) Tryz.func3 rfl rfl fun B => ?_
  repeat' (first
    | (refine SL_call (by decide) (by rfl) bd11 (by rfl) (by rfl) (h11ov _ _ _ hdiag (by rw [← hdiag, diagR_len]) (by have := hokb.1.2.2.2; omega)) ⟨by repeat (first | exact .head _ | refine .tail _ ?_), trivial⟩ (by simp) ?_; rintro _ _ _ ⟨rfl, rfl⟩; rw [List.nil_append])
    | (refine SL_call (by decide) (by rfl) bd12 (by rfl) (by rfl) (h12o _ _ _ _ hokb) ⟨by repeat (first | exact .head _ | refine .tail _ ?_), trivial⟩ (by simp) ?_; rintro _ _ hn12 ⟨id12', rfl, rfl⟩; rw [List.singleton_append])
    | (refine SL_call (by decide) (by rfl) bd10 (by rfl) (by rfl) (h10o _ _ _ _ hokb) ⟨by repeat (first | exact .head _ | refine .tail _ ?_), trivial⟩ (by simp) ?_; rintro _ _ _ ⟨rfl, rfl⟩; rw [List.nil_append])
    | (refine SL_call (by decide) (by rfl) bd13 (by rfl) (by rfl) h13 trivial List.nodup_nil ?_; rintro _ _ hn13 hk; rcases hk with ⟨rfl, rfl⟩ | ⟨F', R', pid, qs, rfl, rfl, hokb, hdiag⟩ <;> first | rw [List.nil_append] | rw [List.singleton_append])
    | refine SL_store_n (by rfl) (by rfl) (by repeat (first | exact .head _ | refine .tail _ ?_)) (by rfl) (by first | rfl | exact cells_b _ _ _) (by rfl) (by repeat (first | exact .head | apply Upd.tail)) (by first | exact .inl (by assumption) | exact .inr (by simp)) (szF (by rfl)) (Nat.le_of_ble_eq_true (by rfl)) (by rfl) ?_
    | refine SL_alloc (d := 7) (by decide) (zeroF (by rfl)) (fun b7 hid7 => ?_)
    | (refine SL_box (d := 2) (by decide) (by rfl) (by first | exact cells_2 _ _ | exact cells_b _ _ _) (fun b2 hid2 => ?_))
    | refine SL_load_or (by decide) (by rfl) (by repeat (first | exact .head _ | refine .tail _ ?_)) (rowF (by rfl)) (by rfl) (Nat.le_of_ble_eq_true (by rfl)) (by first | exact mk2 _ _ | exact mk2b _ _ _ | exact mkz _ _ _ | exact mkb _ _ _) ?_
    | refine SL_len_v (by decide) (by rfl) (by assumption) (by rfl) (slF (by rfl)) (ps_len _) ?_
    | (refine SL_call (by decide) (by rfl) bd10 (by rfl) (by rfl) (h10) trivial List.nodup_nil ?_; rintro _ _ _ ⟨rfl, rfl⟩; rw [List.nil_append])
    | (refine SL_call (by decide) (by rfl) bd9 (by rfl) (by rfl) (h9) trivial List.nodup_nil ?_; rintro _ _ _ ⟨rfl, rfl⟩; rw [List.nil_append])
    | (refine SL_call (by decide) (by rfl) bd7 (by rfl) (by rfl) (h7) trivial List.nodup_nil ?_; rintro _ _ _ ⟨rfl, rfl⟩; rw [List.nil_append])
    | (refine SL_call (by decide) (by rfl) bd8b (by rfl) (by rfl) (h8) trivial List.nodup_nil ?_; rintro _ _ _ ⟨rfl, rfl⟩; rw [List.nil_append])
    | refine SC_seq ?_
    | refine SC_region ?_
    | refine SL_seq ?_
    | refine SL_run (by rfl) (by rfl) ?_
    | refine SL_move (by decide) (by rfl) ?_
    | refine SL_assign (by decide) (by rfl) ?_
    | refine SL_pick_t (by decide) (by rfl) (by rfl) ?_
    | refine SL_pick_f (by decide) (by rfl) (by rfl) ?_
    | refine SL_not_op (by decide) (by rfl) ?_
    | (refine SL_gtr (by decide) (by rfl) (by rfl) (fun hT => ?_) (fun hT => ?_) <;> first | (exfalso; omega) | skip)
    | (refine SL_eql (by decide) (by rfl) (by rfl) (fun hT => ?_) (fun hT => ?_) <;> first | (exfalso; omega) | skip)
    | (refine SL_neq (by decide) (by rfl) (by rfl) (fun hT => ?_) (fun hT => ?_) <;> first | (exfalso; omega) | skip)
    | refine SL_extract_tup (by decide) (by rfl) (by rfl) ?_
    | refine SL_extract_s (by decide) (by rfl) (by rfl) ?_
    | refine SL_fieldAddr (by decide) (by rfl) (fldF (by rfl)) ?_
    | refine SL_len_0 (by decide) (by rfl) (by rfl) (sliceOf_spec (slF (by rfl))).1 ?_
    | refine SL_load_o (by decide) (by rfl) (by repeat (first | exact .head _ | refine .tail _ ?_)) (rowF (by rfl)) (by first | assumption | rfl) (by rfl) ?_
    | refine SC_cond_t (by rfl) ?_
    | refine SC_cond_f (by rfl) ?_
    | (refine SC_skip' (fun tm σ hE hH => ?_); refine SC.app ?_ hE hH; clear hE hH; clear tm σ)
    | fail)
  all_goals refine SC_ret (fun tm σ hE hH => Post.intro (Hn := []) (.inr rfl) hE hH (by rfl) trivial List.nodup_nil (fun p hp => (by cases hp)) ?_)
  all_goals exact ⟨rfl, rfl⟩
theorem law3_t {G : Gl} {F R : Nat} {ps : List Int} {l al : AV} {xs : List ByteArray} (hG : Bds G xs al) (hsl0 : SlK 1 l (ps.map fun p => [AV.s (.int .i8 p)])) (hb : ps.length ≤ 70) (hfew : fewS xs 9 = true)
    (h9t : FnC Tryz.prog G 9 [brd F R l] [] (fun v Hn => ∃ id, v = .tup [.sl id 0 R none, .s (.int .i64 0)] ∧ Hn = [(id, .cells 9 1 false (strs (diagR F ps R)))])) (h10 : FnC Tryz.prog G 10 [brd F R l] [] (fun v Hn => v = .s (.bool true) ∧ Hn = []))
    (h12 : FnC Tryz.prog G 12 [brd F R l] [] (fun v Hn => ∃ id, v = .sl id 0 R none ∧ Hn = [(id, .cells 9 1 false (strs (diagR F ps R)))]))
    (h11oo : ∀ (a b : Nat), a ≠ b → FnC Tryz.prog G 11 [.sl a 0 R none, .sl b 0 R none] [(a, .cells 9 1 false (strs (diagR F ps R))), (b, .cells 9 1 false (strs (diagR F ps R)))] (fun v Hn => v = .s (.bool true) ∧ Hn = [])) :
    FnC Tryz.prog G 3 [brd F R l, al] [] (fun v Hn => v = .s (.bool true) ∧ Hn = []) := by
  obtain ⟨o3, h8, h7, h13', h10o, h12o, h11ov⟩ := hG
  have h13 := h13' hfew
  rw [hfew] at h7
  have hsl := hsl0.v
  unfold PDR at h13
  refine Fn_body (N := 72) (o3 _ _) Tryz.func3 rfl rfl fun B => ?_
  repeat' (first
    | (refine SL_call (by decide) (by rfl) bd11 (by rfl) (by rfl) (h11ov _ _ _ hdiag (by rw [← hdiag, diagR_len]) (by have := hokb.1.2.2.2; omega)) ⟨by repeat (first | exact .head _ | refine .tail _ ?_), trivial⟩ (by simp) ?_; rintro _ _ _ ⟨rfl, rfl⟩; rw [List.nil_append])
    | (refine SL_call (by decide) (by rfl) bd12 (by rfl) (by rfl) (h12o _ _ _ _ hokb) ⟨by repeat (first | exact .head _ | refine .tail _ ?_), trivial⟩ (by simp) ?_; rintro _ _ hn12 ⟨id12', rfl, rfl⟩; rw [List.singleton_append])
    | (refine SL_call (by decide) (by rfl) bd10 (by rfl) (by rfl) (h10o _ _ _ _ hokb) ⟨by repeat (first | exact .head _ | refine .tail _ ?_), trivial⟩ (by simp) ?_; rintro _ _ _ ⟨rfl, rfl⟩; rw [List.nil_append])
    | (refine SL_call (by decide) (by rfl) bd13 (by rfl) (by rfl) h13 trivial List.nodup_nil ?_; rintro _ _ hn13 hk; rcases hk with ⟨rfl, rfl⟩ | ⟨F', R', pid, qs, rfl, rfl, hokb, hdiag⟩ <;> first | rw [List.nil_append] | rw [List.singleton_append])
    | (refine SL_nd fun hnd' => ?_; refine SL_call (by decide) (by rfl) bd11 (by rfl) (by rfl) (h11oo _ _ (by intro e; subst e; simp at hnd')) ⟨by repeat (first | exact .head _ | refine .tail _ ?_), by repeat (first | exact .head _ | refine .tail _ ?_), trivial⟩ (by simp; intro e; subst e; simp at hnd') ?_; rintro _ _ _ ⟨rfl, rfl⟩; rw [List.nil_append])
    | (refine SL_call (by decide) (by rfl) bd12 (by rfl) (by rfl) h12 trivial List.nodup_nil ?_; rintro _ _ hn12 ⟨id12, rfl, rfl⟩; rw [List.singleton_append])
    | (refine SL_call (by decide) (by rfl) bd9 (by rfl) (by rfl) h9t trivial List.nodup_nil ?_; rintro _ _ hn9 ⟨id9, rfl, rfl⟩; rw [List.singleton_append])
    | refine SL_store_n (by rfl) (by rfl) (by repeat (first | exact .head _ | refine .tail _ ?_)) (by rfl) (by first | rfl | exact cells_b _ _ _) (by rfl) (by repeat (first | exact .head | apply Upd.tail)) (by first | exact .inl (by assumption) | exact .inr (by simp)) (szF (by rfl)) (Nat.le_of_ble_eq_true (by rfl)) (by rfl) ?_
    | refine SL_alloc (d := 7) (by decide) (zeroF (by rfl)) (fun b7 hid7 => ?_)
    | (refine SL_box (d := 2) (by decide) (by rfl) (by first | exact cells_2 _ _ | exact cells_b _ _ _) (fun b2 hid2 => ?_))
    | refine SL_load_or (by decide) (by rfl) (by repeat (first | exact .head _ | refine .tail _ ?_)) (rowF (by rfl)) (by rfl) (Nat.le_of_ble_eq_true (by rfl)) (by first | exact mk2 _ _ | exact mk2b _ _ _ | exact mkz _ _ _ | exact mkb _ _ _) ?_
    | refine SL_len_v (by decide) (by rfl) (by assumption) (by rfl) (slF (by rfl)) (ps_len _) ?_
    | (refine SL_call (by decide) (by rfl) bd10 (by rfl) (by rfl) (h10) trivial List.nodup_nil ?_; rintro _ _ _ ⟨rfl, rfl⟩; rw [List.nil_append])
    | (refine SL_call (by decide) (by rfl) bd7 (by rfl) (by rfl) (h7) trivial List.nodup_nil ?_; rintro _ _ _ ⟨rfl, rfl⟩; rw [List.nil_append])
    | (refine SL_call (by decide) (by rfl) bd8b (by rfl) (by rfl) (h8) trivial List.nodup_nil ?_; rintro _ _ _ ⟨rfl, rfl⟩; rw [List.nil_append])
    | refine SC_seq ?_
    | refine SC_region ?_
    | refine SL_seq ?_
    | refine SL_run (by rfl) (by rfl) ?_
    | refine SL_move (by decide) (by rfl) ?_
    | refine SL_assign (by decide) (by rfl) ?_
    | refine SL_pick_t (by decide) (by rfl) (by rfl) ?_
    | refine SL_pick_f (by decide) (by rfl) (by rfl) ?_
    | refine SL_not_op (by decide) (by rfl) ?_
    | (refine SL_gtr (by decide) (by rfl) (by rfl) (fun hT => ?_) (fun hT => ?_) <;> first | (exfalso; omega) | skip)
    | (refine SL_eql (by decide) (by rfl) (by rfl) (fun hT => ?_) (fun hT => ?_) <;> first | (exfalso; omega) | skip)
    | (refine SL_neq (by decide) (by rfl) (by rfl) (fun hT => ?_) (fun hT => ?_) <;> first | (exfalso; omega) | skip)
    | refine SL_extract_tup (by decide) (by rfl) (by rfl) ?_
    | refine SL_extract_s (by decide) (by rfl) (by rfl) ?_
    | refine SL_fieldAddr (by decide) (by rfl) (fldF (by rfl)) ?_
    | refine SL_len_0 (by decide) (by rfl) (by rfl) (sliceOf_spec (slF (by rfl))).1 ?_
    | refine SL_load_o (by decide) (by rfl) (by repeat (first | exact .head _ | refine .tail _ ?_)) (rowF (by rfl)) (by first | assumption | rfl) (by rfl) ?_
    | refine SC_cond_t (by rfl) ?_
    | refine SC_cond_f (by rfl) ?_
    | (refine SC_skip' (fun tm σ hE hH => ?_); refine SC.app ?_ hE hH; clear hE hH; clear tm σ)
    | fail)
  all_goals refine SC_ret (fun tm σ hE hH => Post.intro (Hn := []) (.inr rfl) hE hH (by rfl) trivial List.nodup_nil (fun p hp => (by cases hp)) ?_)
  all_goals exact ⟨rfl, rfl⟩
end Go.Proofs.YtnhnlkljcfbhfaaGreatDoor
/- ReportBoards, joined: the walk over the table of the library's answers and of the letters. -/
namespace Go.Proofs.YtnhnlkljcfbhfaaGreatDoor
open Go Go.Ab
theorem strsOf_strs : ∀ xs : List ByteArray, strsOf (strs xs) = some xs
  | [] => rfl
  | x :: xs => by
    unfold strs
    rw [List.map_cons]
    unfold strsOf
    rw [show strsOf (xs.map fun x => [AV.s (.string x)]) = some xs from strsOf_strs xs]
theorem lineP_le (row : List Int) : (lineP row).size ≤ 2 * row.length := by
  have := lineP_size row row.length (Nat.le_refl _)
  rwa [List.take_of_length_le (Nat.le_refl _)] at this
theorem parV_none {c : Int} (h : parP c = none) : parV c = .tuple #[.int .i8 0, .int .i64 6] := by
  cases hf : letters.findIdx? (fun l => decide (c = l) || decide (c = l + 32)) with
  | none => simp only [parV, hf]
  | some k =>
    simp only [parP, hf] at h
    split at h <;> cases h
theorem parV_some {c p : Int} (h : parP c = some p) : parV c = .tuple #[.int .i8 p, .int .i64 0] := by
  cases hf : letters.findIdx? (fun l => decide (c = l) || decide (c = l + 32)) with
  | none =>
    simp only [parP, hf] at h
    cases h
  | some k =>
    simp only [parP, hf] at h
    simp only [parV, hf]
    split at h
    · rename_i h2
      cases h
      rw [if_pos h2]
    · rename_i h2
      cases h
      rw [if_neg h2]
theorem letV_p {p : Int} (h0 : p ≠ 0) (h1 : -15 ≤ p) (h2 : p ≤ 15) : letV p = .tuple #[.int .u8 (codeOf p), .int .i64 0] := by
  unfold letV codeOf
  rw [if_neg (by omega), if_neg h0]
  split <;> rfl
section
variable {m : Int} {e2 e3 : Value}
theorem b_75t {f r : Int} (h : OkSz f r) : FnC Tryz.prog (glB m e2 e3) 75 [sz f r] [] (fun v Hn => v = .s (.bool true) ∧ Hn = []) := size_t (fun _ => rfl) (fun _ => rfl) h
theorem b_75f {f r : Int} (h : ¬ OkSz f r) : FnC Tryz.prog (glB m e2 e3) 75 [sz f r] [] (fun v Hn => v = .s (.bool false) ∧ Hn = []) := size_f (fun _ => rfl) (fun _ => rfl) h
theorem b_34t {f r : Int} (h : OkSz f r) : FnC Tryz.prog (glB m e2 e3) 34 [sz f r] [] (fun v Hn => v = .s (.tuple #[.int .i64 (f * r), .int .i64 0]) ∧ Hn = []) := count_t (fun _ => rfl) (b_75t h) h
theorem b_34f {f r : Int} (h : ¬ OkSz f r) : FnC Tryz.prog (glB m e2 e3) 34 [sz f r] [] (fun v Hn => v = .s (.tuple #[.int .i64 0, .int .i64 2]) ∧ Hn = []) := count_f (fun _ => rfl) (b_75f h)
theorem b_10 {f r : Int} {ps : List Int} {l : AV} (hsl : SlV 1 l (ps.map fun p => [AV.s (.int .i8 p)])) (hbig : ps.length ≤ 9223372036854775807) : FnC Tryz.prog (glB m e2 e3) 10 [brd f r l] [] (fun v Hn => Says (OkB f r ps) v ∧ Hn = []) :=
  valid_v hsl hbig (fun _ => rfl) b_34t b_34f (con_v (fun _ _ => rfl) (ix_v hsl hbig (fun _ _ => rfl) (fun _ => rfl) (fun _ => rfl)))
theorem b_10o {f r : Int} {ps : List Int} {id : Nat} (hbig : ps.length ≤ 9223372036854775807) : FnC Tryz.prog (glB m e2 e3) 10 [brd f r (.sl id 0 ps.length none)] [(id, .cells 81 1 false (ps.map fun p => [AV.s (.int .i8 p)]))] (fun v Hn => Says (OkB f r ps) v ∧ Hn = []) :=
  valid_o hbig (fun _ => rfl) b_34t b_34f (con_o (fun _ _ => rfl) (ix_o hbig (fun _ _ => rfl) (fun _ => rfl) (fun _ => rfl)))
theorem says_t {p : Prop} {v : AV} (h : Says p v) (hp : p) : v = .s (.bool true) := by
  rcases h with ⟨h, _⟩ | ⟨_, h⟩
  · exact h
  · exact absurd hp h
theorem says_f {p : Prop} {v : AV} (h : Says p v) (hp : ¬ p) : v = .s (.bool false) := by
  rcases h with ⟨_, h⟩ | ⟨h, _⟩
  · exact absurd h hp
  · exact h
theorem b_32 (p : Int) (h0 : p ≠ 0) (h1 : -15 ≤ p) (h2 : p ≤ 15) : FnC Tryz.prog (glB m e2 e3) 32 [.s (.int .i8 p)] [] (fun v Hn => v = .s (.tuple #[.int .u8 (codeOf p), .int .i64 0]) ∧ Hn = []) := by
  refine Fn_orc (v := .s (letV p)) ?_ ⟨by rw [letV_p h0 h1 h2], rfl⟩
  show letterC [.s (.int .i8 p)] = _
  unfold letterC
  dsimp only
  rw [if_pos ⟨by omega, by omega⟩]
theorem b_32z (p : Int) (h0 : p = 0) : FnC Tryz.prog (glB m e2 e3) 32 [.s (.int .i8 p)] [] (fun v Hn => v = .s (.tuple #[.int .u8 0, .int .i64 2]) ∧ Hn = []) := by
  subst h0
  exact Fn_orc (v := .s (letV 0)) rfl ⟨rfl, rfl⟩
theorem b_39 (c : UInt8) : FnC Tryz.prog (glB m e2 e3) 39 [.s (.int .u8 c.toNat)] [] (fun v Hn => v = .s (parV (c.toNat : Int)) ∧ Hn = []) := by
  refine Fn_orc (v := .s (parV (c.toNat : Int))) ?_ ⟨rfl, rfl⟩
  show parseC [.s (.int .u8 (c.toNat : Int))] = _
  unfold parseC
  dsimp only
  have := c.toNat_lt
  rw [if_pos ⟨by omega, by omega⟩]
theorem b_74 {id n : Nat} {x : Bool} {xs : List ByteArray} {s : ByteArray} (hn : xs.length = n) (hn2 : n ≤ 1000) (hs : s = ⟨(Lib.join (xs.map (·.data.toList)) [32]).toArray⟩) (hs2 : s.size ≤ 1000000) :
    FnC Tryz.prog (glB m e2 e3) 74 [.sl id 0 n none, .s (.string ⟨#[32]⟩)] [(id, .cells 9 1 x (strs xs))] (fun v Hn => v = .s (.string s) ∧ Hn = []) := by
  refine Fn_orc2 (v := .s (.string s)) rfl (fun σ hσ => ?_) ⟨rfl, rfl⟩
  have hg := hσ.get _ (.head _)
  simp only at hg
  rw [hg]
  have hl : (strs xs).length = n := by unfold strs; rw [List.length_map, hn]
  have h1 : strsOf (((strs xs).drop 0).take n) = some xs := by
    rw [List.drop_zero, List.take_of_length_le (by omega), strsOf_strs]
  have h2 : (Lib.join (xs.map (·.data.toList)) (⟨#[32]⟩ : ByteArray).data.toList).length ≤ 140737488355328 := by
    have h3 : s.size = (Lib.join (xs.map (·.data.toList)) [32]).length := by rw [hs]; exact List.size_toArray
    have : (⟨#[32]⟩ : ByteArray).data.toList = [32] := rfl
    rw [this]; omega
  simp only
  rw [if_pos ⟨trivial, by omega, by omega⟩, h1]
  simp only
  rw [if_pos h2, hs]
theorem b_33 (id n : Nat) (row : List Int) (h : (row.map chrP).length = n) (h8 : n ≤ 8) : FnC Tryz.prog (glB m e2 e3) 33 [.sl id 0 n none] [(id, .cells 9 1 false (strs (row.map chrP)))] (fun v Hn => v = .s (.string (lineP row)) ∧ Hn = []) :=
  words_fn (fun _ => rfl) (b_74 h (by omega) rfl (by
    have := lineP_le row
    rw [List.length_map] at h
    omega))
theorem b_38 (x : ByteArray) (ws : List ByteArray) (hw : ws = wordsOf x) (hx : x.size ≤ 100) : FnC Tryz.prog (glB m e2 e3) 38 [.s (.string x), .s (.string ⟨#[32]⟩)] [] (fun v Hn => ∃ id, v = .sl id 0 ws.length none ∧ Hn = [(id, .cells 9 1 true (strs ws))]) := by
  subst hw
  refine Fn_orcN (o := .cells 9 1 true (strs (wordsOf x))) (v := fun id => .sl id 0 (wordsOf x).length none) ?_ (fun id => ⟨id, rfl, rfl⟩)
  show splitC [.s (.string x), .s (.string ⟨#[32]⟩)] = _
  unfold splitC
  dsimp only
  rw [if_pos ⟨by omega, by decide⟩, wordsOf_len]
  rfl
theorem okB_big {F R : Nat} {qs : List Int} (h : OkB F R qs) : qs.length ≤ 64 := by
  obtain ⟨⟨h1, h2, h3, h4⟩, h5, h6⟩ := h
  rw [← Int.natCast_mul] at h5
  have : F * R ≤ 8 * 8 := Nat.mul_le_mul (by omega) (by omega)
  omega
theorem b_bds {xs : List ByteArray} {al : AV} (hal : StV xs al) (hbig : xs.length ≤ 9223372036854775807) : Bds (glB m e2 e3) xs al where
  o3 := fun _ _ => rfl
  h8 := Fn_orc (v := .s (.bool true)) rfl ⟨rfl, rfl⟩
  h7 := few_fn hal hbig 9 (by decide) rfl
  h13 := fun hf => by
    unfold fewS at hf
    rw [Bool.and_eq_true, decide_eq_true_eq, decide_eq_true_eq] at hf
    obtain ⟨h1, h2⟩ := hf
    rw [List.take_of_length_le h2] at h1
    refine pardia hal h2 h1 (fun _ => rfl) b_38 (fun c h => ?_) (fun c p h => ?_) ?_ (fun f r id ps hp => b_10o (by omega))
    · have := b_39 (m := m) (e2 := e2) (e3 := e3) c
      rwa [parV_none h] at this
    · have := b_39 (m := m) (e2 := e2) (e3 := e3) c
      rwa [parV_some h] at this
    · refine FnC.mono (b_10 (m := m) (e2 := e2) (e3 := e3) (f := 0) (r := xs.length) (ps := []) (l := .s (.slice none 0 0)) .nil (by decide)) fun v Hn ⟨h1, h2⟩ => ⟨says_f h1 fun h => ?_, h2⟩
      have := h.1.1
      omega
  h10o := fun F R pid qs h => FnC.mono (b_10o (by have := okB_big h; omega)) fun v Hn ⟨h1, h2⟩ => ⟨says_t h1 h, h2⟩
  h12o := fun F R pid qs h => by
    obtain ⟨⟨h1, h2, h3, h4⟩, h5, h6⟩ := h
    exact diagram_o ⟨by omega, by omega⟩ ⟨by omega, by omega⟩ (by rw [← Int.natCast_mul] at h5; omega) h6 (fun _ => rfl) b_32z b_32
  h11ov := fun a n ys h1 h2 h3 => by
    subst h1 h2
    exact same_ov ys h3 hal rfl
theorem law3_fn {f r : Int} {ps : List Int} {l al : AV} {xs : List ByteArray} (hsl : SlK 1 l (ps.map fun p => [AV.s (.int .i8 p)])) (hal : StV xs al) (hbig : ps.length ≤ 9223372036854775807) (hbig2 : xs.length ≤ 9223372036854775807) :
    FnC Tryz.prog (glB m e2 e3) 3 [brd f r l, al] [] (fun v Hn => v = .s (.bool true) ∧ Hn = []) := by
  have hG := b_bds (m := m) (e2 := e2) (e3 := e3) hal hbig2
  by_cases hk : 70 < ps.length ∨ fewS xs 9 = false
  · exact law3_k hG hsl hk
  have hk1 : ps.length ≤ 70 := by
    by_cases h : 70 < ps.length
    · exact absurd (.inl h) hk
    · omega
  have hk2 : fewS xs 9 = true := by
    cases h : fewS xs 9 with
    | true => rfl
    | false => exact absurd (.inr h) hk
  have h10 := b_10 (m := m) (e2 := e2) (e3 := e3) (f := f) (r := r) hsl.v hbig
  by_cases ho : OkB f r ps
  · have h10' := h10.mono (R' := fun v Hn => v = .s (.bool true) ∧ Hn = []) (fun v Hn ⟨h1, h2⟩ => ⟨says_t h1 ho, h2⟩)
    have ho' := ho
    obtain ⟨⟨h1, h2, h3, h4⟩, h5, h6⟩ := ho'
    obtain ⟨F, rfl⟩ : ∃ F : Nat, f = F := ⟨f.toNat, by omega⟩
    obtain ⟨R, rfl⟩ : ∃ R : Nat, r = R := ⟨r.toNat, by omega⟩
    have hl : ps.length = F * R := by rw [← Int.natCast_mul] at h5; omega
    refine law3_t hG hsl hk1 hk2 (pdiag_t hsl ⟨by omega, by omega⟩ ⟨by omega, by omega⟩ hl h6 (fun _ => rfl) h10' b_32 b_33) h10' (diagram_v hsl.v ⟨by omega, by omega⟩ ⟨by omega, by omega⟩ hl h6 (fun _ => rfl) b_32z b_32) fun a b hab => ?_
    have := same_oo (G := glB m e2 e3) (diagR F ps R) (by rw [diagR_len]; omega) (x1 := false) (x2 := false) hab rfl
    rwa [diagR_len] at this
  · have h10' := h10.mono (R' := fun v Hn => v = .s (.bool false) ∧ Hn = []) (fun v Hn ⟨h1, h2⟩ => ⟨says_f h1 ho, h2⟩)
    exact law3_f hG hsl hk1 hk2 (pdiag_f (fun _ => rfl) h10') h10'
end
end Go.Proofs.YtnhnlkljcfbhfaaGreatDoor
/- What the listed tables are, as rows: for all laws of this seat. -/
namespace Go.Proofs.YtnhnlkljcfbhfaaGreatDoor
open Go Go.Ab Go.ChangeShapes Go.WideShapes Go.ChangeAt Go.WideElems Go.RowKit
def laidT : List (String × DataW Unit) := [("caissa/piece.kinds", Rows.laid_caissa_piece_kinds), ("math/bits.deBruijn32tab", Rows.laid_math_bits_deBruijn32tab), ("math/bits.deBruijn64tab", Rows.laid_math_bits_deBruijn64tab), ("internal/strconv.uint64pow10", Rows.laid_internal_strconv_uint64pow10), ("unicode/utf8.acceptRanges", Rows.laid_unicode_utf8_acceptRanges), ("caissa/ray.straight", Rows.laid_caissa_ray_straight), ("caissa/ray.diagonal", Rows.laid_caissa_ray_diagonal), ("caissa/ray.leaps", Rows.laid_caissa_ray_leaps), ("strconv.ErrRange", Rows.laid_strconv_ErrRange), ("strconv.ErrSyntax", Rows.laid_strconv_ErrSyntax), ("caissa/position.full", Rows.laid_caissa_position_full), ("unicode/utf8.first", Rows.laid_unicode_utf8_first)]
theorem gn0 : Tryz.prog.globalNamed "caissa/piece.kinds" = some 0 := by kernel_rfl
theorem gn2 : Tryz.prog.globalNamed "strconv.ErrSyntax" = some 2 := by kernel_rfl
theorem gn3 : Tryz.prog.globalNamed "strconv.ErrRange" = some 3 := by kernel_rfl
theorem gn4 : Tryz.prog.globalNamed "caissa/position.full" = some 4 := by kernel_rfl
theorem gn5 : Tryz.prog.globalNamed "internal/strconv.uint64pow10" = some 5 := by kernel_rfl
theorem gn8 : Tryz.prog.globalNamed "math/bits.deBruijn32tab" = some 8 := by kernel_rfl
theorem gn9 : Tryz.prog.globalNamed "math/bits.deBruijn64tab" = some 9 := by kernel_rfl
theorem gn10 : Tryz.prog.globalNamed "caissa/ray.leaps" = some 10 := by kernel_rfl
theorem gn11 : Tryz.prog.globalNamed "caissa/ray.diagonal" = some 11 := by kernel_rfl
theorem gn12 : Tryz.prog.globalNamed "caissa/ray.straight" = some 12 := by kernel_rfl
theorem gt0 : (Tryz.prog.globals[0]?).map (·.type) = some 136 := by kernel_rfl
theorem gt2 : (Tryz.prog.globals[2]?).map (·.type) = some 97 := by kernel_rfl
theorem gt3 : (Tryz.prog.globals[3]?).map (·.type) = some 97 := by kernel_rfl
theorem gt4 : (Tryz.prog.globals[4]?).map (·.type) = some 23 := by kernel_rfl
theorem gt5 : (Tryz.prog.globals[5]?).map (·.type) = some 239 := by kernel_rfl
theorem gt8 : (Tryz.prog.globals[8]?).map (·.type) = some 265 := by kernel_rfl
theorem gt9 : (Tryz.prog.globals[9]?).map (·.type) = some 266 := by kernel_rfl
theorem gt10 : (Tryz.prog.globals[10]?).map (·.type) = some 278 := by kernel_rfl
theorem gt11 : (Tryz.prog.globals[11]?).map (·.type) = some 280 := by kernel_rfl
theorem gt12 : (Tryz.prog.globals[12]?).map (·.type) = some 280 := by kernel_rfl
theorem dc0 : (datCells Tryz.prog 5 136 Rows.laid_caissa_piece_kinds).map (·.map AV.s) = some rw0 := by kernel_rfl
theorem dc4 : (datCells Tryz.prog 5 23 Rows.laid_caissa_position_full).map (·.map AV.s) = some rw4 := by kernel_rfl
theorem dc5 : (datCells Tryz.prog 5 239 Rows.laid_internal_strconv_uint64pow10).map (·.map AV.s) = some rw5 := by kernel_rfl
theorem dc8 : (datCells Tryz.prog 5 265 Rows.laid_math_bits_deBruijn32tab).map (·.map AV.s) = some rw8 := by kernel_rfl
theorem dc9 : (datCells Tryz.prog 5 266 Rows.laid_math_bits_deBruijn64tab).map (·.map AV.s) = some rw9 := by kernel_rfl
theorem dc10 : (datCells Tryz.prog 5 278 Rows.laid_caissa_ray_leaps).map (·.map AV.s) = some rw10 := by kernel_rfl
theorem dc11 : (datCells Tryz.prog 5 280 Rows.laid_caissa_ray_diagonal).map (·.map AV.s) = some rw11 := by kernel_rfl
theorem dc12 : (datCells Tryz.prog 5 280 Rows.laid_caissa_ray_straight).map (·.map AV.s) = some rw12 := by kernel_rfl
theorem held_dat {w : World} {enc : TypeId × Value → Unit} {spare : Nat → Bool} {held : Bool} {nm : String} {g g' : Nat} {t t' : TypeId} {cs : Array Value} {fuel : Nat} {d : DataW Unit} {ps : List MemPlace} {row : List AV} (hn : Tryz.prog.globalNamed nm = some g) (ht : (Tryz.prog.globals[g]?).map (·.type) = some t) (hc : (datCells Tryz.prog 5 t d).map (·.map AV.s) = some row)
    (hg : Tryz.prog.globalNamed nm = some g') (ht' : (Tryz.prog.globals[g']?).map (·.type) = some t') (hv : w.var? Tryz.prog nm = some cs) (hd : DataW.trod enc Tryz.prog w 0 spare held fuel t' cs.toList = some (d, ps)) : Held w g row := by
  obtain rfl := Option.some.inj (hn.symm.trans hg)
  obtain rfl := Option.some.inj (ht.symm.trans ht')
  obtain ⟨vs, hvs, rfl⟩ := Option.map_eq_some_iff.1 hc
  exact Held.of_dat hg hv hd hvs rfl
theorem held_err {w : World} {enc : TypeId × Value → Unit} {spare : Nat → Bool} {held : Bool} {nm nt : String} {g g' : Nat} {t' : TypeId} {cs : Array Value} {fuel : Nat} {d : DataW Unit} {ps : List MemPlace} (hn : Tryz.prog.globalNamed nm = some g) (ht : (Tryz.prog.globals[g]?).map (·.type) = some 97)
    (hg : Tryz.prog.globalNamed nm = some g') (ht' : (Tryz.prog.globals[g']?).map (·.type) = some t') (hv : w.var? Tryz.prog nm = some cs) (hd : DataW.trod enc Tryz.prog w 0 spare held fuel t' cs.toList = some (.iface nt d, ps)) : ∃ v, Held w g [.s v] ∧ (v = .nilIface ∨ ∃ te pe, v = .iface te pe) := by
  obtain rfl := Option.some.inj (hn.symm.trans hg)
  obtain rfl := Option.some.inj (ht.symm.trans ht')
  exact Held.of_err hg hv Tryz.underlying97 hd
theorem held_max {w : World} (hs : w.ShapedOpen Tryz.prog) : ∃ m, Held w 1 [.s (.int .i64 m)] := by
  obtain ⟨m, hm⟩ := Go.Proofs.cell_of_shapedOpen_int (g := 1) (zero := #[.int .i64 0]) (t := 3) hs (of_decide_eq_true (by kernel_rfl)) (by kernel_rfl) rfl (by kernel_rfl) (by kernel_rfl) Tryz.underlying3
  obtain ⟨cs, hh, hsz, _⟩ := hs.1 1 #[.int .i64 0] 3 (of_decide_eq_true (by kernel_rfl)) (by kernel_rfl)
  refine ⟨m, [.int .i64 m], rfl, cs, 3, _, hh, ?_⟩
  have h1 : cs.size = 1 := hsz
  simp only [World.cell?, hh] at hm
  obtain ⟨l⟩ := cs
  match l, h1 with
  | [v], _ => simpa using hm
theorem of_laid {W : World} (h : laidMetH Tryz.prog laidT W) (hs : W.ShapedOpen Tryz.prog) : ∃ m e2 e3, GlOk (memOf W) (fun _ => none) (glK m e2 e3) ∧ (e2 = .nilIface ∨ ∃ te pe, e2 = .iface te pe) ∧ (e3 = .nilIface ∨ ∃ te pe, e3 = .iface te pe) := by
  rw [MakeChecks.laidMetH_plain _ _ _ (by kernel_rfl)] at h
  obtain ⟨ps, ⟨_, _, _, _, _, _, hg0, ht0, hv0, hd0, ⟨_, _, _, _, _, _, hg8, ht8, hv8, hd8, ⟨_, _, _, _, _, _, hg9, ht9, hv9, hd9, ⟨_, _, _, _, _, _, hg5, ht5, hv5, hd5, ⟨_, _, _, _, _, _, _, _, _, _, ⟨_, _, _, _, _, _, hg12, ht12, hv12, hd12, ⟨_, _, _, _, _, _, hg11, ht11, hv11, hd11, ⟨_, _, _, _, _, _, hg10, ht10, hv10, hd10, ⟨_, _, _, _, _, _, hg3, ht3, hv3, hd3, ⟨_, _, _, _, _, _, hg2, ht2, hv2, hd2, ⟨_, _, _, _, _, _, hg4, ht4, hv4, hd4, _, _⟩, _⟩, _⟩, _⟩, _⟩, _⟩, _⟩, _⟩, _⟩, _⟩, _⟩, _, _⟩ := h
  have k0 := held_dat gn0 gt0 dc0 hg0 ht0 hv0 hd0
  have k8 := held_dat gn8 gt8 dc8 hg8 ht8 hv8 hd8
  have k9 := held_dat gn9 gt9 dc9 hg9 ht9 hv9 hd9
  have k5 := held_dat gn5 gt5 dc5 hg5 ht5 hv5 hd5
  have k12 := held_dat gn12 gt12 dc12 hg12 ht12 hv12 hd12
  have k11 := held_dat gn11 gt11 dc11 hg11 ht11 hv11 hd11
  have k10 := held_dat gn10 gt10 dc10 hg10 ht10 hv10 hd10
  have k4 := held_dat gn4 gt4 dc4 hg4 ht4 hv4 hd4
  obtain ⟨e3, k3, q3⟩ := held_err gn3 gt3 hg3 ht3 hv3 hd3
  obtain ⟨e2, k2, q2⟩ := held_err gn2 gt2 hg2 ht2 hv2 hd2
  obtain ⟨m, k1⟩ := held_max hs
  refine ⟨m, e2, e3, fun g row hr => ?_, q2, q3⟩
  have hr' : rowsR m e2 e3 g = some row := hr
  unfold rowsR at hr'
  split at hr' <;> cases hr'
  · exact k0.mem
  · exact k1.mem
  · exact k2.mem
  · exact k3.mem
  · exact k4.mem
  · exact k5.mem
  · exact k8.mem
  · exact k9.mem
  · exact k10.mem
  · exact k11.mem
  · exact k12.mem
theorem own : ownKnob Tryz.prog.godebug = none := by kernel_rfl
theorem laidOut : laidOutB Tryz.prog = true := by kernel_rfl
theorem run_of {m : Int} {e2 e3 : Value} {f : FuncId} {args : List AV} (h : FnC Tryz.prog (glK m e2 e3) f args [] (fun v Hn => v = .s (.bool true) ∧ Hn = [])) : ∃ n σ, runCall Tryz.prog (glK m e2 e3) n f args = some (.s (.bool true), σ) := by
  obtain ⟨n, v, σ, h1, Hn, _, _, rfl, _⟩ := wpf_run (h ⟨.e, 0, none⟩ (.start rfl (fun id _ => by simp [Tr.get_e]) List.nodup_nil (fun p hp => by cases hp)))
  exact ⟨n, σ, h1⟩
theorem shaped_wit (os : Os) : (World.laidAll Tryz.prog os laidT).Shaped Tryz.prog := World.shaped_of_ZipB (by kernel_rfl) (by kernel_rfl)
theorem met_wit (os : Os) (args : Array Value) : laidMetH Tryz.prog laidT ((World.laidAll Tryz.prog os laidT).forCall (fun _ _ => 0) ⟨#[], args, []⟩).memory := by
  rw [MakeChecks.laidMetH_plain _ _ _ (by kernel_rfl)]; exact laidMet_laidAll _ (by kernel_rfl) (by kernel_rfl)
end Go.Proofs.YtnhnlkljcfbhfaaGreatDoor
