/- Rounds of games, xs lists. -/
import Derived.Test.YtldckcopeiginaaAbSd
import Derived.Test.YtldckcopeiginaaFacts
namespace Go.Proofs.Ytldckcopeiginaa
open Go.Ab
structure Sc where
  w : Int
  b : Int
  p : Int
def cells3 (g : Sc) : List AV := [.s (.int .i64 g.w), .s (.int .i64 g.b), .s (.int .i64 g.p)]
def GV (gs : List Sc) (a : AV) : Prop := SlV 3 a (gs.map cells3)
structure RV (rs : List (List Sc)) (a : AV) (xs : List AV) : Prop where
  sl : SlV 1 a (xs.map fun x => [x])
  len : xs.length = rs.length
  at_ : ∀ (i : Nat) (h : i < rs.length) (h' : i < xs.length), GV rs[i] xs[i]
  big : rs.length ≤ 9223372036854775807
  each : ∀ gs ∈ rs, gs.length ≤ 9223372036854775807
def fewB (rs : List (List Sc)) (g : Int) : Bool := decide (∀ gs ∈ rs.take 32, (gs.length : Int) ≤ g) && decide (rs.length ≤ 31)
theorem RV.row {rs : List (List Sc)} {a : AV} {xs : List AV} (h : RV rs a xs) {k : Nat} (hk : k < rs.length) : ∃ x, (xs.map fun x => [x])[k]? = some [x] ∧ GV rs[k] x :=
  ⟨xs[k]'(by rw [h.len]; exact hk), by rw [List.getElem?_map, List.getElem?_eq_getElem (by rw [h.len]; exact hk)]; rfl, h.at_ k hk _⟩
theorem mk3 (g : Sc) : mkAgg ((List.drop 0 (cells3 g)).take 3) = .s (.agg #[.int .i64 g.w, .int .i64 g.b, .int .i64 g.p]) := rfl
theorem cells_3 (a b c : Value) : cellsOf (.s (.agg #[a, b, c])) = [.s a, .s b, .s c] := rfl
/-! ### Which rounds are valid -/
def GOk (n : Int) (g : Sc) : Prop := 0 ≤ g.w ∧ g.w < n ∧ -1 ≤ g.b ∧ g.b < n ∧ 0 ≤ g.p ∧ g.p ≤ 2
def pl (g : Sc) : List Int := if 0 ≤ g.b then [g.w, g.b] else [g.w]
def ROk (n : Int) (gs : List Sc) : Prop := (∀ g ∈ gs, GOk n g) ∧ (gs.flatMap pl).Nodup
def VOk (n : Int) (rs : List (List Sc)) : Prop := 2 ≤ n ∧ n ≤ 200 ∧ rs.length ≤ 30 ∧ ∀ gs ∈ rs, ROk n gs
noncomputable def validB (n : Int) (rs : List (List Sc)) : Bool := @decide (VOk n rs) (Classical.propDecidable _)
theorem validB_t {n : Int} {rs : List (List Sc)} (h : VOk n rs) : validB n rs = true := by unfold validB; exact @decide_eq_true _ (Classical.propDecidable _) h
theorem validB_f {n : Int} {rs : List (List Sc)} (h : ¬ VOk n rs) : validB n rs = false := by unfold validB; exact @decide_eq_false _ (Classical.propDecidable _) h
/-! ### The players that have been seen -/
def seenR (m : Nat) (ps : List Int) : List (List AV) := (List.range m).map fun (x : Nat) => [.s (.bool (decide ((x : Int) ∈ ps)))]
theorem seenR_len (m : Nat) (ps : List Int) : (seenR m ps).length = m := by simp [seenR]
theorem seenR_get (m : Nat) (ps : List Int) {i : Nat} (h : i < m) : (seenR m ps)[i]? = some [.s (.bool (decide ((i : Int) ∈ ps)))] := by
  simp [seenR, List.getElem?_range h]
theorem seenR_0 (m : Nat) : List.replicate m [AV.s (.bool false)] = seenR m [] := by
  apply List.ext_getElem?
  intro i
  by_cases h : i < m
  · rw [seenR_get m [] h, List.getElem?_replicate]; simp [h]
  · rw [List.getElem?_eq_none (by simp; omega), List.getElem?_eq_none (by rw [seenR_len]; omega)]
theorem seenR_set (m : Nat) (ps : List Int) {i : Nat} (h : i < m) (row : List AV) : (seenR m ps).set i (writeRow [row.headD uv] 0 [.s (.bool true)]) = seenR m (ps ++ [(i : Int)]) := by
  apply List.ext_getElem?
  intro j
  rw [List.getElem?_set]
  by_cases hj : j < m
  · by_cases e : i = j
    · subst e
      rw [if_pos rfl, if_pos (by rw [seenR_len]; exact h), seenR_get m _ h]
      simp [writeRow]
    · rw [if_neg e, seenR_get m _ hj, seenR_get m _ hj]
      have : (j : Int) ≠ (i : Int) := by omega
      simp [this]
  · have h1 : ¬ i = j := by omega
    rw [if_neg h1, List.getElem?_eq_none (by rw [seenR_len]; omega), List.getElem?_eq_none (by rw [seenR_len]; omega)]
theorem seenR_set' (m : Nat) (ps : List Int) {i : Nat} (h : i < m) (b : Bool) : (seenR m ps).set i (writeRow [.s (.bool b)] 0 [.s (.bool true)]) = seenR m (ps ++ [(i : Int)]) := seenR_set m ps h [.s (.bool b)]
theorem take_flat {α : Type} {gs : List Sc} {f : Sc → List α} {j : Nat} (h : j < gs.length) : (gs.take (j + 1)).flatMap f = (gs.take j).flatMap f ++ f gs[j] := by
  rw [List.take_succ_eq_append_getElem h, List.flatMap_append]; simp
/-! ### Lists of numbers -/
def ints (l : List Int) : List (List AV) := l.map fun n => [.s (.int .i64 n)]
theorem ints_len (l : List Int) : (ints l).length = l.length := by simp [ints]
theorem ints_get (l : List Int) {i : Nat} (h : i < l.length) : (ints l)[i]? = some [.s (.int .i64 l[i])] := by simp [ints, h]
theorem ints_snoc (l : List Int) (n : Int) : ints l ++ [[AV.s (.int .i64 n)]] = ints (l ++ [n]) := by simp [ints]
theorem ints_one (n : Int) : [[AV.s (.int .i64 n)]] = ints [n] := rfl
theorem ints_zero (m : Nat) : List.replicate m [AV.s (.int .i64 0)] = ints (List.replicate m 0) := by simp [ints]
end Go.Proofs.Ytldckcopeiginaa
