/- A tree of places, numbered: what was put is got. -/
namespace Go.Ab

inductive Tr (α : Type) where
  | e
  | n (v : Option α) (l r : Tr α)

/-- The way to place i: 0 the root; odd to the left, even to the right. -/
def way : Nat → Nat → List Bool
  | 0, _ => []
  | f + 1, i => if i = 0 then [] else (i % 2 == 1) :: way f ((i - 1) / 2)

section
variable {α : Type}
noncomputable def Tr.getW (p : List Bool) : Tr α → Option α :=
  List.rec (motive := fun _ => Tr α → Option α) (fun t => Tr.rec none (fun v _ _ _ _ => v) t) (fun b _ ih t => Tr.rec none (fun _ l r _ _ => Bool.rec (ih r) (ih l) b) t) p
noncomputable def Tr.setW (p : List Bool) : Tr α → α → Tr α :=
  List.rec (motive := fun _ => Tr α → α → Tr α) (fun t v => Tr.rec (.n (some v) .e .e) (fun _ l r _ _ => .n (some v) l r) t)
    (fun b _ ih t v => Tr.rec (Bool.rec (.n none .e (ih .e v)) (.n none (ih .e v) .e) b) (fun u l r _ _ => Bool.rec (.n u l (ih r v)) (.n u (ih l v) r) b) t) p
noncomputable def Tr.get (t : Tr α) (i : Nat) : Option α := t.getW (way (i + 1) i)
noncomputable def Tr.set (t : Tr α) (i : Nat) (v : α) : Tr α := t.setW (way (i + 1) i) v

theorem getW_setW (p q : List Bool) (t : Tr α) (v : α) : (t.setW p v).getW q = if p = q then some v else t.getW q := by
  induction p generalizing q t with
  | nil =>
    cases q with
    | nil => cases t <;> rfl
    | cons c q => cases t <;> cases c <;> simp [Tr.getW, Tr.setW] <;> (cases q <;> rfl)
  | cons b p ih =>
    cases q with
    | nil => cases t <;> cases b <;> simp [Tr.getW, Tr.setW]
    | cons c q =>
      cases t with
      | e =>
        cases b <;> cases c <;> simp [Tr.getW, Tr.setW]
        · have := ih q (.e : Tr α); simp only [Tr.getW, Tr.setW] at this; rw [this]; cases q <;> rfl
        · cases q <;> rfl
        · cases q <;> rfl
        · have := ih q (.e : Tr α); simp only [Tr.getW, Tr.setW] at this; rw [this]; cases q <;> rfl
      | n u l r =>
        cases b <;> cases c <;> simp [Tr.getW, Tr.setW]
        · have := ih q r; simp only [Tr.getW, Tr.setW] at this; exact this
        · have := ih q l; simp only [Tr.getW, Tr.setW] at this; exact this

def unway : List Bool → Nat
  | [] => 0
  | b :: p => if b then 2 * unway p + 1 else 2 * unway p + 2
theorem unway_way : ∀ (f i : Nat), i < f → unway (way f i) = i
  | 0, _, h => absurd h (Nat.not_lt_zero _)
  | f + 1, i, h => by
    unfold way
    split
    · rename_i h0; subst h0; rfl
    · rename_i h0
      have ih := unway_way f ((i - 1) / 2) (by omega)
      simp only [unway, ih]
      by_cases h1 : i % 2 = 1
      · simp [h1]; omega
      · simp [h1]; omega
theorem way_inj {i j : Nat} (h : way (i + 1) i = way (j + 1) j) : i = j := by
  have := congrArg unway h
  rwa [unway_way _ _ (by omega), unway_way _ _ (by omega)] at this

theorem Tr.get_set (t : Tr α) (i j : Nat) (v : α) : (t.set i v).get j = if i = j then some v else t.get j := by
  unfold Tr.get Tr.set
  rw [getW_setW]
  by_cases h : i = j
  · subst h; simp
  · simp only [h, if_false]
    rw [if_neg (fun e => h (way_inj e))]
theorem Tr.get_e (i : Nat) : (Tr.e : Tr α).get i = none := by
  unfold Tr.get
  cases way (i + 1) i <;> rfl
end
end Go.Ab
