/- A closed call's outcome, given as a contract. -/
import Derived.Test.YtldckcopeiginaaAbSe
namespace Go.Ab
variable {P : Program}

theorem Rep.after {B w w' : World} {ρ ρ' : Rho} {σ σ' : AS} (h : Rep B ρ σ w) (h' : Rep w ρ' σ' w') : Rep B ρ σ w' where
  dom := h.dom
  free := h.free
  low := h.low
  obj := fun id o l hg hr => by
    have ho := h.obj id o l hg hr
    have hk := h'.keep l.blk (h.new id l hr).2
    cases o with
    | dead => trivial
    | cells e es x rows =>
      obtain ⟨h1, h2, h3, h4, c, h5, h6, h7⟩ := ho
      exact ⟨h1, h2, h3, h4, c, by rw [hk]; exact h5, h6, h7⟩
    | loop lp =>
      obtain ⟨fn, arr, d, h1, h2, h3⟩ := ho
      exact ⟨fn, arr, d, h1, h2, by rw [hk]; exact h3⟩
    | defr => show w'.heap[l.blk]? = _; rw [hk]; exact ho
    | emap => show w'.heap[l.blk]? = _; rw [hk]; exact ho
    | iter m =>
      obtain ⟨d, h1, h2⟩ := ho
      exact ⟨d, h1, by rw [hk]; exact h2⟩
  new := fun id l hr => ⟨(h.new id l hr).1, Nat.lt_of_lt_of_le (h.new id l hr).2 h'.size⟩
  inj := h.inj
  keep := fun b hb => (h'.keep b (Nat.lt_of_lt_of_le hb h.size)).trans (h.keep b hb)
  size := Nat.le_trans h.size h'.size
  tape := h'.tape.trans h.tape
  os := h'.os.trans h.os
  out := h'.out.trans h.out
  has := h.has
  thaw := fun b x hb hx => by
    by_cases hw : b < w.heap.size
    · exact h.thaw b x hb (by rw [← h'.keep b hw]; exact hx)
    · exact h'.thaw b x (by omega) hx

/-- Nothing but: the call of f with these arguments gives v. -/
def oneOrc (f : FuncId) (v : Value) : Gl := ⟨fun _ => none, fun g as => if g = f ∧ as = [] then some (fun σ => some (.s v, σ)) else none⟩
theorem oneOrc_at (f : FuncId) (v : Value) : (oneOrc f v).orc f [] = some (fun σ => some (.s v, σ)) := by simp [oneOrc]
theorem oneOrc_off {f g : FuncId} {v : Value} {as : List AV} (h : as ≠ []) : (oneOrc f v).orc g as = none := by simp [oneOrc, h]
theorem oneOrc_given (hP : Fit P) {n : Nat} {f : FuncId} {v : Value} {σk : AS} {fn : Func} (hf : P.funcs[f]? = some fn) (hb : fn.body.isNone = false) (h : runCall P ⟨fun _ => none, fun _ _ => none⟩ n f [] = some (.s v, σk)) : Given P (oneOrc f v) where
  ok := fun g as hh ho => by
    unfold oneOrc at ho
    simp only at ho
    split at ho
    · rename_i hc
      obtain ⟨rfl, rfl⟩ := hc
      cases ho
      refine ⟨⟨fn, hf, hb⟩, fun σ v' σ' hv B ρ w vs hG hrep hc k => ?_⟩
      cases hv
      refine call_sound (exec_sound hP (Given.none _) n) (G := ⟨fun _ => none, fun _ _ => none⟩) (fun _ _ hr => by cases hr) (start_rep w) (as := []) ?_ h k (R := fun e w' => ∃ ρ' y, e = .returned y ∧ ρ.le ρ' ∧ Conc (memOf B) ρ' (.s v) y ∧ Rep B ρ' σ w') (fun ρ' y w' _ hcy hrep' => ?_)
      · cases hvs : vs.toList with
        | nil => exact .nil
        | cons a b => rw [hvs] at hc; cases hc
      · cases hcy
        exact ⟨ρ, _, rfl, Rho.le_refl ρ, .s _, hrep.after hrep'⟩
    · cases ho
  acts := fun g as hh ho => by
    unfold oneOrc at ho
    simp only at ho
    split at ho
    · cases ho
      intro σ v' σ' hv N hN
      cases hv
      exact ⟨[], trivial, rfl, fun σ₂ _ => rfl⟩
    · cases ho
end Go.Ab
