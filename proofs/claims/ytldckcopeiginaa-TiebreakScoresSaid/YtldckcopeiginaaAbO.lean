/- The same for all operations, calls, rounds and code. -/
import Derived.Test.YtldckcopeiginaaAbN
namespace Go.Ab
variable {P : Program} {N : Nat} {σ σ' : AS} {r : ANext}

theorem pure_acts {x : Option AV} (h : withSt σ x = some (r, σ')) : Acts N (fun σ => withSt σ x) σ r σ' := by
  obtain ⟨v, hv, rfl, rfl⟩ := withSt_some h
  exact withSt_acts (f := fun _ => x) hv fun _ _ => hv

theorem nil_acts {o : Oper} {ev : Operand → AV} {x : AV} (h : effNil P o ev x σ = some (r, σ')) : Acts N (effNil P o ev x) σ r σ' := by
  unfold effNil at h ⊢
  cases x <;> (try simp only at h ⊢) <;> first
    | exact pure_acts h
    | (cases h; exact .none fun _ _ => rfl)
    | (rename_i f a b; cases f <;> (try simp only at h ⊢) <;> first | exact pure_acts h | (cases h; exact .none fun _ _ => rfl))

theorem map_same {α : Type} {x : Option α} {f : α → ANext} (h : (x.map fun y => (f y, σ)) = some (r, σ')) : Acts N (fun σ => x.map fun y => (f y, σ)) σ r σ' := by
  simp only [Option.map_eq_some_iff, Prod.mk.injEq] at h
  obtain ⟨y, hy, rfl, rfl⟩ := h
  exact .none fun σ₂ _ => by simp [hy]

theorem bin_acts {op : BinOp} {t : TypeId} {x y : Operand} {a b : AV} (h : effBin P op t x y a b σ = some (r, σ')) : Acts N (effBin P op t x y a b) σ r σ' := by
  have key : r = r ∧ σ' = σ ∧ ∀ σ₂, effBin P op t x y a b σ₂ = some (r, σ₂) := by
    unfold effBin at h ⊢
    split at h
    · split at h
      · cases h; exact ⟨rfl, rfl, fun _ => rfl⟩
      · split at h
        · cases h; exact ⟨rfl, rfl, fun _ => rfl⟩
        · cases h
    · split at h
      · simp only [Option.map_eq_some_iff, Prod.mk.injEq] at h
        obtain ⟨q, hq, rfl, rfl⟩ := h
        exact ⟨rfl, rfl, fun _ => by simp [hq]⟩
      · simp only [Option.map_eq_some_iff, Prod.mk.injEq] at h
        obtain ⟨q, hq, rfl, rfl⟩ := h
        exact ⟨rfl, rfl, fun _ => by simp [hq]⟩
      · cases h
  obtain ⟨_, rfl, hk⟩ := key
  exact .none fun σ₂ _ => hk σ₂

theorem builtin_acts {o : Oper} {ev : Operand → AV} {b : Builtin} {ats : Array TypeId} {args : List AV} (h : effBuiltin P o ev b ats args σ = some (r, σ')) : Acts N (effBuiltin P o ev b ats args) σ r σ' := by
  unfold effBuiltin at h ⊢
  split at h
  · exact append_acts h
  · exact copy_acts h
  · unfold effLenOp at h ⊢
    split at h
    · rename_i hr
      simp only [hr, if_true]
      exact pure_acts h
    · rename_i hr
      simp only [hr]
      exact pure_acts h
  · unfold effCapOp at h ⊢
    split at h
    · rename_i hr
      simp only [hr, if_true]
      obtain ⟨v, hv, rfl, rfl⟩ := withSt_some h
      exact withSt_acts (f := fun σ => effCap P ats _ σ) hv fun σ₂ hl => cap_le hl hv
    · rename_i hr
      simp only [hr]
      exact pure_acts h
  · exact pure_acts h
  · exact pure_acts h
  · cases h

theorem eff_acts {o : Oper} {ev : Operand → AV} (h : eff P o ev σ = some (r, σ')) : Acts N (eff P o ev) σ r σ' := by
  unfold eff at h ⊢
  cases ho : o.op <;> simp only [ho] at h ⊢ <;> try (cases h; done)
  case move x => cases h; exact .none fun _ _ => rfl
  case assign x => cases h; exact .none fun _ _ => rfl
  case pick c a b =>
    unfold effPick at h ⊢
    split at h
    · cases h; exact .none fun _ _ => rfl
    · cases h
  case alloc elem =>
    unfold effAlloc at h ⊢
    simp only [Option.map_eq_some_iff, Option.bind_eq_some_iff] at h
    obtain ⟨z, ⟨i, hi, hz⟩, he⟩ := h
    cases he
    simp only [hi, hz, Option.bind_some, Option.map_some]
    exact push_acts (g := fun k => ANext.val (.ptr k 0 0))
  case box elem v => cases h; exact push_acts (g := fun k => ANext.val (.ptr k 0 0))
  case build t parts => exact pure_acts h
  case buildSlice t len parts => exact buildSlice_acts h
  case load t a =>
    obtain ⟨v, hv, rfl, rfl⟩ := withSt_some h
    exact withSt_acts (f := fun σ => effLoad P t (ev a) σ) hv fun σ₂ hl => load_le hl hv
  case store t a v =>
    simp only [Option.map_eq_some_iff, Prod.mk.injEq] at h
    obtain ⟨σ₁, hσ, rfl, rfl⟩ := h
    exact store_acts hσ
  case nilCheck x => exact nil_acts h
  case binOp op t x y yt => exact bin_acts h
  case unOp => exact pure_acts h
  case convert => exact pure_acts h
  case makeInterface t x =>
    unfold effMkIfc at h ⊢
    split at h
    · cases h
    · cases h; exact .none fun _ _ => rfl
    · cases h
  case makeFunc => cases h; exact .none fun _ _ => rfl
  case makeMap t r' => exact makeMap_acts h
  case makeSlice t l c => exact makeSlice_acts h
  case slice t x lo hi mx =>
    unfold effSliceOp at h ⊢
    split at h
    · rename_i hr
      simp only [hr, if_true]
      obtain ⟨v, hv, rfl, rfl⟩ := withSt_some h
      exact withSt_acts (f := fun σ => effSlice P t (ev x) (lo.map ev) (hi.map ev) (mx.map ev) σ) hv fun σ₂ hl => slice_le hl hv
    · rename_i hr
      simp only [hr]
      exact pure_acts h
  case fieldAddr t x f => exact pure_acts h
  case field t x f =>
    unfold effFieldOp at h ⊢
    split at h
    · exact pure_acts h
    · exact pure_acts h
  case indexAddr t x ix =>
    obtain ⟨v, hv, rfl, rfl⟩ := withSt_some h
    exact withSt_acts (f := fun σ => effIndexAddr P t (ev x) (ev ix) σ) hv fun σ₂ hl => indexAddr_le hl hv
  case index t x ix =>
    unfold effIndexOp at h ⊢
    split at h
    · exact pure_acts h
    · exact pure_acts h
  case range t x => exact range_acts h
  case next it b => exact next_acts h
  case typeAssert x xt asserted ok =>
    unfold effAssertOp at h ⊢
    split at h
    · rename_i hr
      simp only [hr, if_true]
      exact pure_acts h
    · rename_i hr
      simp only [hr]
      exact pure_acts h
  case extract t i =>
    unfold effExtract at h ⊢
    split at h
    · exact pure_acts h
    · exact pure_acts h
    · exact pure_acts h
  case call c =>
    unfold effCall at h ⊢
    split at h
    · split at h
      · rename_i hb
        simp only [hb, if_true]
        exact pure_acts h
      · rename_i hb
        simp only [hb]
        exact map_same h
    · exact map_same h
    · exact builtin_acts h

end Go.Ab
