/- Two neighbours in a region that draws its order may be turned about. -/
import Derived.Test.YtldckcopeiginaaAbR
namespace Go.Ab
variable {P : Program} {G : Gl} {N : Nat} {σ σ' : AS} {r : ANext}

/-! ### Class 0: looks at no object -/
def Same (f : AS → Option (ANext × AS)) (σ : AS) (r : ANext) (σ' : AS) : Prop := σ' = σ ∧ (∃ v, r = .val v) ∧ ∀ τ, f τ = some (r, τ)
theorem pure_same {x : Option AV} (h : withSt σ x = some (r, σ')) : Same (fun σ => withSt σ x) σ r σ' := by
  obtain ⟨v, rfl, rfl, rfl⟩ := withSt_some h
  exact ⟨rfl, ⟨v, rfl⟩, fun τ => rfl⟩
theorem eff0 {o : Oper} {ev : Operand → AV} (hc : cls o = 0) (h : eff P o ev σ = some (r, σ')) : Same (eff P o ev) σ r σ' := by
  unfold eff at h ⊢
  unfold cls at hc
  cases ho : o.op <;> simp only [ho] at h hc ⊢ <;> try (cases hc; done)
  case move x => cases h; exact ⟨rfl, ⟨_, rfl⟩, fun _ => rfl⟩
  case assign x => cases h; exact ⟨rfl, ⟨_, rfl⟩, fun _ => rfl⟩
  case pick c a b =>
    unfold effPick at h ⊢
    split at h
    · cases h; exact ⟨rfl, ⟨_, rfl⟩, fun _ => rfl⟩
    · cases h
  case build t parts => exact pure_same h
  case nilCheck x =>
    unfold effNil at h ⊢
    split at h <;> first | exact pure_same h | (cases h; exact ⟨rfl, ⟨_, rfl⟩, fun _ => rfl⟩)
  case binOp op t x y yt =>
    unfold effBin at h ⊢
    split at h
    · split at h
      · cases h; exact ⟨rfl, ⟨_, rfl⟩, fun _ => rfl⟩
      · split at h
        · cases h; exact ⟨rfl, ⟨_, rfl⟩, fun _ => rfl⟩
        · cases h
    · split at h
      · simp only [Option.map_eq_some_iff, Prod.mk.injEq] at h
        obtain ⟨q, hq, rfl, rfl⟩ := h
        exact ⟨rfl, ⟨_, rfl⟩, fun _ => by simp [hq]⟩
      · simp only [Option.map_eq_some_iff, Prod.mk.injEq] at h
        obtain ⟨q, hq, rfl, rfl⟩ := h
        exact ⟨rfl, ⟨_, rfl⟩, fun _ => by simp [hq]⟩
      · cases h
  case unOp => exact pure_same h
  case convert => exact pure_same h
  case makeInterface t x =>
    unfold effMkIfc at h ⊢
    split at h
    · cases h
    · cases h; exact ⟨rfl, ⟨_, rfl⟩, fun _ => rfl⟩
    · cases h
  case makeFunc => cases h; exact ⟨rfl, ⟨_, rfl⟩, fun _ => rfl⟩
  case fieldAddr t x f => exact pure_same h
  case field t x f =>
    unfold effFieldOp at h ⊢
    split at h
    · exact pure_same h
    · exact pure_same h
  case index t x ix =>
    unfold effIndexOp at h ⊢
    split at h
    · exact pure_same h
    · exact pure_same h
  case typeAssert x xt asserted ok =>
    unfold effAssertOp at h ⊢
    split at h
    · rename_i hr
      simp only [hr, if_true]
      exact pure_same h
    · rename_i hr
      simp only [hr]
      exact pure_same h
  case extract t i =>
    unfold effExtract at h ⊢
    split at h
    · exact pure_same h
    · exact pure_same h
    · exact pure_same h
  case call c =>
    unfold effCall at h ⊢
    split at h
    · rename_i hcal; rw [hcal] at hc; cases hc
    · rename_i hcal; rw [hcal] at hc; cases hc
    · rename_i b hcal
      rw [hcal] at hc
      unfold effBuiltin at h ⊢
      split at h
      · cases hc
      · cases hc
      · unfold effLenOp at h ⊢
        split at h
        · rename_i hr
          simp only [hr, if_true]
          exact pure_same h
        · rename_i hr
          simp only [hr]
          exact pure_same h
      · cases hc
      · exact pure_same h
      · exact pure_same h
      · cases h

/-! ### Class 1: looks at one object -/
/-- What was seen is as it was. -/
def Seen.fresh (σ τ : AS) : Seen → Prop
  | .all id _ => τ.get id = σ.get id
  | .size id es => ∃ e x rows, τ.get id = some (.cells e es x rows)
theorem eff1 {o : Oper} {ev : Operand → AV} (hc : cls o = 1) (h : eff P o ev σ = some (r, σ')) : σ' = σ ∧ (∃ v, r = .val v) ∧ ∀ τ : AS, (∀ sn, readOf o ev σ = some sn → sn.fresh σ τ) → eff P o ev τ = some (r, τ) := by
  unfold readOf
  unfold eff at h ⊢
  unfold cls at hc
  cases ho : o.op <;> simp only [ho] at h hc ⊢ <;> try (cases hc; done)
  case load t a =>
    obtain ⟨v, hv, rfl, rfl⟩ := withSt_some h
    refine ⟨rfl, ⟨v, rfl⟩, fun τ hf => ?_⟩
    have : effLoad P t (ev a) τ = some v := by
      cases ha : ev a <;> rw [ha] at hv hf <;> simp only [effLoad] at hv ⊢ <;> try (cases hv; done)
      · rename_i id i f
        simp only [Option.bind_eq_some_iff] at hv ⊢
        obtain ⟨rows, hrows, hrest⟩ := hv
        refine ⟨rows, ?_, hrest⟩
        unfold AS.rows at hrows ⊢
        split at hrows
        · rename_i e es x rws hg
          obtain ⟨n, hn⟩ := AS.objs_of_get hg
          have := hf (.all id n) (by simp only [seenAll, idOf, hn])
          simp only [Seen.fresh] at this
          rw [this, hg]; exact hrows
        · cases hrows
      · exact hv
    simp [withSt, this]
  case slice t x lo hi mx =>
    unfold effSliceOp at h ⊢
    split at h
    · rename_i hr
      simp only [hr, if_true]
      obtain ⟨v, hv, rfl, rfl⟩ := withSt_some h
      refine ⟨rfl, ⟨v, rfl⟩, fun τ hf => ?_⟩
      have : effSlice P t (ev x) (lo.map ev) (hi.map ev) (mx.map ev) τ = some v := by
        unfold effSlice at hv ⊢
        split at hv
        · cases hv
        · rename_i hcc
          rw [if_neg hcc]
          split at hv
          · split at hv
            · split at hv
              · rename_i id i n cap hx
                split at hv
                · rename_i hg
                  obtain ⟨m, hm⟩ := AS.objs_of_get hg
                  have := hf (.all id m) (by simp only [seenAll, hx, idOf, hm])
                  simp only [Seen.fresh] at this
                  rw [this, hg]
                  exact hv
                · cases hv
              · exact hv
              · cases hv
            · cases hv
          · cases hv
      simp [withSt, this]
    · rename_i hr
      simp only [hr]
      obtain ⟨h1, h2, h3⟩ := pure_same h
      exact ⟨h1, h2, fun τ _ => h3 τ⟩
  case indexAddr t x ix =>
    obtain ⟨v, hv, rfl, rfl⟩ := withSt_some h
    refine ⟨rfl, ⟨v, rfl⟩, fun τ hf => ?_⟩
    have : effIndexAddr P t (ev x) (ev ix) τ = some v := by
      unfold effIndexAddr at hv ⊢
      split at hv
      · split at hv
        · split at hv
          · rename_i id i len cap hx
            split at hv
            · rename_i e es xx rows hg
              obtain ⟨m, hm⟩ := AS.objs_of_get hg
              have := hf (.size id es) (by simp only [seenSl, hx, hm])
              obtain ⟨e', x', rows', hτ⟩ := this
              rw [hτ]
              exact hv
            · cases hv
          · exact hv
          · cases hv
        · cases hv
      · exact hv
      · cases hv
    simp [withSt, this]
  case call c =>
    cases hcal : c.callee with
    | value f => rw [hcal] at hc; cases hc
    | invoke a b => rw [hcal] at hc; cases hc
    | builtin b => rw [hcal] at hc; cases b <;> cases hc

/-! ### Class 3: makes one object -/
theorem eff3 {o : Oper} {ev : Operand → AV} (hc : cls o = 3) (h : eff P o ev σ = some (r, σ')) : (∃ v, r = .val v) ∧ ∃ ob, σ' = σ.push ob ∧ ∀ τ : AS, τ.newId = σ.newId → eff P o ev τ = some (r, τ.push ob) := by
  unfold eff at h ⊢
  unfold cls at hc
  cases ho : o.op <;> simp only [ho] at h hc ⊢ <;> try (cases hc; done)
  case alloc elem =>
    unfold effAlloc at h ⊢
    simp only [Option.map_eq_some_iff, Option.bind_eq_some_iff] at h
    obtain ⟨z, ⟨i, hi, hz⟩, he⟩ := h
    cases he
    refine ⟨⟨_, rfl⟩, _, rfl, fun τ ht => ?_⟩
    simp only [hi, hz, Option.bind_some, Option.map_some, effBox, ht]
  case box elem v =>
    cases h
    exact ⟨⟨_, rfl⟩, _, rfl, fun τ ht => by simp only [effBox, ht]⟩
  case buildSlice t len parts =>
    unfold effBuildSlice at h ⊢
    split at h
    · rename_i elem hu
      split at h
      · rename_i info hi
        split at h
        · rename_i z hz
          split at h
          · rename_i hcc
            split at h
            · rename_i rows hr
              cases h
              refine ⟨⟨_, rfl⟩, _, rfl, fun τ ht => ?_⟩
              simp only [hi, hz, hr, ht]
              rw [if_pos hcc]
            · cases h
          · cases h
        · cases h
      · cases h
    · cases h
  case makeSlice t l c =>
    unfold effMakeSlice at h ⊢
    split at h
    · rename_i elem kl len kc cap hu hl hcp
      split at h
      · rename_i info hi
        split at h
        · rename_i z hz
          split at h
          · rename_i hcc
            cases h
            refine ⟨⟨_, rfl⟩, _, rfl, fun τ ht => ?_⟩
            simp only [hi, hz, ht]
            rw [if_pos hcc]
          · cases h
        · cases h
      · cases h
    · cases h
  case call c =>
    cases hcal : c.callee with
    | value f => rw [hcal] at hc; cases hc
    | invoke a b => rw [hcal] at hc; cases hc
    | builtin b => rw [hcal] at hc; cases b <;> cases hc

end Go.Ab
