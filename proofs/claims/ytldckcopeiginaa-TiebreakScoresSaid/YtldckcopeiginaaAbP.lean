/- The acts of calls, rounds and code. -/
import Derived.Test.YtldckcopeiginaaAbO
namespace Go.Ab
variable {P : Program} {G : Gl} {N : Nat} {σ σ' : AS}

def ExActs (ex : Runner) : Prop := ∀ rd c tm defs σ e tm' defs' σ', ex rd c ⟨tm, defs, σ⟩ = some (e, ⟨tm', defs', σ'⟩) → ∀ N, N ≤ σ.next →
  ∃ cs, okA N cs σ ∧ σ' = runA cs σ ∧ ∀ σ₂, Le N σ σ₂ → ex rd c ⟨tm, defs, σ₂⟩ = some (e, ⟨tm', defs', runA cs σ₂⟩)

theorem Le.set {σ₂ : AS} (h : Le N σ σ₂) {id : Nat} {o o' : AObj} (hg : σ.get id = some o) : Le N (σ.set id o') (σ₂.set id o') := h.on (.set id o') ⟨o, hg⟩
theorem Le.push {σ₂ : AS} (h : Le N σ σ₂) (o : AObj) : Le N (σ.push o) (σ₂.push o) := h.on (.push o) trivial

theorem drop_acts : ∀ (ds : List Nat) (σ σ' : AS), dropDefs σ ds = some σ' → ∃ cs, okA N cs σ ∧ σ' = runA cs σ ∧ ∀ σ₂, Le N σ σ₂ → dropDefs σ₂ ds = some (runA cs σ₂)
  | [], σ, σ', h => by cases h; exact ⟨[], trivial, rfl, fun _ _ => rfl⟩
  | d :: ds, σ, σ', h => by
    simp only [dropDefs] at h
    split at h
    · rename_i hg
      obtain ⟨cs, h1, h2, h3⟩ := drop_acts ds _ σ' h
      exact ⟨.set d .dead :: cs, ⟨⟨_, hg⟩, h1⟩, h2, fun σ₂ hl => by
        simp only [dropDefs, hl.get _ _ hg]
        exact h3 _ (hl.set hg)⟩
    · cases h

theorem resultL_le {σ₂ : AS} (hle : Le N σ σ₂) {tm : Tm} : ∀ (rs : List ResultVar) (vs : List AV), aresultL P tm σ rs = some vs → aresultL P tm σ₂ rs = some vs
  | [], vs, h => h
  | r :: rs, vs, h => by
    simp only [aresultL] at h ⊢
    split at h
    · rename_i v vs' hv hvs
      cases h
      rw [resultL_le hle rs vs' hvs]
      cases r with
      | tmp t => simp only [aresult] at hv ⊢; cases hv; rfl
      | cell a t => simp only [aresult] at hv ⊢; rw [load_le hle hv]
    · cases h
theorem results_le {σ₂ : AS} (hle : Le N σ σ₂) {fn : Func} {tm : Tm} {v : AV} (h : aresults P fn tm σ = some v) : aresults P fn tm σ₂ = some v := by
  unfold aresults at h ⊢
  simp only [Option.map_eq_some_iff] at h ⊢
  obtain ⟨vs, h1, h2⟩ := h
  exact ⟨vs, resultL_le hle _ _ h1, h2⟩

theorem callBody_acts {ex : Runner} (hx : ExActs ex) {f : FuncId} {as : List AV} {v : AV} (h : callBody P ex f as σ = some (v, σ')) (hN : N ≤ σ.next) : Acts N (callBody P ex f as) σ v σ' := by
  unfold callBody at h
  split at h
  · rename_i fn hf
    split at h
    · rename_i c hb
      have fin : ∀ {e : AEx} {s : Cfg}, (e = .normal ∨ e = .ret) → ex none c ⟨Tm.fill ⟨max as.length fn.ntmps, .e⟩ 0 as, [], σ⟩ = some (e, s) → (match dropDefs s.st s.defs with
          | some σ' => match aresults P fn s.tmps σ' with
            | some v => some (v, σ')
            | none => none
          | none => none) = some (v, σ') → Acts N (callBody P ex f as) σ v σ' := by
        intro e s he hex hr
        obtain ⟨tm', defs', σ₁⟩ := s
        obtain ⟨cs, h1, h2, h3⟩ := hx _ _ _ _ _ _ _ _ _ hex N hN
        simp only at hr
        split at hr
        · rename_i σ₂' hd
          split at hr
          · rename_i v' hv
            cases hr
            subst h2
            obtain ⟨ds, d1, d2, d3⟩ := drop_acts (N := N) _ _ _ hd
            refine ⟨cs ++ ds, okA_append h1 d1, by rw [runA_append]; exact d2, fun σ₂ hl => ?_⟩
            have hl2 := hl.run cs h1
            have hl3 := hl2.run ds d1
            rw [← d2] at hl3
            rw [runA_append]
            rcases he with rfl | rfl <;>
              simp only [callBody, hf, hb, h3 σ₂ hl, d3 _ hl2, results_le hl3 hv]
          · cases hr
        · cases hr
      split at h
      · rename_i s hex; exact fin (.inl rfl) hex h
      · rename_i s hex; exact fin (.inr rfl) hex h
      · cases h
    · cases h
  · cases h

/-- The contracts act. -/
def OrcActs (G : Gl) : Prop := ∀ f as h, G.orc f as = some h → ∀ (σ : AS) v σ', h σ = some (v, σ') → ∀ N, N ≤ σ.next → Acts N h σ v σ'
theorem call_acts {ex : Runner} (ho : OrcActs G) (hx : ExActs ex) {f : FuncId} {as : List AV} {v : AV} (h : callWith P G ex f as σ = some (v, σ')) (hN : N ≤ σ.next) : Acts N (callWith P G ex f as) σ v σ' := by
  unfold callWith at h
  split at h
  · rename_i g hg
    obtain ⟨cs, h1, h2, h3⟩ := ho f as g hg σ v σ' h N hN
    exact ⟨cs, h1, h2, fun σ₂ hl => by simp only [callWith, hg]; exact h3 σ₂ hl⟩
  · rename_i hg
    obtain ⟨cs, h1, h2, h3⟩ := callBody_acts hx h hN
    exact ⟨cs, h1, h2, fun σ₂ hl => by simp only [callWith, hg]; exact h3 σ₂ hl⟩

theorem round_acts {ex : Runner} (hx : ExActs ex) {l : Nat} {as : List AV} {v : AV} (h : roundWith ex l as σ = some (v, σ')) (hN : N ≤ σ.next) : Acts N (roundWith ex l as) σ v σ' := by
  unfold roundWith at h
  split at h
  · rename_i r hg
    split at h
    · rename_i hcond
      simp only at h
      split at h
      · rename_i s₁ hex₁
        obtain ⟨tm₁, defs₁, σ₁⟩ := s₁
        obtain ⟨cs₁, a1, a2, a3⟩ := hx _ _ _ _ _ _ _ _ _ hex₁ N hN
        simp only at h
        split at h
        · rename_i r₁ hg₁
          split at h
          · rename_i hready₁
            split at h
            · rename_i e s₂ hex₂
              obtain ⟨tm₂, defs₂, σ₂'⟩ := s₂
              subst a2
              have hN₁ : N ≤ ((runA cs₁ σ).set l (.loop { r₁ with state := .busy })).next := by
                rw [AS.next_set]; exact Nat.le_trans hN (next_run σ cs₁)
              obtain ⟨cs₂, b1, b2, b3⟩ := hx _ _ _ _ _ _ _ _ _ hex₂ N hN₁
              simp only at h
              split at h
              · rename_i r₂ hg₂
                cases h
                subst b2
                have k1 : okA N (Ac.set l (.loop { r₁ with state := .busy }) :: (cs₂ ++ [Ac.set l (.loop { r₂ with state := if (jumpOf e).isNone then .ready else .done, pending := jumpOf e })])) (runA cs₁ σ) :=
                  ⟨⟨_, hg₁⟩, okA_append b1 ⟨⟨_, hg₂⟩, trivial⟩⟩
                refine ⟨cs₁ ++ (.set l (.loop { r₁ with state := .busy }) :: (cs₂ ++ [.set l (.loop { r₂ with state := if (jumpOf e).isNone then .ready else .done, pending := jumpOf e })])),
                  okA_append a1 k1, by rw [runA_append]; simp only [runA, runA_append, Ac.on], fun τ hl => ?_⟩
                have hl1 := hl.run cs₁ a1
                have hl2 := hl1.set (o' := .loop { r₁ with state := .busy }) hg₁
                have hl3 := hl2.run cs₂ b1
                simp only [roundWith, hl.get _ _ hg]
                rw [if_pos hcond, a3 τ hl]
                simp only [hl1.get _ _ hg₁]
                rw [if_pos hready₁, b3 _ hl2]
                simp only [hl3.get _ _ hg₂]
                rw [runA_append]
                simp only [runA, runA_append, Ac.on]
              · cases h
            · cases h
          · cases h
        · cases h
      · cases h
    · cases h
  · cases h

/-- Both. -/
def Acting (G : Gl) (ex : Runner) : Prop := OrcActs G ∧ ExActs ex

theorem resO_acts {ex : Runner} (hx : Acting G ex) {ops : Array Oper} {o : Oper} {tm : Tm} {v : AV} (h : resO P G ex ops o tm σ = some (v, σ')) (hN : N ≤ σ.next) : Acts N (resO P G ex ops o tm) σ v σ' := by
  unfold resO at h
  split at h
  · rename_i hw
    cases he : eff P o (evT G tm) σ with
    | none => rw [he] at h; cases h
    | some x =>
      obtain ⟨r, σ₁⟩ := x
      rw [he] at h
      obtain ⟨cs, c1, c2, c3⟩ := eff_acts (N := N) he
      subst c2
      have hN₁ : N ≤ (runA cs σ).next := Nat.le_trans hN (next_run σ cs)
      cases r with
      | val u =>
        simp only [resNext, Option.some.injEq, Prod.mk.injEq] at h
        obtain ⟨rfl, rfl⟩ := h
        exact ⟨cs, c1, rfl, fun σ₂ hl => by simp only [resO]; rw [if_pos hw, c3 σ₂ hl]; rfl⟩
      | enter g as =>
        obtain ⟨ds, d1, d2, d3⟩ := call_acts hx.1 hx.2 (show callWith P G ex g as (runA cs σ) = some (v, σ') from h) hN₁
        exact ⟨cs ++ ds, okA_append c1 d1, by rw [runA_append]; exact d2, fun σ₂ hl => by
          simp only [resO]; rw [if_pos hw, c3 σ₂ hl, runA_append]; exact d3 _ (hl.run cs c1)⟩
      | round l as =>
        obtain ⟨ds, d1, d2, d3⟩ := round_acts hx.2 (show roundWith ex l as (runA cs σ) = some (v, σ') from h) hN₁
        exact ⟨cs ++ ds, okA_append c1 d1, by rw [runA_append]; exact d2, fun σ₂ hl => by
          simp only [resO]; rw [if_pos hw, c3 σ₂ hl, runA_append]; exact d3 _ (hl.run cs c1)⟩
  · rename_i hw
    cases h
    exact .none fun σ₂ _ => by simp only [resO]; rw [if_neg hw]

theorem runL_acts {ex : Runner} (hx : Acting G ex) {ops : Array Oper} : ∀ (os : List Oper) (tm : Tm) (defs : List Nat) (σ : AS) (tm' : Tm) (defs' : List Nat) (σ' : AS), runL P G ex ops os ⟨tm, defs, σ⟩ = some ⟨tm', defs', σ'⟩ → ∀ N, N ≤ σ.next →
    ∃ cs, okA N cs σ ∧ σ' = runA cs σ ∧ ∀ σ₂, Le N σ σ₂ → runL P G ex ops os ⟨tm, defs, σ₂⟩ = some ⟨tm', defs', runA cs σ₂⟩
  | [], tm, defs, σ, tm', defs', σ', h, N, hN => by cases h; exact ⟨[], trivial, rfl, fun _ _ => rfl⟩
  | o :: os, tm, defs, σ, tm', defs', σ', h, N, hN => by
    simp only [runL, stepO] at h
    cases hr : resO P G ex ops o tm σ with
    | none => rw [hr] at h; cases h
    | some x =>
      obtain ⟨v, σ₁⟩ := x
      rw [hr] at h
      simp only [stepVal] at h
      obtain ⟨cs, c1, c2, c3⟩ := resO_acts hx hr hN
      subst c2
      obtain ⟨ds, d1, d2, d3⟩ := runL_acts hx os _ _ _ _ _ _ h N (Nat.le_trans hN (next_run σ cs))
      exact ⟨cs ++ ds, okA_append c1 d1, by rw [runA_append]; exact d2, fun σ₂ hl => by
        simp only [runL, stepO, c3 σ₂ hl, stepVal]
        rw [runA_append]; exact d3 _ (hl.run cs c1)⟩

theorem slot_acts {f : AS → Option (AV × AS)} {k : Nat} {v : AV} {objs : Tr (Nat × AObj)} {next : Nat} {slot : Option Nat} (hk : N ≤ k) (h : Acts N f ⟨objs, next, some k⟩ v σ') :
    ∃ cs, okA N cs ⟨objs, next, slot⟩ ∧ (⟨σ'.objs, σ'.next, none⟩ : AS) = runA cs ⟨objs, next, slot⟩ ∧ ∀ σ₂, Le N ⟨objs, next, slot⟩ σ₂ → ∃ τ, f ⟨σ₂.objs, σ₂.next, some k⟩ = some (v, τ) ∧ (⟨τ.objs, τ.next, none⟩ : AS) = runA cs σ₂ := by
  obtain ⟨cs, c1, c2, c3⟩ := h
  have k1 : okA N [Ac.slot none] (runA cs ⟨objs, next, some k⟩) := ⟨trivial, trivial⟩
  refine ⟨.slot (some k) :: (cs ++ [.slot none]), ⟨hk, okA_append c1 k1⟩, ?_, fun σ₂ hl => ?_⟩
  · simp only [runA, runA_append, Ac.on]
    rw [c2]
  · refine ⟨_, c3 _ (hl.on (.slot (some k)) hk), ?_⟩
    simp only [runA, runA_append, Ac.on]

theorem resX_acts {ex : Runner} (hx : Acting G ex) {base : Nat} {ops : Array Oper} {i : Nat} {o : Oper} {tm : Tm} {v : AV} (h : resX P G ex base ops i o tm σ = some (v, σ')) (hN : N ≤ σ.next) (hb : (cls o == 3) = true → N ≤ base) : Acts N (resX P G ex base ops i o tm) σ v σ' := by
  unfold resX at h
  by_cases hc : (cls o == 3) = true
  · rw [if_pos hc] at h
    have hb := hb hc
    obtain ⟨objs, next, slot⟩ := σ
    simp only [resA] at h
    split at h
    · cases h
    · rename_i hk
      split at h
      · rename_i u objs' next' slot' hr
        cases h
        obtain ⟨cs, c1, c2, c3⟩ := slot_acts (slot := slot) (show N ≤ base + i by omega) (resO_acts (N := N) hx hr hN)
        refine ⟨cs, c1, c2, fun σ₂ hl => ?_⟩
        obtain ⟨τ, t1, t2⟩ := c3 σ₂ hl
        have hk2 : σ₂.objs.get (base + i) = none := by rw [hl.above _ (by omega)]; exact hk
        obtain ⟨o2, n2, s2⟩ := σ₂
        simp only [resX]
        rw [if_pos hc]
        simp only [resA]
        simp only at hk2 t1
        rw [hk2]
        simp only [t1]
        rw [← t2]
      · cases h
  · rw [if_neg hc] at h
    obtain ⟨objs, next, slot⟩ := σ
    simp only at h
    split at h
    · rename_i u objs' next' slot' hr
      cases h
      obtain ⟨cs, c1, c2, c3⟩ := resO_acts (N := N) hx hr hN
      have k1 : okA N [Ac.slot none] (runA cs ⟨objs, next, none⟩) := ⟨trivial, trivial⟩
      refine ⟨.slot none :: (cs ++ [.slot none]), ⟨trivial, okA_append c1 k1⟩, ?_, fun σ₂ hl => ?_⟩
      · simp only [runA, runA_append, Ac.on]
        rw [← c2]
      · have := c3 _ (hl.on (.slot none) trivial)
        obtain ⟨o2, n2, s2⟩ := σ₂
        simp only [resX]
        rw [if_neg hc]
        simp only [Ac.on] at this
        simp only [this, runA, runA_append, Ac.on]
    · cases h

end Go.Ab
