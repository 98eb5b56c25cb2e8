/- Two neighbours in a region that draws its order may be turned about: the runs. -/
import Derived.Test.YtldckcopeiginaaAbS
namespace Go.Ab
variable {P : Program} {G : Gl} {N : Nat} {ex : Runner} {base : Nat} {ops : Array Oper}

theorem resX_slot {i : Nat} {o : Oper} {tm : Tm} {σ σ' : AS} {v : AV} (h : resX P G ex base ops i o tm σ = some (v, σ')) : σ'.slot = none := by
  obtain ⟨objs, next, slot⟩ := σ
  simp only [resX, resA] at h
  split at h
  · split at h
    · cases h
    · split at h
      · cases h; rfl
      · cases h
  · split at h
    · cases h; rfl
    · cases h

theorem resX_plain {i : Nat} {o : Oper} {tm : Tm} (hc : cls o ≠ 3) (objs : Tr (Nat × AObj)) (next : Nat) (slot : Option Nat) :
    resX P G ex base ops i o tm ⟨objs, next, slot⟩ = match resO P G ex ops o tm ⟨objs, next, none⟩ with
      | some (v, ⟨objs', next', _⟩) => some (v, ⟨objs', next', none⟩)
      | none => none := by
  have : ¬ (cls o == 3) = true := by simpa using hc
  simp only [resX]
  rw [if_neg this]
  rfl

theorem resX0 {i : Nat} {o : Oper} {tm : Tm} {σ σ' : AS} {v : AV} (hc : cls o = 0) (hs : σ.slot = none) (h : resX P G ex base ops i o tm σ = some (v, σ')) :
    σ' = σ ∧ ∀ τ : AS, τ.slot = none → resX P G ex base ops i o tm τ = some (v, τ) := by
  obtain ⟨objs, next, slot⟩ := σ
  simp only at hs; subst hs
  have h3 : cls o ≠ 3 := by omega
  rw [resX_plain h3] at h
  have key : ∀ τ : AS, resO P G ex ops o tm ⟨objs, next, none⟩ = some (v, ⟨objs, next, none⟩) → resO P G ex ops o tm τ = some (v, τ) → τ.slot = none → resX P G ex base ops i o tm τ = some (v, τ) := by
    intro τ _ h2 h4
    obtain ⟨a, b, c⟩ := τ
    simp only at h4; subst h4
    rw [resX_plain h3, h2]
  split at h
  · rename_i u objs' next' slot' hr
    cases h
    unfold resO at hr
    split at hr
    · rename_i hw
      cases he : eff P o (evT G tm) ⟨objs, next, none⟩ with
      | none => rw [he] at hr; cases hr
      | some x =>
        obtain ⟨r, σ₁⟩ := x
        rw [he] at hr
        obtain ⟨rfl, ⟨v', rfl⟩, hall⟩ := eff0 hc he
        simp only [resNext, Option.some.injEq, Prod.mk.injEq] at hr
        obtain ⟨rfl, hr⟩ := hr
        cases hr
        refine ⟨rfl, fun τ hτ => ?_⟩
        obtain ⟨a, b, c⟩ := τ
        simp only at hτ; subst hτ
        rw [resX_plain h3]
        simp only [resO]
        rw [if_pos hw, hall]
        rfl
    · rename_i hw
      cases hr
      refine ⟨rfl, fun τ hτ => ?_⟩
      obtain ⟨a, b, c⟩ := τ
      simp only at hτ; subst hτ
      rw [resX_plain h3]
      simp only [resO]
      rw [if_neg hw]
  · cases h

theorem resX1 {i : Nat} {o : Oper} {tm : Tm} {σ σ' : AS} {v : AV} (hc : cls o = 1) (hs : σ.slot = none) (h : resX P G ex base ops i o tm σ = some (v, σ')) :
    σ' = σ ∧ ∀ τ : AS, τ.slot = none → (∀ sn, noted G ops o tm σ = some sn → sn.fresh σ τ) → resX P G ex base ops i o tm τ = some (v, τ) := by
  obtain ⟨objs, next, slot⟩ := σ
  simp only at hs; subst hs
  have h3 : cls o ≠ 3 := by omega
  rw [resX_plain h3] at h
  split at h
  · rename_i u objs' next' slot' hr
    cases h
    unfold resO at hr
    split at hr
    · rename_i hw
      cases he : eff P o (evT G tm) ⟨objs, next, none⟩ with
      | none => rw [he] at hr; cases hr
      | some x =>
        obtain ⟨r, σ₁⟩ := x
        rw [he] at hr
        obtain ⟨rfl, ⟨v', rfl⟩, hall⟩ := eff1 hc he
        simp only [resNext, Option.some.injEq, Prod.mk.injEq] at hr
        obtain ⟨rfl, hr⟩ := hr
        cases hr
        refine ⟨rfl, fun τ hτ hf => ?_⟩
        obtain ⟨a, b, c⟩ := τ
        simp only at hτ; subst hτ
        rw [resX_plain h3]
        simp only [resO]
        rw [if_pos hw, hall _ (fun sn hsn => hf sn (by unfold noted; rw [if_pos hw]; exact hsn))]
        rfl
    · rename_i hw
      cases hr
      refine ⟨rfl, fun τ hτ _ => ?_⟩
      obtain ⟨a, b, c⟩ := τ
      simp only at hτ; subst hτ
      rw [resX_plain h3]
      simp only [resO]
      rw [if_neg hw]
  · cases h

theorem resX3 {i : Nat} {o : Oper} {tm : Tm} {σ σ' : AS} {v : AV} (hc : cls o = 3) (h : resX P G ex base ops i o tm σ = some (v, σ')) : σ.objs.get (base + i) = none ∧
    ((∃ ob, σ' = ⟨putObj σ.objs (base + i) ob, σ.next, none⟩ ∧ ∀ τ : AS, τ.objs.get (base + i) = none → resX P G ex base ops i o tm τ = some (v, ⟨putObj τ.objs (base + i) ob, τ.next, none⟩)) ∨
     (σ' = ⟨σ.objs, σ.next, none⟩ ∧ ∀ τ : AS, τ.objs.get (base + i) = none → resX P G ex base ops i o tm τ = some (v, ⟨τ.objs, τ.next, none⟩))) := by
  have h3 : (cls o == 3) = true := by simp [hc]
  have form : ∀ τ : AS, τ.objs.get (base + i) = none → resX P G ex base ops i o tm τ = match resO P G ex ops o tm ⟨τ.objs, τ.next, some (base + i)⟩ with
      | some (v, ⟨objs', next', _⟩) => some (v, ⟨objs', next', none⟩)
      | none => none := by
    intro τ hτ
    obtain ⟨a, b, c⟩ := τ
    simp only at hτ
    simp only [resX]
    rw [if_pos h3]
    simp only [resA, hτ]
    rfl
  have hnone : σ.objs.get (base + i) = none := by
    obtain ⟨objs, next, slot⟩ := σ
    simp only [resX] at h
    rw [if_pos h3] at h
    simp only [resA] at h
    split at h
    · cases h
    · rename_i hg; exact hg
  refine ⟨hnone, ?_⟩
  rw [form σ hnone] at h
  split at h
  · rename_i u objs' next' slot' hr
    cases h
    unfold resO at hr
    split at hr
    · rename_i hw
      cases he : eff P o (evT G tm) ⟨σ.objs, σ.next, some (base + i)⟩ with
      | none => rw [he] at hr; cases hr
      | some x =>
        obtain ⟨r, σ₁⟩ := x
        rw [he] at hr
        obtain ⟨⟨v', rfl⟩, ob, hob, hall⟩ := eff3 hc he
        simp only [resNext, Option.some.injEq, Prod.mk.injEq] at hr
        obtain ⟨rfl, hr⟩ := hr
        subst hob
        simp only [AS.push] at hr
        cases hr
        left
        refine ⟨ob, rfl, fun τ hτ => ?_⟩
        rw [form τ hτ]
        simp only [resO]
        rw [if_pos hw, hall ⟨τ.objs, τ.next, some (base + i)⟩ rfl]
        rfl
    · rename_i hw
      cases hr
      right
      refine ⟨rfl, fun τ hτ => ?_⟩
      rw [form τ hτ]
      simp only [resO]
      rw [if_neg hw]
  · cases h

theorem noted_none {o : Oper} {tm : Tm} (hc : cls o ≠ 1) (σ : AS) : noted G ops o tm σ = none := by
  unfold noted
  have : readOf o (evT G tm) σ = none := by
    unfold readOf
    unfold cls at hc
    cases ho : o.op <;> simp_all
  rw [this]
  split <;> rfl

theorem stands_upd_none {rc : Rec} {k : Nat} {w : Option Seen} {σ : AS} {fl : List Nat} (hk : rc k = none) (h : stands (rc.upd k w) σ fl = true) : stands rc σ fl = true := by
  unfold stands at h ⊢
  rw [List.all_eq_true] at h ⊢
  intro j hj
  have := h j hj
  by_cases e : j = k
  · subst e; rw [hk]
  · simp only [Rec.upd, e, if_false] at this; exact this
theorem stands_upd {rc : Rec} {k : Nat} {σ : AS} {fl : List Nat} (h : stands rc σ fl = true) : stands (rc.upd k none) σ fl = true := by
  unfold stands at h ⊢
  rw [List.all_eq_true] at h ⊢
  intro j hj
  have := h j hj
  by_cases e : j = k
  · simp [Rec.upd, e]
  · simp only [Rec.upd, e, if_false]; exact this
theorem stands_put {rc : Rec} {t : Tr (Nat × AObj)} {n n' : Nat} {s s' : Option Nat} {k : Nat} {ob : AObj} {fl : List Nat} (hk : t.get k = none) (h : stands rc ⟨t, n, s⟩ fl = true) : stands rc ⟨putObj t k ob, n', s'⟩ fl = true := by
  unfold stands at h ⊢
  rw [List.all_eq_true] at h ⊢
  intro j hj
  have := h j hj
  cases hx : rc j with
  | none => rfl
  | some x =>
    rw [hx] at this
    cases x with
    | all id m =>
      simp only [Seen.stands] at this ⊢
      rw [putObj_get]
      by_cases e : k = id
      · subst e; rw [hk] at this; cases this
      · rw [if_neg e]; exact this
    | size id m =>
      simp only [Seen.stands] at this ⊢
      rw [putObj_get]
      by_cases e : k = id
      · subst e; rw [hk] at this; cases this
      · rw [if_neg e]; exact this
theorem upd_comm (rc : Rec) {i j : Nat} (u v : Option Seen) (h : i ≠ j) : (rc.upd i u).upd j v = (rc.upd j v).upd i u := by
  funext k
  unfold Rec.upd
  by_cases e1 : k = j
  · have e2 : ¬ k = i := fun e => h (e.symm.trans e1)
    rw [if_pos e1, if_neg e2, if_pos e1]
  · rw [if_neg e1]
    by_cases e2 : k = i
    · rw [if_pos e2, if_pos e2]
    · rw [if_neg e2, if_neg e2, if_neg e1]

/-- One name more, below all that the acts name: they go on beside it. -/
theorem comm_run {k : Nat} {ob : AObj} : ∀ (cs : List Ac) (σ : AS), okA N cs σ → k < N → N ≤ σ.next → (∀ j, σ.slot = some j → N ≤ j) → (runA cs σ).objs.get k = none →
    runA cs ⟨putObj σ.objs k ob, σ.next, σ.slot⟩ = ⟨putObj (runA cs σ).objs k ob, (runA cs σ).next, (runA cs σ).slot⟩
  | [], σ, _, _, _, _, _ => rfl
  | c :: cs, σ, hok, hk, hn, hs, hg => by
    have hg' : (runA cs (c.on σ)).objs.get k = none := hg
    have hstep : c.on ⟨putObj σ.objs k ob, σ.next, σ.slot⟩ = ⟨putObj (c.on σ).objs k ob, (c.on σ).next, (c.on σ).slot⟩ := by
      obtain ⟨t, n, s⟩ := σ
      cases c with
      | set id x =>
        obtain ⟨p, hp⟩ := hok.1
        obtain ⟨m, hm⟩ := AS.objs_of_get hp
        have hne : id ≠ k := fun e => by
          obtain ⟨m', o', h1, _⟩ := objs_on hm (.set id x)
          obtain ⟨m'', o'', h2, _⟩ := objs_run h1 cs
          subst e
          rw [hg'] at h2; cases h2
        simp only [Ac.on, AS.set]
        rw [putObj_comm _ _ _ hne]
      | push x =>
        cases s with
        | none =>
          simp only [Ac.on, AS.push]
          rw [putObj_comm _ _ _ (show n ≠ k by simp only at hn; omega)]
        | some j =>
          have := hs j rfl
          simp only [Ac.on, AS.push]
          rw [putObj_comm _ _ _ (show j ≠ k by omega)]
      | bump m => rfl
      | slot q => rfl
    have hn' : N ≤ (c.on σ).next := Nat.le_trans hn (next_on σ c)
    have hs' : ∀ j, (c.on σ).slot = some j → N ≤ j := by
      cases c with
      | set id x => exact hs
      | push x => intro j hj; have : (σ.push x).slot = some j := hj; rw [AS.slot_push] at this; cases this
      | bump m => intro j hj; cases hj
      | slot q => intro j hj; have h1 := hok.1; simp only [Ac.on] at hj; subst hj; exact h1
    simp only [runA]
    rw [hstep]
    exact comm_run cs (c.on σ) hok.2 hk hn' hs' hg'

theorem pairOk_spec {x y : Oper} (h : pairOk ops x y = true) : x.apart ops y = true ∧ (cls x = 0 ∨ cls y = 0 ∨ cls x = 1 ∨ cls y = 3) := by
  unfold pairOk at h
  simp only [Bool.and_eq_true, Bool.or_eq_true, beq_iff_eq] at h
  obtain ⟨h1, h2⟩ := h
  exact ⟨h1, by omega⟩
theorem cls_lt (o : Oper) : cls o = 0 ∨ cls o = 1 ∨ cls o = 2 ∨ cls o = 3 := by
  unfold cls
  cases o.op <;> (try simp)
  rename_i c
  cases c.callee <;> (try simp)
  rename_i b
  cases b <;> (try simp)

/-- What is seen stands, and is as it was. -/
theorem fresh_of_stands {σ : AS} {cs : List Ac} {sn : Seen} {o : Oper} {tm : Tm} {i : Nat} {v : AV} {σ₁ : AS} (hr : resX P G ex base ops i o tm σ = some (v, σ₁)) (hn : noted G ops o tm σ = some sn) (hlt : ∀ id n, sn = .all id n → id < σ.next)
    (hst : sn.stands (runA cs σ) = true) (hlt2 : ∀ id n, sn = .size id n → id < σ.next) (hval : ∀ id n, sn = .all id n → ∃ ob, σ.objs.get id = some (n, ob)) : sn.fresh σ (runA cs σ) := by
  have hnext := next_run σ cs
  cases sn with
  | all id n =>
    obtain ⟨ob, hob⟩ := hval id n rfl
    obtain ⟨m, o', h1, h2, h3⟩ := objs_run hob cs
    simp only [Seen.stands, h1, beq_iff_eq] at hst
    have := h3 hst
    subst this
    have hid := hlt id n rfl
    simp only [Seen.fresh]
    rw [AS.get_of_objs (by omega) h1, AS.get_of_objs hid hob]
  | size id es =>
    simp only [Seen.stands] at hst
    split at hst
    · rename_i m e es' x rows hg
      have := beq_iff_eq.1 hst
      subst this
      have hid := hlt2 id es' rfl
      exact ⟨e, x, rows, AS.get_of_objs (by omega) hg⟩
    · cases hst

end Go.Ab
