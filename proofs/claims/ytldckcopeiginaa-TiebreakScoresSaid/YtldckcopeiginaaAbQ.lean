/- The acts of regions that draw, of ranges over functions, of all code. -/
import Derived.Test.YtldckcopeiginaaAbP
namespace Go.Ab
variable {P : Program} {G : Gl} {N : Nat} {σ σ' : AS}

theorem objs_on {id : Nat} {n : Nat} {o : AObj} (h : σ.objs.get id = some (n, o)) (c : Ac) : ∃ m o', (c.on σ).objs.get id = some (m, o') ∧ n ≤ m ∧ (m = n → o' = o) := by
  have put : ∀ (t : Tr (Nat × AObj)) (k : Nat) (x : AObj), t.get id = some (n, o) → ∃ m o', (putObj t k x).get id = some (m, o') ∧ n ≤ m ∧ (m = n → o' = o) := by
    intro t k x ht
    rw [putObj_get]
    by_cases e : k = id
    · subst e
      rw [if_pos rfl, ht]
      exact ⟨n + 1, x, rfl, Nat.le_succ n, fun h => by omega⟩
    · rw [if_neg e]
      exact ⟨n, o, ht, Nat.le_refl n, fun _ => rfl⟩
  obtain ⟨t, nx, s⟩ := σ
  cases c with
  | set j x => exact put t j x h
  | push x => cases s <;> exact put t _ x h
  | bump m => exact ⟨n, o, h, Nat.le_refl n, fun _ => rfl⟩
  | slot k => exact ⟨n, o, h, Nat.le_refl n, fun _ => rfl⟩
theorem objs_run {id : Nat} {n : Nat} {o : AObj} (h : σ.objs.get id = some (n, o)) (cs : List Ac) : ∃ m o', (runA cs σ).objs.get id = some (m, o') ∧ n ≤ m ∧ (m = n → o' = o) := by
  induction cs generalizing σ n o with
  | nil => exact ⟨n, o, h, Nat.le_refl n, fun _ => rfl⟩
  | cons c cs ih =>
    obtain ⟨m, o', h1, h2, h3⟩ := objs_on h c
    obtain ⟨m', o'', h4, h5, h6⟩ := ih h1
    exact ⟨m', o'', h4, Nat.le_trans h2 h5, fun e => by
      have e1 : m = n := by omega
      have e2 : m' = m := by omega
      rw [h6 e2, h3 e1]⟩

def Seen.has (σ : AS) : Seen → Prop
  | .all id _ => ∃ p, σ.objs.get id = some p
  | .size id _ => ∃ p, σ.objs.get id = some p
def RcOk (rc : Rec) (σ : AS) : Prop := ∀ k x, rc k = some x → x.has σ
theorem Seen.has_run {x : Seen} (h : x.has σ) (cs : List Ac) : x.has (runA cs σ) := by
  cases x <;>
  · obtain ⟨⟨n, o⟩, hp⟩ := h
    obtain ⟨m, o', h1, _⟩ := objs_run hp cs
    exact ⟨_, h1⟩
theorem Seen.stands_le {x : Seen} {σ₂ : AS} (h : x.has σ) (hl : Le N σ σ₂) : x.stands σ₂ = x.stands σ := by
  cases x <;>
  · obtain ⟨p, hp⟩ := h
    simp only [Seen.stands, hp, hl.objs _ _ hp]
theorem stands_le {rc : Rec} {σ₂ : AS} (h : RcOk rc σ) (hl : Le N σ σ₂) (fl : List Nat) : stands rc σ₂ fl = stands rc σ fl := by
  unfold stands
  congr 1
  funext k
  cases hk : rc k with
  | none => rfl
  | some x => exact Seen.stands_le (h k x hk) hl

theorem read_le {o : Oper} {ev : Operand → AV} {σ₂ : AS} {r : ANext × AS} (he : eff P o ev σ = some r) : (∀ N, Le N σ σ₂ → readOf o ev σ₂ = readOf o ev σ) ∧ ∀ x, readOf o ev σ = some x → x.has σ := by
  unfold readOf
  cases ho : o.op <;> try exact ⟨fun _ _ => rfl, fun x hx => by cases hx⟩
  case load t a =>
    simp only
    unfold eff at he
    rw [ho] at he
    simp only [withSt, Option.map_eq_some_iff] at he
    obtain ⟨v, hv, _⟩ := he
    cases ha : ev a <;> rw [ha] at hv <;> simp only [effLoad] at hv <;> try (cases hv; done)
    · rename_i id i f
      simp only [Option.bind_eq_some_iff] at hv
      obtain ⟨rows, hrows, _⟩ := hv
      unfold AS.rows at hrows
      split at hrows
      · rename_i e es x rws hg
        obtain ⟨n, hn⟩ := AS.objs_of_get hg
        refine ⟨fun N hl => by simp only [seenAll, idOf, hn, hl.objs _ _ hn], ?_⟩
        simp only [seenAll, idOf, hn]
        intro y hy; cases hy; exact ⟨_, hn⟩
      · cases hrows
    · exact ⟨fun _ _ => rfl, fun x hx => by simp [seenAll, idOf] at hx⟩
  case indexAddr t x ix =>
    simp only
    unfold eff at he
    rw [ho] at he
    simp only [withSt, Option.map_eq_some_iff] at he
    obtain ⟨v, hv, _⟩ := he
    cases hx : ev x <;> try exact ⟨fun _ _ => rfl, fun x hx => by simp [seenSl] at hx⟩
    rename_i id i n cap
    rw [hx] at hv
    unfold effIndexAddr at hv
    split at hv
    · split at hv
      · simp only at hv
        split at hv
        · rename_i hg
          obtain ⟨m, hm⟩ := AS.objs_of_get hg
          refine ⟨fun N hl => by simp only [seenSl, hm, hl.objs _ _ hm], ?_⟩
          simp only [seenSl, hm]
          intro y hy; cases hy; exact ⟨_, hm⟩
        · cases hv
      · cases hv
    · split at hv
      · split at hv
        · cases hv
        · cases hv
      · cases hv
    · cases hv
  case slice t x lo hi mx =>
    simp only
    unfold eff at he
    rw [ho] at he
    simp only [effSliceOp] at he
    cases hx : ev x <;> try exact ⟨fun _ _ => rfl, fun x hx => by simp [seenAll, idOf] at hx⟩
    · rw [hx] at he
      simp only [isRef, if_true, withSt, Option.map_eq_some_iff] at he
      obtain ⟨v, hv, _⟩ := he
      unfold effSlice at hv
      split at hv
      · cases hv
      · split at hv
        · split at hv <;> cases hv
        · cases hv
    · rename_i id i n cap
      rw [hx] at he
      simp only [isRef, if_true, withSt, Option.map_eq_some_iff] at he
      obtain ⟨v, hv, _⟩ := he
      unfold effSlice at hv
      split at hv
      · cases hv
      · split at hv
        · split at hv
          · simp only at hv
            split at hv
            · rename_i hg
              obtain ⟨m, hm⟩ := AS.objs_of_get hg
              refine ⟨fun N hl => by simp only [seenAll, idOf, hm, hl.objs _ _ hm], ?_⟩
              simp only [seenAll, idOf, hm]
              intro y hy; cases hy; exact ⟨_, hm⟩
            · cases hv
          · cases hv
        · cases hv

/-- What a step of a drawn region writes down. -/
noncomputable def noted (G : Gl) (ops : Array Oper) (o : Oper) (tm : Tm) (σ : AS) : Option Seen := if Region.wanted o (ayielded ops tm) then readOf o (evT G tm) σ else none

theorem noted_both {ex : Runner} {base i : Nat} {ops : Array Oper} {o : Oper} {tm : Tm} {v : AV} {σ₂ : AS} (h : resX P G ex base ops i o tm σ = some (v, σ')) :
    (∀ N, Le N σ σ₂ → noted G ops o tm σ₂ = noted G ops o tm σ) ∧ ∀ x, noted G ops o tm σ = some x → x.has σ := by
  unfold noted
  by_cases hw : Region.wanted o (ayielded ops tm) = true
  · simp only [hw, if_true]
    unfold resX at h
    by_cases hc : (cls o == 3) = true
    · have : ∀ τ, readOf o (evT G tm) τ = none := by
        intro τ
        unfold readOf
        unfold cls at hc
        cases ho : o.op <;> simp_all
      rw [this, this]
      exact ⟨fun _ _ => rfl, fun x hx => by cases hx⟩
    · rw [if_neg hc] at h
      obtain ⟨objs, next, slot⟩ := σ
      simp only [resO] at h
      rw [if_pos hw] at h
      have key : ∀ τ : AS, readOf o (evT G tm) τ = readOf o (evT G tm) ⟨τ.objs, τ.next, none⟩ := fun τ => by
        unfold readOf; cases o.op <;> rfl
      cases he : eff P o (evT G tm) ⟨objs, next, none⟩ with
      | none => rw [he] at h; cases h
      | some r =>
        have h1 := read_le (σ₂ := ⟨σ₂.objs, σ₂.next, none⟩) he
        refine ⟨fun N hl => ?_, fun x hx => ?_⟩
        · rw [key σ₂, key ⟨objs, next, slot⟩]
          exact h1.1 N (hl.on (.slot none) trivial)
        · rw [key ⟨objs, next, slot⟩] at hx
          have := h1.2 x hx
          cases x <;> exact this
  · simp only [hw]
    exact ⟨fun _ _ => rfl, fun x hx => by cases hx⟩
theorem noted_le {ex : Runner} {base i : Nat} {ops : Array Oper} {o : Oper} {tm : Tm} {v : AV} {σ₂ : AS} (h : resX P G ex base ops i o tm σ = some (v, σ')) (hl : Le N σ σ₂) : noted G ops o tm σ₂ = noted G ops o tm σ :=
  (noted_both h).1 N hl
theorem noted_has {ex : Runner} {base i : Nat} {ops : Array Oper} {o : Oper} {tm : Tm} {v : AV} (h : resX P G ex base ops i o tm σ = some (v, σ')) : ∀ x, noted G ops o tm σ = some x → x.has σ :=
  (noted_both (σ₂ := σ) h).2

theorem runD_acts {ex : Runner} (hx : Acting G ex) {base : Nat} {ops : Array Oper} : ∀ (pl : List (Nat × List Nat)) (tm : Tm) (defs : List Nat) (σ : AS) (rc : Rec) (tm' : Tm) (defs' : List Nat) (σ' : AS),
    runD P G ex base ops pl ⟨tm, defs, σ⟩ rc = some ⟨tm', defs', σ'⟩ → ∀ N, N ≤ σ.next → N ≤ base → RcOk rc σ →
    ∃ cs, okA N cs σ ∧ σ' = runA cs σ ∧ ∀ σ₂, Le N σ σ₂ → runD P G ex base ops pl ⟨tm, defs, σ₂⟩ rc = some ⟨tm', defs', runA cs σ₂⟩
  | [], tm, defs, σ, rc, tm', defs', σ', h, N, hN, hb, hrc => by cases h; exact ⟨[], trivial, rfl, fun _ _ => rfl⟩
  | (i, fl) :: pl, tm, defs, σ, rc, tm', defs', σ', h, N, hN, hb, hrc => by
    simp only [runD, stepD] at h
    cases ho : ops[i]? with
    | none => rw [ho] at h; cases h
    | some o =>
      rw [ho] at h
      simp only at h
      cases hr : resX P G ex base ops i o tm σ with
      | none => rw [hr] at h; cases h
      | some x =>
        obtain ⟨v, σ₁⟩ := x
        rw [hr] at h
        simp only at h
        by_cases hst : stands rc σ₁ fl = true
        · rw [if_pos hst] at h
          simp only at h
          obtain ⟨cs, c1, c2, c3⟩ := resX_acts (N := N) hx hr hN (fun _ => hb)
          subst c2
          have hnote := noted_has hr
          have hrc1 : RcOk rc (runA cs σ) := fun k x hk => Seen.has_run (hrc k x hk) cs
          have hrc' : RcOk (rc.upd i (noted G ops o tm σ)) (runA cs σ) := fun k x hk => by
            unfold Rec.upd at hk
            split at hk
            · exact Seen.has_run (hnote x hk) cs
            · exact hrc1 k x hk
          obtain ⟨ds, d1, d2, d3⟩ := runD_acts hx pl _ _ _ _ _ _ _ h N (Nat.le_trans hN (next_run σ cs)) hb hrc'
          refine ⟨cs ++ ds, okA_append c1 d1, by rw [runA_append]; exact d2, fun σ₂ hl => ?_⟩
          have hl1 := hl.run cs c1
          have hst2 : stands rc (runA cs σ₂) fl = true := by rw [stands_le hrc1 hl1]; exact hst
          have hn2 := noted_le (N := N) hr hl
          simp only [runD, stepD, ho, c3 σ₂ hl]
          rw [if_pos hst2]
          simp only
          rw [runA_append, show (if Region.wanted o (ayielded ops tm) = true then readOf o (evT G tm) σ₂ else none) = noted G ops o tm σ from hn2]
          exact d3 _ hl1
        · rw [if_neg hst] at h
          cases h

theorem range_acts' {ex : Runner} (hx : Acting G ex) {rd : Option Nat} {f : Operand} {params : Array Tmp} {assign body : Code} {tm tm' : Tm} {defs defs' : List Nat} {j : Option Code}
    (h : rangeWith P G ex rd f params assign body ⟨tm, defs, σ⟩ = some (j, ⟨tm', defs', σ'⟩)) (hN : N ≤ σ.next) :
    ∃ cs, okA N cs σ ∧ σ' = runA cs σ ∧ ∀ σ₂, Le N σ σ₂ → rangeWith P G ex rd f params assign body ⟨tm, defs, σ₂⟩ = some (j, ⟨tm', defs', runA cs σ₂⟩) := by
  have main : ∀ (d : Nat) (mark : List Nat) (σ₁ : AS), N ≤ σ₁.next → (match target (evT G tm f) [.yld σ₁.newId] with
      | some (.enter g args) => match callWith P G ex g args (σ₁.push (.loop { state := .ready, pending := none, tmps := tm, params, assign, body, defers := d })) with
        | some (_, σ₃) => match σ₃.get σ₁.newId with
          | some (.loop r) => if r.state = .busy then none else some (r.pending, (⟨tm, mark ++ defs, σ₃.set σ₁.newId (.loop { r with state := .exhausted })⟩ : Cfg))
          | _ => none
        | none => none
      | _ => none) = some (j, ⟨tm', defs', σ'⟩) →
      ∃ cs, okA N cs σ₁ ∧ σ' = runA cs σ₁ ∧ ∀ σ₂, Le N σ₁ σ₂ → (match target (evT G tm f) [.yld σ₂.newId] with
      | some (.enter g args) => match callWith P G ex g args (σ₂.push (.loop { state := .ready, pending := none, tmps := tm, params, assign, body, defers := d })) with
        | some (_, σ₃) => match σ₃.get σ₂.newId with
          | some (.loop r) => if r.state = .busy then none else some (r.pending, (⟨tm, mark ++ defs, σ₃.set σ₂.newId (.loop { r with state := .exhausted })⟩ : Cfg))
          | _ => none
        | none => none
      | _ => none) = some (j, ⟨tm', defs', runA cs σ₂⟩) := by
    intro d mark σ₁ hN₁ h
    split at h
    · rename_i g args ht
      split at h
      · rename_i u σ₃ hcw
        split at h
        · rename_i r hg
          split at h
          · cases h
          · rename_i hb
            cases h
            obtain ⟨cs, c1, c2, c3⟩ := call_acts (N := N) hx.1 hx.2 hcw (Nat.le_trans hN₁ (AS.next_push_le _ _))
            subst c2
            have k1 : okA N (Ac.push (.loop { state := .ready, pending := none, tmps := tm, params, assign, body, defers := d }) :: (cs ++ [Ac.set σ₁.newId (.loop { r with state := .exhausted })])) σ₁ :=
              ⟨trivial, okA_append c1 ⟨⟨_, hg⟩, trivial⟩⟩
            refine ⟨_, k1, by simp only [runA, runA_append, Ac.on], fun σ₂ hl => ?_⟩
            have hl1 := hl.push (.loop { state := .ready, pending := none, tmps := tm, params, assign, body, defers := d })
            have hl2 := hl1.run cs c1
            rw [hl.newId, ht]
            simp only [c3 _ hl1, hl2.get _ _ hg]
            rw [if_neg hb]
            simp only [runA, runA_append, Ac.on]
        · cases h
      · cases h
    · cases h
  unfold rangeWith at h ⊢
  cases rd with
  | none =>
    simp only at h ⊢
    obtain ⟨cs, c1, c2, c3⟩ := main _ _ _ (Nat.le_trans hN (AS.next_push_le σ .defr)) h
    refine ⟨.push .defr :: cs, ⟨trivial, c1⟩, c2, fun σ₂ hl => ?_⟩
    have := c3 _ (hl.push .defr)
    rw [hl.newId]
    exact this
  | some l =>
    simp only at h ⊢
    cases hg : σ.get l with
    | none => rw [hg] at h; cases h
    | some o =>
      rw [hg] at h
      cases o with
      | loop r =>
        simp only at h
        obtain ⟨cs, c1, c2, c3⟩ := main _ _ _ hN h
        refine ⟨cs, c1, c2, fun σ₂ hl => ?_⟩
        rw [hl.get _ _ hg]
        exact c3 _ hl
      | _ => cases h

theorem step_acts {ex : Runner} (hx : Acting G ex) : ExActs (fun rd c s => execStep P G ex rd c s) := by
  intro rd c tm defs σ e tm' defs' σ' h N hN
  have same : ∀ {e' : AEx}, some (e', (⟨tm, defs, σ⟩ : Cfg)) = some (e, ⟨tm', defs', σ'⟩) → (∀ σ₂, execStep P G ex rd c ⟨tm, defs, σ₂⟩ = some (e', ⟨tm, defs, σ₂⟩)) →
      ∃ cs, okA N cs σ ∧ σ' = runA cs σ ∧ ∀ σ₂, Le N σ σ₂ → execStep P G ex rd c ⟨tm, defs, σ₂⟩ = some (e, ⟨tm', defs', runA cs σ₂⟩) := fun h hs => by
    cases h; exact ⟨[], trivial, rfl, fun σ₂ _ => hs σ₂⟩
  cases c with
  | skip => exact same h fun _ => rfl
  | label l => exact same h fun _ => rfl
  | exit id => exact same h fun _ => rfl
  | ret => exact same h fun _ => rfl
  | goto l => cases h
  | refuse w => cases h
  | scope b => exact hx.2 _ _ _ _ _ _ _ _ _ h N hN
  | cond x a b =>
    simp only [execStep, stCond] at h ⊢
    split at h
    · exact hx.2 _ _ _ _ _ _ _ _ _ h N hN
    · cases h
  | seq a b =>
    simp only [execStep, stSeq] at h ⊢
    cases h1 : ex rd a ⟨tm, defs, σ⟩ with
    | none => rw [h1] at h; cases h
    | some x =>
      obtain ⟨e1, tm1, defs1, σ1⟩ := x
      rw [h1] at h
      obtain ⟨cs, c1, c2, c3⟩   := hx.2 _ _ _ _ _ _ _ _ _ h1 N hN
      subst c2
      cases e1 with
      | normal =>
        obtain ⟨ds, d1, d2, d3⟩   := hx.2 _ _ _ _ _ _ _ _ _ h N (Nat.le_trans hN (next_run σ cs))
        exact ⟨cs ++ ds, okA_append c1 d1, by rw [runA_append]; exact d2, fun σ₂ hl => by rw [c3 σ₂ hl, runA_append]; exact d3 _ (hl.run cs c1)⟩
      | exit id => cases h; exact ⟨cs, c1, rfl, fun σ₂ hl => by rw [c3 σ₂ hl]⟩
      | ret => cases h; exact ⟨cs, c1, rfl, fun σ₂ hl => by rw [c3 σ₂ hl]⟩
  | block id b =>
    simp only [execStep, stBlock] at h ⊢
    cases h1 : ex rd b ⟨tm, defs, σ⟩ with
    | none => rw [h1] at h; cases h
    | some x =>
      obtain ⟨e1, tm1, defs1, σ1⟩ := x
      rw [h1] at h
      obtain ⟨cs, c1, c2, c3⟩   := hx.2 _ _ _ _ _ _ _ _ _ h1 N hN
      subst c2
      cases e1 with
      | normal => cases h; exact ⟨cs, c1, rfl, fun σ₂ hl => by rw [c3 σ₂ hl]⟩
      | exit id' => cases h; exact ⟨cs, c1, rfl, fun σ₂ hl => by rw [c3 σ₂ hl]⟩
      | ret => cases h; exact ⟨cs, c1, rfl, fun σ₂ hl => by rw [c3 σ₂ hl]⟩
  | loop b =>
    simp only [execStep, stLoop] at h ⊢
    cases h1 : ex rd b ⟨tm, defs, σ⟩ with
    | none => rw [h1] at h; cases h
    | some x =>
      obtain ⟨e1, tm1, defs1, σ1⟩ := x
      rw [h1] at h
      obtain ⟨cs, c1, c2, c3⟩   := hx.2 _ _ _ _ _ _ _ _ _ h1 N hN
      subst c2
      cases e1 with
      | normal =>
        obtain ⟨ds, d1, d2, d3⟩   := hx.2 _ _ _ _ _ _ _ _ _ h N (Nat.le_trans hN (next_run σ cs))
        exact ⟨cs ++ ds, okA_append c1 d1, by rw [runA_append]; exact d2, fun σ₂ hl => by rw [c3 σ₂ hl, runA_append]; exact d3 _ (hl.run cs c1)⟩
      | exit id => cases h; exact ⟨cs, c1, rfl, fun σ₂ hl => by rw [c3 σ₂ hl]⟩
      | ret => cases h; exact ⟨cs, c1, rfl, fun σ₂ hl => by rw [c3 σ₂ hl]⟩
  | region id ops draw =>
    cases draw with
    | false =>
      simp only [execStep, stRegion, Bool.false_eq_true, if_false] at h ⊢
      cases h1 : runL P G ex ops ops.toList ⟨tm, defs, σ⟩ with
      | none => rw [h1] at h; cases h
      | some x =>
        obtain ⟨tm1, defs1, σ1⟩ := x
        rw [h1] at h
        cases h
        obtain ⟨cs, c1, c2, c3⟩ := runL_acts hx _ _ _ _ _ _ _ h1 N hN
        exact ⟨cs, c1, c2, fun σ₂ hl => by rw [c3 σ₂ hl]⟩
    | true =>
      simp only [execStep, stDraw, if_true] at h ⊢
      split at h
      · rename_i hok
        obtain ⟨objs, next, slot⟩ := σ
        simp only at h
        cases h1 : runD P G ex next ops (plan ops) ⟨tm, defs, ⟨objs, next + ops.size, none⟩⟩ (fun _ => none) with
        | none => rw [h1] at h; cases h
        | some x =>
          obtain ⟨tm1, defs1, σ1⟩ := x
          rw [h1] at h
          cases h
          obtain ⟨cs, c1, c2, c3⟩ := runD_acts hx _ _ _ _ _ _ _ _ h1 N (Nat.le_trans hN (Nat.le_add_right _ _)) hN (fun k x hk => by cases hk)
          refine ⟨.bump ops.size :: cs, ⟨trivial, c1⟩, c2, fun σ₂ hl => ?_⟩
          have hl1 := hl.on (.bump ops.size) trivial
          have hnext := hl.next
          obtain ⟨o2, n2, s2⟩ := σ₂
          simp only at hnext
          subst hnext
          have := c3 _ hl1
          simp only [Ac.on] at this
          rw [if_pos hok]
          simp only [this]
          rfl
      · cases h
  | rangeFunc f params assign body =>
    simp only [execStep, stRange] at h ⊢
    cases h1 : rangeWith P G ex rd f params assign body ⟨tm, defs, σ⟩ with
    | none => rw [h1] at h; cases h
    | some x =>
      obtain ⟨j, tm1, defs1, σ1⟩ := x
      rw [h1] at h
      obtain ⟨cs, c1, c2, c3⟩ := range_acts' hx h1 hN
      subst c2
      cases j with
      | none => cases h; exact ⟨cs, c1, rfl, fun σ₂ hl => by rw [c3 σ₂ hl]⟩
      | some c =>
        obtain ⟨ds, d1, d2, d3⟩   := hx.2 _ _ _ _ _ _ _ _ _ h N (Nat.le_trans hN (next_run σ cs))
        exact ⟨cs ++ ds, okA_append c1 d1, by rw [runA_append]; exact d2, fun σ₂ hl => by rw [c3 σ₂ hl, runA_append]; exact d3 _ (hl.run cs c1)⟩

theorem exec_acts (ho : OrcActs G) (n : Nat) : ExActs (exec P G n) := by
  induction n with
  | zero => intro rd c tm defs σ e tm' defs' σ' h; cases h
  | succ n ih => exact step_acts ⟨ho, ih⟩

end Go.Ab
