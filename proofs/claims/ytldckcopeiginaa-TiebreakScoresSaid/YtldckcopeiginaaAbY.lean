/- All code, by fuel: the abstract run is the machine's. -/
import Derived.Test.YtldckcopeiginaaAbX
namespace Go.Ab
variable {P : Program} {G : Gl} {ex : Runner} {B : World}

theorem target_split {M : Mem} {ρ : Rho} {f : AV} {cf : Value} {args : List AV} {cargs : Array Value} {g : FuncId} {as : List AV} (hf : Conc M ρ f cf) (ha : Concs M ρ args cargs.toList) (h : target f args = some (.enter g as)) :
    ∃ (d : Deferred) (vs : Array Value), Concs M ρ as vs.toList ∧ (∀ w, (Deferred.ofValue cf cargs).run P w = .ok d w) ∧ (∀ w, (invoke d.target d.args).run P w = (callFunc g vs).run P w) := by
  unfold target at h
  split at h
  · rename_i g' first cap
    cases h
    cases hf
    exact ⟨_, first ++ cargs ++ cap, by simp only [Array.toList_append]; exact ((Concs.ofS _).append ha).append (Concs.ofS _), fun w => rfl, fun w => rfl⟩
  · rename_i g' first cap
    cases h
    cases hf with
    | fn h1 h2 =>
      rename_i vs ws
      exact ⟨_, vs ++ cargs ++ ws, by simp only [Array.toList_append]; exact (h1.append ha).append h2, fun w => rfl, fun w => rfl⟩
  · cases h
  · cases h

theorem run_enterOuter (fn : FuncId) (tmps : Array Value) (ps : Array Tmp) (assign body : Code) (w : World) :
    (Instr.enterLoop fn tmps ps assign body none).run P w = .ok (w.heap.size + 1, [{ target := .collected w.heap.size, args := #[] }])
        ((w.alloc (.deferred (some []))).alloc (.loop { state := .ready, pending := none, fn, tmps, params := ps, assign, body, defers := w.heap.size })) := by
  unfold Instr.enterLoop
  simp only [Sem.run_bind, run_newObj_alloc, Result.andThen, Sem.run_pure, World.size_alloc]
theorem run_enterInner {w : World} {l₀ : Nat} {r₀ : Loop} (h : w.heap[l₀]? = some (.loop r₀)) (fn : FuncId) (tmps : Array Value) (ps : Array Tmp) (assign body : Code) :
    (Instr.enterLoop fn tmps ps assign body (some l₀)).run P w = .ok (w.heap.size, []) (w.alloc (.loop { state := .ready, pending := none, fn, tmps, params := ps, assign, body, defers := r₀.defers })) := by
  unfold Instr.enterLoop
  simp only [Sem.run_bind, run_getLoop h, run_newObj_alloc, Result.andThen, Sem.run_pure]
theorem run_endLoop' {w : World} {b : Nat} {r : Loop} (h : w.heap[b]? = some (.loop r)) (hb : r.state ≠ .busy) :
    (Instr.endLoop b).run P w = .ok r.pending { w with heap := w.heap.setIfInBounds b (.loop { r with state := .exhausted }) } := by
  unfold Instr.endLoop
  rw [Sem.run_bind, run_getLoop h]
  simp only [Result.andThen_ok]
  have : (r.state == .busy) = false := by simpa using hb
  simp only [this, Bool.false_eq_true, if_false, Sem.run_bind, run_setObj h (by simp), Result.andThen_ok, Sem.run_pure]

theorem DefsRel.append {ρ : Rho} : ∀ {ds : List Nat} {xs : List Deferred} {es : List Nat} {ys : List Deferred}, DefsRel ρ ds xs → DefsRel ρ es ys → DefsRel ρ (ds ++ es) (xs ++ ys)
  | [], [], _, _, _, h => h
  | [], _ :: _, _, _, h, _ => h.elim
  | _ :: _, [], _, _, h, _ => h.elim
  | _ :: _, _ :: _, _, _, ⟨h1, h2⟩, h => ⟨h1, h2.append h⟩

theorem range_sound (hs : Sound P G ex) (hN : NamesOk P) {rd : Option Nat} {f : Operand} {params : Array Tmp} {assign body : Code} {s : Cfg} {e : AEx} {s' : Cfg} (h : stRange P G ex rd f params assign body s = some (e, s')) {ρ : Rho} {a : Act} {w : World} (rb : Option Nat) (n : Nat)
    (hG : GlOk (memOf B) ρ G) (hrd : RdOk ρ rd rb) (hrel : CfgRel B ρ s a w) {Q : Exit → Act → World → Prop} (hQ : ∀ ρ' a' w', ρ.le ρ' → CfgRel B ρ' s' a' w' → Q (exOf e) a' w') : (Code.rangeFunc f params assign body).wpIn (fenceOf rb) n P Q a w := by
  simp only [stRange] at h
  refine wpIn_rangeFunc fun fn _ => ?_
  rw [fenceOf_round]
  -- what is common: the record has been laid
  have main : ∀ (d : Nat) (mark : List Nat) (σ₁ : AS) (ρ₁ : Rho) (w₁ : World) (dl : Loc) (marks : List Deferred), ρ.le ρ₁ → Rep B ρ₁ σ₁ w₁ → ρ₁ d = some dl → DefsRel ρ₁ mark marks →
      (match (match target (evT G s.tmps f) [.yld σ₁.newId] with
        | some (.enter g args) => match callWith P G ex g args (σ₁.push (.loop { state := .ready, pending := none, tmps := s.tmps, params, assign, body, defers := d })) with
          | some (_, σ₃) => match σ₃.get σ₁.newId with
            | some (.loop r) => if r.state = .busy then none else some (r.pending, ({ tmps := s.tmps, defs := mark ++ s.defs, st := σ₃.set σ₁.newId (.loop { r with state := .exhausted }) } : Cfg))
            | _ => none
          | none => none
        | _ => none) with
      | some (none, s') => some (AEx.normal, s')
      | some (some c, s') => ex rd c s'
      | none => none) = some (e, s') →
      ∃ (dd : Deferred) (w₁' : World) (g : FuncId) (args : Array Value) (w₂ : World),
        (resolve a.eval (rangeCall f w₁.heap.size) 0).run P (w₁.alloc (.loop { state := .ready, pending := none, fn, tmps := a.tmps, params, assign, body, defers := dl.blk })) = .ok dd w₁' ∧
        (∀ f', Target.leads P w₁' dd.target dd.args = some f' → (fenceOf rb).fn f') ∧ (invoke dd.target dd.args).run P w₁' = .ok (.enter g args) w₂ ∧ ((fenceOf rb).depth.isSome = true → 1 ≤ n) ∧
        CallsIn (fenceOf rb) (n - 1) P g args w₂ (rangePost (fenceOf rb) n P w₁.heap.size Q { a with defers := marks ++ a.defers }) := by
    intro d mark σ₁ ρ₁ w₁ dl marks hle₁ hrep₁ hd hmarks hh
    have hloc : (⟨w₁.heap.size, 0, 0⟩ : Loc).blk = w₁.heap.size := rfl
    have hrep₂ : Rep B (ρ₁.ext σ₁.newId ⟨w₁.heap.size, 0, 0⟩) (σ₁.push (.loop { state := .ready, pending := none, tmps := s.tmps, params, assign, body, defers := d }))
        (w₁.alloc (.loop { state := .ready, pending := none, fn, tmps := a.tmps, params, assign, body, defers := dl.blk })) := by
      refine hrep₁.push rfl rfl rfl rfl rfl ⟨fn, a.tmps, dl, ?_, hrep₁.le_ext _ _ _ hd, Array.getElem?_push_size⟩
      exact (hrel.tmps.mono hle₁).mono (hrep₁.le_ext _)
    have hle₂ := hrep₁.le_ext ⟨w₁.heap.size, 0, 0⟩
    have hl₂ := Rho.ext_self ρ₁ σ₁.newId ⟨w₁.heap.size, 0, 0⟩
    generalize ρ₁.ext σ₁.newId ⟨w₁.heap.size, 0, 0⟩ = ρ₂ at hrep₂ hle₂ hl₂
    have hle := Rho.le_trans hle₁ hle₂
    have hev : Conc (memOf B) ρ₂ (evT G s.tmps f) (a.eval f) := (hrel.tmps.mono hle).ev (hG.mono hle) f
    have hyl : Concs (memOf B) ρ₂ [.yld σ₁.newId] (#[Value.func (.yield w₁.heap.size) #[] #[]]).toList := .cons (.yld hl₂) .nil
    have hres : ∀ (dd : Deferred) (W : World), (∀ w, (Deferred.ofValue (a.eval f) #[Value.func (.yield w₁.heap.size) #[] #[]]).run P w = .ok dd w) → (resolve a.eval (rangeCall f w₁.heap.size) 0).run P W = .ok dd W := fun dd W h1 => by
      have : resolve a.eval (rangeCall f w₁.heap.size) 0 = Deferred.ofValue (a.eval f) #[Value.func (.yield w₁.heap.size) #[] #[]] := by simp [resolve, rangeCall, Act.eval]
      rw [this]; exact h1 W
    split at hh
    case h_3 => cases hh
    case h_1 s'' hi =>
      split at hi
      · rename_i g as ht
        split at hi
        · rename_i u σ₃ hcw
          split at hi
          · rename_i r hg
            split at hi
            · cases hi
            · rename_i hb
              simp only [Option.some.injEq, Prod.mk.injEq] at hi hh
              obtain ⟨hpend, rfl⟩ := hi
              obtain ⟨rfl, rfl⟩ := hh
              obtain ⟨dd, vs, hvs, h1, h2⟩ := target_split (P := P) hev hyl ht
              obtain ⟨fnn, hf, hbd⟩ := callWith_body hs.orc hcw
              refine ⟨dd, _, g, vs, w₁.alloc (.loop { state := .ready, pending := none, fn, tmps := a.tmps, params, assign, body, defers := dl.blk }), hres _ _ h1, fun f' _ => fenceOf_fn rb f', ?_, fenceOf_depth rb, ?_⟩
              · rw [h2]; exact callFunc_run hN hf hbd vs _
              · refine callsIn_fence (call_sound hs (hG.mono hle) hrep₂ hvs hcw n ?_)
                intro ρ₃ y w₃ hle₃ _ hrep₃
                have hl₃ := hle₃ _ _ hl₂
                obtain ⟨fn₃, arr₃, d₃, ht₃, hd₃, hheap₃⟩ := hrep₃.obj _ _ _ hg hl₃
                have hlt₃ := (hrep₃.new _ _ hl₃).2
                refine ⟨none, _, by rw [← hpend]; exact run_endLoop' hheap₃ hb, ?_⟩
                refine hQ ρ₃ _ _ (Rho.le_trans hle hle₃) ⟨(hrel.tmps.mono hle).mono hle₃, ((hmarks.mono hle₂).mono hle₃).append ((hrel.defs.mono hle).mono hle₃), ?_⟩
                exact hrep₃.setObj (o' := .loop { r with state := .exhausted }) hg rfl hl₃ ⟨fn₃, arr₃, d₃, ht₃, hd₃, heap_set hlt₃⟩
          · cases hi
        · cases hi
      · cases hi
    case h_2 c s'' hi =>
      split at hi
      · rename_i g as ht
        split at hi
        · rename_i u σ₃ hcw
          split at hi
          · rename_i r hg
            split at hi
            · cases hi
            · rename_i hb
              simp only [Option.some.injEq, Prod.mk.injEq] at hi
              obtain ⟨hpend, rfl⟩ := hi
              obtain ⟨dd, vs, hvs, h1, h2⟩ := target_split (P := P) hev hyl ht
              obtain ⟨fnn, hf, hbd⟩ := callWith_body hs.orc hcw
              refine ⟨dd, _, g, vs, w₁.alloc (.loop { state := .ready, pending := none, fn, tmps := a.tmps, params, assign, body, defers := dl.blk }), hres _ _ h1, fun f' _ => fenceOf_fn rb f', ?_, fenceOf_depth rb, ?_⟩
              · rw [h2]; exact callFunc_run hN hf hbd vs _
              · refine callsIn_fence (call_sound hs (hG.mono hle) hrep₂ hvs hcw n ?_)
                intro ρ₃ y w₃ hle₃ _ hrep₃
                have hl₃ := hle₃ _ _ hl₂
                obtain ⟨fn₃, arr₃, d₃, ht₃, hd₃, hheap₃⟩ := hrep₃.obj _ _ _ hg hl₃
                have hlt₃ := (hrep₃.new _ _ hl₃).2
                refine ⟨some c, _, by rw [← hpend]; exact run_endLoop' hheap₃ hb, ?_⟩
                have hle4 := Rho.le_trans hle hle₃
                refine hs.code rd c _ e s' hh B ρ₃ _ _ rb n Q (hG.mono hle4) (hrd.mono hle4) ⟨(hrel.tmps.mono hle).mono hle₃, ((hmarks.mono hle₂).mono hle₃).append ((hrel.defs.mono hle).mono hle₃), ?_⟩ (fun ρ' a' w' hle' hrel' => hQ ρ' a' w' (Rho.le_trans hle4 hle') hrel')
                exact hrep₃.setObj (o' := .loop { r with state := .exhausted }) hg rfl hl₃ ⟨fn₃, arr₃, d₃, ht₃, hd₃, heap_set hlt₃⟩
          · cases hi
        · cases hi
      · cases hi
  cases rd with
  | none =>
    cases rb with
    | some b => exact hrd.elim
    | none =>
      have hrep₁ : Rep B (ρ.ext s.st.newId ⟨w.heap.size, 0, 0⟩) (s.st.push .defr) (w.alloc (.deferred (some []))) := hrel.rep.push rfl rfl rfl rfl rfl Array.getElem?_push_size
      have hself := Rho.ext_self ρ s.st.newId ⟨w.heap.size, 0, 0⟩
      obtain ⟨dd, w₁', g, args, w₂, k1, k2, k3, k4, k5⟩ := main s.st.newId [s.st.newId] (s.st.push .defr) _ _ _ [{ target := .collected w.heap.size, args := #[] }] (hrel.rep.le_ext _) hrep₁ hself ⟨⟨_, hself, rfl⟩, trivial⟩ h
      have hsz : (w.alloc (.deferred (some []))).heap.size = w.heap.size + 1 := World.size_alloc _ _
      rw [hsz] at k1 k5
      exact ⟨_, _, _, dd, w₁', g, args, w₂, run_enterOuter fn a.tmps params assign body w, k1, k2, k3, k4, k5⟩
  | some l =>
    cases rb with
    | none => exact hrd.elim
    | some b =>
      obtain ⟨loc, hl, rfl⟩ := hrd
      simp only [rangeWith] at h
      cases hg : s.st.get l with
      | none => rw [hg] at h; cases h
      | some o =>
        rw [hg] at h
        cases o with
        | loop r =>
          obtain ⟨fn₀, arr, d, ht, hd, hheap⟩ := hrel.rep.obj _ _ _ hg hl
          obtain ⟨dd, w₁', g, args, w₂, k1, k2, k3, k4, k5⟩ := main r.defers [] s.st ρ w d [] (Rho.le_refl ρ) hrel.rep hd trivial h
          exact ⟨_, _, _, dd, w₁', g, args, w₂, run_enterInner hheap fn a.tmps params assign body, k1, k2, k3, k4, k5⟩
        | _ => cases h

theorem loop_wp {F : Fence} {n : Nat} {c : Code} {Q : Exit → Act → World → Prop} {a : Act} {w : World} (h : LoopWp F n P c Q a w) : (Code.loop c).wpIn F n P Q a w := fun b k cs hro hb hr =>
  let ⟨e, a', w', hq, harr⟩ := h b k cs hro hb hr
  ⟨e, a', w', hq, .of_steps (.one (fenced_calm hb hr rfl) stepR_loop) harr⟩

/-- A round of a loop, and what comes behind it. -/
theorem round_wp {F : Fence} {n : Nat} {c : Code} {Q : Exit → Act → World → Prop} {a : Act} {w : World} (h : c.wpIn F n P (Exit.then (LoopWp F n P c Q) Q) a w) : LoopWp F n P c Q a w := by
  intro b k cs hro hb hr
  obtain ⟨e, a₁, w₁, hq, harr⟩ := h b (.inLoop c :: k) cs hro hb hr
  cases e with
  | normal =>
    obtain ⟨e₂, a₂, w₂, hq₂, harr₂⟩ := hq b k cs hro hb hr
    exact ⟨e₂, a₂, w₂, hq₂, .of_steps (StepsIn.trans harr (.one (fenced_calm hb hr rfl) stepR_inLoop)) harr₂⟩
  | exit id => exact ⟨_, a₁, w₁, hq, .pass (x := .inLoop c) rfl (fun _ _ => .inl (by simp)) harr⟩
  | goto l => exact ⟨_, a₁, w₁, hq, .pass (x := .inLoop c) rfl (fun _ _ => .inl (by simp)) harr⟩
  | ret => exact ⟨_, a₁, w₁, hq, .pass (x := .inLoop c) rfl (fun _ _ => .inl (by simp)) harr⟩
  | panic ch => exact ⟨_, a₁, w₁, hq, .pass (x := .inLoop c) rfl (fun _ _ => .inl (by simp)) harr⟩
  | outgrown => exact ⟨_, a₁, w₁, hq, .pass (x := .inLoop c) rfl (fun _ _ => .inl (by simp)) harr⟩

theorem stepR_scope' {b : Frame} {a : Act} {k : List Item} {cs : List Frame} {w : World} {c : Code} : step P (lone (b.atR a (.code (.scope c) :: k)) cs w) = .next (lone (b.atR a (.code c :: .inScope c :: k)) cs w) :=
  step_lone_go (by simp [stepG, stepG.exec, Frame.atR])
theorem stepR_inScope' {b : Frame} {a : Act} {k : List Item} {cs : List Frame} {w : World} {c : Code} : step P (lone (b.atR a (.inScope c :: k)) cs w) = .next (lone (b.atR a k) cs w) :=
  step_lone_go (by simp [stepG, stepG.exec, Frame.atR])
theorem wpIn_scope' {F : Fence} {n : Nat} {c : Code} {Q : Exit → Act → World → Prop} {a : Act} {w : World} (h : c.wpIn F n P (fun e a w => (∀ l, e ≠ .goto l) ∧ Q e a w) a w) : (Code.scope c).wpIn F n P Q a w := by
  intro b k cs hro hb hr
  have h0 : (lone (b.atR a (.code (.scope c) :: k)) cs w).fenced P F := fenced_calm hb hr rfl
  obtain ⟨e, a₁, w₁, ⟨hne, hq⟩, harr⟩ := h b (.inScope c :: k) cs hro hb hr
  cases e with
  | normal => exact ⟨.normal, a₁, w₁, hq, .head h0 stepR_scope' (StepsIn.trans harr (.one (fenced_calm hb hr rfl) stepR_inScope'))⟩
  | exit id' =>
    have hx : exitTo id' (.inScope c :: k) = exitTo id' k := by simp [exitTo]
    exact ⟨.exit id', a₁, w₁, hq, fun k' hk => .head h0 stepR_scope' (harr.1 k' (by rw [hx]; exact hk)),
      fun hr' hk => let ⟨k₁, h1, h2⟩ := harr.2 hr' (by rw [hx]; exact hk); ⟨k₁, h1, .head h0 stepR_scope' h2⟩⟩
  | goto l => exact absurd rfl (hne l)
  | ret => exact ⟨_, a₁, w₁, hq, .of_steps (.one h0 stepR_scope') harr⟩
  | panic ch => exact ⟨_, a₁, w₁, hq, .of_steps (.one h0 stepR_scope') harr⟩
  | outgrown => exact ⟨_, a₁, w₁, hq, .of_steps (.one h0 stepR_scope') harr⟩

/-- What a program must be. -/
structure Fit (P : Program) : Prop where
  names : NamesOk P
  mixed : P.follows .mixedOrders = true

theorem stLoop_some {rd : Option Nat} {b : Code} {s : Cfg} {e : AEx} {s' : Cfg} (h : stLoop ex rd b s = some (e, s')) :
    (∃ s₁, ex rd b s = some (.normal, s₁) ∧ ex rd (.loop b) s₁ = some (e, s')) ∨ (e ≠ .normal ∧ ex rd b s = some (e, s')) := by
  unfold stLoop at h
  split at h
  · rename_i s₁ h1; exact .inl ⟨s₁, h1, h⟩
  · rename_i h1
    refine .inr ⟨fun he => ?_, h⟩
    subst he
    exact h1 _ h

theorem loop_sound (hs : Sound P G ex) {rd : Option Nat} {c : Code} {s : Cfg} {e : AEx} {s' : Cfg} (h : stLoop ex rd c s = some (e, s')) {ρ : Rho} {a : Act} {w : World} (rb : Option Nat) (m : Nat) {Q : Exit → Act → World → Prop} (hG : GlOk (memOf B) ρ G) (hrd : RdOk ρ rd rb)
    (hrel : CfgRel B ρ s a w) (hQ : ∀ ρ' a' w', ρ.le ρ' → CfgRel B ρ' s' a' w' → Q (exOf e) a' w') : LoopWp (fenceOf rb) m P c Q a w := by
  refine round_wp ?_
  rcases stLoop_some h with ⟨s₁, h1, h2⟩ | ⟨hne, h1⟩
  · refine hs.code rd c s .normal s₁ h1 B ρ a w rb m _ hG hrd hrel fun ρ₁ a₁ w₁ hle₁ hrel₁ => ?_
    exact hs.loop rd c s₁ e s' h2 B ρ₁ a₁ w₁ rb m Q (hG.mono hle₁) (hrd.mono hle₁) hrel₁ fun ρ₂ a₂ w₂ hle₂ hrel₂ => hQ ρ₂ a₂ w₂ (Rho.le_trans hle₁ hle₂) hrel₂
  · refine hs.code rd c s e s' h1 B ρ a w rb m _ hG hrd hrel fun ρ₁ a₁ w₁ hle₁ hrel₁ => ?_
    have := hQ ρ₁ a₁ w₁ hle₁ hrel₁
    cases e with
    | normal => exact absurd rfl hne
    | exit id => exact this
    | ret => exact this

theorem step_sound (hP : Fit P) (hs : Sound P G ex) (hx : Acting G ex) : Sound P G (fun rd c s => execStep P G ex rd c s) where
  orc := hs.orc
  loop := fun rd c s e s' h B ρ a w rb m Q hG hrd hrel hQ => loop_sound hs h rb m hG hrd hrel hQ
  code := by
    intro rd c s e s' h B ρ a w rb m Q hG hrd hrel hQ
    cases c with
    | skip => cases h; exact wpIn_skip (hQ ρ a w (Rho.le_refl ρ) hrel)
    | label l => cases h; exact wpIn_label (hQ ρ a w (Rho.le_refl ρ) hrel)
    | exit id => cases h; exact wpIn_exit (hQ ρ a w (Rho.le_refl ρ) hrel)
    | ret => cases h; exact wpIn_ret (hQ ρ a w (Rho.le_refl ρ) hrel)
    | goto l => cases h
    | refuse r => cases h
    | scope b => exact wpIn_scope' (hs.code rd b s e s' h B ρ a w rb m _ hG hrd hrel fun ρ' a' w' hle hr => ⟨(fun l he => by cases e <;> cases he), hQ ρ' a' w' hle hr⟩)
    | cond x y z =>
      simp only [execStep, stCond] at h
      split at h
      · rename_i t ht
        have hev := hrel.tmps.ev hG x
        rw [ht] at hev
        exact wpIn_cond (Concs.s_eq (vs := [.bool t]) (.cons hev .nil) |> fun h => (List.cons.inj h).1) (hs.code rd _ s e s' h B ρ a w rb m Q hG hrd hrel hQ)
      · cases h
    | seq x y =>
      simp only [execStep, stSeq] at h
      refine wpIn_seq ?_
      split at h
      · rename_i s₁ h1
        exact hs.code rd x s .normal s₁ h1 B ρ a w rb m _ hG hrd hrel fun ρ₁ a₁ w₁ hle₁ hrel₁ =>
          hs.code rd y s₁ e s' h B ρ₁ a₁ w₁ rb m Q (hG.mono hle₁) (hrd.mono hle₁) hrel₁ fun ρ₂ a₂ w₂ hle₂ hrel₂ => hQ ρ₂ a₂ w₂ (Rho.le_trans hle₁ hle₂) hrel₂
      · rename_i hne
        refine hs.code rd x s e s' h B ρ a w rb m _ hG hrd hrel fun ρ₁ a₁ w₁ hle₁ hrel₁ => ?_
        have := hQ ρ₁ a₁ w₁ hle₁ hrel₁
        cases e with
        | normal => exact absurd h (hne _)
        | exit id => exact this
        | ret => exact this
    | block id b =>
      simp only [execStep, stBlock] at h
      refine wpIn_block ?_
      split at h
      · rename_i id' s₁ h1
        simp only [Option.some.injEq, Prod.mk.injEq] at h
        obtain ⟨rfl, rfl⟩ := h
        refine hs.code rd b s (.exit id') s₁ h1 B ρ a w rb m _ hG hrd hrel fun ρ₁ a₁ w₁ hle₁ hrel₁ => ?_
        have := hQ ρ₁ a₁ w₁ hle₁ hrel₁
        simp only [exOf, Exit.inBlock]
        by_cases hid : id' = id
        · rw [if_pos hid] at this ⊢; exact this
        · rw [if_neg hid] at this ⊢; exact this
      · rename_i hne
        refine hs.code rd b s e s' h B ρ a w rb m _ hG hrd hrel fun ρ₁ a₁ w₁ hle₁ hrel₁ => ?_
        have := hQ ρ₁ a₁ w₁ hle₁ hrel₁
        cases e with
        | normal => exact this
        | exit id' => exact absurd h (hne _ _)
        | ret => exact this
    | loop b => exact loop_wp (loop_sound hs h rb m hG hrd hrel hQ)
    | region id ops draw =>
      cases draw with
      | true => exact draw_wp hs hx hP.names hP.mixed h rb m hG hrel hQ
      | false =>
        simp only [execStep, stRegion, Bool.false_eq_true, if_false] at h
        split at h
        · rename_i s₁ h1
          simp only [Option.some.injEq, Prod.mk.injEq] at h
          obtain ⟨rfl, rfl⟩ := h
          refine wpIn_region ?_
          have := runL_sound hs hP.names (ops := ops) rb m (Q := Q) ops.toList 0 s _ ρ a w rfl h1 hG hrel hQ
          rw [List.range_eq_range']
          exact this
        · cases h
    | rangeFunc f ps x y => exact range_sound hs hP.names h rb m hG hrd hrel hQ

/-- What is given besides must be. -/
structure Given (P : Program) (G : Gl) : Prop where
  ok : OrcOk P G
  acts : OrcActs G
theorem Given.none (rows : Nat → Option (List AV)) : Given P ⟨rows, fun _ _ => .none⟩ := ⟨fun _ _ _ h => (by cases h), fun _ _ _ h => (by cases h)⟩

theorem exec_sound (hP : Fit P) {G : Gl} (hG : Given P G) (n : Nat) : Sound P G (exec P G n) := by
  induction n with
  | zero => exact ⟨hG.ok, (by intro rd c s e s' h; cases h), (by intro rd c s e s' h; cases h)⟩
  | succ n ih => exact step_sound hP ih ⟨hG.acts, exec_acts hG.acts n⟩

/-! ### From a run to the machine's call -/
theorem start_rep (B : World) : Rep B (fun _ => none) ⟨.e, 0, none⟩ B where
  dom := fun id l h => by cases h
  free := rfl
  low := fun k h => by cases h
  obj := fun id o l hg hr => by cases hr
  new := fun id l h => by cases h
  inj := fun id id' o o' l l' hg hg' v v' hr hr' => by cases hr
  keep := fun b hb => rfl
  size := Nat.le_refl _
  tape := rfl
  os := rfl
  out := rfl
  has := fun id l h => by cases h
  thaw := fun b x hb hx => by
    have := (Array.getElem?_eq_some_iff.1 hx).1
    omega

/-- **A RUN IS A CALL**: whatever stands for the arguments: the call ends as the abstract run did; what was there is as it was. -/
theorem run_calls (hP : Fit P) {G : Gl} (hg : Given P G) {n : Nat} {f : FuncId} {as : List AV} {v : AV} {σ : AS} (h : runCall P G n f as = some (v, σ)) {B : World} {vs : Array Value} (hG : GlOk (memOf B) (fun _ => none) G) (hc : Concs (memOf B) (fun _ => none) as vs.toList) :
    Calls P f vs B fun e w => ∃ ρ y, e = .returned y ∧ Conc (memOf B) ρ v y ∧ Rep B ρ σ w := by
  have := call_sound (exec_sound hP hg n) hG (start_rep B) hc h 0 (R := fun e w => ∃ ρ y, e = .returned y ∧ Conc (memOf B) ρ v y ∧ Rep B ρ σ w) (fun ρ' y w' _ hcy hrep => ⟨ρ', y, rfl, hcy, hrep⟩)
  exact this.calls fun k => room_wide k
#print axioms run_calls
end Go.Ab
