/- Rounds, regions, all code. -/
import Derived.Test.YtldckcopeiginaaAbL
namespace Go.Ab
variable {P : Program} {B : World}

theorem TmRel.zip {M : Mem} {ρ : Rho} : ∀ (ps : List Tmp) (as : List AV) (vs : List Value) (tm : Tm) (arr : Array Value), TmRel M ρ tm arr → Concs M ρ as vs →
    TmRel M ρ ((ps.zip as).foldl (fun (ts : Tm) (p : Tmp × AV) => ts.set p.1 p.2) tm) ((ps.zip vs).foldl (fun (ts : Array Value) (p : Tmp × Value) => ts.setIfInBounds p.1 p.2) arr)
  | [], as, vs, tm, arr, h, _ => by simpa using h
  | p :: ps, [], vs, tm, arr, h, hc => by cases hc; simpa using h
  | p :: ps, a :: as, vs, tm, arr, h, hc => by
    cases hc with
    | cons hv hvs => exact TmRel.zip ps as _ _ _ (h.set hv p) hvs

theorem run_getLoop {w : World} {b : Nat} {r : Loop} (h : w.heap[b]? = some (.loop r)) : (Instr.getLoop b).run P w = .ok r w := by
  unfold Instr.getLoop
  rw [Sem.run_bind, run_getObj h (by simp)]
  rfl

theorem heap_set {w : World} {b : Nat} {x : Obj} (h : b < w.heap.size) : ({ w with heap := w.heap.setIfInBounds b x } : World).heap[b]? = some x := by
  simp [h]

theorem round_sound {G : Gl} {ex : Runner} (hs : Sound P G ex) {l : Nat} {as : List AV} {vs : Array Value} {σ σ' : AS} {v : AV} {ρ : Rho} {w : World} {loc : Loc} (hG : GlOk (memOf B) ρ G) (hrep : Rep B ρ σ w)
    (hl : ρ l = some loc) (hc : Concs (memOf B) ρ as vs.toList) (h : roundWith ex l as σ = some (v, σ')) (rb : Option Nat) (n : Nat) {R : Ending → World → Prop}
    (hR : ∀ ρ' y w', ρ.le ρ' → Conc (memOf B) ρ' v y → Rep B ρ' σ' w' → R (.returned y) w') :
    ∃ fn tmps assign body, (Instr.yield loc.blk vs).run P w = .ok (.round loc.blk fn tmps assign body) w ∧ RoundIn (fenceOf rb) n P loc.blk fn tmps assign body w R := by
  unfold roundWith at h
  split at h
  · rename_i r hg
    split at h
    · rename_i hcond
      obtain ⟨hready, hlen⟩ := hcond
      obtain ⟨fn, arr, d, ht, hd, hheap⟩ := hrep.obj l _ loc hg hl
      simp only at h
      split at h
      · rename_i s₁ hex₁
        split at h
        · rename_i r₁ hg₁
          split at h
          · rename_i hready₁
            split at h
            · rename_i e s₂ hex₂
              split at h
              · rename_i r₂ hg₂
                cases h
                have hvl := hc.len
                have hvs : vs.toList.length = vs.size := Array.length_toList
                refine ⟨fn, (r.params.zip vs).foldl (fun tmps (t, a) => tmps.setIfInBounds t a) arr, r.assign, r.body, ?_, ?_⟩
                · unfold Instr.yield
                  rw [Sem.run_bind, run_getLoop hheap]
                  have hne : ¬ (vs.size ≠ r.params.size) := by omega
                  simp only [Result.andThen_ok]
                  rw [if_neg hne]
                  rfl
                · refine roundIn_of_wpIn (fenceOf_fn rb fn) ?_
                  rw [fenceOf_in]
                  have htz : TmRel (memOf B) ρ ((r.params.toList.zip as).foldl (fun (ts : Tm) (p : Tmp × AV) => ts.set p.1 p.2) r.tmps) ((r.params.zip vs).foldl (fun tmps (t, a) => tmps.setIfInBounds t a) arr) := by
                    have := TmRel.zip r.params.toList as vs.toList r.tmps arr ht hc
                    rw [← Array.foldl_toList, Array.toList_zip]
                    exact this
                  refine hs.code (some l) r.assign _ .normal s₁ hex₁ B ρ _ w (some loc.blk) n _ hG ⟨loc, hl, rfl⟩ ⟨htz, trivial, hrep⟩ ?_
                  intro ρ₁ a₁ w₁ hle₁ hrel₁
                  have hl₁ := hle₁ _ _ hl
                  obtain ⟨fn₁, arr₁, d₁, ht₁, hd₁, hheap₁⟩ := hrel₁.rep.obj l _ loc hg₁ hl₁
                  have hlt₁ := (hrel₁.rep.new l loc hl₁).2
                  show ∃ w₂, _
                  refine ⟨_, ?_, hs.code (some l) r.body _ e s₂ hex₂ B ρ₁ a₁ _ (some loc.blk) n _ (hG.mono hle₁) ⟨loc, hl₁, rfl⟩
                    ⟨hrel₁.tmps, hrel₁.defs, hrel₁.rep.setObj (o' := .loop { r₁ with state := .busy }) (x := .loop { state := .busy, pending := r₁.pending, fn := fn₁, tmps := arr₁, params := r₁.params, assign := r₁.assign, body := r₁.body, defers := d₁.blk })
                      hg₁ rfl hl₁ ⟨fn₁, arr₁, d₁, ht₁, hd₁, heap_set hlt₁⟩⟩ ?_⟩
                  · unfold Instr.beginRound
                    rw [Sem.run_bind, run_getLoop hheap₁]
                    simp only [Result.andThen_ok]
                    rw [Sem.run_bind, run_setObj hheap₁ (by simp)]
                    simp only [Result.andThen_ok, hready₁]
                    rfl
                  · intro ρ₂ a₂ w₂ hle₂ hrel₂
                    have hl₂ := hle₂ _ _ hl₁
                    obtain ⟨fn₂, arr₂, d₂, ht₂, hd₂, hheap₂⟩ := hrel₂.rep.obj l _ loc hg₂ hl₂
                    have hlt₂ := (hrel₂.rep.new l loc hl₂).2
                    have fin : ∀ jump : Option Code, ∃ v w', (Instr.endRound loc.blk jump).run P w₂ = .ok v w' ∧
                        (v = .bool jump.isNone ∧ Rep B ρ₂ (s₂.st.set l (.loop { r₂ with state := if jump.isNone then .ready else .done, pending := jump })) w') := by
                      intro jump
                      refine ⟨.bool jump.isNone, _, ?_, rfl, hrel₂.rep.setObj (o' := .loop { r₂ with state := if jump.isNone then .ready else .done, pending := jump })
                        (x := .loop { state := if jump.isNone then .ready else .done, pending := jump, fn := fn₂, tmps := arr₂, params := r₂.params, assign := r₂.assign, body := r₂.body, defers := d₂.blk }) hg₂ rfl hl₂ ⟨fn₂, arr₂, d₂, ht₂, hd₂, heap_set hlt₂⟩⟩
                      unfold Instr.endRound
                      rw [Sem.run_bind, run_getLoop hheap₂]
                      simp only [Result.andThen_ok]
                      rw [Sem.run_bind, run_setObj hheap₂ (by simp)]
                      rfl
                    cases e with
                    | normal =>
                      obtain ⟨v, w', h1, rfl, h3⟩ := fin none
                      exact ⟨_, w', h1, hR ρ₂ _ w' (Rho.le_trans hle₁ hle₂) (.s _) h3⟩
                    | ret =>
                      obtain ⟨v, w', h1, rfl, h3⟩ := fin (some .ret)
                      exact ⟨_, w', h1, hR ρ₂ _ w' (Rho.le_trans hle₁ hle₂) (.s _) h3⟩
                    | exit id =>
                      obtain ⟨v, w', h1, rfl, h3⟩ := fin (some (.exit id))
                      exact ⟨_, w', h1, hR ρ₂ _ w' (Rho.le_trans hle₁ hle₂) (.s _) h3⟩
              · cases h
            · cases h
          · cases h
        · cases h
      · cases h
    · cases h
  · cases h

/-! ### Operations in a region -/
theorem yielded_eq {M : Mem} {ρ : Rho} {tm : Tm} {arr : Array Value} (h : TmRel M ρ tm arr) (ops : Array Oper) : ayielded ops tm = yielded ops arr := by
  funext j
  unfold ayielded yielded
  cases ht : (ops[j]?).bind (·.dst) with
  | none => rfl
  | some t =>
    simp only [Option.bind_some]
    have hg := h.get t
    cases hv : arr[t]? with
    | none =>
      have : arr.getD t undef = undef := by simp [hv]
      rw [this] at hg
      split
      · rename_i b hb
        rw [hb] at hg
        have := hg.s_eq
        cases this
      · rfl
    | some v =>
      have : arr.getD t undef = v := by simp [hv]
      rw [this] at hg
      split
      · rename_i b hb
        rw [hb] at hg
        have := hg.s_eq
        subst this
        rfl
      · rename_i hno
        split
        · rename_i b hb
          cases hb
          generalize tm.get t = av at hg hno
          cases hg
          exact absurd rfl (hno b)
        · rfl

theorem eff_no_defer {o : Oper} {ev : Operand → AV} {σ : AS} {x : ANext × AS} (h : eff P o ev σ = some x) (c : Call) : o.op ≠ .defer c := by
  intro ho
  unfold eff at h
  rw [ho] at h
  cases h

def NamesOk (P : Program) : Prop := ∀ (f : FuncId) (fn : Func), P.funcs[f]? = some fn → (fn.name == "runtime.NumGoroutine") = false

theorem callFunc_run (hN : NamesOk P) {f : FuncId} {fn : Func} (hf : P.funcs[f]? = some fn) (hb : fn.body.isNone = false) (vs : Array Value) (w : World) : (callFunc f vs).run P w = .ok (.enter f vs) w := by
  unfold callFunc
  rw [Sem.run_bind, run_program]
  simp only [Result.andThen_ok, hf, hN f fn hf, hb, Bool.false_eq_true, if_false, Sem.run_pure]

theorem callWith_body {G : Gl} {ex : Runner} (hs : OrcOk P G) {f : FuncId} {as : List AV} {σ : AS} {x : AV × AS} (h : callWith P G ex f as σ = some x) : ∃ fn, P.funcs[f]? = some fn ∧ fn.body.isNone = false := by
  unfold callWith at h
  split at h
  · rename_i g hg
    exact (hs f as g hg).1
  · unfold callBody at h
    split at h
    · rename_i fn hf
      split at h
      · rename_i c hb
        exact ⟨fn, hf, by simp [hb]⟩
      · cases h
    · cases h

theorem CfgRel.put {ρ : Rho} {tm : Tm} {defs : List Nat} {σ σ' : AS} {a : Act} {w w' : World} {ρ' : Rho} (h : CfgRel B ρ ⟨tm, defs, σ⟩ a w) (hle : ρ.le ρ') (hrep : Rep B ρ' σ' w') {v : AV} {c : Value}
    (hc : Conc (memOf B) ρ' v c) (dst : Option Tmp) : CfgRel B ρ' ⟨Go.Ab.put tm dst v, defs, σ'⟩ (a.put dst c) w' := by
  refine ⟨(h.tmps.mono hle).put hc dst, ?_, hrep⟩
  cases dst <;> exact h.defs.mono hle

theorem resO_sound {G : Gl} {ex : Runner} (hs : Sound P G ex) (hN : NamesOk P) {ops : Array Oper} {o : Oper} {tm : Tm} {σ σ' : AS} {v : AV} (h : resO P G ex ops o tm σ = some (v, σ')) {defs : List Nat} {ρ : Rho} {a : Act} {w : World} (rb : Option Nat) (n : Nat)
    (hG : GlOk (memOf B) ρ G) (hrel : CfgRel B ρ ⟨tm, defs, σ⟩ a w) {K : Act → World → Prop} {Q : Exit → Act → World → Prop} (hK : ∀ ρ' a' w', ρ.le ρ' → CfgRel B ρ' ⟨put tm o.dst v, defs, σ'⟩ a' w' → K a' w') :
    if Region.wanted o (yielded ops a.tmps) then o.wpIn (fenceOf rb) n P a w K Q else (∀ f, o.about P w a.eval = some f → (fenceOf rb).fn f) ∧ K (a.put o.dst undef) w := by
  unfold resO at h
  rw [yielded_eq hrel.tmps ops] at h
  split at h
  · rename_i hw
    rw [if_pos hw]
    refine ⟨fun f _ => fenceOf_fn rb f, ?_⟩
    cases he : eff P o (evT G tm) σ with
    | none => rw [he] at h; cases h
    | some x =>
      obtain ⟨r, σ₁⟩ := x
      rw [he] at h
      rw [Oper.semAt_eq _ _ _ (eff_no_defer he)]
      have hok := eff_sound (P := P) hrel.rep (fun x => hrel.tmps.ev hG x) he
      cases r with
      | val v =>
        simp only [resNext, Option.some.injEq, Prod.mk.injEq] at h
        obtain ⟨rfl, rfl⟩ := h
        obtain ⟨ρ', w', hle, hrep', hrun⟩ := hok
        rcases hrun with ⟨y, hrun, hcy⟩ | ⟨hrun, rfl⟩
        · rw [hrun]
          exact hK ρ' _ w' hle (hrel.put hle hrep' hcy o.dst)
        · rw [hrun]
          exact hK ρ' _ w' hle (hrel.put hle hrep' (.s _) o.dst)
      | enter g as =>
        obtain ⟨rfl, vs, hvs, hrun⟩ := hok
        have hcw : callWith P G ex g as σ₁ = some (v, σ') := h
        obtain ⟨fn, hf, hb⟩ := callWith_body hs.orc hcw
        rw [hrun w, callFunc_run hN hf hb]
        refine ⟨fenceOf_depth rb, callsIn_fence (call_sound hs hG hrel.rep hvs hcw n ?_)⟩
        intro ρ' y w' hle hcy hrep'
        exact hK ρ' _ w' hle (hrel.put hle hrep' hcy o.dst)
      | round l as =>
        obtain ⟨rfl, loc, vs, hl, hvs, hrun⟩ := hok
        have hcw : roundWith ex l as σ₁ = some (v, σ') := h
        obtain ⟨fn, tmps, assign, body, h1, h2⟩ := round_sound hs hG hrel.rep hl hvs hcw rb (n - 1) (R := fun
          | .returned v, w'' => K (a.put o.dst v) w''
          | .panicked chain, w'' => Q (.panic chain) a w''
          | .outgrown, _ => LetsOut Q) (fun ρ' y w' hle hcy hrep' => hK ρ' _ w' hle (hrel.put hle hrep' hcy o.dst))
        rw [hrun w, h1]
        exact ⟨fenceOf_depth rb, h2⟩
  · rename_i hw
    rw [if_neg hw]
    cases h
    exact ⟨fun f _ => fenceOf_fn rb f, hK ρ _ w (Rho.le_refl ρ) (hrel.put (Rho.le_refl ρ) hrel.rep (.s _) o.dst)⟩

theorem stepO_sound {G : Gl} {ex : Runner} (hs : Sound P G ex) (hN : NamesOk P) {ops : Array Oper} {o : Oper} {s s' : Cfg} (h : stepO P G ex ops o s = some s') {ρ : Rho} {a : Act} {w : World} (rb : Option Nat) (n : Nat)
    (hG : GlOk (memOf B) ρ G) (hrel : CfgRel B ρ s a w) {K : Act → World → Prop} {Q : Exit → Act → World → Prop} (hK : ∀ ρ' a' w', ρ.le ρ' → CfgRel B ρ' s' a' w' → K a' w') :
    if Region.wanted o (yielded ops a.tmps) then o.wpIn (fenceOf rb) n P a w K Q else (∀ f, o.about P w a.eval = some f → (fenceOf rb).fn f) ∧ K (a.put o.dst undef) w := by
  obtain ⟨tm, defs, σ⟩ := s
  simp only [stepO] at h
  cases hr : resO P G ex ops o tm σ with
  | none => rw [hr] at h; cases h
  | some x =>
    obtain ⟨v, σ'⟩ := x
    rw [hr] at h
    cases h
    exact resO_sound hs hN hr rb n hG hrel hK

theorem runL_sound {G : Gl} {ex : Runner} (hs : Sound P G ex) (hN : NamesOk P) {ops : Array Oper} (rb : Option Nat) (n : Nat) {Q : Exit → Act → World → Prop} : ∀ (rest : List Oper) (k : Nat) (s s' : Cfg) (ρ : Rho) (a : Act) (w : World),
    ops.toList.drop k = rest → runL P G ex ops rest s = some s' → GlOk (memOf B) ρ G → CfgRel B ρ s a w → (∀ ρ' a' w', ρ.le ρ' → CfgRel B ρ' s' a' w' → Q .normal a' w') →
    wpOpsIn (fenceOf rb) n P ops Q (List.range' k (ops.size - k)) a w
  | [], k, s, s', ρ, a, w, hd, h, hG, hrel, hQ => by
    have : ops.toList.length ≤ k := by
      have := congrArg List.length hd
      simp at this ⊢; omega
    have hsz : ops.toList.length = ops.size := Array.length_toList
    have : ops.size - k = 0 := by omega
    rw [this]
    cases h
    exact hQ ρ a w (Rho.le_refl ρ) hrel
  | o :: rest, k, s, s', ρ, a, w, hd, h, hG, hrel, hQ => by
    have hlt : k < ops.toList.length := by
      have := congrArg List.length hd
      simp at this ⊢; omega
    have hsz : ops.toList.length = ops.size := Array.length_toList
    have hget : ops[k]? = some o := by
      rw [← Array.getElem?_toList]
      have := congrArg (·[0]?) hd
      simpa using this
    have hrest : ops.toList.drop (k + 1) = rest := by
      have := congrArg List.tail hd
      simpa using this
    have e : ops.size - k = (ops.size - (k + 1)) + 1 := by omega
    rw [e, List.range'_succ]
    simp only [wpOpsIn, hget]
    simp only [runL] at h
    split at h
    · rename_i s₁ h₁
      exact stepO_sound hs hN h₁ rb n hG hrel (fun ρ' a' w' hle hrel' => runL_sound hs hN rb n rest (k + 1) s₁ s' ρ' a' w' hrest h (hG.mono hle) hrel'
        (fun ρ₂ a₂ w₂ hle₂ hr₂ => hQ ρ₂ a₂ w₂ (Rho.le_trans hle hle₂) hr₂))
    · cases h

end Go.Ab
