/- Calls, rounds, code: the abstract run is the machine's. -/
import Derived.Test.YtldckcopeiginaaAbK
import Derived.RangeFuncCalls
namespace Go.Ab
variable {P : Program} {B : World}

def fenceOf : Option Nat → Fence
  | none => Fence.wide
  | some b => Fence.wide.inRound b
theorem fenceOf_fn (rb : Option Nat) (f : FuncId) : (fenceOf rb).fn f := by cases rb <;> trivial
theorem fenceOf_depth (rb : Option Nat) {n : Nat} : (fenceOf rb).depth.isSome = true → 1 ≤ n := by cases rb <;> (intro h; cases h)
theorem fenceOf_round (rb : Option Nat) : (fenceOf rb).round = rb := by cases rb <;> rfl
theorem fenceOf_in (rb : Option Nat) (l : Nat) : (fenceOf rb).inRound l = Fence.wide.inRound l := by cases rb <;> rfl

theorem callsIn_fence {rb : Option Nat} {n m : Nat} {f : FuncId} {args : Array Value} {w : World} {R : Ending → World → Prop} (h : CallsIn Fence.wide n P f args w R) : CallsIn (fenceOf rb) m P f args w R := by
  have h' : CallsIn Fence.wide m P f args w R := ⟨h.1, fun cs _ => h.2 cs (room_wide _)⟩
  cases rb with
  | none => exact h'
  | some b => exact CallsIn.inRound b h'

/-- The marks of deferred blocks. -/
def DefsRel (ρ : Rho) : List Nat → List Deferred → Prop
  | [], [] => True
  | d :: ds, x :: xs => (∃ l, ρ d = some l ∧ x = { target := .collected l.blk, args := #[] }) ∧ DefsRel ρ ds xs
  | _, _ => False
theorem DefsRel.mono {ρ ρ' : Rho} (hle : ρ.le ρ') : ∀ {ds : List Nat} {xs : List Deferred}, DefsRel ρ ds xs → DefsRel ρ' ds xs
  | [], [], _ => trivial
  | [], _ :: _, h => h.elim
  | _ :: _, [], h => h.elim
  | _ :: _, _ :: _, ⟨⟨l, h1, h2⟩, h3⟩ => ⟨⟨l, hle _ _ h1, h2⟩, h3.mono hle⟩

structure CfgRel (B : World) (ρ : Rho) (s : Cfg) (a : Act) (w : World) : Prop where
  tmps : TmRel (memOf B) ρ s.tmps a.tmps
  defs : DefsRel ρ s.defs a.defers
  rep : Rep B ρ s.st w

def RdOk (ρ : Rho) : Option Nat → Option Nat → Prop
  | none, none => True
  | some l, some b => ∃ loc, ρ l = some loc ∧ loc.blk = b
  | _, _ => False
theorem RdOk.mono {ρ ρ' : Rho} (hle : ρ.le ρ') {rd rb : Option Nat} (h : RdOk ρ rd rb) : RdOk ρ' rd rb := by
  cases rd <;> cases rb <;> first | exact h | (obtain ⟨loc, h1, h2⟩ := h; exact ⟨loc, hle _ _ h1, h2⟩)

def exOf : AEx → Exit
  | .normal => .normal
  | .exit id => .exit id
  | .ret => .ret

abbrev Runner := Option Nat → Code → Cfg → Option (AEx × Cfg)

def CodeSound (P : Program) (G : Gl) (ex : Runner) : Prop :=
  ∀ rd c s e s', ex rd c s = some (e, s') → ∀ (B : World) (ρ : Rho) (a : Act) (w : World) (rb : Option Nat) (m : Nat) (Q : Exit → Act → World → Prop), GlOk (memOf B) ρ G → RdOk ρ rd rb → CfgRel B ρ s a w →
    (∀ ρ' a' w', ρ.le ρ' → CfgRel B ρ' s' a' w' → Q (exOf e) a' w') → c.wpIn (fenceOf rb) m P Q a w
/-- A loop, from its body's beginning. -/
def LoopWp (F : Fence) (n : Nat) (P : Program) (c : Code) (Q : Exit → Act → World → Prop) (a : Act) (w : World) : Prop :=
  ∀ (b : Frame) (k : List Item) (cs : List Frame), b.roundOf = F.round → F.fn b.fn → F.room (cs.length + 1 + n) →
    ∃ e a' w', Q e a' w' ∧ ArrivesIn (Machine.fenced P F) P (lone (b.atR a (.code c :: .inLoop c :: k)) cs w) b k cs e a' w'
def LoopSound (P : Program) (G : Gl) (ex : Runner) : Prop :=
  ∀ rd c s e s', ex rd (.loop c) s = some (e, s') → ∀ (B : World) (ρ : Rho) (a : Act) (w : World) (rb : Option Nat) (m : Nat) (Q : Exit → Act → World → Prop), GlOk (memOf B) ρ G → RdOk ρ rd rb → CfgRel B ρ s a w →
    (∀ ρ' a' w', ρ.le ρ' → CfgRel B ρ' s' a' w' → Q (exOf e) a' w') → LoopWp (fenceOf rb) m P c Q a w
/-- The contracts that are given are the machine's. -/
def OrcOk (P : Program) (G : Gl) : Prop := ∀ f as h, G.orc f as = some h → (∃ fn, P.funcs[f]? = some fn ∧ fn.body.isNone = false) ∧
  ∀ (σ : AS) v σ', h σ = some (v, σ') → ∀ (B : World) (ρ : Rho) (w : World) (vs : Array Value), GlOk (memOf B) ρ G → Rep B ρ σ w → Concs (memOf B) ρ as vs.toList → ∀ n,
    CallsIn Fence.wide n P f vs w fun e w' => ∃ ρ' y, e = .returned y ∧ ρ.le ρ' ∧ Conc (memOf B) ρ' v y ∧ Rep B ρ' σ' w'
structure Sound (P : Program) (G : Gl) (ex : Runner) : Prop where
  orc : OrcOk P G
  code : CodeSound P G ex
  loop : LoopSound P G ex

/-! ### Entering and leaving a function -/
theorem TmRel.empty {M : Mem} {ρ : Rho} (n : Nat) : TmRel M ρ ⟨n, .e⟩ (Array.replicate n undef) := by
  refine ⟨by simp, fun i => ?_⟩
  have h1 : (⟨n, .e⟩ : Tm).get i = uv := by simp [Tm.get, Tr.get_e]
  have h2 : (Array.replicate n undef).getD i undef = undef := by
    simp only [Array.getD_eq_getD_getElem?, Array.getElem?_replicate]
    split <;> rfl
  rw [h1, h2]; exact .s _

theorem TmRel.fill {M : Mem} {ρ : Rho} : ∀ (as : List AV) (vs : List Value) (i : Nat) (tm : Tm) (arr : Array Value), TmRel M ρ tm arr → Concs M ρ as vs → i + vs.length ≤ arr.size →
    ∃ arr', TmRel M ρ (tm.fill i as) arr' ∧ arr'.toList = wr arr.toList i vs
  | [], vs, i, tm, arr, h, hc, hl => by
    cases hc
    exact ⟨arr, h, by simp [wr]⟩
  | a :: as, vs, i, tm, arr, h, hc, hl => by
    cases hc with
    | cons hv hvs =>
      rename_i v vs
      simp only [List.length_cons] at hl
      obtain ⟨arr', h1, h2⟩ := TmRel.fill as vs (i + 1) _ _ (h.set hv i) hvs (by rw [Array.size_setIfInBounds]; omega)
      refine ⟨arr', h1, ?_⟩
      rw [h2]
      have hsz : arr.toList.length = arr.size := Array.length_toList
      have hlt : i < arr.toList.length := by omega
      unfold wr
      rw [Array.toList_setIfInBounds, List.set_eq_take_append_cons_drop, if_pos hlt]
      have ht : (arr.toList.take i).length = i := by rw [List.length_take]; omega
      have e1 : List.take (i + 1) (arr.toList.take i ++ v :: arr.toList.drop (i + 1)) = arr.toList.take i ++ [v] := by
        conv => lhs; rw [show i + 1 = (arr.toList.take i).length + 1 by omega]
        rw [List.take_length_add_append]; rfl
      have e2 : List.drop (i + 1 + vs.length) (arr.toList.take i ++ v :: arr.toList.drop (i + 1)) = arr.toList.drop (i + (v :: vs).length) := by
        conv => lhs; rw [show i + 1 + vs.length = (arr.toList.take i).length + (1 + vs.length) by omega]
        rw [List.drop_length_add_append, Nat.add_comm 1, List.drop_succ_cons, List.drop_drop]
        congr 1; simp; omega
      rw [e1, e2]; simp

theorem TmRel.args {M : Mem} {ρ : Rho} {as : List AV} {vs : Array Value} (hc : Concs M ρ as vs.toList) (n : Nat) :
    TmRel M ρ (Tm.fill ⟨max as.length n, .e⟩ 0 as) (vs ++ Array.replicate (n - vs.size) undef) := by
  have hl := hc.len
  have hsz : vs.toList.length = vs.size := Array.length_toList
  obtain ⟨arr, h1, h2⟩ := TmRel.fill as vs.toList 0 _ _ (TmRel.empty (M := M) (ρ := ρ) (max as.length n)) hc (by simp; omega)
  have : arr = vs ++ Array.replicate (n - vs.size) undef := by
    apply Array.ext'
    rw [h2]
    unfold wr
    simp only [List.take_zero, List.nil_append, Nat.zero_add, Array.toList_append, Array.toList_replicate, List.drop_replicate]
    congr 2
    omega
  rw [← this]; exact h1

def resOne (arr : Array Value) : ResultVar → Sem Value
  | .tmp t => pure (arr.getD t undef)
  | .cell a t => do loadVar t (← asAddr (arr.getD a undef))
theorem results_eq (fn : Func) (arr : Array Value) : results fn arr = (do let vs ← fn.results.mapM (resOne arr); pure (if h : vs.size = 1 then vs[0] else .tuple vs)) := by
  unfold results
  congr 2

theorem result_run {M : Mem} {ρ : Rho} {σ : AS} {w : World} (hM : M = memOf B) (hrep : Rep B ρ σ w) {tm : Tm} {arr : Array Value} (ht : TmRel M ρ tm arr) : ∀ (rs : List ResultVar) (vs : List AV), aresultL P tm σ rs = some vs →
    ∃ ys, (rs.mapM (resOne arr)).run P w = .ok ys w ∧ Concs M ρ vs ys
  | [], vs, h => by simp [aresultL] at h; subst h; exact ⟨[], rfl, .nil⟩
  | r :: rs, vs, h => by
    subst hM
    simp only [aresultL] at h
    split at h
    · rename_i v vs' hv hvs
      cases h
      obtain ⟨ys, h1, h2⟩ := result_run rfl hrep ht rs vs' hvs
      cases r with
      | tmp t =>
        simp only [aresult, Option.some.injEq] at hv
        subst hv
        refine ⟨arr.getD t undef :: ys, ?_, .cons (ht.get t) h2⟩
        rw [List.mapM_cons, Sem.run_bind]
        simp only [resOne, Sem.run_pure, Result.andThen_ok, Sem.run_bind, h1]
      | cell a t =>
        simp only [aresult] at hv
        obtain ⟨y, hy, hcy⟩ := load_run (P := P) hrep (ht.get a) hv
        refine ⟨y :: ys, ?_, .cons hcy h2⟩
        have hl : (do loadVar t (← asAddr (arr.getD a undef)) : Sem Value).run P w = .ok y w := by
          have hg := ht.get a
          generalize arr.getD a undef = c at hg hy
          generalize tm.get a = av at hg hv
          cases hg <;> simp only [effLoad] at hv <;> first | (cases hv; done) | exact hy
        have hl' : (resOne arr (.cell a t)).run P w = .ok y w := hl
        rw [List.mapM_cons, Sem.run_bind]
        simp only [hl', Result.andThen_ok, Sem.run_bind, h1, Sem.run_pure]
    · cases h

theorem results_run {ρ : Rho} {σ : AS} {w : World} (hrep : Rep B ρ σ w) {tm : Tm} {arr : Array Value} (ht : TmRel (memOf B) ρ tm arr) {fn : Func} {v : AV} (h : aresults P fn tm σ = some v) :
    ∃ y, (results fn arr).run P w = .ok y w ∧ Conc (memOf B) ρ v y := by
  unfold aresults at h
  simp only [Option.map_eq_some_iff] at h
  obtain ⟨vs, hvs, rfl⟩ := h
  obtain ⟨ys, h1, h2⟩ := result_run (P := P) rfl hrep ht _ _ hvs
  refine ⟨if h : ys.toArray.size = 1 then ys.toArray[0] else .tuple ys.toArray, ?_, ?_⟩
  · rw [results_eq, Sem.run_bind, Array.mapM_eq_mapM_toList, Sem.run_map, h1]
    rfl
  · have hl := h2.len
    cases vs with
    | nil => cases h2; simp [tupled]; exact conc_mkTup .nil
    | cons v vs =>
      cases h2 with
      | cons hv hvs' =>
        cases vs with
        | nil => cases hvs'; simpa [tupled] using hv
        | cons v2 vs =>
          cases hvs' with
          | cons hv2 hvs2 =>
            simp only [tupled]
            rw [dif_neg (by simp)]
            exact conc_mkTup (.cons hv (.cons hv2 hvs2))

theorem run_getObj {w : World} {b : Nat} {o : Obj} (h : w.heap[b]? = some o) (hc : ∀ c e f, o ≠ .cells c e f) : (getObj b).run P w = .ok o w := by
  simp only [getObj, Sem.run, h]
theorem run_setObj {w : World} {b : Nat} {o o' : Obj} (h : w.heap[b]? = some o) (hc : ∀ c e f, o ≠ .cells c e f) : (setObj b o').run P w = .ok () { w with heap := w.heap.setIfInBounds b o' } := by
  cases o <;> simp only [setObj, Sem.run, h]
  exact absurd rfl (hc _ _ _)

/-- An object that is no row of cells turns. -/
theorem Rep.setObj {ρ : Rho} {σ : AS} {w : World} (h : Rep B ρ σ w) {id : Nat} {o o' : AObj} {l : Loc} {x : Obj} (hg : σ.get id = some o) (hl : o.live = true) (hr : ρ id = some l)
    (hn : ObjRep (memOf B) ρ { w with heap := w.heap.setIfInBounds l.blk x } l o') (hz : ObjThaw x := by intro c e fz h; first | (cases h; done) | (cases h; rfl)) : Rep B ρ (σ.set id o') { w with heap := w.heap.setIfInBounds l.blk x } :=
  h.mod hg hl hr (by simp) (fun b hb => by simp [Array.getElem?_setIfInBounds_ne (fun e => hb e.symm)]) rfl rfl rfl hn (fun y hy => by
    have hlt := (h.new id l hr).2
    simp [hlt] at hy
    subst hy; exact hz)

theorem leaves {fn : Func} {arr : Array Value} {R : Ending → World → Prop} : ∀ (ds : List Nat) (xs : List Deferred) (σ σ' : AS) (ρ : Rho) (w : World), DefsRel ρ ds xs → Rep B ρ σ w → dropDefs σ ds = some σ' →
    (∀ w', Rep B ρ σ' w' → ∃ v, (results fn arr).run P w' = .ok v w' ∧ R (.returned v) w') → ∀ (n : Nat), LeavesInM Fence.wide n P fn arr R xs .returning w
  | [], [], σ, σ', ρ, w, _, hrep, h, hR, n => by
    simp [dropDefs] at h; subst h
    exact hR w hrep
  | d :: ds, x :: xs, σ, σ', ρ, w, ⟨⟨l, hl, hx⟩, hds⟩, hrep, h, hR, n => by
    simp only [dropDefs] at h
    split at h
    · rename_i hg
      have hheap : w.heap[l.blk]? = some (.deferred (some [])) := hrep.obj d _ l hg hl
      refine ⟨by simp, .inl ⟨l.blk, _, by rw [hx], ?_, leaves ds xs _ σ' ρ _ hds (hrep.setObj (o' := .dead) (x := .deferred none) hg rfl hl trivial) h hR n⟩⟩
      unfold Instr.takeDeferred
      simp only [Sem.run_bind, run_getObj hheap (by simp), Result.andThen_ok, run_setObj hheap (by simp), Sem.run_pure]
    · cases h

theorem callBody_sound {G : Gl} {ex : Runner} (hs : Sound P G ex) {f : FuncId} {as : List AV} {vs : Array Value} {σ σ' : AS} {v : AV} {ρ : Rho} {w : World} (hG : GlOk (memOf B) ρ G) (hrep : Rep B ρ σ w)
    (hc : Concs (memOf B) ρ as vs.toList) (h : callBody P ex f as σ = some (v, σ')) (n : Nat) {R : Ending → World → Prop} (hR : ∀ ρ' y w', ρ.le ρ' → Conc (memOf B) ρ' v y → Rep B ρ' σ' w' → R (.returned y) w') :
    CallsIn Fence.wide n P f vs w R := by
  unfold callBody at h
  split at h
  · rename_i fn hf
    split at h
    · rename_i c hb
      split at h
      · -- off the end
        rename_i s hex
        split at h
        · rename_i σ₁ hd
          split at h
          · rename_i v' hv
            cases h
            refine callsIn_of_wp_marks hf hb trivial (hs.code none c _ .normal s hex B ρ _ w none n _ hG trivial ⟨TmRel.args hc _, trivial, hrep⟩ ?_)
            intro ρ' a' w' hle hrel
            refine leaves s.defs a'.defers _ _ ρ' w' hrel.defs hrel.rep hd (fun w₂ hrep₂ => ?_) n
            obtain ⟨y, hy, hcy⟩ := results_run (P := P) hrep₂ hrel.tmps hv
            exact ⟨y, hy, hR ρ' y w₂ hle hcy hrep₂⟩
          · cases h
        · cases h
      · rename_i s hex
        split at h
        · rename_i σ₁ hd
          split at h
          · rename_i v' hv
            cases h
            refine callsIn_of_wp_marks hf hb trivial (hs.code none c _ .ret s hex B ρ _ w none n _ hG trivial ⟨TmRel.args hc _, trivial, hrep⟩ ?_)
            intro ρ' a' w' hle hrel
            refine leaves s.defs a'.defers _ _ ρ' w' hrel.defs hrel.rep hd (fun w₂ hrep₂ => ?_) n
            obtain ⟨y, hy, hcy⟩ := results_run (P := P) hrep₂ hrel.tmps hv
            exact ⟨y, hy, hR ρ' y w₂ hle hcy hrep₂⟩
          · cases h
        · cases h
      · cases h
    · cases h
  · cases h

theorem call_sound {G : Gl} {ex : Runner} (hs : Sound P G ex) {f : FuncId} {as : List AV} {vs : Array Value} {σ σ' : AS} {v : AV} {ρ : Rho} {w : World} (hG : GlOk (memOf B) ρ G) (hrep : Rep B ρ σ w)
    (hc : Concs (memOf B) ρ as vs.toList) (h : callWith P G ex f as σ = some (v, σ')) (n : Nat) {R : Ending → World → Prop} (hR : ∀ ρ' y w', ρ.le ρ' → Conc (memOf B) ρ' v y → Rep B ρ' σ' w' → R (.returned y) w') :
    CallsIn Fence.wide n P f vs w R := by
  unfold callWith at h
  split at h
  · rename_i g hg
    exact ((hs.orc f as g hg).2 σ v σ' h B ρ w vs hG hrep hc n).mono fun e w' ⟨ρ', y, he, hle, hcy, hrep'⟩ => by subst he; exact hR ρ' y w' hle hcy hrep'
  · exact callBody_sound hs hG hrep hc h n hR

end Go.Ab
