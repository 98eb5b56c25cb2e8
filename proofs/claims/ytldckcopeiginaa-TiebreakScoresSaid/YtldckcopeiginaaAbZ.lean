/- More fuel gives no less; what a run comes to, without fuel. -/
import Derived.Test.YtldckcopeiginaaAbY
namespace Go.Ab
variable {P : Program} {G : Gl} {ex ex' : Runner}

def ExLe (ex ex' : Runner) : Prop := ∀ rd c s r, ex rd c s = some r → ex' rd c s = some r

theorem callBody_le (hx : ExLe ex ex') {f : FuncId} {as : List AV} {σ : AS} {x : AV × AS} (h : callBody P ex f as σ = some x) : callBody P ex' f as σ = some x := by
  unfold callBody at h ⊢
  split at h
  · split at h
    · rename_i fn hf _ c hb
      cases hex : ex none c { tmps := Tm.fill ⟨max as.length fn.ntmps, .e⟩ 0 as, defs := [], st := σ } with
      | none => rw [hex] at h; cases h
      | some r => rw [hex] at h; rw [hx _ _ _ _ hex]; exact h
    · cases h
  · cases h
theorem callWith_le (hx : ExLe ex ex') {f : FuncId} {as : List AV} {σ : AS} {x : AV × AS} (h : callWith P G ex f as σ = some x) : callWith P G ex' f as σ = some x := by
  unfold callWith at h ⊢
  split at h
  · exact h
  · exact callBody_le hx h
theorem roundWith_le (hx : ExLe ex ex') {l : Nat} {as : List AV} {σ : AS} {x : AV × AS} (h : roundWith ex l as σ = some x) : roundWith ex' l as σ = some x := by
  unfold roundWith at h ⊢
  split at h
  · rename_i r hg
    split at h
    · rename_i hc
      rw [if_pos hc]
      try simp only at h ⊢
      cases h1 : ex (some l) r.assign { tmps := (r.params.toList.zip as).foldl (fun (ts : Tm) (p : Tmp × AV) => ts.set p.1 p.2) r.tmps, defs := [], st := σ } with
      | none => rw [h1] at h; cases h
      | some q =>
        rw [h1] at h; rw [hx _ _ _ _ h1]
        obtain ⟨e, s₁⟩ := q
        cases e with
        | normal =>
          try simp only at h ⊢
          split at h
          · rename_i r₁ hg₁
            split at h
            · rename_i hr
              try simp only
              rw [if_pos hr]
              cases h2 : ex (some l) r.body { s₁ with st := s₁.st.set l (.loop { r₁ with state := .busy }) } with
              | none => rw [h2] at h; cases h
              | some q => rw [h2] at h; rw [hx _ _ _ _ h2]; exact h
            · cases h
          · cases h
        | exit id => cases h
        | ret => cases h
    · cases h
  · cases h
theorem resNext_le (hx : ExLe ex ex') {r : Option (ANext × AS)} {x : AV × AS} (h : resNext P G ex r = some x) : resNext P G ex' r = some x := by
  cases r with
  | none => cases h
  | some q =>
    obtain ⟨n, σ⟩ := q
    cases n with
    | val v => exact h
    | enter f as => exact callWith_le hx h
    | round l as => exact roundWith_le hx h
theorem resO_le (hx : ExLe ex ex') {ops : Array Oper} {o : Oper} {tm : Tm} {σ : AS} {x : AV × AS} (h : resO P G ex ops o tm σ = some x) : resO P G ex' ops o tm σ = some x := by
  unfold resO at h ⊢
  split at h
  · rename_i hw; rw [if_pos hw]; exact resNext_le hx h
  · rename_i hw; rw [if_neg hw]; exact h
theorem stepO_le (hx : ExLe ex ex') {ops : Array Oper} {o : Oper} {s s' : Cfg} (h : stepO P G ex ops o s = some s') : stepO P G ex' ops o s = some s' := by
  obtain ⟨tm, defs, σ⟩ := s
  simp only [stepO] at h ⊢
  cases hr : resO P G ex ops o tm σ with
  | none => rw [hr] at h; cases h
  | some x => rw [hr] at h; rw [resO_le hx hr]; exact h
theorem runL_le (hx : ExLe ex ex') {ops : Array Oper} : ∀ (os : List Oper) (s s' : Cfg), runL P G ex ops os s = some s' → runL P G ex' ops os s = some s'
  | [], s, s', h => h
  | o :: os, s, s', h => by
    simp only [runL] at h ⊢
    cases hr : stepO P G ex ops o s with
    | none => rw [hr] at h; cases h
    | some x => rw [hr] at h; rw [stepO_le hx hr]; exact runL_le hx os _ _ h
theorem resX_le (hx : ExLe ex ex') {base i : Nat} {ops : Array Oper} {o : Oper} {tm : Tm} {σ : AS} {x : AV × AS} (h : resX P G ex base ops i o tm σ = some x) : resX P G ex' base ops i o tm σ = some x := by
  obtain ⟨objs, next, slot⟩ := σ
  simp only [resX, resA] at h ⊢
  split at h
  · rename_i hc
    rw [if_pos hc]
    split at h
    · cases h
    · rename_i hg
      cases hr : resO P G ex ops o tm ⟨objs, next, some (base + i)⟩ with
      | none => rw [hr] at h; cases h
      | some q => rw [hr] at h; rw [resO_le hx hr]; exact h
  · rename_i hc
    rw [if_neg hc]
    cases hr : resO P G ex ops o tm ⟨objs, next, none⟩ with
    | none => rw [hr] at h; cases h
    | some q => rw [hr] at h; rw [resO_le hx hr]; exact h
theorem runD_le (hx : ExLe ex ex') {base : Nat} {ops : Array Oper} : ∀ (pl : List (Nat × List Nat)) (s : Cfg) (rc : Rec) (s' : Cfg), runD P G ex base ops pl s rc = some s' → runD P G ex' base ops pl s rc = some s'
  | [], s, rc, s', h => h
  | (i, fl) :: pl, s, rc, s', h => by
    obtain ⟨tm, defs, σ⟩ := s
    simp only [runD, stepD] at h ⊢
    cases ho : ops[i]? with
    | none => rw [ho] at h; cases h
    | some o =>
      rw [ho] at h
      simp only at h ⊢
      cases hr : resX P G ex base ops i o tm σ with
      | none => rw [hr] at h; cases h
      | some q =>
        rw [hr] at h; rw [resX_le hx hr]
        simp only at h ⊢
        split at h
        · rename_i hst
          split at hst
          · rename_i hs2
            cases hst
            exact runD_le hx pl _ _ _ h
          · cases hst
        · cases h
theorem rangeWith_le (hx : ExLe ex ex') {rd : Option Nat} {f : Operand} {ps : Array Tmp} {a b : Code} {s : Cfg} {x : Option Code × Cfg} (h : rangeWith P G ex rd f ps a b s = some x) : rangeWith P G ex' rd f ps a b s = some x := by
  have main : ∀ (d : Nat) (mark : List Nat) (σ₁ : AS), (match target (evT G s.tmps f) [.yld σ₁.newId] with
      | some (.enter g args) => match callWith P G ex g args (σ₁.push (.loop { state := .ready, pending := none, tmps := s.tmps, params := ps, assign := a, body := b, defers := d })) with
        | some (_, σ₃) => match σ₃.get σ₁.newId with
          | some (.loop r) => if r.state = .busy then none else some (r.pending, ({ tmps := s.tmps, defs := mark ++ s.defs, st := σ₃.set σ₁.newId (.loop { r with state := .exhausted }) } : Cfg))
          | _ => none
        | none => none
      | _ => none) = some x → (match target (evT G s.tmps f) [.yld σ₁.newId] with
      | some (.enter g args) => match callWith P G ex' g args (σ₁.push (.loop { state := .ready, pending := none, tmps := s.tmps, params := ps, assign := a, body := b, defers := d })) with
        | some (_, σ₃) => match σ₃.get σ₁.newId with
          | some (.loop r) => if r.state = .busy then none else some (r.pending, ({ tmps := s.tmps, defs := mark ++ s.defs, st := σ₃.set σ₁.newId (.loop { r with state := .exhausted }) } : Cfg))
          | _ => none
        | none => none
      | _ => none) = some x := by
    intro d mark σ₁ h
    split at h
    · rename_i g args ht
      cases hc : callWith P G ex g args (σ₁.push (.loop { state := .ready, pending := none, tmps := s.tmps, params := ps, assign := a, body := b, defers := d })) with
      | none => rw [hc] at h; cases h
      | some q => rw [hc] at h; simp only [callWith_le hx hc]; exact h
    · cases h
  unfold rangeWith at h ⊢
  cases rd with
  | none => exact main _ _ _ h
  | some l =>
    simp only at h ⊢
    cases hg : s.st.get l with
    | none => rw [hg] at h; cases h
    | some o =>
      rw [hg] at h
      cases o with
      | loop r => exact main _ _ _ h
      | _ => cases h
theorem step_le (hx : ExLe ex ex') : ExLe (fun rd c s => execStep P G ex rd c s) (fun rd c s => execStep P G ex' rd c s) := by
  intro rd c s r h
  simp only at h ⊢
  cases c with
  | skip => exact h
  | label l => exact h
  | exit id => exact h
  | ret => exact h
  | goto l => cases h
  | refuse w => cases h
  | scope b => exact hx _ _ _ _ h
  | cond x a b =>
    simp only [execStep, stCond] at h ⊢
    split at h
    · exact hx _ _ _ _ h
    · cases h
  | seq a b =>
    simp only [execStep, stSeq] at h ⊢
    cases h1 : ex rd a s with
    | none => rw [h1] at h; cases h
    | some q =>
      rw [h1] at h; rw [hx _ _ _ _ h1]
      obtain ⟨e, s₁⟩ := q
      cases e with
      | normal => exact hx _ _ _ _ h
      | exit id => exact h
      | ret => exact h
  | block id b =>
    simp only [execStep, stBlock] at h ⊢
    cases h1 : ex rd b s with
    | none => rw [h1] at h; cases h
    | some q => rw [h1] at h; rw [hx _ _ _ _ h1]; exact h
  | loop b =>
    simp only [execStep, stLoop] at h ⊢
    cases h1 : ex rd b s with
    | none => rw [h1] at h; cases h
    | some q =>
      rw [h1] at h; rw [hx _ _ _ _ h1]
      obtain ⟨e, s₁⟩ := q
      cases e with
      | normal => exact hx _ _ _ _ h
      | exit id => exact h
      | ret => exact h
  | region id ops draw =>
    cases draw with
    | false =>
      simp only [execStep, stRegion, Bool.false_eq_true, if_false] at h ⊢
      cases h1 : runL P G ex ops ops.toList s with
      | none => rw [h1] at h; cases h
      | some q => rw [h1] at h; rw [runL_le hx _ _ _ h1]; exact h
    | true =>
      simp only [execStep, stDraw, if_true] at h ⊢
      split at h
      · rename_i hok
        rw [if_pos hok]
        obtain ⟨tm, defs, ⟨objs, next, slot⟩⟩ := s
        simp only at h ⊢
        cases h1 : runD P G ex next ops (plan ops) ⟨tm, defs, ⟨objs, next + ops.size, none⟩⟩ (fun _ => none) with
        | none => rw [h1] at h; cases h
        | some q => rw [h1] at h; rw [runD_le hx _ _ _ _ h1]; exact h
      · cases h
  | rangeFunc f ps a b =>
    simp only [execStep, stRange] at h ⊢
    cases h1 : rangeWith P G ex rd f ps a b s with
    | none => rw [h1] at h; cases h
    | some q =>
      rw [h1] at h; rw [rangeWith_le hx h1]
      obtain ⟨c, s₁⟩ := q
      cases c with
      | none => exact h
      | some c => exact hx _ _ _ _ h

theorem exec_le_succ (n : Nat) : ExLe (exec P G n) (exec P G (n + 1)) := by
  induction n with
  | zero => intro rd c s r h; cases h
  | succ n ih => exact step_le ih
theorem exec_le {n m : Nat} (h : n ≤ m) : ExLe (exec P G n) (exec P G m) := by
  obtain ⟨k, rfl⟩ := Nat.le.dest h
  clear h
  induction k with
  | zero => exact fun _ _ _ _ h => h
  | succ k ih => exact fun rd c s r h => exec_le_succ (n + k) rd c s r (ih rd c s r h)

/-! ### Without fuel -/
variable (P G)
def wpc (rd : Option Nat) (c : Code) (s : Cfg) (Q : AEx → Cfg → Prop) : Prop := ∃ n e s', exec P G n rd c s = some (e, s') ∧ Q e s'
def wpl (ops : Array Oper) (os : List Oper) (s : Cfg) (Q : Cfg → Prop) : Prop := ∃ n s', runL P G (exec P G n) ops os s = some s' ∧ Q s'
def wpd (base : Nat) (ops : Array Oper) (pl : List (Nat × List Nat)) (s : Cfg) (rc : Rec) (Q : Cfg → Prop) : Prop := ∃ n s', runD P G (exec P G n) base ops pl s rc = some s' ∧ Q s'
def wpf (f : FuncId) (as : List AV) (σ : AS) (Q : AV → AS → Prop) : Prop := ∃ n v σ', callWith P G (exec P G n) f as σ = some (v, σ') ∧ Q v σ'
def wpy (l : Nat) (as : List AV) (σ : AS) (Q : AV → AS → Prop) : Prop := ∃ n v σ', roundWith (exec P G n) l as σ = some (v, σ') ∧ Q v σ'
def wpn (r : Option (ANext × AS)) (Q : AV → AS → Prop) : Prop := ∃ n v σ', resNext P G (exec P G n) r = some (v, σ') ∧ Q v σ'
variable {P G}

/-- What comes next, unless the code was left. -/
def Nxt (K : Cfg → Prop) (Q : AEx → Cfg → Prop) : AEx → Cfg → Prop
  | .normal, s => K s
  | e, s => Q e s
def InB (id : Nat) (Q : AEx → Cfg → Prop) : AEx → Cfg → Prop
  | .exit id', s => if id' = id then Q .normal s else Q (.exit id') s
  | e, s => Q e s

section
variable {rd : Option Nat} {s : Cfg} {Q Q' : AEx → Cfg → Prop}
theorem wpc_mono {c : Code} (h : wpc P G rd c s Q) (hq : ∀ e s', Q e s' → Q' e s') : wpc P G rd c s Q' := let ⟨n, e, s', h1, h2⟩ := h; ⟨n, e, s', h1, hq _ _ h2⟩
theorem wpl_mono {ops : Array Oper} {os : List Oper} {K K' : Cfg → Prop} (h : wpl P G ops os s K) (hq : ∀ s', K s' → K' s') : wpl P G ops os s K' := let ⟨n, s', h1, h2⟩ := h; ⟨n, s', h1, hq _ h2⟩
theorem wpf_mono {f : FuncId} {as : List AV} {σ : AS} {K K' : AV → AS → Prop} (h : wpf P G f as σ K) (hq : ∀ v σ', K v σ' → K' v σ') : wpf P G f as σ K' := let ⟨n, v, s', h1, h2⟩ := h; ⟨n, v, s', h1, hq _ _ h2⟩
theorem wpy_mono {l : Nat} {as : List AV} {σ : AS} {K K' : AV → AS → Prop} (h : wpy P G l as σ K) (hq : ∀ v σ', K v σ' → K' v σ') : wpy P G l as σ K' := let ⟨n, v, s', h1, h2⟩ := h; ⟨n, v, s', h1, hq _ _ h2⟩

theorem wpc_skip (h : Q .normal s) : wpc P G rd .skip s Q := ⟨1, _, _, rfl, h⟩
theorem wpc_exit {id : Nat} (h : Q (.exit id) s) : wpc P G rd (.exit id) s Q := ⟨1, _, _, rfl, h⟩
theorem wpc_ret (h : Q .ret s) : wpc P G rd .ret s Q := ⟨1, _, _, rfl, h⟩
theorem wpc_seq {a b : Code} (h : wpc P G rd a s (Nxt (fun s' => wpc P G rd b s' Q) Q)) : wpc P G rd (.seq a b) s Q := by
  obtain ⟨n, e, s', h1, h2⟩ := h
  cases e with
  | normal =>
    obtain ⟨m, e, s'', h3, h4⟩ := h2
    exact ⟨max n m + 1, e, s'', by
      show stSeq (exec P G (max n m)) rd a b s = _
      simp only [stSeq]
      rw [exec_le (Nat.le_max_left n m) _ _ _ _ h1]
      exact exec_le (Nat.le_max_right n m) _ _ _ _ h3, h4⟩
  | exit id => exact ⟨n + 1, _, s', by show stSeq (exec P G n) rd a b s = _; simp only [stSeq]; rw [h1], h2⟩
  | ret => exact ⟨n + 1, _, s', by show stSeq (exec P G n) rd a b s = _; simp only [stSeq]; rw [h1], h2⟩
theorem wpc_block {id : Nat} {b : Code} (h : wpc P G rd b s (InB id Q)) : wpc P G rd (.block id b) s Q := by
  obtain ⟨n, e, s', h1, h2⟩ := h
  cases e with
  | normal => exact ⟨n + 1, _, s', by show stBlock (exec P G n) rd id b s = _; simp only [stBlock]; rw [h1], h2⟩
  | ret => exact ⟨n + 1, _, s', by show stBlock (exec P G n) rd id b s = _; simp only [stBlock]; rw [h1], h2⟩
  | exit id' =>
    by_cases hid : id' = id
    · simp only [InB] at h2; rw [if_pos hid] at h2
      exact ⟨n + 1, _, s', by show stBlock (exec P G n) rd id b s = _; simp only [stBlock]; rw [h1]; simp only [hid, if_true], h2⟩
    · simp only [InB] at h2; rw [if_neg hid] at h2
      exact ⟨n + 1, _, s', by show stBlock (exec P G n) rd id b s = _; simp only [stBlock]; rw [h1]; simp only [hid, if_false], h2⟩
theorem wpc_scope {b : Code} (h : wpc P G rd b s Q) : wpc P G rd (.scope b) s Q := let ⟨n, e, s', h1, h2⟩ := h; ⟨n + 1, e, s', h1, h2⟩
theorem wpc_cond {x : Operand} {a b : Code} {t : Bool} (hx : evT G s.tmps x = .s (.bool t)) (h : wpc P G rd (if t then a else b) s Q) : wpc P G rd (.cond x a b) s Q := by
  obtain ⟨n, e, s', h1, h2⟩ := h
  exact ⟨n + 1, e, s', by show stCond G (exec P G n) rd x a b s = _; simp only [stCond, hx]; exact h1, h2⟩
theorem wpc_loop {b : Code} (h : wpc P G rd b s (Nxt (fun s' => wpc P G rd (.loop b) s' Q) Q)) : wpc P G rd (.loop b) s Q := by
  obtain ⟨n, e, s', h1, h2⟩ := h
  cases e with
  | normal =>
    obtain ⟨m, e, s'', h3, h4⟩ := h2
    exact ⟨max n m + 1, e, s'', by
      show stLoop (exec P G (max n m)) rd b s = _
      simp only [stLoop]
      rw [exec_le (Nat.le_max_left n m) _ _ _ _ h1]
      exact exec_le (Nat.le_max_right n m) _ _ _ _ h3, h4⟩
  | exit id => exact ⟨n + 1, _, s', by show stLoop (exec P G n) rd b s = _; simp only [stLoop]; rw [h1], h2⟩
  | ret => exact ⟨n + 1, _, s', by show stLoop (exec P G n) rd b s = _; simp only [stLoop]; rw [h1], h2⟩
/-- A loop, by what holds at its head, and a measure. -/
theorem wpc_inv {b : Code} (I : Nat → Cfg → Prop) (m : Nat) (h : I m s) (step : ∀ m s, I m s → wpc P G rd b s (Nxt (fun s' => ∃ m', m' < m ∧ I m' s') Q)) : wpc P G rd (.loop b) s Q := by
  induction m using Nat.strongRecOn generalizing s with
  | _ m ih =>
    refine wpc_loop (wpc_mono (step m s h) fun e s' hq => ?_)
    cases e with
    | normal => obtain ⟨m', hlt, hI⟩ := hq; exact ih m' hlt hI
    | exit id => exact hq
    | ret => exact hq

theorem wpc_region {id : Nat} {l : List Oper} (h : wpl P G l.toArray l s (Q .normal)) : wpc P G rd (.region id l.toArray false) s Q := by
  obtain ⟨n, s', h1, h2⟩ := h
  exact ⟨n + 1, _, s', by
    show stRegion P G (exec P G n) l.toArray s = _
    simp only [stRegion]
    rw [h1], h2⟩
theorem wpc_draw {id : Nat} {ops : Array Oper} {pl : List (Nat × List Nat)} {tm : Tm} {defs : List Nat} {σ : AS} (hok : drawnOk ops = true) (hpl : plan ops = pl)
    (h : wpd P G σ.next ops pl ⟨tm, defs, ⟨σ.objs, σ.next + ops.size, none⟩⟩ (fun _ => none) (Q .normal)) : wpc P G rd (.region id ops true) ⟨tm, defs, σ⟩ Q := by
  obtain ⟨n, s', h1, h2⟩ := h
  exact ⟨n + 1, _, s', by
    show stDraw P G (exec P G n) ops ⟨tm, defs, σ⟩ = _
    obtain ⟨objs, next, slot⟩ := σ
    simp only [stDraw]
    rw [if_pos hok, hpl, h1], h2⟩
end

section
variable {ops : Array Oper} {o : Oper} {os : List Oper} {tm : Tm} {defs : List Nat} {σ : AS} {Q : Cfg → Prop}
theorem wpl_nil {s : Cfg} (h : Q s) : wpl P G ops [] s Q := ⟨0, s, rfl, h⟩
theorem wpn_val {v : AV} {K : AV → AS → Prop} (h : K v σ) : wpn P G (some (.val v, σ)) K := ⟨0, v, σ, rfl, h⟩
theorem wpn_enter {f : FuncId} {as : List AV} {K : AV → AS → Prop} (h : wpf P G f as σ K) : wpn P G (some (.enter f as, σ)) K := h
theorem wpn_round {l : Nat} {as : List AV} {K : AV → AS → Prop} (h : wpy P G l as σ K) : wpn P G (some (.round l as, σ)) K := h
/-- One operation of a region. -/
theorem wpl_op (hw : Region.wanted o (ayielded ops tm) = true) (h : wpn P G (eff P o (evT G tm) σ) fun v σ' => wpl P G ops os ⟨put tm o.dst v, defs, σ'⟩ Q) : wpl P G ops (o :: os) ⟨tm, defs, σ⟩ Q := by
  obtain ⟨n, v, σ', h1, m, s', h3, h4⟩ := h
  refine ⟨max n m, s', ?_, h4⟩
  simp only [runL, stepO, resO]
  rw [if_pos hw, resNext_le (exec_le (Nat.le_max_left n m)) h1]
  exact runL_le (exec_le (Nat.le_max_right n m)) _ _ _ h3
theorem wpl_not (hw : Region.wanted o (ayielded ops tm) = false) (h : wpl P G ops os ⟨put tm o.dst uv, defs, σ⟩ Q) : wpl P G ops (o :: os) ⟨tm, defs, σ⟩ Q := by
  obtain ⟨n, s', h3, h4⟩ := h
  refine ⟨n, s', ?_, h4⟩
  simp only [runL, stepO, resO]
  rw [if_neg (by rw [hw]; simp)]
  exact h3

theorem wpf_body {f : FuncId} {as : List AV} {fn : Func} {c : Code} {K : AV → AS → Prop} (ho : G.orc f as = none) (hf : P.funcs[f]? = some fn) (hb : fn.body = some c)
    (h : wpc P G none c ⟨Tm.fill ⟨max as.length fn.ntmps, .e⟩ 0 as, [], σ⟩ fun e s => (e = .normal ∨ e = .ret) ∧ ∃ σ' v, dropDefs s.st s.defs = some σ' ∧ aresults P fn s.tmps σ' = some v ∧ K v σ') : wpf P G f as σ K := by
  obtain ⟨n, e, s, h1, he, σ', v, h2, h3, h4⟩ := h
  refine ⟨n, v, σ', ?_, h4⟩
  unfold callWith
  rw [ho]
  simp only [callBody, hf, hb, h1]
  rcases he with rfl | rfl <;> simp only [h2, h3]
theorem wpf_orc {f : FuncId} {as : List AV} {g : AS → Option (AV × AS)} {v : AV} {σ' : AS} {K : AV → AS → Prop} (ho : G.orc f as = some g) (hg : g σ = some (v, σ')) (h : K v σ') : wpf P G f as σ K :=
  ⟨0, v, σ', by unfold callWith; rw [ho]; exact hg, h⟩
/-- A run that comes to an end is a run with some fuel. -/
theorem wpf_run {f : FuncId} {as : List AV} {K : AV → AS → Prop} (h : wpf P G f as ⟨.e, 0, none⟩ K) : ∃ n v σ', runCall P G n f as = some (v, σ') ∧ K v σ' := h
end
end Go.Ab
