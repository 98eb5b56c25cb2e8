/- All operations together: the abstract effect is the model's. -/
import Derived.Test.YtldckcopeiginaaAbJ
namespace Go.Ab
variable {P : Program} {B : World} {ρ : Rho} {σ σ' : AS} {w : World}

theorem Conc.s_eq {M : Mem} {v c : Value} (h : Conc M ρ (.s v) c) : c = v := by
  cases h; rfl

def EffOk (P : Program) (B : World) (ρ : Rho) (w : World) (s : Sem Next) (σ σ' : AS) : ANext → Prop
  | .val v => ∃ ρ' w', ρ.le ρ' ∧ Rep B ρ' σ' w' ∧ ((∃ y, s.run P w = .ok (.value y) w' ∧ Conc (memOf B) ρ' v y) ∨ (s.run P w = .ok .skip w' ∧ v = uv))
  | .enter g as => σ' = σ ∧ ∃ vs : Array Value, Concs (memOf B) ρ as vs.toList ∧ ∀ w, s.run P w = (callFunc g vs).run P w
  | .round l as => σ' = σ ∧ ∃ (loc : Loc) (vs : Array Value), ρ l = some loc ∧ Concs (memOf B) ρ as vs.toList ∧ ∀ w, s.run P w = (Instr.yield loc.blk vs).run P w

theorem run_v {s : Sem Value} {y : Value} {w' : World} (h : s.run P w = .ok y w') : (do pure (Next.value (← s)) : Sem Next).run P w = .ok (.value y) w' := by
  simp [h]
theorem run_u {s : Sem Unit} {w' : World} (h : s.run P w = .ok () w') : (do s; pure Next.skip : Sem Next).run P w = .ok .skip w' := by
  simp [Sem.run_bind, h]

theorem EffOk.same (hrep : Rep B ρ σ w) {s : Sem Next} {v : AV} (h : ∃ y, s.run P w = .ok (.value y) w ∧ Conc (memOf B) ρ v y) : EffOk P B ρ w s σ σ (.val v) :=
  ⟨ρ, w, Rho.le_refl ρ, hrep, .inl h⟩

theorem withSt_some {x : Option AV} {r : ANext} (h : withSt σ x = some (r, σ')) : ∃ v, x = some v ∧ r = .val v ∧ σ' = σ := by
  unfold withSt at h
  simp only [Option.map_eq_some_iff, Prod.mk.injEq] at h
  obtain ⟨v, hv, rfl, rfl⟩ := h
  exact ⟨v, hv, rfl, rfl⟩

theorem concs_pairs {M : Mem} {ev : Operand → AV} {av : Operand → Value} (hev : ∀ x, Conc M ρ (ev x) (av x)) (ps : List (Nat × Operand)) :
    (ps.map fun p => (p.1, ev p.2)).map (·.1) = (ps.map fun p => (p.1, av p.2)).map (·.1) ∧ Concs M ρ ((ps.map fun p => (p.1, ev p.2)).map (·.2)) ((ps.map fun p => (p.1, av p.2)).map (·.2)) := by
  induction ps with
  | nil => exact ⟨rfl, .nil⟩
  | cons p ps ih => exact ⟨by simp, .cons (hev p.2) ih.2⟩

section
variable {o : Oper} {ev : Operand → AV} {av : Operand → Value} {r : ANext}

theorem pure_ok (hrep : Rep B ρ σ w) (hev : ∀ x, Conc (memOf B) ρ (ev x) (av x)) (hsel : ∀ cs b, o.op ≠ .select cs b) (h : withSt σ (effPure P o ev) = some (r, σ')) : EffOk P B ρ w (execOp av o) σ σ' r := by
  obtain ⟨v, hv, rfl, rfl⟩ := withSt_some h
  exact .same hrep (pure_run hev hsel hv w)

theorem guard_ints (op : BinOp) (t : TypeId) (x y : Operand) (k k' : IntKind) (a b : Int) (w : World) : (eqGuard op t x y (.int k a) (.int k' b)).run P w = .ok () w := by
  cases op <;> rfl

theorem fast_run {op : BinOp} {t : TypeId} {x y : Operand} {u v z : Value} (h : fastBin op u v = some z) (w : World) : (do eqGuard op t x y u v; binOp op t u v : Sem Value).run P w = .ok z w := by
  unfold fastBin at h
  split at h
  · rename_i k a k' b
    split at h
    · rename_i hk
      subst hk
      rw [Sem.run_bind, guard_ints]
      cases op <;> first
        | (cases h; done)
        | (cases h; simp [binOp, Op.intArith, Op.intCmp])
    · cases h
  · cases h

theorem guard_ref {op : BinOp} {t : TypeId} {x y : Operand} {a b : AV} {c d : Value} {M : Mem} {q : Bool} (ha : Conc M ρ a c) (hb : Conc M ρ b d) (h : effEq P t a b = some q) (w : World) : (eqGuard op t x y c d).run P w = .ok () w := by
  unfold effEq at h
  split at h <;> (try split at h) <;> first
    | (cases h; done)
    | (cases ha <;> cases hb <;> cases op <;> rfl)

theorem bin_eql {t : TypeId} {a b : AV} {c d : Value} {M : Mem} {q : Bool} (ha : Conc M ρ a c) (hb : Conc M ρ b d) (h : effEq P t a b = some q) (w : World) :
    (binOp .eql t c d).run P w = .ok (.bool q) w ∧ (binOp .neq t c d).run P w = .ok (.bool !q) w := by
  have he := eq_run ha hb h w
  have hform : binOp .eql t c d = (do pure (.bool (← Op.equal t c d))) ∧ binOp .neq t c d = (do pure (.bool (!(← Op.equal t c d)))) := by
    unfold effEq at h
    split at h <;> (try split at h) <;> first
      | (cases h; done)
      | (cases ha <;> cases hb <;> exact ⟨rfl, rfl⟩)
  rw [hform.1, hform.2]
  simp [he]

theorem bin_ok (hrep : Rep B ρ σ w) {op : BinOp} {t yt : TypeId} {x y : Operand} (ho : o.op = .binOp op t x y yt) (hev : ∀ x, Conc (memOf B) ρ (ev x) (av x)) (h : effBin P op t x y (ev x) (ev y) σ = some (r, σ')) :
    EffOk P B ρ w (execOp av o) σ σ' r := by
  have hx := hev x
  have hy := hev y
  have hex : execOp av o = (do pure (Next.value (← (do eqGuard op t x y (av x) (av y); binOp op t (av x) (av y))))) := by unfold execOp; rw [ho]
  rw [hex]
  unfold effBin at h
  split at h
  · rename_i u v hu hv
    rw [hu] at hx; rw [hv] at hy
    have hx' : av x = u := hx.s_eq
    have hy' : av y = v := hy.s_eq
    rw [hx', hy']
    split at h
    · rename_i z hz
      cases h
      exact .same hrep ⟨z, run_v (fast_run hz w), .s z⟩
    · split at h
      · rename_i z hz
        cases h
        exact .same hrep ⟨z, run_v (evalP_run _ _ hz w), .s z⟩
      · cases h
  · split at h
    · simp only [Option.map_eq_some_iff, Prod.mk.injEq] at h
      obtain ⟨q, hq, rfl, rfl⟩ := h
      refine .same hrep ⟨.bool q, run_v ?_, .s _⟩
      rw [Sem.run_bind, guard_ref hx hy hq w]
      exact (bin_eql hx hy hq w).1
    · simp only [Option.map_eq_some_iff, Prod.mk.injEq] at h
      obtain ⟨q, hq, rfl, rfl⟩ := h
      refine .same hrep ⟨.bool !q, run_v ?_, .s _⟩
      rw [Sem.run_bind, guard_ref hx hy hq w]
      exact (bin_eql hx hy hq w).2
    · cases h

theorem nil_ok (hrep : Rep B ρ σ w) {x : Operand} (ho : o.op = .nilCheck x) (hev : ∀ x, Conc (memOf B) ρ (ev x) (av x)) (h : effNil P o ev (ev x) σ = some (r, σ')) : EffOk P B ρ w (execOp av o) σ σ' r := by
  have hx := hev x
  generalize hc : av x = c at hx
  unfold effNil at h
  split at h <;> rename_i he
  · cases h; rw [he] at hx
    cases hx with
    | ptr hr =>
      refine .same hrep ⟨_, ?_, .ptr hr⟩
      unfold execOp; rw [ho]; simp only [hc]; rfl
  · cases h; rw [he] at hx
    cases hx with
    | rptr hr =>
      refine .same hrep ⟨_, ?_, .rptr hr⟩
      unfold execOp; rw [ho]; simp only [hc]; rfl
  · cases h; rw [he] at hx
    cases hx with
    | ifc hr =>
      refine .same hrep ⟨_, ?_, .ifc hr⟩
      unfold execOp; rw [ho]; simp only [hc]; rfl
  · cases h; rw [he] at hx
    cases hx with
    | yld hr =>
      refine .same hrep ⟨_, ?_, .yld hr⟩
      unfold execOp; rw [ho]; simp only [hc]; rfl
  · cases h; rw [he] at hx
    cases hx with
    | fn h1 h2 =>
      refine .same hrep ⟨_, ?_, .fn h1 h2⟩
      unfold execOp; rw [ho]; simp only [hc]; rfl
  · exact pure_ok hrep hev (fun cs b => by rw [ho]; simp) h

theorem builtin_v {b : Builtin} {c : Call} {s : Sem Value} (ho : o.op = .call c) (hc : c.callee = .builtin b) (hs : builtin b c.argTypes o.type (c.args.map fun | .const _ => true | _ => false) (c.args.map av) = (do pure (.value (← s)))) :
    execOp av o = (do pure (Next.value (← s))) := by
  unfold execOp; rw [ho]
  simp only [resolve, hc]
  exact hs

theorem call_ok (hrep : Rep B ρ σ w) {c : Call} (ho : o.op = .call c) (hev : ∀ x, Conc (memOf B) ρ (ev x) (av x)) (h : effCall P o ev c σ = some (r, σ')) : EffOk P B ρ w (execOp av o) σ σ' r := by
  have hsel : ∀ cs b, o.op ≠ .select cs b := fun cs b => by rw [ho]; simp
  have hargs : Concs (memOf B) ρ (c.args.toList.map ev) (c.args.map av).toList := by
    rw [Array.toList_map]; exact concs_map hev _
  unfold effCall at h
  split at h
  · rename_i f hc
    split at h
    · exact pure_ok hrep hev hsel h
    simp only [Option.map_eq_some_iff, Prod.mk.injEq] at h
    obtain ⟨r', hr', rfl, rfl⟩ := h
    have hex : execOp av o = (do let d ← Deferred.ofValue (av f) (c.args.map av); invoke d.target d.args) := by
      unfold execOp; rw [ho]
      simp only [resolve, hc]
    rw [hex]
    cases r' with
    | val v => exact (target_val hr').elim
    | enter g as => exact ⟨rfl, target_enter (hev f) hargs hr'⟩
    | round l as =>
      obtain ⟨rfl, loc, hl, hrun⟩ := target_round (P := P) (cargs := c.args.map av) (hev f) hr'
      exact ⟨rfl, loc, _, hl, hargs, hrun⟩
  · rename_i recv name hc
    simp only [Option.map_eq_some_iff, Prod.mk.injEq] at h
    obtain ⟨r', hr', rfl, rfl⟩ := h
    have hex : execOp av o = invoke (.fn (.method name) #[]) (#[av recv] ++ c.args.map av) := by
      unfold execOp; rw [ho]
      simp only [resolve, hc]
      rfl
    rw [hex]
    obtain ⟨g, as, rfl, hrun⟩ := targetM_enter (hev recv) hargs hr'
    exact ⟨rfl, hrun⟩
  · rename_i b hc
    have one : ∀ {a : AV}, c.args.toList.map ev = [a] → ∃ x, c.args = #[x] ∧ a = ev x := fun {a} h => by
      cases hl : c.args.toList with
      | nil => simp [hl] at h
      | cons x xs => cases xs with
        | nil => exact ⟨x, Array.ext' (by simpa using hl), by simpa [hl] using h.symm⟩
        | cons y ys => simp [hl] at h
    have two : ∀ {a a' : AV}, c.args.toList.map ev = [a, a'] → ∃ x y, c.args = #[x, y] ∧ a = ev x ∧ a' = ev y := fun {a a'} h => by
      cases hl : c.args.toList with
      | nil => simp [hl] at h
      | cons x xs => cases xs with
        | nil => simp [hl] at h
        | cons y ys => cases ys with
          | nil =>
            simp only [hl, List.map_cons, List.map_nil, List.cons.injEq, and_true] at h
            exact ⟨x, y, Array.ext' (by simpa using hl), h.1.symm, h.2.symm⟩
          | cons z zs => simp [hl] at h
    unfold effBuiltin at h
    split at h
    · rename_i s x hl
      obtain ⟨xs, xx, hcargs, rfl, rfl⟩ := two hl
      obtain ⟨v, ρ', w', y, rfl, h1, h2, h3, h4⟩ := append_run (P := P) (ty := o.type) hrep (hev xs) (hev xx) h
      have := builtin_v (av := av) (s := Builtin.append_ c.argTypes o.type #[av xs, av xx]) ho hc (by simp [hcargs, builtin])
      rw [this]
      exact ⟨ρ', w', h3, h2, .inl ⟨y, run_v h1, h4⟩⟩
    · rename_i s x hl
      obtain ⟨xs, xx, hcargs, rfl, rfl⟩ := two hl
      obtain ⟨v, w', y, rfl, h1, h2, h4⟩ := copy_run (P := P) (ty := o.type) hrep (hev xs) (hev xx) h
      have := builtin_v (av := av) (s := Builtin.copy_ c.argTypes o.type #[av xs, av xx]) ho hc (by simp [hcargs, builtin])
      rw [this]
      exact ⟨ρ, w', Rho.le_refl ρ, h2, .inl ⟨y, run_v h1, h4⟩⟩
    · rename_i x hl
      obtain ⟨xx, hcargs, rfl⟩ := one hl
      unfold effLenOp at h
      split at h
      · obtain ⟨v, hv, rfl, rfl⟩ := withSt_some h
        have := builtin_v (av := av) (s := Builtin.len_ c.argTypes o.type #[av xx]) ho hc (by simp [hcargs, builtin])
        rw [this]
        obtain ⟨y, h1, h2⟩ := len_run (P := P) (ty := o.type) (hev xx) hv w
        exact .same hrep ⟨y, run_v h1, h2⟩
      · exact pure_ok hrep hev hsel h
    · rename_i x hl
      obtain ⟨xx, hcargs, rfl⟩ := one hl
      unfold effCapOp at h
      split at h
      · obtain ⟨v, hv, rfl, rfl⟩ := withSt_some h
        have := builtin_v (av := av) (s := Builtin.cap_ c.argTypes o.type #[av xx]) ho hc (by simp [hcargs, builtin])
        rw [this]
        obtain ⟨y, h1, h2⟩ := cap_run (P := P) (ty := o.type) hrep (hev xx) hv
        exact .same hrep ⟨y, run_v h1, h2⟩
      · exact pure_ok hrep hev hsel h
    · exact pure_ok hrep hev hsel h
    · exact pure_ok hrep hev hsel h
    · cases h

theorem emap_push (hrep : Rep B ρ σ w) : Rep B (ρ.ext σ.newId ⟨w.heap.size, 0, 0⟩) (σ.push .emap) (w.alloc (.map #[] 0)) :=
  hrep.push rfl rfl rfl rfl rfl (show (w.heap.push _)[w.heap.size]? = _ from Array.getElem?_push_size)

theorem makeMap_ok (hrep : Rep B ρ σ w) {t : TypeId} {x : Option Operand} (ho : o.op = .makeMap t x) (hev : ∀ x, Conc (memOf B) ρ (ev x) (av x)) (h : effMakeMap P t (x.map ev) σ = some (r, σ')) : EffOk P B ρ w (execOp av o) σ σ' r := by
  have fin : ∀ {s : Sem Next}, s.run P w = .ok (.value (.map (some w.heap.size))) (w.alloc (.map #[] 0)) → EffOk P B ρ w s σ (σ.push .emap) (.val (.mp σ.newId)) := fun hs =>
    ⟨_, _, hrep.le_ext _, emap_push hrep, .inl ⟨_, hs, .mp (Rho.ext_self ρ σ.newId ⟨w.heap.size, 0, 0⟩)⟩⟩
  unfold effMakeMap at h
  split at h
  · rename_i hx
    cases h
    refine fin ?_
    cases x with
    | none => unfold execOp; rw [ho]; rfl
    | some x => cases hx
  · rename_i k n hx
    split at h
    · rename_i kt et hu
      cases h
      refine fin ?_
      cases x with
      | none => cases hx
      | some x =>
        have hx' : ev x = .s (.int k n) := by simpa using hx
        have hc := hev x
        rw [hx'] at hc
        unfold execOp; rw [ho]
        refine run_v ?_
        simp only [Option.map_some, Instr.makeMap, hc.s_eq, Sem.run_bind, run_underlying hu w, Result.andThen_ok, asInt, asIntOf, Sem.run_pure]
        rfl
    · cases h
  · cases h

theorem range_ok (hrep : Rep B ρ σ w) {t : TypeId} {x : Operand} (ho : o.op = .range t x) (hev : ∀ x, Conc (memOf B) ρ (ev x) (av x)) (h : effRange P t (ev x) σ = some (r, σ')) : EffOk P B ρ w (execOp av o) σ σ' r := by
  unfold effRange at h
  split at h
  · rename_i kt et id hu hx
    split at h
    · rename_i hg
      cases h
      have hc := hev x
      rw [hx] at hc
      generalize hax : av x = ax at hc
      cases hc with
      | mp hr =>
        rename_i l
        have hheap : w.heap[l.blk]? = some (.map #[] 0) := hrep.obj id _ l hg hr
        refine ⟨ρ.ext σ.newId ⟨w.heap.size, 0, 0⟩, w.alloc (.mapIter (some l.blk) 0 #[] 0), hrep.le_ext _,
          hrep.push rfl rfl rfl rfl rfl ⟨l, hrep.le_ext _ _ _ hr, (show (w.heap.push _)[w.heap.size]? = _ from Array.getElem?_push_size)⟩, .inl ⟨.pointer (some ⟨w.heap.size, 0, none⟩), ?_, ?_⟩⟩
        · unfold execOp; rw [ho]
          refine run_v ?_
          simp only [Instr.range, hax, Sem.run_bind, run_underlying hu w, Result.andThen_ok]
          have hgo : (getObj l.blk).run P w = .ok (.map #[] 0) w := by simp only [getObj, Sem.run, hheap]
          simp only [hgo, Result.andThen_ok]
          rfl
        · have := Conc.ptr (M := memOf B) (i := 0) (f := 0) (Rho.ext_self ρ σ.newId ⟨w.heap.size, 0, 0⟩)
          simpa using this
    · cases h
  · cases h

theorem next_ok (hrep : Rep B ρ σ w) {it : Operand} {isString : Bool} (ho : o.op = .next it isString) (hev : ∀ x, Conc (memOf B) ρ (ev x) (av x)) (h : effNext (ev it) isString σ = some (r, σ')) : EffOk P B ρ w (execOp av o) σ σ' r := by
  unfold effNext at h
  split at h
  · rename_i i hx
    split at h
    · rename_i id hg
      split at h
      · rename_i hg2
        cases h
        have hc := hev it
        rw [hx] at hc
        generalize hax : av it = ax at hc
        cases hc with
        | ptr hr =>
          rename_i l
          obtain ⟨d, hd, hheap⟩ := hrep.obj i _ l hg hr
          have hheap2 : w.heap[d.blk]? = some (.map #[] 0) := hrep.obj id _ d hg2 hd
          refine .same hrep ⟨.tuple #[.bool false], ?_, .s _⟩
          unfold execOp; rw [ho]
          refine run_v ?_
          have hgo : (getObj l.blk).run P w = .ok (.mapIter (some d.blk) 0 #[] 0) w := by simp only [getObj, Sem.run, hheap]
          have hgo2 : (getObj d.blk).run P w = .ok (.map #[] 0) w := by simp only [getObj, Sem.run, hheap2]
          have e0 : 0 * l.es + 0 = 0 := by simp
          simp only [hax, e0]
          simp [Instr.next, Sem.run_bind, hgo, hgo2, choose, Sem.run, Question.forced]
      · cases h
    · cases h
  · cases h

theorem eff_sound (hrep : Rep B ρ σ w) (hev : ∀ x, Conc (memOf B) ρ (ev x) (av x)) (h : eff P o ev σ = some (r, σ')) : EffOk P B ρ w (execOp av o) σ σ' r := by
  unfold eff at h
  split at h <;> rename_i ho
  · -- move
    cases h
    exact .same hrep ⟨_, by unfold execOp; rw [ho]; rfl, hev _⟩
  · cases h
    exact .same hrep ⟨_, by unfold execOp; rw [ho]; rfl, hev _⟩
  · -- pick
    rename_i c a b
    unfold effPick at h
    split at h
    · rename_i t ht
      cases h
      have hc := hev c
      rw [ht] at hc
      have hc' : av c = .bool t := hc.s_eq
      refine .same hrep ⟨if t then av a else av b, by unfold execOp; rw [ho]; simp [hc', asBool], ?_⟩
      cases t
      · exact hev b
      · exact hev a
    · cases h
  · -- load
    rename_i t a
    obtain ⟨v, hv, rfl, rfl⟩ := withSt_some h
    obtain ⟨y, h1, h2⟩ := load_run (P := P) hrep (hev a) hv
    refine .same hrep ⟨y, ?_, h2⟩
    unfold execOp; rw [ho]; exact run_v h1
  · -- store
    rename_i t a v
    simp only [Option.map_eq_some_iff, Prod.mk.injEq] at h
    obtain ⟨σ₁, hσ, rfl, rfl⟩ := h
    obtain ⟨w', h1, h2⟩ := store_run (P := P) hrep (hev a) (hev v) hσ
    refine ⟨ρ, w', Rho.le_refl ρ, h2, .inr ⟨?_, rfl⟩⟩
    unfold execOp; rw [ho]; exact run_u h1
  · -- alloc
    rename_i elem
    unfold effAlloc at h
    simp only [Option.map_eq_some_iff, Option.bind_eq_some_iff] at h
    obtain ⟨z, ⟨i, hi, hz⟩, he⟩ := h
    unfold effBox at he
    cases he
    obtain ⟨ρ', w', y, h1, h2, h3, h4⟩ := box_run (P := P) hrep (elem := elem) (v := z) (Concs.ofS _)
    refine ⟨ρ', w', h3, h2, .inl ⟨_, ?_, h4⟩⟩
    unfold execOp; rw [ho]
    refine run_v ?_
    simp [Instr.alloc, Sem.run_bind, zeroValue, typeInfo, hi, hz, h1]
  · -- box
    rename_i elem v
    unfold effBox at h
    cases h
    obtain ⟨ρ', w', y, h1, h2, h3, h4⟩ := box_run (P := P) hrep (elem := elem) (conc_cells (hev v))
    refine ⟨ρ', w', h3, h2, .inl ⟨_, ?_, h4⟩⟩
    unfold execOp; rw [ho]
    refine run_v ?_
    simp [Instr.box, h1]
  · -- build
    rename_i t parts
    obtain ⟨v, hv, rfl, rfl⟩ := withSt_some h
    obtain ⟨p1, p2⟩ := concs_pairs hev parts.toList
    have e : (parts.map fun (i, x) => (i, av x)).toList = parts.toList.map fun p => (p.1, av p.2) := by simp
    obtain ⟨y, h1, h2⟩ := build_run (P := P) (qs := parts.map fun (i, x) => (i, av x)) (by rw [e]; exact p1) (by rw [e]; exact p2) hv w
    refine .same hrep ⟨y, ?_, h2⟩
    unfold execOp; rw [ho]; exact run_v h1
  · -- buildSlice
    rename_i t len parts
    obtain ⟨p1, p2⟩ := concs_pairs hev parts.toList
    have e : (parts.map fun (i, x) => (i, av x)).toList = parts.toList.map fun p => (p.1, av p.2) := by simp
    obtain ⟨v, ρ', w', y, rfl, h1, h2, h3, h4⟩ := buildSlice_run (P := P) hrep (qs := parts.map fun (i, x) => (i, av x)) (by rw [e]; exact p1) (by rw [e]; exact p2) h
    refine ⟨ρ', w', h3, h2, .inl ⟨y, ?_, h4⟩⟩
    unfold execOp; rw [ho]; exact run_v h1
  · -- makeSlice
    rename_i t l c
    obtain ⟨v, ρ', w', y, rfl, h1, h2, h3, h4⟩ := makeSlice_run (P := P) hrep (hev l) (hev c) h
    refine ⟨ρ', w', h3, h2, .inl ⟨y, ?_, h4⟩⟩
    unfold execOp; rw [ho]; exact run_v h1
  · -- makeFunc
    rename_i fn first captured
    cases h
    refine .same hrep ⟨.func fn (first.map av) (captured.map av), by unfold execOp; rw [ho]; rfl, ?_⟩
    have := conc_mkFn (f := fn) (concs_map hev first.toList) (concs_map hev captured.toList)
    have e : ∀ xs : Array Operand, (xs.toList.map av).toArray = xs.map av := fun xs => by apply Array.ext'; simp
    rwa [e, e] at this
  · -- makeInterface
    rename_i t x
    unfold effMkIfc at h
    split at h
    · cases h
    · rename_i d hnot hu
      cases h
      refine .same hrep ⟨.iface t (av x), ?_, conc_mkIfc (hev x)⟩
      unfold execOp; rw [ho]
      refine run_v ?_
      cases d <;> first | (exact absurd rfl (hnot _)) | (simp [Instr.makeInterface, Sem.run_bind, run_underlying hu w])
    · cases h
  · -- fieldAddr
    rename_i t x f
    obtain ⟨v, hv, rfl, rfl⟩ := withSt_some h
    obtain ⟨y, h1, h2⟩ := fieldAddr_run (P := P) (hev x) hv w
    refine .same hrep ⟨y, ?_, h2⟩
    unfold execOp; rw [ho]; exact run_v h1
  · -- indexAddr
    rename_i t x ix
    obtain ⟨v, hv, rfl, rfl⟩ := withSt_some h
    obtain ⟨y, h1, h2⟩ := indexAddr_run (P := P) hrep (hev x) (hev ix) hv
    refine .same hrep ⟨y, ?_, h2⟩
    unfold execOp; rw [ho]; exact run_v h1
  · exact nil_ok hrep ho hev h
  · -- extract
    rename_i t i
    have ht := hev t
    unfold effExtract at h
    split at h
    · rename_i l hl
      obtain ⟨v, hv, rfl, rfl⟩ := withSt_some h
      rw [hl] at ht
      generalize hc : av t = c at ht
      cases ht with
      | tup hl =>
        rename_i vs
        obtain ⟨y, hy, hcy⟩ := hl.get hv
        refine .same hrep ⟨y, ?_, hcy⟩
        unfold execOp; rw [ho]
        refine run_v ?_
        have : vs[i]? = some y := by rw [← Array.getElem?_toList]; exact hy
        simp [hc, Instr.extract, this]
    · rename_i vs hl
      obtain ⟨v, hv, rfl, rfl⟩ := withSt_some h
      simp only [Option.map_eq_some_iff] at hv
      obtain ⟨y, hy, rfl⟩ := hv
      rw [hl] at ht
      have hc : av t = .tuple vs := ht.s_eq
      refine .same hrep ⟨y, ?_, .s y⟩
      unfold execOp; rw [ho]
      refine run_v ?_
      have : vs[i]? = some y := by rw [← Array.getElem?_toList]; exact hy
      simp [hc, Instr.extract, this]
    · exact pure_ok hrep hev (fun cs b => by rw [ho]; simp) h
  · -- field
    rename_i t x f
    unfold effFieldOp at h
    split at h
    · rename_i cs hcs
      obtain ⟨v, hv, rfl, rfl⟩ := withSt_some h
      obtain ⟨y, h1, h2⟩ := field_run (P := P) (hcs ▸ hev x) hv w
      refine .same hrep ⟨y, ?_, h2⟩
      unfold execOp; rw [ho]; exact run_v h1
    · exact pure_ok hrep hev (fun cs b => by rw [ho]; simp) h
  · -- index
    rename_i t x ix
    unfold effIndexOp at h
    split at h
    · rename_i cs hcs
      obtain ⟨v, hv, rfl, rfl⟩ := withSt_some h
      obtain ⟨y, h1, h2⟩ := index_run (P := P) (hcs ▸ hev x) (hev ix) hv w
      refine .same hrep ⟨y, ?_, h2⟩
      unfold execOp; rw [ho]; exact run_v h1
    · exact pure_ok hrep hev (fun cs b => by rw [ho]; simp) h
  · -- slice
    rename_i t x lo hi mx
    unfold effSliceOp at h
    split at h
    · obtain ⟨v, hv, rfl, rfl⟩ := withSt_some h
      obtain ⟨y, h1, h2⟩ := slice_run (P := P) hrep (hev x) (optConc_map hev lo) (optConc_map hev hi) (optConc_map hev mx) hv
      refine .same hrep ⟨y, ?_, h2⟩
      unfold execOp; rw [ho]; exact run_v h1
    · exact pure_ok hrep hev (fun cs b => by rw [ho]; simp) h
  · exact bin_ok hrep ho hev h
  · -- typeAssert
    rename_i x xt asserted ok
    unfold effAssertOp at h
    split at h
    · obtain ⟨v, hv, rfl, rfl⟩ := withSt_some h
      obtain ⟨y, h1, h2⟩ := assert_run (P := P) (xt := xt) (hev x) hv w
      refine .same hrep ⟨y, ?_, h2⟩
      unfold execOp; rw [ho]; exact run_v h1
    · exact pure_ok hrep hev (fun cs b => by rw [ho]; simp) h
  · exact pure_ok hrep hev (fun cs b => by rw [ho]; simp) h
  · exact pure_ok hrep hev (fun cs b => by rw [ho]; simp) h
  · exact call_ok hrep ho hev h
  · -- makeMap
    rename_i t r'
    exact makeMap_ok hrep ho hev h
  · rename_i t x
    exact range_ok hrep ho hev h
  · rename_i it isString
    exact next_ok hrep ho hev h
  · cases h
end

end Go.Ab
