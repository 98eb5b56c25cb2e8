/- All operations together: the abstract effect is the model's. -/
import Derived.Test.YtldckcopeiginaaZa
import Derived.RangeFuncCalls
namespace Go.Ab
variable {P : Program} {B : World} {ρ : Rho} {σ σ' : AS} {w : World}

theorem Conc.s_eq {M : Mem} {v c : Value} (h : Conc M ρ (.s v) c) : c = v := by
  cases h; rfl

def EffOk (P : Program) (B : World) (ρ : Rho) (w : World) (s : Sem Next) (σ σ' : AS) : ANext → Prop
  | .val v => ∃ ρ' w', ρ.le ρ' ∧ Rep B ρ' σ' w' ∧ ((∃ y, s.run P w = .ok (.value y) w' ∧ Conc (memOf B) ρ' v y) ∨ (s.run P w = .ok .skip w' ∧ v = uv))
  | .enter g as => σ' = σ ∧ ∃ vs : Array Value, Concs (memOf B) ρ as vs.toList ∧ ∀ w, s.run P w = (callFunc g vs).run P w
  | .round l as => σ' = σ ∧ ∃ (loc : Loc) (vs : Array Value), ρ l = some loc ∧ Concs (memOf B) ρ as vs.toList ∧ ∀ w, s.run P w = (Instr.yield loc.blk vs).run P w

theorem run_v {s : Sem Value} {y : Value} {w' : World} (h : s.run P w = .ok y w') : (do pure (Next.value (← s)) : Sem Next).run P w = .ok (.value y) w' := by
  simp [h]
theorem run_u {s : Sem Unit} {w' : World} (h : s.run P w = .ok () w') : (do s; pure Next.skip : Sem Next).run P w = .ok .skip w' := by
  simp [h]

theorem EffOk.same (hrep : Rep B ρ σ w) {s : Sem Next} {v : AV} (h : ∃ y, s.run P w = .ok (.value y) w ∧ Conc (memOf B) ρ v y) : EffOk P B ρ w s σ σ (.val v) :=
  ⟨ρ, w, Rho.le_refl ρ, hrep, .inl h⟩

theorem withSt_some {x : Option AV} {r : ANext} (h : withSt σ x = some (r, σ')) : ∃ v, x = some v ∧ r = .val v ∧ σ' = σ := by
  unfold withSt at h
  simp only [Option.map_eq_some_iff, Prod.mk.injEq] at h
  obtain ⟨v, hv, rfl, rfl⟩ := h
  exact ⟨v, hv, rfl, rfl⟩

theorem concs_pairs {M : Mem} {ev : Operand → AV} {av : Operand → Value} (hev : ∀ x, Conc M ρ (ev x) (av x)) (ps : List (Nat × Operand)) :
    (ps.map fun p => (p.1, ev p.2)).map (·.1) = (ps.map fun p => (p.1, av p.2)).map (·.1) ∧ Concs M ρ ((ps.map fun p => (p.1, ev p.2)).map (·.2)) ((ps.map fun p => (p.1, av p.2)).map (·.2)) := by
  induction ps with
  | nil => exact ⟨rfl, .nil⟩
  | cons p ps ih => exact ⟨by simp, .cons (hev p.2) ih.2⟩

section
variable {o : Oper} {ev : Operand → AV} {av : Operand → Value} {r : ANext}

theorem pure_ok (hrep : Rep B ρ σ w) (hev : ∀ x, Conc (memOf B) ρ (ev x) (av x)) (hsel : ∀ cs b, o.op ≠ .select cs b) (h : withSt σ (effPure P o ev) = some (r, σ')) : EffOk P B ρ w (execOp av o) σ σ' r := by
  obtain ⟨v, hv, rfl, rfl⟩ := withSt_some h
  exact .same hrep (pure_run hev hsel hv w)

theorem guard_ints (op : BinOp) (t : TypeId) (x y : Operand) (k k' : IntKind) (a b : Int) (w : World) : (eqGuard op t x y (.int k a) (.int k' b)).run P w = .ok () w := by
  cases op <;> rfl

theorem fast_run {op : BinOp} {t : TypeId} {x y : Operand} {u v z : Value} (h : fastBin op u v = some z) (w : World) : (do eqGuard op t x y u v; binOp op t u v : Sem Value).run P w = .ok z w := by
  unfold fastBin at h
  split at h
  · rename_i k a k' b
    split at h
    · rename_i hk
      subst hk
      rw [Sem.run_bind, guard_ints]
      cases op <;> first
        | (cases h; done)
        | (cases h; simp [binOp, Op.intArith, Op.intCmp])
    · cases h
  · cases h

theorem guard_ref {op : BinOp} {t : TypeId} {x y : Operand} {a b : AV} {c d : Value} {M : Mem} {q : Bool} (ha : Conc M ρ a c) (hb : Conc M ρ b d) (h : effEq P t a b = some q) (w : World) : (eqGuard op t x y c d).run P w = .ok () w := by
  unfold effEq at h
  split at h <;> (try split at h) <;> first
    | (cases h; done)
    | (cases ha <;> cases hb <;> cases op <;> rfl)

theorem bin_eql {t : TypeId} {a b : AV} {c d : Value} {M : Mem} {q : Bool} (ha : Conc M ρ a c) (hb : Conc M ρ b d) (h : effEq P t a b = some q) (w : World) :
    (binOp .eql t c d).run P w = .ok (.bool q) w ∧ (binOp .neq t c d).run P w = .ok (.bool !q) w := by
  have he := eq_run ha hb h w
  have hform : binOp .eql t c d = (do pure (.bool (← Op.equal t c d))) ∧ binOp .neq t c d = (do pure (.bool (!(← Op.equal t c d)))) := by
    unfold effEq at h
    split at h <;> (try split at h) <;> first
      | (cases h; done)
      | (cases ha <;> cases hb <;> exact ⟨rfl, rfl⟩)
  rw [hform.1, hform.2]
  simp [he]

theorem bin_ok (hrep : Rep B ρ σ w) {op : BinOp} {t yt : TypeId} {x y : Operand} (ho : o.op = .binOp op t x y yt) (hev : ∀ x, Conc (memOf B) ρ (ev x) (av x)) (h : effBin P op t x y (ev x) (ev y) σ = some (r, σ')) :
    EffOk P B ρ w (execOp av o) σ σ' r := by
  have hx := hev x
  have hy := hev y
  have hex : execOp av o = (do pure (Next.value (← (do eqGuard op t x y (av x) (av y); binOp op t (av x) (av y))))) := by unfold execOp; rw [ho]
  rw [hex]
  unfold effBin at h
  split at h
  · rename_i u v hu hv
    rw [hu] at hx; rw [hv] at hy
    have hx' : av x = u := hx.s_eq
    have hy' : av y = v := hy.s_eq
    rw [hx', hy']
    split at h
    · rename_i z hz
      cases h
      exact .same hrep ⟨z, run_v (fast_run hz w), .s z⟩
    · split at h
      · rename_i z hz
        cases h
        exact .same hrep ⟨z, run_v (evalP_run _ _ hz w), .s z⟩
      · cases h
  · split at h
    · simp only [Option.map_eq_some_iff, Prod.mk.injEq] at h
      obtain ⟨q, hq, rfl, rfl⟩ := h
      refine .same hrep ⟨.bool q, run_v ?_, .s _⟩
      rw [Sem.run_bind, guard_ref hx hy hq w]
      exact (bin_eql hx hy hq w).1
    · simp only [Option.map_eq_some_iff, Prod.mk.injEq] at h
      obtain ⟨q, hq, rfl, rfl⟩ := h
      refine .same hrep ⟨.bool !q, run_v ?_, .s _⟩
      rw [Sem.run_bind, guard_ref hx hy hq w]
      exact (bin_eql hx hy hq w).2
    · cases h

theorem nil_ok (hrep : Rep B ρ σ w) {x : Operand} (ho : o.op = .nilCheck x) (hev : ∀ x, Conc (memOf B) ρ (ev x) (av x)) (h : effNil P o ev (ev x) σ = some (r, σ')) : EffOk P B ρ w (execOp av o) σ σ' r := by
  have hx := hev x
  generalize hc : av x = c at hx
  unfold effNil at h
  split at h <;> rename_i he
  · cases h; rw [he] at hx
    cases hx with
    | ptr hr =>
      refine .same hrep ⟨_, ?_, .ptr hr⟩
      unfold execOp; rw [ho]; simp only [hc]; rfl
  · cases h; rw [he] at hx
    cases hx with
    | rptr hr =>
      refine .same hrep ⟨_, ?_, .rptr hr⟩
      unfold execOp; rw [ho]; simp only [hc]; rfl
  · cases h; rw [he] at hx
    cases hx with
    | ifc hr =>
      refine .same hrep ⟨_, ?_, .ifc hr⟩
      unfold execOp; rw [ho]; simp only [hc]; rfl
  · cases h; rw [he] at hx
    cases hx with
    | yld hr =>
      refine .same hrep ⟨_, ?_, .yld hr⟩
      unfold execOp; rw [ho]; simp only [hc]; rfl
  · cases h; rw [he] at hx
    cases hx with
    | fn h1 h2 =>
      refine .same hrep ⟨_, ?_, .fn h1 h2⟩
      unfold execOp; rw [ho]; simp only [hc]; rfl
  · exact pure_ok hrep hev (fun cs b => by rw [ho]; simp) h

theorem builtin_v {b : Builtin} {c : Call} {s : Sem Value} (ho : o.op = .call c) (hc : c.callee = .builtin b) (hs : builtin b c.argTypes o.type (c.args.map fun | .const _ => true | _ => false) (c.args.map av) = (do pure (.value (← s)))) :
    execOp av o = (do pure (Next.value (← s))) := by
  unfold execOp; rw [ho]
  simp only [resolve, hc]
  exact hs

theorem run_getObj {b : Nat} {x : Obj} (h : w.heap[b]? = some x) (hc : ∀ c e fz, x ≠ .cells c e fz) : (getObj b).run P w = .ok x w := by
  cases x <;> first | (exact absurd rfl (hc _ _ _)) | (simp only [getObj, Sem.run, h])
theorem run_setObj {b : Nat} {x x' : Obj} (h : w.heap[b]? = some x) (hc : ∀ c e fz, x ≠ .cells c e fz) : (setObj b x').run P w = .ok () { w with heap := w.heap.setIfInBounds b x' } := by
  cases x <;> first | (exact absurd rfl (hc _ _ _)) | (simp only [setObj, Sem.run, h])
theorem Rep.setObj' (h : Rep B ρ σ w) {id : Nat} {o o' : AObj} {l : Loc} {x' : Obj} (hg : σ.get id = some o) (hl : o.live = true) (hr : ρ id = some l)
    (hn : ∀ w', w'.heap[l.blk]? = some x' → ObjRep (memOf B) ρ w' l o') (hz : ObjThaw x') : Rep B ρ (σ.set id o') { w with heap := w.heap.setIfInBounds l.blk x' } := by
  have hlt := (h.new id l hr).2
  refine h.mod hg hl hr (by simp) (fun b hb => ?_) rfl rfl rfl (hn _ ?_) (fun x hx => ?_)
  · simp only [Array.getElem?_setIfInBounds_ne (Ne.symm hb)]
  · simp [hlt]
  · simp [hlt] at hx
    subst hx; exact hz
theorem evalP_bindK {α β : Type} (s : Sem α) (f : α → Sem β) : evalP P (s >>= f) = (evalP P s).bind fun a => evalP P (f a) := by
  show evalP P (s.bind f) = _
  induction s with
  | pure a => rfl
  | program k ih => exact ih P
  | mark m k ih => exact ih
  | _ => rfl
theorem findNow_ents {kind : TypeDesc} {kv : Value} : ∀ {es : List (Value × AV × Nat)} {xs : List MapEntry} {M : Mem} {ρ : Rho}, Ents M ρ es xs → ∀ i : Nat,
    (Instr.findNow kind kv (keyEnts es) i = none → Instr.findNow kind kv xs i = none) ∧ (Instr.findNow kind kv (keyEnts es) i = some none → Instr.findNow kind kv xs i = some none) ∧
      ∀ j u, Instr.findNow kind kv (keyEnts es) i = some (some (j, u)) → i ≤ j ∧ ∃ e, xs[j - i]? = some e ∧ Instr.findNow kind kv xs i = some (some (j, e.val)) := by
  intro es xs M ρ h
  induction h with
  | nil => intro i; exact ⟨fun h => h, fun h => h, fun j u h => by cases h⟩
  | @cons k c v b es xs hc t ih =>
    intro i
    simp only [keyEnts, List.map_cons, Instr.findNow]
    cases hs : Instr.sameNow kind kv k with
    | none => exact ⟨fun h => h, fun h => (by cases h), fun j u h => by cases h⟩
    | some q =>
      cases q with
      | true =>
        refine ⟨fun h => (by cases h), fun h => (by cases h), fun j u h => ?_⟩
        simp only [Option.some.injEq, Prod.mk.injEq] at h
        obtain ⟨rfl, rfl⟩ := h
        exact ⟨Nat.le_refl _, _, by rw [Nat.sub_self]; rfl, rfl⟩
      | false =>
        obtain ⟨h1, h2, h3⟩ := ih (i + 1)
        refine ⟨h1, h2, fun j u h => ?_⟩
        obtain ⟨hle, e, he, hf⟩ := h3 j u h
        refine ⟨by omega, e, ?_, hf⟩
        rw [show j - i = (j - (i + 1)) + 1 by omega, List.getElem?_cons_succ]
        exact he
theorem findAsk_ents {kt : TypeId} {kv : Value} : ∀ {es : List (Value × AV × Nat)} {xs : List MapEntry} {M : Mem} {ρ : Rho}, Ents M ρ es xs → ∀ i : Nat,
    (evalP P (Instr.findAsking kt kv (keyEnts es) i) = some none → evalP P (Instr.findAsking kt kv xs i) = some none) ∧
      ∀ j u, evalP P (Instr.findAsking kt kv (keyEnts es) i) = some (some (j, u)) → i ≤ j ∧ ∃ e, xs[j - i]? = some e ∧ evalP P (Instr.findAsking kt kv xs i) = some (some (j, e.val)) := by
  intro es xs M ρ h
  induction h with
  | nil => intro i; exact ⟨fun h => h, fun j u h => by cases h⟩
  | @cons k c v b es xs hc t ih =>
    intro i
    simp only [keyEnts, List.map_cons, Instr.findAsking, evalP_bindK]
    cases hs : evalP P (Op.equal kt kv k) with
    | none => exact ⟨fun h => (by cases h), fun j u h => by cases h⟩
    | some q =>
      cases q with
      | true =>
        refine ⟨fun h => (by cases h), fun j u h => ?_⟩
        simp only [Option.bind_some, if_true] at h ⊢
        have h' : some (some (i, undef)) = some (some (j, u)) := h
        simp only [Option.some.injEq, Prod.mk.injEq] at h'
        obtain ⟨rfl, rfl⟩ := h'
        exact ⟨Nat.le_refl _, _, by rw [Nat.sub_self]; rfl, rfl⟩
      | false =>
        obtain ⟨h2, h3⟩ := ih (i + 1)
        simp only [Option.bind_some, Bool.false_eq_true, if_false]
        refine ⟨h2, fun j u h => ?_⟩
        obtain ⟨hle, e, he, hf⟩ := h3 j u h
        refine ⟨by omega, e, ?_, hf⟩
        rw [show j - i = (j - (i + 1)) + 1 by omega, List.getElem?_cons_succ]
        exact he
theorem find_ents {kt : TypeId} {kv : Value} {es : List (Value × AV × Nat)} {xs : List MapEntry} {M : Mem} {ρ : Rho} (h : Ents M ρ es xs) :
    (evalP P (Instr.findKey kt kv (keyEnts es)) = some none → evalP P (Instr.findKey kt kv xs) = some none) ∧
      ∀ j u, evalP P (Instr.findKey kt kv (keyEnts es)) = some (some (j, u)) → ∃ e, xs[j]? = some e ∧ evalP P (Instr.findKey kt kv xs) = some (some (j, e.val)) := by
  unfold Instr.findKey
  simp only [evalP_bindK]
  cases hu : evalP P (underlying kt) with
  | none => exact ⟨fun h => (by cases h), fun j u h => by cases h⟩
  | some kind =>
    simp only [Option.bind_some]
    obtain ⟨h1, h2, h3⟩ := findNow_ents (kind := kind) (kv := kv) h 0
    obtain ⟨g2, g3⟩ := findAsk_ents (P := P) (kt := kt) (kv := kv) h 0
    cases hf : Instr.findNow kind kv (keyEnts es) 0 with
    | none =>
      rw [h1 hf]
      refine ⟨g2, fun j u hj => ?_⟩
      obtain ⟨_, e, he, hr⟩ := g3 j u hj
      exact ⟨e, he, hr⟩
    | some r =>
      cases r with
      | none =>
        rw [h2 hf]
        exact ⟨fun h => h, fun j u h => by cases h⟩
      | some q =>
        obtain ⟨j0, u0⟩ := q
        obtain ⟨_, e, he, hr⟩ := h3 j0 u0 hf
        rw [hr]
        refine ⟨fun h => (by cases h), fun j u hj => ?_⟩
        have hj' : some (some (j0, u0)) = some (some (j, u)) := hj
        simp only [Option.some.injEq, Prod.mk.injEq] at hj'
        obtain ⟨rfl, rfl⟩ := hj'
        exact ⟨e, he, rfl⟩
theorem findAt_some {kt : TypeId} {kv : Value} {es : List (Value × AV × Nat)} {empty : Bool} {i b : Nat} {k0 : Value} {v : AV} (h : findAt P kt kv es empty = some (some (i, k0, v, b))) :
    (∃ u, evalP P (Instr.checkKey empty 10000 kt kv) = some u) ∧ es[i]? = some (k0, v, b) ∧ ∃ u, evalP P (Instr.findKey kt kv (keyEnts es)) = some (some (i, u)) := by
  unfold findAt at h
  split at h
  · rename_i u j u' hc hf
    split at h
    · rename_i e he
      cases h
      exact ⟨⟨_, hc⟩, he, _, hf⟩
    · cases h
  · cases h
  · cases h
theorem findAt_none {kt : TypeId} {kv : Value} {es : List (Value × AV × Nat)} {empty : Bool} (h : findAt P kt kv es empty = some none) :
    (∃ u, evalP P (Instr.checkKey empty 10000 kt kv) = some u) ∧ evalP P (Instr.findKey kt kv (keyEnts es)) = some none := by
  unfold findAt at h
  split at h
  · split at h <;> cases h
  · rename_i hc hf
    exact ⟨⟨_, hc⟩, hf⟩
  · cases h
theorem modify_set {xs : List MapEntry} {i : Nat} {e : MapEntry} (f : MapEntry → MapEntry) (h : xs[i]? = some e) : xs.toArray.modify i f = (xs.set i (f e)).toArray := by
  apply Array.ext'
  apply List.ext_getElem?
  intro j
  rw [Array.toList_modify]
  simp only [List.getElem?_modify, List.getElem?_set]
  by_cases hij : i = j
  · subst hij
    obtain ⟨hl, he⟩ := List.getElem?_eq_some_iff.1 h
    simp [hl, he]
  · simp [hij]
theorem Rep.map {id : Nat} {l : Loc} {es : List (Value × AV × Nat)} {clock : Nat} (hrep : Rep B ρ σ w) (hg : σ.get id = some (.map es clock)) (hr : ρ id = some l) :
    ∃ xs, Ents (memOf B) ρ es xs ∧ w.heap[l.blk]? = some (.map xs.toArray clock) ∧ (getObj l.blk).run P w = .ok (.map xs.toArray clock) w := by
  obtain ⟨xs, h1, h2⟩ := hrep.obj id _ l hg hr
  exact ⟨xs, h1, h2, run_getObj (P := P) h2 (fun _ _ _ h => by cases h)⟩
theorem Rep.setMap {id : Nat} {l : Loc} {es es' : List (Value × AV × Nat)} {xs' : List MapEntry} {x : Obj} {clock clock' : Nat} (hrep : Rep B ρ σ w) (hg : σ.get id = some (.map es clock)) (hr : ρ id = some l) (he : Ents (memOf B) ρ es' xs') (hx : x = .map xs'.toArray clock') :
    Rep B ρ (σ.set id (.map es' clock')) { w with heap := w.heap.setIfInBounds l.blk x } := by
  subst hx
  exact hrep.setObj' (o' := .map es' clock') hg rfl hr (fun w' hw' => ⟨xs', he, hw'⟩) trivial
theorem delete_run (hrep : Rep B ρ σ w) {ats : Array TypeId} {ty : TypeId} {m k : AV} {mv kv' : Value} (hcm : Conc (memOf B) ρ m mv) (hck : Conc (memOf B) ρ k kv') (h : effDelete P ats m k σ = some (r, σ')) :
    ∃ w', Rep B ρ σ' w' ∧ (Builtin.delete_ ats ty #[mv, kv']).run P w = .ok (.tuple #[]) w' ∧ r = .val (.s (.tuple #[])) := by
  unfold effDelete at h
  split at h
  · rename_i kt et id kv hu
    obtain ⟨t, ht, hu⟩ := Option.bind_eq_some_iff.1 hu
    split at h
    · rename_i es clock hg
      have hak : kv' = kv := hck.s_eq
      subst hak
      cases hcm with
      | mp hr =>
        rename_i l
        obtain ⟨xs, hes, hheap, hgo⟩ := hrep.map (P := P) hg hr
        obtain ⟨hf1, hf2⟩ := find_ents (P := P) (kt := kt) (kv := kv') hes
        have hemp : xs.toArray.isEmpty = es.isEmpty := by
          have := hes.len
          cases xs <;> cases es <;> simp_all
        split at h
        · rename_i i e0 hfind
          obtain ⟨k0, v0, b0⟩ := e0
          obtain ⟨⟨u, hchk⟩, hei, u', hfk⟩ := findAt_some hfind
          obtain ⟨e, he, hfr⟩ := hf2 i u' hfk
          cases h
          refine ⟨_, hrep.setMap (xs' := xs.eraseIdx i) hg hr (hes.erase i) rfl, ?_, rfl⟩
          simp only [Builtin.delete_, ht, Sem.run_bind, run_underlying hu w, Result.andThen_ok, hgo, hemp, evalP_run _ _ hchk, evalP_run _ _ hfr, List.getElem?_toArray, List.getElem?_cons_zero, List.getElem?_cons_succ, Sem.run_pure]
          rw [run_setObj hheap (fun _ _ _ h => by cases h)]
          simp
        · rename_i hfind
          obtain ⟨⟨u, hchk⟩, hfk⟩ := findAt_none hfind
          cases h
          refine ⟨_, hrep.setMap (xs' := xs) hg hr hes rfl, ?_, rfl⟩
          simp only [Builtin.delete_, ht, Sem.run_bind, run_underlying hu w, Result.andThen_ok, hgo, hemp, evalP_run _ _ hchk, evalP_run _ _ (hf1 hfk), List.getElem?_toArray, List.getElem?_cons_zero, List.getElem?_cons_succ, Sem.run_pure]
          rw [run_setObj hheap (fun _ _ _ h => by cases h)]
          rfl
        · cases h
    · cases h
  · cases h
theorem call_ok (hrep : Rep B ρ σ w) {c : Call} (ho : o.op = .call c) (hev : ∀ x, Conc (memOf B) ρ (ev x) (av x)) (h : effCall P o ev c σ = some (r, σ')) : EffOk P B ρ w (execOp av o) σ σ' r := by
  have hsel : ∀ cs b, o.op ≠ .select cs b := fun cs b => by rw [ho]; simp
  have hargs : Concs (memOf B) ρ (c.args.toList.map ev) (c.args.map av).toList := by
    rw [Array.toList_map]; exact concs_map hev _
  unfold effCall at h
  split at h
  · rename_i f hc
    split at h
    · exact pure_ok hrep hev hsel h
    simp only [Option.map_eq_some_iff, Prod.mk.injEq] at h
    obtain ⟨r', hr', rfl, rfl⟩ := h
    have hex : execOp av o = (do let d ← Deferred.ofValue (av f) (c.args.map av); invoke d.target d.args) := by
      unfold execOp; rw [ho]
      simp only [resolve, hc]
    rw [hex]
    cases r' with
    | val v => exact (target_val hr').elim
    | enter g as => exact ⟨rfl, target_enter (hev f) hargs hr'⟩
    | round l as =>
      obtain ⟨rfl, loc, hl, hrun⟩ := target_round (P := P) (cargs := c.args.map av) (hev f) hr'
      exact ⟨rfl, loc, _, hl, hargs, hrun⟩
  · rename_i recv name hc
    simp only [Option.map_eq_some_iff, Prod.mk.injEq] at h
    obtain ⟨r', hr', rfl, rfl⟩ := h
    have hex : execOp av o = invoke (.fn (.method name) #[]) (#[av recv] ++ c.args.map av) := by
      unfold execOp; rw [ho]
      simp only [resolve, hc]
      rfl
    rw [hex]
    obtain ⟨g, as, rfl, hrun⟩ := targetM_enter (hev recv) hargs hr'
    exact ⟨rfl, hrun⟩
  · rename_i b hc
    have one : ∀ {a : AV}, c.args.toList.map ev = [a] → ∃ x, c.args = #[x] ∧ a = ev x := fun {a} h => by
      cases hl : c.args.toList with
      | nil => simp [hl] at h
      | cons x xs => cases xs with
        | nil => exact ⟨x, Array.ext' (by simpa using hl), by simpa [hl] using h.symm⟩
        | cons y ys => simp [hl] at h
    have two : ∀ {a a' : AV}, c.args.toList.map ev = [a, a'] → ∃ x y, c.args = #[x, y] ∧ a = ev x ∧ a' = ev y := fun {a a'} h => by
      cases hl : c.args.toList with
      | nil => simp [hl] at h
      | cons x xs => cases xs with
        | nil => simp [hl] at h
        | cons y ys => cases ys with
          | nil =>
            simp only [hl, List.map_cons, List.map_nil, List.cons.injEq, and_true] at h
            exact ⟨x, y, Array.ext' (by simpa using hl), h.1.symm, h.2.symm⟩
          | cons z zs => simp [hl] at h
    unfold effBuiltin at h
    split at h
    · rename_i s x hl
      obtain ⟨xs, xx, hcargs, rfl, rfl⟩ := two hl
      obtain ⟨v, ρ', w', y, rfl, h1, h2, h3, h4⟩ := append_run (P := P) (ty := o.type) hrep (hev xs) (hev xx) h
      have := builtin_v (av := av) (s := Builtin.append_ c.argTypes o.type #[av xs, av xx]) ho hc (by simp [hcargs, builtin])
      rw [this]
      exact ⟨ρ', w', h3, h2, .inl ⟨y, run_v h1, h4⟩⟩
    · rename_i s x hl
      obtain ⟨xs, xx, hcargs, rfl, rfl⟩ := two hl
      obtain ⟨w', h1, h2, rfl⟩ := delete_run (P := P) (ty := o.type) hrep (hev xs) (hev xx) h
      have := builtin_v (av := av) (s := Builtin.delete_ c.argTypes o.type #[av xs, av xx]) ho hc (by simp [hcargs, builtin])
      rw [this]
      exact ⟨ρ, w', Rho.le_refl ρ, h1, .inl ⟨_, run_v h2, .s _⟩⟩
    · rename_i s x hl
      obtain ⟨xs, xx, hcargs, rfl, rfl⟩ := two hl
      obtain ⟨v, w', y, rfl, h1, h2, h4⟩ := copy_run (P := P) (ty := o.type) hrep (hev xs) (hev xx) h
      have := builtin_v (av := av) (s := Builtin.copy_ c.argTypes o.type #[av xs, av xx]) ho hc (by simp [hcargs, builtin])
      rw [this]
      exact ⟨ρ, w', Rho.le_refl ρ, h2, .inl ⟨y, run_v h1, h4⟩⟩
    · rename_i x hl
      obtain ⟨xx, hcargs, rfl⟩ := one hl
      unfold effLenOp at h
      split at h
      · obtain ⟨v, hv, rfl, rfl⟩ := withSt_some h
        have := builtin_v (av := av) (s := Builtin.len_ c.argTypes o.type #[av xx]) ho hc (by simp [hcargs, builtin])
        rw [this]
        obtain ⟨y, h1, h2⟩ := len_run (P := P) (ty := o.type) (hev xx) hv w
        exact .same hrep ⟨y, run_v h1, h2⟩
      · exact pure_ok hrep hev hsel h
    · rename_i x hl
      obtain ⟨xx, hcargs, rfl⟩ := one hl
      unfold effCapOp at h
      split at h
      · obtain ⟨v, hv, rfl, rfl⟩ := withSt_some h
        have := builtin_v (av := av) (s := Builtin.cap_ c.argTypes o.type #[av xx]) ho hc (by simp [hcargs, builtin])
        rw [this]
        obtain ⟨y, h1, h2⟩ := cap_run (P := P) (ty := o.type) hrep (hev xx) hv
        exact .same hrep ⟨y, run_v h1, h2⟩
      · exact pure_ok hrep hev hsel h
    · exact pure_ok hrep hev hsel h
    · exact pure_ok hrep hev hsel h
    · cases h

theorem emap_push (hrep : Rep B ρ σ w) : Rep B (ρ.ext σ.newId ⟨w.heap.size, 0, 0, fun _ => by decide⟩) (σ.push (.map [] 0)) (w.alloc (.map #[] 0)) :=
  hrep.push rfl rfl rfl rfl rfl ⟨[], .nil, (show (w.heap.push _)[w.heap.size]? = _ from Array.getElem?_push_size)⟩

theorem makeMap_ok (hrep : Rep B ρ σ w) {t : TypeId} {x : Option Operand} (ho : o.op = .makeMap t x) (hev : ∀ x, Conc (memOf B) ρ (ev x) (av x)) (h : effMakeMap P t (x.map ev) σ = some (r, σ')) : EffOk P B ρ w (execOp av o) σ σ' r := by
  have fin : ∀ {s : Sem Next}, s.run P w = .ok (.value (.map (some w.heap.size))) (w.alloc (.map #[] 0)) → EffOk P B ρ w s σ (σ.push (.map [] 0)) (.val (.mp σ.newId)) := fun hs =>
    ⟨_, _, hrep.le_ext _, emap_push hrep, .inl ⟨_, hs, .mp (Rho.ext_self ρ σ.newId ⟨w.heap.size, 0, 0, fun _ => by decide⟩)⟩⟩
  unfold effMakeMap at h
  split at h
  · rename_i hx
    cases h
    refine fin ?_
    cases x with
    | none => unfold execOp; rw [ho]; rfl
    | some x => cases hx
  · rename_i k n hx
    split at h
    · rename_i kt et hu
      cases h
      refine fin ?_
      cases x with
      | none => cases hx
      | some x =>
        have hx' : ev x = .s (.int k n) := by simpa using hx
        have hc := hev x
        rw [hx'] at hc
        unfold execOp; rw [ho]
        refine run_v ?_
        simp only [Option.map_some, Instr.makeMap, hc.s_eq, Sem.run_bind, run_underlying hu w, Result.andThen_ok, asInt, asIntOf, Sem.run_pure]
        rfl
    · cases h
  · cases h

theorem mapUpdate_ok (hrep : Rep B ρ σ w) {t : TypeId} {m k v : Operand} (ho : o.op = .mapUpdate t m k v) (hev : ∀ x, Conc (memOf B) ρ (ev x) (av x)) (h : effMapUpdate P t (ev m) (ev k) (ev v) σ = some (r, σ')) : EffOk P B ρ w (execOp av o) σ σ' r := by
  unfold effMapUpdate at h
  split at h
  · rename_i kt et id kv hu hm hk
    split at h
    · rename_i es clock hg
      have hcm := hev m
      rw [hm] at hcm
      generalize ham : av m = am at hcm
      have hck := hev k
      rw [hk] at hck
      have hak : av k = kv := hck.s_eq
      cases hcm with
      | mp hr =>
        rename_i l
        obtain ⟨xs, hes, hheap, hgo⟩ := hrep.map (P := P) hg hr
        obtain ⟨hf1, hf2⟩ := find_ents (P := P) (kt := kt) (kv := kv) hes
        split at h
        · rename_i i k0 v0 b hfind
          obtain ⟨⟨u, hchk⟩, hei, u', hfk⟩ := findAt_some hfind
          obtain ⟨e, he, hfr⟩ := hf2 i u' hfk
          obtain ⟨c, hx, hcv⟩ := hes.get hei
          rw [hx] at he
          cases he
          split at h
          · rename_i hsb
            cases h
            refine ⟨ρ, _, Rho.le_refl ρ, hrep.setMap hg hr (hes.set (k := kv) (b := b) (hev v) i) rfl, .inr ⟨?_, rfl⟩⟩
            unfold execOp; rw [ho]
            refine run_u ?_
            have hkey : (((xs.toArray[i]?).map (·.key)).getD kv) = k0 := by simp [hx]
            simp only [Instr.mapUpdate, ham, hak, Sem.run_bind, run_underlying hu w, Result.andThen_ok, hgo, evalP_run _ _ hchk, evalP_run _ _ hfr, hkey, Instr.keyThatStays, hsb, if_true, Sem.run_pure]
            rw [run_setObj hheap (fun _ _ _ h => by cases h), modify_set _ hx]
          · cases h
        · rename_i hfind
          obtain ⟨⟨u, hchk⟩, hfk⟩ := findAt_none hfind
          cases h
          refine ⟨ρ, _, Rho.le_refl ρ, hrep.setMap hg hr (hes.snoc (k := kv) (b := clock) (hev v)) rfl, .inr ⟨?_, rfl⟩⟩
          unfold execOp; rw [ho]
          refine run_u ?_
          simp only [Instr.mapUpdate, ham, hak, Sem.run_bind, run_underlying hu w, Result.andThen_ok, hgo, evalP_run _ _ hchk, evalP_run _ _ (hf1 hfk)]
          rw [run_setObj hheap (fun _ _ _ h => by cases h)]
          simp
        · cases h
    · cases h
  · cases h
theorem mapEntry_ok (hrep : Rep B ρ σ w) {t : TypeId} {m k : Operand} (ho : o.op = .mapEntry t m k) (hev : ∀ x, Conc (memOf B) ρ (ev x) (av x)) (h : effMapEntry P t (ev m) (ev k) σ = some (r, σ')) : EffOk P B ρ w (execOp av o) σ σ' r := by
  unfold effMapEntry at h
  split at h
  · rename_i kt et id kv hu hm hk
    split at h
    · rename_i es clock hg
      have hcm := hev m
      rw [hm] at hcm
      generalize ham : av m = am at hcm
      have hck := hev k
      rw [hk] at hck
      have hak : av k = kv := hck.s_eq
      cases hcm with
      | mp hr =>
        rename_i l
        obtain ⟨xs, hes, hheap, hgo⟩ := hrep.map (P := P) hg hr
        obtain ⟨hf1, hf2⟩ := find_ents (P := P) (kt := kt) (kv := kv) hes
        split at h
        · rename_i i k0 v0 b hfind
          obtain ⟨⟨u, hchk⟩, hei, u', hfk⟩ := findAt_some hfind
          obtain ⟨e, he, hfr⟩ := hf2 i u' hfk
          obtain ⟨c, hx, hcv⟩ := hes.get hei
          rw [hx] at he
          cases he
          split at h
          · rename_i hsb
            cases h
            refine ⟨ρ, _, Rho.le_refl ρ, hrep.setMap hg hr (hes.set (k := kv) (b := b) hcv i) rfl, .inl ⟨.tuple #[c, goInt b], ?_, conc_mkTup (.cons hcv (.one (.s _)))⟩⟩
            unfold execOp; rw [ho]
            refine run_v ?_
            have hkey : (((xs.toArray[i]?).map (·.key)).getD kv) = k0 := by simp [hx]
            simp only [Instr.mapEntry, ham, hak, Sem.run_bind, run_underlying hu w, Result.andThen_ok, hgo, evalP_run _ _ hchk, evalP_run _ _ hfr, hkey, Instr.keyThatStays, hsb, if_true, Sem.run_pure]
            rw [run_setObj hheap (fun _ _ _ h => by cases h), modify_set _ hx]
            simp [hx]
          · cases h
        · rename_i hfind
          obtain ⟨⟨u, hchk⟩, hfk⟩ := findAt_none hfind
          split at h
          · rename_i z hz
            cases h
            simp only [Option.bind_eq_some_iff] at hz
            obtain ⟨ie, hi, hz⟩ := hz
            refine ⟨ρ, _, Rho.le_refl ρ, hrep.setMap hg hr (hes.snoc (k := kv) (b := clock) (.s z)) rfl, .inl ⟨.tuple #[z, goInt clock], ?_, conc_mkTup (.cons (.s z) (.one (.s _)))⟩⟩
            unfold execOp; rw [ho]
            refine run_v ?_
            have hzero : (zeroValue et).run P w = .ok z w := by simp [Sem.run_bind, zeroValue, typeInfo, hi, hz, Sem.run, program]
            simp only [Instr.mapEntry, ham, hak, Sem.run_bind, run_underlying hu w, Result.andThen_ok, hgo, evalP_run _ _ hchk, evalP_run _ _ (hf1 hfk), hzero]
            rw [run_setObj hheap (fun _ _ _ h => by cases h)]
            simp [Sem.run_pure]
          · cases h
        · cases h
    · cases h
  · cases h
theorem ents_born {es : List (Value × AV × Nat)} {xs : List MapEntry} {M : Mem} {ρ : Rho} (h : Ents M ρ es xs) (b : Int) : xs.findIdx? (fun e => (e.born : Int) == b) = es.findIdx? fun e => (e.2.2 : Int) == b := by
  induction h with
  | nil => rfl
  | cons h t ih => simp only [List.findIdx?_cons, ih]
theorem entryStore_ok (hrep : Rep B ρ σ w) {t : TypeId} {m n v : Operand} (ho : o.op = .entryStore t m n v) (hev : ∀ x, Conc (memOf B) ρ (ev x) (av x)) (h : effEntryStore (ev m) (ev n) (ev v) σ = some (r, σ')) : EffOk P B ρ w (execOp av o) σ σ' r := by
  unfold effEntryStore at h
  split at h
  · rename_i id kk b hm hn
    split at h
    · rename_i es clock hg
      have hcm := hev m
      rw [hm] at hcm
      generalize ham : av m = am at hcm
      have hck := hev n
      rw [hn] at hck
      have hak : av n = .int kk b := hck.s_eq
      cases hcm with
      | mp hr =>
        rename_i l
        obtain ⟨xs, hes, hheap, hgo⟩ := hrep.map (P := P) hg hr
        split at h
        · rename_i i hfi
          split at h
          · rename_i k0 v0 b0 hei
            cases h
            obtain ⟨c, hx, hcv⟩ := hes.get hei
            refine ⟨ρ, _, Rho.le_refl ρ, hrep.setMap hg hr (hes.set (k := k0) (b := b0) (hev v) i) rfl, .inr ⟨?_, rfl⟩⟩
            unfold execOp; rw [ho]
            refine run_u ?_
            have hfx : xs.toArray.findIdx? (fun e => (e.born : Int) == b) = some i := by
              rw [← hfi, ← ents_born hes b]; simp
            simp only [Instr.entryStore, ham, hak, Sem.run_bind, Result.andThen_ok, hgo, asInt, asIntOf, Sem.run_pure, hfx]
            rw [run_setObj hheap (fun _ _ _ h => by cases h), modify_set _ hx]
          · cases h
        · cases h
    · cases h
  · cases h
theorem lookup_ok (hrep : Rep B ρ σ w) {t : TypeId} {x k : Operand} {ok : Bool} (ho : o.op = .lookup t x k ok) (hev : ∀ x, Conc (memOf B) ρ (ev x) (av x)) (h : effLookup P o ev t (ev x) (ev k) ok σ = some (r, σ')) : EffOk P B ρ w (execOp av o) σ σ' r := by
  unfold effLookup at h
  split at h
  · rename_i id hm
    split at h
    · rename_i kt et kv hu hk
      split at h
      · rename_i es clock hg
        have hcm := hev x
        rw [hm] at hcm
        generalize ham : av x = am at hcm
        have hck := hev k
        rw [hk] at hck
        have hak : av k = kv := hck.s_eq
        cases hcm with
        | mp hr =>
          rename_i l
          obtain ⟨xs, hes, hheap, hgo⟩ := hrep.map (P := P) hg hr
          obtain ⟨hf1, hf2⟩ := find_ents (P := P) (kt := kt) (kv := kv) hes
          have hemp : xs.toArray.isEmpty = es.isEmpty := by
            have := hes.len
            cases xs <;> cases es <;> simp_all
          split at h
          · rename_i i k0 v0 b hfind
            obtain ⟨⟨u, hchk⟩, hei, u', hfk⟩ := findAt_some hfind
            obtain ⟨e, he, hfr⟩ := hf2 i u' hfk
            obtain ⟨c, hx, hcv⟩ := hes.get hei
            rw [hx] at he
            cases he
            cases h
            refine .same hrep ⟨if ok then .tuple #[c, .bool true] else c, ?_, ?_⟩
            · unfold execOp; rw [ho]
              refine run_v ?_
              simp only [Instr.lookup, ham, hak, Sem.run_bind, run_underlying hu w, Result.andThen_ok, hgo, Sem.run_pure, hemp, evalP_run _ _ hchk, evalP_run _ _ hfr]
            · cases ok
              · exact hcv
              · exact conc_mkTup (.cons hcv (.one (.s _)))
          · rename_i hfind
            obtain ⟨⟨u, hchk⟩, hfk⟩ := findAt_none hfind
            split at h
            · rename_i z hz
              cases h
              refine .same hrep ⟨_, ?_, .s _⟩
              simp only [Option.bind_eq_some_iff] at hz
              obtain ⟨ie, hi, hz⟩ := hz
              unfold execOp; rw [ho]
              refine run_v ?_
              simp only [Instr.lookup, ham, hak, Sem.run_bind, run_underlying hu w, Result.andThen_ok, hgo, Sem.run_pure, hemp, evalP_run _ _ hchk, evalP_run _ _ (hf1 hfk)]
              simp [Sem.run_bind, zeroValue, typeInfo, hi, hz]
            · cases h
          · cases h
      · cases h
    · cases h
  · exact pure_ok hrep hev (fun cs b => by rw [ho]; simp) h
theorem range_ok (hrep : Rep B ρ σ w) {t : TypeId} {x : Operand} (ho : o.op = .range t x) (hev : ∀ x, Conc (memOf B) ρ (ev x) (av x)) (h : effRange P t (ev x) σ = some (r, σ')) : EffOk P B ρ w (execOp av o) σ σ' r := by
  unfold effRange at h
  split at h
  · rename_i kt et id hu hx
    split at h
    · rename_i es clock hg
      cases h
      have hc := hev x
      rw [hx] at hc
      generalize hax : av x = ax at hc
      cases hc with
      | mp hr =>
        rename_i l
        obtain ⟨xs, hes, hheap, hgo⟩ := hrep.map (P := P) hg hr
        refine ⟨ρ.ext σ.newId ⟨w.heap.size, 0, 0, fun _ => by decide⟩, w.alloc (.mapIter (some l.blk) clock #[] clock), hrep.le_ext _,
          hrep.push rfl rfl rfl rfl rfl ⟨l, hrep.le_ext _ _ _ hr, (show (w.heap.push _)[w.heap.size]? = _ from Array.getElem?_push_size)⟩, .inl ⟨.pointer (some ⟨w.heap.size, 0, none⟩), ?_, ?_⟩⟩
        · unfold execOp; rw [ho]
          refine run_v ?_
          simp only [Instr.range, hax, Sem.run_bind, run_underlying hu w, Result.andThen_ok]
          simp only [hgo, Result.andThen_ok]
          rfl
        · have := Conc.ptr (M := memOf B) (i := 0) (f := 0) (Rho.ext_self ρ σ.newId ⟨w.heap.size, 0, 0, fun _ => by decide⟩)
          simpa using this
    · cases h
  · rename_i s hu hx
    cases h
    have hc := hev x
    rw [hx] at hc
    have hax : av x = .string s := hc.s_eq
    refine ⟨ρ.ext σ.newId ⟨w.heap.size, 0, 0, fun _ => by decide⟩, w.alloc (.stringIter s 0), hrep.le_ext _,
      hrep.push rfl rfl rfl rfl rfl (show (w.heap.push _)[w.heap.size]? = _ from Array.getElem?_push_size), .inl ⟨.pointer (some ⟨w.heap.size, 0, none⟩), ?_, ?_⟩⟩
    · unfold execOp; rw [ho]
      refine run_v ?_
      simp only [Instr.range, hax, Sem.run_bind, run_underlying hu w, Result.andThen_ok]
      rfl
    · have := Conc.ptr (M := memOf B) (i := 0) (f := 0) (Rho.ext_self ρ σ.newId ⟨w.heap.size, 0, 0, fun _ => by decide⟩)
      simpa using this
  · cases h

theorem next_ok (hrep : Rep B ρ σ w) {it : Operand} {isString : Bool} (ho : o.op = .next it isString) (hev : ∀ x, Conc (memOf B) ρ (ev x) (av x)) (h : effNext (ev it) isString σ = some (r, σ')) : EffOk P B ρ w (execOp av o) σ σ' r := by
  unfold effNext at h
  split at h
  · rename_i i hx
    split at h
    · rename_i id since seen last hg
      split at h
      · rename_i es clock hg2
        split at h
        · rename_i hall
          cases h
          have hc := hev it
          rw [hx] at hc
          generalize hax : av it = ax at hc
          cases hc with
          | ptr hr =>
            rename_i l
            obtain ⟨d, hd, hheap⟩ := hrep.obj i _ l hg hr
            obtain ⟨xs, hes, hheap2, hgo2⟩ := hrep.map (P := P) hg2 hd
            refine .same hrep ⟨.tuple #[.bool false], ?_, .s _⟩
            unfold execOp; rw [ho]
            refine run_v ?_
            have hgo : (getObj l.blk).run P w = .ok (.mapIter (some d.blk) since seen.toArray last) w := by simp only [getObj, Sem.run, hheap]
            have e0 : 0 * l.es + 0 = 0 := by simp
            simp only [hax, e0]
            have hall2 : ∀ e ∈ xs, e.born ∈ seen ∧ e.born < last := by
              intro e he
              have := hes.keys
              have hm : (e.key, e.born) ∈ xs.map (fun e => (e.key, e.born)) := List.mem_map.2 ⟨e, he, rfl⟩
              rw [this] at hm
              obtain ⟨p, hp, hpe⟩ := List.mem_map.1 hm
              have := List.all_eq_true.1 hall p hp
              simp only [Prod.mk.injEq] at hpe
              simp only [Bool.and_eq_true, decide_eq_true_eq, List.contains_iff_mem, hpe.2] at this
              exact this
            have hf : xs.toArray.filter (fun e => !seen.toArray.contains e.born) = #[] := by
              rw [Array.filter_eq_empty_iff]
              intro e he
              have := (hall2 e (by simpa using he)).1
              simpa using this
            have ht : (!seen.toArray.isEmpty && !xs.toArray.isEmpty && xs.toArray.all (fun e => decide (e.born ≥ last))) = false := by
              cases xs with
              | nil => simp
              | cons e r =>
                have := (hall2 e (by simp)).2
                have hn : ¬ last ≤ e.born := by omega
                simp [hn]
            simp only [Instr.next, Sem.run_bind, hgo, Result.andThen_ok, hgo2, ht, hf, Bool.false_eq_true, if_false]
            simp [choose, Sem.run, Question.forced]
        · cases h
      · cases h
    · cases h
  · rename_i i hx
    split at h
    · rename_i s pos hg
      have hc := hev it
      rw [hx] at hc
      generalize hax : av it = ax at hc
      cases hc with
      | ptr hr =>
        rename_i l
        have hheap : w.heap[l.blk]? = some (.stringIter s pos) := hrep.obj i _ l hg hr
        have hgo := run_getObj (P := P) hheap (fun _ _ _ h => by cases h)
        have e0 : 0 * l.es + 0 = 0 := by simp
        split at h
        · rename_i hlt
          cases h
          refine ⟨ρ, _, Rho.le_refl ρ, hrep.setObj' (o' := .siter s (pos + (Utf8.decode s pos).2)) hg rfl hr (fun w' hw' => hw') trivial, .inl ⟨_, ?_, .s _⟩⟩
          unfold execOp; rw [ho]
          refine run_v ?_
          simp only [hax, e0]
          simp only [Instr.next, Sem.run_bind, hgo, Result.andThen_ok, hlt, if_true, run_setObj hheap (fun _ _ _ h => by cases h), Sem.run_pure]
        · rename_i hlt
          cases h
          refine .same hrep ⟨.tuple #[.bool false], ?_, .s _⟩
          unfold execOp; rw [ho]
          refine run_v ?_
          simp only [hax, e0]
          simp only [Instr.next, Sem.run_bind, hgo, Result.andThen_ok, hlt, if_false, Sem.run_pure]
    · cases h
  · cases h

theorem entry_ok (hrep : Rep B ρ σ w) {it : Operand} (ho : o.op = .entry it) (hev : ∀ x, Conc (memOf B) ρ (ev x) (av x)) (h : effEntry (ev it) σ = some (r, σ')) : EffOk P B ρ w (execOp av o) σ σ' r := by
  unfold effEntry at h
  split at h
  · rename_i i hx
    split at h
    · rename_i id since seen last hg
      split at h
      · rename_i st es clock hst hg2
        split at h
        · rename_i hcl
          split at h
          · rename_i k v b hf
            cases h
            have hc := hev it
            rw [hx] at hc
            generalize hax : av it = ax at hc
            cases hc with
            | ptr hr =>
              rename_i l
              obtain ⟨d, hd, hheap⟩ := hrep.obj i _ l hg hr
              obtain ⟨xs, hes, hheap2, hgo2⟩ := hrep.map (P := P) hg2 hd
              obtain ⟨c, hfx, hcv⟩ := hes.find hf
              refine .same hrep ⟨.tuple #[k, c], ?_, ?_⟩
              · unfold execOp; rw [ho]
                refine run_v ?_
                have hgo : (getObj l.blk).run P w = .ok (.mapIter (some d.blk) since seen.toArray last) w := by simp only [getObj, Sem.run, hheap]
                have e0 : 0 * l.es + 0 = 0 := by simp
                simp only [hax, e0]
                have hb : seen.toArray.back? = some st := by simpa using hst
                simp [Instr.entry, Sem.run_bind, hgo, hgo2, hb, hcl, hfx]
              · exact conc_mkTup (vs := [k, c]) (.cons (.s k) (.cons hcv .nil))
          · cases h
        · cases h
      · cases h
    · cases h
  · cases h

theorem eff_sound (hrep : Rep B ρ σ w) (hev : ∀ x, Conc (memOf B) ρ (ev x) (av x)) (h : eff P o ev σ = some (r, σ')) : EffOk P B ρ w (execOp av o) σ σ' r := by
  unfold eff at h
  split at h <;> rename_i ho
  · -- move
    cases h
    exact .same hrep ⟨_, by unfold execOp; rw [ho]; rfl, hev _⟩
  · cases h
    exact .same hrep ⟨_, by unfold execOp; rw [ho]; rfl, hev _⟩
  · -- pick
    rename_i c a b
    unfold effPick at h
    split at h
    · rename_i t ht
      cases h
      have hc := hev c
      rw [ht] at hc
      have hc' : av c = .bool t := hc.s_eq
      refine .same hrep ⟨if t then av a else av b, by unfold execOp; rw [ho]; simp [hc', asBool], ?_⟩
      cases t
      · exact hev b
      · exact hev a
    · cases h
  · -- load
    rename_i t a
    obtain ⟨v, hv, rfl, rfl⟩ := withSt_some h
    obtain ⟨y, h1, h2⟩ := load_run (P := P) hrep (hev a) hv
    refine .same hrep ⟨y, ?_, h2⟩
    unfold execOp; rw [ho]; exact run_v h1
  · -- store
    rename_i t a v
    simp only [Option.map_eq_some_iff, Prod.mk.injEq] at h
    obtain ⟨σ₁, hσ, rfl, rfl⟩ := h
    obtain ⟨w', h1, h2⟩ := store_run (P := P) hrep (hev a) (hev v) hσ
    refine ⟨ρ, w', Rho.le_refl ρ, h2, .inr ⟨?_, rfl⟩⟩
    unfold execOp; rw [ho]; exact run_u h1
  · -- alloc
    rename_i elem
    unfold effAlloc at h
    simp only [Option.map_eq_some_iff, Option.bind_eq_some_iff] at h
    obtain ⟨z, ⟨i, hi, hz⟩, he⟩ := h
    unfold effBox at he
    cases he
    obtain ⟨ρ', w', y, h1, h2, h3, h4⟩ := box_run (P := P) hrep (elem := elem) (v := z) (Concs.ofS _)
    refine ⟨ρ', w', h3, h2, .inl ⟨_, ?_, h4⟩⟩
    unfold execOp; rw [ho]
    refine run_v ?_
    simp [Instr.alloc, Sem.run_bind, zeroValue, typeInfo, hi, hz, h1]
  · -- box
    rename_i elem v
    unfold effBox at h
    cases h
    obtain ⟨ρ', w', y, h1, h2, h3, h4⟩ := box_run (P := P) hrep (elem := elem) (conc_cells (hev v))
    refine ⟨ρ', w', h3, h2, .inl ⟨_, ?_, h4⟩⟩
    unfold execOp; rw [ho]
    refine run_v ?_
    simp [Instr.box, h1]
  · -- build
    rename_i t parts
    obtain ⟨v, hv, rfl, rfl⟩ := withSt_some h
    obtain ⟨p1, p2⟩ := concs_pairs hev parts.toList
    have e : (parts.map fun (i, x) => (i, av x)).toList = parts.toList.map fun p => (p.1, av p.2) := by simp
    obtain ⟨y, h1, h2⟩ := build_run (P := P) (qs := parts.map fun (i, x) => (i, av x)) (by rw [e]; exact p1) (by rw [e]; exact p2) hv w
    refine .same hrep ⟨y, ?_, h2⟩
    unfold execOp; rw [ho]; exact run_v h1
  · -- buildSlice
    rename_i t len parts
    obtain ⟨p1, p2⟩ := concs_pairs hev parts.toList
    have e : (parts.map fun (i, x) => (i, av x)).toList = parts.toList.map fun p => (p.1, av p.2) := by simp
    obtain ⟨v, ρ', w', y, rfl, h1, h2, h3, h4⟩ := buildSlice_run (P := P) hrep (qs := parts.map fun (i, x) => (i, av x)) (by rw [e]; exact p1) (by rw [e]; exact p2) h
    refine ⟨ρ', w', h3, h2, .inl ⟨y, ?_, h4⟩⟩
    unfold execOp; rw [ho]; exact run_v h1
  · -- makeSlice
    rename_i t l c
    obtain ⟨v, ρ', w', y, rfl, h1, h2, h3, h4⟩ := makeSlice_run (P := P) hrep (hev l) (hev c) h
    refine ⟨ρ', w', h3, h2, .inl ⟨y, ?_, h4⟩⟩
    unfold execOp; rw [ho]; exact run_v h1
  · -- makeFunc
    rename_i fn first captured
    cases h
    refine .same hrep ⟨.func fn (first.map av) (captured.map av), by unfold execOp; rw [ho]; rfl, ?_⟩
    have := conc_mkFn (f := fn) (concs_map hev first.toList) (concs_map hev captured.toList)
    have e : ∀ xs : Array Operand, (xs.toList.map av).toArray = xs.map av := fun xs => by apply Array.ext'; simp
    rwa [e, e] at this
  · -- makeInterface
    rename_i t x
    unfold effMkIfc at h
    split at h
    · cases h
    · rename_i d hnot hu
      cases h
      refine .same hrep ⟨.iface t (av x), ?_, conc_mkIfc (hev x)⟩
      unfold execOp; rw [ho]
      refine run_v ?_
      cases d <;> first | (exact absurd rfl (hnot _)) | (simp [Instr.makeInterface, Sem.run_bind, run_underlying hu w])
    · cases h
  · -- fieldAddr
    rename_i t x f
    obtain ⟨v, hv, rfl, rfl⟩ := withSt_some h
    obtain ⟨y, h1, h2⟩ := fieldAddr_run (P := P) (hev x) hv w
    refine .same hrep ⟨y, ?_, h2⟩
    unfold execOp; rw [ho]; exact run_v h1
  · -- indexAddr
    rename_i t x ix
    obtain ⟨v, hv, rfl, rfl⟩ := withSt_some h
    obtain ⟨y, h1, h2⟩ := indexAddr_run (P := P) hrep (hev x) (hev ix) hv
    refine .same hrep ⟨y, ?_, h2⟩
    unfold execOp; rw [ho]; exact run_v h1
  · exact nil_ok hrep ho hev h
  · -- extract
    rename_i t i
    have ht := hev t
    unfold effExtract at h
    split at h
    · rename_i l hl
      obtain ⟨v, hv, rfl, rfl⟩ := withSt_some h
      rw [hl] at ht
      generalize hc : av t = c at ht
      cases ht with
      | tup hl =>
        rename_i vs
        obtain ⟨y, hy, hcy⟩ := hl.get hv
        refine .same hrep ⟨y, ?_, hcy⟩
        unfold execOp; rw [ho]
        refine run_v ?_
        have : vs[i]? = some y := by rw [← Array.getElem?_toList]; exact hy
        simp [hc, Instr.extract, this]
    · rename_i vs hl
      obtain ⟨v, hv, rfl, rfl⟩ := withSt_some h
      simp only [Option.map_eq_some_iff] at hv
      obtain ⟨y, hy, rfl⟩ := hv
      rw [hl] at ht
      have hc : av t = .tuple vs := ht.s_eq
      refine .same hrep ⟨y, ?_, .s y⟩
      unfold execOp; rw [ho]
      refine run_v ?_
      have : vs[i]? = some y := by rw [← Array.getElem?_toList]; exact hy
      simp [hc, Instr.extract, this]
    · exact pure_ok hrep hev (fun cs b => by rw [ho]; simp) h
  · -- field
    rename_i t x f
    unfold effFieldOp at h
    split at h
    · rename_i cs hcs
      obtain ⟨v, hv, rfl, rfl⟩ := withSt_some h
      obtain ⟨y, h1, h2⟩ := field_run (P := P) (hcs ▸ hev x) hv w
      refine .same hrep ⟨y, ?_, h2⟩
      unfold execOp; rw [ho]; exact run_v h1
    · exact pure_ok hrep hev (fun cs b => by rw [ho]; simp) h
  · -- index
    rename_i t x ix
    unfold effIndexOp at h
    split at h
    · rename_i cs hcs
      obtain ⟨v, hv, rfl, rfl⟩ := withSt_some h
      obtain ⟨y, h1, h2⟩ := index_run (P := P) (hcs ▸ hev x) (hev ix) hv w
      refine .same hrep ⟨y, ?_, h2⟩
      unfold execOp; rw [ho]; exact run_v h1
    · exact pure_ok hrep hev (fun cs b => by rw [ho]; simp) h
  · -- slice
    rename_i t x lo hi mx
    unfold effSliceTop at h
    split at h
    · rename_i hxx
      obtain ⟨v, hv, rfl, rfl⟩ := withSt_some h
      rw [← hxx] at hv
      obtain ⟨y, h1, h2⟩ := arr_run (P := P) (hev x) (optConc_map hev lo) (optConc_map hev hi) (optConc_map hev mx) hv w
      refine .same hrep ⟨y, ?_, h2⟩
      unfold execOp; rw [ho]; exact run_v h1
    unfold effSliceOp at h
    split at h
    · obtain ⟨v, hv, rfl, rfl⟩ := withSt_some h
      obtain ⟨y, h1, h2⟩ := slice_run (P := P) hrep (hev x) (optConc_map hev lo) (optConc_map hev hi) (optConc_map hev mx) hv
      refine .same hrep ⟨y, ?_, h2⟩
      unfold execOp; rw [ho]; exact run_v h1
    · exact pure_ok hrep hev (fun cs b => by rw [ho]; simp) h
  · exact bin_ok hrep ho hev h
  · -- typeAssert
    rename_i x xt asserted ok
    unfold effAssertOp at h
    split at h
    · obtain ⟨v, hv, rfl, rfl⟩ := withSt_some h
      obtain ⟨y, h1, h2⟩ := assert_run (P := P) (xt := xt) (hev x) hv w
      refine .same hrep ⟨y, ?_, h2⟩
      unfold execOp; rw [ho]; exact run_v h1
    · exact pure_ok hrep hev (fun cs b => by rw [ho]; simp) h
  · exact pure_ok hrep hev (fun cs b => by rw [ho]; simp) h
  · -- convert
    rename_i s t x
    unfold effConv at h
    split at h
    · obtain ⟨v, hv, rfl, rfl⟩ := withSt_some h
      obtain ⟨y, h1, h2⟩ := bytes_run (P := P) hrep (hev x) hv
      refine .same hrep ⟨y, ?_, h2⟩
      unfold execOp; rw [ho]; exact run_v h1
    · exact pure_ok hrep hev (fun cs b => by rw [ho]; simp) h
  · exact call_ok hrep ho hev h
  · -- makeMap
    rename_i t r'
    exact makeMap_ok hrep ho hev h
  · rename_i t x
    exact range_ok hrep ho hev h
  · rename_i it isString
    exact next_ok hrep ho hev h
  · rename_i it
    exact entry_ok hrep ho hev h
  · rename_i t m k v
    exact mapUpdate_ok hrep ho hev h
  · rename_i t x k ok
    exact lookup_ok hrep ho hev h
  · rename_i t m k
    exact mapEntry_ok hrep ho hev h
  · rename_i t m n v
    exact entryStore_ok hrep ho hev h
  · cases h
end

end Go.Ab
/- Calls, rounds, code: the abstract run is the machine's. -/
namespace Go.Ab
variable {P : Program} {B : World}

def fenceOf : Option Nat → Fence
  | none => Fence.wide
  | some b => Fence.wide.inRound b
theorem fenceOf_fn (rb : Option Nat) (f : FuncId) : (fenceOf rb).fn f := by cases rb <;> trivial
theorem fenceOf_depth (rb : Option Nat) {n : Nat} : (fenceOf rb).depth.isSome = true → 1 ≤ n := by cases rb <;> (intro h; cases h)
theorem fenceOf_round (rb : Option Nat) : (fenceOf rb).round = rb := by cases rb <;> rfl
theorem fenceOf_in (rb : Option Nat) (l : Nat) : (fenceOf rb).inRound l = Fence.wide.inRound l := by cases rb <;> rfl

theorem callsIn_fence {rb : Option Nat} {n m : Nat} {f : FuncId} {args : Array Value} {w : World} {R : Ending → World → Prop} (h : CallsIn Fence.wide n P f args w R) : CallsIn (fenceOf rb) m P f args w R := by
  have h' : CallsIn Fence.wide m P f args w R := ⟨h.1, fun cs _ => h.2 cs (room_wide _)⟩
  cases rb with
  | none => exact h'
  | some b => exact CallsIn.inRound b h'

def DefsRel (ρ : Rho) : List Nat → List Deferred → Prop
  | [], [] => True
  | d :: ds, x :: xs => (∃ l, ρ d = some l ∧ x = { target := .collected l.blk, args := #[] }) ∧ DefsRel ρ ds xs
  | _, _ => False
theorem DefsRel.mono {ρ ρ' : Rho} (hle : ρ.le ρ') : ∀ {ds : List Nat} {xs : List Deferred}, DefsRel ρ ds xs → DefsRel ρ' ds xs
  | [], [], _ => trivial
  | [], _ :: _, h => h.elim
  | _ :: _, [], h => h.elim
  | _ :: _, _ :: _, ⟨⟨l, h1, h2⟩, h3⟩ => ⟨⟨l, hle _ _ h1, h2⟩, h3.mono hle⟩

structure CfgRel (B : World) (ρ : Rho) (s : Cfg) (a : Act) (w : World) : Prop where
  tmps : TmRel (memOf B) ρ s.tmps a.tmps
  defs : DefsRel ρ s.defs a.defers
  rep : Rep B ρ s.st w

def RdOk (ρ : Rho) : Option Nat → Option Nat → Prop
  | none, none => True
  | some l, some b => ∃ loc, ρ l = some loc ∧ loc.blk = b
  | _, _ => False
theorem RdOk.mono {ρ ρ' : Rho} (hle : ρ.le ρ') {rd rb : Option Nat} (h : RdOk ρ rd rb) : RdOk ρ' rd rb := by
  cases rd <;> cases rb <;> first | exact h | (obtain ⟨loc, h1, h2⟩ := h; exact ⟨loc, hle _ _ h1, h2⟩)

def exOf : AEx → Exit
  | .normal => .normal
  | .exit id => .exit id
  | .ret => .ret

abbrev Runner := Option Nat → Code → Cfg → Option (AEx × Cfg)

def CodeSound (P : Program) (G : Gl) (ex : Runner) : Prop :=
  ∀ rd c s e s', ex rd c s = some (e, s') → ∀ (B : World) (ρ : Rho) (a : Act) (w : World) (rb : Option Nat) (m : Nat) (Q : Exit → Act → World → Prop), GlOk (memOf B) ρ G → RdOk ρ rd rb → CfgRel B ρ s a w →
    (∀ ρ' a' w', ρ.le ρ' → CfgRel B ρ' s' a' w' → Q (exOf e) a' w') → c.wpIn (fenceOf rb) m P Q a w
def LoopWp (F : Fence) (n : Nat) (P : Program) (c : Code) (Q : Exit → Act → World → Prop) (a : Act) (w : World) : Prop :=
  ∀ (b : Frame) (k : List Item) (cs : List Frame), b.roundOf = F.round → F.fn b.fn → F.room (cs.length + 1 + n) →
    ∃ e a' w', Q e a' w' ∧ ArrivesIn (Machine.fenced P F) P (lone (b.atR a (.code c :: .inLoop c :: k)) cs w) b k cs e a' w'
def LoopSound (P : Program) (G : Gl) (ex : Runner) : Prop :=
  ∀ rd c s e s', ex rd (.loop c) s = some (e, s') → ∀ (B : World) (ρ : Rho) (a : Act) (w : World) (rb : Option Nat) (m : Nat) (Q : Exit → Act → World → Prop), GlOk (memOf B) ρ G → RdOk ρ rd rb → CfgRel B ρ s a w →
    (∀ ρ' a' w', ρ.le ρ' → CfgRel B ρ' s' a' w' → Q (exOf e) a' w') → LoopWp (fenceOf rb) m P c Q a w
def OrcOk (P : Program) (G : Gl) : Prop := ∀ f as h, G.orc f as = some h → (∃ fn, P.funcs[f]? = some fn ∧ fn.body.isNone = false) ∧
  ∀ (σ : AS) v σ', h σ = some (v, σ') → ∀ (B : World) (ρ : Rho) (w : World) (vs : Array Value), GlOk (memOf B) ρ G → Rep B ρ σ w → Concs (memOf B) ρ as vs.toList → ∀ n,
    CallsIn Fence.wide n P f vs w fun e w' => ∃ ρ' y, e = .returned y ∧ ρ.le ρ' ∧ Conc (memOf B) ρ' v y ∧ Rep B ρ' σ' w'
structure Sound (P : Program) (G : Gl) (ex : Runner) : Prop where
  orc : OrcOk P G
  code : CodeSound P G ex
  loop : LoopSound P G ex

theorem TmRel.empty {M : Mem} {ρ : Rho} (n : Nat) : TmRel M ρ ⟨n, .e⟩ (Array.replicate n undef) := by
  refine ⟨by simp, fun i => ?_⟩
  have h1 : (⟨n, .e⟩ : Tm).get i = uv := by simp [Tm.get, Tr.get_e]
  have h2 : (Array.replicate n undef).getD i undef = undef := by
    simp only [Array.getD_eq_getD_getElem?, Array.getElem?_replicate]
    split <;> rfl
  rw [h1, h2]; exact .s _

theorem TmRel.fill {M : Mem} {ρ : Rho} : ∀ (as : List AV) (vs : List Value) (i : Nat) (tm : Tm) (arr : Array Value), TmRel M ρ tm arr → Concs M ρ as vs → i + vs.length ≤ arr.size →
    ∃ arr', TmRel M ρ (tm.fill i as) arr' ∧ arr'.toList = wr arr.toList i vs
  | [], vs, i, tm, arr, h, hc, hl => by
    cases hc
    exact ⟨arr, h, by simp [wr]⟩
  | a :: as, vs, i, tm, arr, h, hc, hl => by
    cases hc with
    | cons hv hvs =>
      rename_i v vs
      simp only [List.length_cons] at hl
      obtain ⟨arr', h1, h2⟩ := TmRel.fill as vs (i + 1) _ _ (h.set hv i) hvs (by rw [Array.size_setIfInBounds]; omega)
      refine ⟨arr', h1, ?_⟩
      rw [h2]
      have hsz : arr.toList.length = arr.size := Array.length_toList
      have hlt : i < arr.toList.length := by omega
      unfold wr
      rw [Array.toList_setIfInBounds, List.set_eq_take_append_cons_drop, if_pos hlt]
      have ht : (arr.toList.take i).length = i := by rw [List.length_take]; omega
      have e1 : List.take (i + 1) (arr.toList.take i ++ v :: arr.toList.drop (i + 1)) = arr.toList.take i ++ [v] := by
        conv => lhs; rw [show i + 1 = (arr.toList.take i).length + 1 by omega]
        rw [List.take_length_add_append]; rfl
      have e2 : List.drop (i + 1 + vs.length) (arr.toList.take i ++ v :: arr.toList.drop (i + 1)) = arr.toList.drop (i + (v :: vs).length) := by
        conv => lhs; rw [show i + 1 + vs.length = (arr.toList.take i).length + (1 + vs.length) by omega]
        rw [List.drop_length_add_append, Nat.add_comm 1, List.drop_succ_cons, List.drop_drop]
        congr 1; simp; omega
      rw [e1, e2]; simp

theorem TmRel.args {M : Mem} {ρ : Rho} {as : List AV} {vs : Array Value} (hc : Concs M ρ as vs.toList) (n : Nat) :
    TmRel M ρ (Tm.fill ⟨max as.length n, .e⟩ 0 as) (vs ++ Array.replicate (n - vs.size) undef) := by
  have hl := hc.len
  have hsz : vs.toList.length = vs.size := Array.length_toList
  obtain ⟨arr, h1, h2⟩ := TmRel.fill as vs.toList 0 _ _ (TmRel.empty (M := M) (ρ := ρ) (max as.length n)) hc (by simp; omega)
  have : arr = vs ++ Array.replicate (n - vs.size) undef := by
    apply Array.ext'
    rw [h2]
    unfold wr
    simp only [List.take_zero, List.nil_append, Nat.zero_add, Array.toList_append, Array.toList_replicate, List.drop_replicate]
    congr 2
    omega
  rw [← this]; exact h1

def resOne (arr : Array Value) : ResultVar → Sem Value
  | .tmp t => pure (arr.getD t undef)
  | .cell a t => do loadVar t (← asAddr (arr.getD a undef))
theorem results_eq (fn : Func) (arr : Array Value) : results fn arr = (do let vs ← fn.results.mapM (resOne arr); pure (if h : vs.size = 1 then vs[0] else .tuple vs)) := by
  unfold results
  congr 2

theorem result_run {M : Mem} {ρ : Rho} {σ : AS} {w : World} (hM : M = memOf B) (hrep : Rep B ρ σ w) {tm : Tm} {arr : Array Value} (ht : TmRel M ρ tm arr) : ∀ (rs : List ResultVar) (vs : List AV), aresultL P tm σ rs = some vs →
    ∃ ys, (rs.mapM (resOne arr)).run P w = .ok ys w ∧ Concs M ρ vs ys
  | [], vs, h => by simp [aresultL] at h; subst h; exact ⟨[], rfl, .nil⟩
  | r :: rs, vs, h => by
    subst hM
    simp only [aresultL] at h
    split at h
    · rename_i v vs' hv hvs
      cases h
      obtain ⟨ys, h1, h2⟩ := result_run rfl hrep ht rs vs' hvs
      cases r with
      | tmp t =>
        simp only [aresult, Option.some.injEq] at hv
        subst hv
        refine ⟨arr.getD t undef :: ys, ?_, .cons (ht.get t) h2⟩
        rw [List.mapM_cons, Sem.run_bind]
        simp only [resOne, Sem.run_pure, Result.andThen_ok, Sem.run_bind, h1]
      | cell a t =>
        simp only [aresult] at hv
        obtain ⟨y, hy, hcy⟩ := load_run (P := P) hrep (ht.get a) hv
        refine ⟨y :: ys, ?_, .cons hcy h2⟩
        have hl : (do loadVar t (← asAddr (arr.getD a undef)) : Sem Value).run P w = .ok y w := by
          have hg := ht.get a
          generalize arr.getD a undef = c at hg hy
          generalize tm.get a = av at hg hv
          cases hg <;> simp only [effLoad] at hv <;> first | (cases hv; done) | exact hy
        have hl' : (resOne arr (.cell a t)).run P w = .ok y w := hl
        rw [List.mapM_cons, Sem.run_bind]
        simp only [hl', Result.andThen_ok, Sem.run_bind, h1, Sem.run_pure]
    · cases h

theorem results_run {ρ : Rho} {σ : AS} {w : World} (hrep : Rep B ρ σ w) {tm : Tm} {arr : Array Value} (ht : TmRel (memOf B) ρ tm arr) {fn : Func} {v : AV} (h : aresults P fn tm σ = some v) :
    ∃ y, (results fn arr).run P w = .ok y w ∧ Conc (memOf B) ρ v y := by
  unfold aresults at h
  simp only [Option.map_eq_some_iff] at h
  obtain ⟨vs, hvs, rfl⟩ := h
  obtain ⟨ys, h1, h2⟩ := result_run (P := P) rfl hrep ht _ _ hvs
  refine ⟨if h : ys.toArray.size = 1 then ys.toArray[0] else .tuple ys.toArray, ?_, ?_⟩
  · rw [results_eq, Sem.run_bind, Array.mapM_eq_mapM_toList, Sem.run_map, h1]
    rfl
  · have hl := h2.len
    cases vs with
    | nil => cases h2; simp [tupled]; exact conc_mkTup .nil
    | cons v vs =>
      cases h2 with
      | cons hv hvs' =>
        cases vs with
        | nil => cases hvs'; simpa [tupled] using hv
        | cons v2 vs =>
          cases hvs' with
          | cons hv2 hvs2 =>
            simp only [tupled]
            rw [dif_neg (by simp)]
            exact conc_mkTup (.cons hv (.cons hv2 hvs2))

theorem Rep.setObj {ρ : Rho} {σ : AS} {w : World} (h : Rep B ρ σ w) {id : Nat} {o o' : AObj} {l : Loc} {x : Obj} (hg : σ.get id = some o) (hl : o.live = true) (hr : ρ id = some l)
    (hn : ObjRep (memOf B) ρ { w with heap := w.heap.setIfInBounds l.blk x } l o') (hz : ObjThaw x := trivial) : Rep B ρ (σ.set id o') { w with heap := w.heap.setIfInBounds l.blk x } :=
  h.mod hg hl hr (by simp) (fun b hb => by simp [Array.getElem?_setIfInBounds_ne (fun e => hb e.symm)]) rfl rfl rfl hn (fun y hy => by
    have hlt := (h.new id l hr).2
    simp [hlt] at hy
    subst hy; exact hz)

theorem leaves {fn : Func} {arr : Array Value} {R : Ending → World → Prop} : ∀ (ds : List Nat) (xs : List Deferred) (σ σ' : AS) (ρ : Rho) (w : World), DefsRel ρ ds xs → Rep B ρ σ w → dropDefs σ ds = some σ' →
    (∀ w', Rep B ρ σ' w' → ∃ v, (results fn arr).run P w' = .ok v w' ∧ R (.returned v) w') → ∀ (n : Nat), LeavesInM Fence.wide n P fn arr R xs .returning w
  | [], [], σ, σ', ρ, w, _, hrep, h, hR, n => by
    simp [dropDefs] at h; subst h
    exact hR w hrep
  | d :: ds, x :: xs, σ, σ', ρ, w, ⟨⟨l, hl, hx⟩, hds⟩, hrep, h, hR, n => by
    simp only [dropDefs] at h
    split at h
    · rename_i hg
      have hheap : w.heap[l.blk]? = some (.deferred (some [])) := hrep.obj d _ l hg hl
      refine ⟨by simp, .inl ⟨l.blk, _, by rw [hx], ?_, leaves ds xs _ σ' ρ _ hds (hrep.setObj (o' := .dead) (x := .deferred none) hg rfl hl trivial) h hR n⟩⟩
      unfold Instr.takeDeferred
      simp only [Sem.run_bind, run_getObj hheap (by simp), Result.andThen_ok, run_setObj hheap (by simp), Sem.run_pure]
    · cases h

theorem callBody_sound {G : Gl} {ex : Runner} (hs : Sound P G ex) {f : FuncId} {as : List AV} {vs : Array Value} {σ σ' : AS} {v : AV} {ρ : Rho} {w : World} (hG : GlOk (memOf B) ρ G) (hrep : Rep B ρ σ w)
    (hc : Concs (memOf B) ρ as vs.toList) (h : callBody P ex f as σ = some (v, σ')) (n : Nat) {R : Ending → World → Prop} (hR : ∀ ρ' y w', ρ.le ρ' → Conc (memOf B) ρ' v y → Rep B ρ' σ' w' → R (.returned y) w') :
    CallsIn Fence.wide n P f vs w R := by
  unfold callBody at h
  split at h
  · rename_i fn hf
    split at h
    · rename_i c hb
      split at h
      · -- off the end
        rename_i s hex
        split at h
        · rename_i σ₁ hd
          split at h
          · rename_i v' hv
            cases h
            refine callsIn_of_wp_marks hf hb trivial (hs.code none c _ .normal s hex B ρ _ w none n _ hG trivial ⟨TmRel.args hc _, trivial, hrep⟩ ?_)
            intro ρ' a' w' hle hrel
            refine leaves s.defs a'.defers _ _ ρ' w' hrel.defs hrel.rep hd (fun w₂ hrep₂ => ?_) n
            obtain ⟨y, hy, hcy⟩ := results_run (P := P) hrep₂ hrel.tmps hv
            exact ⟨y, hy, hR ρ' y w₂ hle hcy hrep₂⟩
          · cases h
        · cases h
      · rename_i s hex
        split at h
        · rename_i σ₁ hd
          split at h
          · rename_i v' hv
            cases h
            refine callsIn_of_wp_marks hf hb trivial (hs.code none c _ .ret s hex B ρ _ w none n _ hG trivial ⟨TmRel.args hc _, trivial, hrep⟩ ?_)
            intro ρ' a' w' hle hrel
            refine leaves s.defs a'.defers _ _ ρ' w' hrel.defs hrel.rep hd (fun w₂ hrep₂ => ?_) n
            obtain ⟨y, hy, hcy⟩ := results_run (P := P) hrep₂ hrel.tmps hv
            exact ⟨y, hy, hR ρ' y w₂ hle hcy hrep₂⟩
          · cases h
        · cases h
      · cases h
    · cases h
  · cases h

theorem call_sound {G : Gl} {ex : Runner} (hs : Sound P G ex) {f : FuncId} {as : List AV} {vs : Array Value} {σ σ' : AS} {v : AV} {ρ : Rho} {w : World} (hG : GlOk (memOf B) ρ G) (hrep : Rep B ρ σ w)
    (hc : Concs (memOf B) ρ as vs.toList) (h : callWith P G ex f as σ = some (v, σ')) (n : Nat) {R : Ending → World → Prop} (hR : ∀ ρ' y w', ρ.le ρ' → Conc (memOf B) ρ' v y → Rep B ρ' σ' w' → R (.returned y) w') :
    CallsIn Fence.wide n P f vs w R := by
  unfold callWith at h
  split at h
  · rename_i g hg
    exact ((hs.orc f as g hg).2 σ v σ' h B ρ w vs hG hrep hc n).mono fun e w' ⟨ρ', y, he, hle, hcy, hrep'⟩ => by subst he; exact hR ρ' y w' hle hcy hrep'
  · exact callBody_sound hs hG hrep hc h n hR

end Go.Ab
/- Rounds, regions, all code. -/
namespace Go.Ab
variable {P : Program} {B : World}

theorem TmRel.zip {M : Mem} {ρ : Rho} : ∀ (ps : List Tmp) (as : List AV) (vs : List Value) (tm : Tm) (arr : Array Value), TmRel M ρ tm arr → Concs M ρ as vs →
    TmRel M ρ ((ps.zip as).foldl (fun (ts : Tm) (p : Tmp × AV) => ts.set p.1 p.2) tm) ((ps.zip vs).foldl (fun (ts : Array Value) (p : Tmp × Value) => ts.setIfInBounds p.1 p.2) arr)
  | [], as, vs, tm, arr, h, _ => by simpa using h
  | p :: ps, [], vs, tm, arr, h, hc => by cases hc; simpa using h
  | p :: ps, a :: as, vs, tm, arr, h, hc => by
    cases hc with
    | cons hv hvs => exact TmRel.zip ps as _ _ _ (h.set hv p) hvs

theorem run_getLoop {w : World} {b : Nat} {r : Loop} (h : w.heap[b]? = some (.loop r)) : (Instr.getLoop b).run P w = .ok r w := by
  unfold Instr.getLoop
  rw [Sem.run_bind, run_getObj h (by simp)]
  rfl

theorem heap_set {w : World} {b : Nat} {x : Obj} (h : b < w.heap.size) : ({ w with heap := w.heap.setIfInBounds b x } : World).heap[b]? = some x := by
  simp [h]

theorem round_sound {G : Gl} {ex : Runner} (hs : Sound P G ex) {l : Nat} {as : List AV} {vs : Array Value} {σ σ' : AS} {v : AV} {ρ : Rho} {w : World} {loc : Loc} (hG : GlOk (memOf B) ρ G) (hrep : Rep B ρ σ w)
    (hl : ρ l = some loc) (hc : Concs (memOf B) ρ as vs.toList) (h : roundWith ex l as σ = some (v, σ')) (rb : Option Nat) (n : Nat) {R : Ending → World → Prop}
    (hR : ∀ ρ' y w', ρ.le ρ' → Conc (memOf B) ρ' v y → Rep B ρ' σ' w' → R (.returned y) w') :
    ∃ fn tmps assign body, (Instr.yield loc.blk vs).run P w = .ok (.round loc.blk fn tmps assign body) w ∧ RoundIn (fenceOf rb) n P loc.blk fn tmps assign body w R := by
  unfold roundWith at h
  split at h
  · rename_i r hg
    split at h
    · rename_i hcond
      obtain ⟨hready, hlen⟩ := hcond
      obtain ⟨fn, arr, d, ht, hd, hheap⟩ := hrep.obj l _ loc hg hl
      simp only at h
      split at h
      · rename_i s₁ hex₁
        split at h
        · rename_i r₁ hg₁
          split at h
          · rename_i hready₁
            split at h
            · rename_i e s₂ hex₂
              split at h
              · rename_i r₂ hg₂
                cases h
                have hvl := hc.len
                have hvs : vs.toList.length = vs.size := Array.length_toList
                refine ⟨fn, (r.params.zip vs).foldl (fun tmps (t, a) => tmps.setIfInBounds t a) arr, r.assign, r.body, ?_, ?_⟩
                · unfold Instr.yield
                  rw [Sem.run_bind, run_getLoop hheap]
                  have hne : ¬ (vs.size ≠ r.params.size) := by omega
                  simp only [Result.andThen_ok]
                  rw [if_neg hne]
                  rfl
                · refine roundIn_of_wpIn (fenceOf_fn rb fn) ?_
                  rw [fenceOf_in]
                  have htz : TmRel (memOf B) ρ ((r.params.toList.zip as).foldl (fun (ts : Tm) (p : Tmp × AV) => ts.set p.1 p.2) r.tmps) ((r.params.zip vs).foldl (fun tmps (t, a) => tmps.setIfInBounds t a) arr) := by
                    have := TmRel.zip r.params.toList as vs.toList r.tmps arr ht hc
                    rw [← Array.foldl_toList, Array.toList_zip]
                    exact this
                  refine hs.code (some l) r.assign _ .normal s₁ hex₁ B ρ _ w (some loc.blk) n _ hG ⟨loc, hl, rfl⟩ ⟨htz, trivial, hrep⟩ ?_
                  intro ρ₁ a₁ w₁ hle₁ hrel₁
                  have hl₁ := hle₁ _ _ hl
                  obtain ⟨fn₁, arr₁, d₁, ht₁, hd₁, hheap₁⟩ := hrel₁.rep.obj l _ loc hg₁ hl₁
                  have hlt₁ := (hrel₁.rep.new l loc hl₁).2
                  show ∃ w₂, _
                  refine ⟨_, ?_, hs.code (some l) r.body _ e s₂ hex₂ B ρ₁ a₁ _ (some loc.blk) n _ (hG.mono hle₁) ⟨loc, hl₁, rfl⟩
                    ⟨hrel₁.tmps, hrel₁.defs, hrel₁.rep.setObj (o' := .loop { r₁ with state := .busy }) (x := .loop { state := .busy, pending := r₁.pending, fn := fn₁, tmps := arr₁, params := r₁.params, assign := r₁.assign, body := r₁.body, defers := d₁.blk })
                      hg₁ rfl hl₁ ⟨fn₁, arr₁, d₁, ht₁, hd₁, heap_set hlt₁⟩⟩ ?_⟩
                  · unfold Instr.beginRound
                    rw [Sem.run_bind, run_getLoop hheap₁]
                    simp only [Result.andThen_ok]
                    rw [Sem.run_bind, run_setObj hheap₁ (by simp)]
                    simp only [Result.andThen_ok, hready₁]
                    rfl
                  · intro ρ₂ a₂ w₂ hle₂ hrel₂
                    have hl₂ := hle₂ _ _ hl₁
                    obtain ⟨fn₂, arr₂, d₂, ht₂, hd₂, hheap₂⟩ := hrel₂.rep.obj l _ loc hg₂ hl₂
                    have hlt₂ := (hrel₂.rep.new l loc hl₂).2
                    have fin : ∀ jump : Option Code, ∃ v w', (Instr.endRound loc.blk jump).run P w₂ = .ok v w' ∧
                        (v = .bool jump.isNone ∧ Rep B ρ₂ (s₂.st.set l (.loop { r₂ with state := if jump.isNone then .ready else .done, pending := jump })) w') := by
                      intro jump
                      refine ⟨.bool jump.isNone, _, ?_, rfl, hrel₂.rep.setObj (o' := .loop { r₂ with state := if jump.isNone then .ready else .done, pending := jump })
                        (x := .loop { state := if jump.isNone then .ready else .done, pending := jump, fn := fn₂, tmps := arr₂, params := r₂.params, assign := r₂.assign, body := r₂.body, defers := d₂.blk }) hg₂ rfl hl₂ ⟨fn₂, arr₂, d₂, ht₂, hd₂, heap_set hlt₂⟩⟩
                      unfold Instr.endRound
                      rw [Sem.run_bind, run_getLoop hheap₂]
                      simp only [Result.andThen_ok]
                      rw [Sem.run_bind, run_setObj hheap₂ (by simp)]
                      rfl
                    cases e with
                    | normal =>
                      obtain ⟨v, w', h1, rfl, h3⟩ := fin none
                      exact ⟨_, w', h1, hR ρ₂ _ w' (Rho.le_trans hle₁ hle₂) (.s _) h3⟩
                    | ret =>
                      obtain ⟨v, w', h1, rfl, h3⟩ := fin (some .ret)
                      exact ⟨_, w', h1, hR ρ₂ _ w' (Rho.le_trans hle₁ hle₂) (.s _) h3⟩
                    | exit id =>
                      obtain ⟨v, w', h1, rfl, h3⟩ := fin (some (.exit id))
                      exact ⟨_, w', h1, hR ρ₂ _ w' (Rho.le_trans hle₁ hle₂) (.s _) h3⟩
              · cases h
            · cases h
          · cases h
        · cases h
      · cases h
    · cases h
  · cases h

theorem yielded_eq {M : Mem} {ρ : Rho} {tm : Tm} {arr : Array Value} (h : TmRel M ρ tm arr) (ops : Array Oper) : ayielded ops tm = yielded ops arr := by
  funext j
  unfold ayielded yielded
  cases ht : (ops[j]?).bind (·.dst) with
  | none => rfl
  | some t =>
    simp only [Option.bind_some]
    have hg := h.get t
    cases hv : arr[t]? with
    | none =>
      have : arr.getD t undef = undef := by simp [hv]
      rw [this] at hg
      split
      · rename_i b hb
        rw [hb] at hg
        have := hg.s_eq
        cases this
      · rfl
    | some v =>
      have : arr.getD t undef = v := by simp [hv]
      rw [this] at hg
      split
      · rename_i b hb
        rw [hb] at hg
        have := hg.s_eq
        subst this
        rfl
      · rename_i hno
        split
        · rename_i b hb
          cases hb
          generalize tm.get t = av at hg hno
          cases hg
          exact absurd rfl (hno b)
        · rfl

theorem eff_no_defer {o : Oper} {ev : Operand → AV} {σ : AS} {x : ANext × AS} (h : eff P o ev σ = some x) (c : Call) : o.op ≠ .defer c := by
  intro ho
  unfold eff at h
  rw [ho] at h
  cases h

def NamesOk (P : Program) : Prop := ∀ (f : FuncId) (fn : Func), P.funcs[f]? = some fn → (fn.name == "runtime.NumGoroutine") = false

theorem callFunc_run (hN : NamesOk P) {f : FuncId} {fn : Func} (hf : P.funcs[f]? = some fn) (hb : fn.body.isNone = false) (vs : Array Value) (w : World) : (callFunc f vs).run P w = .ok (.enter f vs) w := by
  unfold callFunc
  rw [Sem.run_bind, run_program]
  simp only [Result.andThen_ok, hf, hN f fn hf, hb, Bool.false_eq_true, if_false, Sem.run_pure]

theorem callWith_body {G : Gl} {ex : Runner} (hs : OrcOk P G) {f : FuncId} {as : List AV} {σ : AS} {x : AV × AS} (h : callWith P G ex f as σ = some x) : ∃ fn, P.funcs[f]? = some fn ∧ fn.body.isNone = false := by
  unfold callWith at h
  split at h
  · rename_i g hg
    exact (hs f as g hg).1
  · unfold callBody at h
    split at h
    · rename_i fn hf
      split at h
      · rename_i c hb
        exact ⟨fn, hf, by simp [hb]⟩
      · cases h
    · cases h

theorem CfgRel.put {ρ : Rho} {tm : Tm} {defs : List Nat} {σ σ' : AS} {a : Act} {w w' : World} {ρ' : Rho} (h : CfgRel B ρ ⟨tm, defs, σ⟩ a w) (hle : ρ.le ρ') (hrep : Rep B ρ' σ' w') {v : AV} {c : Value}
    (hc : Conc (memOf B) ρ' v c) (dst : Option Tmp) : CfgRel B ρ' ⟨Go.Ab.put tm dst v, defs, σ'⟩ (a.put dst c) w' := by
  refine ⟨(h.tmps.mono hle).put hc dst, ?_, hrep⟩
  cases dst <;> exact h.defs.mono hle

theorem resO_sound {G : Gl} {ex : Runner} (hs : Sound P G ex) (hN : NamesOk P) {ops : Array Oper} {o : Oper} {tm : Tm} {σ σ' : AS} {v : AV} (h : resO P G ex ops o tm σ = some (v, σ')) {defs : List Nat} {ρ : Rho} {a : Act} {w : World} (rb : Option Nat) (n : Nat)
    (hG : GlOk (memOf B) ρ G) (hrel : CfgRel B ρ ⟨tm, defs, σ⟩ a w) {K : Act → World → Prop} {Q : Exit → Act → World → Prop} (hK : ∀ ρ' a' w', ρ.le ρ' → CfgRel B ρ' ⟨put tm o.dst v, defs, σ'⟩ a' w' → K a' w') :
    if Region.wanted o (yielded ops a.tmps) then o.wpIn (fenceOf rb) n P a w K Q else (∀ f, o.about P w a.eval = some f → (fenceOf rb).fn f) ∧ K (a.put o.dst undef) w := by
  unfold resO at h
  rw [yielded_eq hrel.tmps ops] at h
  split at h
  · rename_i hw
    rw [if_pos hw]
    refine ⟨fun f _ => fenceOf_fn rb f, ?_⟩
    cases he : eff P o (evT G tm) σ with
    | none => rw [he] at h; cases h
    | some x =>
      obtain ⟨r, σ₁⟩ := x
      rw [he] at h
      rw [Oper.semAt_eq _ _ _ (eff_no_defer he)]
      have hok := eff_sound (P := P) hrel.rep (fun x => hrel.tmps.ev hG x) he
      cases r with
      | val v =>
        simp only [resNext, Option.some.injEq, Prod.mk.injEq] at h
        obtain ⟨rfl, rfl⟩ := h
        obtain ⟨ρ', w', hle, hrep', hrun⟩ := hok
        rcases hrun with ⟨y, hrun, hcy⟩ | ⟨hrun, rfl⟩
        · rw [hrun]
          exact hK ρ' _ w' hle (hrel.put hle hrep' hcy o.dst)
        · rw [hrun]
          exact hK ρ' _ w' hle (hrel.put hle hrep' (.s _) o.dst)
      | enter g as =>
        obtain ⟨rfl, vs, hvs, hrun⟩ := hok
        have hcw : callWith P G ex g as σ₁ = some (v, σ') := h
        obtain ⟨fn, hf, hb⟩ := callWith_body hs.orc hcw
        rw [hrun w, callFunc_run hN hf hb]
        refine ⟨fenceOf_depth rb, callsIn_fence (call_sound hs hG hrel.rep hvs hcw n ?_)⟩
        intro ρ' y w' hle hcy hrep'
        exact hK ρ' _ w' hle (hrel.put hle hrep' hcy o.dst)
      | round l as =>
        obtain ⟨rfl, loc, vs, hl, hvs, hrun⟩ := hok
        have hcw : roundWith ex l as σ₁ = some (v, σ') := h
        obtain ⟨fn, tmps, assign, body, h1, h2⟩ := round_sound hs hG hrel.rep hl hvs hcw rb (n - 1) (R := fun
          | .returned v, w'' => K (a.put o.dst v) w''
          | .panicked chain, w'' => Q (.panic chain) a w''
          | .outgrown, _ => LetsOut Q) (fun ρ' y w' hle hcy hrep' => hK ρ' _ w' hle (hrel.put hle hrep' hcy o.dst))
        rw [hrun w, h1]
        exact ⟨fenceOf_depth rb, h2⟩
  · rename_i hw
    rw [if_neg hw]
    cases h
    exact ⟨fun f _ => fenceOf_fn rb f, hK ρ _ w (Rho.le_refl ρ) (hrel.put (Rho.le_refl ρ) hrel.rep (.s _) o.dst)⟩

theorem stepO_sound {G : Gl} {ex : Runner} (hs : Sound P G ex) (hN : NamesOk P) {ops : Array Oper} {o : Oper} {s s' : Cfg} (h : stepO P G ex ops o s = some s') {ρ : Rho} {a : Act} {w : World} (rb : Option Nat) (n : Nat)
    (hG : GlOk (memOf B) ρ G) (hrel : CfgRel B ρ s a w) {K : Act → World → Prop} {Q : Exit → Act → World → Prop} (hK : ∀ ρ' a' w', ρ.le ρ' → CfgRel B ρ' s' a' w' → K a' w') :
    if Region.wanted o (yielded ops a.tmps) then o.wpIn (fenceOf rb) n P a w K Q else (∀ f, o.about P w a.eval = some f → (fenceOf rb).fn f) ∧ K (a.put o.dst undef) w := by
  obtain ⟨tm, defs, σ⟩ := s
  simp only [stepO] at h
  cases hr : resO P G ex ops o tm σ with
  | none => rw [hr] at h; cases h
  | some x =>
    obtain ⟨v, σ'⟩ := x
    rw [hr] at h
    cases h
    exact resO_sound hs hN hr rb n hG hrel hK

theorem runL_sound {G : Gl} {ex : Runner} (hs : Sound P G ex) (hN : NamesOk P) {ops : Array Oper} (rb : Option Nat) (n : Nat) {Q : Exit → Act → World → Prop} : ∀ (rest : List Oper) (k : Nat) (s s' : Cfg) (ρ : Rho) (a : Act) (w : World),
    ops.toList.drop k = rest → runL P G ex ops rest s = some s' → GlOk (memOf B) ρ G → CfgRel B ρ s a w → (∀ ρ' a' w', ρ.le ρ' → CfgRel B ρ' s' a' w' → Q .normal a' w') →
    wpOpsIn (fenceOf rb) n P ops Q (List.range' k (ops.size - k)) a w
  | [], k, s, s', ρ, a, w, hd, h, hG, hrel, hQ => by
    have : ops.toList.length ≤ k := by
      have := congrArg List.length hd
      simp at this ⊢; omega
    have hsz : ops.toList.length = ops.size := Array.length_toList
    have : ops.size - k = 0 := by omega
    rw [this]
    cases h
    exact hQ ρ a w (Rho.le_refl ρ) hrel
  | o :: rest, k, s, s', ρ, a, w, hd, h, hG, hrel, hQ => by
    have hlt : k < ops.toList.length := by
      have := congrArg List.length hd
      simp at this ⊢; omega
    have hsz : ops.toList.length = ops.size := Array.length_toList
    have hget : ops[k]? = some o := by
      rw [← Array.getElem?_toList]
      have := congrArg (·[0]?) hd
      simpa using this
    have hrest : ops.toList.drop (k + 1) = rest := by
      have := congrArg List.tail hd
      simpa using this
    have e : ops.size - k = (ops.size - (k + 1)) + 1 := by omega
    rw [e, List.range'_succ]
    simp only [wpOpsIn, hget]
    simp only [runL] at h
    split at h
    · rename_i s₁ h₁
      exact stepO_sound hs hN h₁ rb n hG hrel (fun ρ' a' w' hle hrel' => runL_sound hs hN rb n rest (k + 1) s₁ s' ρ' a' w' hrest h (hG.mono hle) hrel'
        (fun ρ₂ a₂ w₂ hle₂ hr₂ => hQ ρ₂ a₂ w₂ (Rho.le_trans hle hle₂) hr₂))
    · cases h

end Go.Ab
/- What an operation does to the abstract heap, as a list of acts; it does the same to any heap that holds more. -/
namespace Go.Ab
variable {P : Program}

inductive Ac where
  | set (id : Nat) (o : AObj)
  | push (o : AObj)
  | bump (n : Nat)
  | slot (k : Option Nat)
noncomputable def Ac.on : Ac → AS → AS
  | .set id o, σ => σ.set id o
  | .push o, σ => σ.push o
  | .bump n, σ => ⟨σ.objs, σ.next + n, none⟩
  | .slot k, σ => ⟨σ.objs, σ.next, k⟩
noncomputable def runA : List Ac → AS → AS
  | [], σ => σ
  | c :: r, σ => runA r (c.on σ)
def Ac.ok (N : Nat) : Ac → AS → Prop
  | .set id _, σ => ∃ o, σ.get id = some o
  | .slot (some k), _ => N ≤ k
  | _, _ => True
def okA (N : Nat) : List Ac → AS → Prop
  | [], _ => True
  | c :: r, σ => c.ok N σ ∧ okA N r (c.on σ)
variable {N : Nat}
theorem runA_append (xs ys : List Ac) (σ : AS) : runA (xs ++ ys) σ = runA ys (runA xs σ) := by
  induction xs generalizing σ with
  | nil => rfl
  | cons x xs ih => exact ih _
theorem okA_append {xs ys : List Ac} {σ : AS} (h : okA N xs σ) (h' : okA N ys (runA xs σ)) : okA N (xs ++ ys) σ := by
  induction xs generalizing σ with
  | nil => exact h'
  | cons x xs ih => exact ⟨h.1, ih h.2 h'⟩

theorem AS.objs_of_get {σ : AS} {id : Nat} {o : AObj} (h : σ.get id = some o) : ∃ n, σ.objs.get id = some (n, o) := by
  unfold AS.get at h
  split at h
  · split at h
    · rename_i n p hg
      cases h; exact ⟨n, hg⟩
    · cases h
  · cases h
theorem AS.get_of_objs {σ : AS} {id n : Nat} {o : AObj} (hl : id < σ.next) (h : σ.objs.get id = some (n, o)) : σ.get id = some o := by
  unfold AS.get; rw [if_pos hl, h]

structure Le (N : Nat) (σ σ₂ : AS) : Prop where
  next : σ₂.next = σ.next
  slot : σ₂.slot = σ.slot
  objs : ∀ id p, σ.objs.get id = some p → σ₂.objs.get id = some p
  above : ∀ id, N ≤ id → σ₂.objs.get id = σ.objs.get id
  low : N ≤ σ.next
  slow : ∀ k, σ.slot = some k → N ≤ k
theorem Le.newId {σ σ₂ : AS} (h : Le N σ σ₂) : σ₂.newId = σ.newId := by rw [AS.newId_eq, AS.newId_eq, h.next, h.slot]
theorem Le.get {σ σ₂ : AS} (h : Le N σ σ₂) (id : Nat) (o : AObj) (hg : σ.get id = some o) : σ₂.get id = some o := by
  obtain ⟨n, hn⟩ := AS.objs_of_get hg
  exact AS.get_of_objs (by rw [h.next]; exact AS.lt_of_get hg) (h.objs _ _ hn)

theorem Le.put {σ σ₂ : AS} (h : Le N σ σ₂) (k : Nat) (o : AObj) (hk : σ₂.objs.get k = σ.objs.get k) (next : Nat) (slot : Option Nat) (hn : N ≤ next) (hs : ∀ j, slot = some j → N ≤ j) :
    Le N ⟨putObj σ.objs k o, next, slot⟩ ⟨putObj σ₂.objs k o, next, slot⟩ :=
  ⟨rfl, rfl, fun id q hq => by
    simp only [putObj_get] at hq ⊢
    split at hq
    · rename_i e; rw [if_pos e, hk]; exact hq
    · rename_i e; rw [if_neg e]; exact h.objs id q hq, fun id hid => by
    simp only [putObj_get, h.above id hid, hk], hn, hs⟩

theorem Le.on {σ σ₂ : AS} (h : Le N σ σ₂) (c : Ac) (hc : c.ok N σ) : Le N (c.on σ) (c.on σ₂) := by
  have h1 := h.next
  have h2 := h.slot
  have h3 := h.low
  have h4 := h.slow
  obtain ⟨t, n, s⟩ := σ
  obtain ⟨t', n', s'⟩ := σ₂
  simp only at h1 h2 h3 h4
  subst h1 h2
  cases c with
  | set id o =>
    obtain ⟨p, hp⟩ := hc
    obtain ⟨k, hk⟩ := AS.objs_of_get hp
    exact h.put id o ((h.objs _ _ hk).trans hk.symm) n' s' h3 h4
  | push o =>
    cases s' with
    | none => exact h.put n' o (h.above _ h3) (n' + 1) none (by omega) (fun j hj => by cases hj)
    | some k => exact h.put k o (h.above _ (h4 k rfl)) n' none h3 (fun j hj => by cases hj)
  | bump m => exact ⟨rfl, rfl, h.objs, h.above, Nat.le_trans h3 (Nat.le_add_right _ _), fun j hj => by cases hj⟩
  | slot k => exact ⟨rfl, rfl, h.objs, h.above, h3, fun j hj => by
      simp only [Ac.on] at hj
      subst hj
      exact hc⟩
theorem Le.run {σ σ₂ : AS} (h : Le N σ σ₂) (cs : List Ac) (hc : okA N cs σ) : Le N (runA cs σ) (runA cs σ₂) := by
  induction cs generalizing σ σ₂ with
  | nil => exact h
  | cons c cs ih => exact ih (h.on c hc.1) hc.2
theorem next_on (σ : AS) (c : Ac) : σ.next ≤ (c.on σ).next := by
  cases c with
  | set id o => simp [Ac.on, AS.next_set]
  | push o => exact AS.next_push_le σ o
  | bump n => exact Nat.le_add_right _ _
  | slot k => exact Nat.le_refl _
theorem next_run (σ : AS) (cs : List Ac) : σ.next ≤ (runA cs σ).next := by
  induction cs generalizing σ with
  | nil => exact Nat.le_refl _
  | cons c cs ih => exact Nat.le_trans (next_on σ c) (ih _)

def Acts (N : Nat) {α : Type} (f : AS → Option (α × AS)) (σ : AS) (x : α) (σ' : AS) : Prop :=
  ∃ cs, okA N cs σ ∧ σ' = runA cs σ ∧ ∀ σ₂, Le N σ σ₂ → f σ₂ = some (x, runA cs σ₂)

theorem Acts.none {α : Type} {f : AS → Option (α × AS)} {σ : AS} {x : α} (h : ∀ σ₂, Le N σ σ₂ → f σ₂ = some (x, σ₂)) : Acts N f σ x σ := ⟨[], trivial, rfl, h⟩

variable {σ σ' : AS} {r : ANext}

theorem rows_le {σ₂ : AS} (hle : Le N σ σ₂) {o : Nat} {rows : List (List AV)} (h : σ.rows o = some rows) : σ₂.rows o = some rows := by
  unfold AS.rows at h ⊢
  split at h
  · rename_i e es x rws hg
    rw [hle.get _ _ hg]; exact h
  · cases h

theorem load_le {σ₂ : AS} (hle : Le N σ σ₂) {t : TypeId} {a v : AV} (h : effLoad P t a σ = some v) : effLoad P t a σ₂ = some v := by
  cases a <;> simp only [effLoad] at h ⊢ <;> try (cases h; done)
  · simp only [Option.bind_eq_some_iff] at h ⊢
    obtain ⟨rows, h1, h2⟩ := h
    exact ⟨rows, rows_le hle h1, h2⟩
  · exact h

theorem indexAddr_le {σ₂ : AS} (hle : Le N σ σ₂) {t : TypeId} {x ix v : AV} (h : effIndexAddr P t x ix σ = some v) : effIndexAddr P t x ix σ₂ = some v := by
  unfold effIndexAddr at h ⊢
  split at h
  · split at h
    · split at h
      · split at h
        · rename_i hg
          simp only [hle.get _ _ hg]
          exact h
        · cases h
      · exact h
      · cases h
    · cases h
  · exact h
  · cases h

theorem bytes_le {σ₂ : AS} (hle : Le N σ σ₂) {s t : TypeId} {x v : AV} (h : effBytes P s t x σ = some v) : effBytes P s t x σ₂ = some v := by
  unfold effBytes at h ⊢
  split at h
  · split at h
    · rename_i hu hg
      simp only [hu, hle.get _ _ hg]
      exact h
    · cases h
  · cases h
theorem effBytes_sl {s t : TypeId} {x v : AV} (h : effBytes P s t x σ = some v) : ∃ id i n c e es ex rows, x = .sl id i n c ∧ σ.get id = some (.cells e es ex rows) := by
  unfold effBytes at h
  split at h
  · split at h
    · rename_i hg
      exact ⟨_, _, _, _, _, _, _, _, rfl, hg⟩
    · cases h
  · cases h
theorem idOf_plain {x : AV} (h : ¬ isRef x = true) : idOf x = none := by
  cases x <;> first | rfl | exact absurd rfl h
theorem pure_plain {o : Oper} {ev : Operand → AV} {σ : AS} {r : ANext × AS} (h : withSt σ (effPure P o ev) = some r) {x : Operand} (hx : x ∈ o.op.operands.toList) : ¬ isRef (ev x) = true := by
  intro hr
  unfold effPure at h
  split at h
  · rename_i hall
    have := List.all_eq_true.1 hall x hx
    rw [hr] at this
    cases this
  · cases h
theorem lookup_cases {o : Oper} {ev : Operand → AV} {t : TypeId} {x k : Operand} {ok : Bool} {σ : AS} {r : ANext × AS} (ho : o.op = .lookup t x k ok) (h : effLookup P o ev t (ev x) (ev k) ok σ = some r) :
    (∃ id es clock, ev x = .mp id ∧ σ.get id = some (.map es clock)) ∨ idOf (ev x) = none := by
  unfold effLookup at h
  split at h
  · rename_i id hm
    split at h
    · split at h
      · rename_i hg
        exact .inl ⟨id, _, _, hm, hg⟩
      · cases h
    · cases h
  · exact .inr (idOf_plain (pure_plain h (x := x) (by rw [ho]; simp [Op.operands])))
theorem slice_le {σ₂ : AS} (hle : Le N σ σ₂) {t : TypeId} {x v : AV} {lo hi mx : Option AV} (h : effSlice P t x lo hi mx σ = some v) : effSlice P t x lo hi mx σ₂ = some v := by
  unfold effSlice at h ⊢
  split at h
  · cases h
  · rename_i hc
    rw [if_neg hc]
    split at h
    · split at h
      · split at h
        · split at h
          · rename_i hg
            simp only [hle.get _ _ hg]
            exact h
          · cases h
        · exact h
        · cases h
      · cases h
    · cases h

theorem cap_le {σ₂ : AS} (hle : Le N σ σ₂) {ats : Array TypeId} {x v : AV} (h : effCap P ats x σ = some v) : effCap P ats x σ₂ = some v := by
  unfold effCap at h ⊢
  split at h
  · exact h
  · split at h
    · rename_i hg
      simp only [hle.get _ _ hg]
      exact h
    · cases h
  · exact h
  · cases h

theorem src_le {σ₂ : AS} (hle : Le N σ σ₂) {size : Nat} {x : AV} {rows : List (List AV)} (h : srcRows size x σ = some rows) : srcRows size x σ₂ = some rows := by
  unfold srcRows at h ⊢
  split at h
  · split at h
    · rename_i hg
      simp only [hle.get _ _ hg]
      exact h
    · cases h
  · exact h
  · exact h
  · exact h
  · exact h
  · cases h

theorem withSt_acts {f : AS → Option AV} {v : AV} (_h : f σ = some v) (hle : ∀ σ₂, Le N σ σ₂ → f σ₂ = some v) : Acts N (fun σ => withSt σ (f σ)) σ (.val v) σ :=
  .none fun σ₂ hl => by simp [withSt, hle σ₂ hl]

theorem store_acts {t : TypeId} {a v : AV} (h : effStore P t a v σ = some σ') : Acts N (fun σ => (effStore P t a v σ).map fun σ' => (ANext.val uv, σ')) σ (.val uv) σ' := by
  cases a <;> simp only [effStore] at h <;> try (cases h; done)
  rename_i o i f
  split at h
  · rename_i e es x rows hg
    split at h
    · rename_i row hrow
      split at h
      · rename_i hc
        cases h
        exact ⟨[.set o (.cells e es x (rows.set i (writeRow row f (cellsOf v))))], ⟨⟨_, hg⟩, trivial⟩, rfl, fun σ₂ hl => by
          simp only [effStore, hl.get _ _ hg, hrow]
          rw [if_pos hc]; rfl⟩
      · cases h
    · cases h
  · cases h

theorem push_acts {g : Nat → ANext} {o : AObj} : Acts N (fun σ => some (g σ.newId, σ.push o)) σ (g σ.newId) (σ.push o) :=
  ⟨[.push o], ⟨trivial, trivial⟩, rfl, fun σ₂ hl => by show some (g σ₂.newId, σ₂.push o) = _; rw [hl.newId]; rfl⟩

theorem buildSlice_acts {t : TypeId} {len : Nat} {ps : List (Nat × AV)} (h : effBuildSlice P t len ps σ = some (r, σ')) : Acts N (effBuildSlice P t len ps) σ r σ' := by
  unfold effBuildSlice at h
  split at h
  · rename_i elem hu
    split at h
    · rename_i info hi
      split at h
      · rename_i z hz
        split at h
        · rename_i hc
          split at h
          · rename_i rows hr
            cases h
            exact ⟨[.push (.cells elem info.size true rows)], ⟨trivial, trivial⟩, rfl, fun σ₂ hl => by simp only [effBuildSlice, hu, hi, hz]; rw [if_pos hc]; simp only [hr, hl.newId]; rfl⟩
          · cases h
        · cases h
      · cases h
    · cases h
  · cases h

theorem makeSlice_acts {t : TypeId} {l c : AV} (h : effMakeSlice P t l c σ = some (r, σ')) : Acts N (effMakeSlice P t l c) σ r σ' := by
  unfold effMakeSlice at h
  split at h
  · rename_i elem kl len kc cap hu
    split at h
    · rename_i info hi
      split at h
      · rename_i z hz
        split at h
        · rename_i hc
          cases h
          exact ⟨[.push (.cells elem info.size true (List.replicate cap.toNat (z.cells.toList.map .s)))], ⟨trivial, trivial⟩, rfl, fun σ₂ hl => by simp only [effMakeSlice, hu, hi, hz]; rw [if_pos hc]; simp only [hl.newId]; rfl⟩
        · cases h
      · cases h
    · cases h
  · cases h

theorem copy_acts {ats : Array TypeId} {d x : AV} (h : effCopy P ats d x σ = some (r, σ')) : Acts N (effCopy P ats d x) σ r σ' := by
  unfold effCopy at h
  split at h
  · rename_i t ht
    split at h
    · rename_i elem hu
      split at h
      · rename_i size hs
        split at h
        · rename_i news o i n cap hsrc
          split at h
          · rename_i e es ex rows hg
            split at h
            · rename_i hc
              simp only [Option.some.injEq, Prod.mk.injEq] at h
              obtain ⟨rfl, rfl⟩ := h
              exact ⟨[.set o (.cells e es ex (rows.take i ++ news.take (min news.length n) ++ rows.drop (i + min news.length n)))], ⟨⟨_, hg⟩, trivial⟩, rfl, fun σ₂ hl => by
                simp only [effCopy, ht, hu, hs, src_le hl hsrc, hl.get _ _ hg]
                rw [if_pos hc]; rfl⟩
            · cases h
          · cases h
        · cases h
      · cases h
    · cases h
  · cases h

theorem makeMap_acts {t : TypeId} {x : Option AV} (h : effMakeMap P t x σ = some (r, σ')) : Acts N (effMakeMap P t x) σ r σ' := by
  unfold effMakeMap at h
  split at h
  · cases h
    exact ⟨[.push (.map [] 0)], ⟨trivial, trivial⟩, rfl, fun σ₂ hl => by simp only [effMakeMap, hl.newId]; rfl⟩
  · split at h
    · rename_i hu
      cases h
      exact ⟨[.push (.map [] 0)], ⟨trivial, trivial⟩, rfl, fun σ₂ hl => by simp only [effMakeMap, hu, hl.newId]; rfl⟩
    · cases h
  · cases h

theorem range_acts {t : TypeId} {x : AV} (h : effRange P t x σ = some (r, σ')) : Acts N (effRange P t x) σ r σ' := by
  unfold effRange at h
  split at h
  · rename_i kt et o hu
    split at h
    · rename_i hg
      cases h
      exact ⟨[.push (.iter o _ [] _)], ⟨trivial, trivial⟩, rfl, fun σ₂ hl => by simp only [effRange, hu, hl.get _ _ hg, hl.newId]; rfl⟩
    · cases h
  · rename_i s hu
    cases h
    exact ⟨[.push (.siter s 0)], ⟨trivial, trivial⟩, rfl, fun σ₂ hl => by simp only [effRange, hu, hl.newId]; rfl⟩
  · cases h

theorem next_acts {it : AV} {b : Bool} (h : effNext it b σ = some (r, σ')) : Acts N (effNext it b) σ r σ' := by
  unfold effNext at h
  split at h
  · split at h
    · rename_i hg
      split at h
      · rename_i hg2
        split at h
        · rename_i hall
          cases h
          exact .none fun σ₂ hl => by simp only [effNext, hl.get _ _ hg, hl.get _ _ hg2, hall, if_true]
        · cases h
      · cases h
    · cases h
  · rename_i i
    split at h
    · rename_i s pos hg
      split at h
      · rename_i hlt
        cases h
        exact ⟨[.set i (.siter s (pos + (Utf8.decode s pos).2))], ⟨⟨_, hg⟩, trivial⟩, rfl, fun σ₂ hl => by simp only [effNext, hl.get _ _ hg, hlt, if_true]; rfl⟩
      · rename_i hlt
        cases h
        exact .none fun σ₂ hl => by simp only [effNext, hl.get _ _ hg, hlt, if_false]
    · cases h
  · cases h

theorem entry_acts {it : AV} (h : effEntry it σ = some (r, σ')) : Acts N (effEntry it) σ r σ' := by
  unfold effEntry at h
  split at h
  · split at h
    · rename_i hg
      split at h
      · rename_i hst hg2
        split at h
        · rename_i hcl
          split at h
          · rename_i hf
            cases h
            exact .none fun σ₂ hl => by simp only [effEntry, hl.get _ _ hg, hl.get _ _ hg2, hst, hcl, if_true, hf]
          · cases h
        · cases h
      · cases h
    · cases h
  · cases h

theorem mapUpdate_acts {t : TypeId} {m k v : AV} (h : effMapUpdate P t m k v σ = some (r, σ')) : Acts N (effMapUpdate P t m k v) σ r σ' := by
  unfold effMapUpdate at h
  split at h
  · rename_i kt et id kv hu
    split at h
    · rename_i es clock hg
      split at h
      · rename_i i k0 v0 b hfind
        split at h
        · rename_i hsb
          cases h
          exact ⟨[.set id (.map (es.set i (kv, v, b)) clock)], ⟨⟨_, hg⟩, trivial⟩, rfl, fun σ₂ hl => by
            simp only [effMapUpdate, hu, hl.get _ _ hg, hfind, hsb, if_true]; rfl⟩
        · cases h
      · rename_i hfind
        cases h
        exact ⟨[.set id (.map (es ++ [(kv, v, clock)]) (clock + 1))], ⟨⟨_, hg⟩, trivial⟩, rfl, fun σ₂ hl => by
          simp only [effMapUpdate, hu, hl.get _ _ hg, hfind]; rfl⟩
      · cases h
    · cases h
  · cases h
theorem mapEntry_acts {t : TypeId} {m k : AV} (h : effMapEntry P t m k σ = some (r, σ')) : Acts N (effMapEntry P t m k) σ r σ' := by
  unfold effMapEntry at h
  split at h
  · rename_i kt et id kv hu
    split at h
    · rename_i es clock hg
      split at h
      · rename_i i k0 v0 b hfind
        split at h
        · rename_i hsb
          cases h
          exact ⟨[.set id (.map (es.set i (kv, v0, b)) clock)], ⟨⟨_, hg⟩, trivial⟩, rfl, fun σ₂ hl => by
            simp only [effMapEntry, hu, hl.get _ _ hg, hfind, hsb, if_true]; rfl⟩
        · cases h
      · rename_i hfind
        split at h
        · rename_i z hz
          cases h
          exact ⟨[.set id (.map (es ++ [(kv, .s z, clock)]) (clock + 1))], ⟨⟨_, hg⟩, trivial⟩, rfl, fun σ₂ hl => by
            simp only [effMapEntry, hu, hl.get _ _ hg, hfind, hz]; rfl⟩
        · cases h
      · cases h
    · cases h
  · cases h
theorem entryStore_acts {m n v : AV} (h : effEntryStore m n v σ = some (r, σ')) : Acts N (effEntryStore m n v) σ r σ' := by
  unfold effEntryStore at h
  split at h
  · rename_i id kk b
    split at h
    · rename_i es clock hg
      split at h
      · rename_i i hi
        split at h
        · rename_i k0 v0 b0 he
          cases h
          exact ⟨[.set id (.map (es.set i (k0, v, b0)) clock)], ⟨⟨_, hg⟩, trivial⟩, rfl, fun σ₂ hl => by
            simp only [effEntryStore, hl.get _ _ hg, hi, he]; rfl⟩
        · cases h
      · cases h
    · cases h
  · cases h
theorem delete_acts {ats : Array TypeId} {m k : AV} (h : effDelete P ats m k σ = some (r, σ')) : Acts N (effDelete P ats m k) σ r σ' := by
  unfold effDelete at h
  split at h
  · rename_i kt et id kv hu
    split at h
    · rename_i es clock hg
      split at h
      · rename_i i e hfind
        cases h
        exact ⟨[.set id (.map (es.eraseIdx i) clock)], ⟨⟨_, hg⟩, trivial⟩, rfl, fun σ₂ hl => by
          simp only [effDelete, hu, hl.get _ _ hg, hfind]; rfl⟩
      · rename_i hfind
        cases h
        exact ⟨[.set id (.map es clock)], ⟨⟨_, hg⟩, trivial⟩, rfl, fun σ₂ hl => by
          simp only [effDelete, hu, hl.get _ _ hg, hfind]; rfl⟩
      · cases h
    · cases h
  · cases h
theorem lookup_acts {o : Oper} {ev : Operand → AV} {t : TypeId} {x k : AV} {ok : Bool} (h : effLookup P o ev t x k ok σ = some (r, σ')) : Acts N (effLookup P o ev t x k ok) σ r σ' := by
  unfold effLookup at h
  split at h
  · rename_i id
    split at h
    · rename_i kt et kv hu
      split at h
      · rename_i es clock hg
        split at h
        · rename_i i k0 v0 b hfind
          cases h
          exact .none fun σ₂ hl => by simp only [effLookup, hu, hl.get _ _ hg, hfind]
        · rename_i hfind
          split at h
          · rename_i z hz
            cases h
            exact .none fun σ₂ hl => by simp only [effLookup, hu, hl.get _ _ hg, hfind, hz]
          · cases h
        · cases h
      · cases h
    · cases h
  · rename_i hx
    obtain ⟨v, hv, rfl, rfl⟩ := withSt_some h
    exact .none fun σ₂ hl => by
      unfold effLookup
      split
      · exact absurd rfl (hx _)
      · simp only [withSt, hv, Option.map_some]

set_option maxHeartbeats 2000000 in
theorem app_le {σ₂ : AS} (hle : Le N σ σ₂) {info : TypeInfo} {x : AV} {rows : List (List AV)} (h : appRows info x σ = some rows) : appRows info x σ₂ = some rows := by
  unfold appRows at h ⊢
  split at h
  · exact h
  · exact src_le hle h
theorem append_acts {ats : Array TypeId} {s x : AV} (h : effAppend P ats s x σ = some (r, σ')) : Acts N (effAppend P ats s x) σ r σ' := by
  unfold effAppend at h
  split at h
  · rename_i t tx hats
    split at h
    · rename_i hok
      split at h
      · rename_i elem ht
        split at h
        · rename_i info hi
          split at h
          · rename_i z news hz hsrc
            simp only at h
            split at h
            · rename_i hcond
              split at h
              · split at h
                · rename_i h0
                  cases h
                  exact .none fun σ₂ hl => by
                    simp only [effAppend, hats, ht, hi, hz, app_le hl hsrc]
                    rw [if_pos hok, if_pos hcond, if_pos h0]
                · rename_i h0
                  split at h
                  · rename_i hc
                    cases h
                    exact ⟨[.push (.cells elem info.size false ([] ++ news))], ⟨trivial, trivial⟩, rfl, fun σ₂ hl => by
                      simp only [effAppend, hats, ht, hi, hz, app_le hl hsrc]
                      rw [if_pos hok, if_pos hcond, if_neg h0, if_pos hc, hl.newId]; rfl⟩
                  · cases h
              · rename_i o i len cap
                split at h
                · rename_i e es exact_ rows hg
                  split at h
                  · rename_i hc0
                    split at h
                    · rename_i c
                      split at h
                      · rename_i hroom
                        split at h
                        · rename_i hin
                          cases h
                          exact ⟨[.set o (.cells e es exact_ (rows.take (i + len) ++ news ++ rows.drop (i + len + news.length)))], ⟨⟨_, hg⟩, trivial⟩, rfl, fun σ₂ hl => by
                            simp only [effAppend, hats, ht, hi, hz, app_le hl hsrc, hl.get _ _ hg]
                            rw [if_pos hok, if_pos hcond, if_pos hc0, if_pos hroom, if_pos hin]; rfl⟩
                        · cases h
                      · rename_i hroom
                        split at h
                        · rename_i hlc
                          split at h
                          · rename_i hc
                            cases h
                            exact ⟨[.push (.cells elem info.size false ((rows.drop i).take len ++ news))], ⟨trivial, trivial⟩, rfl, fun σ₂ hl => by
                              simp only [effAppend, hats, ht, hi, hz, app_le hl hsrc, hl.get _ _ hg]
                              rw [if_pos hok, if_pos hcond, if_pos hc0, if_neg hroom, if_pos hlc, if_pos hc, hl.newId]; rfl⟩
                          · cases h
                        · cases h
                    · split at h
                      · rename_i hin
                        cases h
                        exact ⟨[.set o (.cells e es true (rows.take (i + len) ++ news ++ rows.drop (i + len + news.length)))], ⟨⟨_, hg⟩, trivial⟩, rfl, fun σ₂ hl => by
                          simp only [effAppend, hats, ht, hi, hz, app_le hl hsrc, hl.get _ _ hg]
                          rw [if_pos hok, if_pos hcond, if_pos hc0, if_pos hin]; rfl⟩
                      · rename_i hin
                        split at h
                        · rename_i hc
                          cases h
                          exact ⟨[.push (.cells elem info.size false ((rows.drop i).take len ++ news))], ⟨trivial, trivial⟩, rfl, fun σ₂ hl => by
                            simp only [effAppend, hats, ht, hi, hz, app_le hl hsrc, hl.get _ _ hg]
                            rw [if_pos hok, if_pos hcond, if_pos hc0, if_neg hin, if_pos hc, hl.newId]; rfl⟩
                        · cases h
                    · split at h
                      · rename_i h0
                        cases h
                        exact .none fun σ₂ hl => by
                          simp only [effAppend, hats, ht, hi, hz, app_le hl hsrc, hl.get _ _ hg]
                          rw [if_pos hok, if_pos hcond, if_pos hc0, if_pos h0]
                      · rename_i h0
                        split at h
                        · rename_i hin
                          cases h
                          exact ⟨[.set o (.cells e es false (rows.take (i + len) ++ news ++ rows.drop (i + len + news.length)))], ⟨⟨_, hg⟩, trivial⟩, rfl, fun σ₂ hl => by
                            simp only [effAppend, hats, ht, hi, hz, app_le hl hsrc, hl.get _ _ hg]
                            rw [if_pos hok, if_pos hcond, if_pos hc0, if_neg h0, if_pos hin]; rfl⟩
                        · rename_i hin
                          split at h
                          · rename_i hc
                            cases h
                            exact ⟨[.set o .dead, .push (.cells elem info.size false (rows ++ news))], ⟨⟨_, hg⟩, trivial, trivial⟩, rfl, fun σ₂ hl => by
                              simp only [effAppend, hats, ht, hi, hz, app_le hl hsrc, hl.get _ _ hg]
                              rw [if_pos hok, if_pos hcond, if_pos hc0, if_neg h0, if_neg hin, if_pos hc, hl.newId]; rfl⟩
                          · cases h
                  · cases h
                · cases h
              · rename_i a es cap rows
                split at h
                · rename_i hes
                  split at h
                  · rename_i h0
                    cases h
                    exact .none fun σ₂ hl => by
                      simp only [effAppend, hats, ht, hi, hz, app_le hl hsrc]
                      rw [if_pos hok, if_pos hcond, if_pos hes, if_pos h0]
                  · rename_i h0
                    split at h
                    · cases h
                    · rename_i hcap
                      split at h
                      · rename_i hc
                        cases h
                        exact ⟨[.push (.cells elem info.size false (rows ++ news))], ⟨trivial, trivial⟩, rfl, fun σ₂ hl => by
                          simp only [effAppend, hats, ht, hi, hz, app_le hl hsrc]
                          rw [if_pos hok, if_pos hcond, if_pos hes, if_neg h0, if_neg hcap, if_pos hc, hl.newId]; rfl⟩
                      · cases h
                · cases h
              · cases h
            · cases h
          · cases h
        · cases h
      · cases h
    · cases h
  · cases h

end Go.Ab
/- The same for all operations, calls, rounds and code. -/
namespace Go.Ab
variable {P : Program} {N : Nat} {σ σ' : AS} {r : ANext}

theorem pure_acts {x : Option AV} (h : withSt σ x = some (r, σ')) : Acts N (fun σ => withSt σ x) σ r σ' := by
  obtain ⟨v, hv, rfl, rfl⟩ := withSt_some h
  exact withSt_acts (f := fun _ => x) hv fun _ _ => hv

theorem nil_acts {o : Oper} {ev : Operand → AV} {x : AV} (h : effNil P o ev x σ = some (r, σ')) : Acts N (effNil P o ev x) σ r σ' := by
  unfold effNil at h ⊢
  cases x <;> (try simp only at h ⊢) <;> first
    | exact pure_acts h
    | (cases h; exact .none fun _ _ => rfl)
    | (rename_i f a b; cases f <;> (try simp only at h ⊢) <;> first | exact pure_acts h | (cases h; exact .none fun _ _ => rfl))

theorem map_same {α : Type} {x : Option α} {f : α → ANext} (h : (x.map fun y => (f y, σ)) = some (r, σ')) : Acts N (fun σ => x.map fun y => (f y, σ)) σ r σ' := by
  simp only [Option.map_eq_some_iff, Prod.mk.injEq] at h
  obtain ⟨y, hy, rfl, rfl⟩ := h
  exact .none fun σ₂ _ => by simp [hy]

theorem bin_acts {op : BinOp} {t : TypeId} {x y : Operand} {a b : AV} (h : effBin P op t x y a b σ = some (r, σ')) : Acts N (effBin P op t x y a b) σ r σ' := by
  have key : r = r ∧ σ' = σ ∧ ∀ σ₂, effBin P op t x y a b σ₂ = some (r, σ₂) := by
    unfold effBin at h ⊢
    split at h
    · split at h
      · cases h; exact ⟨rfl, rfl, fun _ => rfl⟩
      · split at h
        · cases h; exact ⟨rfl, rfl, fun _ => rfl⟩
        · cases h
    · split at h
      · simp only [Option.map_eq_some_iff, Prod.mk.injEq] at h
        obtain ⟨q, hq, rfl, rfl⟩ := h
        exact ⟨rfl, rfl, fun _ => by simp [hq]⟩
      · simp only [Option.map_eq_some_iff, Prod.mk.injEq] at h
        obtain ⟨q, hq, rfl, rfl⟩ := h
        exact ⟨rfl, rfl, fun _ => by simp [hq]⟩
      · cases h
  obtain ⟨_, rfl, hk⟩ := key
  exact .none fun σ₂ _ => hk σ₂

theorem builtin_acts {o : Oper} {ev : Operand → AV} {b : Builtin} {ats : Array TypeId} {args : List AV} (h : effBuiltin P o ev b ats args σ = some (r, σ')) : Acts N (effBuiltin P o ev b ats args) σ r σ' := by
  unfold effBuiltin at h ⊢
  split at h
  · exact append_acts h
  · exact delete_acts h
  · exact copy_acts h
  · unfold effLenOp at h ⊢
    split at h
    · rename_i hr
      simp only [hr, if_true]
      exact pure_acts h
    · rename_i hr
      simp only [hr]
      exact pure_acts h
  · unfold effCapOp at h ⊢
    split at h
    · rename_i hr
      simp only [hr, if_true]
      obtain ⟨v, hv, rfl, rfl⟩ := withSt_some h
      exact withSt_acts (f := fun σ => effCap P ats _ σ) hv fun σ₂ hl => cap_le hl hv
    · rename_i hr
      simp only [hr]
      exact pure_acts h
  · exact pure_acts h
  · exact pure_acts h
  · cases h

theorem eff_acts {o : Oper} {ev : Operand → AV} (h : eff P o ev σ = some (r, σ')) : Acts N (eff P o ev) σ r σ' := by
  unfold eff at h ⊢
  cases ho : o.op <;> simp only [ho] at h ⊢ <;> try (cases h; done)
  case move x => cases h; exact .none fun _ _ => rfl
  case assign x => cases h; exact .none fun _ _ => rfl
  case pick c a b =>
    unfold effPick at h ⊢
    split at h
    · cases h; exact .none fun _ _ => rfl
    · cases h
  case alloc elem =>
    unfold effAlloc at h ⊢
    simp only [Option.map_eq_some_iff, Option.bind_eq_some_iff] at h
    obtain ⟨z, ⟨i, hi, hz⟩, he⟩ := h
    cases he
    simp only [hi, hz, Option.bind_some, Option.map_some]
    exact push_acts (g := fun k => ANext.val (.ptr k 0 0))
  case box elem v => cases h; exact push_acts (g := fun k => ANext.val (.ptr k 0 0))
  case build t parts => exact pure_acts h
  case buildSlice t len parts => exact buildSlice_acts h
  case load t a =>
    obtain ⟨v, hv, rfl, rfl⟩ := withSt_some h
    exact withSt_acts (f := fun σ => effLoad P t (ev a) σ) hv fun σ₂ hl => load_le hl hv
  case store t a v =>
    simp only [Option.map_eq_some_iff, Prod.mk.injEq] at h
    obtain ⟨σ₁, hσ, rfl, rfl⟩ := h
    exact store_acts hσ
  case nilCheck x => exact nil_acts h
  case binOp op t x y yt => exact bin_acts h
  case unOp => exact pure_acts h
  case convert s t x =>
    unfold effConv at h ⊢
    split at h
    · rename_i hr
      simp only [hr, if_true]
      obtain ⟨v, hv, rfl, rfl⟩ := withSt_some h
      exact withSt_acts (f := fun σ => effBytes P s t (ev x) σ) hv fun σ₂ hl => bytes_le hl hv
    · rename_i hr
      simp only [hr]
      exact pure_acts h
  case makeInterface t x =>
    unfold effMkIfc at h ⊢
    split at h
    · cases h
    · cases h; exact .none fun _ _ => rfl
    · cases h
  case makeFunc => cases h; exact .none fun _ _ => rfl
  case makeMap t r' => exact makeMap_acts h
  case makeSlice t l c => exact makeSlice_acts h
  case slice t x lo hi mx =>
    unfold effSliceTop at h ⊢
    split at h
    · exact pure_acts h
    unfold effSliceOp at h ⊢
    split at h
    · rename_i hr
      simp only [hr, if_true]
      obtain ⟨v, hv, rfl, rfl⟩ := withSt_some h
      exact withSt_acts (f := fun σ => effSlice P t (ev x) (lo.map ev) (hi.map ev) (mx.map ev) σ) hv fun σ₂ hl => slice_le hl hv
    · rename_i hr
      simp only [hr]
      exact pure_acts h
  case fieldAddr t x f => exact pure_acts h
  case field t x f =>
    unfold effFieldOp at h ⊢
    split at h
    · exact pure_acts h
    · exact pure_acts h
  case indexAddr t x ix =>
    obtain ⟨v, hv, rfl, rfl⟩ := withSt_some h
    exact withSt_acts (f := fun σ => effIndexAddr P t (ev x) (ev ix) σ) hv fun σ₂ hl => indexAddr_le hl hv
  case index t x ix =>
    unfold effIndexOp at h ⊢
    split at h
    · exact pure_acts h
    · exact pure_acts h
  case range t x => exact range_acts h
  case next it b => exact next_acts h
  case entry it => exact entry_acts h
  case mapUpdate t m k v => exact mapUpdate_acts h
  case lookup t x k ok => exact lookup_acts h
  case mapEntry t m k => exact mapEntry_acts h
  case entryStore t m n v => exact entryStore_acts h
  case typeAssert x xt asserted ok =>
    unfold effAssertOp at h ⊢
    split at h
    · rename_i hr
      simp only [hr, if_true]
      exact pure_acts h
    · rename_i hr
      simp only [hr]
      exact pure_acts h
  case extract t i =>
    unfold effExtract at h ⊢
    split at h
    · exact pure_acts h
    · exact pure_acts h
    · exact pure_acts h
  case call c =>
    unfold effCall at h ⊢
    split at h
    · split at h
      · rename_i hb
        simp only [hb, if_true]
        exact pure_acts h
      · rename_i hb
        simp only [hb]
        exact map_same h
    · exact map_same h
    · exact builtin_acts h

end Go.Ab
/- The acts of calls, rounds and code. -/
namespace Go.Ab
variable {P : Program} {G : Gl} {N : Nat} {σ σ' : AS}

def ExActs (ex : Runner) : Prop := ∀ rd c tm defs σ e tm' defs' σ', ex rd c ⟨tm, defs, σ⟩ = some (e, ⟨tm', defs', σ'⟩) → ∀ N, N ≤ σ.next →
  ∃ cs, okA N cs σ ∧ σ' = runA cs σ ∧ ∀ σ₂, Le N σ σ₂ → ex rd c ⟨tm, defs, σ₂⟩ = some (e, ⟨tm', defs', runA cs σ₂⟩)

theorem Le.set {σ₂ : AS} (h : Le N σ σ₂) {id : Nat} {o o' : AObj} (hg : σ.get id = some o) : Le N (σ.set id o') (σ₂.set id o') := h.on (.set id o') ⟨o, hg⟩
theorem Le.push {σ₂ : AS} (h : Le N σ σ₂) (o : AObj) : Le N (σ.push o) (σ₂.push o) := h.on (.push o) trivial

theorem drop_acts : ∀ (ds : List Nat) (σ σ' : AS), dropDefs σ ds = some σ' → ∃ cs, okA N cs σ ∧ σ' = runA cs σ ∧ ∀ σ₂, Le N σ σ₂ → dropDefs σ₂ ds = some (runA cs σ₂)
  | [], σ, σ', h => by cases h; exact ⟨[], trivial, rfl, fun _ _ => rfl⟩
  | d :: ds, σ, σ', h => by
    simp only [dropDefs] at h
    split at h
    · rename_i hg
      obtain ⟨cs, h1, h2, h3⟩ := drop_acts ds _ σ' h
      exact ⟨.set d .dead :: cs, ⟨⟨_, hg⟩, h1⟩, h2, fun σ₂ hl => by
        simp only [dropDefs, hl.get _ _ hg]
        exact h3 _ (hl.set hg)⟩
    · cases h

theorem resultL_le {σ₂ : AS} (hle : Le N σ σ₂) {tm : Tm} : ∀ (rs : List ResultVar) (vs : List AV), aresultL P tm σ rs = some vs → aresultL P tm σ₂ rs = some vs
  | [], vs, h => h
  | r :: rs, vs, h => by
    simp only [aresultL] at h ⊢
    split at h
    · rename_i v vs' hv hvs
      cases h
      rw [resultL_le hle rs vs' hvs]
      cases r with
      | tmp t => simp only [aresult] at hv ⊢; cases hv; rfl
      | cell a t => simp only [aresult] at hv ⊢; rw [load_le hle hv]
    · cases h
theorem results_le {σ₂ : AS} (hle : Le N σ σ₂) {fn : Func} {tm : Tm} {v : AV} (h : aresults P fn tm σ = some v) : aresults P fn tm σ₂ = some v := by
  unfold aresults at h ⊢
  simp only [Option.map_eq_some_iff] at h ⊢
  obtain ⟨vs, h1, h2⟩ := h
  exact ⟨vs, resultL_le hle _ _ h1, h2⟩

theorem callBody_acts {ex : Runner} (hx : ExActs ex) {f : FuncId} {as : List AV} {v : AV} (h : callBody P ex f as σ = some (v, σ')) (hN : N ≤ σ.next) : Acts N (callBody P ex f as) σ v σ' := by
  unfold callBody at h
  split at h
  · rename_i fn hf
    split at h
    · rename_i c hb
      have fin : ∀ {e : AEx} {s : Cfg}, (e = .normal ∨ e = .ret) → ex none c ⟨Tm.fill ⟨max as.length fn.ntmps, .e⟩ 0 as, [], σ⟩ = some (e, s) → (match dropDefs s.st s.defs with
          | some σ' => match aresults P fn s.tmps σ' with
            | some v => some (v, σ')
            | none => none
          | none => none) = some (v, σ') → Acts N (callBody P ex f as) σ v σ' := by
        intro e s he hex hr
        obtain ⟨tm', defs', σ₁⟩ := s
        obtain ⟨cs, h1, h2, h3⟩ := hx _ _ _ _ _ _ _ _ _ hex N hN
        simp only at hr
        split at hr
        · rename_i σ₂' hd
          split at hr
          · rename_i v' hv
            cases hr
            subst h2
            obtain ⟨ds, d1, d2, d3⟩ := drop_acts (N := N) _ _ _ hd
            refine ⟨cs ++ ds, okA_append h1 d1, by rw [runA_append]; exact d2, fun σ₂ hl => ?_⟩
            have hl2 := hl.run cs h1
            have hl3 := hl2.run ds d1
            rw [← d2] at hl3
            rw [runA_append]
            rcases he with rfl | rfl <;>
              simp only [callBody, hf, hb, h3 σ₂ hl, d3 _ hl2, results_le hl3 hv]
          · cases hr
        · cases hr
      split at h
      · rename_i s hex; exact fin (.inl rfl) hex h
      · rename_i s hex; exact fin (.inr rfl) hex h
      · cases h
    · cases h
  · cases h

def OrcActs (G : Gl) : Prop := ∀ f as h, G.orc f as = some h → ∀ (σ : AS) v σ', h σ = some (v, σ') → ∀ N, N ≤ σ.next → Acts N h σ v σ'
theorem call_acts {ex : Runner} (ho : OrcActs G) (hx : ExActs ex) {f : FuncId} {as : List AV} {v : AV} (h : callWith P G ex f as σ = some (v, σ')) (hN : N ≤ σ.next) : Acts N (callWith P G ex f as) σ v σ' := by
  unfold callWith at h
  split at h
  · rename_i g hg
    obtain ⟨cs, h1, h2, h3⟩ := ho f as g hg σ v σ' h N hN
    exact ⟨cs, h1, h2, fun σ₂ hl => by simp only [callWith, hg]; exact h3 σ₂ hl⟩
  · rename_i hg
    obtain ⟨cs, h1, h2, h3⟩ := callBody_acts hx h hN
    exact ⟨cs, h1, h2, fun σ₂ hl => by simp only [callWith, hg]; exact h3 σ₂ hl⟩

theorem round_acts {ex : Runner} (hx : ExActs ex) {l : Nat} {as : List AV} {v : AV} (h : roundWith ex l as σ = some (v, σ')) (hN : N ≤ σ.next) : Acts N (roundWith ex l as) σ v σ' := by
  unfold roundWith at h
  split at h
  · rename_i r hg
    split at h
    · rename_i hcond
      simp only at h
      split at h
      · rename_i s₁ hex₁
        obtain ⟨tm₁, defs₁, σ₁⟩ := s₁
        obtain ⟨cs₁, a1, a2, a3⟩ := hx _ _ _ _ _ _ _ _ _ hex₁ N hN
        simp only at h
        split at h
        · rename_i r₁ hg₁
          split at h
          · rename_i hready₁
            split at h
            · rename_i e s₂ hex₂
              obtain ⟨tm₂, defs₂, σ₂'⟩ := s₂
              subst a2
              have hN₁ : N ≤ ((runA cs₁ σ).set l (.loop { r₁ with state := .busy })).next := by
                rw [AS.next_set]; exact Nat.le_trans hN (next_run σ cs₁)
              obtain ⟨cs₂, b1, b2, b3⟩ := hx _ _ _ _ _ _ _ _ _ hex₂ N hN₁
              simp only at h
              split at h
              · rename_i r₂ hg₂
                cases h
                subst b2
                have k1 : okA N (Ac.set l (.loop { r₁ with state := .busy }) :: (cs₂ ++ [Ac.set l (.loop { r₂ with state := if (jumpOf e).isNone then .ready else .done, pending := jumpOf e })])) (runA cs₁ σ) :=
                  ⟨⟨_, hg₁⟩, okA_append b1 ⟨⟨_, hg₂⟩, trivial⟩⟩
                refine ⟨cs₁ ++ (.set l (.loop { r₁ with state := .busy }) :: (cs₂ ++ [.set l (.loop { r₂ with state := if (jumpOf e).isNone then .ready else .done, pending := jumpOf e })])),
                  okA_append a1 k1, by rw [runA_append]; simp only [runA, runA_append, Ac.on], fun τ hl => ?_⟩
                have hl1 := hl.run cs₁ a1
                have hl2 := hl1.set (o' := .loop { r₁ with state := .busy }) hg₁
                have hl3 := hl2.run cs₂ b1
                simp only [roundWith, hl.get _ _ hg]
                rw [if_pos hcond, a3 τ hl]
                simp only [hl1.get _ _ hg₁]
                rw [if_pos hready₁, b3 _ hl2]
                simp only [hl3.get _ _ hg₂]
                rw [runA_append]
                simp only [runA, runA_append, Ac.on]
              · cases h
            · cases h
          · cases h
        · cases h
      · cases h
    · cases h
  · cases h

def Acting (G : Gl) (ex : Runner) : Prop := OrcActs G ∧ ExActs ex

theorem resO_acts {ex : Runner} (hx : Acting G ex) {ops : Array Oper} {o : Oper} {tm : Tm} {v : AV} (h : resO P G ex ops o tm σ = some (v, σ')) (hN : N ≤ σ.next) : Acts N (resO P G ex ops o tm) σ v σ' := by
  unfold resO at h
  split at h
  · rename_i hw
    cases he : eff P o (evT G tm) σ with
    | none => rw [he] at h; cases h
    | some x =>
      obtain ⟨r, σ₁⟩ := x
      rw [he] at h
      obtain ⟨cs, c1, c2, c3⟩ := eff_acts (N := N) he
      subst c2
      have hN₁ : N ≤ (runA cs σ).next := Nat.le_trans hN (next_run σ cs)
      cases r with
      | val u =>
        simp only [resNext, Option.some.injEq, Prod.mk.injEq] at h
        obtain ⟨rfl, rfl⟩ := h
        exact ⟨cs, c1, rfl, fun σ₂ hl => by simp only [resO]; rw [if_pos hw, c3 σ₂ hl]; rfl⟩
      | enter g as =>
        obtain ⟨ds, d1, d2, d3⟩ := call_acts hx.1 hx.2 (show callWith P G ex g as (runA cs σ) = some (v, σ') from h) hN₁
        exact ⟨cs ++ ds, okA_append c1 d1, by rw [runA_append]; exact d2, fun σ₂ hl => by
          simp only [resO]; rw [if_pos hw, c3 σ₂ hl, runA_append]; exact d3 _ (hl.run cs c1)⟩
      | round l as =>
        obtain ⟨ds, d1, d2, d3⟩ := round_acts hx.2 (show roundWith ex l as (runA cs σ) = some (v, σ') from h) hN₁
        exact ⟨cs ++ ds, okA_append c1 d1, by rw [runA_append]; exact d2, fun σ₂ hl => by
          simp only [resO]; rw [if_pos hw, c3 σ₂ hl, runA_append]; exact d3 _ (hl.run cs c1)⟩
  · rename_i hw
    cases h
    exact .none fun σ₂ _ => by simp only [resO]; rw [if_neg hw]

theorem runL_acts {ex : Runner} (hx : Acting G ex) {ops : Array Oper} : ∀ (os : List Oper) (tm : Tm) (defs : List Nat) (σ : AS) (tm' : Tm) (defs' : List Nat) (σ' : AS), runL P G ex ops os ⟨tm, defs, σ⟩ = some ⟨tm', defs', σ'⟩ → ∀ N, N ≤ σ.next →
    ∃ cs, okA N cs σ ∧ σ' = runA cs σ ∧ ∀ σ₂, Le N σ σ₂ → runL P G ex ops os ⟨tm, defs, σ₂⟩ = some ⟨tm', defs', runA cs σ₂⟩
  | [], tm, defs, σ, tm', defs', σ', h, N, hN => by cases h; exact ⟨[], trivial, rfl, fun _ _ => rfl⟩
  | o :: os, tm, defs, σ, tm', defs', σ', h, N, hN => by
    simp only [runL, stepO] at h
    cases hr : resO P G ex ops o tm σ with
    | none => rw [hr] at h; cases h
    | some x =>
      obtain ⟨v, σ₁⟩ := x
      rw [hr] at h
      simp only [stepVal] at h
      obtain ⟨cs, c1, c2, c3⟩ := resO_acts hx hr hN
      subst c2
      obtain ⟨ds, d1, d2, d3⟩ := runL_acts hx os _ _ _ _ _ _ h N (Nat.le_trans hN (next_run σ cs))
      exact ⟨cs ++ ds, okA_append c1 d1, by rw [runA_append]; exact d2, fun σ₂ hl => by
        simp only [runL, stepO, c3 σ₂ hl, stepVal]
        rw [runA_append]; exact d3 _ (hl.run cs c1)⟩

theorem slot_acts {f : AS → Option (AV × AS)} {k : Nat} {v : AV} {objs : Tr (Nat × AObj)} {next : Nat} {slot : Option Nat} (hk : N ≤ k) (h : Acts N f ⟨objs, next, some k⟩ v σ') :
    ∃ cs, okA N cs ⟨objs, next, slot⟩ ∧ (⟨σ'.objs, σ'.next, none⟩ : AS) = runA cs ⟨objs, next, slot⟩ ∧ ∀ σ₂, Le N ⟨objs, next, slot⟩ σ₂ → ∃ τ, f ⟨σ₂.objs, σ₂.next, some k⟩ = some (v, τ) ∧ (⟨τ.objs, τ.next, none⟩ : AS) = runA cs σ₂ := by
  obtain ⟨cs, c1, c2, c3⟩ := h
  have k1 : okA N [Ac.slot none] (runA cs ⟨objs, next, some k⟩) := ⟨trivial, trivial⟩
  refine ⟨.slot (some k) :: (cs ++ [.slot none]), ⟨hk, okA_append c1 k1⟩, ?_, fun σ₂ hl => ?_⟩
  · simp only [runA, runA_append, Ac.on]
    rw [c2]
  · refine ⟨_, c3 _ (hl.on (.slot (some k)) hk), ?_⟩
    simp only [runA, runA_append, Ac.on]

theorem resX_acts {ex : Runner} (hx : Acting G ex) {base : Nat} {ops : Array Oper} {i : Nat} {o : Oper} {tm : Tm} {v : AV} (h : resX P G ex base ops i o tm σ = some (v, σ')) (hN : N ≤ σ.next) (hb : (cls o == 3) = true → N ≤ base) : Acts N (resX P G ex base ops i o tm) σ v σ' := by
  unfold resX at h
  by_cases hc : (cls o == 3) = true
  · rw [if_pos hc] at h
    have hb := hb hc
    obtain ⟨objs, next, slot⟩ := σ
    simp only [resA] at h
    split at h
    · cases h
    · rename_i hk
      split at h
      · rename_i u objs' next' slot' hr
        cases h
        obtain ⟨cs, c1, c2, c3⟩ := slot_acts (slot := slot) (show N ≤ base + i by omega) (resO_acts (N := N) hx hr hN)
        refine ⟨cs, c1, c2, fun σ₂ hl => ?_⟩
        obtain ⟨τ, t1, t2⟩ := c3 σ₂ hl
        have hk2 : σ₂.objs.get (base + i) = none := by rw [hl.above _ (by omega)]; exact hk
        obtain ⟨o2, n2, s2⟩ := σ₂
        simp only [resX]
        rw [if_pos hc]
        simp only [resA]
        simp only at hk2 t1
        rw [hk2]
        simp only [t1]
        rw [← t2]
      · cases h
  · rw [if_neg hc] at h
    obtain ⟨objs, next, slot⟩ := σ
    simp only at h
    split at h
    · rename_i u objs' next' slot' hr
      cases h
      obtain ⟨cs, c1, c2, c3⟩ := resO_acts (N := N) hx hr hN
      have k1 : okA N [Ac.slot none] (runA cs ⟨objs, next, none⟩) := ⟨trivial, trivial⟩
      refine ⟨.slot none :: (cs ++ [.slot none]), ⟨trivial, okA_append c1 k1⟩, ?_, fun σ₂ hl => ?_⟩
      · simp only [runA, runA_append, Ac.on]
        rw [← c2]
      · have := c3 _ (hl.on (.slot none) trivial)
        obtain ⟨o2, n2, s2⟩ := σ₂
        simp only [resX]
        rw [if_neg hc]
        simp only [Ac.on] at this
        simp only [this, runA, runA_append, Ac.on]
    · cases h

end Go.Ab
/- The acts of regions that draw, of ranges over functions, of all code. -/
namespace Go.Ab
variable {P : Program} {G : Gl} {N : Nat} {σ σ' : AS}

theorem objs_on {id : Nat} {n : Nat} {o : AObj} (h : σ.objs.get id = some (n, o)) (c : Ac) : ∃ m o', (c.on σ).objs.get id = some (m, o') ∧ n ≤ m ∧ (m = n → o' = o) := by
  have put : ∀ (t : Tr (Nat × AObj)) (k : Nat) (x : AObj), t.get id = some (n, o) → ∃ m o', (putObj t k x).get id = some (m, o') ∧ n ≤ m ∧ (m = n → o' = o) := by
    intro t k x ht
    rw [putObj_get]
    by_cases e : k = id
    · subst e
      rw [if_pos rfl, ht]
      exact ⟨n + 1, x, rfl, Nat.le_succ n, fun h => by omega⟩
    · rw [if_neg e]
      exact ⟨n, o, ht, Nat.le_refl n, fun _ => rfl⟩
  obtain ⟨t, nx, s⟩ := σ
  cases c with
  | set j x => exact put t j x h
  | push x => cases s <;> exact put t _ x h
  | bump m => exact ⟨n, o, h, Nat.le_refl n, fun _ => rfl⟩
  | slot k => exact ⟨n, o, h, Nat.le_refl n, fun _ => rfl⟩
theorem objs_run {id : Nat} {n : Nat} {o : AObj} (h : σ.objs.get id = some (n, o)) (cs : List Ac) : ∃ m o', (runA cs σ).objs.get id = some (m, o') ∧ n ≤ m ∧ (m = n → o' = o) := by
  induction cs generalizing σ n o with
  | nil => exact ⟨n, o, h, Nat.le_refl n, fun _ => rfl⟩
  | cons c cs ih =>
    obtain ⟨m, o', h1, h2, h3⟩ := objs_on h c
    obtain ⟨m', o'', h4, h5, h6⟩ := ih h1
    exact ⟨m', o'', h4, Nat.le_trans h2 h5, fun e => by
      have e1 : m = n := by omega
      have e2 : m' = m := by omega
      rw [h6 e2, h3 e1]⟩

def Seen.has (σ : AS) : Seen → Prop
  | .all id _ => ∃ p, σ.objs.get id = some p
  | .size id _ => ∃ p, σ.objs.get id = some p
def RcOk (rc : Rec) (σ : AS) : Prop := ∀ k x, rc k = some x → x.has σ
theorem Seen.has_run {x : Seen} (h : x.has σ) (cs : List Ac) : x.has (runA cs σ) := by
  cases x <;>
  · obtain ⟨⟨n, o⟩, hp⟩ := h
    obtain ⟨m, o', h1, _⟩ := objs_run hp cs
    exact ⟨_, h1⟩
theorem Seen.stands_le {x : Seen} {σ₂ : AS} (h : x.has σ) (hl : Le N σ σ₂) : x.stands σ₂ = x.stands σ := by
  cases x <;>
  · obtain ⟨p, hp⟩ := h
    simp only [Seen.stands, hp, hl.objs _ _ hp]
theorem stands_le {rc : Rec} {σ₂ : AS} (h : RcOk rc σ) (hl : Le N σ σ₂) (fl : List Nat) : stands rc σ₂ fl = stands rc σ fl := by
  unfold stands
  congr 1
  funext k
  cases hk : rc k with
  | none => rfl
  | some x => exact Seen.stands_le (h k x hk) hl

theorem read_le {o : Oper} {ev : Operand → AV} {σ₂ : AS} {r : ANext × AS} (he : eff P o ev σ = some r) : (∀ N, Le N σ σ₂ → readOf o ev σ₂ = readOf o ev σ) ∧ ∀ x, readOf o ev σ = some x → x.has σ := by
  unfold readOf
  cases ho : o.op <;> try exact ⟨fun _ _ => rfl, fun x hx => by cases hx⟩
  case load t a =>
    simp only
    unfold eff at he
    rw [ho] at he
    simp only [withSt, Option.map_eq_some_iff] at he
    obtain ⟨v, hv, _⟩ := he
    cases ha : ev a <;> rw [ha] at hv <;> simp only [effLoad] at hv <;> try (cases hv; done)
    · rename_i id i f
      simp only [Option.bind_eq_some_iff] at hv
      obtain ⟨rows, hrows, _⟩ := hv
      unfold AS.rows at hrows
      split at hrows
      · rename_i e es x rws hg
        obtain ⟨n, hn⟩ := AS.objs_of_get hg
        refine ⟨fun N hl => by simp only [seenAll, idOf, hn, hl.objs _ _ hn], ?_⟩
        simp only [seenAll, idOf, hn]
        intro y hy; cases hy; exact ⟨_, hn⟩
      · cases hrows
    · exact ⟨fun _ _ => rfl, fun x hx => by simp [seenAll, idOf] at hx⟩
  case indexAddr t x ix =>
    simp only
    unfold eff at he
    rw [ho] at he
    simp only [withSt, Option.map_eq_some_iff] at he
    obtain ⟨v, hv, _⟩ := he
    cases hx : ev x <;> try exact ⟨fun _ _ => rfl, fun x hx => by simp [seenSl] at hx⟩
    rename_i id i n cap
    rw [hx] at hv
    unfold effIndexAddr at hv
    split at hv
    · split at hv
      · simp only at hv
        split at hv
        · rename_i hg
          obtain ⟨m, hm⟩ := AS.objs_of_get hg
          refine ⟨fun N hl => by simp only [seenSl, hm, hl.objs _ _ hm], ?_⟩
          simp only [seenSl, hm]
          intro y hy; cases hy; exact ⟨_, hm⟩
        · cases hv
      · cases hv
    · split at hv
      · split at hv
        · cases hv
        · cases hv
      · cases hv
    · cases hv
  case slice t x lo hi mx =>
    simp only
    unfold eff at he
    rw [ho] at he
    simp only [effSliceTop] at he
    cases hx : ev x <;> try exact ⟨fun _ _ => rfl, fun x hx => by simp [seenAll, idOf] at hx⟩
    all_goals rw [hx] at he
    all_goals simp only [effSliceOp] at he
    · simp only [isRef, if_true, withSt, Option.map_eq_some_iff] at he
      obtain ⟨v, hv, _⟩ := he
      unfold effSlice at hv
      split at hv
      · cases hv
      · split at hv
        · split at hv <;> cases hv
        · cases hv
    · rename_i id i n cap
      simp only [isRef, if_true, withSt, Option.map_eq_some_iff] at he
      obtain ⟨v, hv, _⟩ := he
      unfold effSlice at hv
      split at hv
      · cases hv
      · split at hv
        · split at hv
          · simp only at hv
            split at hv
            · rename_i hg
              obtain ⟨m, hm⟩ := AS.objs_of_get hg
              refine ⟨fun N hl => by simp only [seenAll, idOf, hm, hl.objs _ _ hm], ?_⟩
              simp only [seenAll, idOf, hm]
              intro y hy; cases hy; exact ⟨_, hm⟩
            · cases hv
          · cases hv
        · cases hv
    · simp only [isRef, if_true, withSt, Option.map_eq_some_iff] at he
      obtain ⟨v, hv, _⟩ := he
      unfold effSlice at hv
      split at hv
      · cases hv
      · split at hv
        · split at hv <;> cases hv
        · cases hv
  case convert s t x =>
    simp only
    unfold eff at he
    rw [ho] at he
    simp only [effConv] at he
    by_cases hr : isRef (ev x) = true
    · rw [if_pos hr] at he
      simp only [withSt, Option.map_eq_some_iff] at he
      obtain ⟨v, hv, _⟩ := he
      obtain ⟨id, i, n, c, e, es, ex, rows, hx, hg⟩ := effBytes_sl hv
      obtain ⟨m, hm⟩ := AS.objs_of_get hg
      rw [hx]
      refine ⟨fun N hl => by simp only [seenAll, idOf, hm, hl.objs _ _ hm], ?_⟩
      simp only [seenAll, idOf, hm]
      intro y hy; cases hy; exact ⟨_, hm⟩
    · exact ⟨fun _ _ => by simp only [seenAll, idOf_plain hr], fun x hx => by simp only [seenAll, idOf_plain hr] at hx; cases hx⟩

  case lookup t x k ok =>
    simp only
    unfold eff at he
    rw [ho] at he
    simp only at he
    rcases lookup_cases ho he with ⟨id, es, clock, hx, hg⟩ | hn
    · obtain ⟨m, hm⟩ := AS.objs_of_get hg
      rw [hx]
      refine ⟨fun N hl => by simp only [seenAll, idOf, hm, hl.objs _ _ hm], ?_⟩
      simp only [seenAll, idOf, hm]
      intro y hy; cases hy; exact ⟨_, hm⟩
    · exact ⟨fun _ _ => by simp only [seenAll, hn], fun y hy => by simp only [seenAll, hn] at hy; cases hy⟩

noncomputable def noted (G : Gl) (ops : Array Oper) (o : Oper) (tm : Tm) (σ : AS) : Option Seen := if Region.wanted o (ayielded ops tm) then readOf o (evT G tm) σ else none

theorem noted_both {ex : Runner} {base i : Nat} {ops : Array Oper} {o : Oper} {tm : Tm} {v : AV} {σ₂ : AS} (h : resX P G ex base ops i o tm σ = some (v, σ')) :
    (∀ N, Le N σ σ₂ → noted G ops o tm σ₂ = noted G ops o tm σ) ∧ ∀ x, noted G ops o tm σ = some x → x.has σ := by
  unfold noted
  by_cases hw : Region.wanted o (ayielded ops tm) = true
  · simp only [hw, if_true]
    unfold resX at h
    by_cases hc : (cls o == 3) = true
    · have : ∀ τ, readOf o (evT G tm) τ = none := by
        intro τ
        unfold readOf
        unfold cls at hc
        cases ho : o.op <;> simp_all
      rw [this, this]
      exact ⟨fun _ _ => rfl, fun x hx => by cases hx⟩
    · rw [if_neg hc] at h
      obtain ⟨objs, next, slot⟩ := σ
      simp only [resO] at h
      rw [if_pos hw] at h
      have key : ∀ τ : AS, readOf o (evT G tm) τ = readOf o (evT G tm) ⟨τ.objs, τ.next, none⟩ := fun τ => by
        unfold readOf; cases o.op <;> rfl
      cases he : eff P o (evT G tm) ⟨objs, next, none⟩ with
      | none => rw [he] at h; cases h
      | some r =>
        have h1 := read_le (σ₂ := ⟨σ₂.objs, σ₂.next, none⟩) he
        refine ⟨fun N hl => ?_, fun x hx => ?_⟩
        · rw [key σ₂, key ⟨objs, next, slot⟩]
          exact h1.1 N (hl.on (.slot none) trivial)
        · rw [key ⟨objs, next, slot⟩] at hx
          have := h1.2 x hx
          cases x <;> exact this
  · simp only [hw]
    exact ⟨fun _ _ => rfl, fun x hx => by cases hx⟩
theorem noted_le {ex : Runner} {base i : Nat} {ops : Array Oper} {o : Oper} {tm : Tm} {v : AV} {σ₂ : AS} (h : resX P G ex base ops i o tm σ = some (v, σ')) (hl : Le N σ σ₂) : noted G ops o tm σ₂ = noted G ops o tm σ :=
  (noted_both h).1 N hl
theorem noted_has {ex : Runner} {base i : Nat} {ops : Array Oper} {o : Oper} {tm : Tm} {v : AV} (h : resX P G ex base ops i o tm σ = some (v, σ')) : ∀ x, noted G ops o tm σ = some x → x.has σ :=
  (noted_both (σ₂ := σ) h).2

theorem runD_acts {st : Bool} {ex : Runner} (hx : Acting G ex) {base : Nat} {ops : Array Oper} : ∀ (pl : List (Nat × List Nat)) (tm : Tm) (defs : List Nat) (σ : AS) (rc : Rec) (tm' : Tm) (defs' : List Nat) (σ' : AS),
    runD P G ex st base ops pl ⟨tm, defs, σ⟩ rc = some ⟨tm', defs', σ'⟩ → ∀ N, N ≤ σ.next → N ≤ base → RcOk rc σ →
    ∃ cs, okA N cs σ ∧ σ' = runA cs σ ∧ ∀ σ₂, Le N σ σ₂ → runD P G ex st base ops pl ⟨tm, defs, σ₂⟩ rc = some ⟨tm', defs', runA cs σ₂⟩
  | [], tm, defs, σ, rc, tm', defs', σ', h, N, hN, hb, hrc => by cases h; exact ⟨[], trivial, rfl, fun _ _ => rfl⟩
  | (i, fl) :: pl, tm, defs, σ, rc, tm', defs', σ', h, N, hN, hb, hrc => by
    simp only [runD, stepD] at h
    cases ho : ops[i]? with
    | none => rw [ho] at h; cases h
    | some o =>
      rw [ho] at h
      simp only at h
      cases hr : resX P G ex base ops i o tm σ with
      | none => rw [hr] at h; cases h
      | some x =>
        obtain ⟨v, σ₁⟩ := x
        rw [hr] at h
        simp only at h
        by_cases hst : (stands rc σ₁ fl && lateOk st base ops i o (noted G ops o tm σ)) = true
        · rw [show (if Region.wanted o (ayielded ops tm) = true then readOf o (evT G tm) σ else none) = noted G ops o tm σ from rfl, if_pos hst] at h
          simp only at h
          obtain ⟨cs, c1, c2, c3⟩ := resX_acts (N := N) hx hr hN (fun _ => hb)
          subst c2
          have hnote := noted_has hr
          have hrc1 : RcOk rc (runA cs σ) := fun k x hk => Seen.has_run (hrc k x hk) cs
          have hrc' : RcOk (rc.upd i (noted G ops o tm σ)) (runA cs σ) := fun k x hk => by
            unfold Rec.upd at hk
            split at hk
            · exact Seen.has_run (hnote x hk) cs
            · exact hrc1 k x hk
          obtain ⟨ds, d1, d2, d3⟩ := runD_acts hx pl _ _ _ _ _ _ _ h N (Nat.le_trans hN (next_run σ cs)) hb hrc'
          refine ⟨cs ++ ds, okA_append c1 d1, by rw [runA_append]; exact d2, fun σ₂ hl => ?_⟩
          have hl1 := hl.run cs c1
          have hst2 : (stands rc (runA cs σ₂) fl && lateOk st base ops i o (noted G ops o tm σ)) = true := by rw [stands_le hrc1 hl1]; exact hst
          have hn2 := noted_le (N := N) hr hl
          simp only [runD, stepD, ho, c3 σ₂ hl]
          rw [show (if Region.wanted o (ayielded ops tm) = true then readOf o (evT G tm) σ₂ else none) = noted G ops o tm σ from hn2, if_pos hst2]
          simp only
          rw [runA_append]
          exact d3 _ hl1
        · rw [show (if Region.wanted o (ayielded ops tm) = true then readOf o (evT G tm) σ else none) = noted G ops o tm σ from rfl, if_neg hst] at h
          cases h

theorem drawS_acts {st : Bool} {ex : Runner} (hx : Acting G ex) {ops : Array Oper} {tm tm' : Tm} {defs defs' : List Nat} {e : AEx} (h : stDrawS P G ex st ops ⟨tm, defs, σ⟩ = some (e, ⟨tm', defs', σ'⟩)) (hN : N ≤ σ.next) :
    ∃ cs, okA N cs σ ∧ σ' = runA cs σ ∧ ∀ σ₂, Le N σ σ₂ → stDrawS P G ex st ops ⟨tm, defs, σ₂⟩ = some (e, ⟨tm', defs', runA cs σ₂⟩) := by
  obtain ⟨objs, next, slot⟩ := σ
  simp only [stDrawS] at h ⊢
  cases h1 : runD P G ex st next ops (planS st ops) ⟨tm, defs, ⟨objs, next + ops.size, none⟩⟩ (fun _ => none) with
  | none => rw [h1] at h; cases h
  | some x =>
    obtain ⟨tm1, defs1, σ1⟩ := x
    rw [h1] at h
    cases h
    obtain ⟨cs, c1, c2, c3⟩ := runD_acts hx _ _ _ _ _ _ _ _ h1 N (Nat.le_trans hN (Nat.le_add_right _ _)) hN (fun k x hk => by cases hk)
    refine ⟨.bump ops.size :: cs, ⟨trivial, c1⟩, c2, fun σ₂ hl => ?_⟩
    have hl1 := hl.on (.bump ops.size) trivial
    have hnext := hl.next
    obtain ⟨o2, n2, s2⟩ := σ₂
    simp only at hnext
    subst hnext
    have := c3 _ hl1
    simp only [Ac.on] at this
    simp only [this]
    rfl

theorem range_acts' {ex : Runner} (hx : Acting G ex) {rd : Option Nat} {f : Operand} {params : Array Tmp} {assign body : Code} {tm tm' : Tm} {defs defs' : List Nat} {j : Option Code}
    (h : rangeWith P G ex rd f params assign body ⟨tm, defs, σ⟩ = some (j, ⟨tm', defs', σ'⟩)) (hN : N ≤ σ.next) :
    ∃ cs, okA N cs σ ∧ σ' = runA cs σ ∧ ∀ σ₂, Le N σ σ₂ → rangeWith P G ex rd f params assign body ⟨tm, defs, σ₂⟩ = some (j, ⟨tm', defs', runA cs σ₂⟩) := by
  have main : ∀ (d : Nat) (mark : List Nat) (σ₁ : AS), N ≤ σ₁.next → (match target (evT G tm f) [.yld σ₁.newId] with
      | some (.enter g args) => match callWith P G ex g args (σ₁.push (.loop { state := .ready, pending := none, tmps := tm, params, assign, body, defers := d })) with
        | some (_, σ₃) => match σ₃.get σ₁.newId with
          | some (.loop r) => if r.state = .busy then none else some (r.pending, (⟨tm, mark ++ defs, σ₃.set σ₁.newId (.loop { r with state := .exhausted })⟩ : Cfg))
          | _ => none
        | none => none
      | _ => none) = some (j, ⟨tm', defs', σ'⟩) →
      ∃ cs, okA N cs σ₁ ∧ σ' = runA cs σ₁ ∧ ∀ σ₂, Le N σ₁ σ₂ → (match target (evT G tm f) [.yld σ₂.newId] with
      | some (.enter g args) => match callWith P G ex g args (σ₂.push (.loop { state := .ready, pending := none, tmps := tm, params, assign, body, defers := d })) with
        | some (_, σ₃) => match σ₃.get σ₂.newId with
          | some (.loop r) => if r.state = .busy then none else some (r.pending, (⟨tm, mark ++ defs, σ₃.set σ₂.newId (.loop { r with state := .exhausted })⟩ : Cfg))
          | _ => none
        | none => none
      | _ => none) = some (j, ⟨tm', defs', runA cs σ₂⟩) := by
    intro d mark σ₁ hN₁ h
    split at h
    · rename_i g args ht
      split at h
      · rename_i u σ₃ hcw
        split at h
        · rename_i r hg
          split at h
          · cases h
          · rename_i hb
            cases h
            obtain ⟨cs, c1, c2, c3⟩ := call_acts (N := N) hx.1 hx.2 hcw (Nat.le_trans hN₁ (AS.next_push_le _ _))
            subst c2
            have k1 : okA N (Ac.push (.loop { state := .ready, pending := none, tmps := tm, params, assign, body, defers := d }) :: (cs ++ [Ac.set σ₁.newId (.loop { r with state := .exhausted })])) σ₁ :=
              ⟨trivial, okA_append c1 ⟨⟨_, hg⟩, trivial⟩⟩
            refine ⟨_, k1, by simp only [runA, runA_append, Ac.on], fun σ₂ hl => ?_⟩
            have hl1 := hl.push (.loop { state := .ready, pending := none, tmps := tm, params, assign, body, defers := d })
            have hl2 := hl1.run cs c1
            rw [hl.newId, ht]
            simp only [c3 _ hl1, hl2.get _ _ hg]
            rw [if_neg hb]
            simp only [runA, runA_append, Ac.on]
        · cases h
      · cases h
    · cases h
  unfold rangeWith at h ⊢
  cases rd with
  | none =>
    simp only at h ⊢
    obtain ⟨cs, c1, c2, c3⟩ := main _ _ _ (Nat.le_trans hN (AS.next_push_le σ .defr)) h
    refine ⟨.push .defr :: cs, ⟨trivial, c1⟩, c2, fun σ₂ hl => ?_⟩
    have := c3 _ (hl.push .defr)
    rw [hl.newId]
    exact this
  | some l =>
    simp only at h ⊢
    cases hg : σ.get l with
    | none => rw [hg] at h; cases h
    | some o =>
      rw [hg] at h
      cases o with
      | loop r =>
        simp only at h
        obtain ⟨cs, c1, c2, c3⟩ := main _ _ _ hN h
        refine ⟨cs, c1, c2, fun σ₂ hl => ?_⟩
        rw [hl.get _ _ hg]
        exact c3 _ hl
      | _ => cases h

theorem step_acts {ex : Runner} (hx : Acting G ex) : ExActs (fun rd c s => execStep P G ex rd c s) := by
  intro rd c tm defs σ e tm' defs' σ' h N hN
  have same : ∀ {e' : AEx}, some (e', (⟨tm, defs, σ⟩ : Cfg)) = some (e, ⟨tm', defs', σ'⟩) → (∀ σ₂, execStep P G ex rd c ⟨tm, defs, σ₂⟩ = some (e', ⟨tm, defs, σ₂⟩)) →
      ∃ cs, okA N cs σ ∧ σ' = runA cs σ ∧ ∀ σ₂, Le N σ σ₂ → execStep P G ex rd c ⟨tm, defs, σ₂⟩ = some (e, ⟨tm', defs', runA cs σ₂⟩) := fun h hs => by
    cases h; exact ⟨[], trivial, rfl, fun σ₂ _ => hs σ₂⟩
  cases c with
  | skip => exact same h fun _ => rfl
  | label l => exact same h fun _ => rfl
  | exit id => exact same h fun _ => rfl
  | ret => exact same h fun _ => rfl
  | goto l => cases h
  | refuse w => cases h
  | scope b => exact hx.2 _ _ _ _ _ _ _ _ _ h N hN
  | cond x a b =>
    simp only [execStep, stCond] at h ⊢
    split at h
    · exact hx.2 _ _ _ _ _ _ _ _ _ h N hN
    · cases h
  | seq a b =>
    simp only [execStep, stSeq] at h ⊢
    cases h1 : ex rd a ⟨tm, defs, σ⟩ with
    | none => rw [h1] at h; cases h
    | some x =>
      obtain ⟨e1, tm1, defs1, σ1⟩ := x
      rw [h1] at h
      obtain ⟨cs, c1, c2, c3⟩   := hx.2 _ _ _ _ _ _ _ _ _ h1 N hN
      subst c2
      cases e1 with
      | normal =>
        obtain ⟨ds, d1, d2, d3⟩   := hx.2 _ _ _ _ _ _ _ _ _ h N (Nat.le_trans hN (next_run σ cs))
        exact ⟨cs ++ ds, okA_append c1 d1, by rw [runA_append]; exact d2, fun σ₂ hl => by rw [c3 σ₂ hl, runA_append]; exact d3 _ (hl.run cs c1)⟩
      | exit id => cases h; exact ⟨cs, c1, rfl, fun σ₂ hl => by rw [c3 σ₂ hl]⟩
      | ret => cases h; exact ⟨cs, c1, rfl, fun σ₂ hl => by rw [c3 σ₂ hl]⟩
  | block id b =>
    simp only [execStep, stBlock] at h ⊢
    cases h1 : ex rd b ⟨tm, defs, σ⟩ with
    | none => rw [h1] at h; cases h
    | some x =>
      obtain ⟨e1, tm1, defs1, σ1⟩ := x
      rw [h1] at h
      obtain ⟨cs, c1, c2, c3⟩   := hx.2 _ _ _ _ _ _ _ _ _ h1 N hN
      subst c2
      cases e1 with
      | normal => cases h; exact ⟨cs, c1, rfl, fun σ₂ hl => by rw [c3 σ₂ hl]⟩
      | exit id' => cases h; exact ⟨cs, c1, rfl, fun σ₂ hl => by rw [c3 σ₂ hl]⟩
      | ret => cases h; exact ⟨cs, c1, rfl, fun σ₂ hl => by rw [c3 σ₂ hl]⟩
  | loop b =>
    simp only [execStep, stLoop] at h ⊢
    cases h1 : ex rd b ⟨tm, defs, σ⟩ with
    | none => rw [h1] at h; cases h
    | some x =>
      obtain ⟨e1, tm1, defs1, σ1⟩ := x
      rw [h1] at h
      obtain ⟨cs, c1, c2, c3⟩   := hx.2 _ _ _ _ _ _ _ _ _ h1 N hN
      subst c2
      cases e1 with
      | normal =>
        obtain ⟨ds, d1, d2, d3⟩   := hx.2 _ _ _ _ _ _ _ _ _ h N (Nat.le_trans hN (next_run σ cs))
        exact ⟨cs ++ ds, okA_append c1 d1, by rw [runA_append]; exact d2, fun σ₂ hl => by rw [c3 σ₂ hl, runA_append]; exact d3 _ (hl.run cs c1)⟩
      | exit id => cases h; exact ⟨cs, c1, rfl, fun σ₂ hl => by rw [c3 σ₂ hl]⟩
      | ret => cases h; exact ⟨cs, c1, rfl, fun σ₂ hl => by rw [c3 σ₂ hl]⟩
  | region id ops draw =>
    cases draw with
    | false =>
      simp only [execStep, stRegion, Bool.false_eq_true, if_false] at h ⊢
      cases h1 : runL P G ex ops ops.toList ⟨tm, defs, σ⟩ with
      | none => rw [h1] at h; cases h
      | some x =>
        obtain ⟨tm1, defs1, σ1⟩ := x
        rw [h1] at h
        cases h
        obtain ⟨cs, c1, c2, c3⟩ := runL_acts hx _ _ _ _ _ _ _ h1 N hN
        exact ⟨cs, c1, c2, fun σ₂ hl => by rw [c3 σ₂ hl]⟩
    | true =>
      simp only [execStep, stDraw, if_true] at h ⊢
      split at h
      · rename_i hok
        simp only [if_pos hok]
        exact drawS_acts hx h hN
      · rename_i hok
        simp only [if_neg hok]
        split at h
        · rename_i hok2
          simp only [if_pos hok2]
          exact drawS_acts hx h hN
        · cases h
  | rangeFunc f params assign body =>
    simp only [execStep, stRange] at h ⊢
    cases h1 : rangeWith P G ex rd f params assign body ⟨tm, defs, σ⟩ with
    | none => rw [h1] at h; cases h
    | some x =>
      obtain ⟨j, tm1, defs1, σ1⟩ := x
      rw [h1] at h
      obtain ⟨cs, c1, c2, c3⟩ := range_acts' hx h1 hN
      subst c2
      cases j with
      | none => cases h; exact ⟨cs, c1, rfl, fun σ₂ hl => by rw [c3 σ₂ hl]⟩
      | some c =>
        obtain ⟨ds, d1, d2, d3⟩   := hx.2 _ _ _ _ _ _ _ _ _ h N (Nat.le_trans hN (next_run σ cs))
        exact ⟨cs ++ ds, okA_append c1 d1, by rw [runA_append]; exact d2, fun σ₂ hl => by rw [c3 σ₂ hl, runA_append]; exact d3 _ (hl.run cs c1)⟩

theorem exec_acts (ho : OrcActs G) (n : Nat) : ExActs (exec P G n) := by
  induction n with
  | zero => intro rd c tm defs σ e tm' defs' σ' h; cases h
  | succ n ih => exact step_acts ⟨ho, ih⟩

end Go.Ab
/- What is turned about in a region that draws its order: the parts that do not see one another. -/
namespace Go.Ab
variable {P : Program} {G : Gl} {N : Nat} {σ σ' : AS}

section tree
variable {α : Type}
theorem setW_comm : ∀ (p q : List Bool) (t : Tr α) (u v : α), p ≠ q → (t.setW p u).setW q v = (t.setW q v).setW p u
  | [], [], _, _, _, h => absurd rfl h
  | [], c :: q, t, u, v, _ => by cases t <;> cases c <;> rfl
  | b :: p, [], t, u, v, _ => by cases t <;> cases b <;> rfl
  | b :: p, c :: q, t, u, v, h => by
    by_cases e : p = q
    · subst e
      have hbc : b ≠ c := fun e => h (by rw [e])
      cases t <;> cases b <;> cases c <;> first | exact absurd rfl hbc | rfl
    · have ih := fun t => setW_comm p q t u v e
      simp only [Tr.setW] at ih
      cases t <;> cases b <;> cases c <;> simp only [Tr.setW] <;> first | rfl | (congr 1; exact ih _)
theorem Tr.set_comm (t : Tr α) {i j : Nat} (u v : α) (h : i ≠ j) : (t.set i u).set j v = (t.set j v).set i u :=
  setW_comm _ _ t u v fun e => h (way_inj e)
end tree

def upStamp : Option (Nat × AObj) → Nat
  | some (n, _) => n + 1
  | none => 0
theorem putObj_eq (t : Tr (Nat × AObj)) (j : Nat) (x : AObj) : putObj t j x = t.set j (upStamp (t.get j), x) := by
  unfold putObj upStamp
  cases t.get j <;> rfl
theorem putObj_comm (t : Tr (Nat × AObj)) {j k : Nat} (x y : AObj) (h : j ≠ k) : putObj (putObj t j x) k y = putObj (putObj t k y) j x := by
  have h1 : (putObj t j x).get k = t.get k := by rw [putObj_get, if_neg h]
  have h2 : (putObj t k y).get j = t.get j := by rw [putObj_get, if_neg (fun e => h e.symm)]
  rw [putObj_eq (putObj t j x) k y, h1, putObj_eq (putObj t k y) j x, h2, putObj_eq t j x, putObj_eq t k y, Tr.set_comm _ _ _ h]

theorem Tm.set_comm (tm : Tm) {i j : Nat} (u v : AV) (h : i ≠ j) : (tm.set i u).set j v = (tm.set j v).set i u := by
  obtain ⟨n, t⟩ := tm
  unfold Tm.set
  by_cases hi : i < n <;> by_cases hj : j < n <;> simp [hi, hj]
  exact Tr.set_comm t u v h
theorem put_comm (tm : Tm) {x y : Option Tmp} (u v : AV) (h : ∀ d, x = some d → y ≠ some d) : put (put tm x u) y v = put (put tm y v) x u := by
  cases x with
  | none => rfl
  | some d => cases y with
    | none => rfl
    | some e => exact Tm.set_comm tm u v fun he => h d rfl (by rw [he])

theorem all_congr' {α : Type} {f g : α → Bool} : ∀ {l : List α}, (∀ x ∈ l, f x = g x) → l.all f = l.all g
  | [], _ => rfl
  | x :: l, h => by
    simp only [List.all_cons]
    rw [h x (by simp), all_congr' fun y hy => h y (by simp [hy])]

section congr
variable {o : Oper} {ev ev' : Operand → AV}
theorem effPure_congr (hsel : ∀ cs b, o.op ≠ .select cs b) (h : ∀ z ∈ o.op.operands, ev z = ev' z) : effPure P o ev = effPure P o ev' := by
  unfold effPure
  have h1 : o.op.operands.toList.all (fun x => !isRef (ev x)) = o.op.operands.toList.all (fun x => !isRef (ev' x)) := all_congr' fun x hx => by rw [h x (by simpa using hx)]
  have h2 : execOp (fun x => (sOf (ev x)).getD undef) o = execOp (fun x => (sOf (ev' x)).getD undef) o := execOp_congr o hsel fun x hx => by rw [h x hx]
  rw [h1, h2]

theorem map_ev {xs : List Operand} (h : ∀ z ∈ xs, ev z = ev' z) : xs.map ev = xs.map ev' := List.map_congr_left h
theorem opt_ev {x : Option Operand} (h : ∀ z ∈ x.toArray, ev z = ev' z) : x.map ev = x.map ev' := by
  cases x with
  | none => rfl
  | some x => simp [h x (by simp)]

theorem eff_congr (σ : AS) (h : ∀ z ∈ o.op.operands, ev z = ev' z) : eff P o ev σ = eff P o ev' σ := by
  cases ho : o.op <;> (have h' := h; rw [ho] at h'; simp only [Op.operands] at h')
  case move x => unfold eff; rw [ho]; simp only [h' x (by simp)]
  case assign x => unfold eff; rw [ho]; simp only [h' x (by simp)]
  case pick c a b => unfold eff; rw [ho]; simp only [effPick, h' a (by simp), h' b (by simp), h' c (by simp)]
  case alloc e => unfold eff; rw [ho]
  case box e v => unfold eff; rw [ho]; simp only [h' v (by simp)]
  case build t ps =>
    unfold eff; rw [ho]
    simp only
    congr 2
    exact List.map_congr_left fun p hp => by rw [h' p.2 (by simp; exact ⟨p.1, by simpa using hp⟩)]
  case buildSlice t n ps =>
    unfold eff; rw [ho]
    simp only
    congr 1
    exact List.map_congr_left fun p hp => by rw [h' p.2 (by simp; exact ⟨p.1, by simpa using hp⟩)]
  case load t a => unfold eff; rw [ho]; simp only [h' a (by simp)]
  case store t a v => unfold eff; rw [ho]; simp only [h' a (by simp), h' v (by simp)]
  case nilCheck x => unfold eff; rw [ho]; simp only [effNil, h' x (by simp), effPure_congr (P := P) (fun cs b => by rw [ho]; simp) h]
  case binOp op t x y yt => unfold eff; rw [ho]; simp only [h' x (by simp), h' y (by simp)]
  case unOp op t x => unfold eff; rw [ho]; simp only [effPure_congr (P := P) (fun cs b => by rw [ho]; simp) h]
  case convert s d x => unfold eff; rw [ho]; simp only [effConv, h' x (by simp), effPure_congr (P := P) (fun cs b => by rw [ho]; simp) h]
  case makeInterface t x => unfold eff; rw [ho]; simp only [h' x (by simp)]
  case makeFunc fn first cap =>
    unfold eff; rw [ho]
    simp only
    rw [map_ev (xs := first.toList) fun z hz => h' z (by simp; left; simpa using hz), map_ev (xs := cap.toList) fun z hz => h' z (by simp; right; simpa using hz)]
  case makeMap t r => unfold eff; rw [ho]; simp only [opt_ev h']
  case makeSlice t l c => unfold eff; rw [ho]; simp only [h' l (by simp), h' c (by simp)]
  case slice t x lo hi mx =>
    unfold eff; rw [ho]
    simp only [effSliceTop, effSliceOp, h' x (by simp), effPure_congr (P := P) (fun cs b => by rw [ho]; simp) h, opt_ev (x := lo) (fun z hz => h' z (by simp at hz ⊢; simp [hz])), opt_ev (x := hi) (fun z hz => h' z (by simp at hz ⊢; simp [hz])),
      opt_ev (x := mx) (fun z hz => h' z (by simp at hz ⊢; simp [hz]))]
  case fieldAddr t x f => unfold eff; rw [ho]; simp only [h' x (by simp)]
  case field t x f => unfold eff; rw [ho]; simp only [effFieldOp, h' x (by simp), effPure_congr (P := P) (fun cs b => by rw [ho]; simp) h]
  case indexAddr t x ix => unfold eff; rw [ho]; simp only [h' x (by simp), h' ix (by simp)]
  case index t x ix => unfold eff; rw [ho]; simp only [effIndexOp, h' x (by simp), h' ix (by simp), effPure_congr (P := P) (fun cs b => by rw [ho]; simp) h]
  case range t x => unfold eff; rw [ho]; simp only [h' x (by simp)]
  case next it b => unfold eff; rw [ho]; simp only [h' it (by simp)]
  case entry it => unfold eff; rw [ho]; simp only [h' it (by simp)]
  case mapUpdate t m k v => unfold eff; rw [ho]; simp only [h' m (by simp), h' k (by simp), h' v (by simp)]
  case lookup t x k ok => unfold eff; rw [ho]; simp only [effLookup, h' x (by simp), h' k (by simp), effPure_congr (P := P) (fun cs b => by rw [ho]; simp) h]
  case mapEntry t m k => unfold eff; rw [ho]; simp only [h' m (by simp), h' k (by simp)]
  case entryStore t m n v => unfold eff; rw [ho]; simp only [h' m (by simp), h' n (by simp), h' v (by simp)]
  case typeAssert x xt a ok => unfold eff; rw [ho]; simp only [effAssertOp, h' x (by simp), effPure_congr (P := P) (fun cs b => by rw [ho]; simp) h]
  case extract t i => unfold eff; rw [ho]; simp only [effExtract, h' t (by simp), effPure_congr (P := P) (fun cs b => by rw [ho]; simp) h]
  case call c =>
    have hargs : c.args.toList.map ev = c.args.toList.map ev' := map_ev fun z hz => h' z (by simp [Call.operands]; right; simpa using hz)
    have hp := effPure_congr (P := P) (ev := ev) (ev' := ev') (fun cs b => by rw [ho]; simp) h
    unfold eff; rw [ho]
    simp only [effCall]
    cases hc : c.callee with
    | value f => simp only [hargs, h' f (by simp [Call.operands, hc]), hp]
    | invoke rv m => simp only [hargs, h' rv (by simp [Call.operands, hc])]
    | builtin b => simp only [hargs, effBuiltin, effLenOp, effCapOp, hp]
  all_goals (unfold eff; rw [ho])

theorem ev_put {tm : Tm} {dst : Option Tmp} {v : AV} {x : Operand} (h : ∀ d, dst = some d → x ≠ .tmp d) : evT G (put tm dst v) x = evT G tm x := by
  cases dst with
  | none => rfl
  | some d =>
    cases x with
    | tmp t =>
      have hne : d ≠ t := fun e => h d rfl (by rw [e])
      simp only [evT, put, Tm.get_set]
      rw [if_neg (fun e => hne e.1)]
    | _ => rfl

theorem wanted_puts {ops : Array Oper} {tm : Tm} {dst : Option Tmp} {v : AV} (h : ∀ d, dst = some d → d ∉ o.looksAt ops) : Region.wanted o (ayielded ops (put tm dst v)) = Region.wanted o (ayielded ops tm) := by
  cases dst with
  | none => rfl
  | some d =>
    unfold Region.wanted
    cases hg : o.guard with
    | none => rfl
    | some gw =>
      obtain ⟨g, want⟩ := gw
      have hy : ayielded ops (put tm (some d) v) g = ayielded ops tm g := by
        unfold ayielded
        cases ht : (ops[g]?).bind (·.dst) with
        | none => rfl
        | some t =>
          have hne : d ≠ t := fun e => h d rfl (by subst e; simp [Oper.looksAt, hg, ht])
          simp only [put, Tm.get_set]
          rw [if_neg (fun e => hne e.1)]
      simp only [hy]

theorem evs_put {ops : Array Oper} {tm : Tm} {dst : Option Tmp} {v : AV} (h : ∀ d, dst = some d → d ∉ o.looksAt ops) : ∀ z ∈ o.op.operands, evT G (put tm dst v) z = evT G tm z := fun z hz =>
  ev_put fun d hd hzd => h d hd (by
    subst hzd
    exact List.mem_append_left _ (List.mem_filterMap.2 ⟨.tmp d, by simpa using hz, rfl⟩))

theorem resO_put {ex : Runner} {ops : Array Oper} {tm : Tm} {dst : Option Tmp} {v : AV} (h : ∀ d, dst = some d → d ∉ o.looksAt ops) (σ : AS) : resO P G ex ops o (put tm dst v) σ = resO P G ex ops o tm σ := by
  unfold resO
  rw [wanted_puts h, eff_congr (P := P) (ev' := evT G tm) σ (evs_put h)]
theorem resX_put {ex : Runner} {base i : Nat} {ops : Array Oper} {tm : Tm} {dst : Option Tmp} {v : AV} (h : ∀ d, dst = some d → d ∉ o.looksAt ops) (σ : AS) : resX P G ex base ops i o (put tm dst v) σ = resX P G ex base ops i o tm σ := by
  unfold resX
  obtain ⟨objs, next, slot⟩ := σ
  simp only [resA, resO_put h]
theorem noted_put {ops : Array Oper} {tm : Tm} {dst : Option Tmp} {v : AV} (h : ∀ d, dst = some d → d ∉ o.looksAt ops) (σ : AS) : noted G ops o (put tm dst v) σ = noted G ops o tm σ := by
  unfold noted
  rw [wanted_puts h]
  have he := evs_put (G := G) (tm := tm) (v := v) h
  congr 1
  unfold readOf
  cases ho : o.op <;> simp only <;> rw [ho] at he <;> simp only [Op.operands] at he
  case load t a => rw [he a (by simp)]
  case indexAddr t x ix => rw [he x (by simp)]
  case slice t x lo hi mx => rw [he x (by simp)]
  case convert s t x => rw [he x (by simp)]
  case lookup t x k ok => rw [he x (by simp)]
end congr

end Go.Ab
/- Two neighbours in a region that draws its order may be turned about. -/
namespace Go.Ab
variable {P : Program} {G : Gl} {N : Nat} {σ σ' : AS} {r : ANext}

def Same (f : AS → Option (ANext × AS)) (σ : AS) (r : ANext) (σ' : AS) : Prop := σ' = σ ∧ (∃ v, r = .val v) ∧ ∀ τ, f τ = some (r, τ)
theorem pure_same {x : Option AV} (h : withSt σ x = some (r, σ')) : Same (fun σ => withSt σ x) σ r σ' := by
  obtain ⟨v, rfl, rfl, rfl⟩ := withSt_some h
  exact ⟨rfl, ⟨v, rfl⟩, fun τ => rfl⟩
theorem eff0 {o : Oper} {ev : Operand → AV} (hc : cls o = 0) (h : eff P o ev σ = some (r, σ')) : Same (eff P o ev) σ r σ' := by
  unfold eff at h ⊢
  unfold cls at hc
  cases ho : o.op <;> simp only [ho] at h hc ⊢ <;> try (cases hc; done)
  case move x => cases h; exact ⟨rfl, ⟨_, rfl⟩, fun _ => rfl⟩
  case assign x => cases h; exact ⟨rfl, ⟨_, rfl⟩, fun _ => rfl⟩
  case pick c a b =>
    unfold effPick at h ⊢
    split at h
    · cases h; exact ⟨rfl, ⟨_, rfl⟩, fun _ => rfl⟩
    · cases h
  case build t parts => exact pure_same h
  case nilCheck x =>
    unfold effNil at h ⊢
    split at h <;> first | exact pure_same h | (cases h; exact ⟨rfl, ⟨_, rfl⟩, fun _ => rfl⟩)
  case binOp op t x y yt =>
    unfold effBin at h ⊢
    split at h
    · split at h
      · cases h; exact ⟨rfl, ⟨_, rfl⟩, fun _ => rfl⟩
      · split at h
        · cases h; exact ⟨rfl, ⟨_, rfl⟩, fun _ => rfl⟩
        · cases h
    · split at h
      · simp only [Option.map_eq_some_iff, Prod.mk.injEq] at h
        obtain ⟨q, hq, rfl, rfl⟩ := h
        exact ⟨rfl, ⟨_, rfl⟩, fun _ => by simp [hq]⟩
      · simp only [Option.map_eq_some_iff, Prod.mk.injEq] at h
        obtain ⟨q, hq, rfl, rfl⟩ := h
        exact ⟨rfl, ⟨_, rfl⟩, fun _ => by simp [hq]⟩
      · cases h
  case unOp => exact pure_same h
  case makeInterface t x =>
    unfold effMkIfc at h ⊢
    split at h
    · cases h
    · cases h; exact ⟨rfl, ⟨_, rfl⟩, fun _ => rfl⟩
    · cases h
  case makeFunc => cases h; exact ⟨rfl, ⟨_, rfl⟩, fun _ => rfl⟩
  case fieldAddr t x f => exact pure_same h
  case field t x f =>
    unfold effFieldOp at h ⊢
    split at h
    · exact pure_same h
    · exact pure_same h
  case index t x ix =>
    unfold effIndexOp at h ⊢
    split at h
    · exact pure_same h
    · exact pure_same h
  case typeAssert x xt asserted ok =>
    unfold effAssertOp at h ⊢
    split at h
    · rename_i hr
      simp only [hr, if_true]
      exact pure_same h
    · rename_i hr
      simp only [hr]
      exact pure_same h
  case extract t i =>
    unfold effExtract at h ⊢
    split at h
    · exact pure_same h
    · exact pure_same h
    · exact pure_same h
  case call c =>
    unfold effCall at h ⊢
    split at h
    · rename_i hcal; rw [hcal] at hc; cases hc
    · rename_i hcal; rw [hcal] at hc; cases hc
    · rename_i b hcal
      rw [hcal] at hc
      unfold effBuiltin at h ⊢
      split at h
      · cases hc
      · cases hc
      · cases hc
      · unfold effLenOp at h ⊢
        split at h
        · rename_i hr
          simp only [hr, if_true]
          exact pure_same h
        · rename_i hr
          simp only [hr]
          exact pure_same h
      · cases hc
      · exact pure_same h
      · exact pure_same h
      · cases h

def Seen.fresh (σ τ : AS) : Seen → Prop
  | .all id _ => τ.get id = σ.get id
  | .size id es => ∃ e x rows, τ.get id = some (.cells e es x rows)
theorem eff1 {o : Oper} {ev : Operand → AV} (hc : cls o = 1) (h : eff P o ev σ = some (r, σ')) : σ' = σ ∧ (∃ v, r = .val v) ∧ ∀ τ : AS, (∀ sn, readOf o ev σ = some sn → sn.fresh σ τ) → eff P o ev τ = some (r, τ) := by
  unfold readOf
  unfold eff at h ⊢
  unfold cls at hc
  cases ho : o.op <;> simp only [ho] at h hc ⊢ <;> try (cases hc; done)
  case load t a =>
    obtain ⟨v, hv, rfl, rfl⟩ := withSt_some h
    refine ⟨rfl, ⟨v, rfl⟩, fun τ hf => ?_⟩
    have : effLoad P t (ev a) τ = some v := by
      cases ha : ev a <;> rw [ha] at hv hf <;> simp only [effLoad] at hv ⊢ <;> try (cases hv; done)
      · rename_i id i f
        simp only [Option.bind_eq_some_iff] at hv ⊢
        obtain ⟨rows, hrows, hrest⟩ := hv
        refine ⟨rows, ?_, hrest⟩
        unfold AS.rows at hrows ⊢
        split at hrows
        · rename_i e es x rws hg
          obtain ⟨n, hn⟩ := AS.objs_of_get hg
          have := hf (.all id n) (by simp only [seenAll, idOf, hn])
          simp only [Seen.fresh] at this
          rw [this, hg]; exact hrows
        · cases hrows
      · exact hv
    simp [withSt, this]
  case convert s t x =>
    unfold effConv at h ⊢
    split at h
    · rename_i hr
      simp only [hr, if_true]
      obtain ⟨v, hv, rfl, rfl⟩ := withSt_some h
      refine ⟨rfl, ⟨v, rfl⟩, fun τ hf => ?_⟩
      have : effBytes P s t (ev x) τ = some v := by
        unfold effBytes at hv ⊢
        split at hv
        · rename_i id i n cap hs ht hx
          split at hv
          · rename_i e' es ex rows hu hg
            obtain ⟨m, hm⟩ := AS.objs_of_get hg
            have := hf (.all id m) (by simp only [seenAll, hx, idOf, hm])
            simp only [Seen.fresh] at this
            simp only [hu, this, hg]
            exact hv
          · cases hv
        · cases hv
      simp [withSt, this]
    · rename_i hr
      simp only [hr]
      obtain ⟨h1, h2, h3⟩ := pure_same h
      exact ⟨h1, h2, fun τ _ => h3 τ⟩
  case slice t x lo hi mx =>
    unfold effSliceTop at h ⊢
    split at h
    · obtain ⟨h1, h2, h3⟩ := pure_same h
      exact ⟨h1, h2, fun τ _ => h3 τ⟩
    unfold effSliceOp at h ⊢
    split at h
    · rename_i hr
      simp only [hr, if_true]
      obtain ⟨v, hv, rfl, rfl⟩ := withSt_some h
      refine ⟨rfl, ⟨v, rfl⟩, fun τ hf => ?_⟩
      have : effSlice P t (ev x) (lo.map ev) (hi.map ev) (mx.map ev) τ = some v := by
        unfold effSlice at hv ⊢
        split at hv
        · cases hv
        · rename_i hcc
          rw [if_neg hcc]
          split at hv
          · split at hv
            · split at hv
              · rename_i id i n cap hx
                split at hv
                · rename_i hg
                  obtain ⟨m, hm⟩ := AS.objs_of_get hg
                  have := hf (.all id m) (by simp only [seenAll, hx, idOf, hm])
                  simp only [Seen.fresh] at this
                  rw [this, hg]
                  exact hv
                · cases hv
              · exact hv
              · cases hv
            · cases hv
          · cases hv
      simp [withSt, this]
    · rename_i hr
      simp only [hr]
      obtain ⟨h1, h2, h3⟩ := pure_same h
      exact ⟨h1, h2, fun τ _ => h3 τ⟩
  case indexAddr t x ix =>
    obtain ⟨v, hv, rfl, rfl⟩ := withSt_some h
    refine ⟨rfl, ⟨v, rfl⟩, fun τ hf => ?_⟩
    have : effIndexAddr P t (ev x) (ev ix) τ = some v := by
      unfold effIndexAddr at hv ⊢
      split at hv
      · split at hv
        · split at hv
          · rename_i id i len cap hx
            split at hv
            · rename_i e es xx rows hg
              obtain ⟨m, hm⟩ := AS.objs_of_get hg
              have := hf (.size id es) (by simp only [seenSl, hx, hm])
              obtain ⟨e', x', rows', hτ⟩ := this
              rw [hτ]
              exact hv
            · cases hv
          · exact hv
          · cases hv
        · cases hv
      · exact hv
      · cases hv
    simp [withSt, this]
  case lookup t x k ok =>
    unfold effLookup at h ⊢
    split at h
    · rename_i id hm
      split at h
      · rename_i kt et kv hu hk
        split at h
        · rename_i es clock hg
          obtain ⟨m, hmm⟩ := AS.objs_of_get hg
          have key : ∀ τ : AS, (∀ sn, seenAll σ (ev x) = some sn → sn.fresh σ τ) → τ.get id = some (.map es clock) := fun τ hf => by
            have := hf (.all id m) (by simp only [seenAll, hm, idOf, hmm])
            simp only [Seen.fresh] at this
            rw [this, hg]
          split at h
          · rename_i i k0 v0 b hfind
            cases h
            exact ⟨rfl, ⟨_, rfl⟩, fun τ hf => by simp only [hm, hu, hk, key τ hf, hfind]⟩
          · rename_i hfind
            split at h
            · rename_i z hz
              cases h
              exact ⟨rfl, ⟨_, rfl⟩, fun τ hf => by simp only [hm, hu, hk, key τ hf, hfind, hz]⟩
            · cases h
          · cases h
        · cases h
      · cases h
    · rename_i hx
      obtain ⟨h1, h2, h3⟩ := pure_same h
      exact ⟨h1, h2, fun τ _ => h3 τ⟩
  case call c =>
    cases hcal : c.callee with
    | value f => rw [hcal] at hc; cases hc
    | invoke a b => rw [hcal] at hc; cases hc
    | builtin b => rw [hcal] at hc; cases b <;> cases hc

theorem eff3 {o : Oper} {ev : Operand → AV} (hc : cls o = 3) (h : eff P o ev σ = some (r, σ')) : (∃ v, r = .val v) ∧ ∃ ob, σ' = σ.push ob ∧ ∀ τ : AS, τ.newId = σ.newId → eff P o ev τ = some (r, τ.push ob) := by
  unfold eff at h ⊢
  unfold cls at hc
  cases ho : o.op <;> simp only [ho] at h hc ⊢ <;> try (cases hc; done)
  case alloc elem =>
    unfold effAlloc at h ⊢
    simp only [Option.map_eq_some_iff, Option.bind_eq_some_iff] at h
    obtain ⟨z, ⟨i, hi, hz⟩, he⟩ := h
    cases he
    refine ⟨⟨_, rfl⟩, _, rfl, fun τ ht => ?_⟩
    simp only [hi, hz, Option.bind_some, Option.map_some, effBox, ht]
  case box elem v =>
    cases h
    exact ⟨⟨_, rfl⟩, _, rfl, fun τ ht => by simp only [effBox, ht]⟩
  case buildSlice t len parts =>
    unfold effBuildSlice at h ⊢
    split at h
    · rename_i elem hu
      split at h
      · rename_i info hi
        split at h
        · rename_i z hz
          split at h
          · rename_i hcc
            split at h
            · rename_i rows hr
              cases h
              refine ⟨⟨_, rfl⟩, _, rfl, fun τ ht => ?_⟩
              simp only [ht]
              rw [if_pos hcc]
            · cases h
          · cases h
        · cases h
      · cases h
    · cases h
  case makeSlice t l c =>
    unfold effMakeSlice at h ⊢
    split at h
    · rename_i elem kl len kc cap hu hl hcp
      split at h
      · rename_i info hi
        split at h
        · rename_i z hz
          split at h
          · rename_i hcc
            cases h
            refine ⟨⟨_, rfl⟩, _, rfl, fun τ ht => ?_⟩
            simp only [ht]
            rw [if_pos hcc]
          · cases h
        · cases h
      · cases h
    · cases h
  case makeMap t x =>
    unfold effMakeMap at h ⊢
    split at h
    · rename_i hx
      cases h
      exact ⟨⟨_, rfl⟩, _, rfl, fun τ ht => by simp only [ht]⟩
    · rename_i hx
      split at h
      · rename_i hu
        cases h
        exact ⟨⟨_, rfl⟩, _, rfl, fun τ ht => by simp only [ht]⟩
      · cases h
    · cases h
  case call c =>
    cases hcal : c.callee with
    | value f => rw [hcal] at hc; cases hc
    | invoke a b => rw [hcal] at hc; cases hc
    | builtin b => rw [hcal] at hc; cases b <;> cases hc

end Go.Ab
/- Two neighbours in a region that draws its order may be turned about: the runs. -/
namespace Go.Ab
variable {P : Program} {G : Gl} {N : Nat} {ex : Runner} {base : Nat} {ops : Array Oper}

theorem resX_slot {i : Nat} {o : Oper} {tm : Tm} {σ σ' : AS} {v : AV} (h : resX P G ex base ops i o tm σ = some (v, σ')) : σ'.slot = none := by
  obtain ⟨objs, next, slot⟩ := σ
  simp only [resX, resA] at h
  split at h
  · split at h
    · cases h
    · split at h
      · cases h; rfl
      · cases h
  · split at h
    · cases h; rfl
    · cases h

theorem resX_plain {i : Nat} {o : Oper} {tm : Tm} (hc : cls o ≠ 3) (objs : Tr (Nat × AObj)) (next : Nat) (slot : Option Nat) :
    resX P G ex base ops i o tm ⟨objs, next, slot⟩ = match resO P G ex ops o tm ⟨objs, next, none⟩ with
      | some (v, ⟨objs', next', _⟩) => some (v, ⟨objs', next', none⟩)
      | none => none := by
  have : ¬ (cls o == 3) = true := by simpa using hc
  simp only [resX]
  rw [if_neg this]
  rfl

theorem resX0 {i : Nat} {o : Oper} {tm : Tm} {σ σ' : AS} {v : AV} (hc : cls o = 0) (hs : σ.slot = none) (h : resX P G ex base ops i o tm σ = some (v, σ')) :
    σ' = σ ∧ ∀ τ : AS, τ.slot = none → resX P G ex base ops i o tm τ = some (v, τ) := by
  obtain ⟨objs, next, slot⟩ := σ
  simp only at hs; subst hs
  have h3 : cls o ≠ 3 := by omega
  rw [resX_plain h3] at h
  have key : ∀ τ : AS, resO P G ex ops o tm ⟨objs, next, none⟩ = some (v, ⟨objs, next, none⟩) → resO P G ex ops o tm τ = some (v, τ) → τ.slot = none → resX P G ex base ops i o tm τ = some (v, τ) := by
    intro τ _ h2 h4
    obtain ⟨a, b, c⟩ := τ
    simp only at h4; subst h4
    rw [resX_plain h3, h2]
  split at h
  · rename_i u objs' next' slot' hr
    cases h
    unfold resO at hr
    split at hr
    · rename_i hw
      cases he : eff P o (evT G tm) ⟨objs, next, none⟩ with
      | none => rw [he] at hr; cases hr
      | some x =>
        obtain ⟨r, σ₁⟩ := x
        rw [he] at hr
        obtain ⟨rfl, ⟨v', rfl⟩, hall⟩ := eff0 hc he
        simp only [resNext, Option.some.injEq, Prod.mk.injEq] at hr
        obtain ⟨rfl, hr⟩ := hr
        cases hr
        refine ⟨rfl, fun τ hτ => ?_⟩
        obtain ⟨a, b, c⟩ := τ
        simp only at hτ; subst hτ
        rw [resX_plain h3]
        simp only [resO]
        rw [if_pos hw, hall]
        rfl
    · rename_i hw
      cases hr
      refine ⟨rfl, fun τ hτ => ?_⟩
      obtain ⟨a, b, c⟩ := τ
      simp only at hτ; subst hτ
      rw [resX_plain h3]
      simp only [resO]
      rw [if_neg hw]
  · cases h

theorem resX1 {i : Nat} {o : Oper} {tm : Tm} {σ σ' : AS} {v : AV} (hc : cls o = 1) (hs : σ.slot = none) (h : resX P G ex base ops i o tm σ = some (v, σ')) :
    σ' = σ ∧ ∀ τ : AS, τ.slot = none → (∀ sn, noted G ops o tm σ = some sn → sn.fresh σ τ) → resX P G ex base ops i o tm τ = some (v, τ) := by
  obtain ⟨objs, next, slot⟩ := σ
  simp only at hs; subst hs
  have h3 : cls o ≠ 3 := by omega
  rw [resX_plain h3] at h
  split at h
  · rename_i u objs' next' slot' hr
    cases h
    unfold resO at hr
    split at hr
    · rename_i hw
      cases he : eff P o (evT G tm) ⟨objs, next, none⟩ with
      | none => rw [he] at hr; cases hr
      | some x =>
        obtain ⟨r, σ₁⟩ := x
        rw [he] at hr
        obtain ⟨rfl, ⟨v', rfl⟩, hall⟩ := eff1 hc he
        simp only [resNext, Option.some.injEq, Prod.mk.injEq] at hr
        obtain ⟨rfl, hr⟩ := hr
        cases hr
        refine ⟨rfl, fun τ hτ hf => ?_⟩
        obtain ⟨a, b, c⟩ := τ
        simp only at hτ; subst hτ
        rw [resX_plain h3]
        simp only [resO]
        rw [if_pos hw, hall _ (fun sn hsn => hf sn (by unfold noted; rw [if_pos hw]; exact hsn))]
        rfl
    · rename_i hw
      cases hr
      refine ⟨rfl, fun τ hτ _ => ?_⟩
      obtain ⟨a, b, c⟩ := τ
      simp only at hτ; subst hτ
      rw [resX_plain h3]
      simp only [resO]
      rw [if_neg hw]
  · cases h

theorem resX3 {i : Nat} {o : Oper} {tm : Tm} {σ σ' : AS} {v : AV} (hc : cls o = 3) (h : resX P G ex base ops i o tm σ = some (v, σ')) : σ.objs.get (base + i) = none ∧
    ((∃ ob, σ' = ⟨putObj σ.objs (base + i) ob, σ.next, none⟩ ∧ ∀ τ : AS, τ.objs.get (base + i) = none → resX P G ex base ops i o tm τ = some (v, ⟨putObj τ.objs (base + i) ob, τ.next, none⟩)) ∨
     (σ' = ⟨σ.objs, σ.next, none⟩ ∧ ∀ τ : AS, τ.objs.get (base + i) = none → resX P G ex base ops i o tm τ = some (v, ⟨τ.objs, τ.next, none⟩))) := by
  have h3 : (cls o == 3) = true := by simp [hc]
  have form : ∀ τ : AS, τ.objs.get (base + i) = none → resX P G ex base ops i o tm τ = match resO P G ex ops o tm ⟨τ.objs, τ.next, some (base + i)⟩ with
      | some (v, ⟨objs', next', _⟩) => some (v, ⟨objs', next', none⟩)
      | none => none := by
    intro τ hτ
    obtain ⟨a, b, c⟩ := τ
    simp only at hτ
    simp only [resX]
    rw [if_pos h3]
    simp only [resA, hτ]
    rfl
  have hnone : σ.objs.get (base + i) = none := by
    obtain ⟨objs, next, slot⟩ := σ
    simp only [resX] at h
    rw [if_pos h3] at h
    simp only [resA] at h
    split at h
    · cases h
    · rename_i hg; exact hg
  refine ⟨hnone, ?_⟩
  rw [form σ hnone] at h
  split at h
  · rename_i u objs' next' slot' hr
    cases h
    unfold resO at hr
    split at hr
    · rename_i hw
      cases he : eff P o (evT G tm) ⟨σ.objs, σ.next, some (base + i)⟩ with
      | none => rw [he] at hr; cases hr
      | some x =>
        obtain ⟨r, σ₁⟩ := x
        rw [he] at hr
        obtain ⟨⟨v', rfl⟩, ob, hob, hall⟩ := eff3 hc he
        simp only [resNext, Option.some.injEq, Prod.mk.injEq] at hr
        obtain ⟨rfl, hr⟩ := hr
        subst hob
        simp only [AS.push] at hr
        cases hr
        left
        refine ⟨ob, rfl, fun τ hτ => ?_⟩
        rw [form τ hτ]
        simp only [resO]
        rw [if_pos hw, hall ⟨τ.objs, τ.next, some (base + i)⟩ rfl]
        rfl
    · rename_i hw
      cases hr
      right
      refine ⟨rfl, fun τ hτ => ?_⟩
      rw [form τ hτ]
      simp only [resO]
      rw [if_neg hw]
  · cases h

theorem noted_none {o : Oper} {tm : Tm} (hc : cls o ≠ 1) (σ : AS) : noted G ops o tm σ = none := by
  unfold noted
  have : readOf o (evT G tm) σ = none := by
    unfold readOf
    unfold cls at hc
    cases ho : o.op <;> simp_all
  rw [this]
  split <;> rfl

theorem stands_upd_none {rc : Rec} {k : Nat} {w : Option Seen} {σ : AS} {fl : List Nat} (hk : rc k = none) (h : stands (rc.upd k w) σ fl = true) : stands rc σ fl = true := by
  unfold stands at h ⊢
  rw [List.all_eq_true] at h ⊢
  intro j hj
  have := h j hj
  by_cases e : j = k
  · subst e; rw [hk]
  · simp only [Rec.upd, e, if_false] at this; exact this
theorem stands_upd {rc : Rec} {k : Nat} {σ : AS} {fl : List Nat} (h : stands rc σ fl = true) : stands (rc.upd k none) σ fl = true := by
  unfold stands at h ⊢
  rw [List.all_eq_true] at h ⊢
  intro j hj
  have := h j hj
  by_cases e : j = k
  · simp [Rec.upd, e]
  · simp only [Rec.upd, e, if_false]; exact this
theorem stands_put {rc : Rec} {t : Tr (Nat × AObj)} {n n' : Nat} {s s' : Option Nat} {k : Nat} {ob : AObj} {fl : List Nat} (hk : t.get k = none) (h : stands rc ⟨t, n, s⟩ fl = true) : stands rc ⟨putObj t k ob, n', s'⟩ fl = true := by
  unfold stands at h ⊢
  rw [List.all_eq_true] at h ⊢
  intro j hj
  have := h j hj
  cases hx : rc j with
  | none => rfl
  | some x =>
    rw [hx] at this
    cases x with
    | all id m =>
      simp only [Seen.stands] at this ⊢
      rw [putObj_get]
      by_cases e : k = id
      · subst e; rw [hk] at this; cases this
      · rw [if_neg e]; exact this
    | size id m =>
      simp only [Seen.stands] at this ⊢
      rw [putObj_get]
      by_cases e : k = id
      · subst e; rw [hk] at this; cases this
      · rw [if_neg e]; exact this
theorem upd_comm (rc : Rec) {i j : Nat} (u v : Option Seen) (h : i ≠ j) : (rc.upd i u).upd j v = (rc.upd j v).upd i u := by
  funext k
  unfold Rec.upd
  by_cases e1 : k = j
  · have e2 : ¬ k = i := fun e => h (e.symm.trans e1)
    rw [if_pos e1, if_neg e2, if_pos e1]
  · rw [if_neg e1]
    by_cases e2 : k = i
    · rw [if_pos e2, if_pos e2]
    · rw [if_neg e2, if_neg e2, if_neg e1]

theorem comm_run {k : Nat} {ob : AObj} : ∀ (cs : List Ac) (σ : AS), okA N cs σ → k < N → N ≤ σ.next → (∀ j, σ.slot = some j → N ≤ j) → (runA cs σ).objs.get k = none →
    runA cs ⟨putObj σ.objs k ob, σ.next, σ.slot⟩ = ⟨putObj (runA cs σ).objs k ob, (runA cs σ).next, (runA cs σ).slot⟩
  | [], σ, _, _, _, _, _ => rfl
  | c :: cs, σ, hok, hk, hn, hs, hg => by
    have hg' : (runA cs (c.on σ)).objs.get k = none := hg
    have hstep : c.on ⟨putObj σ.objs k ob, σ.next, σ.slot⟩ = ⟨putObj (c.on σ).objs k ob, (c.on σ).next, (c.on σ).slot⟩ := by
      obtain ⟨t, n, s⟩ := σ
      cases c with
      | set id x =>
        obtain ⟨p, hp⟩ := hok.1
        obtain ⟨m, hm⟩ := AS.objs_of_get hp
        have hne : id ≠ k := fun e => by
          obtain ⟨m', o', h1, _⟩ := objs_on hm (.set id x)
          obtain ⟨m'', o'', h2, _⟩ := objs_run h1 cs
          subst e
          rw [hg'] at h2; cases h2
        simp only [Ac.on, AS.set]
        rw [putObj_comm _ _ _ hne]
      | push x =>
        cases s with
        | none =>
          simp only [Ac.on, AS.push]
          rw [putObj_comm _ _ _ (show n ≠ k by simp only at hn; omega)]
        | some j =>
          have := hs j rfl
          simp only [Ac.on, AS.push]
          rw [putObj_comm _ _ _ (show j ≠ k by omega)]
      | bump m => rfl
      | slot q => rfl
    have hn' : N ≤ (c.on σ).next := Nat.le_trans hn (next_on σ c)
    have hs' : ∀ j, (c.on σ).slot = some j → N ≤ j := by
      cases c with
      | set id x => exact hs
      | push x => intro j hj; have : (σ.push x).slot = some j := hj; rw [AS.slot_push] at this; cases this
      | bump m => intro j hj; cases hj
      | slot q => intro j hj; have h1 := hok.1; simp only [Ac.on] at hj; subst hj; exact h1
    simp only [runA]
    rw [hstep]
    exact comm_run cs (c.on σ) hok.2 hk hn' hs' hg'

theorem absent_run {k : Nat} : ∀ (cs : List Ac) (σ : AS), okA N cs σ → k < N → N ≤ σ.next → (∀ j, σ.slot = some j → N ≤ j) → σ.objs.get k = none → (runA cs σ).objs.get k = none
  | [], σ, _, _, _, _, h => h
  | c :: cs, σ, hok, hk, hn, hs, hg => by
    have hstep : (c.on σ).objs.get k = none := by
      obtain ⟨t, n, s⟩ := σ
      cases c with
      | set id x =>
        obtain ⟨p, hp⟩ := hok.1
        obtain ⟨m, hm⟩ := AS.objs_of_get hp
        have hne : ¬ id = k := fun e => by subst e; simp only at hm hg; rw [hg] at hm; cases hm
        show (putObj t id x).get k = none
        rw [putObj_get, if_neg hne]; exact hg
      | push x =>
        cases s with
        | none =>
          show (putObj t n x).get k = none
          rw [putObj_get, if_neg (by simp only at hn; omega)]; exact hg
        | some j =>
          have := hs j rfl
          show (putObj t j x).get k = none
          rw [putObj_get, if_neg (by omega)]; exact hg
      | bump m => exact hg
      | slot q => exact hg
    have hn' : N ≤ (c.on σ).next := Nat.le_trans hn (next_on σ c)
    have hs' : ∀ j, (c.on σ).slot = some j → N ≤ j := by
      cases c with
      | set id x => exact hs
      | push x => intro j hj; have : (σ.push x).slot = some j := hj; rw [AS.slot_push] at this; cases this
      | bump m => intro j hj; cases hj
      | slot q => intro j hj; have h1 := hok.1; simp only [Ac.on] at hj; subst hj; exact h1
    exact absent_run cs (c.on σ) hok.2 hk hn' hs' hstep
theorem stands_upd2 {rc : Rec} {k : Nat} {w : Option Seen} {σ : AS} {fl : List Nat} (hw : ∀ sn, w = some sn → sn.stands σ = true) (h : stands rc σ fl = true) : stands (rc.upd k w) σ fl = true := by
  unfold stands at h ⊢
  rw [List.all_eq_true] at h ⊢
  intro j hj
  have := h j hj
  by_cases e : j = k
  · simp only [Rec.upd, e, if_true]
    cases w with
    | none => rfl
    | some sn => exact hw sn rfl
  · simp only [Rec.upd, e, if_false]; exact this
theorem isConv_cls {o : Oper} (h : isConv o = true) : cls o = 1 := by
  unfold isConv at h
  unfold cls
  cases ho : o.op <;> rw [ho] at h <;> first | rfl | cases h
theorem lateOk_spec {st : Bool} {o : Oper} {i : Nat} {sn : Seen} (hc : isConv o = true) (h : lateOk st base ops i o (some sn) = true) : ∃ id e, sn = .all id 0 ∧ e ∈ bindsOf o ∧ id = base + e ∧ id < base + ops.size := by
  unfold lateOk at h
  rw [if_pos hc] at h
  cases sn with
  | all id n =>
    simp only [Bool.and_eq_true, beq_iff_eq, List.any_eq_true, decide_eq_true_eq] at h
    obtain ⟨⟨rfl, e, he, h1⟩, h2⟩ := h
    exact ⟨id, e, rfl, he, h1, h2⟩
  | size _ _ => cases h
theorem lateOk_name {o : Oper} {i : Nat} {sn : Seen} (hn : isConv o = false) (hc : cls o = 1) (h : lateOk true base ops i o (some sn) = true) {p : Nat} (hp : p < ops.size) (hm : ((masks ops.toList []).getD i 0).testBit p = false) : sn.name ≠ base + p := by
  unfold lateOk at h
  rw [if_neg (by simp [hn]), if_pos (by simp [hc])] at h
  intro e
  simp only [e, Bool.or_eq_true, decide_eq_true_eq] at h
  rcases h with (h | h) | h
  · omega
  · omega
  · rw [show base + p - base = p by omega, hm] at h
    cases h
theorem pairOk_spec {st : Bool} {x y : Oper} (h : pairOk st ops x y = true) : x.apart ops y = true ∧ (cls x = 0 ∨ cls y = 0 ∨ cls x = 1 ∨ cls y = 3 ∨ isConv y = true ∨ (st = true ∧ cls x = 3 ∧ cls y = 1)) := by
  unfold pairOk at h
  simp only [Bool.and_eq_true, Bool.or_eq_true, beq_iff_eq] at h
  obtain ⟨h1, h2⟩ := h
  refine ⟨h1, ?_⟩
  rcases h2 with ((((h | h) | h) | h) | h) | h
  · exact .inl h
  · exact .inr (.inl h)
  · exact .inr (.inr (.inl h))
  · exact .inr (.inr (.inr (.inl h)))
  · exact .inr (.inr (.inr (.inr (.inl h))))
  · exact .inr (.inr (.inr (.inr (.inr ⟨h.1.1, h.1.2, h.2⟩))))
theorem cls_lt (o : Oper) : cls o = 0 ∨ cls o = 1 ∨ cls o = 2 ∨ cls o = 3 := by
  unfold cls
  cases o.op <;> (try simp)
  rename_i c
  cases c.callee <;> (try simp)
  rename_i b
  cases b <;> (try simp)

theorem fresh_of_stands {σ : AS} {cs : List Ac} {sn : Seen} {o : Oper} {tm : Tm} {i : Nat} {v : AV} {σ₁ : AS} (_hr : resX P G ex base ops i o tm σ = some (v, σ₁)) (hn : noted G ops o tm σ = some sn) (hlt : ∀ id n, sn = .all id n → id < σ.next)
    (hst : sn.stands (runA cs σ) = true) (hlt2 : ∀ id n, sn = .size id n → id < σ.next) (hval : ∀ id n, sn = .all id n → ∃ ob, σ.objs.get id = some (n, ob)) : sn.fresh σ (runA cs σ) := by
  have hnext := next_run σ cs
  cases sn with
  | all id n =>
    obtain ⟨ob, hob⟩ := hval id n rfl
    obtain ⟨m, o', h1, h2, h3⟩ := objs_run hob cs
    simp only [Seen.stands, h1, beq_iff_eq] at hst
    have := h3 hst
    subst this
    have hid := hlt id n rfl
    simp only [Seen.fresh]
    rw [AS.get_of_objs (by omega) h1, AS.get_of_objs hid hob]
  | size id es =>
    simp only [Seen.stands] at hst
    split at hst
    · rename_i m e es' x rows hg
      have := beq_iff_eq.1 hst
      subst this
      have hid := hlt2 id es' rfl
      exact ⟨e, x, rows, AS.get_of_objs (by omega) hg⟩
    · cases hst

end Go.Ab
/- The swap of two neighbours. -/
namespace Go.Ab
variable {P : Program} {G : Gl} {N : Nat} {ex : Runner} {base : Nat} {ops : Array Oper}

def Seen.there (σ : AS) : Seen → Prop
  | .all id n => ∃ ob, σ.objs.get id = some (n, ob) ∧ id < σ.next
  | .size id es => ∃ n e x rows, σ.objs.get id = some (n, .cells e es x rows) ∧ id < σ.next

theorem seenAll_there {σ : AS} {a : AV} {id : Nat} {o : AObj} (ha : idOf a = some id) (hg : σ.get id = some o) {sn : Seen} (h : seenAll σ a = some sn) : sn.there σ := by
  obtain ⟨n, hn⟩ := AS.objs_of_get hg
  simp only [seenAll, ha, hn] at h
  cases h
  exact ⟨o, hn, AS.lt_of_get hg⟩

theorem read_there {o : Oper} {ev : Operand → AV} {σ : AS} {r : ANext × AS} (he : eff P o ev σ = some r) {sn : Seen} (hsn : readOf o ev σ = some sn) : sn.there σ := by
  unfold readOf at hsn
  cases ho : o.op <;> rw [ho] at hsn <;> simp only at hsn <;> try (cases hsn; done)
  case load t a =>
    unfold eff at he
    rw [ho] at he
    simp only [withSt, Option.map_eq_some_iff] at he
    obtain ⟨v, hv, _⟩ := he
    cases ha : ev a <;> rw [ha] at hv hsn <;> simp only [effLoad] at hv <;> try (cases hv; done)
    · rename_i id i f
      simp only [Option.bind_eq_some_iff] at hv
      obtain ⟨rows, hrows, _⟩ := hv
      unfold AS.rows at hrows
      split at hrows
      · rename_i e es x rws hg
        exact seenAll_there rfl hg hsn
      · cases hrows
    · simp [seenAll, idOf] at hsn
  case indexAddr t x ix =>
    unfold eff at he
    rw [ho] at he
    simp only [withSt, Option.map_eq_some_iff] at he
    obtain ⟨v, hv, _⟩ := he
    cases hx : ev x <;> rw [hx] at hsn hv <;> try (simp [seenSl] at hsn; done)
    rename_i id i n cap
    unfold effIndexAddr at hv
    split at hv
    · split at hv
      · simp only at hv
        split at hv
        · rename_i e es xx rows hg
          obtain ⟨m, hm⟩ := AS.objs_of_get hg
          simp only [seenSl, hm] at hsn
          cases hsn
          exact ⟨m, e, xx, rows, hm, AS.lt_of_get hg⟩
        · cases hv
      · cases hv
    · split at hv
      · split at hv
        · cases hv
        · cases hv
      · cases hv
    · cases hv
  case slice t x lo hi mx =>
    unfold eff at he
    rw [ho] at he
    simp only [effSliceTop] at he
    cases hx : ev x <;> rw [hx] at hsn he <;> try (simp [seenAll, idOf] at hsn; done)
    all_goals simp only [effSliceOp] at he
    · simp only [isRef, if_true, withSt, Option.map_eq_some_iff] at he
      obtain ⟨v, hv, _⟩ := he
      unfold effSlice at hv
      split at hv
      · cases hv
      · split at hv
        · split at hv <;> cases hv
        · cases hv
    · rename_i id i n cap
      simp only [isRef, if_true, withSt, Option.map_eq_some_iff] at he
      obtain ⟨v, hv, _⟩ := he
      unfold effSlice at hv
      split at hv
      · cases hv
      · split at hv
        · split at hv
          · simp only at hv
            split at hv
            · rename_i hg
              exact seenAll_there rfl hg hsn
            · cases hv
          · cases hv
        · cases hv
    · simp only [isRef, if_true, withSt, Option.map_eq_some_iff] at he
      obtain ⟨v, hv, _⟩ := he
      unfold effSlice at hv
      split at hv
      · cases hv
      · split at hv
        · split at hv <;> cases hv
        · cases hv
  case convert s t x =>
    unfold eff at he
    rw [ho] at he
    simp only [effConv] at he
    by_cases hr : isRef (ev x) = true
    · rw [if_pos hr] at he
      simp only [withSt, Option.map_eq_some_iff] at he
      obtain ⟨v, hv, _⟩ := he
      obtain ⟨id, i, n, c, e, es, ex, rows, hx, hg⟩ := effBytes_sl hv
      rw [hx] at hsn
      exact seenAll_there rfl hg hsn
    · simp only [seenAll, idOf_plain hr] at hsn
      cases hsn
  case lookup t x k ok =>
    unfold eff at he
    rw [ho] at he
    simp only at he
    rcases lookup_cases ho he with ⟨id, es, clock, hx, hg⟩ | hn
    · rw [hx] at hsn
      exact seenAll_there rfl hg hsn
    · simp only [seenAll, hn] at hsn
      cases hsn

theorem noted_there {i : Nat} {o : Oper} {tm : Tm} {σ σ₁ : AS} {v : AV} (hs : σ.slot = none) (h : resX P G ex base ops i o tm σ = some (v, σ₁)) {sn : Seen} (hn : noted G ops o tm σ = some sn) : sn.there σ := by
  by_cases h1 : cls o = 1
  · unfold noted at hn
    split at hn
    · rename_i hw
      obtain ⟨objs, next, slot⟩ := σ
      simp only at hs; subst hs
      rw [resX_plain (by omega)] at h
      simp only [resO] at h
      rw [if_pos hw] at h
      cases he : eff P o (evT G tm) ⟨objs, next, none⟩ with
      | none => rw [he] at h; cases h
      | some r => exact read_there he hn
    · cases hn
  · rw [noted_none h1] at hn; cases hn

theorem again {σ : AS} {cs : List Ac} {sn : Seen} (ht : sn.there σ) (hst : sn.stands (runA cs σ) = true) : sn.fresh σ (runA cs σ) := by
  have hnext := next_run σ cs
  cases sn with
  | all id n =>
    obtain ⟨ob, hob, hlt⟩ := ht
    obtain ⟨m, o', h1, h2, h3⟩ := objs_run hob cs
    simp only [Seen.stands, h1, beq_iff_eq] at hst
    have := h3 hst
    subst this
    simp only [Seen.fresh]
    rw [AS.get_of_objs (by omega) h1, AS.get_of_objs hlt hob]
  | size id es =>
    obtain ⟨n, e, x, rows, hob, hlt⟩ := ht
    simp only [Seen.stands] at hst
    split at hst
    · rename_i m e' es' x' rows' hg
      have := beq_iff_eq.1 hst
      subst this
      exact ⟨e', x', rows', AS.get_of_objs (by omega) hg⟩
    · cases hst

theorem read_again {o : Oper} {ev : Operand → AV} {σ τ : AS} {sn : Seen} (h : readOf o ev σ = some sn) (hst : sn.stands τ = true) : readOf o ev τ = some sn := by
  unfold readOf at h ⊢
  have all : ∀ a, seenAll σ a = some sn → seenAll τ a = some sn := by
    intro a ha
    unfold seenAll at ha ⊢
    split at ha
    · split at ha
      · cases ha
        simp only [Seen.stands] at hst
        split at hst
        · rename_i m _ hg
          simp only [beq_iff_eq] at hst
          simp only [hst]
        · cases hst
      · cases ha
    · cases ha
  have size : ∀ a, seenSl σ a = some sn → seenSl τ a = some sn := by
    intro a ha
    unfold seenSl at ha ⊢
    split at ha
    · split at ha
      · cases ha
        simp only [Seen.stands] at hst
        split at hst
        · rename_i hg
          simp only [beq_iff_eq] at hst
          simp only [hst]
        · cases hst
      · cases ha
    · cases ha
  cases ho : o.op <;> rw [ho] at h <;> simp only at h ⊢ <;> try (cases h; done)
  case load t a => exact all _ h
  case indexAddr t x ix => exact size _ h
  case slice t x lo hi mx => exact all _ h
  case convert s t x => exact all _ h
  case lookup t x k ok => exact all _ h

theorem noted_again {o : Oper} {tm : Tm} {σ τ : AS} (hst : ∀ sn, noted G ops o tm σ = some sn → sn.stands τ = true) (hsome : noted G ops o tm σ = none → noted G ops o tm τ = none) : noted G ops o tm τ = noted G ops o tm σ := by
  cases hn : noted G ops o tm σ with
  | none => exact hsome hn
  | some sn =>
    have h1 := hst sn hn
    unfold noted at hn ⊢
    split at hn
    · rename_i hw
      rw [if_pos hw]
      exact read_again hn h1
    · cases hn

theorem noted_none_le {i : Nat} {o : Oper} {tm : Tm} {σ σ₁ τ : AS} {v : AV} (hc : cls o = 1) (hs : σ.slot = none) (h : resX P G ex base ops i o tm σ = some (v, σ₁)) (hn : noted G ops o tm σ = none) : noted G ops o tm τ = none := by
  unfold noted at hn ⊢
  split at hn
  · rename_i hw
    rw [if_pos hw]
    obtain ⟨objs, next, slot⟩ := σ
    simp only at hs; subst hs
    rw [resX_plain (by omega)] at h
    simp only [resO] at h
    rw [if_pos hw] at h
    cases he : eff P o (evT G tm) ⟨objs, next, none⟩ with
    | none => rw [he] at h; cases h
    | some r =>
      unfold readOf at hn ⊢
      unfold eff at he
      cases ho : o.op <;> rw [ho] at hn he <;> simp only at hn he ⊢
      case load t a =>
        simp only [withSt, Option.map_eq_some_iff] at he
        obtain ⟨u, hv, _⟩ := he
        cases ha : evT G tm a <;> rw [ha] at hv hn <;> simp only [effLoad] at hv <;> try (cases hv; done)
        · rename_i id k f
          simp only [Option.bind_eq_some_iff] at hv
          obtain ⟨rows, hrows, _⟩ := hv
          unfold AS.rows at hrows
          split at hrows
          · rename_i hg
            obtain ⟨m, hm⟩ := AS.objs_of_get hg
            simp only at hm
            simp [seenAll, idOf, hm] at hn
          · cases hrows
        · simp [seenAll, idOf]
      case indexAddr t x ix =>
        simp only [withSt, Option.map_eq_some_iff] at he
        obtain ⟨u, hv, _⟩ := he
        cases hx : evT G tm x <;> rw [hx] at hv hn <;> try (simp [seenSl]; done)
        rename_i id k n cap
        unfold effIndexAddr at hv
        split at hv
        · split at hv
          · simp only at hv
            split at hv
            · rename_i hg
              obtain ⟨m, hm⟩ := AS.objs_of_get hg
              simp only at hm
              simp [seenSl, hm] at hn
            · cases hv
          · cases hv
        · split at hv
          · split at hv <;> cases hv
          · cases hv
        · cases hv
      case slice t x lo hi mx =>
        simp only [effSliceTop] at he
        cases hx : evT G tm x <;> rw [hx] at he hn <;> try (simp [seenAll, idOf]; done)
        all_goals simp only [effSliceOp] at he
        · simp only [isRef, if_true, withSt, Option.map_eq_some_iff] at he
          obtain ⟨u, hv, _⟩ := he
          unfold effSlice at hv
          split at hv
          · cases hv
          · split at hv
            · split at hv <;> cases hv
            · cases hv
        · rename_i id k n cap
          simp only [isRef, if_true, withSt, Option.map_eq_some_iff] at he
          obtain ⟨u, hv, _⟩ := he
          unfold effSlice at hv
          split at hv
          · cases hv
          · split at hv
            · split at hv
              · simp only at hv
                split at hv
                · rename_i hg
                  obtain ⟨m, hm⟩ := AS.objs_of_get hg
                  simp only at hm
                  simp [seenAll, idOf, hm] at hn
                · cases hv
              · cases hv
            · cases hv
        · simp only [isRef, if_true, withSt, Option.map_eq_some_iff] at he
          obtain ⟨u, hv, _⟩ := he
          unfold effSlice at hv
          split at hv
          · cases hv
          · split at hv
            · split at hv <;> cases hv
            · cases hv
      case convert s t x =>
        simp only [effConv] at he
        by_cases hr : isRef (evT G tm x) = true
        · rw [if_pos hr] at he
          simp only [withSt, Option.map_eq_some_iff] at he
          obtain ⟨u, hv, _⟩ := he
          obtain ⟨id, k, n, c, e, es, ex, rows, hx, hg⟩ := effBytes_sl hv
          obtain ⟨m, hm⟩ := AS.objs_of_get hg
          simp only at hm
          rw [hx] at hn
          simp [seenAll, idOf, hm] at hn
        · simp only [seenAll, idOf_plain hr]
      case lookup t x k ok =>
        rcases lookup_cases ho he with ⟨id, es, clock, hx, hg⟩ | hn'
        · obtain ⟨m, hm⟩ := AS.objs_of_get hg
          simp only at hm
          rw [hx] at hn
          simp [seenAll, idOf, hm] at hn
        · simp only [seenAll, hn']
  · rename_i hw
    rw [if_neg hw]

end Go.Ab
/- A region that draws its order: whatever order is drawn, the run is the same. -/
namespace Go.Ab
variable {P : Program} {G : Gl} {N : Nat} {ex : Runner} {base : Nat} {ops : Array Oper}

theorem there_stands {σ : AS} {sn : Seen} (h : sn.there σ) : sn.stands σ = true := by
  cases sn with
  | all id n => obtain ⟨ob, hob, _⟩ := h; simp [Seen.stands, hob]
  | size id es => obtain ⟨n, e, x, rows, hob, _⟩ := h; simp [Seen.stands, hob]
theorem there_put {σ : AS} {sn : Seen} (h : sn.there σ) {k : Nat} {ob : AObj} (hk : σ.objs.get k = none) (n' : Nat) (s' : Option Nat) : sn.stands ⟨putObj σ.objs k ob, n', s'⟩ = true := by
  cases sn with
  | all id n =>
    obtain ⟨o, hob, _⟩ := h
    have hne : k ≠ id := fun e => by subst e; rw [hk] at hob; cases hob
    simp [Seen.stands, putObj_get, hne, hob]
  | size id es =>
    obtain ⟨n, e, x, rows, hob, _⟩ := h
    have hne : k ≠ id := fun e => by subst e; rw [hk] at hob; cases hob
    simp [Seen.stands, putObj_get, hne, hob]

theorem swap_core {st : Bool} (hx : Acting G ex) {p i : Nat} {x y : Oper} {tm : Tm} {σ σ1 σ2 : AS} {v1 v2 : AV} {rc : Rec} {flp fl : List Nat} (hpi : p ≠ i) (hp : p < ops.size) (hi : i < ops.size) (hb : base + ops.size ≤ σ.next) (hslot : σ.slot = none)
    (hpair : pairOk st ops x y = true) (hmask : ((masks ops.toList []).getD i 0).testBit p = false) (hflp : cls x ≠ 2 → flp = []) (hfl : cls y ≠ 2 → fl = []) (hin : cls x = 1 → cls y = 2 → p ∈ fl) (hrp : rc p = none) (hpb : p ∉ bindsOf y)
    (h1 : resX P G ex base ops p x tm σ = some (v1, σ1)) (hst1 : stands rc σ1 flp = true) (h2 : resX P G ex base ops i y (put tm x.dst v1) σ1 = some (v2, σ2)) (hst2 : stands (rc.upd p (noted G ops x tm σ)) σ2 fl = true) (hlate : lateOk st base ops i y (noted G ops y (put tm x.dst v1) σ1) = true) :
    ∃ τ, resX P G ex base ops i y tm σ = some (v2, τ) ∧ stands rc τ fl = true ∧ resX P G ex base ops p x (put tm y.dst v2) τ = some (v1, σ2) ∧ stands (rc.upd i (noted G ops y tm σ)) σ2 flp = true ∧
      noted G ops y (put tm x.dst v1) σ1 = noted G ops y tm σ ∧ noted G ops x (put tm y.dst v2) τ = noted G ops x tm σ := by
  obtain ⟨hap, hcls⟩ := pairOk_spec hpair
  obtain ⟨a1, a2, a3⟩ := Oper.apart_spec hap
  rw [resX_put a1] at h2
  simp only [resX_put a3, noted_put a1, noted_put a3] at hlate ⊢
  have hs2 := resX_slot h2
  by_cases c0 : cls x = 0
  · obtain ⟨rfl, hall⟩ := resX0 c0 hslot h1
    refine ⟨σ2, h2, stands_upd_none hrp hst2, hall σ2 hs2, ?_, rfl, ?_⟩
    · rw [hflp (by omega)]; rfl
    · rw [noted_none (by omega), noted_none (by omega)]
  · by_cases c1 : cls x = 1
    · obtain ⟨rfl, hall⟩ := resX1 c1 hslot h1
      have hkey : ∀ sn, noted G ops x tm σ1 = some sn → sn.stands σ2 = true := by
        intro sn hsn
        have ht := noted_there hslot h1 hsn
        rcases cls_lt y with c | c | c | c
        · obtain ⟨rfl, _⟩ := resX0 c hslot h2
          exact there_stands ht
        · obtain ⟨rfl, _⟩ := resX1 c hslot h2
          exact there_stands ht
        · have hp := hin c1 c
          unfold stands at hst2
          rw [List.all_eq_true] at hst2
          have := hst2 p hp
          simp only [Rec.upd, if_true, hsn] at this
          exact this
        · obtain ⟨hk, hf⟩ := resX3 c h2
          rcases hf with ⟨ob, rfl, _⟩ | ⟨rfl, _⟩
          · exact there_put ht hk _ _
          · have := there_stands ht
            cases sn <;> exact this
      obtain ⟨cs, k1, k2, k3⟩ := resX_acts (N := 0) hx h2 (Nat.zero_le _) (fun _ => Nat.zero_le _)
      refine ⟨σ2, h2, stands_upd_none hrp hst2, hall σ2 hs2 (fun sn hsn => ?_), ?_, rfl, ?_⟩
      · have := hkey sn hsn
        rw [k2] at this ⊢
        exact again (noted_there hslot h1 hsn) this
      · rw [hflp (by omega)]; rfl
      · exact noted_again hkey (fun hn => noted_none_le c1 hslot h1 hn)
    · have hs1 := resX_slot h1
      have hy : cls y = 0 ∨ cls y = 3 ∨ isConv y = true ∨ (isConv y = false ∧ st = true ∧ cls x = 3 ∧ cls y = 1) := by
        rcases hcls with h | h | h | h | h | h
        · exact absurd h c0
        · exact .inl h
        · exact absurd h c1
        · exact .inr (.inl h)
        · exact .inr (.inr (.inl h))
        · cases hcv : isConv y with
          | true => exact .inr (.inr (.inl rfl))
          | false => exact .inr (.inr (.inr ⟨rfl, h⟩))
      rcases hy with c | c | c | ⟨hnc, rfl, c3, cy⟩
      · obtain ⟨rfl, hall⟩ := resX0 c hs1 h2
        refine ⟨σ, hall σ hslot, by rw [hfl (by omega)]; rfl, h1, ?_, ?_, rfl⟩
        · rw [noted_none (by omega)]; exact stands_upd hst1
        · rw [noted_none (by omega), noted_none (by omega)]
      · obtain ⟨hk, hf⟩ := resX3 c h2
        have hkσ : σ.objs.get (base + i) = none := by
          cases hg : σ.objs.get (base + i) with
          | none => rfl
          | some q =>
            obtain ⟨n, o⟩ := q
            obtain ⟨cs, k1, k2, k3⟩ := resX_acts (N := 0) hx h1 (Nat.zero_le _) (fun _ => Nat.zero_le _)
            obtain ⟨m, o', h3, _⟩ := objs_run hg cs
            rw [← k2, hk] at h3; cases h3
        have hfl0 : stands rc = fun τ l => stands rc τ l := rfl
        rcases hf with ⟨ob, rfl, hall⟩ | ⟨rfl, hall⟩
        · refine ⟨⟨putObj σ.objs (base + i) ob, σ.next, none⟩, hall σ hkσ, by rw [hfl (by omega)]; rfl, ?_, ?_, ?_, ?_⟩
          · -- the other one beside the new object
            by_cases c3 : cls x = 3
            · obtain ⟨hk1, hf1⟩ := resX3 c3 h1
              have hne : base + i ≠ base + p := by omega
              have hk1' : (⟨putObj σ.objs (base + i) ob, σ.next, none⟩ : AS).objs.get (base + p) = none := by
                simp only [putObj_get, hne, if_false]; exact hk1
              rcases hf1 with ⟨ob1, rfl, hall1⟩ | ⟨rfl, hall1⟩
              · rw [hall1 _ hk1']
                simp only
                rw [putObj_comm _ _ _ hne]
              · rw [hall1 _ hk1']
            · obtain ⟨cs, k1, k2, k3⟩ := resX_acts (N := σ.next) hx h1 (Nat.le_refl _) (fun h => absurd (by simpa using h) c3)
              have hlt : base + i < σ.next := by omega
              have hle : Le σ.next σ ⟨putObj σ.objs (base + i) ob, σ.next, none⟩ := by
                refine ⟨rfl, hslot.symm, fun id q hq => ?_, fun id hid => ?_, Nat.le_refl _, fun j hj => by rw [hslot] at hj; cases hj⟩
                · have hne : base + i ≠ id := fun e => by rw [← e, hkσ] at hq; cases hq
                  simp only [putObj_get, hne, if_false]; exact hq
                · have hne : base + i ≠ id := by omega
                  simp only [putObj_get, hne, if_false]
              rw [k3 _ hle]
              have hcomm := comm_run (k := base + i) (ob := ob) cs σ k1 hlt (Nat.le_refl _) (fun j hj => by rw [hslot] at hj; cases hj) (by rw [← k2]; exact hk)
              rw [hslot] at hcomm
              rw [hcomm, ← k2, hs1]
          · rw [noted_none (by omega)]
            exact stands_upd (stands_put hk hst1)
          · rw [noted_none (by omega), noted_none (by omega)]
          · rw [noted_none (by omega), noted_none (by omega)]
        · refine ⟨⟨σ.objs, σ.next, none⟩, hall σ hkσ, by rw [hfl (by omega)]; rfl, ?_, ?_, ?_, ?_⟩
          · have e1 : (⟨σ.objs, σ.next, none⟩ : AS) = σ := by obtain ⟨a, b, c⟩ := σ; simp only at hslot; subst hslot; rfl
            have e2 : (⟨σ1.objs, σ1.next, none⟩ : AS) = σ1 := by obtain ⟨a, b, c⟩ := σ1; simp only at hs1; subst hs1; rfl
            rw [e1, e2]; exact h1
          · have e2 : (⟨σ1.objs, σ1.next, none⟩ : AS) = σ1 := by obtain ⟨a, b, c⟩ := σ1; simp only at hs1; subst hs1; rfl
            rw [noted_none (by omega), e2]
            exact stands_upd hst1
          · rw [noted_none (by omega), noted_none (by omega)]
          · rw [noted_none (by omega), noted_none (by omega)]
      · -- a conversion of what the region has made
        have cy := isConv_cls c
        obtain ⟨rfl, hall⟩ := resX1 cy hs1 h2
        have hob : ∀ sn, noted G ops y tm σ2 = some sn → ∃ id ob, sn = .all id 0 ∧ σ.objs.get id = some (0, ob) ∧ σ2.objs.get id = some (0, ob) ∧ id < σ.next ∧ id < σ2.next := fun sn hsn => by
          have ht := noted_there hs1 h2 hsn
          rw [hsn] at hlate
          obtain ⟨id, e, rfl, he, hid, hlt⟩ := lateOk_spec c hlate
          obtain ⟨ob, hob, hlt2⟩ := ht
          refine ⟨id, ob, rfl, ?_, hob, by omega, hlt2⟩
          have hep : e ≠ p := fun h => hpb (h ▸ he)
          by_cases c3 : cls x = 3
          · obtain ⟨_, hf1⟩ := resX3 c3 h1
            have hne : ¬ base + p = id := by omega
            rcases hf1 with ⟨ob1, rfl, _⟩ | ⟨rfl, _⟩
            · simp only [putObj_get, hne, if_false] at hob; exact hob
            · exact hob
          · obtain ⟨cs, k1, k2, k3⟩ := resX_acts (N := σ.next) hx h1 (Nat.le_refl _) (fun h => absurd (by simpa using h) c3)
            cases hg : σ.objs.get id with
            | none =>
              have := absent_run cs σ k1 (show id < σ.next by omega) (Nat.le_refl _) (fun j hj => by rw [hslot] at hj; cases hj) hg
              rw [← k2, hob] at this; cases this
            | some q =>
              obtain ⟨n0, o0⟩ := q
              obtain ⟨m, o', q1, q2, q3⟩ := objs_run hg cs
              rw [← k2, hob] at q1
              simp only [Option.some.injEq, Prod.mk.injEq] at q1
              obtain ⟨rfl, rfl⟩ := q1
              have : n0 = 0 := by omega
              subst this
              rw [q3 rfl]
        have hfresh : ∀ sn, noted G ops y tm σ2 = some sn → sn.fresh σ2 σ := fun sn hsn => by
          obtain ⟨id, ob, rfl, q1, q2, q3, q4⟩ := hob sn hsn
          show σ.get id = σ2.get id
          rw [AS.get_of_objs q3 q1, AS.get_of_objs q4 q2]
        have hsame : noted G ops y tm σ = noted G ops y tm σ2 := noted_again (fun sn hsn => by
          obtain ⟨id, ob, rfl, q1, _⟩ := hob sn hsn
          simp [Seen.stands, q1]) (fun hn => noted_none_le cy hs1 h2 hn)
        refine ⟨σ, hall σ hslot hfresh, by rw [hfl (by omega)]; rfl, h1, ?_, hsame.symm, rfl⟩
        rw [hsame]
        exact stands_upd2 (fun sn hsn => there_stands (noted_there hs1 h2 hsn)) hst1
      · -- what looks at another object than the new one
        obtain ⟨rfl, hall⟩ := resX1 cy hs1 h2
        obtain ⟨hk1, hf1⟩ := resX3 c3 h1
        have hnm : ∀ sn, noted G ops y tm σ2 = some sn → sn.name ≠ base + p := fun sn hsn => by
          rw [hsn] at hlate
          exact lateOk_name hnc cy hlate hp hmask
        have hob : ∀ id, id ≠ base + p → σ2.objs.get id = σ.objs.get id := fun id hne => by
          rcases hf1 with ⟨ob1, rfl, _⟩ | ⟨rfl, _⟩
          · have : ¬ base + p = id := fun e => hne e.symm
            simp only [putObj_get, this, if_false]
          · rfl
        have hnx : σ2.next = σ.next := by
          rcases hf1 with ⟨ob1, rfl, _⟩ | ⟨rfl, _⟩ <;> rfl
        have hget : ∀ id, id ≠ base + p → σ2.get id = σ.get id := fun id hne => by
          unfold AS.get
          rw [hob id hne, hnx]
        have hfresh : ∀ sn, noted G ops y tm σ2 = some sn → sn.fresh σ2 σ := fun sn hsn => by
          have ht := noted_there hs1 h2 hsn
          have hne := hnm sn hsn
          cases sn with
          | all id n => exact (hget id hne).symm
          | size id es =>
            obtain ⟨n, e, xx, rows, ho, hlt⟩ := ht
            exact ⟨e, xx, rows, by rw [← hget id hne]; exact AS.get_of_objs hlt ho⟩
        have hstσ : ∀ sn, noted G ops y tm σ2 = some sn → sn.stands σ = true := fun sn hsn => by
          have ht := there_stands (noted_there hs1 h2 hsn)
          have hne := hnm sn hsn
          cases sn with
          | all id n => simp only [Seen.stands, hob id hne] at ht ⊢; exact ht
          | size id es => simp only [Seen.stands, hob id hne] at ht ⊢; exact ht
        have hsame : noted G ops y tm σ = noted G ops y tm σ2 := noted_again hstσ (fun hn => noted_none_le cy hs1 h2 hn)
        refine ⟨σ, hall σ hslot hfresh, by rw [hfl (by omega)]; rfl, h1, ?_, hsame.symm, rfl⟩
        rw [hflp (by omega)]; rfl

theorem swapD {st : Bool} (hx : Acting G ex) {p i : Nat} {x y : Oper} {flp fl : List Nat} {post : List (Nat × List Nat)} {tm : Tm} {defs : List Nat} {σ : AS} {rc : Rec} {s' : Cfg} (hp : ops[p]? = some x) (hy : ops[i]? = some y) (hpi : p ≠ i)
    (hb : base + ops.size ≤ σ.next) (hslot : σ.slot = none) (hpair : pairOk st ops x y = true) (hmask : ((masks ops.toList []).getD i 0).testBit p = false) (hflp : cls x ≠ 2 → flp = []) (hfl : cls y ≠ 2 → fl = []) (hin : cls x = 1 → cls y = 2 → p ∈ fl) (hrp : rc p = none) (hpb : p ∉ bindsOf y)
    (h : runD P G ex st base ops ((p, flp) :: (i, fl) :: post) ⟨tm, defs, σ⟩ rc = some s') : runD P G ex st base ops ((i, fl) :: (p, flp) :: post) ⟨tm, defs, σ⟩ rc = some s' := by
  have hi : i < ops.size := (Array.getElem?_eq_some_iff.1 hy).1
  have hp0 : p < ops.size := (Array.getElem?_eq_some_iff.1 hp).1
  simp only [runD, stepD, hp] at h
  cases h1 : resX P G ex base ops p x tm σ with
  | none => rw [h1] at h; cases h
  | some r1 =>
    obtain ⟨v1, σ1⟩ := r1
    rw [h1] at h
    simp only at h
    by_cases hst1' : (stands rc σ1 flp && lateOk st base ops p x (noted G ops x tm σ)) = true
    · rw [show (if Region.wanted x (ayielded ops tm) = true then readOf x (evT G tm) σ else none) = noted G ops x tm σ from rfl, if_pos hst1'] at h
      obtain ⟨hst1, hlx⟩ := Bool.and_eq_true_iff.1 hst1'
      simp only [hy] at h
      cases h2 : resX P G ex base ops i y (put tm x.dst v1) σ1 with
      | none => rw [h2] at h; cases h
      | some r2 =>
        obtain ⟨v2, σ2⟩ := r2
        rw [h2] at h
        simp only at h
        by_cases hst2' : (stands (rc.upd p (noted G ops x tm σ)) σ2 fl && lateOk st base ops i y (noted G ops y (put tm x.dst v1) σ1)) = true
        · rw [show (if Region.wanted y (ayielded ops (put tm x.dst v1)) = true then readOf y (evT G (put tm x.dst v1)) σ1 else none) = noted G ops y (put tm x.dst v1) σ1 from rfl, if_pos hst2'] at h
          obtain ⟨hst2, hly⟩ := Bool.and_eq_true_iff.1 hst2'
          obtain ⟨τ, q1, q2, q3, q4, q5, q6⟩ := swap_core hx hpi hp0 hi hb hslot hpair hmask hflp hfl hin hrp hpb h1 hst1 h2 hst2 hly
          obtain ⟨hap, _⟩ := pairOk_spec hpair
          obtain ⟨a1, a2, a3⟩ := Oper.apart_spec hap
          simp only [runD, stepD, hy, q1]
          rw [show (if Region.wanted y (ayielded ops tm) = true then readOf y (evT G tm) σ else none) = noted G ops y tm σ from rfl, if_pos (Bool.and_eq_true_iff.2 ⟨q2, q5 ▸ hly⟩)]
          simp only [hp, q3]
          rw [show (if Region.wanted x (ayielded ops (put tm y.dst v2)) = true then readOf x (evT G (put tm y.dst v2)) τ else none) = noted G ops x (put tm y.dst v2) τ from rfl, q6, if_pos (Bool.and_eq_true_iff.2 ⟨q4, hlx⟩)]
          simp only at h ⊢
          rw [q5] at h
          rw [put_comm tm v2 v1 (fun d hd he => a2 d he hd), upd_comm rc _ _ (fun e => hpi e.symm)]
          exact h
        · rw [show (if Region.wanted y (ayielded ops (put tm x.dst v1)) = true then readOf y (evT G (put tm x.dst v1)) σ1 else none) = noted G ops y (put tm x.dst v1) σ1 from rfl, if_neg hst2'] at h
          cases h
    · rw [show (if Region.wanted x (ayielded ops tm) = true then readOf x (evT G tm) σ else none) = noted G ops x tm σ from rfl, if_neg hst1'] at h
      cases h

end Go.Ab
