/- How an abstract heap stands for a world; what keeps it so. -/
import Derived.Test.YtldckcopeiginaaAbB
namespace Go.Ab

abbrev memOf (B : World) : Mem := fun b => B.heap[b]?

def AObj.live : AObj → Bool
  | .dead => false
  | _ => true

structure TmRel (M : Mem) (ρ : Rho) (tm : Tm) (arr : Array Value) : Prop where
  size : tm.n = arr.size
  get : ∀ i, Conc M ρ (tm.get i) (arr.getD i undef)

theorem TmRel.mono {M : Mem} {ρ ρ' : Rho} (hle : ρ.le ρ') {tm : Tm} {arr : Array Value} (h : TmRel M ρ tm arr) : TmRel M ρ' tm arr :=
  ⟨h.size, fun i => Conc.mono hle (h.get i)⟩

theorem Tm.get_set (tm : Tm) (i j : Nat) (v : AV) : (tm.set i v).get j = if i = j ∧ i < tm.n then v else tm.get j := by
  obtain ⟨n, t⟩ := tm
  unfold Tm.set
  by_cases h : i < n
  · simp only [h, if_true, Tm.get, Tr.get_set]
    by_cases he : i = j <;> simp [he]
  · simp [h]
theorem Tm.n_set (tm : Tm) (i : Nat) (v : AV) : (tm.set i v).n = tm.n := by
  obtain ⟨n, t⟩ := tm
  unfold Tm.set
  by_cases h : i < n <;> simp [h]

theorem TmRel.set {M : Mem} {ρ : Rho} {tm : Tm} {arr : Array Value} (h : TmRel M ρ tm arr) {v : AV} {c : Value} (hc : Conc M ρ v c) (i : Nat) : TmRel M ρ (tm.set i v) (arr.setIfInBounds i c) := by
  refine ⟨by rw [Tm.n_set, h.size, Array.size_setIfInBounds], fun j => ?_⟩
  rw [Tm.get_set, h.size]
  by_cases hij : i = j
  · subst hij
    by_cases hi : i < arr.size
    · simp [hi, hc]
    · have := h.get i
      simpa [hi] using this
  · simp only [hij, false_and, if_false]
    have := h.get j
    simpa [Array.getElem?_setIfInBounds_ne hij] using this

theorem TmRel.put {M : Mem} {ρ : Rho} {tm : Tm} {a : Act} (h : TmRel M ρ tm a.tmps) {v : AV} {c : Value} (hc : Conc M ρ v c) (dst : Option Tmp) : TmRel M ρ (put tm dst v) (a.put dst c).tmps := by
  cases dst with
  | none => exact h
  | some d => exact h.set hc d

/-- The table tells what the memory holds. -/
def GlOk (M : Mem) (ρ : Rho) (G : Gl) : Prop := ∀ g row, G.rows g = some row → ConcMem M ρ g 0 row.length [row]
theorem GlOk.mono {M : Mem} {ρ ρ' : Rho} (hle : ρ.le ρ') {G : Gl} (h : GlOk M ρ G) : GlOk M ρ' G := fun g row hg => (h g row hg).mono hle

theorem TmRel.ev {M : Mem} {ρ : Rho} {G : Gl} (hG : GlOk M ρ G) {tm : Tm} {a : Act} (h : TmRel M ρ tm a.tmps) (x : Operand) : Conc M ρ (evT G tm x) (a.eval x) := by
  cases x with
  | tmp t => exact h.get t
  | const v => exact .s _
  | global g =>
    simp only [evT, evG, Act.eval]
    split
    · rename_i row hg
      have := Conc.rptr (i := 0) (f := 0) (hG g row hg)
      simpa using this
    · exact .s _
  | func f => exact .s _

def ObjRep (M : Mem) (ρ : Rho) (w : World) (l : Loc) : AObj → Prop
  | .dead => True
  | .cells elem es exact rows => l.es = es ∧ rows.length ≤ l.cap ∧ (exact = true → l.cap = rows.length) ∧ (∀ r ∈ rows, r.length = es) ∧
      ∃ c : Array Value, w.heap[l.blk]? = some (.cells c elem) ∧ c.size = l.cap * es ∧ Concs M ρ rows.flatten (c.toList.take (rows.length * es))
  | .loop lp => ∃ fn arr d, TmRel M ρ lp.tmps arr ∧ ρ lp.defers = some d ∧
      w.heap[l.blk]? = some (.loop { state := lp.state, pending := lp.pending, fn, tmps := arr, params := lp.params, assign := lp.assign, body := lp.body, defers := d.blk })
  | .defr => w.heap[l.blk]? = some (.deferred (some []))
  | .emap => w.heap[l.blk]? = some (.map #[] 0)
  | .iter m => ∃ d, ρ m = some d ∧ w.heap[l.blk]? = some (.mapIter (some d.blk) 0 #[] 0)

theorem ObjRep.mono {M : Mem} {ρ ρ' : Rho} (hle : ρ.le ρ') {w : World} {l : Loc} {o : AObj} (h : ObjRep M ρ w l o) : ObjRep M ρ' w l o := by
  cases o with
  | dead => trivial
  | cells e es x rows =>
    obtain ⟨h1, h2, h3, h4, c, h5, h6, h7⟩ := h
    exact ⟨h1, h2, h3, h4, c, h5, h6, h7.mono hle⟩
  | loop lp =>
    obtain ⟨fn, arr, d, h1, h2, h3⟩ := h
    exact ⟨fn, arr, d, h1.mono hle, hle _ _ h2, h3⟩
  | defr => exact h
  | emap => exact h
  | iter m => obtain ⟨d, h1, h2⟩ := h; exact ⟨d, hle _ _ h1, h2⟩

theorem ObjRep.congr {M : Mem} {ρ : Rho} {w w' : World} {l : Loc} {o : AObj} (h : ObjRep M ρ w l o) (hh : o.live = true → w'.heap[l.blk]? = w.heap[l.blk]?) : ObjRep M ρ w' l o := by
  cases o with
  | dead => trivial
  | cells e es x rows =>
    obtain ⟨h1, h2, h3, h4, c, h5, h6, h7⟩ := h
    exact ⟨h1, h2, h3, h4, c, (hh rfl).trans h5, h6, h7⟩
  | loop lp =>
    obtain ⟨fn, arr, d, h1, h2, h3⟩ := h
    exact ⟨fn, arr, d, h1, h2, (hh rfl).trans h3⟩
  | defr => exact (hh rfl).trans h
  | emap => exact (hh rfl).trans h
  | iter m => obtain ⟨d, h1, h2⟩ := h; exact ⟨d, h1, (hh rfl).trans h2⟩

/-- No row of it is frozen. -/
def ObjThaw (x : Obj) : Prop := ∀ c e fz, x = .cells c e fz → fz = (0, 0)
structure Rep (B : World) (ρ : Rho) (σ : AS) (w : World) : Prop where
  dom : ∀ id l, ρ id = some l → id < σ.next
  free : ρ σ.newId = none
  low : ∀ k, σ.slot = some k → k < σ.next
  obj : ∀ id o l, σ.get id = some o → ρ id = some l → ObjRep (memOf B) ρ w l o
  new : ∀ id l, ρ id = some l → B.heap.size ≤ l.blk ∧ l.blk < w.heap.size
  inj : ∀ id id' o o' l l', σ.get id = some o → σ.get id' = some o' → o.live = true → o'.live = true → ρ id = some l → ρ id' = some l' → l.blk = l'.blk → id = id'
  keep : ∀ b, b < B.heap.size → w.heap[b]? = B.heap[b]?
  size : B.heap.size ≤ w.heap.size
  tape : w.tape = B.tape
  os : w.os = B.os
  out : w.output = B.output
  has : ∀ id l, ρ id = some l → ∃ p, σ.objs.get id = some p
  thaw : ∀ b x, B.heap.size ≤ b → w.heap[b]? = some x → ObjThaw x

theorem putObj_get (t : Tr (Nat × AObj)) (id j : Nat) (o : AObj) : (putObj t id o).get j = if id = j then (match t.get id with | some (n, _) => some (n + 1, o) | none => some (0, o)) else t.get j := by
  unfold putObj
  cases h : t.get id with
  | none => simp only [Tr.get_set]
  | some p => simp only [Tr.get_set]
theorem AS.get_set (σ : AS) (id j : Nat) (o : AObj) : (σ.set id o).get j = if j < σ.next then (if id = j then some o else σ.get j) else none := by
  obtain ⟨t, n, slot⟩ := σ
  by_cases h : j < n
  · simp only [AS.set, AS.get, h, if_true, putObj_get]
    by_cases e : id = j
    · subst e
      simp only [if_true]
      cases t.get id <;> rfl
    · simp only [e, if_false]
  · simp only [AS.set, AS.get, h, if_false]
theorem AS.next_set (σ : AS) (id : Nat) (o : AObj) : (σ.set id o).next = σ.next := rfl
theorem AS.slot_set (σ : AS) (id : Nat) (o : AObj) : (σ.set id o).slot = σ.slot := rfl
theorem AS.newId_eq (σ : AS) : σ.newId = σ.slot.getD σ.next := by
  obtain ⟨t, n, slot⟩ := σ
  cases slot <;> rfl
theorem AS.newId_set (σ : AS) (id : Nat) (o : AObj) : (σ.set id o).newId = σ.newId := by
  rw [AS.newId_eq, AS.newId_eq, AS.next_set, AS.slot_set]
theorem AS.next_push_le (σ : AS) (o : AObj) : σ.next ≤ (σ.push o).next := by
  obtain ⟨t, n, slot⟩ := σ
  cases slot <;> simp [AS.push]
theorem AS.slot_push (σ : AS) (o : AObj) : (σ.push o).slot = none := by
  obtain ⟨t, n, slot⟩ := σ
  cases slot <;> rfl
theorem AS.newId_push (σ : AS) (o : AObj) : (σ.push o).newId = (σ.push o).next := by
  rw [AS.newId_eq, AS.slot_push]; rfl
theorem AS.lt_push (σ : AS) (o : AObj) (h : ∀ k, σ.slot = some k → k < σ.next) : σ.newId < (σ.push o).next := by
  obtain ⟨t, n, slot⟩ := σ
  cases slot with
  | none => simp [AS.push, AS.newId]
  | some k => exact h k rfl
theorem AS.get_push (σ : AS) (j : Nat) (o : AObj) (h : ∀ k, σ.slot = some k → k < σ.next) : (σ.push o).get j = if j = σ.newId then some o else σ.get j := by
  obtain ⟨t, n, slot⟩ := σ
  cases slot with
  | none =>
    simp only [AS.push, AS.get, AS.newId, putObj_get]
    by_cases h : j = n
    · subst h
      simp only [Nat.lt_succ_self, if_true]
      cases t.get j <;> rfl
    · have h' : ¬ n = j := fun e => h e.symm
      simp only [h, h', if_false]
      by_cases h2 : j < n
      · simp [h2, Nat.lt_succ_of_lt h2]
      · have : ¬ j < n + 1 := by omega
        simp [h2, this]
  | some k =>
    have hk : k < n := h k rfl
    simp only [AS.push, AS.get, AS.newId, putObj_get]
    by_cases h : j = k
    · subst h
      simp only [hk, if_true]
      cases t.get j <;> rfl
    · have h' : ¬ k = j := fun e => h e.symm
      simp only [h, h', if_false]
theorem putObj_has {t : Tr (Nat × AObj)} {id : Nat} {p : Nat × AObj} (h : t.get id = some p) (j : Nat) (o : AObj) : ∃ p, (putObj t j o).get id = some p := by
  rw [putObj_get]
  by_cases e : j = id
  · rw [if_pos e]; cases t.get j <;> exact ⟨_, rfl⟩
  · rw [if_neg e]; exact ⟨p, h⟩
theorem putObj_has_self (t : Tr (Nat × AObj)) (j : Nat) (o : AObj) : ∃ p, (putObj t j o).get j = some p := by
  rw [putObj_get, if_pos rfl]; cases t.get j <;> exact ⟨_, rfl⟩
theorem AS.has_set {σ : AS} {id : Nat} (h : ∃ p, σ.objs.get id = some p) (j : Nat) (o : AObj) : ∃ p, (σ.set j o).objs.get id = some p := by
  obtain ⟨t, n, s⟩ := σ
  obtain ⟨p, hp⟩ := h
  exact putObj_has hp j o
theorem AS.has_push {σ : AS} {id : Nat} (h : ∃ p, σ.objs.get id = some p) (o : AObj) : ∃ p, (σ.push o).objs.get id = some p := by
  obtain ⟨t, n, s⟩ := σ
  obtain ⟨p, hp⟩ := h
  cases s <;> exact putObj_has hp _ o
theorem AS.has_push_self (σ : AS) (o : AObj) : ∃ p, (σ.push o).objs.get σ.newId = some p := by
  obtain ⟨t, n, s⟩ := σ
  cases s <;> exact putObj_has_self t _ o
theorem AS.lt_of_get {σ : AS} {id : Nat} {o : AObj} (h : σ.get id = some o) : id < σ.next := by
  unfold AS.get at h
  split at h
  · assumption
  · cases h

/-- The world's heap as it was: whatever else turned. -/
theorem Rep.same {B : World} {ρ : Rho} {σ : AS} {w w' : World} (h : Rep B ρ σ w) (hh : w'.heap = w.heap) (ht : w'.tape = w.tape) (ho : w'.os = w.os) (hu : w'.output = w.output) : Rep B ρ σ w' where
  dom := h.dom
  free := h.free
  low := h.low
  obj := fun id o l hg hr => (h.obj id o l hg hr).congr fun _ => by rw [hh]
  new := fun id l hr => by rw [hh]; exact h.new id l hr
  inj := h.inj
  keep := fun b hb => by rw [hh]; exact h.keep b hb
  size := by rw [hh]; exact h.size
  tape := ht.trans h.tape
  os := ho.trans h.os
  out := hu.trans h.out
  has := h.has
  thaw := fun b x hb hx => h.thaw b x hb (by rw [← hh]; exact hx)

theorem Rep.drew {B : World} {ρ : Rho} {σ : AS} {w : World} (h : Rep B ρ σ w) : Rep B ρ σ w.drew := h.same rfl rfl rfl rfl

/-- One block of ours turns. -/
theorem Rep.mod {B : World} {ρ : Rho} {σ : AS} {w w' : World} (h : Rep B ρ σ w) {id : Nat} {o o' : AObj} {l : Loc} (hg : σ.get id = some o) (hl : o.live = true) (hr : ρ id = some l)
    (hs : w'.heap.size = w.heap.size) (hh : ∀ b, b ≠ l.blk → w'.heap[b]? = w.heap[b]?) (ht : w'.tape = w.tape) (ho : w'.os = w.os) (hu : w'.output = w.output)
    (hn : ObjRep (memOf B) ρ w' l o') (hz : ∀ x, w'.heap[l.blk]? = some x → ObjThaw x) : Rep B ρ (σ.set id o') w' where
  dom := fun j l' hj => by rw [AS.next_set]; exact h.dom j l' hj
  free := by rw [AS.newId_set]; exact h.free
  low := fun k hk => by rw [AS.slot_set] at hk; rw [AS.next_set]; exact h.low k hk
  obj := fun j p l' hj hr' => by
    rw [AS.get_set, if_pos (h.dom j l' hr')] at hj
    by_cases e : id = j
    · subst e
      simp at hj; subst hj
      rw [hr] at hr'; cases hr'
      exact hn
    · simp only [e, if_false] at hj
      refine (h.obj j p l' hj hr').congr fun hlive => hh _ fun hb => ?_
      exact e (h.inj id j o p l l' hg hj hl hlive hr hr' hb.symm)
  new := fun j l' hr' => by rw [hs]; exact h.new j l' hr'
  inj := fun j j' p p' l1 l2 h1 h2 v1 v2 r1 r2 hb => by
    rw [AS.get_set, if_pos (h.dom j l1 r1)] at h1
    rw [AS.get_set, if_pos (h.dom j' l2 r2)] at h2
    by_cases e1 : id = j <;> by_cases e2 : id = j'
    · exact e1.symm.trans e2
    · simp only [e2, if_false] at h2
      exact (h.inj j j' o p' l1 l2 (e1 ▸ hg) h2 hl v2 r1 r2 hb)
    · simp only [e1, if_false] at h1
      exact (h.inj j j' p o l1 l2 h1 (e2 ▸ hg) v1 hl r1 r2 hb)
    · simp only [e1, if_false] at h1
      simp only [e2, if_false] at h2
      exact h.inj j j' p p' l1 l2 h1 h2 v1 v2 r1 r2 hb
  keep := fun b hb => by
    rw [hh b (fun e => by have := (h.new id l hr).1; omega)]
    exact h.keep b hb
  size := by rw [hs]; exact h.size
  tape := ht.trans h.tape
  os := ho.trans h.os
  out := hu.trans h.out
  has := fun j l' hj => AS.has_set (h.has j l' hj) _ _
  thaw := fun b x hb hx => by
    by_cases e : b = l.blk
    · subst e; exact hz x hx
    · rw [hh b e] at hx; exact h.thaw b x hb hx

/-- An object of ours is let go. -/
theorem Rep.kill {B : World} {ρ : Rho} {σ : AS} {w : World} (h : Rep B ρ σ w) (id : Nat) : Rep B ρ (σ.set id .dead) w where
  dom := fun j l' hj => by rw [AS.next_set]; exact h.dom j l' hj
  free := by rw [AS.newId_set]; exact h.free
  low := fun k hk => by rw [AS.slot_set] at hk; rw [AS.next_set]; exact h.low k hk
  obj := fun j p l' hj hr' => by
    rw [AS.get_set, if_pos (h.dom j l' hr')] at hj
    by_cases e : id = j
    · simp [e] at hj; subst hj; trivial
    · simp only [e, if_false] at hj
      exact h.obj j p l' hj hr'
  new := h.new
  inj := fun j j' p p' l1 l2 h1 h2 v1 v2 r1 r2 hb => by
    rw [AS.get_set, if_pos (h.dom j l1 r1)] at h1
    rw [AS.get_set, if_pos (h.dom j' l2 r2)] at h2
    by_cases e1 : id = j
    · simp [e1] at h1; subst h1; cases v1
    · by_cases e2 : id = j'
      · simp [e2] at h2; subst h2; cases v2
      · simp only [e1, if_false] at h1
        simp only [e2, if_false] at h2
        exact h.inj j j' p p' l1 l2 h1 h2 v1 v2 r1 r2 hb
  keep := h.keep
  size := h.size
  tape := h.tape
  os := h.os
  out := h.out
  has := fun j l' hj => AS.has_set (h.has j l' hj) _ _
  thaw := h.thaw

def Rho.ext (ρ : Rho) (id : Nat) (l : Loc) : Rho := fun j => if j = id then some l else ρ j

theorem Rep.le_ext {B : World} {ρ : Rho} {σ : AS} {w : World} (h : Rep B ρ σ w) (l : Loc) : ρ.le (ρ.ext σ.newId l) := fun j l' hj => by
  unfold Rho.ext
  rw [if_neg (fun e => by have := h.free; rw [← e, hj] at this; cases this)]
  exact hj

/-- A new name, for a block that no live name names. -/
theorem Rep.name {B : World} {ρ : Rho} {σ : AS} {w : World} (h : Rep B ρ σ w) {o : AObj} {l : Loc} (hb : B.heap.size ≤ l.blk ∧ l.blk < w.heap.size)
    (hf : ∀ id p l', σ.get id = some p → p.live = true → ρ id = some l' → l'.blk ≠ l.blk) (hn : ObjRep (memOf B) (ρ.ext σ.newId l) w l o) : Rep B (ρ.ext σ.newId l) (σ.push o) w where
  dom := fun j l' hj => by
    unfold Rho.ext at hj
    by_cases e : j = σ.newId
    · rw [e]; exact AS.lt_push σ o h.low
    · simp only [e, if_false] at hj
      exact Nat.lt_of_lt_of_le (h.dom j l' hj) (AS.next_push_le σ o)
  free := by
    rw [AS.newId_push]
    unfold Rho.ext
    have h1 := AS.lt_push σ o h.low
    rw [if_neg (by omega)]
    cases hr : ρ (σ.push o).next with
    | none => rfl
    | some l' =>
      have h2 := h.dom _ l' hr
      have h3 := AS.next_push_le σ o
      omega
  low := fun k hk => by rw [AS.slot_push] at hk; cases hk
  obj := fun j p l' hj hr' => by
    rw [AS.get_push σ j o h.low] at hj
    by_cases e : j = σ.newId
    · simp [e] at hj; subst hj
      simp [Rho.ext, e] at hr'; subst hr'
      exact hn
    · simp only [e, if_false] at hj
      simp only [Rho.ext, e, if_false] at hr'
      exact (h.obj j p l' hj hr').mono (h.le_ext l)
  new := fun j l' hr' => by
    by_cases e : j = σ.newId
    · simp [Rho.ext, e] at hr'; subst hr'; exact hb
    · simp only [Rho.ext, e, if_false] at hr'; exact h.new j l' hr'
  inj := fun j j' p p' l1 l2 h1 h2 v1 v2 r1 r2 hbl => by
    rw [AS.get_push σ _ o h.low] at h1 h2
    by_cases e1 : j = σ.newId <;> by_cases e2 : j' = σ.newId
    · exact e1.trans e2.symm
    · simp [Rho.ext, e1] at r1; subst r1
      simp only [Rho.ext, e2, if_false] at r2 h2
      exact absurd hbl.symm (hf j' p' l2 h2 v2 r2)
    · simp [Rho.ext, e2] at r2; subst r2
      simp only [Rho.ext, e1, if_false] at r1 h1
      exact absurd hbl (hf j p l1 h1 v1 r1)
    · simp only [Rho.ext, e1, if_false] at r1 h1
      simp only [Rho.ext, e2, if_false] at r2 h2
      exact h.inj j j' p p' l1 l2 h1 h2 v1 v2 r1 r2 hbl
  keep := h.keep
  size := h.size
  tape := h.tape
  os := h.os
  out := h.out
  has := fun j l' hj => by
    unfold Rho.ext at hj
    by_cases e : j = σ.newId
    · rw [e]; exact AS.has_push_self σ o
    · simp only [e, if_false] at hj
      exact AS.has_push (h.has j l' hj) o
  thaw := h.thaw

/-- The heap grows by one object. -/
theorem Rep.grown {B : World} {ρ : Rho} {σ : AS} {w w' : World} (h : Rep B ρ σ w) {x : Obj} (hh : w'.heap = w.heap.push x) (ht : w'.tape = w.tape) (ho : w'.os = w.os) (hu : w'.output = w.output) (hz : ObjThaw x) : Rep B ρ σ w' where
  dom := h.dom
  free := h.free
  low := h.low
  obj := fun id o l hg hr => (h.obj id o l hg hr).congr fun _ => by
    rw [hh, Array.getElem?_push, if_neg]
    have := (h.new id l hr).2; omega
  new := fun id l hr => by
    rw [hh, Array.size_push]
    have := h.new id l hr; omega
  inj := h.inj
  keep := fun b hb => by
    rw [hh, Array.getElem?_push, if_neg]
    · exact h.keep b hb
    · have := h.size; omega
  size := by rw [hh, Array.size_push]; have := h.size; omega
  tape := ht.trans h.tape
  os := ho.trans h.os
  out := hu.trans h.out
  has := h.has
  thaw := fun b y hb hy => by
    rw [hh, Array.getElem?_push] at hy
    split at hy
    · cases hy; exact hz
    · exact h.thaw b y hb hy

/-- A new object. -/
theorem Rep.push {B : World} {ρ : Rho} {σ : AS} {w w' : World} (h : Rep B ρ σ w) {x : Obj} {o : AObj} {l : Loc} (hl : l.blk = w.heap.size) (hh : w'.heap = w.heap.push x) (ht : w'.tape = w.tape) (ho : w'.os = w.os)
    (hu : w'.output = w.output) (hn : ObjRep (memOf B) (ρ.ext σ.newId l) w' l o) (hz : ObjThaw x := by intro c e fz h; first | (cases h; done) | (cases h; rfl)) : Rep B (ρ.ext σ.newId l) (σ.push o) w' :=
  (h.grown hh ht ho hu hz).name (by rw [hl, hh, Array.size_push]; have := h.size; omega) (fun id p l' _ _ hr => by have := (h.new id l' hr).2; omega) hn

theorem Rho.ext_self (ρ : Rho) (id : Nat) (l : Loc) : ρ.ext id l id = some l := by simp [Rho.ext]

end Go.Ab
