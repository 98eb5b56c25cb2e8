/- Symbolic steps: temporaries and own objects as lists; one rule an operation. -/
import Derived.Test.YtldckcopeiginaaAbIn
namespace Go.Ab
variable {P : Program} {G : Gl}

/-! ### Temporaries -/
def lk : List (Nat × AV) → Nat → Option AV
  | [], _ => none
  | (k, v) :: r, j => bif Nat.beq k j then some v else lk r j
/-- What is known of the temporaries. -/
structure En (tm : Tm) (N : Nat) (L : List (Nat × AV)) : Prop where
  n : tm.n = N
  get : ∀ j v, lk L j = some v → tm.get j = v
theorem En.set {tm : Tm} {N : Nat} {L : List (Nat × AV)} (h : En tm N L) {d : Nat} (hd : d < N) (v : AV) : En (tm.set d v) N ((d, v) :: L) := by
  refine ⟨by rw [Tm.n_set]; exact h.n, fun j u hj => ?_⟩
  rw [Tm.get_set, h.n]
  unfold lk at hj
  by_cases e : d = j
  · subst e
    have : Nat.beq d d = true := Nat.beq_refl d
    rw [this] at hj
    simp only [cond_true, Option.some.injEq] at hj
    rw [if_pos ⟨rfl, hd⟩, hj]
  · have : Nat.beq d j = false := by
      cases hb : Nat.beq d j with
      | false => rfl
      | true => exact absurd (Nat.eq_of_beq_eq_true hb) e
    rw [this] at hj
    simp only [cond_false] at hj
    rw [if_neg (fun x => e x.1)]
    exact h.get j u hj
/-- A part of what is known. -/
def Sub : List (Nat × AV) → List (Nat × AV) → Prop
  | [], _ => True
  | p :: r, L => lk L p.1 = some p.2 ∧ Sub r L
theorem Sub.lk : ∀ {L' L : List (Nat × AV)}, Sub L' L → ∀ j v, lk L' j = some v → Go.Ab.lk L j = some v
  | [], _, _, j, v, h => by cases h
  | (k, u) :: r, L, ⟨h1, h2⟩, j, v, h => by
    unfold Go.Ab.lk at h
    cases hb : Nat.beq k j with
    | true =>
      rw [hb] at h
      simp only [cond_true, Option.some.injEq] at h
      have := Nat.eq_of_beq_eq_true hb
      subst this h
      exact h1
    | false =>
      rw [hb] at h
      exact h2.lk j v h
theorem En.sub {tm : Tm} {N : Nat} {L L' : List (Nat × AV)} (h : En tm N L) (hs : Sub L' L) : En tm N L' := ⟨h.n, fun j v hj => h.get j v (hs.lk j v hj)⟩

def evL (G : Gl) (L : List (Nat × AV)) : Operand → Option AV
  | .tmp t => lk L t
  | .const v => some (.s v)
  | .global g => some (evG G g)
  | .func f => some (.s (.func (.func f) #[] #[]))
theorem En.ev {tm : Tm} {N : Nat} {L : List (Nat × AV)} (h : En tm N L) {x : Operand} {v : AV} (hx : evL G L x = some v) : evT G tm x = v := by
  cases x with
  | tmp t => exact h.get t v hx
  | const c => cases hx; rfl
  | global g => cases hx; rfl
  | func f => cases hx; rfl
def evsL (G : Gl) (L : List (Nat × AV)) : List Operand → Option (List AV)
  | [] => some []
  | x :: r => match evL G L x, evsL G L r with
    | some v, some vs => some (v :: vs)
    | _, _ => none
theorem En.evs {tm : Tm} {N : Nat} {L : List (Nat × AV)} (h : En tm N L) : ∀ {xs : List Operand} {vs : List AV}, evsL G L xs = some vs → xs.map (evT G tm) = vs
  | [], vs, hx => by cases hx; rfl
  | x :: r, vs, hx => by
    unfold evsL at hx
    split at hx
    · rename_i v us hv hus
      cases hx
      rw [List.map_cons, h.ev hv, h.evs hus]
    · cases hx

/-! ### Own objects -/
/-- What is known of the heap, since it was B; W: the old objects that may turn; ds: the marks of deferred blocks. -/
structure He (B : AS) (W : List Nat) (σ : AS) (H : List (Nat × AObj)) (ds : List Nat) : Prop where
  slot : σ.slot = none
  fresh : ∀ id, σ.next ≤ id → σ.objs.get id = none
  le : B.next ≤ σ.next
  nodup : (H.map (·.1)).Nodup
  get : ∀ p ∈ H, σ.get p.1 = some p.2
  keep : ∀ id, id < B.next → id ∉ W → σ.objs.get id = B.objs.get id
  dle : ∀ d ∈ ds, B.next ≤ d
  dget : ∀ d ∈ ds, σ.get d = some .defr
  dnodup : ds.Nodup
  dH : ∀ d ∈ ds, d ∉ H.map (·.1)

theorem AS.newId_none {σ : AS} (h : σ.slot = none) : σ.newId = σ.next := by rw [AS.newId_eq, h]; rfl
theorem AS.push_none {σ : AS} (h : σ.slot = none) (o : AObj) : σ.push o = ⟨putObj σ.objs σ.next o, σ.next + 1, none⟩ := by
  obtain ⟨a, b, c⟩ := σ
  simp only at h; subst h; rfl
theorem AS.get_none_le {σ : AS} {id : Nat} (h : σ.next ≤ id) : σ.get id = none := by
  unfold AS.get; rw [if_neg (by omega)]
theorem He.lt {B σ : AS} {W : List Nat} {H : List (Nat × AObj)} {ds : List Nat} (h : He B W σ H ds) {p : Nat × AObj} (hp : p ∈ H) : p.1 < σ.next := AS.lt_of_get (h.get p hp)

theorem He.push {B σ : AS} {W : List Nat} {H : List (Nat × AObj)} {ds : List Nat} (h : He B W σ H ds) (o : AObj) : He B W (σ.push o) ((σ.newId, o) :: H) ds := by
  have hlow : ∀ k, σ.slot = some k → k < σ.next := fun k hk => by rw [h.slot] at hk; cases hk
  have hnid := AS.newId_none h.slot
  have hgetn : ∀ j, j < σ.next → (σ.push o).get j = σ.get j := fun j hj => by
    rw [AS.get_push σ j o hlow, hnid, if_neg (by omega)]
  have hlt : ∀ d ∈ ds, d < σ.next := fun d hd => AS.lt_of_get (h.dget d hd)
  refine ⟨AS.slot_push σ o, fun id hid => ?_, Nat.le_trans h.le (AS.next_push_le σ o), ?_, ?_, fun id hid hw => ?_, h.dle, fun d hd => ?_, h.dnodup, ?_⟩
  · rw [AS.push_none h.slot] at hid ⊢
    simp only at hid ⊢
    rw [putObj_get, if_neg (by omega)]
    exact h.fresh id (by omega)
  · rw [List.map_cons, List.nodup_cons]
    refine ⟨fun hm => ?_, h.nodup⟩
    obtain ⟨p, hp, hpe⟩ := List.mem_map.1 hm
    have := h.lt hp
    rw [hnid] at hpe; omega
  · intro p hp
    rcases List.mem_cons.1 hp with rfl | hp
    · rw [AS.get_push σ _ o hlow, if_pos rfl]
    · rw [hgetn _ (h.lt hp)]; exact h.get p hp
  · rw [AS.push_none h.slot]
    simp only
    rw [putObj_get, if_neg (by have := h.le; omega)]
    exact h.keep id hid hw
  · rw [hgetn d (hlt d hd)]; exact h.dget d hd
  · intro d hd
    rw [List.map_cons, List.mem_cons]
    rintro (e | hm)
    · have := hlt d hd
      rw [e, hnid] at this; omega
    · exact h.dH d hd hm

/-- One object turns. -/
inductive Upd : List (Nat × AObj) → Nat → AObj → AObj → List (Nat × AObj) → Prop
  | head {id : Nat} {o o' : AObj} {H : List (Nat × AObj)} : Upd ((id, o) :: H) id o o' ((id, o') :: H)
  | tail {p : Nat × AObj} {id : Nat} {o o' : AObj} {H H' : List (Nat × AObj)} (h : Upd H id o o' H') : Upd (p :: H) id o o' (p :: H')
theorem Upd.mem {H H' : List (Nat × AObj)} {id : Nat} {o o' : AObj} (h : Upd H id o o' H') : (id, o) ∈ H := by
  induction h with
  | head => simp
  | tail _ ih => exact List.mem_cons_of_mem _ ih
theorem Upd.keys {H H' : List (Nat × AObj)} {id : Nat} {o o' : AObj} (h : Upd H id o o' H') : H'.map (·.1) = H.map (·.1) := by
  induction h with
  | head => rfl
  | tail _ ih => simp [ih]
theorem Upd.cases_mem {H H' : List (Nat × AObj)} {id : Nat} {o o' : AObj} (h : Upd H id o o' H') (hn : (H.map (·.1)).Nodup) : ∀ p ∈ H', (p = (id, o')) ∨ (p ∈ H ∧ p.1 ≠ id) := by
  induction h with
  | head =>
    rw [List.map_cons, List.nodup_cons] at hn
    intro p hp
    rcases List.mem_cons.1 hp with rfl | hp
    · exact .inl rfl
    · exact .inr ⟨List.mem_cons_of_mem _ hp, fun e => hn.1 (List.mem_map.2 ⟨p, hp, e⟩)⟩
  | tail h ih =>
    rw [List.map_cons, List.nodup_cons] at hn
    intro p hp
    rcases List.mem_cons.1 hp with rfl | hp
    · refine .inr ⟨List.mem_cons_self, fun e => hn.1 ?_⟩
      rw [e]; exact List.mem_map.2 ⟨_, h.mem, rfl⟩
    · rcases ih hn.2 p hp with e | ⟨h1, h2⟩
      · exact .inl e
      · exact .inr ⟨List.mem_cons_of_mem _ h1, h2⟩

theorem He.set {B σ : AS} {W : List Nat} {H H' : List (Nat × AObj)} {ds : List Nat} (h : He B W σ H ds) {id : Nat} {o o' : AObj} (hu : Upd H id o o' H') (hw : B.next ≤ id ∨ id ∈ W) : He B W (σ.set id o') H' ds := by
  have hlt := h.lt hu.mem
  have hmem := h.get _ hu.mem
  refine ⟨h.slot, fun j hj => ?_, h.le, by rw [hu.keys]; exact h.nodup, fun p hp => ?_, fun j hj hjw => ?_, h.dle, fun d hd => ?_, h.dnodup, by rw [hu.keys]; exact h.dH⟩
  · rw [AS.next_set] at hj
    have : (σ.set id o').objs = putObj σ.objs id o' := rfl
    rw [this, putObj_get, if_neg (by simp only at hlt; omega)]
    exact h.fresh j hj
  · rcases hu.cases_mem h.nodup p hp with rfl | ⟨h1, h2⟩
    · rw [AS.get_set, if_pos hlt, if_pos rfl]
    · rw [AS.get_set, if_pos (h.lt h1), if_neg (fun e => h2 e.symm)]
      exact h.get p h1
  · have : (σ.set id o').objs = putObj σ.objs id o' := rfl
    rw [this, putObj_get, if_neg (fun e => by subst e; rcases hw with hw | hw
                                              · omega
                                              · exact hjw hw)]
    exact h.keep j hj hjw
  · have hne : ¬ id = d := fun e => by subst e; exact h.dH id hd (List.mem_map.2 ⟨_, hu.mem, rfl⟩)
    rw [AS.get_set, if_pos (AS.lt_of_get (h.dget d hd)), if_neg hne]
    exact h.dget d hd

/-- A part of what is known of the heap. -/
def SubH : List (Nat × AObj) → List (Nat × AObj) → Prop
  | [], _ => True
  | p :: r, H => p ∈ H ∧ SubH r H
theorem SubH.mem : ∀ {H' H : List (Nat × AObj)}, SubH H' H → ∀ p ∈ H', p ∈ H
  | [], _, _, p, hp => by cases hp
  | q :: r, H, ⟨h1, h2⟩, p, hp => by
    rcases List.mem_cons.1 hp with rfl | hp
    · exact h1
    · exact h2.mem p hp
theorem He.sub {B σ : AS} {W : List Nat} {H H' : List (Nat × AObj)} {ds : List Nat} (h : He B W σ H ds) (hs : SubH H' H) (hn : (H'.map (·.1)).Nodup) : He B W σ H' ds :=
  ⟨h.slot, h.fresh, h.le, hn, fun p hp => h.get p (hs.mem p hp), h.keep, h.dle, h.dget, h.dnodup, fun d hd hm => h.dH d hd (by
    obtain ⟨p, hp, hpe⟩ := List.mem_map.1 hm
    exact List.mem_map.2 ⟨p, hs.mem p hp, hpe⟩)⟩

/-- Two turns, one behind the other: what the second leaves alone is known still. -/
theorem He.trans {B σ σ' : AS} {W : List Nat} {H Hn : List (Nat × AObj)} {ds : List Nat} (h : He B W σ H ds) (h' : He σ [] σ' Hn []) (hn : ∀ p ∈ Hn, σ.next ≤ p.1) : He B W σ' (Hn ++ H) ds := by
  have keep : ∀ id, id < σ.next → σ'.get id = σ.get id := fun id hid => by
    have hk := h'.keep id hid (by simp)
    unfold AS.get
    rw [if_pos hid, if_pos (Nat.lt_of_lt_of_le hid h'.le), hk]
  refine ⟨h'.slot, h'.fresh, Nat.le_trans h.le h'.le, ?_, ?_, fun id hid hw => ?_, h.dle, fun d hd => ?_, h.dnodup, ?_⟩
  · rw [List.map_append, List.nodup_append]
    refine ⟨h'.nodup, h.nodup, fun a ha b hb => ?_⟩
    obtain ⟨p, hp, hpe⟩ := List.mem_map.1 ha
    obtain ⟨q, hq, hqe⟩ := List.mem_map.1 hb
    have h1 := hn p hp
    have h2 := h.lt hq
    omega
  · intro p hp
    rcases List.mem_append.1 hp with hp | hp
    · exact h'.get p hp
    · rw [keep _ (h.lt hp)]; exact h.get p hp
  · rw [h'.keep id (Nat.lt_of_lt_of_le hid h.le) (by simp)]
    exact h.keep id hid hw
  · rw [keep d (AS.lt_of_get (h.dget d hd))]; exact h.dget d hd
  · intro d hd hm
    rw [List.map_append, List.mem_append] at hm
    rcases hm with hm | hm
    · obtain ⟨p, hp, hpe⟩ := List.mem_map.1 hm
      have h1 := hn p hp
      have h2 := AS.lt_of_get (h.dget d hd)
      omega
    · exact h.dH d hd hm
theorem He.start {σ : AS} (h1 : σ.slot = none) (h2 : ∀ id, σ.next ≤ id → σ.objs.get id = none) {H : List (Nat × AObj)} (hn : (H.map (·.1)).Nodup) (hg : ∀ p ∈ H, σ.get p.1 = some p.2) : He σ [] σ H [] :=
  ⟨h1, h2, Nat.le_refl _, hn, hg, fun _ _ _ => rfl, (fun d hd => by cases hd), (fun d hd => by cases hd), List.nodup_nil, (fun d hd => by cases hd)⟩
theorem He.here {B σ : AS} {W : List Nat} {H : List (Nat × AObj)} {ds : List Nat} (h : He B W σ H ds) : He σ [] σ H [] := .start h.slot h.fresh h.nodup h.get

/-! ### Goals -/
variable (P G)
def SC (B : AS) (W : List Nat) (rd : Option Nat) (c : Code) (L : List (Nat × AV)) (N : Nat) (ds : List Nat) (H : List (Nat × AObj)) (Q : AEx → Cfg → Prop) : Prop :=
  ∀ tm σ, En tm N L → He B W σ H ds → wpc P G rd c ⟨tm, ds, σ⟩ Q
def SL (B : AS) (W : List Nat) (ops : Array Oper) (os : List Oper) (L : List (Nat × AV)) (N : Nat) (ds : List Nat) (H : List (Nat × AObj)) (Q : Cfg → Prop) : Prop :=
  ∀ tm σ, En tm N L → He B W σ H ds → wpl P G ops os ⟨tm, ds, σ⟩ Q
variable {P G}

section code
variable {B : AS} {W : List Nat} {rd : Option Nat} {L : List (Nat × AV)} {N : Nat} {ds : List Nat} {H : List (Nat × AObj)} {Q : AEx → Cfg → Prop}
theorem SC.app {c : Code} {tm : Tm} {σ : AS} (h : SC P G B W rd c L N ds H Q) (h1 : En tm N L) (h2 : He B W σ H ds) : wpc P G rd c ⟨tm, ds, σ⟩ Q := h tm σ h1 h2
theorem SC.sub {c : Code} {L' : List (Nat × AV)} (h : SC P G B W rd c L' N ds H Q) (hs : Sub L' L) : SC P G B W rd c L N ds H Q := fun tm σ h1 h2 => h tm σ (h1.sub hs) h2
theorem SC_seq {a b : Code} (h : SC P G B W rd a L N ds H (Nxt (fun s => wpc P G rd b s Q) Q)) : SC P G B W rd (.seq a b) L N ds H Q := fun tm σ h1 h2 => wpc_seq (h tm σ h1 h2)
theorem SC_block {id : Nat} {b : Code} (h : SC P G B W rd b L N ds H (InB id Q)) : SC P G B W rd (.block id b) L N ds H Q := fun tm σ h1 h2 => wpc_block (h tm σ h1 h2)
theorem SC_scope {b : Code} (h : SC P G B W rd b L N ds H Q) : SC P G B W rd (.scope b) L N ds H Q := fun tm σ h1 h2 => wpc_scope (h tm σ h1 h2)
theorem SC_cond_t {x : Operand} {a b : Code} (hx : evL G L x = some (.s (.bool true))) (h : SC P G B W rd a L N ds H Q) : SC P G B W rd (.cond x a b) L N ds H Q := fun tm σ h1 h2 => wpc_cond (t := true) (h1.ev hx) (h tm σ h1 h2)
theorem SC_cond_f {x : Operand} {a b : Code} (hx : evL G L x = some (.s (.bool false))) (h : SC P G B W rd b L N ds H Q) : SC P G B W rd (.cond x a b) L N ds H Q := fun tm σ h1 h2 => wpc_cond (t := false) (h1.ev hx) (h tm σ h1 h2)
/-- Where a goal on a state is left. -/
theorem SC_skip {K : Cfg → Prop} {Q' : AEx → Cfg → Prop} (h : ∀ tm σ, En tm N L → He B W σ H ds → K ⟨tm, ds, σ⟩) : SC P G B W rd .skip L N ds H (Nxt K Q') := fun tm σ h1 h2 => wpc_skip (h tm σ h1 h2)
theorem SC_skip' (h : ∀ tm σ, En tm N L → He B W σ H ds → Q .normal ⟨tm, ds, σ⟩) : SC P G B W rd .skip L N ds H Q := fun tm σ h1 h2 => wpc_skip (h tm σ h1 h2)
theorem SC_exit {id : Nat} (h : ∀ tm σ, En tm N L → He B W σ H ds → Q (.exit id) ⟨tm, ds, σ⟩) : SC P G B W rd (.exit id) L N ds H Q := fun tm σ h1 h2 => wpc_exit (h tm σ h1 h2)
theorem SC_ret (h : ∀ tm σ, En tm N L → He B W σ H ds → Q .ret ⟨tm, ds, σ⟩) : SC P G B W rd .ret L N ds H Q := fun tm σ h1 h2 => wpc_ret (h tm σ h1 h2)
theorem SC_region {id : Nat} {l : List Oper} (h : SL P G B W l.toArray l L N ds H (fun s => Q .normal s)) : SC P G B W rd (.region id l.toArray false) L N ds H Q := fun tm σ h1 h2 => wpc_region (h tm σ h1 h2)

/-- Where a state is. -/
def St (B : AS) (W : List Nat) (s : Cfg) (L : List (Nat × AV)) (N : Nat) (ds : List Nat) (H : List (Nat × AObj)) : Prop := ∃ tm σ, s = ⟨tm, ds, σ⟩ ∧ En tm N L ∧ He B W σ H ds
theorem SC_loop {b : Code} {α : Type} (Lf : α → List (Nat × AV)) (Hf : α → List (Nat × AObj)) (dsf : α → List Nat) (Inv : α → Prop) (μ : α → Nat) (a0 : α) (hI : Inv a0) (hL : Sub (Lf a0) L) (hH : SubH (Hf a0) H) (hn : ((Hf a0).map (·.1)).Nodup) (hd : dsf a0 = ds)
    (step : ∀ a, Inv a → SC P G B W rd b (Lf a) N (dsf a) (Hf a) (Nxt (fun s => ∃ a', μ a' < μ a ∧ Inv a' ∧ St B W s (Lf a') N (dsf a') (Hf a')) Q)) : SC P G B W rd (.loop b) L N ds H Q := by
  intro tm σ h1 h2
  refine wpc_inv (fun m s => ∃ a, μ a = m ∧ Inv a ∧ St B W s (Lf a) N (dsf a) (Hf a)) (μ a0) ⟨a0, rfl, hI, tm, σ, by rw [hd], h1.sub hL, by rw [hd]; exact h2.sub hH hn⟩ ?_
  rintro m s ⟨a, rfl, hIa, tm', σ', rfl, h3, h4⟩
  refine wpc_mono (step a hIa tm' σ' h3 h4) fun e s' hq => ?_
  cases e with
  | normal =>
    obtain ⟨a', h5, h6, h7⟩ := hq
    exact ⟨μ a', h5, a', rfl, h6, h7⟩
  | exit id => exact hq
  | ret => exact hq
end code
end Go.Ab
