/- Symbolic steps: regions that draw their order but read only (and store); calls that turn old objects; ranges over functions; appends. -/
import Derived.Test.YtldckcopeiginaaAbSc
namespace Go.Ab
variable {P : Program} {G : Gl}

/-! ### Drawn regions that run in the order of the text -/
def isStore (o : Oper) : Bool := match o.op with
  | .store .. => true
  | _ => false
def plainDraw (l : List Oper) : Bool := drawnOk l.toArray && (plan l.toArray == (List.range l.length).map fun i => (i, [])) && l.all fun o => cls o == 0 || cls o == 1 || isStore o

theorem resO_slot {ex : Runner} {ops : Array Oper} {o : Oper} {tm : Tm} {σ σ' : AS} {v : AV} (hc : cls o = 0 ∨ cls o = 1 ∨ isStore o = true) (hs : σ.slot = none) (h : resO P G ex ops o tm σ = some (v, σ')) : σ'.slot = none := by
  unfold resO at h
  split at h
  · cases he : eff P o (evT G tm) σ with
    | none => rw [he] at h; cases h
    | some x =>
      obtain ⟨r, σ₁⟩ := x
      rw [he] at h
      rcases hc with hc | hc | hc
      · obtain ⟨rfl, ⟨u, rfl⟩, _⟩ := eff0 hc he
        simp only [resNext, Option.some.injEq, Prod.mk.injEq] at h
        rw [← h.2]; exact hs
      · obtain ⟨rfl, ⟨u, rfl⟩, _⟩ := eff1 hc he
        simp only [resNext, Option.some.injEq, Prod.mk.injEq] at h
        rw [← h.2]; exact hs
      · unfold isStore at hc
        split at hc
        · rename_i t a b ho
          unfold eff at he
          rw [ho] at he
          simp only [Option.map_eq_some_iff, Prod.mk.injEq] at he
          obtain ⟨σ₂, h1, rfl, rfl⟩ := he
          simp only [resNext, Option.some.injEq, Prod.mk.injEq] at h
          rw [← h.2]
          cases ha : evT G tm a <;> rw [ha] at h1 <;> simp only [effStore] at h1 <;> try (cases h1; done)
          split at h1
          · split at h1
            · split at h1
              · cases h1; exact hs
              · cases h1
            · cases h1
          · cases h1
        · cases hc
  · cases h; exact hs

theorem runL_runD {ex : Runner} {base : Nat} {l : List Oper} (hall : ∀ o ∈ l, cls o = 0 ∨ cls o = 1 ∨ isStore o = true) : ∀ (rest : List Oper) (k : Nat) (tm : Tm) (defs : List Nat) (σ : AS) (s' : Cfg) (rc : Rec), l.drop k = rest → σ.slot = none → runL P G ex l.toArray rest ⟨tm, defs, σ⟩ = some s' →
    runD P G ex base l.toArray ((List.range' k rest.length).map fun i => (i, [])) ⟨tm, defs, σ⟩ rc = some s'
  | [], k, tm, defs, σ, s', rc, hd, hs, h => h
  | o :: rest, k, tm, defs, σ, s', rc, hd, hs, h => by
    have hget : l[k]? = some o := by
      have := congrArg (·[0]?) hd
      simpa using this
    have hrest : l.drop (k + 1) = rest := by
      have := congrArg List.tail hd
      simpa using this
    have hmem : o ∈ l := List.mem_of_getElem? hget
    have hc3 : cls o ≠ 3 := by
      rcases hall o hmem with h1 | h1 | h1
      · omega
      · omega
      · unfold isStore at h1
        split at h1
        · rename_i ho; unfold cls; rw [ho]; simp
        · cases h1
    simp only [runL, stepO] at h
    rw [List.length_cons, List.range'_succ, List.map_cons]
    simp only [runD, stepD]
    have hg' : l.toArray[k]? = some o := by simpa using hget
    rw [hg']
    simp only
    cases hr : resO P G ex l.toArray o tm σ with
    | none => rw [hr] at h; cases h
    | some x =>
      obtain ⟨v, σ₁⟩ := x
      rw [hr] at h
      simp only [stepVal] at h
      have hs1 := resO_slot (hall o hmem) hs hr
      have hx : resX P G ex base l.toArray k o tm σ = some (v, σ₁) := by
        obtain ⟨a, b, c⟩ := σ
        simp only at hs; subst hs
        rw [resX_plain hc3, hr]
        obtain ⟨a1, b1, c1⟩ := σ₁
        simp only at hs1; subst hs1
        rfl
      rw [hx]
      have hst : stands rc σ₁ [] = true := rfl
      simp only [hst, if_true]
      exact runL_runD hall rest (k + 1) _ _ _ _ _ hrest hs1 h

theorem He.bump {B σ : AS} {W : List Nat} {H : List (Nat × AObj)} {ds : List Nat} (h : He B W σ H ds) (m : Nat) : He B W ⟨σ.objs, σ.next + m, none⟩ H ds := by
  have hget : ∀ id, id < σ.next → (⟨σ.objs, σ.next + m, none⟩ : AS).get id = σ.get id := fun id hid => by
    obtain ⟨a, b, c⟩ := σ
    exact AS.get_bump hid
  exact ⟨rfl, fun id hid => h.fresh id (Nat.le_trans (Nat.le_add_right _ _) hid), Nat.le_trans h.le (Nat.le_add_right _ _), h.nodup, fun p hp => by rw [hget _ (h.lt hp)]; exact h.get p hp, h.keep, h.dle,
    fun d hd => by rw [hget _ (AS.lt_of_get (h.dget d hd))]; exact h.dget d hd, h.dnodup, h.dH⟩

section
variable {B : AS} {W : List Nat} {rd : Option Nat} {L : List (Nat × AV)} {N : Nat} {ds : List Nat} {H : List (Nat × AObj)} {Q : AEx → Cfg → Prop}
theorem SC_draw {id : Nat} {l : List Oper} (hp : plainDraw l = true) (h : SL P G B W l.toArray l L N ds H (fun s => Q .normal s)) : SC P G B W rd (.region id l.toArray true) L N ds H Q := by
  unfold plainDraw at hp
  simp only [Bool.and_eq_true, beq_iff_eq, List.all_eq_true, Bool.or_eq_true] at hp
  obtain ⟨⟨hok, hpl⟩, hall⟩ := hp
  intro tm σ h1 h2
  refine wpc_draw hok hpl ?_
  have hsz : l.toArray.size = l.length := by simp
  obtain ⟨n, s', h3, h4⟩ := h tm _ h1 (h2.bump l.toArray.size)
  refine ⟨n, s', ?_, h4⟩
  have := runL_runD (base := σ.next) (fun o ho => by rcases hall o ho with (h | h) | h
                                                     · exact .inl h
                                                     · exact .inr (.inl h)
                                                     · exact .inr (.inr h)) l 0 tm ds ⟨σ.objs, σ.next + l.toArray.size, none⟩ s' (fun _ => none) rfl rfl h3
  rw [List.range_eq_range']
  exact this
end

/-! ### Calls that turn old objects -/
theorem He.transW {B σ σ' : AS} {W M : List Nat} {H Hr Hn : List (Nat × AObj)} {ds : List Nat} (h : He B W σ H ds) (h' : He σ M σ' Hn []) (hM : ∀ id ∈ M, (B.next ≤ id ∨ id ∈ W) ∧ id ∈ H.map (·.1)) (hn : ∀ p ∈ Hn, p.1 ∈ M ∨ σ.next ≤ p.1) (hs : SubH Hr H) (hrn : (Hr.map (·.1)).Nodup) (hr : ∀ p ∈ Hr, p.1 ∉ M) :
    He B W σ' (Hn ++ Hr) ds := by
  have keep : ∀ id, id < σ.next → id ∉ M → σ'.get id = σ.get id := fun id hid hm => by
    have hk := h'.keep id hid hm
    unfold AS.get
    rw [if_pos hid, if_pos (Nat.lt_of_lt_of_le hid h'.le), hk]
  have hsub := hs.mem
  refine ⟨h'.slot, h'.fresh, Nat.le_trans h.le h'.le, ?_, ?_, fun id hid hw => ?_, h.dle, fun d hd => ?_, h.dnodup, ?_⟩
  · rw [List.map_append, List.nodup_append]
    refine ⟨h'.nodup, hrn, fun a ha b hb e => ?_⟩
    obtain ⟨p, hp, hpe⟩ := List.mem_map.1 ha
    obtain ⟨q, hq, hqe⟩ := List.mem_map.1 hb
    have h1 := hn p hp
    have h2 := h.lt (hsub q hq)
    have h3 := hr q hq
    rcases h1 with h1 | h1
    · exact h3 (by rw [hqe, ← e, ← hpe]; exact h1)
    · omega
  · intro p hp
    rcases List.mem_append.1 hp with hp | hp
    · exact h'.get p hp
    · rw [keep _ (h.lt (hsub p hp)) (hr p hp)]; exact h.get p (hsub p hp)
  · rw [h'.keep id (Nat.lt_of_lt_of_le hid h.le) (fun hm => by
      rcases (hM id hm).1 with h1 | h1
      · omega
      · exact hw h1)]
    exact h.keep id hid hw
  · rw [keep d (AS.lt_of_get (h.dget d hd)) (fun hm => h.dH d hd (hM d hm).2)]; exact h.dget d hd
  · intro d hd hm
    rw [List.map_append, List.mem_append] at hm
    rcases hm with hm | hm
    · obtain ⟨p, hp, hpe⟩ := List.mem_map.1 hm
      have h2 := AS.lt_of_get (h.dget d hd)
      rcases hn p hp with h1 | h1
      · exact h.dH d hd (by rw [← hpe]; exact (hM _ h1).2)
      · omega
    · obtain ⟨p, hp, hpe⟩ := List.mem_map.1 hm
      exact h.dH d hd (List.mem_map.2 ⟨p, hsub p hp, hpe⟩)
theorem He.startW {σ : AS} {B : AS} {W M : List Nat} {H H0 : List (Nat × AObj)} {ds : List Nat} (h : He B W σ H ds) (hs : SubH H0 H) (hn : (H0.map (·.1)).Nodup) : He σ M σ H0 [] :=
  ⟨h.slot, h.fresh, Nat.le_refl _, hn, fun p hp => h.get p (hs.mem p hp), fun _ _ _ => rfl, (fun d hd => by cases hd), (fun d hd => by cases hd), List.nodup_nil, (fun d hd => by cases hd)⟩

def FnW (P : Program) (G : Gl) (f : FuncId) (xs : List AV) (M : List Nat) (H : List (Nat × AObj)) (R : AV → List (Nat × AObj) → Prop) : Prop :=
  ∀ σ, He σ M σ H [] → wpf P G f xs σ fun v σ' => ∃ Hn, He σ M σ' Hn [] ∧ (∀ p ∈ Hn, p.1 ∈ M ∨ σ.next ≤ p.1) ∧ R v Hn
def RdW (P : Program) (G : Gl) (l : Nat) (xs : List AV) (M : List Nat) (H : List (Nat × AObj)) (R : AV → List (Nat × AObj) → Prop) : Prop :=
  ∀ σ, He σ M σ H [] → wpy P G l xs σ fun v σ' => ∃ Hn, He σ M σ' Hn [] ∧ (∀ p ∈ Hn, p.1 ∈ M ∨ σ.next ≤ p.1) ∧ R v Hn
def MOk (B : AS) (W M : List Nat) (H : List (Nat × AObj)) : Prop := ∀ id ∈ M, (B.next ≤ id ∨ id ∈ W) ∧ id ∈ H.map (·.1)

section rules
variable {B : AS} {W : List Nat} {ops : Array Oper} {os : List Oper} {L : List (Nat × AV)} {N : Nat} {ds : List Nat} {H : List (Nat × AObj)} {Q : Cfg → Prop} {ty : TypeId} {pos : String} {af : Array Edge} {d : Nat}
/-- A round of a loop over a function is called for. -/
theorem SL_yield {f : Operand} {xs : List Operand} {ats : Array TypeId} {l : Nat} {vs : List AV} {M : List Nat} {R : AV → List (Nat × AObj) → Prop} {H0 Hr : List (Nat × AObj)} (hd : d < N) (hf : evL G L f = some (.yld l)) (hx : evsL G L xs = some vs) (hc : RdW P G l vs M H0 R)
    (hs : SubH H0 H) (hn : (H0.map (·.1)).Nodup) (hM : MOk B W M H) (hr : SubH Hr H) (hrn : (Hr.map (·.1)).Nodup) (hrm : ∀ p ∈ Hr, p.1 ∉ M) (k : ∀ v Hn, R v Hn → SL P G B W ops os ((d, v) :: L) N ds (Hn ++ Hr) Q) :
    SL P G B W ops (⟨some d, .call ⟨.value f, xs.toArray, ats⟩, ty, pos, af, none⟩ :: os) L N ds H Q := fun tm σ h1 h2 => by
  refine wpl_op rfl ?_
  have he : eff P ⟨some d, .call ⟨.value f, xs.toArray, ats⟩, ty, pos, af, none⟩ (evT G tm) σ = some (.round l vs, σ) := by
    unfold eff
    simp only [effCall, h1.ev hf, bodyless, Bool.false_eq_true, if_false, h1.evs hx, target, Option.map_some]
  rw [he]
  refine wpn_round (wpy_mono (hc σ (h2.startW hs hn)) fun v σ' ⟨Hn, h3, h4, h5⟩ => ?_)
  exact k v Hn h5 _ _ (h1.set hd v) (h2.transW h3 hM h4 hr hrn hrm)
/-- A bool is read: the ways part. -/
theorem SL_load_ob {t e : TypeId} {x : Operand} {id es i f : Nat} {ex : Bool} {rows : List (List AV)} {row : List AV} {b : Bool} (hd : d < N) (hx : evL G L x = some (.ptr id i f)) (hm : (id, AObj.cells e es ex rows) ∈ H) (ht : rowN P t = some none) (hr : rows[i]? = some row) (hv : row[f]? = some (.s (.bool b)))
    (kt : b = true → SL P G B W ops os ((d, .s (.bool true)) :: L) N ds H Q) (kf : b = false → SL P G B W ops os ((d, .s (.bool false)) :: L) N ds H Q) : SL P G B W ops (⟨some d, .load t x, ty, pos, af, none⟩ :: os) L N ds H Q := by
  cases b with
  | true => exact SL_load_o hd hx hm ht hr hv (kt rfl)
  | false => exact SL_load_o hd hx hm ht hr hv (kf rfl)
/-- A whole box is written. -/
theorem SL_store_box {t e : TypeId} {x y : Operand} {id es : Nat} {ex : Bool} {row cs : List AV} {v : AV} {H' : List (Nat × AObj)} (hx : evL G L x = some (.ptr id 0 0)) (hy : evL G L y = some v) (hc : cellsOf v = cs) (hu : Upd H id (.cells e es ex [row]) (.cells e es ex [cs]) H')
    (hw : B.next ≤ id ∨ id ∈ W) (hl : cs.length = row.length) (hs : sz P t = some cs.length) (h1c : cs.all isCell = true) (k : SL P G B W ops os L N ds H' Q) : SL P G B W ops (⟨none, .store t x y, ty, pos, af, none⟩ :: os) L N ds H Q := by
  have hwr : writeRow row 0 cs = cs := by simp [writeRow, hl]
  refine SL_store (i := 0) (f := 0) rfl hx hy (rows := [row]) (row := row) (cs := cs) (by simpa [hwr] using hu) hw rfl hc hs (by omega) h1c k
theorem SL_indexAddr_0 {t e e' : TypeId} {x ix : Operand} {id len : Nat} {cap : Option Nat} {es : Nat} {ex : Bool} {rows : List (List AV)} {kk : IntKind} {n : Int} (hd : d < N) (hx : evL G L x = some (.sl id 0 len cap)) (hi : evL G L ix = some (.s (.int kk n))) (hm : (id, AObj.cells e' es ex rows) ∈ H) (ht : sliceOf P t = some (e, es))
    (i : Nat) (hn : n = i) (hlt : i < len) (k : SL P G B W ops os ((d, .ptr id i 0) :: L) N ds H Q) : SL P G B W ops (⟨some d, .indexAddr t x ix, ty, pos, af, none⟩ :: os) L N ds H Q :=
  SL_indexAddr_o hd hx hi hm ht i hn hlt (by rw [Nat.zero_add]; exact k)
/-- A guard that looks at what was not run. -/
theorem SL_notu {op : Op} {j t : Nat} {want : Bool} (hj : (ops[j]?).bind (·.dst) = some t) (ht : lk L t = some uv) (hd : d < N) (k : SL P G B W ops os ((d, uv) :: L) N ds H Q) :
    SL P G B W ops (⟨some d, op, ty, pos, af, some (j, want)⟩ :: os) L N ds H Q := fun tm σ h1 h2 => by
  refine wpl_not ?_ (k _ σ (h1.set hd uv) h2)
  simp only [Region.wanted, ayielded, hj, h1.get _ _ ht]
  cases want <;> rfl
/-- A store, the rows behind it named. -/
theorem SL_store_n {t e : TypeId} {x y : Operand} {id es i f : Nat} {ex : Bool} {rows rows' : List (List AV)} {row cs : List AV} {v : AV} {H' : List (Nat × AObj)} (hx : evL G L x = some (.ptr id i f)) (hy : evL G L y = some v) (hm : (id, AObj.cells e es ex rows) ∈ H) (hr : rows[i]? = some row) (hc : cellsOf v = cs)
    (hset : rows.set i (writeRow row f cs) = rows') (hu : Upd H id (.cells e es ex rows) (.cells e es ex rows') H') (hw : B.next ≤ id ∨ id ∈ W) (hs : sz P t = some cs.length) (hf : f + cs.length ≤ row.length) (h1c : cs.all isCell = true) (k : SL P G B W ops os L N ds H' Q) :
    SL P G B W ops (⟨none, .store t x y, ty, pos, af, none⟩ :: os) L N ds H Q := by
  subst hset
  exact SL_store rfl hx hy hu hw hr hc hs hf h1c k
theorem SL_makeFunc {fn : Fn} {first cap : Array Operand} {vs ws : List AV} (hd : d < N) (hx : evsL G L first.toList = some vs) (hy : evsL G L cap.toList = some ws) (k : SL P G B W ops os ((d, mkFn fn vs ws) :: L) N ds H Q) : SL P G B W ops (⟨some d, .makeFunc fn first cap, ty, pos, af, none⟩ :: os) L N ds H Q :=
  SL_val _ hd (fun tm σ h1 h2 => by unfold eff; simp only [h1.evs hx, h1.evs hy]) k
def partsL (G : Gl) (L : List (Nat × AV)) : List (Nat × Operand) → Option (List (Nat × AV))
  | [] => some []
  | p :: r => match evL G L p.2, partsL G L r with
    | some v, some vs => some ((p.1, v) :: vs)
    | _, _ => none
theorem En.parts {tm : Tm} (h : En tm N L) : ∀ {xs : List (Nat × Operand)} {vs : List (Nat × AV)}, partsL G L xs = some vs → xs.map (fun p => (p.1, evT G tm p.2)) = vs
  | [], vs, hx => by cases hx; rfl
  | p :: r, vs, hx => by
    unfold partsL at hx
    split at hx
    · rename_i v us hv hus
      cases hx
      rw [List.map_cons, h.ev hv, h.parts hus]
    · cases hx
theorem SL_build {t : TypeId} {ps : Array (Nat × Operand)} {vs : List (Nat × AV)} {v : AV} (hd : d < N) (hx : partsL G L ps.toList = some vs) (hv : effBuild P t vs = some v) (k : SL P G B W ops os ((d, v) :: L) N ds H Q) : SL P G B W ops (⟨some d, .build t ps, ty, pos, af, none⟩ :: os) L N ds H Q :=
  SL_val v hd (fun tm σ h1 h2 => by unfold eff; simp only [h1.parts hx, hv]; rfl) k
theorem SL_buildSlice {t e : TypeId} {len es b : Nat} {z : List AV} {ps : Array (Nat × Operand)} {vs : List (Nat × AV)} {rows : List (List AV)} (hd : d < N) (hx : partsL G L ps.toList = some vs) (ht : elOf P t = some (e, es, b, z)) (hb : len * es ≤ 2 ^ 24) (hr : setRows es (List.replicate len z) vs = some rows)
    (k : ∀ id, B.next ≤ id → SL P G B W ops os ((d, .sl id 0 len none) :: L) N ds ((id, .cells e es true rows) :: H) Q) : SL P G B W ops (⟨some d, .buildSlice t len ps, ty, pos, af, none⟩ :: os) L N ds H Q :=
  SL_new _ (fun id => .sl id 0 len none) hd (fun tm σ h1 h2 => by
    obtain ⟨hu, hs, info, zv, hi, hz, hsz, hn, hbb, hzz⟩ := elOf_spec ht
    subst hn hzz
    unfold eff
    simp only [effBuildSlice, h1.parts hx, hu, hi, hz]
    rw [if_pos ⟨hsz, hb⟩, hr]) k

theorem append_src {t tx e : TypeId} {es b : Nat} {z : List AV} (ht : elOf P t = some (e, es, b, z)) {tx : TypeId} {e' : TypeId} (htx : P.underlying tx = some (.slice e')) : True := trivial
/-- Appended to nothing. -/
theorem SL_append_nil {t tx e e' ee : TypeId} {s x : Operand} {es b i n id0 : Nat} {cap : Option Nat} {ex : Bool} {z : List AV} {rows news : List (List AV)} (hd : d < N) (hs : evL G L s = some (.s (.slice none 0 0))) (hx : evL G L x = some (.sl id0 i n cap)) (hm : (id0, AObj.cells ee es ex rows) ∈ H)
    (ht : elOf P t = some (e, es, b, z)) (htx : P.underlying tx = some (.slice e')) (hle : i + n ≤ rows.length) (hnews : (rows.drop i).take n = news) (hc : news.all (·.all isCell) = true) (hn : news.length ≠ 0) (hb1 : (2 * news.length + 192) * b ≤ 2 ^ 48) (hb2 : news.length < 2 ^ 62)
    (k : ∀ id, B.next ≤ id → SL P G B W ops os ((d, .sl id 0 news.length none) :: L) N ds ((id, .cells e es false news) :: H) Q) :
    SL P G B W ops (⟨some d, .call ⟨.builtin .append, #[s, x], #[t, tx]⟩, ty, pos, af, none⟩ :: os) L N ds H Q :=
  SL_new _ (fun id => .sl id 0 news.length none) hd (fun tm σ h1 h2 => by
    obtain ⟨hu, hsz0, info, zv, hi, hz, hsz, hnn, hbb, hzz⟩ := elOf_spec ht
    subst hnn hzz hbb
    have hsrc : srcRows info.size (.sl id0 i n cap) σ = some news := by
      simp only [srcRows, h2.get _ hm]
      rw [if_pos ⟨trivial, hle⟩, hnews]
    unfold eff
    simp only [effCall, effBuiltin, List.map_cons, List.map_nil, h1.ev hs, h1.ev hx, effAppend, srcOk, htx, hu, hi, hz, hsrc, if_true]
    rw [if_pos ⟨hsz, hc⟩, if_neg hn, if_pos (by simp only [List.length_nil, Nat.zero_add]; exact ⟨hb1, hb2⟩)]
    simp only [List.length_nil, Nat.zero_add, List.nil_append]) k
/-- Appended to an own slice of unknown room. -/
theorem SL_append_own {t tx e e' ee : TypeId} {s x : Operand} {es b i n id0 o len : Nat} {cap : Option Nat} {ex : Bool} {z : List AV} {rows news old : List (List AV)} {H' : List (Nat × AObj)} (hd : d < N) (hs : evL G L s = some (.sl o 0 len none)) (hx : evL G L x = some (.sl id0 i n cap)) (hu : Upd H o (.cells e es false old) .dead H')
    (hlen : len = old.length) (ho : B.next ≤ o ∨ o ∈ W) (hm : (id0, AObj.cells ee es ex rows) ∈ H)
    (ht : elOf P t = some (e, es, b, z)) (htx : P.underlying tx = some (.slice e')) (hle : i + n ≤ rows.length) (hnews : (rows.drop i).take n = news) (hc : news.all (·.all isCell) = true) (hn : news.length ≠ 0) (hb1 : (2 * (len + news.length) + 192) * b ≤ 2 ^ 48) (hb2 : len + news.length < 2 ^ 62)
    (k : ∀ id, B.next ≤ id → SL P G B W ops os ((d, .sl id 0 (len + news.length) none) :: L) N ds ((id, .cells e es false (old ++ news)) :: H') Q) :
    SL P G B W ops (⟨some d, .call ⟨.builtin .append, #[s, x], #[t, tx]⟩, ty, pos, af, none⟩ :: os) L N ds H Q := fun tm σ h1 h2 => by
  refine wpl_op rfl ?_
  have he : eff P ⟨some d, .call ⟨.builtin .append, #[s, x], #[t, tx]⟩, ty, pos, af, none⟩ (evT G tm) σ = some (.val (.sl σ.newId 0 (len + news.length) none), (σ.set o .dead).push (.cells e es false (old ++ news))) := by
    obtain ⟨hun, hsz0, info, zv, hi, hz, hsz, hnn, hbb, hzz⟩ := elOf_spec ht
    subst hnn hzz hbb
    have hsrc : srcRows info.size (.sl id0 i n cap) σ = some news := by
      simp only [srcRows, h2.get _ hm]
      rw [if_pos ⟨trivial, hle⟩, hnews]
    unfold eff
    simp only [effCall, effBuiltin, List.map_cons, List.map_nil, h1.ev hs, h1.ev hx, effAppend, srcOk, htx, hun, hi, hz, hsrc, if_true, h2.get _ hu.mem]
    rw [if_pos ⟨hsz, hc⟩, if_pos ⟨trivial, by omega⟩, if_neg hn, if_pos ⟨trivial, hlen, trivial, hb1, hb2⟩]
  rw [he]
  have h3 := (h2.set hu ho).push (.cells e es false (old ++ news))
  rw [AS.newId_set] at h3
  refine wpn_val (k σ.newId ?_ _ _ (h1.set hd _) h3)
  rw [AS.newId_none h2.slot]; exact h2.le
/-- A slice of one, and its being appended. -/
theorem SL_build1 {t e : TypeId} {es b : Nat} {z : List AV} {x : Operand} {v : AV} (hd : d < N) (hx : evL G L x = some v) (ht : elOf P t = some (e, es, b, z)) (hc : cellsOf v = [v]) (he : es = 1) (k : ∀ id, B.next ≤ id → SL P G B W ops os ((d, .sl id 0 1 none) :: L) N ds ((id, .cells e es true [[v]]) :: H) Q) :
    SL P G B W ops (⟨some d, .buildSlice t 1 #[(0, x)], ty, pos, af, none⟩ :: os) L N ds H Q := by
  subst he
  refine SL_buildSlice (vs := [(0, v)]) hd (by simp only [partsL, hx]) ht (by decide) ?_ k
  simp [setRows, hc]
theorem SL_append1_nil {t tx e e' ee : TypeId} {s x : Operand} {es b id0 : Nat} {cap : Option Nat} {ex : Bool} {z : List AV} {row : List AV} (hd : d < N) (hs : evL G L s = some (.s (.slice none 0 0))) (hx : evL G L x = some (.sl id0 0 1 cap)) (hm : (id0, AObj.cells ee es ex [row]) ∈ H)
    (ht : elOf P t = some (e, es, b, z)) (htx : P.underlying tx = some (.slice e')) (hc : row.all isCell = true) (hb1 : 194 * b ≤ 2 ^ 48)
    (k : ∀ id, B.next ≤ id → SL P G B W ops os ((d, .sl id 0 1 none) :: L) N ds ((id, .cells e es false [row]) :: H) Q) :
    SL P G B W ops (⟨some d, .call ⟨.builtin .append, #[s, x], #[t, tx]⟩, ty, pos, af, none⟩ :: os) L N ds H Q :=
  SL_append_nil (news := [row]) hd hs hx hm ht htx (by simp) rfl (by simp [hc]) (by simp) (by simpa using hb1) (show 1 < 2 ^ 62 by decide) k
theorem SL_append1_own {t tx e e' ee : TypeId} {s x : Operand} {es b id0 o len : Nat} {cap : Option Nat} {ex : Bool} {z row : List AV} {old : List (List AV)} {H' : List (Nat × AObj)} (hd : d < N) (hs : evL G L s = some (.sl o 0 len none)) (hx : evL G L x = some (.sl id0 0 1 cap)) (hu : Upd H o (.cells e es false old) .dead H')
    (hlen : len = old.length) (ho : B.next ≤ o ∨ o ∈ W) (hm : (id0, AObj.cells ee es ex [row]) ∈ H)
    (ht : elOf P t = some (e, es, b, z)) (htx : P.underlying tx = some (.slice e')) (hc : row.all isCell = true) (hb1 : (2 * (len + 1) + 192) * b ≤ 2 ^ 48) (hb2 : len + 1 < 2 ^ 62)
    (k : ∀ id, B.next ≤ id → SL P G B W ops os ((d, .sl id 0 (len + 1) none) :: L) N ds ((id, .cells e es false (old ++ [row])) :: H') Q) :
    SL P G B W ops (⟨some d, .call ⟨.builtin .append, #[s, x], #[t, tx]⟩, ty, pos, af, none⟩ :: os) L N ds H Q :=
  SL_append_own (news := [row]) hd hs hx hu hlen ho hm ht htx (by simp) rfl (by simp [hc]) (by simp) hb1 hb2 k
end rules

theorem Upd.append {H H' : List (Nat × AObj)} {id : Nat} {o o' : AObj} (h : Upd H id o o' H') (K : List (Nat × AObj)) : Upd (H ++ K) id o o' (H' ++ K) := by
  induction h with
  | head => exact .head
  | tail _ ih => exact .tail ih

/-! ### Rounds -/
def zipL : List Nat → List AV → List (Nat × AV) → List (Nat × AV)
  | p :: ps, a :: xs, L => zipL ps xs ((p, a) :: L)
  | _, _, L => L
theorem En.zip {N : Nat} : ∀ (ps : List Nat) (xs : List AV) (tm : Tm) (L : List (Nat × AV)), En tm N L → (∀ p ∈ ps, p < N) → En ((ps.zip xs).foldl (fun (ts : Tm) (p : Tmp × AV) => ts.set p.1 p.2) tm) N (zipL ps xs L)
  | [], _, tm, L, h, _ => by simpa [zipL] using h
  | _ :: _, [], tm, L, h, _ => by simpa [zipL] using h
  | p :: ps, a :: xs, tm, L, h, hp => by
    simp only [List.zip_cons_cons, List.foldl_cons, zipL]
    exact En.zip ps xs _ _ (h.set (hp p (by simp)) a) (fun q hq => hp q (List.mem_cons_of_mem _ hq))

/-- What a round's body must come to. -/
def RPost (B : AS) (M : List Nat) (l : Nat) (R : AV → List (Nat × AObj) → Prop) (e : AEx) (s : Cfg) : Prop :=
  e = .normal ∧ ∃ lp, s.st.get l = some (.loop lp) ∧ ∃ Hn, He B M (s.st.set l (.loop { lp with state := .ready, pending := none })) Hn [] ∧ (∀ p ∈ Hn, p.1 ∈ M ∨ B.next ≤ p.1) ∧ R (.s (.bool true)) Hn
theorem RPost.intro {B : AS} {M : List Nat} {l : Nat} {R : AV → List (Nat × AObj) → Prop} {tm : Tm} {σ : AS} {H H' Hn : List (Nat × AObj)} {lp : ALoop} (h2 : He B M σ H []) (hl : l ∈ M) (hu : Upd H l (.loop lp) (.loop { lp with state := .ready, pending := none }) H') (hs : SubH Hn H') (hn : (Hn.map (·.1)).Nodup)
    (hB : ∀ p ∈ Hn, p.1 ∈ M ∨ B.next ≤ p.1) (hR : R (.s (.bool true)) Hn) : RPost B M l R .normal ⟨tm, [], σ⟩ :=
  ⟨rfl, lp, h2.get _ hu.mem, Hn, (h2.set hu (.inr hl)).sub hs hn, hB, hR⟩
theorem Rd_body {l : Nat} {xs : List AV} {M : List Nat} {H : List (Nat × AObj)} {R : AV → List (Nat × AObj) → Prop} {lp : ALoop} {N : Nat} {L : List (Nat × AV)} (hE : En lp.tmps N L) (hl : (l, AObj.loop lp) ∈ H) (hst : lp.state = .ready) (hlen : xs.length = lp.params.size) (hp : ∀ p ∈ lp.params.toList, p < N)
    (h : ∀ B : AS, SC P G B M (some l) lp.assign (zipL lp.params.toList xs L) N [] H (Nxt (fun s => ∃ r : ALoop, s.st.get l = some (.loop r) ∧ r.state = .ready ∧ wpc P G (some l) lp.body ⟨s.tmps, s.defs, s.st.set l (.loop { r with state := .busy })⟩ (RPost B M l R)) (fun _ _ => False))) : RdW P G l xs M H R := fun σ hs => by
  obtain ⟨n, e, s₁, h1, h2⟩ := h σ _ σ (En.zip lp.params.toList xs lp.tmps L hE hp) hs
  cases e with
  | exit id => exact h2.elim
  | ret => exact h2.elim
  | normal =>
    obtain ⟨r, hr1, hr2, m, e, s₂, h3, he, lp', hlp, Hn, hHe, hB, hR⟩ := h2
    subst he
    refine ⟨max n m, _, _, ?_, Hn, hHe, hB, hR⟩
    unfold roundWith
    rw [hs.get _ hl]
    simp only
    rw [if_pos ⟨hst, hlen⟩]
    simp only [exec_le (Nat.le_max_left n m) _ _ _ _ h1, hr1]
    rw [if_pos hr2]
    obtain ⟨tm1, df1, st1⟩ := s₁
    simp only at h3
    simp only [exec_le (Nat.le_max_right n m) _ _ _ _ h3, hlp]
    rfl

/-- A range over a function, outside of rounds, that no round leaves. -/
theorem SC_range {B : AS} {W : List Nat} {L : List (Nat × AV)} {N : Nat} {ds : List Nat} {H H0 Hr : List (Nat × AObj)} {Q : AEx → Cfg → Prop} {g : Operand} {params : Array Tmp} {assign body : Code} {gv : AV} {f : FuncId} {xs : Nat → List AV} {M0 : List Nat} {R : Tm → Nat → Nat → List (Nat × AObj) → Prop}
    (hg : evL G L g = some gv) (ht : ∀ l, target gv [.yld l] = some (.enter f (xs l))) (hs : SubH H0 H) (hn : (H0.map (·.1)).Nodup) (hM : ∀ id ∈ M0, (B.next ≤ id ∨ id ∈ W) ∧ id ∈ H.map (·.1)) (hr : SubH Hr H) (hrn : (Hr.map (·.1)).Nodup) (hrm : ∀ p ∈ Hr, p.1 ∉ M0)
    (hc : ∀ tm d l, En tm N L → B.next ≤ d → B.next ≤ l → l ∉ H.map (·.1) → FnW P G f (xs l) (l :: M0) ((l, .loop { state := .ready, pending := none, tmps := tm, params, assign, body, defers := d }) :: H0) (fun _ Hn => R tm d l Hn))
    (hR : ∀ tm d l Hn, B.next ≤ l → R tm d l Hn → ∃ r Hn', Upd Hn l (.loop r) (.loop { r with state := .exhausted }) Hn' ∧ r.state ≠ .busy ∧ r.pending = none ∧ ∀ tm' σ', En tm' N L → He B W σ' (Hn' ++ Hr) (d :: ds) → Q .normal ⟨tm', d :: ds, σ'⟩) :
    SC P G B W none (.rangeFunc g params assign body) L N ds H Q := by
  intro tm σ h1 h2
  -- the block for deferred calls, the record
  have p1 := h2.push .defr
  have hd1 : σ.newId = σ.next := AS.newId_none h2.slot
  have hd : B.next ≤ σ.newId := by rw [hd1]; exact h2.le
  have hdnot : σ.newId ∉ H.map (·.1) := fun hm => by
    obtain ⟨p, hp, hpe⟩ := List.mem_map.1 hm
    have := h2.lt hp; omega
  have p1' : He B W (σ.push .defr) H (σ.newId :: ds) := by
    refine ⟨p1.slot, p1.fresh, p1.le, h2.nodup, fun p hp => p1.get p (List.mem_cons_of_mem _ hp), p1.keep, fun x hx => ?_, fun x hx => ?_, ?_, fun x hx => ?_⟩
    · rcases List.mem_cons.1 hx with rfl | hx
      · exact hd
      · exact h2.dle x hx
    · rcases List.mem_cons.1 hx with rfl | hx
      · exact p1.get (σ.newId, .defr) (by simp)
      · exact p1.dget x hx
    · rw [List.nodup_cons]
      refine ⟨fun hm => ?_, h2.dnodup⟩
      have := AS.lt_of_get (h2.dget _ hm)
      omega
    · rcases List.mem_cons.1 hx with rfl | hx
      · exact hdnot
      · exact h2.dH x hx
  have p2 := p1'.push (.loop { state := .ready, pending := none, tmps := tm, params, assign, body, defers := σ.newId })
  have hl1 : (σ.push .defr).newId = (σ.push .defr).next := AS.newId_none p1.slot
  have hlB : B.next ≤ (σ.push .defr).newId := by rw [hl1]; exact p1.le
  have hlnot : (σ.push .defr).newId ∉ H.map (·.1) := fun hm => by
    obtain ⟨p, hp, hpe⟩ := List.mem_map.1 hm
    have := p1'.lt hp; omega
  have hnd : (((σ.push .defr).newId, AObj.loop { state := .ready, pending := none, tmps := tm, params, assign, body, defers := σ.newId }) :: H0).map (·.1) |>.Nodup := by
    rw [List.map_cons, List.nodup_cons]
    refine ⟨fun hm => hlnot ?_, hn⟩
    obtain ⟨p, hp, hpe⟩ := List.mem_map.1 hm
    exact List.mem_map.2 ⟨p, hs.mem p hp, hpe⟩
  have hsub : ∀ {A : List (Nat × AObj)} (q : Nat × AObj), SubH A H → SubH A (q :: H) := by
    intro A q hA
    induction A with
    | nil => trivial
    | cons a A ih => exact ⟨List.mem_cons_of_mem _ hA.1, ih hA.2⟩
  have hcall := hc tm σ.newId (σ.push .defr).newId h1 hd hlB hlnot _ (p2.startW (M := (σ.push .defr).newId :: M0) (H0 := ((σ.push .defr).newId, _) :: H0) ⟨by simp, hsub _ hs⟩ hnd)
  obtain ⟨n, v, σ₃, hrun, Hn, h3, h4, h5⟩ := hcall
  obtain ⟨r, Hn', hu, hb, hpend, hk⟩ := hR _ _ _ _ hlB h5
  have h6 : He B W σ₃ (Hn ++ Hr) (σ.newId :: ds) := p2.transW h3 (fun id hid => by
      rcases List.mem_cons.1 hid with rfl | hid
      · exact ⟨.inl hlB, by simp⟩
      · exact ⟨(hM id hid).1, by simp only [List.map_cons, List.mem_cons]; exact .inr (hM id hid).2⟩) h4 (hsub _ hr) hrn (fun p hp hm => by
      rcases List.mem_cons.1 hm with e | hm
      · exact hlnot (by rw [← e]; exact List.mem_map.2 ⟨p, hr.mem p hp, rfl⟩)
      · exact hrm p hp hm)
  have hu' : Upd (Hn ++ Hr) (σ.push .defr).newId (.loop r) (.loop { r with state := .exhausted }) (Hn' ++ Hr) := hu.append Hr
  have h7 := h6.set hu' (.inl hlB)
  have hQ := hk tm _ h1 h7
  refine ⟨n + 1, .normal, _, ?_, hQ⟩
  show stRange P G (exec P G n) none g params assign body ⟨tm, ds, σ⟩ = _
  have hg2 : evT G tm g = gv := h1.ev hg
  have hgl : σ₃.get (σ.push .defr).newId = some (.loop r) := h6.get _ hu'.mem
  simp only [stRange, rangeWith, hg2, ht, hrun, hgl]
  rw [if_neg hb, hpend]
  rfl
end Go.Ab
