/- Symbolic steps: regions that draw their order, walked in the order of the text: the same rules as elsewhere. -/
import Derived.Test.YtnhnlkljcfbhfaaGreatDoorZc
namespace Go.Ab
variable {P : Program} {G : Gl}
def idPl (k n : Nat) : List (Nat × List Nat) := (List.range' k n).map fun i => (i, [])
structure DC (B0 : AS) (B : AS) (base n : Nat) : Prop where
  lo : B0.next ≤ base
  hi : base + n ≤ B.next
  free : ∀ j, base ≤ j → B.objs.get j = none
theorem DC.le {B0 B : AS} {base n : Nat} (h : DC B0 B base n) : B0.next ≤ B.next := Nat.le_trans h.lo (Nat.le_trans (Nat.le_add_right _ _) h.hi)
def DFin (P : Program) (G : Gl) (B0 : AS) (W0 : List Nat) (B : AS) (N : Nat) (Q : AEx → Cfg → Prop) (s : Cfg) : Prop :=
  ∃ W' tm' σ' L' H', s = ⟨tm', [], σ'⟩ ∧ En tm' N L' ∧ He B W' σ' H' [] ∧ (∀ id ∈ W', B0.next ≤ id ∨ id ∈ W0) ∧ ∀ tm σ, En tm N L' → He B0 W0 σ H' [] → Q .normal ⟨tm, [], σ⟩
def SI (P : Program) (G : Gl) (B0 : AS) (W0 : List Nat) (B : AS) (base : Nat) (l : List Oper) (k : Nat) (os : List Oper) (W : List Nat) (L : List (Nat × AV)) (N : Nat) (H : List (Nat × AObj)) (Q : AEx → Cfg → Prop) : Prop :=
  DC B0 B base l.length → l.drop k = os → (∀ id ∈ W, (B0.next ≤ id ∨ id ∈ W0) ∧ (id < base + k ∨ B.next ≤ id)) → SD P G B W base l.toArray (idPl k os.length) L N H [] (DFin P G B0 W0 B N Q)
section
variable {B0 B : AS} {W0 W : List Nat} {base k : Nat} {l os : List Oper} {L : List (Nat × AV)} {N : Nat} {H : List (Nat × AObj)} {Q : AEx → Cfg → Prop}
theorem SC_drawI {rd : Option Nat} {id : Nat} (hok : drawnOk l.toArray = true) (hpl : plan l.toArray = idPl 0 l.length) (h : ∀ B base, B0.next ≤ B.next → SI P G B0 W0 B base l 0 l [] L N H Q) : SC P G B0 W0 rd (.region id l.toArray true) L N [] H Q :=
  SC_drawn hok hpl fun B' base h1 h2 h3 _ => h B' base (DC.le ⟨h1, h2, h3⟩) ⟨h1, h2, h3⟩ (List.drop_zero ..) (fun id hid => by cases hid)
theorem SI_nil (h : ∀ tm σ, En tm N L → He B0 W0 σ H [] → Q .normal ⟨tm, [], σ⟩) : SI P G B0 W0 B base l k [] W L N H Q := fun _ _ hW =>
  SD_nil fun tm σ h1 h2 => ⟨W, tm, σ, L, H, rfl, h1, h2, fun id hid => (hW id hid).1, h⟩
theorem SI_get {o : Oper} (hd : l.drop k = o :: os) : l.toArray[k]? = some o ∧ l.drop (k + 1) = os ∧ k < l.length := by
  have h1 : (l.drop k)[0]? = some o := by rw [hd]; rfl
  rw [List.getElem?_drop, Nat.add_zero] at h1
  refine ⟨by simpa using h1, ?_, (List.getElem?_eq_some_iff.1 h1).1⟩
  have := congrArg (List.drop 1) hd
  rwa [List.drop_drop, List.drop_succ_cons, List.drop_zero] at this
theorem idPl_cons (k n : Nat) : idPl k (n + 1) = (k, []) :: idPl (k + 1) n := rfl
def INext (P : Program) (G : Gl) (B0 : AS) (W0 : List Nat) (B : AS) (base : Nat) (l : List Oper) (k : Nat) (os : List Oper) (W : List Nat) (N : Nat) (Q : AEx → Cfg → Prop) (s : Cfg) : Prop :=
  ∃ tm' σ' L' H', s = ⟨tm', [], σ'⟩ ∧ En tm' N L' ∧ He B W σ' H' [] ∧ SI P G B0 W0 B base l (k + 1) os W L' N H' Q
theorem SL_mono {B : AS} {W : List Nat} {ops : Array Oper} {os : List Oper} {ds : List Nat} {Q Q' : Cfg → Prop} (h : SL P G B W ops os L N ds H Q) (hq : ∀ s, Q s → Q' s) : SL P G B W ops os L N ds H Q' := fun tm σ h1 h2 => wpl_mono (h tm σ h1 h2) hq
theorem SI_op {o : Oper} (hc : (cls o == 3) = false) (h : SL P G B W l.toArray [o] L N [] H (INext P G B0 W0 B base l k os W N Q)) (hlt : LateL G L o := by first | exact .inl rfl | exact .inr ⟨_, _, rfl, rfl, rfl⟩) : SI P G B0 W0 B base l k (o :: os) W L N H Q := fun hd hk hW => by
  obtain ⟨h1, h2, h3⟩ := SI_get hk
  rw [List.length_cons, idPl_cons]
  refine SD_op W [] h1 hc (fun _ h => h) (fun p hp => by cases hp) (fun k hk => by cases hk) (.inl rfl) (SL_mono h fun s ⟨tm, σ, L', H', e, a, b, c⟩ => ⟨tm, σ, L', H', e, a, b, c hd h2 fun id hid => ⟨(hW id hid).1, ?_⟩⟩) hlt
  have := (hW id hid).2
  omega
theorem no_obj {σ : AS} {p : Nat × AObj} {j : Nat} (h : σ.get p.1 = some p.2) (hj : p.1 = j) (hn : σ.objs.get j = none) : False := by
  unfold AS.get at h
  rw [hj, hn] at h
  simp at h
theorem SI_opW {o : Oper} (j : Nat) {ob : AObj} (hj : (j, ob) ∈ H) (hj0 : B0.next ≤ j ∨ j ∈ W0) (hc : (cls o == 3) = false) (h : SL P G B (j :: W) l.toArray [o] L N [] H (INext P G B0 W0 B base l k os (j :: W) N Q)) (hlt : LateL G L o := by first | exact .inl rfl | exact .inr ⟨_, _, rfl, rfl, rfl⟩) :
    SI P G B0 W0 B base l k (o :: os) W L N H Q := fun hd hk hW => by
  obtain ⟨h1, h2, h3⟩ := SI_get hk
  rw [List.length_cons, idPl_cons]
  intro tm σ rc hE hH hR
  have hlt2 : j < base + k ∨ B.next ≤ j := by
    by_cases hx : j < B.next
    · left
      apply Classical.byContradiction
      intro hn
      have hfr := hd.free j (by omega)
      have hnW : j ∉ W := fun hm => by have := (hW j hm).2; omega
      have := hH.keep j hx hnW
      rw [hfr] at this
      exact no_obj (hH.get _ hj) rfl this
    · right; omega
  refine SD_op (j :: W) [] h1 hc (fun _ h => List.mem_cons_of_mem _ h) (fun p hp => by cases hp) (fun k hk => by cases hk) (.inl rfl) (SL_mono h fun s ⟨tm, σ, L', H', e, a, b, c⟩ => ⟨tm, σ, L', H', e, a, b, c hd h2 fun id hid => ?_⟩) hlt tm σ rc hE hH hR
  rcases List.mem_cons.1 hid with rfl | hid
  · exact ⟨hj0, by omega⟩
  · have := hW id hid
    exact ⟨this.1, by omega⟩
theorem SI_new {d : Nat} {op : Op} {ty : TypeId} {pos : String} {af : Array Edge} (ob : AObj) (v : Nat → AV) (hc : (cls ⟨some d, op, ty, pos, af, none⟩ == 3) = true) (hd : d < N)
    (he : ∀ tm σ, En tm N L → eff P ⟨some d, op, ty, pos, af, none⟩ (evT G tm) σ = some (.val (v σ.newId), σ.push ob))
    (h : ∀ id, B0.next ≤ id → SI P G B0 W0 B base l (k + 1) os (id :: W) ((d, v id) :: L) N ((id, ob) :: H) Q) : SI P G B0 W0 B base l k (⟨some d, op, ty, pos, af, none⟩ :: os) W L N H Q := fun hdc hk hW => by
  obtain ⟨h1, h2, h3⟩ := SI_get hk
  rw [List.length_cons, idPl_cons]
  have hlt : base + k < B.next := by have := hdc.hi; omega
  have hnW : base + k ∉ W := fun hm => by have := (hW _ hm).2; omega
  have hfree := hdc.free (base + k) (Nat.le_add_right _ _)
  intro tm σ rc hE hH hR
  have hnH : base + k ∉ H.map (·.1) := fun hm => by
    obtain ⟨p, hp, hpe⟩ := List.mem_map.1 hm
    have := hH.keep (base + k) hlt hnW
    rw [hfree] at this
    exact no_obj (hH.get _ hp) hpe this
  exact SD_new ob v h1 hc hd (fun p hp => by cases hp) hnW hnH hlt hfree he (h (base + k) (Nat.le_trans hdc.lo (Nat.le_add_right _ _)) hdc h2 fun id hid => by
    rcases List.mem_cons.1 hid with rfl | hid
    · exact ⟨.inl (Nat.le_trans hdc.lo (Nat.le_add_right _ _)), by omega⟩
    · have := hW id hid
      exact ⟨this.1, by omega⟩) tm σ rc hE hH hR
theorem SI_alloc {d : Nat} {t : TypeId} {cs : List AV} {ty : TypeId} {pos : String} {af : Array Edge} (hd : d < N) (ht : zeroOf P t = some cs) (h : ∀ id, B0.next ≤ id → SI P G B0 W0 B base l (k + 1) os (id :: W) ((d, .ptr id 0 0) :: L) N ((id, .cells t cs.length true [cs]) :: H) Q) :
    SI P G B0 W0 B base l k (⟨some d, .alloc t, ty, pos, af, none⟩ :: os) W L N H Q :=
  SI_new _ (fun id => .ptr id 0 0) rfl hd (fun tm σ h1 => by
    unfold zeroOf at ht
    simp only [Option.map_eq_some_iff] at ht
    obtain ⟨z, hz, rfl⟩ := ht
    unfold eff
    simp only [effAlloc, hz, Option.map_some, effBox]) h
theorem SI_box {d : Nat} {t : TypeId} {x : Operand} {v : AV} {cs : List AV} {ty : TypeId} {pos : String} {af : Array Edge} (hd : d < N) (hx : evL G L x = some v) (hc : cellsOf v = cs) (h : ∀ id, B0.next ≤ id → SI P G B0 W0 B base l (k + 1) os (id :: W) ((d, .ptr id 0 0) :: L) N ((id, .cells t cs.length true [cs]) :: H) Q) :
    SI P G B0 W0 B base l k (⟨some d, .box t x, ty, pos, af, none⟩ :: os) W L N H Q :=
  SI_new _ (fun id => .ptr id 0 0) rfl hd (fun tm σ h1 => by
    unfold eff
    simp only [effBox, h1.ev hx, hc]) h
theorem SI_makeSlice {d : Nat} {t e : TypeId} {lo c : Operand} {es b : Nat} {z : List AV} {kk kk' : IntKind} {n m : Int} {ty : TypeId} {pos : String} {af : Array Edge} (hd : d < N) (hl : evL G L lo = some (.s (.int kk n))) (hc : evL G L c = some (.s (.int kk' m))) (ht : elOf P t = some (e, es, b, z)) (h0 : 0 ≤ n) (hnm : n ≤ m) (hm : m < 2 ^ 47) (hb : b * m ≤ 2 ^ 48)
    (h : ∀ id, B0.next ≤ id → SI P G B0 W0 B base l (k + 1) os (id :: W) ((d, .sl id 0 n.toNat none) :: L) N ((id, .cells e es true (List.replicate m.toNat z)) :: H) Q) : SI P G B0 W0 B base l k (⟨some d, .makeSlice t lo c, ty, pos, af, none⟩ :: os) W L N H Q :=
  SI_new _ (fun id => .sl id 0 n.toNat none) rfl hd (fun tm σ h1 => by
    obtain ⟨hu, hs, info, zv, hi, hz, hsz, hn, hbb, hzz⟩ := elOf_spec ht
    unfold eff
    simp only [effMakeSlice, h1.ev hl, h1.ev hc, hu, hi, hz]
    rw [if_pos ⟨hsz, h0, hnm, hm, by rw [hbb]; exact hb⟩, hn, hzz]) h
theorem SI_buildSlice {d : Nat} {t e : TypeId} {len es b : Nat} {z : List AV} {ps : Array (Nat × Operand)} {vs : List (Nat × AV)} {rows : List (List AV)} {ty : TypeId} {pos : String} {af : Array Edge} (hd : d < N) (hx : partsL G L ps.toList = some vs) (ht : elOf P t = some (e, es, b, z)) (hb : len * es ≤ 2 ^ 24) (hr : setRows es (List.replicate len z) vs = some rows)
    (h : ∀ id, B0.next ≤ id → SI P G B0 W0 B base l (k + 1) os (id :: W) ((d, .sl id 0 len none) :: L) N ((id, .cells e es true rows) :: H) Q) : SI P G B0 W0 B base l k (⟨some d, .buildSlice t len ps, ty, pos, af, none⟩ :: os) W L N H Q :=
  SI_new _ (fun id => .sl id 0 len none) rfl hd (fun tm σ h1 => by
    obtain ⟨hu, hs, info, zv, hi, hz, hsz, hn, hbb, hzz⟩ := elOf_spec ht
    subst hn hzz
    unfold eff
    simp only [effBuildSlice, h1.parts hx, hu, hi, hz]
    rw [if_pos ⟨hsz, hb⟩, hr]) h
theorem SI_build1 {d : Nat} {t e : TypeId} {es b : Nat} {z : List AV} {x : Operand} {v : AV} {ty : TypeId} {pos : String} {af : Array Edge} (hd : d < N) (hx : evL G L x = some v) (ht : elOf P t = some (e, es, b, z)) (hc : cellsOf v = [v]) (he : es = 1)
    (h : ∀ id, B0.next ≤ id → SI P G B0 W0 B base l (k + 1) os (id :: W) ((d, .sl id 0 1 none) :: L) N ((id, .cells e es true [[v]]) :: H) Q) : SI P G B0 W0 B base l k (⟨some d, .buildSlice t 1 #[(0, x)], ty, pos, af, none⟩ :: os) W L N H Q := by
  subst he
  refine SI_buildSlice (vs := [(0, v)]) hd (by simp only [partsL, hx]) ht (by decide) ?_ h
  simp [setRows, hc]
end
inductive SlH (H0 : List (Nat × AObj)) (es : Nat) : AV → List (List AV) → Prop
  | v {a : AV} {rows : List (List AV)} (h : SlV es a rows) : SlH H0 es a rows
  | o {id n : Nat} {e : TypeId} {x : Bool} {rows : List (List AV)} (h : (id, AObj.cells e es x rows) ∈ H0) (hn : rows.length = n) : SlH H0 es (.sl id 0 n none) rows
theorem SlH.mono {H0 H1 : List (Nat × AObj)} {es : Nat} {a : AV} {rows : List (List AV)} (h : SlH H0 es a rows) (hs : ∀ p ∈ H0, p ∈ H1) : SlH H1 es a rows := by
  cases h with
  | v h => exact .v h
  | o h hn => exact .o (hs _ h) hn
inductive AdH (H0 : List (Nat × AObj)) (es : Nat) (rows : List (List AV)) (i f : Nat) : AV → Prop
  | r {ad : Addr} : AdH H0 es rows i f (.rptr ad es rows i f)
  | o {id : Nat} {e : TypeId} {x : Bool} (h : (id, AObj.cells e es x rows) ∈ H0) : AdH H0 es rows i f (.ptr id i f)
section
variable {B : AS} {W : List Nat} {ops : Array Oper} {os : List Oper} {L : List (Nat × AV)} {N : Nat} {ds : List Nat} {H H0 : List (Nat × AObj)} {Q : Cfg → Prop} {ty : TypeId} {pos : String} {af : Array Edge} {d : Nat}
theorem SL_len_h {t e : TypeId} {x : Operand} {es n : Nat} {a : AV} {rows : List (List AV)} {ats : Array TypeId} (hd : d < N) (hx : evL G L x = some a) (hv : SlH H0 es a rows) (ha : ats[0]? = some t) (ht : sliceOf P t = some (e, es)) (hn : rows.length = n)
    (k : SL P G B W ops os ((d, .s (.int .i64 n)) :: L) N ds H Q) : SL P G B W ops (⟨some d, .call ⟨.builtin .len, #[x], ats⟩, ty, pos, af, none⟩ :: os) L N ds H Q := by
  cases hv with
  | v h => exact SL_len_v hd hx h ha ht hn k
  | o h hn' => subst hn'; subst hn; exact SL_len_sl hd hx ha (sliceOf_spec ht).1 k
theorem SL_indexAddr_h {t e : TypeId} {x ix : Operand} {a : AV} {es : Nat} {rows : List (List AV)} {kk : IntKind} {n : Int} (hd : d < N) (hx : evL G L x = some a) (hi : evL G L ix = some (.s (.int kk n))) (hv : SlH H0 es a rows) (hs : ∀ p ∈ H0, p ∈ H) (ht : sliceOf P t = some (e, es)) (i : Nat) (hn : n = i) (hlt : i < rows.length)
    (k : ∀ p, AdH H0 es rows i 0 p → SL P G B W ops os ((d, p) :: L) N ds H Q) : SL P G B W ops (⟨some d, .indexAddr t x ix, ty, pos, af, none⟩ :: os) L N ds H Q := by
  cases hv with
  | v h => exact SL_indexAddr_v hd hx hi h ht i hn hlt fun ad => k _ .r
  | o h hn' => exact SL_indexAddr_0 hd hx hi (hs _ h) ht i hn (by omega) (k _ (.o h))
theorem SL_load_h {t : TypeId} {x : Operand} {p : AV} {es i f : Nat} {rows : List (List AV)} {row : List AV} {v : AV} (hd : d < N) (hx : evL G L x = some p) (hp : AdH H0 es rows i f p) (hs : ∀ p ∈ H0, p ∈ H) (ht : rowN P t = some none) (hr : rows[i]? = some row) (hv : row[f]? = some v)
    (k : SL P G B W ops os ((d, v) :: L) N ds H Q) : SL P G B W ops (⟨some d, .load t x, ty, pos, af, none⟩ :: os) L N ds H Q := by
  cases hp with
  | r => exact SL_load_r hd hx ht hr hv k
  | o h => exact SL_load_o hd hx (hs _ h) ht hr hv k
theorem SL_append_own_nil {t tx e e' : TypeId} {s x : Operand} {es b o len cap : Nat} {ad : Option Addr} {z : List AV} {old : List (List AV)} (hd : d < N) (hs : evL G L s = some (.sl o 0 len none)) (hx : evL G L x = some (.s (.slice ad 0 cap))) (hm : (o, AObj.cells e es false old) ∈ H) (hlen : len = old.length)
    (ht : elOf P t = some (e, es, b, z)) (htx : P.underlying tx = some (.slice e')) (k : SL P G B W ops os ((d, .sl o 0 len none) :: L) N ds H Q) : SL P G B W ops (⟨some d, .call ⟨.builtin .append, #[s, x], #[t, tx]⟩, ty, pos, af, none⟩ :: os) L N ds H Q :=
  SL_val _ hd (fun tm σ h1 h2 => by
    obtain ⟨hu, hsz0, info, zv, hi, hz, hsz, hnn, hbb, hzz⟩ := elOf_spec ht
    subst hnn hzz hbb hlen
    have hsrc : appRows info (.s (.slice ad 0 cap)) σ = some [] := by
      cases ad <;> simp [appRows, srcRows]
    have hg := h2.get _ hm
    unfold eff
    simp only [effCall, effBuiltin, List.map_cons, List.map_nil, h1.ev hs, h1.ev hx, effAppend, srcOk, htx, hu, hi, hz, hsrc, if_true, hg, List.length_nil, List.all_nil, Nat.zero_add, Nat.le_refl, and_self, hsz]) k
theorem SL_beql {t yt : TypeId} {x y : Operand} {a b : Bool} (hd : d < N) (hx : evL G L x = some (.s (.bool a))) (hy : evL G L y = some (.s (.bool b))) (he : evalP P (do eqGuard .eql t x y (.bool a) (.bool b); binOp .eql t (.bool a) (.bool b)) = some (.bool (a == b)))
    (k : SL P G B W ops os ((d, .s (.bool (a == b))) :: L) N ds H Q) : SL P G B W ops (⟨some d, .binOp .eql t x y yt, ty, pos, af, none⟩ :: os) L N ds H Q :=
  SL_bin hd hx hy rfl he k
end
end Go.Ab
/- Symbolic steps: a drawn region in the order of the text, told by one test. -/
namespace Go.Ab
variable {P : Program} {G : Gl}
def drawJ (l : List Oper) : Bool := drawnOk l.toArray && (plan l.toArray == idPl 0 l.length)
theorem SC_drawJ {B0 : AS} {W0 : List Nat} {l : List Oper} {L : List (Nat × AV)} {N : Nat} {H : List (Nat × AObj)} {Q : AEx → Cfg → Prop} {rd : Option Nat} {id : Nat} (hok : drawJ l = true) (h : ∀ B base, B0.next ≤ B.next → SI P G B0 W0 B base l 0 l [] L N H Q) : SC P G B0 W0 rd (.region id l.toArray true) L N [] H Q := by
  unfold drawJ at hok
  rw [Bool.and_eq_true, beq_iff_eq] at hok
  exact SC_drawI hok.1 hok.2 h
theorem SC_drawK {B0 : AS} {W0 : List Nat} {l : List Oper} {L : List (Nat × AV)} {N : Nat} {H : List (Nat × AObj)} {Q : AEx → Cfg → Prop} {rd : Option Nat} {id : Nat} (hok : drawJ l = true) (h : ∀ B base, B0.next ≤ B.next → (∀ p ∈ H, p.1 < base) → SI P G B0 W0 B base l 0 l [] L N H Q) : SC P G B0 W0 rd (.region id l.toArray true) L N [] H Q := by
  unfold drawJ at hok
  rw [Bool.and_eq_true, beq_iff_eq] at hok
  exact SC_drawn hok.1 hok.2 fun B' base h1 h2 h3 h4 => h B' base (DC.le ⟨h1, h2, h3⟩) h4 ⟨h1, h2, h3⟩ (List.drop_zero ..) (fun id hid => by cases hid)
theorem SI_opX {B0 B : AS} {W0 W : List Nat} {base k : Nat} {l os : List Oper} {L : List (Nat × AV)} {N : Nat} {H : List (Nat × AObj)} {Q : AEx → Cfg → Prop} {o : Oper} (j : Nat) (hj0 : B0.next ≤ j ∨ j ∈ W0) (hjb : j < base) (hc : (cls o == 3) = false) (h : SL P G B (j :: W) l.toArray [o] L N [] H (INext P G B0 W0 B base l k os (j :: W) N Q)) (hlt : LateL G L o := by first | exact .inl rfl | exact .inr ⟨_, _, rfl, rfl, rfl⟩) :
    SI P G B0 W0 B base l k (o :: os) W L N H Q := fun hd hk hW => by
  obtain ⟨h1, h2, h3⟩ := SI_get hk
  rw [List.length_cons, idPl_cons]
  refine SD_op (j :: W) [] h1 hc (fun _ h => List.mem_cons_of_mem _ h) (fun p hp => by cases hp) (fun k hk => by cases hk) (.inl rfl) (SL_mono h fun s ⟨tm, σ, L', H', e, a, b, c⟩ => ⟨tm, σ, L', H', e, a, b, c hd h2 fun id hid => ?_⟩) hlt
  rcases List.mem_cons.1 hid with rfl | hid
  · exact ⟨hj0, by omega⟩
  · have := hW id hid
    exact ⟨this.1, by omega⟩
end Go.Ab
/- Symbolic steps: copies between own lists; parts of own lists of known room. -/
namespace Go.Ab
variable {P : Program} {G : Gl}
section
variable {B : AS} {W : List Nat} {ops : Array Oper} {os : List Oper} {L : List (Nat × AV)} {N : Nat} {ds : List Nat} {H : List (Nat × AObj)} {Q : Cfg → Prop} {ty : TypeId} {pos : String} {af : Array Edge} {d : Nat}
theorem SL_slice_from {t e e' : TypeId} {x y : Operand} {id n es l : Nat} {rows : List (List AV)} {kk : IntKind} {m : Int} (hd : d < N) (hx : evL G L x = some (.sl id 0 n none)) (hm : (id, AObj.cells e' es true rows) ∈ H) (ht : sliceOf P t = some (e, es)) (hlen : rows.length = n) (hy : evL G L y = some (.s (.int kk m))) (hl : m = l) (hln : l < n)
    (k : SL P G B W ops os ((d, .sl id l (n - l) none) :: L) N ds H Q) : SL P G B W ops (⟨some d, .slice t x (some y) none none, ty, pos, af, none⟩ :: os) L N ds H Q :=
  SL_val _ hd (fun tm σ h1 h2 => by
    obtain ⟨hu, hs⟩ := sliceOf_spec ht
    subst hl hlen
    have hb1 : bound (none : Option AV) rows.length rows.length = some rows.length := rfl
    have hb3 : bound (some (AV.s (.int kk (l : Int)))) 0 rows.length = some l := by
      unfold bound
      simp only
      rw [if_pos ⟨by omega, by omega⟩]; rfl
    have hne : ¬ rows.length = l := by omega
    unfold eff
    simp only [effSliceTop, effSliceOp, h1.ev hx, isRef, if_true, effSlice, Option.map_none, Option.map_some, h1.ev hy, Option.isSome_none, Bool.false_and, Bool.false_eq_true, if_false, hu, hs, h2.get _ hm, Nat.zero_add, Nat.le_refl, and_self, Nat.sub_zero, slBounds, hb1, hb3, Option.bind_some, hne, withSt]) k
theorem SL_slice_to {t e e' : TypeId} {x y : Operand} {id n es h : Nat} {rows : List (List AV)} {kk : IntKind} {m : Int} (hd : d < N) (hx : evL G L x = some (.sl id 0 n none)) (hm : (id, AObj.cells e' es true rows) ∈ H) (ht : sliceOf P t = some (e, es)) (hlen : rows.length = n) (hy : evL G L y = some (.s (.int kk m))) (hl : m = h) (hln : h ≤ n) (h0 : 0 < n)
    (k : SL P G B W ops os ((d, .sl id 0 h none) :: L) N ds H Q) : SL P G B W ops (⟨some d, .slice t x none (some y) none, ty, pos, af, none⟩ :: os) L N ds H Q :=
  SL_val _ hd (fun tm σ h1 h2 => by
    obtain ⟨hu, hs⟩ := sliceOf_spec ht
    subst hl hlen
    have hb1 : bound (none : Option AV) rows.length rows.length = some rows.length := rfl
    have hb2 : bound (some (AV.s (.int kk (h : Int)))) rows.length rows.length = some h := by
      unfold bound
      simp only
      rw [if_pos ⟨by omega, by omega⟩]; rfl
    have hb3 : bound (none : Option AV) 0 h = some 0 := rfl
    have hne : ¬ rows.length = 0 := by omega
    unfold eff
    simp only [effSliceTop, effSliceOp, h1.ev hx, isRef, if_true, effSlice, Option.map_none, Option.map_some, h1.ev hy, Option.isSome_none, Bool.false_and, Bool.false_eq_true, if_false, hu, hs, h2.get _ hm, Nat.zero_add, Nat.le_refl, and_self, Nat.sub_zero, slBounds, hb1, hb2, hb3, Option.bind_some, hne, withSt]) k
theorem SL_copy {t tx e e1 e2 : TypeId} {s x : Operand} {es o i n id0 i0 n0 : Nat} {c c0 : Option Nat} {ex ex0 : Bool} {rows rows0 rows' : List (List AV)} {H' : List (Nat × AObj)} (hd : d < N) (hs : evL G L s = some (.sl o i n c)) (hx : evL G L x = some (.sl id0 i0 n0 c0)) (hm0 : (id0, AObj.cells e2 es ex0 rows0) ∈ H) (hm : (o, AObj.cells e1 es ex rows) ∈ H)
    (ht : sliceOf P t = some (e, es)) (hle0 : i0 + n0 ≤ rows0.length) (hle : i + n ≤ rows.length) (hc : ((rows0.drop i0).take n0).all (·.all isCell) = true) (m : Nat) (hmn : min n0 n = m) (hr : rows.take i ++ ((rows0.drop i0).take n0).take m ++ rows.drop (i + m) = rows')
    (hu : Upd H o (.cells e1 es ex rows) (.cells e1 es ex rows') H') (ho : B.next ≤ o ∨ o ∈ W)
    (k : SL P G B W ops os ((d, .s (.int .i64 m)) :: L) N ds H' Q) : SL P G B W ops (⟨some d, .call ⟨.builtin .copy, #[s, x], #[t, tx]⟩, ty, pos, af, none⟩ :: os) L N ds H Q := fun tm σ h1 h2 => by
  refine wpl_op rfl ?_
  have hnl : ((rows0.drop i0).take n0).length = n0 := by rw [List.length_take, List.length_drop]; omega
  have he : eff P ⟨some d, .call ⟨.builtin .copy, #[s, x], #[t, tx]⟩, ty, pos, af, none⟩ (evT G tm) σ = some (.val (.s (.int .i64 m)), σ.set o (.cells e1 es ex rows')) := by
    obtain ⟨hu1, hs1⟩ := sliceOf_spec ht
    have hsrc : srcRows es (.sl id0 i0 n0 c0) σ = some ((rows0.drop i0).take n0) := by
      simp only [srcRows, h2.get _ hm0]
      rw [if_pos ⟨trivial, hle0⟩]
    have h0 : (#[t, tx] : Array TypeId)[0]? = some t := rfl
    unfold eff
    simp only [effCall, effBuiltin, List.map_cons, List.map_nil, h1.ev hs, h1.ev hx, effCopy, h0, hu1, hs1, hsrc, h2.get _ hm]
    rw [if_pos ⟨trivial, hle, hc, .inl rfl⟩, hnl, hmn, hr]
  rw [he]
  exact wpn_val (k _ _ (h1.set hd _) (h2.set hu ho))
end
end Go.Ab
/- Symbolic steps: drawn regions in any planned order, with looks that must stand. -/
namespace Go.Ab
variable {P : Program} {G : Gl}
def SJ (P : Program) (G : Gl) (B0 : AS) (W0 : List Nat) (B : AS) (base : Nat) (l : List Oper) (r : List (Nat × List Nat)) (W : List Nat) (RC : List (Nat × Nat)) (L : List (Nat × AV)) (N : Nat) (H : List (Nat × AObj)) (Q : AEx → Cfg → Prop) : Prop :=
  DC B0 B base l.length → (∀ id ∈ W, (B0.next ≤ id ∨ id ∈ W0) ∧ ∀ p ∈ r, id ≠ base + p.1) → SD P G B W base l.toArray r L N H RC (DFin P G B0 W0 B N Q)
section
variable {B0 B : AS} {W0 W : List Nat} {base : Nat} {l : List Oper} {r : List (Nat × List Nat)} {RC : List (Nat × Nat)} {L : List (Nat × AV)} {N : Nat} {H : List (Nat × AObj)} {Q : AEx → Cfg → Prop}
theorem SC_drawP {rd : Option Nat} {id : Nat} (pl : List (Nat × List Nat)) (hok : (drawnOk l.toArray && (plan l.toArray == pl)) = true) (h : ∀ B base, B0.next ≤ B.next → (∀ p ∈ H, p.1 < base) → base ≤ B.next → SJ P G B0 W0 B base l pl [] [] L N H Q) : SC P G B0 W0 rd (.region id l.toArray true) L N [] H Q := by
  rw [Bool.and_eq_true, beq_iff_eq] at hok
  exact SC_drawn hok.1 hok.2 fun B' base h1 h2 h3 h4 => h B' base (DC.le ⟨h1, h2, h3⟩) h4 (by omega) ⟨h1, h2, h3⟩ (fun id hid => by cases hid)
theorem SJ_nil (h : ∀ tm σ, En tm N L → He B0 W0 σ H [] → Q .normal ⟨tm, [], σ⟩) : SJ P G B0 W0 B base l [] W RC L N H Q := fun _ hW =>
  SD_nil fun tm σ h1 h2 => ⟨W, tm, σ, L, H, rfl, h1, h2, fun id hid => (hW id hid).1, h⟩
def JNext (P : Program) (G : Gl) (B0 : AS) (W0 : List Nat) (B : AS) (base : Nat) (l : List Oper) (r : List (Nat × List Nat)) (W : List Nat) (RC : List (Nat × Nat)) (N : Nat) (Q : AEx → Cfg → Prop) (s : Cfg) : Prop :=
  ∃ tm' σ' L' H', s = ⟨tm', [], σ'⟩ ∧ En tm' N L' ∧ He B W σ' H' [] ∧ SJ P G B0 W0 B base l r W RC L' N H' Q
theorem SJ_op {i : Nat} {o : Oper} (hi : l[i]? = some o) (hc : (cls o == 3) = false) (hrc : (RC.all fun p => p.1 != i) = true) (h : SL P G B W l.toArray [o] L N [] H (JNext P G B0 W0 B base l r W RC N Q)) (hlt : LateL G L o := by first | exact .inl rfl | exact .inr ⟨_, _, rfl, rfl, rfl⟩) : SJ P G B0 W0 B base l ((i, []) :: r) W RC L N H Q := fun hd hW =>
  SD_op W RC (by simpa using hi) hc (fun _ h => h) (fun p hp => by simpa using List.all_eq_true.1 hrc p hp) (fun k hk => by cases hk) (.inl rfl) (SL_mono h fun s ⟨tm, σ, L', H', e, a, b, c⟩ => ⟨tm, σ, L', H', e, a, b, c hd fun id hid => ⟨(hW id hid).1, fun p hp => (hW id hid).2 p (List.mem_cons_of_mem _ hp)⟩⟩) hlt
theorem SJ_look {i : Nat} {o : Oper} {a : Operand} {v : AV} (id : Nat) (hi : l[i]? = some o) (ha : lookAt o = some a) (hv : evL G L a = some v) (hid : idOf v = some id) (hnW : id ∉ W) (hlB : id < base) (hbB : base ≤ B.next) (hc : (cls o == 3) = false) (hrc : (RC.all fun p => p.1 != i) = true) (h : SL P G B W l.toArray [o] L N [] H (JNext P G B0 W0 B base l r W ((i, id) :: RC) N Q)) (hlt : LateL G L o := by first | exact .inl rfl | exact .inr ⟨_, _, rfl, rfl, rfl⟩) :
    SJ P G B0 W0 B base l ((i, []) :: r) W RC L N H Q := fun hd hW =>
  SD_op W ((i, id) :: RC) (by simpa using hi) hc (fun _ h => h) (fun p hp => by simpa using List.all_eq_true.1 hrc p hp) (fun k hk => by cases hk) (.inr ⟨a, v, id, ha, hv, hid, hnW, by omega, rfl⟩) (SL_mono h fun s ⟨tm, σ, L', H', e, a, b, c⟩ => ⟨tm, σ, L', H', e, a, b, c hd fun id hid => ⟨(hW id hid).1, fun p hp => (hW id hid).2 p (List.mem_cons_of_mem _ hp)⟩⟩) hlt
theorem SJ_turn {i : Nat} {fl : List Nat} {o : Oper} (js : List Nat) (hj0 : ∀ j ∈ js, B0.next ≤ j ∨ j ∈ W0) (hjb : ∀ j ∈ js, j < base) (hbB : base ≤ B.next) (hi : l[i]? = some o) (hc : (cls o == 3) = false) (hrc : (RC.all fun p => p.1 != i) = true) (hfl : ∀ k ∈ fl, ∃ id, (k, id) ∈ RC ∧ id ∉ js ++ W ∧ id < base)
    (h : SL P G B (js ++ W) l.toArray [o] L N [] H (JNext P G B0 W0 B base l r (js ++ W) RC N Q)) (hlt : LateL G L o := by first | exact .inl rfl | exact .inr ⟨_, _, rfl, rfl, rfl⟩) : SJ P G B0 W0 B base l ((i, fl) :: r) W RC L N H Q := fun hd hW =>
  SD_op (js ++ W) RC (by simpa using hi) hc (fun _ h => List.mem_append_right _ h) (fun p hp => by simpa using List.all_eq_true.1 hrc p hp) (fun k hk => by
    obtain ⟨id, h1, h2, h3⟩ := hfl k hk
    exact ⟨id, h1, h2, by omega⟩) (.inl rfl) (SL_mono h fun s ⟨tm, σ, L', H', e, a, b, c⟩ => ⟨tm, σ, L', H', e, a, b, c hd fun id hid => by
      rcases List.mem_append.1 hid with hid | hid
      · exact ⟨hj0 id hid, fun p hp e => by have := hjb id hid; omega⟩
      · exact ⟨(hW id hid).1, fun p hp => (hW id hid).2 p (List.mem_cons_of_mem _ hp)⟩⟩) hlt
theorem SJ_new {i d : Nat} {op : Op} {ty : TypeId} {pos : String} {af : Array Edge} (ob : AObj) (v : Nat → AV) (hi : l[i]? = some ⟨some d, op, ty, pos, af, none⟩) (hc : (cls ⟨some d, op, ty, pos, af, none⟩ == 3) = true) (hd : d < N) (hrc : (RC.all fun p => p.1 != i) = true) (hr : (r.all fun p => p.1 != i) = true)
    (he : ∀ tm σ, En tm N L → eff P ⟨some d, op, ty, pos, af, none⟩ (evT G tm) σ = some (.val (v σ.newId), σ.push ob))
    (h : ∀ id, B0.next ≤ id → SJ P G B0 W0 B base l r (id :: W) RC ((d, v id) :: L) N ((id, ob) :: H) Q) : SJ P G B0 W0 B base l ((i, []) :: r) W RC L N H Q := fun hdc hW => by
  have hil : i < l.length := (List.getElem?_eq_some_iff.1 hi).1
  have hlt : base + i < B.next := by have := hdc.hi; omega
  have hnW : base + i ∉ W := fun hm => (hW _ hm).2 (i, []) List.mem_cons_self rfl
  have hfree := hdc.free (base + i) (Nat.le_add_right _ _)
  intro tm σ rc hE hH hR
  have hnH : base + i ∉ H.map (·.1) := fun hm => by
    obtain ⟨p, hp, hpe⟩ := List.mem_map.1 hm
    have := hH.keep (base + i) hlt hnW
    rw [hfree] at this
    exact no_obj (hH.get _ hp) hpe this
  exact SD_new ob v (by simpa using hi) hc hd (fun p hp => by simpa using List.all_eq_true.1 hrc p hp) hnW hnH hlt hfree he (h (base + i) (Nat.le_trans hdc.lo (Nat.le_add_right _ _)) hdc fun id hid => by
    rcases List.mem_cons.1 hid with rfl | hid
    · refine ⟨.inl (Nat.le_trans hdc.lo (Nat.le_add_right _ _)), fun p hp e => ?_⟩
      have := List.all_eq_true.1 hr p hp
      simp at this
      omega
    · exact ⟨(hW id hid).1, fun p hp => (hW id hid).2 p (List.mem_cons_of_mem _ hp)⟩) tm σ rc hE hH hR
theorem SJ_alloc {i d : Nat} {t : TypeId} {cs : List AV} {ty : TypeId} {pos : String} {af : Array Edge} (hi : l[i]? = some ⟨some d, .alloc t, ty, pos, af, none⟩) (hd : d < N) (hrc : (RC.all fun p => p.1 != i) = true) (hr : (r.all fun p => p.1 != i) = true) (ht : zeroOf P t = some cs)
    (h : ∀ id, B0.next ≤ id → SJ P G B0 W0 B base l r (id :: W) RC ((d, .ptr id 0 0) :: L) N ((id, .cells t cs.length true [cs]) :: H) Q) : SJ P G B0 W0 B base l ((i, []) :: r) W RC L N H Q :=
  SJ_new _ (fun id => .ptr id 0 0) hi rfl hd hrc hr (fun tm σ h1 => by
    unfold zeroOf at ht
    simp only [Option.map_eq_some_iff] at ht
    obtain ⟨z, hz, rfl⟩ := ht
    unfold eff
    simp only [effAlloc, hz, Option.map_some, effBox]) h
theorem SJ_makeSlice {i d : Nat} {t e : TypeId} {lo c : Operand} {es b : Nat} {z : List AV} {kk kk' : IntKind} {n m : Int} {ty : TypeId} {pos : String} {af : Array Edge} (hi : l[i]? = some ⟨some d, .makeSlice t lo c, ty, pos, af, none⟩) (hd : d < N) (hrc : (RC.all fun p => p.1 != i) = true) (hr : (r.all fun p => p.1 != i) = true)
    (hl : evL G L lo = some (.s (.int kk n))) (hc : evL G L c = some (.s (.int kk' m))) (ht : elOf P t = some (e, es, b, z)) (h0 : 0 ≤ n) (hnm : n ≤ m) (hm : m < 2 ^ 47) (hb : b * m ≤ 2 ^ 48)
    (h : ∀ id, B0.next ≤ id → SJ P G B0 W0 B base l r (id :: W) RC ((d, .sl id 0 n.toNat none) :: L) N ((id, .cells e es true (List.replicate m.toNat z)) :: H) Q) : SJ P G B0 W0 B base l ((i, []) :: r) W RC L N H Q :=
  SJ_new _ (fun id => .sl id 0 n.toNat none) hi rfl hd hrc hr (fun tm σ h1 => by
    obtain ⟨hu, hs, info, zv, hif, hz, hsz, hn, hbb, hzz⟩ := elOf_spec ht
    unfold eff
    simp only [effMakeSlice, h1.ev hl, h1.ev hc, hu, hif, hz]
    rw [if_pos ⟨hsz, h0, hnm, hm, by rw [hbb]; exact hb⟩, hn, hzz]) h
theorem SJ_buildSlice {i d : Nat} {t e : TypeId} {len es b : Nat} {z : List AV} {ps : Array (Nat × Operand)} {vs : List (Nat × AV)} {rows : List (List AV)} {ty : TypeId} {pos : String} {af : Array Edge} (hi : l[i]? = some ⟨some d, .buildSlice t len ps, ty, pos, af, none⟩) (hd : d < N) (hrc : (RC.all fun p => p.1 != i) = true) (hr : (r.all fun p => p.1 != i) = true)
    (hx : partsL G L ps.toList = some vs) (ht : elOf P t = some (e, es, b, z)) (hb : len * es ≤ 2 ^ 24) (hrow : setRows es (List.replicate len z) vs = some rows)
    (h : ∀ id, B0.next ≤ id → SJ P G B0 W0 B base l r (id :: W) RC ((d, .sl id 0 len none) :: L) N ((id, .cells e es true rows) :: H) Q) : SJ P G B0 W0 B base l ((i, []) :: r) W RC L N H Q :=
  SJ_new _ (fun id => .sl id 0 len none) hi rfl hd hrc hr (fun tm σ h1 => by
    obtain ⟨hu, hs, info, zv, hif, hz, hsz, hn, hbb, hzz⟩ := elOf_spec ht
    subst hn hzz
    unfold eff
    simp only [effBuildSlice, h1.parts hx, hu, hif, hz]
    rw [if_pos ⟨hsz, hb⟩, hrow]) h
end
end Go.Ab
