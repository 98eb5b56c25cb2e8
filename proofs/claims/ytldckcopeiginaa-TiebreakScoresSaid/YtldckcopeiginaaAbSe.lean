/- Symbolic steps: names that differ, heaps in another order, functions and rounds that turn old objects. -/
import Derived.Test.YtldckcopeiginaaAbSd
namespace Go.Ab
variable {P : Program} {G : Gl}

theorem SubH.of_mem : ∀ {H' H : List (Nat × AObj)}, (∀ p ∈ H', p ∈ H) → SubH H' H
  | [], _, _ => trivial
  | p :: r, H, h => ⟨h p List.mem_cons_self, SubH.of_mem fun q hq => h q (List.mem_cons_of_mem _ hq)⟩
theorem SubH.refl (H : List (Nat × AObj)) : SubH H H := .of_mem fun _ h => h
theorem He.perm {B σ : AS} {W : List Nat} {H H' : List (Nat × AObj)} {ds : List Nat} (h : He B W σ H ds) (hp : H.Perm H') : He B W σ H' ds :=
  h.sub (.of_mem fun p hm => hp.symm.subset hm) ((hp.map (·.1)).nodup h.nodup)

section
variable {B : AS} {W : List Nat} {rd : Option Nat} {L : List (Nat × AV)} {N : Nat} {ds : List Nat} {H : List (Nat × AObj)}
theorem SC_nd {c : Code} {Q : AEx → Cfg → Prop} (k : (H.map (·.1)).Nodup → SC P G B W rd c L N ds H Q) : SC P G B W rd c L N ds H Q := fun tm σ h1 h2 => k h2.nodup tm σ h1 h2
theorem SC_perm {c : Code} {H' : List (Nat × AObj)} {Q : AEx → Cfg → Prop} (hp : H.Perm H') (k : SC P G B W rd c L N ds H' Q) : SC P G B W rd c L N ds H Q := fun tm σ h1 h2 => k tm σ h1 (h2.perm hp)
theorem SC_drop {c : Code} {H' : List (Nat × AObj)} {Q : AEx → Cfg → Prop} (hs : SubH H' H) (hn : (H'.map (·.1)).Nodup) (k : SC P G B W rd c L N ds H' Q) : SC P G B W rd c L N ds H Q := fun tm σ h1 h2 => k tm σ h1 (h2.sub hs hn)
end

section rules
variable {B : AS} {W : List Nat} {ops : Array Oper} {os : List Oper} {L : List (Nat × AV)} {N : Nat} {ds : List Nat} {H : List (Nat × AObj)} {Q : Cfg → Prop} {ty : TypeId} {pos : String} {af : Array Edge} {d : Nat}
theorem SL_nd (k : (H.map (·.1)).Nodup → SL P G B W ops os L N ds H Q) : SL P G B W ops os L N ds H Q := fun tm σ h1 h2 => k h2.nodup tm σ h1 h2
theorem SL_perm {H' : List (Nat × AObj)} (hp : H.Perm H') (k : SL P G B W ops os L N ds H' Q) : SL P G B W ops os L N ds H Q := fun tm σ h1 h2 => k tm σ h1 (h2.perm hp)
theorem SL_drop {H' : List (Nat × AObj)} (hs : SubH H' H) (hn : (H'.map (·.1)).Nodup) (k : SL P G B W ops os L N ds H' Q) : SL P G B W ops os L N ds H Q := fun tm σ h1 h2 => k tm σ h1 (h2.sub hs hn)
theorem keys_apart {Hr H0 : List (Nat × AObj)} (h : ((Hr ++ H0).map (·.1)).Nodup) {M : List Nat} (hM : ∀ id ∈ M, id ∈ H0.map (·.1)) : ∀ p ∈ Hr, p.1 ∉ M := fun p hp hm => by
  rw [List.map_append, List.nodup_append] at h
  exact h.2.2 _ (List.mem_map.2 ⟨p, hp, rfl⟩) _ (hM _ hm) rfl
/-- A round is called for; the rest of the heap stands. -/
theorem SL_yield' {f : Operand} {xs : List Operand} {ats : Array TypeId} {l : Nat} {vs : List AV} {M : List Nat} {R : AV → List (Nat × AObj) → Prop} {H0 Hr : List (Nat × AObj)} (hd : d < N) (hf : evL G L f = some (.yld l)) (hx : evsL G L xs = some vs) (hc : RdW P G l vs M H0 R)
    (hM : ∀ id ∈ M, (B.next ≤ id ∨ id ∈ W) ∧ id ∈ H0.map (·.1)) (k : ∀ v Hn, R v Hn → SL P G B W ops os ((d, v) :: L) N ds (Hr ++ Hn) Q) :
    SL P G B W ops (⟨some d, .call ⟨.value f, xs.toArray, ats⟩, ty, pos, af, none⟩ :: os) L N ds (Hr ++ H0) Q := by
  refine SL_nd fun hnd => ?_
  have hap := keys_apart hnd (fun id hid => (hM id hid).2)
  rw [List.map_append, List.nodup_append] at hnd
  refine SL_yield hd hf hx hc (.of_mem fun p hp => List.mem_append_right _ hp) hnd.2.1 (fun id hid => ⟨(hM id hid).1, ?_⟩) (.of_mem fun p hp => List.mem_append_left _ hp) hnd.1 hap fun v Hn hR => ?_
  · rw [List.map_append]; exact List.mem_append_right _ (hM id hid).2
  · exact SL_perm List.perm_append_comm (k v Hn hR)
/-- Bools compared. -/
theorem SL_bneq {t yt : TypeId} {x y : Operand} {a b : Bool} (hd : d < N) (hx : evL G L x = some (.s (.bool a))) (hy : evL G L y = some (.s (.bool b)))
    (he : evalP P (do eqGuard .neq t x y (.bool a) (.bool b); binOp .neq t (.bool a) (.bool b)) = some (.bool (a != b))) (k : SL P G B W ops os ((d, .s (.bool (a != b))) :: L) N ds H Q) :
    SL P G B W ops (⟨some d, .binOp .neq t x y yt, ty, pos, af, none⟩ :: os) L N ds H Q :=
  SL_val (.s (.bool (a != b))) hd (fun tm σ h1 h2 => by
    unfold eff
    simp only [effBin, h1.ev hx, h1.ev hy, fastBin, he]) k
end rules

/-! ### Functions that turn old objects -/
def PostW (P : Program) (B : AS) (M : List Nat) (fn : Func) (R : AV → List (Nat × AObj) → Prop) (e : AEx) (s : Cfg) : Prop :=
  (e = .normal ∨ e = .ret) ∧ ∃ σ' v, dropDefs s.st s.defs = some σ' ∧ aresults P fn s.tmps σ' = some v ∧ ∃ Hn, He B M σ' Hn [] ∧ (∀ p ∈ Hn, p.1 ∈ M ∨ B.next ≤ p.1) ∧ R v Hn
theorem PostW.intro {B : AS} {M : List Nat} {fn : Func} {R : AV → List (Nat × AObj) → Prop} {e : AEx} {tm : Tm} {N : Nat} {L : List (Nat × AV)} {σ : AS} {H Hn : List (Nat × AObj)} {ds : List Nat} {vs : List AV} (he : e = .normal ∨ e = .ret) (h1 : En tm N L) (h2 : He B M σ H ds) (hr : resL L fn.results.toList = some vs)
    (hs : SubH Hn H) (hn : (Hn.map (·.1)).Nodup) (hB : ∀ p ∈ Hn, p.1 ∈ M ∨ B.next ≤ p.1) (hR : R (tupled vs) Hn) : PostW P B M fn R e ⟨tm, ds, σ⟩ := by
  obtain ⟨σ', h3, h4⟩ := h2.drop
  exact ⟨he, σ', tupled vs, h3, by unfold aresults; rw [h1.res σ' hr]; rfl, Hn, h4.sub hs hn, hB, hR⟩
theorem FnW_body {f : FuncId} {as : List AV} {M : List Nat} {fn : Func} {c : Code} {H : List (Nat × AObj)} {R : AV → List (Nat × AObj) → Prop} (ho : G.orc f as = none) (hf : P.funcs[f]? = some fn) (hb : fn.body = some c) {N : Nat} (hN : max as.length fn.ntmps = N)
    (h : ∀ B, SC P G B M none c (argsL as 0) N [] H (PostW P B M fn R)) : FnW P G f as M H R := fun σ hs => by
  refine wpf_body ho hf hb ?_
  rw [hN]
  refine wpc_mono (h σ _ σ (hN ▸ En.args as fn.ntmps) hs) fun e s ⟨h1, σ', v, h2, h3, Hn, h4, h5, h6⟩ => ?_
  exact ⟨h1, σ', v, h2, h3, Hn, h4, h5, h6⟩

/-- A range over a function; the rest of the heap stands. -/
theorem SC_range' {B : AS} {W : List Nat} {L : List (Nat × AV)} {N : Nat} {ds : List Nat} {H0 Hr Hfin : List (Nat × AObj)} {Q : AEx → Cfg → Prop} {g : Operand} {params : Array Tmp} {assign body : Code} {gv : AV} {f : FuncId} {xs : Nat → List AV} {M0 : List Nat}
    (hg : evL G L g = some gv) (ht : ∀ l, target gv [.yld l] = some (.enter f (xs l))) (hM : ∀ id ∈ M0, (B.next ≤ id ∨ id ∈ W) ∧ id ∈ H0.map (·.1))
    (hc : ∀ tm d l, En tm N L → B.next ≤ l → l ∉ (Hr ++ H0).map (·.1) → FnW P G f (xs l) (l :: M0) ((l, .loop { state := .ready, pending := none, tmps := tm, params, assign, body, defers := d }) :: H0) (fun _ Hn => Hn = (l, .loop { state := .ready, pending := none, tmps := tm, params, assign, body, defers := d }) :: Hfin))
    (hk : ∀ d tm' σ', En tm' N L → He B W σ' (Hr ++ Hfin) (d :: ds) → Q .normal ⟨tm', d :: ds, σ'⟩) :
    SC P G B W none (.rangeFunc g params assign body) L N ds (Hr ++ H0) Q := by
  refine SC_nd fun hnd => ?_
  have hap := keys_apart hnd (fun id hid => (hM id hid).2)
  rw [List.map_append, List.nodup_append] at hnd
  refine SC_range (H0 := H0) (Hr := Hr) (M0 := M0) (R := fun tm d l Hn => l ∉ (Hr ++ H0).map (·.1) ∧ Hn = (l, .loop { state := .ready, pending := none, tmps := tm, params, assign, body, defers := d }) :: Hfin) hg ht (.of_mem fun p hp => List.mem_append_right _ hp) hnd.2.1 (fun id hid => ⟨(hM id hid).1, ?_⟩) (.of_mem fun p hp => List.mem_append_left _ hp) hnd.1 hap
    (fun tm d l h1 _ h3 h4 => ?_) fun tm d l Hn hl hR => ?_
  · rw [List.map_append]; exact List.mem_append_right _ (hM id hid).2
  · intro σ hs
    exact wpf_mono (hc tm d l h1 h3 h4 σ hs) fun v σ' ⟨Hn, a, b, c⟩ => ⟨Hn, a, b, h4, c⟩
  · obtain ⟨_, rfl⟩ := hR
    refine ⟨_, _, .head, by simp, rfl, fun tm' σ' hE hH => ?_⟩
    have h5 := hH.sub (H' := Hfin ++ Hr) (.of_mem fun p hp => List.mem_cons_of_mem _ hp) (by
      have := hH.nodup
      rw [List.cons_append, List.map_cons, List.nodup_cons] at this
      exact this.2)
    exact hk d tm' σ' hE (h5.perm List.perm_append_comm)

/-- A round's body, walked from the record as it stood. -/
theorem Rd_body' {l : Nat} {xs : List AV} {M : List Nat} {H : List (Nat × AObj)} {R : AV → List (Nat × AObj) → Prop} {tm : Tm} {params : Array Tmp} {assign body : Code} {d : Nat} {N : Nat} {L : List (Nat × AV)} (hE : En tm N L) (hlen : xs.length = params.size) (hp : ∀ p ∈ params.toList, p < N) (hl : l ∈ M)
    (h : ∀ B : AS, SC P G B M (some l) assign (zipL params.toList xs L) N [] ((l, .loop { state := .ready, pending := none, tmps := tm, params, assign, body, defers := d }) :: H)
      (Nxt (fun s => ∃ tm1 σ1 L1 H1, s = ⟨tm1, [], σ1⟩ ∧ En tm1 N L1 ∧ He B M σ1 ((l, .loop { state := .ready, pending := none, tmps := tm, params, assign, body, defers := d }) :: H1) [] ∧
        SC P G B M (some l) body L1 N [] ((l, .loop { state := .busy, pending := none, tmps := tm, params, assign, body, defers := d }) :: H1) (RPost B M l R)) (fun _ _ => False))) :
    RdW P G l xs M ((l, .loop { state := .ready, pending := none, tmps := tm, params, assign, body, defers := d }) :: H) R := by
  refine Rd_body (lp := { state := .ready, pending := none, tmps := tm, params, assign, body, defers := d }) hE (by simp) rfl hlen hp fun B => ?_
  intro tm0 σ0 h1 h2
  refine wpc_mono (h B tm0 σ0 h1 h2) fun e s hs => ?_
  cases e with
  | exit _ => exact hs.elim
  | ret => exact hs.elim
  | normal =>
    obtain ⟨tm1, σ1, L1, H1, rfl, h3, h4, h5⟩ := hs
    exact ⟨_, h4.get _ List.mem_cons_self, rfl, h5 tm1 _ h3 (h4.set .head (.inr hl))⟩
end Go.Ab
