/- A region that draws its order: whatever order is drawn, the run is the same. -/
import Derived.Test.YtldckcopeiginaaAbV
namespace Go.Ab
variable {P : Program} {G : Gl} {N : Nat} {ex : Runner} {base : Nat} {ops : Array Oper}

theorem there_stands {σ : AS} {sn : Seen} (h : sn.there σ) : sn.stands σ = true := by
  cases sn with
  | all id n => obtain ⟨ob, hob, _⟩ := h; simp [Seen.stands, hob]
  | size id es => obtain ⟨n, e, x, rows, hob, _⟩ := h; simp [Seen.stands, hob]
theorem there_put {σ : AS} {sn : Seen} (h : sn.there σ) {k : Nat} {ob : AObj} (hk : σ.objs.get k = none) (n' : Nat) (s' : Option Nat) : sn.stands ⟨putObj σ.objs k ob, n', s'⟩ = true := by
  cases sn with
  | all id n =>
    obtain ⟨o, hob, _⟩ := h
    have hne : k ≠ id := fun e => by subst e; rw [hk] at hob; cases hob
    simp [Seen.stands, putObj_get, hne, hob]
  | size id es =>
    obtain ⟨n, e, x, rows, hob, _⟩ := h
    have hne : k ≠ id := fun e => by subst e; rw [hk] at hob; cases hob
    simp [Seen.stands, putObj_get, hne, hob]

theorem swap_core (hx : Acting G ex) {p i : Nat} {x y : Oper} {tm : Tm} {σ σ1 σ2 : AS} {v1 v2 : AV} {rc : Rec} {flp fl : List Nat} (hpi : p ≠ i) (hi : i < ops.size) (hb : base + ops.size ≤ σ.next) (hslot : σ.slot = none)
    (hpair : pairOk ops x y = true) (hflp : cls x ≠ 2 → flp = []) (hfl : cls y ≠ 2 → fl = []) (hin : cls x = 1 → cls y = 2 → p ∈ fl) (hrp : rc p = none)
    (h1 : resX P G ex base ops p x tm σ = some (v1, σ1)) (hst1 : stands rc σ1 flp = true) (h2 : resX P G ex base ops i y (put tm x.dst v1) σ1 = some (v2, σ2)) (hst2 : stands (rc.upd p (noted G ops x tm σ)) σ2 fl = true) :
    ∃ τ, resX P G ex base ops i y tm σ = some (v2, τ) ∧ stands rc τ fl = true ∧ resX P G ex base ops p x (put tm y.dst v2) τ = some (v1, σ2) ∧ stands (rc.upd i (noted G ops y tm σ)) σ2 flp = true ∧
      noted G ops y (put tm x.dst v1) σ1 = noted G ops y tm σ ∧ noted G ops x (put tm y.dst v2) τ = noted G ops x tm σ := by
  obtain ⟨hap, hcls⟩ := pairOk_spec hpair
  obtain ⟨a1, a2, a3⟩ := Oper.apart_spec hap
  rw [resX_put a1] at h2
  simp only [resX_put a3, noted_put a1, noted_put a3]
  have hs2 := resX_slot h2
  by_cases c0 : cls x = 0
  · obtain ⟨rfl, hall⟩ := resX0 c0 hslot h1
    refine ⟨σ2, h2, stands_upd_none hrp hst2, hall σ2 hs2, ?_, rfl, ?_⟩
    · rw [hflp (by omega)]; rfl
    · rw [noted_none (by omega), noted_none (by omega)]
  · by_cases c1 : cls x = 1
    · obtain ⟨rfl, hall⟩ := resX1 c1 hslot h1
      have hkey : ∀ sn, noted G ops x tm σ1 = some sn → sn.stands σ2 = true := by
        intro sn hsn
        have ht := noted_there hslot h1 hsn
        rcases cls_lt y with c | c | c | c
        · obtain ⟨rfl, _⟩ := resX0 c hslot h2
          exact there_stands ht
        · obtain ⟨rfl, _⟩ := resX1 c hslot h2
          exact there_stands ht
        · have hp := hin c1 c
          unfold stands at hst2
          rw [List.all_eq_true] at hst2
          have := hst2 p hp
          simp only [Rec.upd, if_true, hsn] at this
          exact this
        · obtain ⟨hk, hf⟩ := resX3 c h2
          rcases hf with ⟨ob, rfl, _⟩ | ⟨rfl, _⟩
          · exact there_put ht hk _ _
          · have := there_stands ht
            cases sn <;> exact this
      obtain ⟨cs, k1, k2, k3⟩ := resX_acts (N := 0) hx h2 (Nat.zero_le _) (fun _ => Nat.zero_le _)
      refine ⟨σ2, h2, stands_upd_none hrp hst2, hall σ2 hs2 (fun sn hsn => ?_), ?_, rfl, ?_⟩
      · have := hkey sn hsn
        rw [k2] at this ⊢
        exact again (noted_there hslot h1 hsn) this
      · rw [hflp (by omega)]; rfl
      · exact noted_again hkey (fun hn => noted_none_le c1 hslot h1 hn)
    · have hs1 := resX_slot h1
      have hy : cls y = 0 ∨ cls y = 3 := by omega
      rcases hy with c | c
      · obtain ⟨rfl, hall⟩ := resX0 c hs1 h2
        refine ⟨σ, hall σ hslot, by rw [hfl (by omega)]; rfl, h1, ?_, ?_, rfl⟩
        · rw [noted_none (by omega)]; exact stands_upd hst1
        · rw [noted_none (by omega), noted_none (by omega)]
      · obtain ⟨hk, hf⟩ := resX3 c h2
        have hkσ : σ.objs.get (base + i) = none := by
          cases hg : σ.objs.get (base + i) with
          | none => rfl
          | some q =>
            obtain ⟨n, o⟩ := q
            obtain ⟨cs, k1, k2, k3⟩ := resX_acts (N := 0) hx h1 (Nat.zero_le _) (fun _ => Nat.zero_le _)
            obtain ⟨m, o', h3, _⟩ := objs_run hg cs
            rw [← k2, hk] at h3; cases h3
        have hfl0 : stands rc = fun τ l => stands rc τ l := rfl
        rcases hf with ⟨ob, rfl, hall⟩ | ⟨rfl, hall⟩
        · refine ⟨⟨putObj σ.objs (base + i) ob, σ.next, none⟩, hall σ hkσ, by rw [hfl (by omega)]; rfl, ?_, ?_, ?_, ?_⟩
          · -- the other one beside the new object
            by_cases c3 : cls x = 3
            · obtain ⟨hk1, hf1⟩ := resX3 c3 h1
              have hne : base + i ≠ base + p := by omega
              have hk1' : (⟨putObj σ.objs (base + i) ob, σ.next, none⟩ : AS).objs.get (base + p) = none := by
                simp only [putObj_get, hne, if_false]; exact hk1
              rcases hf1 with ⟨ob1, rfl, hall1⟩ | ⟨rfl, hall1⟩
              · rw [hall1 _ hk1']
                simp only
                rw [putObj_comm _ _ _ hne]
              · rw [hall1 _ hk1']
            · obtain ⟨cs, k1, k2, k3⟩ := resX_acts (N := σ.next) hx h1 (Nat.le_refl _) (fun h => absurd (by simpa using h) c3)
              have hlt : base + i < σ.next := by omega
              have hle : Le σ.next σ ⟨putObj σ.objs (base + i) ob, σ.next, none⟩ := by
                refine ⟨rfl, hslot.symm, fun id q hq => ?_, fun id hid => ?_, Nat.le_refl _, fun j hj => by rw [hslot] at hj; cases hj⟩
                · have hne : base + i ≠ id := fun e => by rw [← e, hkσ] at hq; cases hq
                  simp only [putObj_get, hne, if_false]; exact hq
                · have hne : base + i ≠ id := by omega
                  simp only [putObj_get, hne, if_false]
              rw [k3 _ hle]
              have hcomm := comm_run (k := base + i) (ob := ob) cs σ k1 hlt (Nat.le_refl _) (fun j hj => by rw [hslot] at hj; cases hj) (by rw [← k2]; exact hk)
              rw [hslot] at hcomm
              rw [hcomm, ← k2, hs1]
          · rw [noted_none (by omega)]
            exact stands_upd (stands_put hk hst1)
          · rw [noted_none (by omega), noted_none (by omega)]
          · rw [noted_none (by omega), noted_none (by omega)]
        · refine ⟨⟨σ.objs, σ.next, none⟩, hall σ hkσ, by rw [hfl (by omega)]; rfl, ?_, ?_, ?_, ?_⟩
          · have e1 : (⟨σ.objs, σ.next, none⟩ : AS) = σ := by obtain ⟨a, b, c⟩ := σ; simp only at hslot; subst hslot; rfl
            have e2 : (⟨σ1.objs, σ1.next, none⟩ : AS) = σ1 := by obtain ⟨a, b, c⟩ := σ1; simp only at hs1; subst hs1; rfl
            rw [e1, e2]; exact h1
          · have e2 : (⟨σ1.objs, σ1.next, none⟩ : AS) = σ1 := by obtain ⟨a, b, c⟩ := σ1; simp only at hs1; subst hs1; rfl
            rw [noted_none (by omega), e2]
            exact stands_upd hst1
          · rw [noted_none (by omega), noted_none (by omega)]
          · rw [noted_none (by omega), noted_none (by omega)]

/-- Two neighbours of a checked run. -/
theorem swapD (hx : Acting G ex) {p i : Nat} {x y : Oper} {flp fl : List Nat} {post : List (Nat × List Nat)} {tm : Tm} {defs : List Nat} {σ : AS} {rc : Rec} {s' : Cfg} (hp : ops[p]? = some x) (hy : ops[i]? = some y) (hpi : p ≠ i)
    (hb : base + ops.size ≤ σ.next) (hslot : σ.slot = none) (hpair : pairOk ops x y = true) (hflp : cls x ≠ 2 → flp = []) (hfl : cls y ≠ 2 → fl = []) (hin : cls x = 1 → cls y = 2 → p ∈ fl) (hrp : rc p = none)
    (h : runD P G ex base ops ((p, flp) :: (i, fl) :: post) ⟨tm, defs, σ⟩ rc = some s') : runD P G ex base ops ((i, fl) :: (p, flp) :: post) ⟨tm, defs, σ⟩ rc = some s' := by
  have hi : i < ops.size := (Array.getElem?_eq_some_iff.1 hy).1
  simp only [runD, stepD, hp] at h
  cases h1 : resX P G ex base ops p x tm σ with
  | none => rw [h1] at h; cases h
  | some r1 =>
    obtain ⟨v1, σ1⟩ := r1
    rw [h1] at h
    simp only at h
    by_cases hst1 : stands rc σ1 flp = true
    · rw [if_pos hst1] at h
      simp only [hy] at h
      cases h2 : resX P G ex base ops i y (put tm x.dst v1) σ1 with
      | none => rw [h2] at h; cases h
      | some r2 =>
        obtain ⟨v2, σ2⟩ := r2
        rw [h2] at h
        simp only at h
        by_cases hst2 : stands (rc.upd p (noted G ops x tm σ)) σ2 fl = true
        · rw [show (if Region.wanted x (ayielded ops tm) = true then readOf x (evT G tm) σ else none) = noted G ops x tm σ from rfl, if_pos hst2] at h
          obtain ⟨τ, q1, q2, q3, q4, q5, q6⟩ := swap_core hx hpi hi hb hslot hpair hflp hfl hin hrp h1 hst1 h2 hst2
          obtain ⟨hap, _⟩ := pairOk_spec hpair
          obtain ⟨a1, a2, a3⟩ := Oper.apart_spec hap
          simp only [runD, stepD, hy, q1]
          rw [if_pos q2]
          simp only [hp, q3]
          rw [show (if Region.wanted y (ayielded ops tm) = true then readOf y (evT G tm) σ else none) = noted G ops y tm σ from rfl, if_pos q4]
          simp only
          rw [show (if Region.wanted x (ayielded ops (put tm y.dst v2)) = true then readOf x (evT G (put tm y.dst v2)) τ else none) = noted G ops x (put tm y.dst v2) τ from rfl, q6]
          simp only at h
          rw [show (if Region.wanted y (ayielded ops (put tm x.dst v1)) = true then readOf y (evT G (put tm x.dst v1)) σ1 else none) = noted G ops y (put tm x.dst v1) σ1 from rfl, q5] at h
          rw [put_comm tm v2 v1 (fun d hd he => a2 d he hd), upd_comm rc _ _ (fun e => hpi e.symm)]
          exact h
        · rw [show (if Region.wanted x (ayielded ops tm) = true then readOf x (evT G tm) σ else none) = noted G ops x tm σ from rfl, if_neg hst2] at h
          cases h
    · rw [if_neg hst1] at h
      cases h

end Go.Ab
