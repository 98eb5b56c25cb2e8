/- The swap of two neighbours. -/
import Derived.Test.YtldckcopeiginaaAbU
namespace Go.Ab
variable {P : Program} {G : Gl} {N : Nat} {ex : Runner} {base : Nat} {ops : Array Oper}

def Seen.there (σ : AS) : Seen → Prop
  | .all id n => ∃ ob, σ.objs.get id = some (n, ob) ∧ id < σ.next
  | .size id es => ∃ n e x rows, σ.objs.get id = some (n, .cells e es x rows) ∧ id < σ.next

theorem seenAll_there {σ : AS} {a : AV} {id : Nat} {o : AObj} (ha : idOf a = some id) (hg : σ.get id = some o) {sn : Seen} (h : seenAll σ a = some sn) : sn.there σ := by
  obtain ⟨n, hn⟩ := AS.objs_of_get hg
  simp only [seenAll, ha, hn] at h
  cases h
  exact ⟨o, hn, AS.lt_of_get hg⟩

theorem read_there {o : Oper} {ev : Operand → AV} {σ : AS} {r : ANext × AS} (he : eff P o ev σ = some r) {sn : Seen} (hsn : readOf o ev σ = some sn) : sn.there σ := by
  unfold readOf at hsn
  cases ho : o.op <;> rw [ho] at hsn <;> simp only at hsn <;> try (cases hsn; done)
  case load t a =>
    unfold eff at he
    rw [ho] at he
    simp only [withSt, Option.map_eq_some_iff] at he
    obtain ⟨v, hv, _⟩ := he
    cases ha : ev a <;> rw [ha] at hv hsn <;> simp only [effLoad] at hv <;> try (cases hv; done)
    · rename_i id i f
      simp only [Option.bind_eq_some_iff] at hv
      obtain ⟨rows, hrows, _⟩ := hv
      unfold AS.rows at hrows
      split at hrows
      · rename_i e es x rws hg
        exact seenAll_there rfl hg hsn
      · cases hrows
    · simp [seenAll, idOf] at hsn
  case indexAddr t x ix =>
    unfold eff at he
    rw [ho] at he
    simp only [withSt, Option.map_eq_some_iff] at he
    obtain ⟨v, hv, _⟩ := he
    cases hx : ev x <;> rw [hx] at hsn hv <;> try (simp [seenSl] at hsn; done)
    rename_i id i n cap
    unfold effIndexAddr at hv
    split at hv
    · split at hv
      · simp only at hv
        split at hv
        · rename_i e es xx rows hg
          obtain ⟨m, hm⟩ := AS.objs_of_get hg
          simp only [seenSl, hm] at hsn
          cases hsn
          exact ⟨m, e, xx, rows, hm, AS.lt_of_get hg⟩
        · cases hv
      · cases hv
    · split at hv
      · split at hv
        · cases hv
        · cases hv
      · cases hv
    · cases hv
  case slice t x lo hi mx =>
    unfold eff at he
    rw [ho] at he
    simp only [effSliceOp] at he
    cases hx : ev x <;> rw [hx] at hsn he <;> try (simp [seenAll, idOf] at hsn; done)
    · simp only [isRef, if_true, withSt, Option.map_eq_some_iff] at he
      obtain ⟨v, hv, _⟩ := he
      unfold effSlice at hv
      split at hv
      · cases hv
      · split at hv
        · split at hv <;> cases hv
        · cases hv
    · rename_i id i n cap
      simp only [isRef, if_true, withSt, Option.map_eq_some_iff] at he
      obtain ⟨v, hv, _⟩ := he
      unfold effSlice at hv
      split at hv
      · cases hv
      · split at hv
        · split at hv
          · simp only at hv
            split at hv
            · rename_i hg
              exact seenAll_there rfl hg hsn
            · cases hv
          · cases hv
        · cases hv

theorem noted_there {i : Nat} {o : Oper} {tm : Tm} {σ σ₁ : AS} {v : AV} (hs : σ.slot = none) (h : resX P G ex base ops i o tm σ = some (v, σ₁)) {sn : Seen} (hn : noted G ops o tm σ = some sn) : sn.there σ := by
  by_cases h1 : cls o = 1
  · unfold noted at hn
    split at hn
    · rename_i hw
      obtain ⟨objs, next, slot⟩ := σ
      simp only at hs; subst hs
      rw [resX_plain (by omega)] at h
      simp only [resO] at h
      rw [if_pos hw] at h
      cases he : eff P o (evT G tm) ⟨objs, next, none⟩ with
      | none => rw [he] at h; cases h
      | some r => exact read_there he hn
    · cases hn
  · rw [noted_none h1] at hn; cases hn

/-- What is there and stands is as it was, and is seen again alike. -/
theorem again {σ : AS} {cs : List Ac} {sn : Seen} (ht : sn.there σ) (hst : sn.stands (runA cs σ) = true) : sn.fresh σ (runA cs σ) := by
  have hnext := next_run σ cs
  cases sn with
  | all id n =>
    obtain ⟨ob, hob, hlt⟩ := ht
    obtain ⟨m, o', h1, h2, h3⟩ := objs_run hob cs
    simp only [Seen.stands, h1, beq_iff_eq] at hst
    have := h3 hst
    subst this
    simp only [Seen.fresh]
    rw [AS.get_of_objs (by omega) h1, AS.get_of_objs hlt hob]
  | size id es =>
    obtain ⟨n, e, x, rows, hob, hlt⟩ := ht
    simp only [Seen.stands] at hst
    split at hst
    · rename_i m e' es' x' rows' hg
      have := beq_iff_eq.1 hst
      subst this
      exact ⟨e', x', rows', AS.get_of_objs (by omega) hg⟩
    · cases hst

theorem read_again {o : Oper} {ev : Operand → AV} {σ τ : AS} {sn : Seen} (h : readOf o ev σ = some sn) (hst : sn.stands τ = true) : readOf o ev τ = some sn := by
  unfold readOf at h ⊢
  have all : ∀ a, seenAll σ a = some sn → seenAll τ a = some sn := by
    intro a ha
    unfold seenAll at ha ⊢
    split at ha
    · split at ha
      · cases ha
        simp only [Seen.stands] at hst
        split at hst
        · rename_i m _ hg
          simp only [beq_iff_eq] at hst
          simp only [hst]
        · cases hst
      · cases ha
    · cases ha
  have size : ∀ a, seenSl σ a = some sn → seenSl τ a = some sn := by
    intro a ha
    unfold seenSl at ha ⊢
    split at ha
    · split at ha
      · cases ha
        simp only [Seen.stands] at hst
        split at hst
        · rename_i hg
          simp only [beq_iff_eq] at hst
          simp only [hst]
        · cases hst
      · cases ha
    · cases ha
  cases ho : o.op <;> rw [ho] at h <;> simp only at h ⊢ <;> try (cases h; done)
  case load t a => exact all _ h
  case indexAddr t x ix => exact size _ h
  case slice t x lo hi mx => exact all _ h

/-- Unless what is seen stands, whatever is noted is noted again. -/
theorem noted_again {o : Oper} {tm : Tm} {σ τ : AS} (hst : ∀ sn, noted G ops o tm σ = some sn → sn.stands τ = true) (hsome : noted G ops o tm σ = none → noted G ops o tm τ = none) : noted G ops o tm τ = noted G ops o tm σ := by
  cases hn : noted G ops o tm σ with
  | none => exact hsome hn
  | some sn =>
    have h1 := hst sn hn
    unfold noted at hn ⊢
    split at hn
    · rename_i hw
      rw [if_pos hw]
      exact read_again hn h1
    · cases hn

/-- Where an operation of class 1 goes through, it notes nothing just if it looks at no object of ours. -/
theorem noted_none_le {i : Nat} {o : Oper} {tm : Tm} {σ σ₁ τ : AS} {v : AV} (hc : cls o = 1) (hs : σ.slot = none) (h : resX P G ex base ops i o tm σ = some (v, σ₁)) (hn : noted G ops o tm σ = none) : noted G ops o tm τ = none := by
  unfold noted at hn ⊢
  split at hn
  · rename_i hw
    rw [if_pos hw]
    obtain ⟨objs, next, slot⟩ := σ
    simp only at hs; subst hs
    rw [resX_plain (by omega)] at h
    simp only [resO] at h
    rw [if_pos hw] at h
    cases he : eff P o (evT G tm) ⟨objs, next, none⟩ with
    | none => rw [he] at h; cases h
    | some r =>
      unfold readOf at hn ⊢
      unfold eff at he
      cases ho : o.op <;> rw [ho] at hn he <;> simp only at hn he ⊢
      case load t a =>
        simp only [withSt, Option.map_eq_some_iff] at he
        obtain ⟨u, hv, _⟩ := he
        cases ha : evT G tm a <;> rw [ha] at hv hn <;> simp only [effLoad] at hv <;> try (cases hv; done)
        · rename_i id k f
          simp only [Option.bind_eq_some_iff] at hv
          obtain ⟨rows, hrows, _⟩ := hv
          unfold AS.rows at hrows
          split at hrows
          · rename_i hg
            obtain ⟨m, hm⟩ := AS.objs_of_get hg
            simp only at hm
            simp [seenAll, idOf, hm] at hn
          · cases hrows
        · simp [seenAll, idOf]
      case indexAddr t x ix =>
        simp only [withSt, Option.map_eq_some_iff] at he
        obtain ⟨u, hv, _⟩ := he
        cases hx : evT G tm x <;> rw [hx] at hv hn <;> try (simp [seenSl]; done)
        rename_i id k n cap
        unfold effIndexAddr at hv
        split at hv
        · split at hv
          · simp only at hv
            split at hv
            · rename_i hg
              obtain ⟨m, hm⟩ := AS.objs_of_get hg
              simp only at hm
              simp [seenSl, hm] at hn
            · cases hv
          · cases hv
        · split at hv
          · split at hv <;> cases hv
          · cases hv
        · cases hv
      case slice t x lo hi mx =>
        simp only [effSliceOp] at he
        cases hx : evT G tm x <;> rw [hx] at he hn <;> try (simp [seenAll, idOf]; done)
        · simp only [isRef, if_true, withSt, Option.map_eq_some_iff] at he
          obtain ⟨u, hv, _⟩ := he
          unfold effSlice at hv
          split at hv
          · cases hv
          · split at hv
            · split at hv <;> cases hv
            · cases hv
        · rename_i id k n cap
          simp only [isRef, if_true, withSt, Option.map_eq_some_iff] at he
          obtain ⟨u, hv, _⟩ := he
          unfold effSlice at hv
          split at hv
          · cases hv
          · split at hv
            · split at hv
              · simp only at hv
                split at hv
                · rename_i hg
                  obtain ⟨m, hm⟩ := AS.objs_of_get hg
                  simp only at hm
                  simp [seenAll, idOf, hm] at hn
                · cases hv
              · cases hv
            · cases hv
  · rename_i hw
    rw [if_neg hw]

end Go.Ab
