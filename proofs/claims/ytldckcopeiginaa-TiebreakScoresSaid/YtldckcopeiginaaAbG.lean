/- Fields, elements, slices of slices, equality, assertions, lengths. -/
import Derived.Test.YtldckcopeiginaaAbF
namespace Go.Ab
variable {P : Program} {B : World} {ρ : Rho} {σ : AS} {w : World}

theorem run_underlying' {t : TypeId} {d : TypeDesc} (h : P.underlying t = some d) (w : World) : (underlying t).run P w = .ok d w := run_underlying h w

theorem part_run {M : Mem} {t : TypeId} {cs : List AV} {vs : Array Value} {off : Nat} {v : AV} (hc : Concs M ρ cs vs.toList) (h : readAt P t cs off = some v) (w : World) :
    ∃ y, (part t vs off).run P w = .ok y w ∧ Conc M ρ v y := by
  unfold readAt at h
  split at h
  · rename_i d hu
    split at h
    · rename_i hd
      split at h
      · rename_i n hn
        split at h
        · rename_i hle
          simp at h; subst h
          refine ⟨.agg (vs.extract off (off + n)), ?_, ?_⟩
          · simp [part, Sem.run_bind, run_isAgg hu w, hd, run_sizeOf hn w]
          · have := conc_mkAgg ((hc.drop off).take n)
            have e : (vs.toList.drop off |>.take n).toArray = vs.extract off (off + n) := by
              apply Array.ext'
              simp [Array.toList_extract, List.extract_eq_take_drop]
            rwa [e] at this
        · cases h
      · cases h
    · rename_i hd
      obtain ⟨y, hy, hcy⟩ := hc.get h
      refine ⟨y, ?_, hcy⟩
      have hd' : d.isRow = false := by simpa using hd
      have : vs[off]? = some y := by rw [← Array.getElem?_toList]; exact hy
      simp [part, Sem.run_bind, run_isAgg hu w, hd', this]
  · cases h

theorem field_run {M : Mem} {t : TypeId} {x : AV} {c : Value} {f : Nat} {v : AV} (hx : Conc M ρ x c) (h : effField P t x f = some v) (w : World) :
    ∃ y, (Instr.field t c f).run P w = .ok y w ∧ Conc M ρ v y := by
  unfold effField at h
  split at h
  · rename_i fields cs hu
    cases hx with
    | agg hx =>
      simp only [Option.bind_eq_some_iff] at h
      obtain ⟨fd, hfd, hr⟩ := h
      obtain ⟨y, hy, hcy⟩ := part_run hx hr w
      exact ⟨y, by simp [Instr.field, Sem.run_bind, run_underlying hu w, hfd, asAgg, hy], hcy⟩
  · cases h

theorem index_run {M : Mem} {t : TypeId} {x ix : AV} {c ci : Value} {v : AV} (hx : Conc M ρ x c) (hi : Conc M ρ ix ci) (h : effIndex P t x ix = some v) (w : World) :
    ∃ y, (Instr.index t c ci).run P w = .ok y w ∧ Conc M ρ v y := by
  unfold effIndex at h
  split at h
  · rename_i len elem cs k n hu
    cases hi
    cases hx with
    | agg hx =>
      split at h
      · rename_i hn
        simp only [Option.bind_eq_some_iff] at h
        obtain ⟨size, hs, hr⟩ := h
        obtain ⟨y, hy, hcy⟩ := part_run hx hr w
        exact ⟨y, by simp [Instr.index, Sem.run_bind, asIntOf, run_underlying hu w, hn, run_sizeOf hs w, hy], hcy⟩
      · cases h
  · cases h

theorem fieldAddr_run {M : Mem} {t : TypeId} {x : AV} {c : Value} {f : Nat} {v : AV} (hx : Conc M ρ x c) (h : effFieldAddr P t x f = some v) (w : World) :
    ∃ y, (Instr.fieldAt t c f).run P w = .ok y w ∧ Conc M ρ v y := by
  unfold effFieldAddr at h
  split at h
  · rename_i fields hu
    split at h
    · rename_i fd hfd
      split at h
      · rename_i k hs
        split at h
        · cases h
          cases hx with
          | ptr hr =>
            refine ⟨_, ?_, .ptr hr⟩
            simp [Instr.fieldAt, Sem.run_bind, run_underlying hu w, hfd, Instr.sureAddr, fieldPlace, run_sizeOf hs w, Addr.add_mid, Nat.add_assoc]
        · cases h
          cases hx with
          | rptr hr =>
            refine ⟨_, ?_, .rptr hr⟩
            simp [Instr.fieldAt, Sem.run_bind, run_underlying hu w, hfd, Instr.sureAddr, fieldPlace, run_sizeOf hs w, Addr.add_mid, Nat.add_assoc]
        · cases h
      · cases h
    · cases h
  · cases h

theorem indexAddr_run (hrep : Rep B ρ σ w) {t : TypeId} {x ix : AV} {c ci : Value} {v : AV} (hx : Conc (memOf B) ρ x c) (hi : Conc (memOf B) ρ ix ci) (h : effIndexAddr P t x ix σ = some v) :
    ∃ y, (Instr.indexAt t c ci).run P w = .ok y w ∧ Conc (memOf B) ρ v y := by
  unfold effIndexAddr at h
  split at h
  · rename_i elem k n hu
    cases hi
    split at h
    · rename_i size hs
      split at h
      · rename_i o i len cap
        split at h
        · rename_i e es ex rows hg
          split at h
          · rename_i hcond
            obtain ⟨he, h0, h1⟩ := hcond
            cases h
            cases hx <;> rename_i l hr
            all_goals
              obtain ⟨q1, _⟩ := hrep.obj o _ l hg hr
              refine ⟨_, ?_, .ptr hr⟩
              simp [Instr.indexAt, Sem.run_bind, asIntOf, run_underlying hu w, h0, h1, run_sizeOf hs w, Addr.add_mid, q1, he, Nat.add_mul]
          · cases h
        · cases h
      · rename_i a es cap rows
        split at h
        · rename_i hcond
          obtain ⟨he, h0, h1⟩ := hcond
          cases h
          cases hx with
          | rsl hm hc =>
            refine ⟨_, ?_, .rptr hm⟩
            simp [Instr.indexAt, Sem.run_bind, asIntOf, run_underlying hu w, h0, h1, run_sizeOf hs w, Addr.add_mid, he]
        · cases h
      · cases h
    · cases h
  · rename_i len elem k n hu
    cases hi
    split at h
    · rename_i size hs
      split at h
      · rename_i hn
        split at h
        · cases h
          cases hx with
          | ptr hr =>
            refine ⟨_, ?_, .ptr hr⟩
            simp [Instr.indexAt, Sem.run_bind, asIntOf, run_underlying hu w, hn, Instr.sureAddr, run_sizeOf hs w, Addr.add_mid, Nat.add_assoc]
        · cases h
          cases hx with
          | rptr hr =>
            refine ⟨_, ?_, .rptr hr⟩
            simp [Instr.indexAt, Sem.run_bind, asIntOf, run_underlying hu w, hn, Instr.sureAddr, run_sizeOf hs w, Addr.add_mid, Nat.add_assoc]
        · cases h
      · cases h
    · cases h
  · cases h

theorem len_run {M : Mem} {ats : Array TypeId} {x : AV} {c : Value} {ty : TypeId} {v : AV} (hx : Conc M ρ x c) (h : effLen P ats x = some v) (w : World) :
    ∃ y, (Builtin.len_ ats ty #[c]).run P w = .ok y w ∧ Conc M ρ v y := by
  unfold effLen at h
  split at h
  · rename_i o i n cap e hu
    cases h
    simp only [Option.bind_eq_some_iff] at hu
    obtain ⟨t, ht, hu⟩ := hu
    cases hx <;> exact ⟨_, by simp [Builtin.len_, ht, Sem.run_bind, run_underlying hu w]; rfl, .s _⟩
  · rename_i a es cap rows e hu
    cases h
    simp only [Option.bind_eq_some_iff] at hu
    obtain ⟨t, ht, hu⟩ := hu
    cases hx; exact ⟨_, by simp [Builtin.len_, ht, Sem.run_bind, run_underlying hu w]; rfl, .s _⟩
  · cases h

theorem cap_run (hrep : Rep B ρ σ w) {ats : Array TypeId} {x : AV} {c : Value} {ty : TypeId} {v : AV} (hx : Conc (memOf B) ρ x c) (h : effCap P ats x σ = some v) :
    ∃ y, (Builtin.cap_ ats ty #[c]).run P w = .ok y w ∧ Conc (memOf B) ρ v y := by
  unfold effCap at h
  split at h
  · rename_i o i n cap e hu
    cases h
    simp only [Option.bind_eq_some_iff] at hu
    obtain ⟨t, ht, hu⟩ := hu
    cases hx; exact ⟨_, by simp [Builtin.cap_, ht, Sem.run_bind, run_underlying hu w]; rfl, .s _⟩
  · rename_i o i n e hu
    split at h
    · rename_i e' es rows hg
      cases h
      simp only [Option.bind_eq_some_iff] at hu
      obtain ⟨t, ht, hu⟩ := hu
      cases hx
      rename_i l hr
      obtain ⟨q1, q2, q3, _⟩ := hrep.obj _ _ l hg hr
      have := q3 rfl
      exact ⟨_, by simp [Builtin.cap_, ht, Sem.run_bind, run_underlying hu w, this]; rfl, .s _⟩
    · cases h
  · rename_i a es cap rows e hu
    cases h
    simp only [Option.bind_eq_some_iff] at hu
    obtain ⟨t, ht, hu⟩ := hu
    cases hx; exact ⟨_, by simp [Builtin.cap_, ht, Sem.run_bind, run_underlying hu w]; rfl, .s _⟩
  · cases h

theorem eq_ifaces {t a b : TypeId} {u v : Value} {ms : Array (String × TypeId)} (hu : P.underlying t = some (.interface ms)) (hab : a ≠ b) (n : Nat) (w : World) :
    (Op.equalIn (n + 1) t (.iface a u) (.iface b v)).run P w = .ok false w := by
  unfold Op.equalIn
  rw [Sem.run_bind, run_underlying hu w]
  show (if a ≠ b then (pure false : Sem Bool) else _).run P w = _
  rw [if_pos hab]; rfl

set_option maxHeartbeats 1000000 in
theorem eq_run {M : Mem} {t : TypeId} {x y : AV} {c d : Value} {r : Bool} (hx : Conc M ρ x c) (hy : Conc M ρ y d) (h : effEq P t x y = some r) (w : World) : (Op.equal t c d).run P w = .ok r w := by
  unfold effEq at h
  split at h <;> rename_i hu <;> (try split at h) <;> first
    | (cases h; done)
    | (cases h
       cases hx <;> cases hy <;>
        (unfold Op.equal Op.maxDepth Op.equalIn
         rw [Sem.run_bind, run_underlying hu w]
         rfl))
    | (rename_i hne
       cases h
       cases hx <;> cases hy <;> exact eq_ifaces hu hne 9999 w)

end Go.Ab
