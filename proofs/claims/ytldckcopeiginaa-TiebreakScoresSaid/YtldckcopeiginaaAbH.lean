/- Slices of slices; assertions. -/
import Derived.Test.YtldckcopeiginaaAbG
namespace Go.Ab
variable {P : Program} {B : World} {ρ : Rho} {σ : AS} {w : World}

inductive OptConc (M : Mem) (ρ : Rho) : Option AV → Option Value → Prop
  | none : OptConc M ρ none none
  | some {a : AV} {v : Value} (h : Conc M ρ a v) : OptConc M ρ (some a) (some v)
theorem optConc_map {M : Mem} {ev : Operand → AV} {av : Operand → Value} (h : ∀ x, Conc M ρ (ev x) (av x)) (x : Option Operand) : OptConc M ρ (x.map ev) (x.map av) := by
  cases x with
  | none => exact .none
  | some x => exact .some (h x)

theorem bound_some {a : AV} {d y n : Nat} (h : bound (some a) d y = some n) : ∃ k i, a = .s (.int k i) ∧ 0 ≤ i ∧ i ≤ y ∧ n = i.toNat := by
  unfold bound at h
  split at h
  · rename_i he; cases he
  · rename_i k i he
    split at h
    · rename_i hc
      cases h; cases he
      exact ⟨k, i, rfl, hc.1, hc.2, rfl⟩
    · cases h
  · cases h

theorem slBounds_run {M : Mem} {n top cap : Nat} {lo hi mx : Option AV} {cl ch cm : Option Value} {l h m : Nat} (hl : OptConc M ρ lo cl) (hh : OptConc M ρ hi ch) (hm : OptConc M ρ mx cm)
    (hmh : ¬ (mx.isSome && hi.isNone) = true) (hcap : top ≤ cap) (hb : slBounds n top lo hi mx = some (l, h, m)) (b : Bool) (w : World) :
    ∃ m', (Instr.sliceBounds b n cap cl ch cm).run P w = .ok (l, h, m') w ∧ (mx.isSome = true → m' = m) ∧ (mx = none → m = top ∧ m' = cap) := by
  unfold slBounds at hb
  simp only [Option.bind_eq_some_iff, Option.some.injEq, Prod.mk.injEq] at hb
  obtain ⟨m0, hm0, h0, hh0, l0, hl0, rfl, rfl, rfl⟩ := hb
  cases hm with
  | none =>
    simp only [bound, Option.some.injEq] at hm0
    subst hm0
    refine ⟨cap, ?_, by simp, fun _ => ⟨rfl, rfl⟩⟩
    cases hh with
    | none =>
      simp only [bound, Option.some.injEq] at hh0
      subst hh0
      cases hl with
      | none => simp only [bound, Option.some.injEq] at hl0; subst hl0; simp [Instr.sliceBounds]
      | some hv =>
        obtain ⟨k, i, rfl, h1, h2, rfl⟩ := bound_some hl0
        cases hv
        simp [Instr.sliceBounds, Instr.sliceBound, asIntOf, h1, h2]
    | some hv =>
      obtain ⟨k, i, rfl, h1, h2, rfl⟩ := bound_some hh0
      cases hv
      have h2' : i ≤ cap := by omega
      cases hl with
      | none => simp only [bound, Option.some.injEq] at hl0; subst hl0; simp [Instr.sliceBounds, Instr.sliceBound, asIntOf, h1, h2']
      | some hv =>
        obtain ⟨k', i', rfl, h3, h4, rfl⟩ := bound_some hl0
        cases hv
        simp [Instr.sliceBounds, Instr.sliceBound, asIntOf, h1, h2', h3]
        omega
  | some hv =>
    obtain ⟨k, i, rfl, h1, h2, rfl⟩ := bound_some hm0
    cases hv
    have h2' : i ≤ cap := by omega
    refine ⟨i.toNat, ?_, fun _ => rfl, by simp⟩
    cases hh with
    | none => simp at hmh
    | some hv =>
      obtain ⟨k2, i2, rfl, h3, h4, rfl⟩ := bound_some hh0
      cases hv
      have h4' : i2 ≤ i := by omega
      cases hl with
      | none =>
        simp only [bound, Option.some.injEq] at hl0; subst hl0
        simp [Instr.sliceBounds, Instr.sliceBound, asIntOf, h1, h2', h3]
        omega
      | some hv =>
        obtain ⟨k', i', rfl, h5, h6, rfl⟩ := bound_some hl0
        cases hv
        have h6' : i' ≤ i2 := by omega
        have e1 : i2 ≤ (i.toNat : Int) := by omega
        have e2 : i' ≤ (i2.toNat : Int) := by omega
        simp only [Instr.sliceBounds, Instr.sliceBound, asIntOf, Sem.run_bind, Sem.run_pure, Result.andThen_ok, h1, h2', h3, h5, e1, e2, true_and, and_self, if_true]

theorem ConcMem.take {M : Mem} {b off es : Nat} {rows : List (List AV)} (h : ConcMem M ρ b off es rows) (n : Nat) : ConcMem M ρ b off es (rows.take n) := by
  cases h with
  | mk hm hl hc =>
    refine .mk hm (fun r hr => hl r (List.mem_of_mem_take hr)) ?_
    rw [flat_take hl]
    have := hc.take (n * es)
    rw [List.take_take] at this
    have e : min (n * es) (rows.length * es) = (rows.take n).length * es := by
      rw [List.length_take]
      rcases Nat.le_total n rows.length with h | h
      · rw [Nat.min_eq_left h, Nat.min_eq_left (Nat.mul_le_mul_right _ h)]
      · rw [Nat.min_eq_right h, Nat.min_eq_right (Nat.mul_le_mul_right _ h)]
    rwa [e] at this
theorem ConcMem.drop {M : Mem} {b off es : Nat} {rows : List (List AV)} (h : ConcMem M ρ b off es rows) (n : Nat) : ConcMem M ρ b (off + n * es) es (rows.drop n) := by
  cases h with
  | mk hm hl hc =>
    refine .mk hm (fun r hr => hl r (List.mem_of_mem_drop hr)) ?_
    rw [flat_drop hl]
    have := hc.drop (n * es)
    rw [List.drop_take, List.drop_drop] at this
    have e : rows.length * es - n * es = (rows.drop n).length * es := by
      rw [List.length_drop, Nat.sub_mul]
    rwa [e] at this

theorem slice_go {t elem : TypeId} {size : Nat} (hu : P.underlying t = some (.slice elem)) (hs : sz P elem = some size) {a : Option Addr} {n cap : Nat} {cl ch cm : Option Value} {l h m : Nat} {w : World}
    (hb : (Instr.sliceBounds true n cap cl ch cm).run P w = .ok (l, h, m) w) :
    (Instr.sliceAt t (.slice a n cap) cl ch cm).run P w = .ok (.slice (if m = l then a else a.map (·.add (l * size))) (h - l) (m - l)) w := by
  simp [Instr.sliceAt, Instr.slice, Sem.run_bind, run_underlying hu w, hb, run_sizeOf hs w]

theorem mkSl_conc {M : Mem} {o i l h m : Nat} {loc : Loc} {size : Nat} (hr : ρ o = some loc) (hes : loc.es = size) :
    Conc M ρ (mkSl o i l h m) (.slice (if m = l then some ⟨loc.blk, i * loc.es, none⟩ else (some (⟨loc.blk, i * loc.es, none⟩ : Addr)).map (·.add (l * size))) (h - l) (m - l)) := by
  unfold mkSl
  by_cases e : m = l
  · simp only [e, if_true]
    exact .slc hr
  · simp only [e, if_false]
    have := Conc.slc (M := M) (i := i + l) (n := h - l) (c := m - l) hr
    simpa [Addr.add_mid, hes, Nat.add_mul] using this

theorem slice_run (hrep : Rep B ρ σ w) {t : TypeId} {x v : AV} {c : Value} {lo hi mx : Option AV} {cl ch cm : Option Value} (hx : Conc (memOf B) ρ x c) (hl : OptConc (memOf B) ρ lo cl) (hh : OptConc (memOf B) ρ hi ch)
    (hm : OptConc (memOf B) ρ mx cm) (he : effSlice P t x lo hi mx σ = some v) : ∃ y, (Instr.sliceAt t c cl ch cm).run P w = .ok y w ∧ Conc (memOf B) ρ v y := by
  unfold effSlice at he
  split at he
  · cases he
  · rename_i hmh
    split at he
    · rename_i elem hu
      split at he
      · rename_i size hs
        split at he
        · rename_i o i n cap
          split at he
          · rename_i e es exact rows hg
            split at he
            · rename_i hcond
              obtain ⟨hes, hle⟩ := hcond
              cases hx with
              | slc hr =>
                rename_i c loc
                obtain ⟨q1, q2, q3, q4, _⟩ := hrep.obj o _ loc hg hr
                simp only [Option.map_eq_some_iff] at he
                obtain ⟨⟨l, h, m⟩, hb, rfl⟩ := he
                obtain ⟨m', hrun, h1, h2⟩ := slBounds_run (P := P) hl hh hm hmh (Nat.le_refl c) hb true w
                have hmm : m' = m := by
                  cases mx with
                  | none => obtain ⟨a1, a2⟩ := h2 rfl; omega
                  | some _ => exact h1 rfl
                subst hmm
                exact ⟨_, slice_go hu hs hrun, mkSl_conc hr (q1.trans hes)⟩
              | sl hr =>
                rename_i loc
                obtain ⟨q1, q2, q3, q4, _⟩ := hrep.obj o _ loc hg hr
                simp only at he
                split at he
                · -- with a third bound
                  rename_i mv
                  simp only [Option.map_eq_some_iff] at he
                  obtain ⟨⟨l, h, m⟩, hb, rfl⟩ := he
                  obtain ⟨m', hrun, h1, h2⟩ := slBounds_run (P := P) (cap := loc.cap - i) hl hh hm hmh (by omega) hb true w
                  have := h1 rfl
                  subst this
                  exact ⟨_, slice_go hu hs hrun, mkSl_conc hr (q1.trans hes)⟩
                · simp only [Option.map_eq_some_iff] at he
                  obtain ⟨⟨l, h, m⟩, hb, rfl⟩ := he
                  obtain ⟨m', hrun, h1, h2⟩ := slBounds_run (P := P) (cap := loc.cap - i) hl hh hm hmh (by omega) hb true w
                  obtain ⟨a1, a2⟩ := h2 rfl
                  have hq := q3 rfl
                  have hmm : m' = m := by omega
                  subst hmm
                  refine ⟨_, slice_go hu hs hrun, ?_⟩
                  by_cases e : m' = l
                  · simp only [e, if_true, Nat.sub_self]; exact .slc hr
                  · simp only [e, if_false]
                    have := Conc.sl (M := memOf B) (i := i + l) (n := h - l) hr
                    have e2 : loc.cap - (i + l) = m' - l := by omega
                    rw [e2] at this
                    simpa [Addr.add_mid, q1, hes, Nat.add_mul] using this
                · simp only [Option.bind_eq_some_iff] at he
                  obtain ⟨⟨l, h, m⟩, hb, he⟩ := he
                  obtain ⟨m', hrun, h1, h2⟩ := slBounds_run (P := P) (cap := loc.cap - i) hl hh hm hmh (by omega) hb true w
                  obtain ⟨a1, a2⟩ := h2 rfl
                  simp only at he
                  split at he
                  · rename_i hc
                    cases he
                    refine ⟨_, slice_go hu hs hrun, ?_⟩
                    have := Conc.sl (M := memOf B) (i := i + l) (n := h - l) hr
                    have e2 : loc.cap - (i + l) = m' - l := by omega
                    rw [e2] at this
                    by_cases e : m' = l
                    · have hl0 : l = 0 := by omega
                      subst hl0
                      simpa [e] using this
                    · simp only [e, if_false]
                      simpa [Addr.add_mid, q1, hes, Nat.add_mul] using this
                  · cases he
            · cases he
          · cases he
        · rename_i a es cap rows
          split at he
          · rename_i hes
            simp only [Option.bind_eq_some_iff] at he
            obtain ⟨⟨l, h, m⟩, hb, he⟩ := he
            cases hx with
            | rsl hmem hc =>
              obtain ⟨m', hrun, h1, h2⟩ := slBounds_run (P := P) hl hh hm hmh (Nat.le_refl cap) hb true w
              have hmm : m' = m := by
                cases mx with
                | none => obtain ⟨a1, a2⟩ := h2 rfl; omega
                | some _ => exact h1 rfl
              subst hmm
              have hlh : l ≤ h ∧ h ≤ m' ∨ mx = none := by
                by_cases e : mx = none
                · exact .inr e
                · left
                  unfold slBounds at hb
                  simp only [Option.bind_eq_some_iff, Option.some.injEq, Prod.mk.injEq] at hb
                  obtain ⟨m0, hm0, h0, hh0, l0, hl0, rfl, rfl, rfl⟩ := hb
                  cases hi with
                  | none => cases mx <;> simp_all
                  | some hv =>
                    obtain ⟨_, _, rfl, _, _, rfl⟩ := bound_some hh0
                    cases lo with
                    | none => simp only [bound, Option.some.injEq] at hl0; subst hl0; omega
                    | some lv => obtain ⟨_, _, rfl, _, _, rfl⟩ := bound_some hl0; omega
              have hlh' : l ≤ h := by
                unfold slBounds at hb
                simp only [Option.bind_eq_some_iff, Option.some.injEq, Prod.mk.injEq] at hb
                obtain ⟨m0, hm0, h0, hh0, l0, hl0, rfl, rfl, rfl⟩ := hb
                cases lo with
                | none => simp only [bound, Option.some.injEq] at hl0; subst hl0; omega
                | some lv => obtain ⟨_, _, rfl, _, _, rfl⟩ := bound_some hl0; omega
              simp only at he
              split at he
              · rename_i hhl
                have hhm : h ≤ m' := by
                  rcases hlh with ⟨_, h'⟩ | e
                  · exact h'
                  · obtain ⟨a1, a2⟩ := h2 e; omega
                have hlen : (rows.take h).length = h := by rw [List.length_take]; omega
                split at he
                · rename_i hl0
                  cases he; subst hl0
                  refine ⟨_, slice_go hu hs hrun, ?_⟩
                  have := Conc.rsl (hmem.take h) (show (rows.take h).length ≤ m' by omega)
                  rw [hlen] at this
                  by_cases e : m' = 0
                  · simpa [e] using this
                  · simpa [e, Addr.add_mid] using this
                · split at he
                  · rename_i e
                    cases he
                    refine ⟨_, slice_go hu hs hrun, ?_⟩
                    have := Conc.rsl (hmem.take 0) (show (rows.take 0).length ≤ 0 by simp)
                    have e0 : h - l = 0 := by omega
                    have e1 : m' - l = 0 := by omega
                    simp only [e, if_true, Nat.sub_self] at *
                    simpa [e0] using this
                  · rename_i e
                    cases he
                    refine ⟨_, slice_go hu hs hrun, ?_⟩
                    have := Conc.rsl ((hmem.take h).drop l) (cap := m' - l) (by rw [List.length_drop, hlen]; omega)
                    rw [List.length_drop, hlen] at this
                    simp only [e, if_false, Option.map_some, Addr.add_mid, ← hes]
                    exact this
              · cases he
          · cases he
        · cases he
      · cases he
    · cases he

theorem assert_run {M : Mem} {x v : AV} {c : Value} {xt asserted : TypeId} {ok : Bool} (hx : Conc M ρ x c) (he : effAssert P x asserted ok = some v) (w : World) :
    ∃ y, (Instr.typeAssert c xt asserted ok).run P w = .ok y w ∧ Conc M ρ v y := by
  have pair : ∀ {a b : AV} {u z : Value}, Conc M ρ a u → Conc M ρ b z → Conc M ρ (mkTup [a, b]) (.tuple #[u, z]) := fun ha hb => conc_mkTup (.cons ha (.cons hb .nil))
  unfold effAssert at he
  split at he
  · rename_i want t v' hu
    cases hx with
    | ifc hx =>
      split at he
      · rename_i i hi
        split at he
        · rename_i hm
          cases he
          cases ok
          · exact ⟨_, by simp [Instr.typeAssert, Sem.run_bind, run_underlying hu w, typeInfo, hi, hm], .ifc hx⟩
          · exact ⟨_, by simp [Instr.typeAssert, Sem.run_bind, run_underlying hu w, typeInfo, hi, hm], pair (.ifc hx) (.s _)⟩
        · rename_i mm hm
          cases ok
          · cases he
          · simp only [if_true, Option.map_eq_some_iff, Option.bind_eq_some_iff] at he
            obtain ⟨z, ⟨ia, hia, hz⟩, rfl⟩ := he
            exact ⟨_, by simp [Instr.typeAssert, Sem.run_bind, run_underlying hu w, typeInfo, hi, hm, zeroValue, hia, hz], pair (.s _) (.s _)⟩
      · cases he
  · cases he
  · rename_i d t v' hnot hu
    cases hx with
    | ifc hx =>
      split at he
      · rename_i ht
        cases he
        subst ht
        cases ok
        · refine ⟨_, ?_, hx⟩
          cases d <;> first | (exact absurd rfl (hnot _)) | (simp [Instr.typeAssert, Sem.run_bind, run_underlying hu w])
        · refine ⟨_, ?_, pair hx (.s _)⟩
          cases d <;> first | (exact absurd rfl (hnot _)) | (simp [Instr.typeAssert, Sem.run_bind, run_underlying hu w])
      · rename_i ht
        cases ok
        · cases he
        · simp only [if_true, Option.map_eq_some_iff, Option.bind_eq_some_iff] at he
          obtain ⟨z, ⟨ia, hia, hz⟩, rfl⟩ := he
          refine ⟨_, ?_, pair (.s z) (.s _)⟩
          · cases d <;> first | (exact absurd rfl (hnot _)) | (simp [Instr.typeAssert, Sem.run_bind, run_underlying hu w, ht, zeroValue, typeInfo, hia, hz])
  · cases he

end Go.Ab
