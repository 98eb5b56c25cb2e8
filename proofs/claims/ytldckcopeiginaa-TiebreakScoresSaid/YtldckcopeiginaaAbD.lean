/- The operations, one by one: what the abstract side gives the model does. Loads and stores. -/
import Derived.Test.YtldckcopeiginaaAbC
namespace Go.Ab
variable {P : Program} {B : World} {ρ : Rho} {σ : AS} {w : World}

/-! ### Rows -/
section rows
variable {α : Type}
theorem flat_len {rows : List (List α)} {es : Nat} (h : ∀ r ∈ rows, r.length = es) : rows.flatten.length = rows.length * es := by
  induction rows with
  | nil => simp
  | cons r rows ih =>
    have h1 := h r (by simp)
    have h2 := ih fun x hx => h x (by simp [hx])
    simp [h1, h2, Nat.add_mul, Nat.add_comm]
theorem flat_drop {rows : List (List α)} {es : Nat} (h : ∀ r ∈ rows, r.length = es) (n : Nat) : (rows.drop n).flatten = rows.flatten.drop (n * es) := by
  induction n generalizing rows with
  | zero => simp
  | succ n ih =>
    cases rows with
    | nil => simp
    | cons r rows =>
      have h1 := h r (by simp)
      have h2 := ih (rows := rows) fun x hx => h x (by simp [hx])
      simp only [List.drop_succ_cons, List.flatten_cons, h2]
      have : (n + 1) * es = r.length + n * es := by rw [h1, Nat.add_mul]; omega
      rw [this, List.drop_length_add_append]
theorem flat_take {rows : List (List α)} {es : Nat} (h : ∀ r ∈ rows, r.length = es) (n : Nat) : (rows.take n).flatten = rows.flatten.take (n * es) := by
  induction n generalizing rows with
  | zero => simp
  | succ n ih =>
    cases rows with
    | nil => simp
    | cons r rows =>
      have h1 := h r (by simp)
      have h2 := ih (rows := rows) fun x hx => h x (by simp [hx])
      simp only [List.take_succ_cons, List.flatten_cons, h2]
      have : (n + 1) * es = r.length + n * es := by rw [h1, Nat.add_mul]; omega
      rw [this, List.take_length_add_append]
theorem flat_row {rows : List (List α)} {es : Nat} (h : ∀ r ∈ rows, r.length = es) {i : Nat} {row : List α} (hi : rows[i]? = some row) : (rows.flatten.drop (i * es)).take es = row := by
  rw [← flat_drop h]
  have hlt : i < rows.length := (List.getElem?_eq_some_iff.1 hi).1
  have hd : rows.drop i = row :: rows.drop (i + 1) := by
    rw [List.drop_eq_getElem_cons hlt]
    congr 1
    exact (List.getElem?_eq_some_iff.1 hi).2
  rw [hd, List.flatten_cons]
  have := h row (List.mem_of_getElem? hi)
  rw [← this, List.take_left']
  rfl
theorem flat_set {rows : List (List α)} {es : Nat} (h : ∀ r ∈ rows, r.length = es) {i : Nat} (hi : i < rows.length) (row : List α) :
    (rows.set i row).flatten = rows.flatten.take (i * es) ++ row ++ rows.flatten.drop ((i + 1) * es) := by
  rw [List.set_eq_take_append_cons_drop, if_pos hi]
  simp only [List.flatten_append, List.flatten_cons, flat_take h, flat_drop h, List.append_assoc]
theorem mem_set_len {rows : List (List α)} {es : Nat} (h : ∀ r ∈ rows, r.length = es) {i : Nat} {row : List α} (hr : row.length = es) : ∀ r ∈ rows.set i row, r.length = es := by
  intro r hm
  rcases List.mem_or_eq_of_mem_set hm with h1 | h1
  · exact h r h1
  · rw [h1, hr]
end rows

/-! ### Loads -/
theorem run_isAgg {t : TypeId} {d : TypeDesc} (hu : P.underlying t = some d) (w : World) : (isAgg t).run P w = .ok d.isRow w := by
  unfold isAgg
  rw [Sem.run_bind, run_underlying hu w]
  cases d <;> rfl
theorem sz_eq {t : TypeId} {n : Nat} (h : sz P t = some n) : ∃ i, P.info? t = some i ∧ i.size = n := by
  unfold sz at h
  cases hi : P.info? t with
  | none => simp [hi] at h
  | some i => simp [hi] at h; exact ⟨i, rfl, h⟩
theorem run_sizeOf {t : TypeId} {n : Nat} (h : sz P t = some n) (w : World) : (sizeOf t).run P w = .ok n w := by
  obtain ⟨i, hi, hn⟩ := sz_eq h
  simp [sizeOf, typeInfo, hi, hn]

/-- A row of cells in a block. -/
def RowAt (M : Mem) (ρ : Rho) (w : World) (b off : Nat) (row : List AV) : Prop :=
  ∃ c e fz, w.heap[b]? = some (.cells c e fz) ∧ Concs M ρ row ((c.toList.drop off).take row.length)

theorem RowAt.range {M : Mem} {b off : Nat} {row : List AV} (h : RowAt M ρ w b off row) {f n : Nat} (hf : f + n ≤ row.length) :
    ∃ vs, Concs M ρ ((row.drop f).take n) vs ∧ vs.length = n ∧ w.rangeAt b (off + f) vs := by
  obtain ⟨c, e, fz, hh, hc⟩ := h
  refine ⟨_, (hc.drop f).take n, ?_, ?_⟩
  · have := ((hc.drop f).take n).len
    rw [← this, List.length_take, List.length_drop]; omega
  · intro j v hj
    have hl := hc.len
    rw [List.length_take, List.length_drop] at hl
    simp only [List.getElem?_take, List.getElem?_drop] at hj
    split at hj
    · split at hj
      · simp only [World.cell?, hh]
        simp only [Option.isSome_none, Bool.false_eq_true, if_false]
        rw [← Array.getElem?_toList, ← hj]
        congr 1; omega
      · cases hj
    · cases hj

theorem RowAt.cell {M : Mem} {b off : Nat} {row : List AV} (h : RowAt M ρ w b off row) {f : Nat} {v : AV} (hf : row[f]? = some v) :
    ∃ x, Conc M ρ v x ∧ w.cell? ⟨b, off + f, none⟩ = some x := by
  obtain ⟨c, e, fz, hh, hc⟩ := h
  obtain ⟨x, hx, hcx⟩ := hc.get hf
  refine ⟨x, hcx, ?_⟩
  simp only [List.getElem?_take, List.getElem?_drop] at hx
  split at hx
  · simp only [World.cell?, hh]
    simp only [Option.isSome_none, Bool.false_eq_true, if_false]
    rw [← Array.getElem?_toList, ← hx]
  · cases hx

theorem read_run {M : Mem} {b off : Nat} {row : List AV} (h : RowAt M ρ w b off row) {t : TypeId} {f : Nat} {v : AV} (hr : readAt P t row f = some v) :
    ∃ x, (loadVar t ⟨b, off + f, none⟩).run P w = .ok x w ∧ Conc M ρ v x := by
  unfold readAt at hr
  split at hr
  · rename_i d hu
    split at hr
    · rename_i hd
      split at hr
      · rename_i n hn
        split at hr
        · rename_i hle
          simp at hr; subst hr
          obtain ⟨vs, hvs, hlen, hrange⟩ := h.range hle
          obtain ⟨i, hi, hin⟩ := sz_eq hn
          exact ⟨_, run_loadVar_mid w b (off + f) t vs d hrange hu hd (by simp [hi, hin, hlen]), conc_mkAgg hvs⟩
        · cases hr
      · cases hr
    · rename_i hd
      obtain ⟨x, hx, hcell⟩ := h.cell hr
      refine ⟨x, ?_, hx⟩
      have hd' : d.isRow = false := by simpa using hd
      simp [loadVar, Sem.run_bind, run_isAgg hu w, hd', load, Sem.run, hcell]
  · cases hr

theorem Rep.rowAt (h : Rep B ρ σ w) {o : Nat} {rows : List (List AV)} {i : Nat} {row : List AV} {l : Loc} (hr : ρ o = some l) (ho : σ.rows o = some rows) (hi : rows[i]? = some row) :
    RowAt (memOf B) ρ w l.blk (i * l.es) row := by
  unfold AS.rows at ho
  split at ho
  · rename_i e es x rws hg
    simp at ho; subst ho
    obtain ⟨h1, h2, h3, h4, c, h5, h6, h7⟩ := h.obj o _ l hg hr
    refine ⟨c, e, _, h5, ?_⟩
    have hrow := flat_row h4 hi
    have hl := h4 row (List.mem_of_getElem? hi)
    have hilt : i < rws.length := (List.getElem?_eq_some_iff.1 hi).1
    have := (h7.drop (i * es)).take es
    rw [hrow] at this
    rw [h1, hl]
    have hmul : (i + 1) * es ≤ rws.length * es := Nat.mul_le_mul_right _ hilt
    rw [Nat.add_mul] at hmul
    rw [List.drop_take, List.take_take] at this
    rwa [Nat.min_eq_left (by omega)] at this
  · cases ho

theorem Rep.mem (h : Rep B ρ σ w) {b : Nat} {o : Obj} (hm : memOf B b = some o) : w.heap[b]? = some o := by
  rw [h.keep b (Array.getElem?_eq_some_iff.1 hm).1]; exact hm

theorem Rep.memRow (h : Rep B ρ σ w) {b off es : Nat} {rows : List (List AV)} {i : Nat} {row : List AV} (hm : ConcMem (memOf B) ρ b off es rows) (hi : rows[i]? = some row) :
    RowAt (memOf B) ρ w b (off + i * es) row := by
  cases hm with
  | mk hm hl hc =>
    rename_i c e fz
    refine ⟨c, e, fz, h.mem hm, ?_⟩
    have hrow := flat_row hl hi
    have hlen := hl row (List.mem_of_getElem? hi)
    have hilt : i < rows.length := (List.getElem?_eq_some_iff.1 hi).1
    have := (hc.drop (i * es)).take es
    rw [hrow] at this
    rw [hlen]
    have hmul : (i + 1) * es ≤ rows.length * es := Nat.mul_le_mul_right _ hilt
    rw [Nat.add_mul] at hmul
    rw [List.drop_take, List.take_take, List.drop_drop] at this
    rwa [Nat.min_eq_left (by omega)] at this

theorem load_run (h : Rep B ρ σ w) {a v : AV} {x : Value} {t : TypeId} (hc : Conc (memOf B) ρ a x) (he : effLoad P t a σ = some v) :
    ∃ y, (Instr.loadAt t x).run P w = .ok y w ∧ Conc (memOf B) ρ v y := by
  cases hc <;> simp only [effLoad] at he <;> try (cases he; done)
  · rename_i o i f l hr
    simp only [Option.bind_eq_some_iff] at he
    obtain ⟨rows, hrows, row, hrow, hread⟩ := he
    obtain ⟨y, hy, hcy⟩ := read_run (h.rowAt hr hrows hrow) hread
    exact ⟨y, by simp only [Instr.loadAt, Instr.sureAddr, Sem.run_bind, Sem.run_pure, Result.andThen_ok, hy], hcy⟩
  · rename_i b off es i f rows hm
    simp only [Option.bind_eq_some_iff] at he
    obtain ⟨row, hrow, hread⟩ := he
    obtain ⟨y, hy, hcy⟩ := read_run (h.memRow hm hrow) hread
    rw [Nat.add_assoc] at hy
    exact ⟨y, by simp only [Instr.loadAt, Instr.sureAddr, Sem.run_bind, Sem.run_pure, Result.andThen_ok, hy], hcy⟩

end Go.Ab
