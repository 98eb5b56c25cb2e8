/- Stores, new objects. -/
import Derived.Test.YtldckcopeiginaaAbD
namespace Go.Ab
variable {P : Program} {B : World} {ρ : Rho} {σ : AS} {w : World}

section wr
variable {α : Type}
def wr (l : List α) (o : Nat) (xs : List α) : List α := l.take o ++ xs ++ l.drop (o + xs.length)
theorem wr_left (A L : List α) (f : Nat) (xs : List α) : wr (A ++ L) (A.length + f) xs = A ++ wr L f xs := by
  unfold wr
  rw [List.take_length_add_append, Nat.add_assoc, List.drop_length_add_append]
  simp
theorem wr_right (R C : List α) (f : Nat) (xs : List α) (h : f + xs.length ≤ R.length) : wr (R ++ C) f xs = wr R f xs ++ C := by
  unfold wr
  rw [List.take_append_of_le_length (by omega), List.drop_append_of_le_length h]
  simp
theorem wr_len (l : List α) (o : Nat) (xs : List α) (h : o + xs.length ≤ l.length) : (wr l o xs).length = l.length := by
  unfold wr
  simp; omega
theorem wr_take (l : List α) (o : Nat) (xs : List α) (n : Nat) (h : o + xs.length ≤ n) (hl : o ≤ l.length) : (wr l o xs).take n = wr (l.take n) o xs := by
  unfold wr
  rw [List.take_append, List.take_append, List.take_take, List.take_take]
  rw [Nat.min_eq_right (show o ≤ n by omega), Nat.min_eq_left (show o ≤ n by omega)]
  congr 1
  · congr 1
    rw [List.take_of_length_le]
    rw [List.length_take]; omega
  · rw [List.drop_take]
    congr 1
    simp only [List.length_append, List.length_take]
    rw [Nat.min_eq_left hl]
theorem flat_write {rows : List (List α)} {es : Nat} (h : ∀ r ∈ rows, r.length = es) {i : Nat} {row : List α} (hi : rows[i]? = some row) {f : Nat} {cs : List α} (hf : f + cs.length ≤ es) :
    (rows.set i (wr row f cs)).flatten = wr rows.flatten (i * es + f) cs := by
  have hilt : i < rows.length := (List.getElem?_eq_some_iff.1 hi).1
  have hd : rows = rows.take i ++ row :: rows.drop (i + 1) := by
    have h1 : rows.drop i = row :: rows.drop (i + 1) := by
      rw [List.drop_eq_getElem_cons hilt]
      congr 1
      exact (List.getElem?_eq_some_iff.1 hi).2
    rw [← h1, List.take_append_drop]
  have hset : rows.set i (wr row f cs) = rows.take i ++ wr row f cs :: rows.drop (i + 1) := by
    rw [List.set_eq_take_append_cons_drop, if_pos hilt]
  have hrow := h row (List.mem_of_getElem? hi)
  have hA : (rows.take i).flatten.length = i * es := by
    rw [flat_len (es := es) (fun r hr => h r (List.mem_of_mem_take hr)), List.length_take, Nat.min_eq_left (by omega)]
  rw [hset]
  conv => rhs; rw [hd]
  simp only [List.flatten_append, List.flatten_cons]
  rw [← hA, wr_left, wr_right _ _ _ _ (by omega)]
theorem flat_wr {rows : List (List α)} {es : Nat} (h : ∀ r ∈ rows, r.length = es) {news : List (List α)} (hn : ∀ r ∈ news, r.length = es) (k : Nat) :
    (wr rows k news).flatten = wr rows.flatten (k * es) news.flatten := by
  unfold wr
  rw [List.flatten_append, List.flatten_append, flat_take h, flat_drop h, flat_len hn, Nat.add_mul]
end wr

theorem writeRow_eq (row : List AV) (f : Nat) (cs : List AV) : writeRow row f cs = wr row f cs := rfl

theorem Concs.wr {M : Mem} {as cs : List AV} {vs us : List Value} (h : Concs M ρ as vs) (hc : Concs M ρ cs us) (o : Nat) : Concs M ρ (Ab.wr as o cs) (Ab.wr vs o us) := by
  unfold Ab.wr
  rw [hc.len]
  exact ((h.take o).append hc).append (h.drop _)

theorem setCell_heap {b o : Nat} {v : Value} {c : Array Value} {e : TypeId} {fz : Nat × Nat} (h : w.heap[b]? = some (.cells c e fz)) :
    (w.setCell ⟨b, o, none⟩ v).heap[b]? = some (.cells (c.setIfInBounds o v) e fz) := by
  simp [World.setCell, Array.getElem?_modify, h]
theorem setCell_other {b o b' : Nat} {v : Value} (h : b' ≠ b) : (w.setCell ⟨b, o, none⟩ v).heap[b']? = w.heap[b']? := by
  have : ¬ b = b' := fun e => h e.symm
  simp [World.setCell, Array.getElem?_modify, this]

theorem setCells_heap (b : Nat) : ∀ (vs : List Value) (o : Nat) (w : World) (c : Array Value) (e : TypeId) (fz : Nat × Nat), w.heap[b]? = some (.cells c e fz) → o + vs.length ≤ c.size →
    ∃ c', (w.setCells b o vs).heap[b]? = some (.cells c' e fz) ∧ c'.toList = wr c.toList o vs
  | [], o, w, c, e, fz, h, _ => ⟨c, h, by simp [wr]⟩
  | v :: vs, o, w, c, e, fz, h, hl => by
    have h1 := setCell_heap (o := o) (v := v) h
    obtain ⟨c', hc', hcl⟩ := setCells_heap b vs (o + 1) _ _ e fz h1 (by simp at hl ⊢; omega)
    refine ⟨c', hc', ?_⟩
    rw [hcl]
    simp only [List.length_cons] at hl
    unfold wr
    have hlt : o < c.toList.length := by rw [Array.length_toList]; omega
    rw [Array.toList_setIfInBounds, List.set_eq_take_append_cons_drop, if_pos hlt]
    have ht : (c.toList.take o).length = o := by rw [List.length_take]; omega
    have e1 : List.take (o + 1) (c.toList.take o ++ v :: c.toList.drop (o + 1)) = c.toList.take o ++ [v] := by
      conv => lhs; rw [show o + 1 = (c.toList.take o).length + 1 by omega]
      rw [List.take_length_add_append]; rfl
    have e2 : List.drop (o + 1 + vs.length) (c.toList.take o ++ v :: c.toList.drop (o + 1)) = c.toList.drop (o + (v :: vs).length) := by
      conv => lhs; rw [show o + 1 + vs.length = (c.toList.take o).length + (1 + vs.length) by omega]
      rw [List.drop_length_add_append, Nat.add_comm 1, List.drop_succ_cons, List.drop_drop]
      congr 1; simp; omega
    rw [e1, e2]; simp
theorem setCells_other (b : Nat) : ∀ (vs : List Value) (o : Nat) (w : World) (b' : Nat), b' ≠ b → (w.setCells b o vs).heap[b']? = w.heap[b']?
  | [], _, _, _, _ => rfl
  | v :: vs, o, w, b', h => by rw [World.setCells, setCells_other b vs _ _ b' h, setCell_other h]
theorem setCells_rest (b : Nat) : ∀ (vs : List Value) (o : Nat) (w : World), (w.setCells b o vs).heap.size = w.heap.size ∧ (w.setCells b o vs).tape = w.tape ∧ (w.setCells b o vs).os = w.os ∧ (w.setCells b o vs).output = w.output
  | [], _, _ => ⟨rfl, rfl, rfl, rfl⟩
  | v :: vs, o, w => by
    obtain ⟨h1, h2, h3, h4⟩ := setCells_rest b vs (o + 1) (w.setCell ⟨b, o, none⟩ v)
    exact ⟨by rw [World.setCells, h1]; simp, h2, h3, h4⟩

theorem setCell_thaw {b o : Nat} {v : Value} (h : ∀ x, w.heap[b]? = some x → ObjThaw x) : ∀ x, (w.setCell ⟨b, o, none⟩ v).heap[b]? = some x → ObjThaw x := by
  intro x hx
  simp only [World.setCell, Array.getElem?_modify, if_true, Option.map_eq_some_iff] at hx
  obtain ⟨y, hy, rfl⟩ := hx
  have := h y hy
  cases y with
  | cells c e fz => intro c' e' fz' he; cases he; exact this c e fz rfl
  | _ => exact this
theorem setCells_thaw (b : Nat) : ∀ (vs : List Value) (o : Nat) (w : World), (∀ x, w.heap[b]? = some x → ObjThaw x) → ∀ x, (w.setCells b o vs).heap[b]? = some x → ObjThaw x
  | [], _, _, h => h
  | v :: vs, o, w, h => by rw [World.setCells]; exact setCells_thaw b vs _ _ (setCell_thaw h)

/-- Cells of a block of ours are written. -/
theorem Rep.write (h : Rep B ρ σ w) {o : Nat} {e : TypeId} {es : Nat} {x : Bool} {rows rows' : List (List AV)} {l : Loc} (hg : σ.get o = some (.cells e es x rows)) (hr : ρ o = some l)
    (hl' : ∀ r ∈ rows', r.length = es) (hlen : rows'.length = rows.length) {off : Nat} {cs : List AV} {vs : List Value} (hf : rows'.flatten = wr rows.flatten off cs) (hoff : off + cs.length ≤ rows.length * es)
    (hc : Concs (memOf B) ρ cs vs) (h1 : ∀ u ∈ vs, u.oneCell' = true) :
    (storeCells ⟨l.blk, off, none⟩ vs).run P w = .ok () (w.setCells l.blk off vs) ∧ Rep B ρ (σ.set o (.cells e es x rows')) (w.setCells l.blk off vs) := by
  obtain ⟨q1, q2, q3, q4, c, q5, q6, q7⟩ := h.obj o _ l hg hr
  have hcl := hc.len
  have hcap : rows.length * es ≤ l.cap * es := Nat.mul_le_mul_right _ q2
  have hcs : c.toList.length = c.size := Array.length_toList
  refine ⟨?_, ?_⟩
  · have := run_storeCells_cells (P := P) l.blk off vs 0 w (fun j hj => by
      simp only [World.cell?, q5, Nat.add_zero]
      rw [if_neg (by simp), Array.getElem?_eq_getElem (by omega)]; rfl) (fun j hj => by simp [World.frozen?, q5]) h1
    simpa using this
  · obtain ⟨s1, s2, s3, s4⟩ := setCells_rest l.blk vs off w
    obtain ⟨c', hc', hcl'⟩ := setCells_heap l.blk vs off w c e _ q5 (by omega)
    refine h.mod hg rfl hr s1 (fun b hb => setCells_other l.blk vs off w b hb) s2 s3 s4 ?_ (setCells_thaw _ _ _ _ fun x hx => h.thaw _ x (h.new o l hr).1 hx)
    refine ⟨q1, by omega, fun hx => by rw [hlen]; exact q3 hx, hl', c', hc', ?_, ?_⟩
    · have := congrArg List.length hcl'
      rw [wr_len _ _ _ (by omega)] at this
      simpa [q6] using this
    · rw [hlen, hcl', wr_take _ _ _ _ (by omega) (by omega), hf]
      exact q7.wr hc off

theorem store_run (h : Rep B ρ σ w) {a v : AV} {x y : Value} {t : TypeId} (ha : Conc (memOf B) ρ a x) (hv : Conc (memOf B) ρ v y) {σ' : AS} (he : effStore P t a v σ = some σ') :
    ∃ w', (Instr.storeAt t x y).run P w = .ok () w' ∧ Rep B ρ σ' w' := by
  cases ha <;> simp only [effStore] at he <;> try (cases he; done)
  rename_i o i f l hr
  split at he
  · rename_i e es x rows hg
    split at he
    · rename_i row hrow
      split at he
      · rename_i hcond
        simp only [Bool.and_eq_true, decide_eq_true_eq] at hcond
        obtain ⟨⟨hsz, hle⟩, hcell⟩ := hcond
        simp at he; subst he
        obtain ⟨q1, q2, q3, q4, c, q5, q6, q7⟩ := h.obj o _ l hg hr
        have hcs := conc_cells hv
        have hrl := q4 row (List.mem_of_getElem? hrow)
        have hilt : i < rows.length := (List.getElem?_eq_some_iff.1 hrow).1
        have hmul : (i + 1) * es ≤ rows.length * es := Nat.mul_le_mul_right _ hilt
        rw [Nat.add_mul] at hmul
        obtain ⟨w1, w2⟩ := h.write (P := P) hg hr (rows' := rows.set i (writeRow row f (cellsOf v))) (mem_set_len q4 (by rw [writeRow_eq, wr_len _ _ _ hle, hrl])) (by simp)
          (off := i * es + f) (flat_write q4 hrow (by omega)) (by omega) hcs (oneCells_of hcs hcell)
        refine ⟨_, ?_, w2⟩
        obtain ⟨inf, hi, hin⟩ := sz_eq hsz
        have hsize : y.cells.size = inf.size := by rw [hin, hcs.len, Array.length_toList]
        rw [q1]
        simp [Instr.storeAt, Instr.sureAddr, storeVar, Sem.run_bind, sizeOf, typeInfo, hi, hsize, w1]
      · cases he
    · cases he
  · cases he

/-! ### New objects -/
theorem box_run (h : Rep B ρ σ w) {elem : TypeId} {v : Value} {cs : List AV} (hc : Concs (memOf B) ρ cs v.cells.toList) :
    ∃ ρ' w' y, (newVar elem v).run P w = .ok y w' ∧ Rep B ρ' (σ.push (.cells elem cs.length true [cs])) w' ∧ ρ.le ρ' ∧ Conc (memOf B) ρ' (.ptr σ.newId 0 0) (.pointer (some y)) := by
  refine ⟨ρ.ext σ.newId ⟨w.heap.size, 1, cs.length⟩, w.alloc (.cells v.cells elem), ⟨w.heap.size, 0, none⟩, rfl, ?_, h.le_ext _, ?_⟩
  · refine h.push rfl rfl rfl rfl rfl ⟨rfl, by simp, fun _ => rfl, by simp, v.cells, ?_, ?_, ?_⟩
    · exact Array.getElem?_push_size
    · have := hc.len
      have hcs : v.cells.toList.length = v.cells.size := Array.length_toList
      show v.cells.size = 1 * cs.length
      omega
    · have := hc.len
      simp only [List.length_cons, List.length_nil, Nat.zero_add, Nat.one_mul, List.flatten_cons, List.flatten_nil, List.append_nil]
      rw [List.take_of_length_le (by omega)]
      exact hc.mono (h.le_ext _)
  · have := Conc.ptr (M := memOf B) (i := 0) (f := 0) (Rho.ext_self ρ σ.newId ⟨w.heap.size, 1, cs.length⟩)
    simpa using this

/-- A new row of cells: an object of as many rows. -/
theorem row_run (h : Rep B ρ σ w) {elem : TypeId} {c : Array Value} {rows : List (List AV)} {es n : Nat} (hl : ∀ r ∈ rows, r.length = es) (hc : Concs (memOf B) ρ rows.flatten c.toList) :
    ∃ ρ' w', (newRow elem c).run P w = .ok ⟨w.heap.size, 0, none⟩ w' ∧ Rep B ρ' (σ.push (.cells elem es true rows)) w' ∧ ρ.le ρ' ∧
      Conc (memOf B) ρ' (.sl σ.newId 0 n none) (.slice (some ⟨w.heap.size, 0, none⟩) n rows.length) := by
  have hfl := flat_len hl
  have hcl := hc.len
  refine ⟨ρ.ext σ.newId ⟨w.heap.size, rows.length, es⟩, w.alloc (.cells c elem), rfl, ?_, h.le_ext _, ?_⟩
  · refine h.push rfl rfl rfl rfl rfl ⟨rfl, by simp, fun _ => rfl, hl, c, ?_, ?_, ?_⟩
    · exact Array.getElem?_push_size
    · have hcs : c.toList.length = c.size := Array.length_toList
      show c.size = rows.length * es
      omega
    · rw [List.take_of_length_le (by rw [← hcl, hfl]; exact Nat.le_refl _)]
      exact hc.mono (h.le_ext _)
  · have := Conc.sl (M := memOf B) (i := 0) (n := n) (Rho.ext_self ρ σ.newId ⟨w.heap.size, rows.length, es⟩)
    simpa using this

end Go.Ab
