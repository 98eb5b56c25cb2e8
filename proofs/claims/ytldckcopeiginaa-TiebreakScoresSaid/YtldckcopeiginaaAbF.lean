/- Building values and slices; fields, elements. -/
import Derived.Test.YtldckcopeiginaaAbE
import Derived.Laws.Tables
import Derived.Laws.MakeOwn
namespace Go.Ab
variable {P : Program} {B : World} {ρ : Rho} {σ : AS} {w : World}

theorem foldl_wr (off : Nat) : ∀ (vs : List Value) (k : Nat) (arr : Array Value), off + k + vs.length ≤ arr.size →
    ((vs.zipIdx k).foldl (fun (cs : Array Value) (p : Value × Nat) => cs.setIfInBounds (off + p.2) p.1) arr).toList = wr arr.toList (off + k) vs
  | [], k, arr, _ => by simp [wr]
  | v :: vs, k, arr, h => by
    simp only [List.length_cons] at h
    rw [List.zipIdx_cons, List.foldl_cons, foldl_wr off vs (k + 1) _ (by rw [Array.size_setIfInBounds]; omega), Array.toList_setIfInBounds]
    have hsz : arr.toList.length = arr.size := Array.length_toList
    have hlt : off + k < arr.toList.length := by omega
    unfold wr
    rw [List.set_eq_take_append_cons_drop, if_pos hlt]
    have ht : (arr.toList.take (off + k)).length = off + k := by rw [List.length_take]; omega
    have e1 : List.take (off + (k + 1)) (arr.toList.take (off + k) ++ v :: arr.toList.drop (off + k + 1)) = arr.toList.take (off + k) ++ [v] := by
      conv => lhs; rw [show off + (k + 1) = (arr.toList.take (off + k)).length + 1 by omega]
      rw [List.take_length_add_append]; rfl
    have e2 : List.drop (off + (k + 1) + vs.length) (arr.toList.take (off + k) ++ v :: arr.toList.drop (off + k + 1)) = arr.toList.drop (off + k + (v :: vs).length) := by
      conv => lhs; rw [show off + (k + 1) + vs.length = (arr.toList.take (off + k)).length + (1 + vs.length) by omega]
      rw [List.drop_length_add_append, Nat.add_comm 1, List.drop_succ_cons, List.drop_drop]
      congr 1; simp; omega
    rw [e1, e2]; simp

theorem fill_step (off : Nat) (v : Value) (arr : Array Value) (h : off + v.cells.size ≤ arr.size) :
    (v.cells.zipIdx.foldl (fun (cs : Array Value) (c, j) => cs.setIfInBounds (off + j) c) arr).toList = wr arr.toList off v.cells.toList := by
  have hsz : v.cells.toList.length = v.cells.size := Array.length_toList
  have := foldl_wr off v.cells.toList 0 arr (by omega)
  rw [Nat.add_zero] at this
  rw [← this, ← Array.foldl_toList, Array.toList_zipIdx]

theorem afill_fill {M : Mem} {place : Nat → Option (Nat × Nat)} : ∀ (ps : List (Nat × AV)) (qs : List (Nat × Value)) (cells cells' : List AV) (arr : Array Value), Concs M ρ cells arr.toList →
    ps.map (·.1) = qs.map (·.1) → Concs M ρ (ps.map (·.2)) (qs.map (·.2)) → afill place cells ps = some cells' → ∃ arr', Instr.fill place arr qs = some arr' ∧ Concs M ρ cells' arr'.toList
  | [], qs, cells, cells', arr, hc, hq, hv, h => by
    cases qs with
    | nil => simp [afill] at h; subst h; exact ⟨arr, rfl, hc⟩
    | cons q qs => simp at hq
  | (i, v) :: ps, qs, cells, cells', arr, hc, hq, hv, h => by
    cases qs with
    | nil => simp at hq
    | cons q qs =>
      obtain ⟨i', x⟩ := q
      simp only [List.map_cons, List.cons.injEq] at hq
      obtain ⟨rfl, hq⟩ := hq
      cases hv with
      | cons hvx hvs =>
        have hvx : Conc M ρ v x := hvx
        simp only [afill] at h
        split at h
        · cases h
        · rename_i off size hp
          split at h
          · rename_i hcond
            obtain ⟨h1, h2⟩ := hcond
            have hcs := conc_cells hvx
            have hl := hcs.len
            have hl2 := hc.len
            have hsz : x.cells.toList.length = x.cells.size := Array.length_toList
            have hsz2 : arr.toList.length = arr.size := Array.length_toList
            have hcond : ¬ ((decide (x.cells.size ≠ size) || decide (off + x.cells.size > arr.size)) = true) := by
              simp; omega
            have := afill_fill ps qs _ cells' (x.cells.zipIdx.foldl (fun (cs : Array Value) (c, j) => cs.setIfInBounds (off + j) c) arr) (by
              rw [fill_step off x arr (by omega)]
              exact hc.wr hcs off) hq hvs h
            obtain ⟨arr', ha, hc'⟩ := this
            refine ⟨arr', ?_, hc'⟩
            simp only [Instr.fill, hp]
            rw [if_neg hcond]
            exact ha
          · cases h

theorem build_run {t : TypeId} {ps : List (Nat × AV)} {qs : Array (Nat × Value)} {v : AV} (hq : ps.map (·.1) = qs.toList.map (·.1)) (hv : Concs (memOf B) ρ (ps.map (·.2)) (qs.toList.map (·.2)))
    (h : effBuild P t ps = some v) (w : World) : ∃ y, (Instr.build t qs).run P w = .ok y w ∧ Conc (memOf B) ρ v y := by
  have key : ∃ cells, P.built t qs.toList = some cells ∧ Conc (memOf B) ρ v (.agg cells) := by
    unfold effBuild at h
    unfold Program.built
    split at h
    · rename_i it fields hit hu
      split at h
      · rename_i z places hz hp
        simp only [Option.map_eq_some_iff] at h
        obtain ⟨cs, hcs, rfl⟩ := h
        obtain ⟨arr, ha, hc⟩ := afill_fill ps qs.toList _ cs z.cells (Concs.ofS _) hq hv hcs
        refine ⟨arr, ?_, by simpa using conc_mkAgg hc⟩
        simp only [hit, hu, hz, hp, ha]
      · cases h
    · rename_i it n elem hit hu
      split at h
      · rename_i z ie hz hp
        simp only [Option.map_eq_some_iff] at h
        obtain ⟨cs, hcs, rfl⟩ := h
        obtain ⟨arr, ha, hc⟩ := afill_fill ps qs.toList _ cs z.cells (Concs.ofS _) hq hv hcs
        refine ⟨arr, ?_, by simpa using conc_mkAgg hc⟩
        simp only [hit, hu, hz, hp, ha]
      · cases h
    · cases h
  obtain ⟨cells, hb, hc⟩ := key
  exact ⟨_, run_build w t qs cells hb, hc⟩

theorem made_toList (z : Array Value) : ∀ k : Nat, ((Array.range (k * z.size)).map (z[· % z.size]!)).toList = (List.replicate k z.toList).flatten
  | 0 => by simp
  | k + 1 => by
    have ih := made_toList z k
    simp only [Array.toList_map, Array.toList_range] at ih ⊢
    rw [Nat.add_mul, Nat.one_mul, List.range_add, List.map_append, ih, List.replicate_succ', List.flatten_append]
    congr 1
    simp only [List.flatten_cons, List.flatten_nil, List.append_nil, List.map_map]
    apply List.ext_getElem
    · simp
    · intro i h1 h2
      simp only [List.length_map, List.length_range] at h1
      simp [Nat.mul_comm k, Nat.mul_add_mod, Nat.mod_eq_of_lt h1, h1]

theorem setRows_fill {M : Mem} {size : Nat} : ∀ (ps : List (Nat × AV)) (qs : List (Nat × Value)) (rows rows' : List (List AV)) (arr : Array Value), (∀ r ∈ rows, r.length = size) → Concs M ρ rows.flatten arr.toList →
    ps.map (·.1) = qs.map (·.1) → Concs M ρ (ps.map (·.2)) (qs.map (·.2)) → setRows size rows ps = some rows' →
    (∀ r ∈ rows', r.length = size) ∧ rows'.length = rows.length ∧ ∃ arr', Instr.fill (fun i => some (i * size, size)) arr qs = some arr' ∧ Concs M ρ rows'.flatten arr'.toList
  | [], qs, rows, rows', arr, hr, hc, hq, hv, h => by
    cases qs with
    | nil => simp [setRows] at h; subst h; exact ⟨hr, rfl, arr, rfl, hc⟩
    | cons q qs => simp at hq
  | (i, v) :: ps, qs, rows, rows', arr, hr, hc, hq, hv, h => by
    cases qs with
    | nil => simp at hq
    | cons q qs =>
      obtain ⟨i', x⟩ := q
      simp only [List.map_cons, List.cons.injEq] at hq
      obtain ⟨rfl, hq⟩ := hq
      cases hv with
      | cons hvx hvs =>
        have hvx : Conc M ρ v x := hvx
        simp only [setRows] at h
        split at h
        · rename_i hcond
          obtain ⟨h1, h2⟩ := hcond
          have hcs := conc_cells hvx
          have hl := hcs.len
          have hl2 := hc.len
          have hfl := flat_len hr
          have hmul : (i + 1) * size ≤ rows.length * size := Nat.mul_le_mul_right _ h2
          rw [Nat.add_mul] at hmul
          have hsz : x.cells.toList.length = x.cells.size := Array.length_toList
          have hsz2 : arr.toList.length = arr.size := Array.length_toList
          have hcond : ¬ ((decide (x.cells.size ≠ size) || decide (i * size + x.cells.size > arr.size)) = true) := by
            simp; omega
          have hset : (rows.set i (cellsOf v)).flatten = wr rows.flatten (i * size) (cellsOf v) := by
            rw [flat_set hr h2]; unfold wr; rw [h1, Nat.add_mul, Nat.one_mul]
          obtain ⟨k1, k2, arr', ha, hc'⟩ := setRows_fill ps qs (rows.set i (cellsOf v)) rows' (x.cells.zipIdx.foldl (fun (cs : Array Value) (c, j) => cs.setIfInBounds (i * size + j) c) arr)
            (mem_set_len hr h1) (by rw [fill_step (i * size) x arr (by omega), hset]; exact hc.wr hcs _) hq hvs h
          refine ⟨k1, by simpa using k2, arr', ?_, hc'⟩
          simp only [Instr.fill]
          rw [if_neg hcond]
          exact ha
        · cases h

theorem zero_rows {z : Value} {n : Nat} {size : Nat} (hz : z.cells.size = size) {M : Mem} : (∀ r ∈ List.replicate n (z.cells.toList.map AV.s), r.length = size) ∧
    Concs M ρ (List.replicate n (z.cells.toList.map AV.s)).flatten ((Array.range (n * size)).map (z.cells[· % z.cells.size]!)).toList := by
  refine ⟨fun r hr => ?_, ?_⟩
  · rw [(List.mem_replicate.1 hr).2]; simp [hz]
  · subst hz
    rw [made_toList, show List.replicate n (z.cells.toList.map AV.s) = (List.replicate n z.cells.toList).map (·.map AV.s) by simp, ← List.map_flatten]
    exact Concs.ofS _

theorem buildSlice_run (h : Rep B ρ σ w) {t : TypeId} {len : Nat} {ps : List (Nat × AV)} {qs : Array (Nat × Value)} {r : ANext} {σ' : AS} (hq : ps.map (·.1) = qs.toList.map (·.1))
    (hv : Concs (memOf B) ρ (ps.map (·.2)) (qs.toList.map (·.2))) (he : effBuildSlice P t len ps σ = some (r, σ')) :
    ∃ v ρ' w' y, r = .val v ∧ (Instr.buildSlice t len qs).run P w = .ok y w' ∧ Rep B ρ' σ' w' ∧ ρ.le ρ' ∧ Conc (memOf B) ρ' v y := by
  unfold effBuildSlice at he
  split at he
  · rename_i elem hu
    split at he
    · rename_i info hi
      split at he
      · rename_i z hz
        split at he
        · rename_i hcond
          obtain ⟨hzs, hsmall⟩ := hcond
          split at he
          · rename_i rows hrows
            simp only [Option.some.injEq, Prod.mk.injEq] at he
            obtain ⟨rfl, rfl⟩ := he
            obtain ⟨hr0, hc0⟩ := zero_rows (ρ := ρ) (M := memOf B) (n := len) hzs
            obtain ⟨k1, k2, arr, ha, hc⟩ := setRows_fill ps qs.toList _ rows _ hr0 hc0 hq hv hrows
            obtain ⟨ρ', w', hrun, hrep, hle, hconc⟩ := row_run (P := P) h (elem := elem) (c := arr) (n := len) k1 hc
            refine ⟨_, ρ', w', .slice (some ⟨w.heap.size, 0, none⟩) len len, rfl, ?_, hrep, hle, ?_⟩
            · have hs2 : ¬ (len * info.size > 2 ^ 24) := by omega
              by_cases h0 : len * info.size = 0
              · have ha' : Instr.fill (fun i => some (i * info.size, info.size)) #[] qs.toList = some arr := by
                  rw [← ha]; congr 1; simp [h0, Array.range_zero']
                simp [Instr.buildSlice, run_underlying hu, sizeOf, typeInfo, hi, h0, ha', hrun, Sem.run_bind, Array.range_zero']
              · simp [Instr.buildSlice, run_underlying hu, sizeOf, typeInfo, zeroValue, hi, hz, hs2, h0, ha, hrun, Sem.run_bind]
            · simp only [List.length_replicate] at k2
              rw [k2] at hconc; exact hconc
          · cases he
        · cases he
      · cases he
    · cases he
  · cases he

theorem makeSlice_run (h : Rep B ρ σ w) {t : TypeId} {l c : AV} {x y : Value} {r : ANext} {σ' : AS} (hl : Conc (memOf B) ρ l x) (hc : Conc (memOf B) ρ c y) (he : effMakeSlice P t l c σ = some (r, σ')) :
    ∃ v ρ' w' u, r = .val v ∧ (Instr.makeSlice t x y).run P w = .ok u w' ∧ Rep B ρ' σ' w' ∧ ρ.le ρ' ∧ Conc (memOf B) ρ' v u := by
  unfold effMakeSlice at he
  split at he
  · rename_i elem kl len kc cap hu
    cases hl; cases hc
    split at he
    · rename_i info hi
      split at he
      · rename_i z hz
        split at he
        · rename_i hcond
          obtain ⟨hzs, h0, h1, h2, h3⟩ := hcond
          simp only [Option.some.injEq, Prod.mk.injEq] at he
          obtain ⟨rfl, rfl⟩ := he
          obtain ⟨hr0, hc0⟩ := zero_rows (ρ := ρ) (M := memOf B) (n := cap.toNat) hzs
          obtain ⟨ρ', w', hrun, hrep, hle, hconc⟩ := row_run (P := P) h (elem := elem) (n := len.toNat) hr0 hc0
          have hmk := run_make (P := P) w t elem info z hu hi hz kl kc len cap h0 h1 h3 (by omega)
          have hw : w' = w.alloc (.cells (madeCells z.cells (cap.toNat * info.size)) elem) := by
            have : (newRow elem ((Array.range (cap.toNat * info.size)).map (z.cells[· % z.cells.size]!))).run P w = .ok ⟨w.heap.size, 0, none⟩ (w.alloc (.cells (madeCells z.cells (cap.toNat * info.size)) elem)) := rfl
            rw [this] at hrun
            cases hrun; rfl
          refine ⟨_, ρ', w', .slice (some ⟨w.heap.size, 0, none⟩) len.toNat cap.toNat, rfl, ?_, hrep, hle, ?_⟩
          · rw [hw]; exact hmk
          · simpa using hconc
        · cases he
      · cases he
    · cases he
  · cases he

end Go.Ab
