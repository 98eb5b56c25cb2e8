/- What comes in: arguments that can be read as plain data, as abstract values; and the frame of a law. -/
import Derived.Test.YtldckcopeiginaaAbZ
import Derived.WideKeyArgs
import Derived.ProofKit
import Derived.OpenShut
import Derived.WalkKit
namespace Go.Ab
open Go.ChangeShapes Go.WideShapes Go.ChangeAt Go.RowKit Go.WideElems
variable {P : Program} {H : Type} {enc : TypeId × Value → H}

/-- What cells of a type are. -/
inductive Ty (P : Program) : TypeId → List AV → Prop
  | bool {t : TypeId} {b : Bool} (h : P.underlying t = some .bool) : Ty P t [.s (.bool b)]
  | int {t : TypeId} {k : IntKind} {n : Int} (h : P.underlying t = some (.int k)) (hw : (Lit.int k n).wf = true) : Ty P t [.s (.int k n)]
  | str {t : TypeId} {s : ByteArray} (h : P.underlying t = some .string) (hs : s.size ≤ maxLen) : Ty P t [.s (.string s)]
  | empty {t e : TypeId} {a : Option Addr} {cap : Nat} (h : P.underlying t = some (.slice e)) (hc : cap ≤ maxLen) : Ty P t [.s (.slice a 0 cap)]
  | rsl {t e : TypeId} {a : Addr} {cap : Nat} {rows : List (List AV)} (h : P.underlying t = some (.slice e)) (hp : 0 < rows.length) (hn : rows.length ≤ cap) (hc : cap ≤ maxLen) (hl : ∀ r ∈ rows, r.length = P.cellsOf e) (hr : ∀ r ∈ rows, Ty P e r) :
      Ty P t [.rsl a (P.cellsOf e) cap rows]
  | struct {t : TypeId} {fs : Array Field} {as : List AV} (h : P.underlying t = some (.struct fs)) (hl : as.length = P.cellsOf t) (hf : ∀ f ∈ fs.toList, Ty P f.type ((as.drop f.offset).take (P.cellsOf f.type))) : Ty P t as
  | array {t e : TypeId} {n : Nat} {as : List AV} (h : P.underlying t = some (.array n e)) (hl : as.length = n * P.cellsOf e) (hf : ∀ i, i < n → Ty P e ((as.drop (i * P.cellsOf e)).take (P.cellsOf e))) : Ty P t as

def contig (P : Program) : List Field → Nat → Option Nat
  | [], o => some o
  | f :: fs, o => if f.offset = o then contig P fs (o + P.cellsOf f.type) else none
def plainTy (P : Program) : Nat → TypeId → Bool
  | 0, _ => false
  | n + 1, t =>
    match P.underlying t with
    | some .bool | some (.int _) | some .string => true
    | some (.slice e) => decide (0 < P.cellsOf e) && plainTy P n e
    | some (.struct fs) => contig P fs.toList 0 == some (P.cellsOf t) && fs.toList.all fun f => plainTy P n f.type
    | some (.array k e) => k * P.cellsOf e == P.cellsOf t && plainTy P n e
    | _ => false

theorem contig_le : ∀ (fs : List Field) (o m : Nat), contig P fs o = some m → o ≤ m
  | [], o, m, h => by cases h; exact Nat.le_refl _
  | f :: fs, o, m, h => by
    simp only [contig] at h
    split at h
    · have := contig_le fs _ m h; omega
    · cases h

section
variable {M : Mem} {ρ : Rho}
theorem fields_open {cs : List Value} : ∀ (fs : List Field) (o m : Nat), contig P fs o = some m → m ≤ cs.length →
    (∀ f ∈ fs, ∃ af, Concs M ρ af ((cs.drop f.offset).take (P.cellsOf f.type)) ∧ Ty P f.type af) →
    ∃ as, Concs M ρ as ((cs.drop o).take (m - o)) ∧ ∀ f ∈ fs, o ≤ f.offset ∧ Ty P f.type ((as.drop (f.offset - o)).take (P.cellsOf f.type))
  | [], o, m, h, hm, hf => by
    cases h
    exact ⟨[], by simp; exact .nil, fun f hf => by cases hf⟩
  | f :: fs, o, m, h, hm, hf => by
    simp only [contig] at h
    split at h
    · rename_i hoff
      have hle := contig_le fs _ m h
      obtain ⟨af, h1, h2⟩ := hf f (by simp)
      obtain ⟨as, h3, h4⟩ := fields_open fs _ m h hm (fun g hg => hf g (List.mem_cons_of_mem _ hg))
      have hlen : af.length = P.cellsOf f.type := by rw [h1.len, List.length_take, List.length_drop]; omega
      refine ⟨af ++ as, ?_, ?_⟩
      · have e : (cs.drop o).take (m - o) = (cs.drop f.offset).take (P.cellsOf f.type) ++ (cs.drop (o + P.cellsOf f.type)).take (m - (o + P.cellsOf f.type)) := by
          rw [hoff, show m - o = P.cellsOf f.type + (m - (o + P.cellsOf f.type)) by omega, List.take_add, List.drop_drop]
        rw [e]
        exact h1.append h3
      · intro g hg
        rcases List.mem_cons.1 hg with rfl | hg
        · refine ⟨by omega, ?_⟩
          rw [hoff, Nat.sub_self, List.drop_zero, ← hlen, List.take_left]
          exact h2
        · obtain ⟨h5, h6⟩ := h4 g hg
          refine ⟨by omega, ?_⟩
          rw [show g.offset - o = af.length + (g.offset - (o + P.cellsOf f.type)) by omega, List.drop_length_add_append]
          exact h6
    · cases h

theorem exists_list {α : Type} {p : Nat → α → Prop} : ∀ (n : Nat), (∀ i, i < n → ∃ a, p i a) → ∃ l : List α, l.length = n ∧ ∀ i a, l[i]? = some a → p i a
  | 0, _ => ⟨[], rfl, fun i a h => by simp at h⟩
  | n + 1, h => by
    obtain ⟨l, h1, h2⟩ := exists_list n (fun i hi => h i (by omega))
    obtain ⟨a, ha⟩ := h n (by omega)
    refine ⟨l ++ [a], by simp [h1], fun i b hb => ?_⟩
    rw [List.getElem?_append] at hb
    split at hb
    · exact h2 i b hb
    · rename_i hi
      have : i - l.length = 0 := by
        have := (List.getElem?_eq_some_iff.1 hb).1
        simp at this; omega
      rw [this] at hb
      simp at hb
      have hin : i = n := by omega
      subst hb hin; exact ha

/-- Rows one behind the other. -/
theorem rows_concs {c : Nat} {vs : List Value} : ∀ (rows : List (List AV)), (∀ r ∈ rows, r.length = c) → rows.length * c ≤ vs.length → (∀ i r, rows[i]? = some r → Concs M ρ r ((vs.drop (i * c)).take c)) →
    Concs M ρ rows.flatten (vs.take (rows.length * c))
  | [], _, _, _ => by simp; exact .nil
  | r :: rows, hl, hle, h => by
    have h0 := h 0 r rfl
    simp only [Nat.zero_mul, List.drop_zero] at h0
    have hle' : c + rows.length * c ≤ vs.length := by simpa [Nat.add_mul, Nat.add_comm] using hle
    have ih := rows_concs (vs := vs.drop c) rows (fun q hq => hl q (List.mem_cons_of_mem _ hq)) (by rw [List.length_drop]; omega) (fun i q hq => by
      have := h (i + 1) q (by simpa using hq)
      rw [List.drop_drop]
      rwa [Nat.add_mul, Nat.one_mul, Nat.add_comm] at this)
    have e : vs.take ((r :: rows).length * c) = vs.take c ++ (vs.drop c).take (rows.length * c) := by
      rw [List.length_cons, Nat.add_mul, Nat.one_mul, Nat.add_comm, List.take_add]
    rw [e, List.flatten_cons]
    exact h0.append ih
end

theorem cells_get {w : World} {base : Nat} {a : Addr} {n : Nat} {cs : List Value} (h : w.cells? base a n = some cs) : cs.length = n ∧ ∀ i, i < n → w.cell? (a.add i) = cs[i]? := by
  unfold World.cells? at h
  split at h
  · refine ⟨by have := mapM_some_length h; simpa using this, fun i hi => ?_⟩
    exact mapM_some_get h i i (by simp [hi])
  · cases h

theorem add_spot {a : Addr} {n : Nat} {w : World} {v : Value} (h : w.cell? (a.add n) = some v) : ∃ c e fz, w.heap[a.block]? = some (.cells c e fz) ∧ c[a.off + n]? = some v ∧ (n = 0 → a.spot = none) := by
  unfold World.cell? at h
  have hb : (a.add n).block = a.block := by unfold Addr.add; split <;> rfl
  have ho : (a.add n).off = a.off + n := by unfold Addr.add; split <;> simp_all
  rw [hb, ho] at h
  split at h
  · rename_i c e fz hm
    refine ⟨c, e, fz, hm, ?_, ?_⟩
    · split at h
      · cases h
      · exact h
    · intro h0
      subst h0
      split at h
      · cases h
      · rename_i hs
        simpa [Addr.add] using hs
  · cases h

theorem open_cells {w : World} {spare : Nat → Bool} {held : Bool} : ∀ (n fuel : Nat) (t : TypeId) (cs : List Value) (x : DataW H × List MemPlace), plainTy P n t = true → DataW.trod enc P w 0 spare held fuel t cs = some x →
    ∃ as, Concs (memOf w) (fun _ => none) as cs ∧ Ty P t as
  | 0, _, _, _, _, h, _ => by cases h
  | n + 1, fuel, t, cs, x, hp, h => by
    simp only [plainTy] at hp
    split at hp
    · rename_i ht
      obtain ⟨b, rfl, _⟩ := DataW.trod_bool ht h
      exact ⟨_, .one (.s _), .bool ht⟩
    · rename_i k ht
      obtain ⟨m, rfl, _, hw⟩ := DataW.trod_int ht h
      exact ⟨_, .one (.s _), .int ht hw⟩
    · rename_i ht
      obtain ⟨s, rfl, _, hs⟩ := DataW.trod_string ht h
      exact ⟨_, .one (.s _), .str ht hs⟩
    · rename_i e ht
      simp only [Bool.and_eq_true, decide_eq_true_eq] at hp
      obtain ⟨hc, hpe⟩ := hp
      rcases DataW.trod_slice ht h with ⟨rfl, _⟩ | ⟨a, len, cap, elems, rest, m, _, rfl, _, _, hl, hm, hlen, hel, _⟩
      · exact ⟨_, .one (.s _), .empty ht (Nat.zero_le _)⟩
      · cases len with
        | zero => exact ⟨_, .one (.s _), .empty ht hm⟩
        | succ len =>
          have hrow : ∀ i, i < len + 1 → ∃ r, ∃ cs', w.cells? 0 (a.add (i * P.cellsOf e)) (P.cellsOf e) = some cs' ∧ Concs (memOf w) (fun _ => none) r cs' ∧ Ty P e r := fun i hi => by
            have := hel i hi
            rw [List.getElem?_eq_getElem (by omega)] at this
            simp only [Option.bind_eq_some_iff] at this
            obtain ⟨cs', h1, h2⟩ := this
            obtain ⟨r, h3, h4⟩ := open_cells n m e cs' _ hpe h2
            exact ⟨r, cs', h1, h3, h4⟩
          obtain ⟨rows, hrl, hrows⟩ := exists_list _ hrow
          -- the first cell tells the block
          obtain ⟨r0, hr0⟩ : ∃ r0, rows[0]? = some r0 := ⟨rows[0], List.getElem?_eq_getElem (by omega)⟩
          obtain ⟨cs0, h1, _, _⟩ := hrows 0 r0 hr0
          obtain ⟨h2, h3⟩ := cells_get h1
          have h4 := h3 0 hc
          rw [List.getElem?_eq_getElem (by omega)] at h4
          have e0 : (a.add (0 * P.cellsOf e)).add 0 = a.add 0 := by simp [Addr.add]
          rw [e0] at h4
          obtain ⟨c, ce, fz, hm0, _, hspot⟩ := add_spot h4
          have hsp := hspot rfl
          obtain ⟨blk, off, spot⟩ := a
          simp only at hsp hm0
          subst hsp
          have hcell : ∀ i r, rows[i]? = some r → ∀ j, j < P.cellsOf e → ∃ cs', Concs (memOf w) (fun _ => none) r cs' ∧ cs'.length = P.cellsOf e ∧ c[off + (i * P.cellsOf e + j)]? = cs'[j]? := fun i r hi j hj => by
            obtain ⟨cs', k1, k2, _⟩ := hrows i r hi
            obtain ⟨k3, k4⟩ := cells_get k1
            refine ⟨cs', k2, k3, ?_⟩
            have k5 := k4 j hj
            rw [List.getElem?_eq_getElem (by omega)] at k5
            have e1 : (Addr.add ⟨blk, off, none⟩ (i * P.cellsOf e)).add j = Addr.add ⟨blk, off, none⟩ (i * P.cellsOf e + j) := by
              simp only [Addr.add]
              by_cases h0 : i * P.cellsOf e = 0 <;> by_cases h1 : j = 0 <;> simp [h0, h1, Nat.add_assoc]
            rw [e1] at k5
            obtain ⟨c', _, _, hm', hv, _⟩ := add_spot k5
            simp only at hm' hv
            rw [hm0] at hm'; cases hm'
            rw [hv, List.getElem?_eq_getElem (by omega)]
          have hrlen : ∀ r ∈ rows, r.length = P.cellsOf e := fun r hr => by
            obtain ⟨i, hi, hie⟩ := List.getElem_of_mem hr
            obtain ⟨cs', k1, k2, _⟩ := hcell i r (by rw [← hie]; exact List.getElem?_eq_getElem hi) 0 hc
            rw [k1.len, k2]
          have hdrop : ∀ i r, rows[i]? = some r → ∃ cs', Concs (memOf w) (fun _ => none) r cs' ∧ ((c.toList.drop off).drop (i * P.cellsOf e)).take (P.cellsOf e) = cs' ∧ off + (i * P.cellsOf e) + P.cellsOf e ≤ c.size := fun i r hi => by
            obtain ⟨cs', k1, k2, _⟩ := hrows i r hi
            obtain ⟨k3, k4⟩ := cells_get k1
            have hall : ∀ j, j < P.cellsOf e → c[off + (i * P.cellsOf e + j)]? = cs'[j]? := fun j hj => by
              have k5 := k4 j hj
              rw [List.getElem?_eq_getElem (by omega)] at k5
              have e1 : (Addr.add ⟨blk, off, none⟩ (i * P.cellsOf e)).add j = Addr.add ⟨blk, off, none⟩ (i * P.cellsOf e + j) := by
                simp only [Addr.add]
                by_cases h0 : i * P.cellsOf e = 0 <;> by_cases h1 : j = 0 <;> simp [h0, h1, Nat.add_assoc]
              rw [e1] at k5
              obtain ⟨c', _, _, hm', hv, _⟩ := add_spot k5
              simp only at hm' hv
              rw [hm0] at hm'; cases hm'
              rw [hv, List.getElem?_eq_getElem (by omega)]
            have hin : off + (i * P.cellsOf e) + P.cellsOf e ≤ c.size := by
              have := hall (P.cellsOf e - 1) (by omega)
              rw [List.getElem?_eq_getElem (by omega)] at this
              have := (Array.getElem?_eq_some_iff.1 this).1
              omega
            refine ⟨cs', k2, ?_, hin⟩
            apply List.ext_getElem?
            intro j
            by_cases hj : j < P.cellsOf e
            · rw [List.getElem?_take_of_lt hj, List.getElem?_drop, List.getElem?_drop, Array.getElem?_toList, ← hall j hj]
            · rw [List.getElem?_eq_none (by rw [List.length_take]; omega), List.getElem?_eq_none (by omega)]
          have hlast : off + rows.length * P.cellsOf e ≤ c.size := by
            obtain ⟨r1, hr1⟩ : ∃ r1, rows[len]? = some r1 := ⟨rows[len], List.getElem?_eq_getElem (by omega)⟩
            obtain ⟨_, _, _, h5⟩ := hdrop len r1 hr1
            rw [hrl, Nat.add_mul, Nat.one_mul]; omega
          refine ⟨[.rsl ⟨blk, off, none⟩ (P.cellsOf e) cap rows], .one ?_, .rsl ht (by omega) (by omega) hm hrlen (fun r hr => ?_)⟩
          · have hmem : ConcMem (memOf w) (fun _ => none) blk off (P.cellsOf e) rows := by
              refine .mk hm0 hrlen ?_
              refine rows_concs rows hrlen (by have hcz : c.toList.length = c.size := Array.length_toList
                                               rw [List.length_drop]; omega) (fun i r hi => ?_)
              obtain ⟨cs', k1, k2, _⟩ := hdrop i r hi
              rw [k2]; exact k1
            have := Conc.rsl hmem (cap := cap) (by omega)
            rw [hrl] at this
            exact this
          · obtain ⟨i, hi, hie⟩ := List.getElem_of_mem hr
            obtain ⟨cs', _, _, k⟩ := hrows i r (by rw [← hie]; exact List.getElem?_eq_getElem hi)
            exact k
    · rename_i fs ht
      simp only [Bool.and_eq_true, beq_iff_eq, List.all_eq_true] at hp
      obtain ⟨hcon, hpf⟩ := hp
      obtain ⟨xs, m, _, _, hlen, hxl, hx⟩ := DataW.trod_struct ht h
      have hf : ∀ f ∈ fs.toList, ∃ af, Concs (memOf w) (fun _ => none) af ((cs.drop f.offset).take (P.cellsOf f.type)) ∧ Ty P f.type af := fun f hf => by
        obtain ⟨i, hi, hie⟩ := List.getElem_of_mem hf
        rw [Array.length_toList] at hi
        have h1 := hx i f (by rw [← hie]; simp [hi])
        rw [List.getElem?_eq_getElem (by omega)] at h1
        exact open_cells n m f.type _ _ (hpf f hf) h1
      obtain ⟨as, h1, h2⟩ := fields_open fs.toList 0 _ hcon (by omega) hf
      rw [List.drop_zero, Nat.sub_zero, List.take_of_length_le (by omega)] at h1
      refine ⟨as, h1, .struct ht (by rw [h1.len, hlen]) (fun f hf => ?_)⟩
      have := (h2 f hf).2
      rwa [Nat.sub_zero] at this
    · rename_i k e ht
      simp only [Bool.and_eq_true, beq_iff_eq] at hp
      obtain ⟨hcon, hpe⟩ := hp
      obtain ⟨xs, m, _, _, hlen, hxl, hx⟩ := DataW.trod_array ht h
      have hrow : ∀ i, i < k → ∃ r, Concs (memOf w) (fun _ => none) r ((cs.drop (i * P.cellsOf e)).take (P.cellsOf e)) ∧ Ty P e r := fun i hi => by
        have h1 := hx i hi
        rw [List.getElem?_eq_getElem (by omega)] at h1
        exact open_cells n m e _ _ hpe h1
      obtain ⟨rows, hrl, hrows⟩ := exists_list _ hrow
      have hcl : cs.length = k * P.cellsOf e := by rw [hlen, hcon]
      have hrlen : ∀ r ∈ rows, r.length = P.cellsOf e := fun r hr => by
        obtain ⟨i, hi, hie⟩ := List.getElem_of_mem hr
        have := (hrows i r (by rw [← hie]; exact List.getElem?_eq_getElem hi)).1.len
        rw [this, List.length_take, List.length_drop]
        have : (i + 1) * P.cellsOf e ≤ k * P.cellsOf e := Nat.mul_le_mul_right _ (by omega)
        rw [Nat.add_mul] at this; omega
      have h1 := rows_concs (M := memOf w) (ρ := fun _ => none) (vs := cs) rows hrlen (by rw [hrl]; omega) (fun i r hi => (hrows i r hi).1)
      rw [hrl, ← hcl, List.take_length] at h1
      refine ⟨rows.flatten, h1, .array ht (by rw [h1.len, hcl]) (fun i hi => ?_)⟩
      have hi' : i < rows.length := by omega
      have hfl := flat_row hrlen (List.getElem?_eq_getElem hi')
      rw [hfl]
      exact (hrows i rows[i] (List.getElem?_eq_getElem hi')).2
    · cases hp
/-- A value that comes in. -/
theorem open_value {w : World} {r : Reach} {b0 : Nat} {spare : Nat → Bool} {held : Bool} {n : Nat} {t : TypeId} {v : Value} {d : DataW H} {ps : List MemPlace} (hp : plainTy P n t = true) (hval : Value.okWide P w r b0 t v) (hd : DataW.Trod enc P w 0 spare held t v d ps) :
    ∃ a, Conc (memOf w) (fun _ => none) a v ∧ Ty P t (cellsOf a) := by
  obtain ⟨fuel, hf⟩ := hd
  obtain ⟨as, h1, h2⟩ := open_cells n fuel t _ _ hp hf
  cases n with
  | zero => cases hp
  | succ n =>
    simp only [plainTy] at hp
    split at hp
    · rename_i ht
      obtain ⟨b, rfl⟩ := okWide_bool ht hval
      exact ⟨.s _, .s _, .bool ht⟩
    · rename_i k ht
      obtain ⟨m, rfl⟩ := okWide_int ht hval
      cases h2 with
      | int h hw =>
        have := h1.s_eq (vs := [.int _ _])
        simp [Value.cells] at this
        obtain ⟨rfl, rfl⟩ := this
        exact ⟨.s _, .s _, .int h hw⟩
      | _ => simp_all
    · rename_i ht
      obtain ⟨s, rfl⟩ := okWide_string ht hval
      obtain ⟨s', hs', _, hsz⟩ := DataW.trod_string ht hf
      simp [Value.cells] at hs'
      subst hs'
      exact ⟨.s _, .s _, .str ht hsz⟩
    · rename_i e ht
      obtain ⟨a, len, cap, rfl⟩ := okWide_slice ht hval
      simp only [Value.cells, List.toList_toArray] at h1
      cases h2 with
      | empty h hc =>
        cases h1 with
        | cons h1 _ => exact ⟨_, h1, .empty h hc⟩
      | rsl h hp hn hc hl hr =>
        cases h1 with
        | cons h1 _ => exact ⟨_, h1, .rsl h hp hn hc hl hr⟩
      | _ => simp_all
    · rename_i fs ht
      unfold Value.okWide at hval
      rw [ht] at hval
      obtain ⟨cs, rfl, _, _⟩ := hval
      exact ⟨.agg as, .agg h1, h2⟩
    · rename_i k e ht
      unfold Value.okWide at hval
      rw [ht] at hval
      obtain ⟨cs, rfl, _, _⟩ := hval
      exact ⟨.agg as, .agg h1, h2⟩
    · cases hp

def TyAll (P : Program) : List TypeId → List AV → Prop
  | [], [] => True
  | t :: ts, a :: as => Ty P t (cellsOf a) ∧ TyAll P ts as
  | _, _ => False

theorem open_values {w : World} {r : Reach} {b0 : Nat} {spare : Nat → Bool} {held : Bool} {n : Nat} : ∀ {ts : List TypeId} {vs : List Value} {ds : List (DataW H)} {ps : List MemPlace}, (∀ t ∈ ts, plainTy P n t = true) →
    (∀ (j : Nat) (t : TypeId) (v : Value), ts[j]? = some t → vs[j]? = some v → Value.okWide P w r b0 t v) → DataW.TrodAll enc P w 0 spare held ts vs ds ps → ∃ as, Concs (memOf w) (fun _ => none) as vs ∧ TyAll P ts as
  | [], [], [], _, _, _, _ => ⟨[], .nil, trivial⟩
  | t :: ts, v :: vs, d :: ds, _, hp, hv, ⟨p, q, h1, h2, _⟩ => by
    obtain ⟨a, h3, h4⟩ := open_value (hp t (by simp)) (hv 0 t v rfl rfl) h1
    obtain ⟨as, h5, h6⟩ := open_values (fun u hu => hp u (List.mem_cons_of_mem _ hu)) (fun j u x hu hx => hv (j + 1) u x (by simpa using hu) (by simpa using hx)) h2
    exact ⟨a :: as, .cons h3 h5, h4, h6⟩
  | [], _ :: _, _, _, _, _, h => (by simp [DataW.TrodAll] at h)
  | _ :: _, [], _, _, _, _, h => (by simp [DataW.TrodAll] at h)
  | [], [], _ :: _, _, _, _, h => (by simp [DataW.TrodAll] at h)
  | _ :: _, _ :: _, [], _, _, _, h => (by simp [DataW.TrodAll] at h)

/-! ### The frame of a law -/
theorem Rep.grown_of {B w : World} {ρ : Rho} {σ : AS} (h : Rep B ρ σ w) : Grown B w := by
  refine ⟨⟨h.os, h.out, fun i hi => ?_⟩, fun a => ?_, h.size⟩
  · rw [h.keep i hi]
    split <;> first | exact ⟨by simp_all, by simp_all, by simp_all, fun j _ => by simp_all⟩ | (right; simp_all; done) | simp_all
  · unfold World.frozen?
    by_cases hb : a.block < B.heap.size
    · rw [h.keep _ hb]
    · have e : B.heap[a.block]? = none := by rw [Array.getElem?_eq_none_iff]; omega
      rw [e]
      split
      · rename_i c e lo hi hm
        have := h.thaw _ _ (by omega) hm _ _ _ rfl
        cases this
        simp
      · rfl

theorem all_stays {W W' : World} {sp' : Nat → Bool} (hl : laidOutB P = true) : ∀ {ts : List TypeId} {vs : List Value} {ds : List (DataW H)} {ps : List MemPlace}, (∀ t ∈ ts, P.readableRec t = true ∧ t < P.types.size) →
    DataW.TrodAll enc P W 0 (fun _ => true) true ts vs ds ps → (∀ p ∈ ps, W.sameAt W' p) → (∀ p ∈ ps, sp' p.block = true) → DataW.TrodAll enc P W' 0 sp' true ts vs ds ps
  | [], [], [], _, _, h, _, _ => h
  | t :: ts, v :: vs, d :: ds, ps, hr, ⟨p, q, h1, h2, e⟩, hsame, hsp => by
    subst e
    exact ⟨p, q, Trod_stays hl (hr t (by simp)).1 (hr t (by simp)).2 h1 (fun x hx => hsame x (List.mem_append_left _ hx)) (fun x hx => hsp x (List.mem_append_left _ hx)),
      all_stays hl (fun u hu => hr u (List.mem_cons_of_mem _ hu)) h2 (fun x hx => hsame x (List.mem_append_right _ hx)) (fun x hx => hsp x (List.mem_append_right _ hx)), rfl⟩
  | [], _ :: _, _, _, _, h, _, _ => (by simp [DataW.TrodAll] at h)
  | _ :: _, [], _, _, _, h, _, _ => (by simp [DataW.TrodAll] at h)
  | [], [], _ :: _, _, _, h, _, _ => (by simp [DataW.TrodAll] at h)
  | _ :: _, _ :: _, [], _, _, h, _, _ => (by simp [DataW.TrodAll] at h)

/-- What a law's specification must be. -/
structure LawSpec (s : ChangeSpec) (n : Nat) : Prop where
  vars : s.vars = []
  fn : ∀ (H : Type) (ds : List (DataW H)), ds.length = n → (s.fn H ds).results = [.lit (.bool true)] ∧ (s.fn H ds).args = ds ∧ (s.fn H ds).vars = []

theorem trodAll_length {w : World} {spare : Nat → Bool} {held : Bool} : ∀ {ts : List TypeId} {vs : List Value} {ds : List (DataW H)} {ps : List MemPlace}, DataW.TrodAll enc P w 0 spare held ts vs ds ps → ds.length = ts.length
  | [], [], [], _, _ => rfl
  | _ :: _, _ :: _, _ :: _, _, ⟨_, _, _, h, _⟩ => by simp [trodAll_length h]
  | [], _ :: _, _, _, h => (by simp [DataW.TrodAll] at h)
  | _ :: _, [], _, _, h => (by simp [DataW.TrodAll] at h)
  | [], [], _ :: _, _, h => (by simp [DataW.TrodAll] at h)
  | _ :: _, _ :: _, [], _, h => (by simp [DataW.TrodAll] at h)

theorem law_post {f : Func} {s : ChangeSpec} (hs : LawSpec s f.params.size) (hl : laidOutB P = true) (hr : ∀ t ∈ f.params.toList, P.readableRec t = true ∧ t < P.types.size) {bt : TypeId} (hrt : f.resultTypes = #[bt]) (hbt : P.underlying bt = some .bool)
    {W W' : World} {args : Array Value} {ds gs : List (DataW H)} {before : List MemPlace} (hW : DataW.Whole enc P f.params.toList s.vars false W args.toList ds gs before) {ρ : Rho} {σ : AS} (hg : Rep W ρ σ W') :
    s.post enc P f false true false false W args (.bool true) W' := by
  have hW' := hW
  obtain ⟨p, q, hA, hV, rfl, hfz, _⟩ := hW
  rw [hs.vars] at hV
  cases gs with
  | cons g gs => simp [DataW.TrodVars] at hV
  | nil =>
    have hq : q = [] := hV
    subst hq
    obtain ⟨h1, h2, h3⟩ := hs.fn H ds (by rw [trodAll_length hA]; simp)
    refine post_of_same (pa := p) (pv := []) hW' (fun b sp hd => ?_) (fun sp hsp => ?_) (fun sp hsp => ?_) rfl (hg.grown_of.frame _) hg.grown_of.2.1 ?_
    · rw [List.append_nil, h1, hrt]
      exact trodAll_mk1 (shut_bool hbt _)
    · rw [List.append_nil, h2]
      refine all_stays hl hr hA (fun x hx => ?_) (fun x hx => hsp x (List.mem_append_left _ hx))
      have hlt := hW'.lt x (List.mem_append_left _ hx)
      have hk := hg.keep x.block hlt
      cases x with
      | cell b off =>
        simp only [MemPlace.block] at hk
        simp only [World.sameAt, World.cell?, hk]
      | map b => exact hk
    · rw [List.append_nil, h3, hs.vars]
      rfl
    · exact ok_one hrt rfl (okWide_bool_mk hbt _)
/-! ### Tables that package-level variables hold -/
theorem table_cells {w : World} {spare : Nat → Bool} {held : Bool} {fuel : Nat} {t e : TypeId} {k : IntKind} {ns : List Int} {cs : List Value} {ps : List MemPlace} (ht : P.underlying t = some (.array ns.length e)) (he : P.underlying e = some (.int k)) (ce : P.cellsOf e = 1) (ct : P.cellsOf t = ns.length)
    (h : DataW.trod enc P w 0 spare held fuel t cs = some (.agg (ns.map fun n => .lit (.int k n)), ps)) : cs = ns.map (.int k) := by
  obtain ⟨xs, m, _, hx, hlen, hxl, hel⟩ := DataW.trod_array ht h
  simp only [Prod.mk.injEq, DataW.agg.injEq] at hx
  obtain ⟨hx, _⟩ := hx
  apply List.ext_getElem?
  intro i
  by_cases hi : i < ns.length
  · have h1 := hel i hi
    rw [ce, Nat.mul_one] at h1
    have hi' : i < cs.length := by omega
    rw [List.drop_eq_getElem_cons hi', List.take_succ_cons, List.take_zero, List.getElem?_eq_getElem (by omega)] at h1
    obtain ⟨n, h2, h3, _⟩ := DataW.trod_int he h1
    have h4 := congrArg (·[i]?) hx
    simp only [List.getElem?_map, List.getElem?_eq_getElem hi, List.getElem?_eq_getElem (show i < xs.length by omega), Option.map_some, h3, Option.some.injEq, DataW.lit.injEq, Lit.int.injEq, true_and] at h4
    simp only [List.cons.injEq, and_true] at h2
    rw [List.getElem?_eq_getElem hi', List.getElem?_map, List.getElem?_eq_getElem hi, h2, h4]
    rfl
  · rw [List.getElem?_eq_none (by omega), List.getElem?_eq_none (by simp; omega)]
theorem table_mem {w : World} {spare : Nat → Bool} {held : Bool} {fuel : Nat} {nm : String} {g : Nat} {t e : TypeId} {k : IntKind} {ns : List Int} {cs : Array Value} {ps : List MemPlace} (hg : P.globalNamed nm = some g) (hv : w.var? P nm = some cs) (ht : P.underlying t = some (.array ns.length e))
    (he : P.underlying e = some (.int k)) (ce : P.cellsOf e = 1) (ct : P.cellsOf t = ns.length) (h : DataW.trod enc P w 0 spare held fuel t cs.toList = some (.agg (ns.map fun n => .lit (.int k n)), ps)) {ρ : Rho} {row : List AV} (hrow : row = ns.map fun n => .s (.int k n)) :
    ConcMem (memOf w) ρ g 0 row.length [row] := by
  have hcs := table_cells ht he ce ct h
  have hm : ∃ cs' e' fz, w.heap[g]? = some (.cells cs' e' fz) ∧ cs' = cs := by
    unfold World.var? at hv
    rw [hg] at hv
    simp only [Option.bind_some] at hv
    split at hv
    · exact ⟨_, _, _, by assumption, Option.some.inj hv⟩
    · cases hv
  obtain ⟨_, e', fz, hh, hcc⟩ := hm
  subst hcc
  refine .mk hh (fun r hr => by simp at hr; rw [hr]) ?_
  rw [hcs, hrow]
  simp only [List.flatten_cons, List.flatten_nil, List.append_nil, List.drop_zero, List.length_cons, List.length_nil, Nat.zero_add, Nat.one_mul, List.length_map]
  rw [List.take_of_length_le (by simp)]
  have : (ns.map fun n => AV.s (.int k n)) = (ns.map (Value.int k)).map .s := by simp
  rw [this]
  exact Concs.ofS _

def isArr (P : Program) (n : Nat) (k : IntKind) (t : TypeId) : Bool :=
  match P.underlying t with
  | some (.array m e) => m == n && P.cellsOf e == 1 && P.cellsOf t == n && (match P.underlying e with
    | some (.int q) => q == k
    | _ => false)
  | _ => false
theorem isArr_spec {P : Program} {n : Nat} {k : IntKind} {t : TypeId} (h : isArr P n k t = true) : ∃ e, P.underlying t = some (.array n e) ∧ P.underlying e = some (.int k) ∧ P.cellsOf e = 1 ∧ P.cellsOf t = n := by
  unfold isArr at h
  split at h
  · rename_i m e ht
    simp only [Bool.and_eq_true, beq_iff_eq] at h
    obtain ⟨⟨⟨h1, h2⟩, h3⟩, h4⟩ := h
    split at h4
    · rename_i q he
      have := beq_iff_eq.1 h4
      subst h1 this
      exact ⟨e, ht, he, h2, h3⟩
    · cases h4
  · cases h
def typeOf (P : Program) (g : Nat) : TypeId := ((P.globals[g]?).map (·.type)).getD 0
theorem typeOf_eq {P : Program} {g : Nat} {t : TypeId} (h : (P.globals[g]?).map (·.type) = some t) : typeOf P g = t := by unfold typeOf; rw [h]; rfl

/-- From a run that gives true to the call. -/
theorem run_law {G : Gl} {n : Nat} {f : FuncId} {as : List AV} (hP : Fit P) (hg : Given P G) {σ : AS} (h : runCall P G n f as = some (.s (.bool true), σ)) {B : World} {vs : Array Value} (hG : GlOk (memOf B) (fun _ => none) G) (hc : Concs (memOf B) (fun _ => none) as vs.toList) :
    Calls P f vs B fun e w => ∃ ρ σ, e = .returned (.bool true) ∧ Rep B ρ σ w :=
  (run_calls hP hg h hG hc).mono fun e w ⟨ρ, y, he, hy, hr⟩ => by
    cases hy
    exact ⟨ρ, σ, he, hr⟩
end Go.Ab
