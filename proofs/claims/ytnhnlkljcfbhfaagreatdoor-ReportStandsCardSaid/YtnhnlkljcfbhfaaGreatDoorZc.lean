/- What comes in: arguments that can be read as plain data, as abstract values; and the frame of a law. -/
import Derived.Test.YtnhnlkljcfbhfaaGreatDoorZb
import Derived.WideKeyArgs
import Derived.ProofKit
import Derived.OpenShut
import Derived.WalkKit
import Derived.Below
import Derived.WideShapes
import Derived.Handed
namespace Go.Ab
open Go.ChangeShapes Go.WideShapes Go.ChangeAt Go.RowKit Go.WideElems
variable {P : Program} {H : Type} {enc : TypeId × Value → H}

inductive Ty (P : Program) : TypeId → List AV → Prop
  | bool {t : TypeId} {b : Bool} (h : P.underlying t = some .bool) : Ty P t [.s (.bool b)]
  | int {t : TypeId} {k : IntKind} {n : Int} (h : P.underlying t = some (.int k)) (hw : (Lit.int k n).wf = true) : Ty P t [.s (.int k n)]
  | str {t : TypeId} {s : ByteArray} (h : P.underlying t = some .string) (hs : s.size ≤ maxLen) : Ty P t [.s (.string s)]
  | empty {t e : TypeId} {a : Option Addr} {cap : Nat} (h : P.underlying t = some (.slice e)) (hc : cap ≤ maxLen) : Ty P t [.s (.slice a 0 cap)]
  | rsl {t e : TypeId} {a : Addr} {cap : Nat} {rows : List (List AV)} (h : P.underlying t = some (.slice e)) (hp : 0 < rows.length) (hn : rows.length ≤ cap) (hc : cap ≤ maxLen) (hl : ∀ r ∈ rows, r.length = P.cellsOf e) (hr : ∀ r ∈ rows, Ty P e r) :
      Ty P t [.rsl a (P.cellsOf e) cap rows]
  | struct {t : TypeId} {fs : Array Field} {as : List AV} (h : P.underlying t = some (.struct fs)) (hl : as.length = P.cellsOf t) (hf : ∀ f ∈ fs.toList, Ty P f.type ((as.drop f.offset).take (P.cellsOf f.type))) : Ty P t as
  | array {t e : TypeId} {n : Nat} {as : List AV} (h : P.underlying t = some (.array n e)) (hl : as.length = n * P.cellsOf e) (hf : ∀ i, i < n → Ty P e ((as.drop (i * P.cellsOf e)).take (P.cellsOf e))) : Ty P t as

def contig (P : Program) : List Field → Nat → Option Nat
  | [], o => some o
  | f :: fs, o => if f.offset = o then contig P fs (o + P.cellsOf f.type) else none
def plainTy (P : Program) : Nat → TypeId → Bool
  | 0, _ => false
  | n + 1, t =>
    match P.underlying t with
    | some .bool | some (.int _) | some .string => true
    | some (.slice e) => decide (0 < P.cellsOf e) && plainTy P n e
    | some (.struct fs) => contig P fs.toList 0 == some (P.cellsOf t) && fs.toList.all fun f => plainTy P n f.type
    | some (.array k e) => k * P.cellsOf e == P.cellsOf t && plainTy P n e
    | _ => false

theorem contig_le : ∀ (fs : List Field) (o m : Nat), contig P fs o = some m → o ≤ m
  | [], o, m, h => by cases h; exact Nat.le_refl _
  | f :: fs, o, m, h => by
    simp only [contig] at h
    split at h
    · have := contig_le fs _ m h; omega
    · cases h

section
variable {M : Mem} {ρ : Rho}
theorem fields_open {cs : List Value} : ∀ (fs : List Field) (o m : Nat), contig P fs o = some m → m ≤ cs.length →
    (∀ f ∈ fs, ∃ af, Concs M ρ af ((cs.drop f.offset).take (P.cellsOf f.type)) ∧ Ty P f.type af) →
    ∃ as, Concs M ρ as ((cs.drop o).take (m - o)) ∧ ∀ f ∈ fs, o ≤ f.offset ∧ Ty P f.type ((as.drop (f.offset - o)).take (P.cellsOf f.type))
  | [], o, m, h, hm, hf => by
    cases h
    exact ⟨[], by simp; exact .nil, fun f hf => by cases hf⟩
  | f :: fs, o, m, h, hm, hf => by
    simp only [contig] at h
    split at h
    · rename_i hoff
      have hle := contig_le fs _ m h
      obtain ⟨af, h1, h2⟩ := hf f (by simp)
      obtain ⟨as, h3, h4⟩ := fields_open fs _ m h hm (fun g hg => hf g (List.mem_cons_of_mem _ hg))
      have hlen : af.length = P.cellsOf f.type := by rw [h1.len, List.length_take, List.length_drop]; omega
      refine ⟨af ++ as, ?_, ?_⟩
      · have e : (cs.drop o).take (m - o) = (cs.drop f.offset).take (P.cellsOf f.type) ++ (cs.drop (o + P.cellsOf f.type)).take (m - (o + P.cellsOf f.type)) := by
          rw [hoff, show m - o = P.cellsOf f.type + (m - (o + P.cellsOf f.type)) by omega, List.take_add, List.drop_drop]
        rw [e]
        exact h1.append h3
      · intro g hg
        rcases List.mem_cons.1 hg with rfl | hg
        · refine ⟨by omega, ?_⟩
          rw [hoff, Nat.sub_self, List.drop_zero, ← hlen, List.take_left]
          exact h2
        · obtain ⟨h5, h6⟩ := h4 g hg
          refine ⟨by omega, ?_⟩
          rw [show g.offset - o = af.length + (g.offset - (o + P.cellsOf f.type)) by omega, List.drop_length_add_append]
          exact h6
    · cases h

theorem exists_list {α : Type} {p : Nat → α → Prop} : ∀ (n : Nat), (∀ i, i < n → ∃ a, p i a) → ∃ l : List α, l.length = n ∧ ∀ i a, l[i]? = some a → p i a
  | 0, _ => ⟨[], rfl, fun i a h => by simp at h⟩
  | n + 1, h => by
    obtain ⟨l, h1, h2⟩ := exists_list n (fun i hi => h i (by omega))
    obtain ⟨a, ha⟩ := h n (by omega)
    refine ⟨l ++ [a], by simp [h1], fun i b hb => ?_⟩
    rw [List.getElem?_append] at hb
    split at hb
    · exact h2 i b hb
    · rename_i hi
      have : i - l.length = 0 := by
        have := (List.getElem?_eq_some_iff.1 hb).1
        simp at this; omega
      rw [this] at hb
      simp at hb
      have hin : i = n := by omega
      subst hb hin; exact ha

theorem rows_concs {c : Nat} {vs : List Value} : ∀ (rows : List (List AV)), (∀ r ∈ rows, r.length = c) → rows.length * c ≤ vs.length → (∀ i r, rows[i]? = some r → Concs M ρ r ((vs.drop (i * c)).take c)) →
    Concs M ρ rows.flatten (vs.take (rows.length * c))
  | [], _, _, _ => by simp; exact .nil
  | r :: rows, hl, hle, h => by
    have h0 := h 0 r rfl
    simp only [Nat.zero_mul, List.drop_zero] at h0
    have hle' : c + rows.length * c ≤ vs.length := by simpa [Nat.add_mul, Nat.add_comm] using hle
    have ih := rows_concs (vs := vs.drop c) rows (fun q hq => hl q (List.mem_cons_of_mem _ hq)) (by rw [List.length_drop]; omega) (fun i q hq => by
      have := h (i + 1) q (by simpa using hq)
      rw [List.drop_drop]
      rwa [Nat.add_mul, Nat.one_mul, Nat.add_comm] at this)
    have e : vs.take ((r :: rows).length * c) = vs.take c ++ (vs.drop c).take (rows.length * c) := by
      rw [List.length_cons, Nat.add_mul, Nat.one_mul, Nat.add_comm, List.take_add]
    rw [e, List.flatten_cons]
    exact h0.append ih
end

theorem cells_get {w : World} {base : Nat} {a : Addr} {n : Nat} {cs : List Value} (h : w.cells? base a n = some cs) : cs.length = n ∧ ∀ i, i < n → w.cell? (a.add i) = cs[i]? := by
  unfold World.cells? at h
  split at h
  · refine ⟨by have := mapM_some_length h; simpa using this, fun i hi => ?_⟩
    exact mapM_some_get h i i (by simp [hi])
  · cases h

theorem add_spot {a : Addr} {n : Nat} {w : World} {v : Value} (h : w.cell? (a.add n) = some v) : ∃ c e fz, w.heap[a.block]? = some (.cells c e fz) ∧ c[a.off + n]? = some v ∧ (n = 0 → a.spot = none) := by
  unfold World.cell? at h
  have hb : (a.add n).block = a.block := by unfold Addr.add; split <;> rfl
  have ho : (a.add n).off = a.off + n := by unfold Addr.add; split <;> simp_all
  rw [hb, ho] at h
  split at h
  · rename_i c e fz hm
    refine ⟨c, e, fz, hm, ?_, ?_⟩
    · split at h
      · cases h
      · exact h
    · intro h0
      subst h0
      split at h
      · cases h
      · rename_i hs
        simpa [Addr.add] using hs
  · cases h

theorem open_cells {w : World} {spare : Nat → Bool} {held : Bool} : ∀ (n fuel : Nat) (t : TypeId) (cs : List Value) (x : DataW H × List MemPlace), plainTy P n t = true → DataW.trod enc P w 0 spare held fuel t cs = some x →
    ∃ as, Concs (memOf w) (fun _ => none) as cs ∧ Ty P t as
  | 0, _, _, _, _, h, _ => by cases h
  | n + 1, fuel, t, cs, x, hp, h => by
    simp only [plainTy] at hp
    split at hp
    · rename_i ht
      obtain ⟨b, rfl, _⟩ := DataW.trod_bool ht h
      exact ⟨_, .one (.s _), .bool ht⟩
    · rename_i k ht
      obtain ⟨m, rfl, _, hw⟩ := DataW.trod_int ht h
      exact ⟨_, .one (.s _), .int ht hw⟩
    · rename_i ht
      obtain ⟨s, rfl, _, hs⟩ := DataW.trod_string ht h
      exact ⟨_, .one (.s _), .str ht hs⟩
    · rename_i e ht
      simp only [Bool.and_eq_true, decide_eq_true_eq] at hp
      obtain ⟨hc, hpe⟩ := hp
      rcases DataW.trod_slice ht h with ⟨rfl, _⟩ | ⟨a, len, cap, elems, rest, m, _, rfl, _, _, hl, hm, hlen, hel, _⟩
      · exact ⟨_, .one (.s _), .empty ht (Nat.zero_le _)⟩
      · cases len with
        | zero => exact ⟨_, .one (.s _), .empty ht hm⟩
        | succ len =>
          have hrow : ∀ i, i < len + 1 → ∃ r, ∃ cs', w.cells? 0 (a.add (i * P.cellsOf e)) (P.cellsOf e) = some cs' ∧ Concs (memOf w) (fun _ => none) r cs' ∧ Ty P e r := fun i hi => by
            have := hel i hi
            rw [List.getElem?_eq_getElem (by omega)] at this
            simp only [Option.bind_eq_some_iff] at this
            obtain ⟨cs', h1, h2⟩ := this
            obtain ⟨r, h3, h4⟩ := open_cells n m e cs' _ hpe h2
            exact ⟨r, cs', h1, h3, h4⟩
          obtain ⟨rows, hrl, hrows⟩ := exists_list _ hrow
          -- the first cell tells the block
          obtain ⟨r0, hr0⟩ : ∃ r0, rows[0]? = some r0 := ⟨rows[0], List.getElem?_eq_getElem (by omega)⟩
          obtain ⟨cs0, h1, _, _⟩ := hrows 0 r0 hr0
          obtain ⟨h2, h3⟩ := cells_get h1
          have h4 := h3 0 hc
          rw [List.getElem?_eq_getElem (by omega)] at h4
          have e0 : (a.add (0 * P.cellsOf e)).add 0 = a.add 0 := by simp [Addr.add]
          rw [e0] at h4
          obtain ⟨c, ce, fz, hm0, _, hspot⟩ := add_spot h4
          have hsp := hspot rfl
          obtain ⟨blk, off, spot⟩ := a
          simp only at hsp hm0
          subst hsp
          have hcell : ∀ i r, rows[i]? = some r → ∀ j, j < P.cellsOf e → ∃ cs', Concs (memOf w) (fun _ => none) r cs' ∧ cs'.length = P.cellsOf e ∧ c[off + (i * P.cellsOf e + j)]? = cs'[j]? := fun i r hi j hj => by
            obtain ⟨cs', k1, k2, _⟩ := hrows i r hi
            obtain ⟨k3, k4⟩ := cells_get k1
            refine ⟨cs', k2, k3, ?_⟩
            have k5 := k4 j hj
            rw [List.getElem?_eq_getElem (by omega)] at k5
            have e1 : (Addr.add ⟨blk, off, none⟩ (i * P.cellsOf e)).add j = Addr.add ⟨blk, off, none⟩ (i * P.cellsOf e + j) := by
              simp only [Addr.add]
              by_cases h0 : i * P.cellsOf e = 0 <;> by_cases h1 : j = 0 <;> simp [h0, h1, Nat.add_assoc]
            rw [e1] at k5
            obtain ⟨c', _, _, hm', hv, _⟩ := add_spot k5
            simp only at hm' hv
            rw [hm0] at hm'; cases hm'
            rw [hv, List.getElem?_eq_getElem (by omega)]
          have hrlen : ∀ r ∈ rows, r.length = P.cellsOf e := fun r hr => by
            obtain ⟨i, hi, hie⟩ := List.getElem_of_mem hr
            obtain ⟨cs', k1, k2, _⟩ := hcell i r (by rw [← hie]; exact List.getElem?_eq_getElem hi) 0 hc
            rw [k1.len, k2]
          have hdrop : ∀ i r, rows[i]? = some r → ∃ cs', Concs (memOf w) (fun _ => none) r cs' ∧ ((c.toList.drop off).drop (i * P.cellsOf e)).take (P.cellsOf e) = cs' ∧ off + (i * P.cellsOf e) + P.cellsOf e ≤ c.size := fun i r hi => by
            obtain ⟨cs', k1, k2, _⟩ := hrows i r hi
            obtain ⟨k3, k4⟩ := cells_get k1
            have hall : ∀ j, j < P.cellsOf e → c[off + (i * P.cellsOf e + j)]? = cs'[j]? := fun j hj => by
              have k5 := k4 j hj
              rw [List.getElem?_eq_getElem (by omega)] at k5
              have e1 : (Addr.add ⟨blk, off, none⟩ (i * P.cellsOf e)).add j = Addr.add ⟨blk, off, none⟩ (i * P.cellsOf e + j) := by
                simp only [Addr.add]
                by_cases h0 : i * P.cellsOf e = 0 <;> by_cases h1 : j = 0 <;> simp [h0, h1, Nat.add_assoc]
              rw [e1] at k5
              obtain ⟨c', _, _, hm', hv, _⟩ := add_spot k5
              simp only at hm' hv
              rw [hm0] at hm'; cases hm'
              rw [hv, List.getElem?_eq_getElem (by omega)]
            have hin : off + (i * P.cellsOf e) + P.cellsOf e ≤ c.size := by
              have := hall (P.cellsOf e - 1) (by omega)
              rw [List.getElem?_eq_getElem (by omega)] at this
              have := (Array.getElem?_eq_some_iff.1 this).1
              omega
            refine ⟨cs', k2, ?_, hin⟩
            apply List.ext_getElem?
            intro j
            by_cases hj : j < P.cellsOf e
            · rw [List.getElem?_take_of_lt hj, List.getElem?_drop, List.getElem?_drop, Array.getElem?_toList, ← hall j hj]
            · rw [List.getElem?_eq_none (by rw [List.length_take]; omega), List.getElem?_eq_none (by omega)]
          have hlast : off + rows.length * P.cellsOf e ≤ c.size := by
            obtain ⟨r1, hr1⟩ : ∃ r1, rows[len]? = some r1 := ⟨rows[len], List.getElem?_eq_getElem (by omega)⟩
            obtain ⟨_, _, _, h5⟩ := hdrop len r1 hr1
            rw [hrl, Nat.add_mul, Nat.one_mul]; omega
          refine ⟨[.rsl ⟨blk, off, none⟩ (P.cellsOf e) cap rows], .one ?_, .rsl ht (by omega) (by omega) hm hrlen (fun r hr => ?_)⟩
          · have hmem : ConcMem (memOf w) (fun _ => none) blk off (P.cellsOf e) rows := by
              refine .mk hm0 hrlen ?_
              refine rows_concs rows hrlen (by have hcz : c.toList.length = c.size := Array.length_toList
                                               rw [List.length_drop]; omega) (fun i r hi => ?_)
              obtain ⟨cs', k1, k2, _⟩ := hdrop i r hi
              rw [k2]; exact k1
            have := Conc.rsl hmem (cap := cap) (by omega)
            rw [hrl] at this
            exact this
          · obtain ⟨i, hi, hie⟩ := List.getElem_of_mem hr
            obtain ⟨cs', _, _, k⟩ := hrows i r (by rw [← hie]; exact List.getElem?_eq_getElem hi)
            exact k
    · rename_i fs ht
      simp only [Bool.and_eq_true, beq_iff_eq, List.all_eq_true] at hp
      obtain ⟨hcon, hpf⟩ := hp
      obtain ⟨xs, m, _, _, hlen, hxl, hx⟩ := DataW.trod_struct ht h
      have hf : ∀ f ∈ fs.toList, ∃ af, Concs (memOf w) (fun _ => none) af ((cs.drop f.offset).take (P.cellsOf f.type)) ∧ Ty P f.type af := fun f hf => by
        obtain ⟨i, hi, hie⟩ := List.getElem_of_mem hf
        rw [Array.length_toList] at hi
        have h1 := hx i f (by rw [← hie]; simp [hi])
        rw [List.getElem?_eq_getElem (by omega)] at h1
        exact open_cells n m f.type _ _ (hpf f hf) h1
      obtain ⟨as, h1, h2⟩ := fields_open fs.toList 0 _ hcon (by omega) hf
      rw [List.drop_zero, Nat.sub_zero, List.take_of_length_le (by omega)] at h1
      refine ⟨as, h1, .struct ht (by rw [h1.len, hlen]) (fun f hf => ?_)⟩
      have := (h2 f hf).2
      rwa [Nat.sub_zero] at this
    · rename_i k e ht
      simp only [Bool.and_eq_true, beq_iff_eq] at hp
      obtain ⟨hcon, hpe⟩ := hp
      obtain ⟨xs, m, _, _, hlen, hxl, hx⟩ := DataW.trod_array ht h
      have hrow : ∀ i, i < k → ∃ r, Concs (memOf w) (fun _ => none) r ((cs.drop (i * P.cellsOf e)).take (P.cellsOf e)) ∧ Ty P e r := fun i hi => by
        have h1 := hx i hi
        rw [List.getElem?_eq_getElem (by omega)] at h1
        exact open_cells n m e _ _ hpe h1
      obtain ⟨rows, hrl, hrows⟩ := exists_list _ hrow
      have hcl : cs.length = k * P.cellsOf e := by rw [hlen, hcon]
      have hrlen : ∀ r ∈ rows, r.length = P.cellsOf e := fun r hr => by
        obtain ⟨i, hi, hie⟩ := List.getElem_of_mem hr
        have := (hrows i r (by rw [← hie]; exact List.getElem?_eq_getElem hi)).1.len
        rw [this, List.length_take, List.length_drop]
        have : (i + 1) * P.cellsOf e ≤ k * P.cellsOf e := Nat.mul_le_mul_right _ (by omega)
        rw [Nat.add_mul] at this; omega
      have h1 := rows_concs (M := memOf w) (ρ := fun _ => none) (vs := cs) rows hrlen (by rw [hrl]; omega) (fun i r hi => (hrows i r hi).1)
      rw [hrl, ← hcl, List.take_length] at h1
      refine ⟨rows.flatten, h1, .array ht (by rw [h1.len, hcl]) (fun i hi => ?_)⟩
      have hi' : i < rows.length := by omega
      have hfl := flat_row hrlen (List.getElem?_eq_getElem hi')
      rw [hfl]
      exact (hrows i rows[i] (List.getElem?_eq_getElem hi')).2
    · cases hp
theorem open_value {w : World} {r : Reach} {b0 : Nat} {spare : Nat → Bool} {held : Bool} {n : Nat} {t : TypeId} {v : Value} {d : DataW H} {ps : List MemPlace} (hp : plainTy P n t = true) (hval : Value.okWide P w r b0 t v) (hd : DataW.Trod enc P w 0 spare held t v d ps) :
    ∃ a, Conc (memOf w) (fun _ => none) a v ∧ Ty P t (cellsOf a) := by
  obtain ⟨fuel, hf⟩ := hd
  obtain ⟨as, h1, h2⟩ := open_cells n fuel t _ _ hp hf
  cases n with
  | zero => cases hp
  | succ n =>
    simp only [plainTy] at hp
    split at hp
    · rename_i ht
      obtain ⟨b, rfl⟩ := okWide_bool ht hval
      exact ⟨.s _, .s _, .bool ht⟩
    · rename_i k ht
      obtain ⟨m, rfl⟩ := okWide_int ht hval
      cases h2 with
      | int h hw =>
        have := h1.s_eq (vs := [.int _ _])
        simp [Value.cells] at this
        obtain ⟨rfl, rfl⟩ := this
        exact ⟨.s _, .s _, .int h hw⟩
      | _ => simp_all
    · rename_i ht
      obtain ⟨s, rfl⟩ := okWide_string ht hval
      obtain ⟨s', hs', _, hsz⟩ := DataW.trod_string ht hf
      simp [Value.cells] at hs'
      subst hs'
      exact ⟨.s _, .s _, .str ht hsz⟩
    · rename_i e ht
      obtain ⟨a, len, cap, rfl⟩ := okWide_slice ht hval
      simp only [Value.cells, List.toList_toArray] at h1
      cases h2 with
      | empty h hc =>
        cases h1 with
        | cons h1 _ => exact ⟨_, h1, .empty h hc⟩
      | rsl h hp hn hc hl hr =>
        cases h1 with
        | cons h1 _ => exact ⟨_, h1, .rsl h hp hn hc hl hr⟩
      | _ => simp_all
    · rename_i fs ht
      unfold Value.okWide at hval
      rw [ht] at hval
      obtain ⟨cs, rfl, _, _⟩ := hval
      exact ⟨.agg as, .agg h1, h2⟩
    · rename_i k e ht
      unfold Value.okWide at hval
      rw [ht] at hval
      obtain ⟨cs, rfl, _, _⟩ := hval
      exact ⟨.agg as, .agg h1, h2⟩
    · cases hp

def TyAll (P : Program) : List TypeId → List AV → Prop
  | [], [] => True
  | t :: ts, a :: as => Ty P t (cellsOf a) ∧ TyAll P ts as
  | _, _ => False

theorem open_values {w : World} {r : Reach} {b0 : Nat} {spare : Nat → Bool} {held : Bool} {n : Nat} : ∀ {ts : List TypeId} {vs : List Value} {ds : List (DataW H)} {ps : List MemPlace}, (∀ t ∈ ts, plainTy P n t = true) →
    (∀ (j : Nat) (t : TypeId) (v : Value), ts[j]? = some t → vs[j]? = some v → Value.okWide P w r b0 t v) → DataW.TrodAll enc P w 0 spare held ts vs ds ps → ∃ as, Concs (memOf w) (fun _ => none) as vs ∧ TyAll P ts as
  | [], [], [], _, _, _, _ => ⟨[], .nil, trivial⟩
  | t :: ts, v :: vs, d :: ds, _, hp, hv, ⟨p, q, h1, h2, _⟩ => by
    obtain ⟨a, h3, h4⟩ := open_value (hp t (by simp)) (hv 0 t v rfl rfl) h1
    obtain ⟨as, h5, h6⟩ := open_values (fun u hu => hp u (List.mem_cons_of_mem _ hu)) (fun j u x hu hx => hv (j + 1) u x (by simpa using hu) (by simpa using hx)) h2
    exact ⟨a :: as, .cons h3 h5, h4, h6⟩
  | [], _ :: _, _, _, _, _, h => (by simp [DataW.TrodAll] at h)
  | _ :: _, [], _, _, _, _, h => (by simp [DataW.TrodAll] at h)
  | [], [], _ :: _, _, _, _, h => (by simp [DataW.TrodAll] at h)
  | _ :: _, _ :: _, [], _, _, _, h => (by simp [DataW.TrodAll] at h)

theorem Rep.kept_of {B w : World} {ρ : Rho} {σ : AS} (h : Rep B ρ σ w) (may : MemPlace → Prop) : B.keptBut w may := by
  refine World.keptBut_mono (may := fun _ => False) (fun p hp => hp.elim) ⟨h.os, h.out, fun i hi => ?_⟩
  rw [h.keep i hi]
  split <;> first | exact ⟨by simp_all, by simp_all, by simp_all, fun j _ => by simp_all⟩ | (right; simp_all; done) | simp_all
theorem post_of_same0 {f : Func} {s : ChangeSpec} {apart fresh handsOn : Bool} {W W' : World} {args : Array Value} {v : Value} {ds gs : List (DataW H)} {before pa pv : List MemPlace}
    (hW : DataW.Whole enc P f.params.toList s.vars apart W args.toList ds gs before)
    (hres : ∀ (b : Nat) (sp : Nat → Bool) (hd : Bool), DataW.TrodAll enc P W' b sp hd f.resultTypes.toList (v.resultList f.resultTypes.size) (s.fn H (ds ++ gs)).results [])
    (hargs : ∀ sp : Nat → Bool, (∀ p ∈ before, sp p.block = true) → DataW.TrodAll enc P W' 0 sp true f.params.toList args.toList (s.fn H (ds ++ gs)).args pa)
    (hvars : ∀ sp : Nat → Bool, (∀ p ∈ before, sp p.block = true) → DataW.TrodVars enc P W' sp s.vars (s.fn H (ds ++ gs)).vars pv)
    (hps : before = pa ++ pv) (hk : W.keptBut W' (· ∈ before)) : s.post enc P f apart fresh handsOn false W args v W' := by
  have hold : ∀ p ∈ before, (fun b => decide (b < W.heap.size)) p.block = true := fun p hp => by simpa using hW.lt p hp
  refine ⟨ds, gs, before, [], pa, pv, hW, hres _ _ _, hargs _ hold, hvars _ hold, World.keptBut_mono (fun p hp => ⟨hp, ?_⟩) hk, fun h => by cases h⟩
  rw [hps, List.mem_append] at hp
  exact Or.inr hp

theorem all_stays {W W' : World} {sp' : Nat → Bool} (hl : laidOutB P = true) : ∀ {ts : List TypeId} {vs : List Value} {ds : List (DataW H)} {ps : List MemPlace}, (∀ t ∈ ts, P.readableRec t = true ∧ t < P.types.size) →
    DataW.TrodAll enc P W 0 (fun _ => true) true ts vs ds ps → (∀ p ∈ ps, W.sameAt W' p) → (∀ p ∈ ps, sp' p.block = true) → DataW.TrodAll enc P W' 0 sp' true ts vs ds ps
  | [], [], [], _, _, h, _, _ => h
  | t :: ts, v :: vs, d :: ds, ps, hr, ⟨p, q, h1, h2, e⟩, hsame, hsp => by
    subst e
    exact ⟨p, q, Trod_stays hl (hr t (by simp)).1 (hr t (by simp)).2 h1 (fun x hx => hsame x (List.mem_append_left _ hx)) (fun x hx => hsp x (List.mem_append_left _ hx)),
      all_stays hl (fun u hu => hr u (List.mem_cons_of_mem _ hu)) h2 (fun x hx => hsame x (List.mem_append_right _ hx)) (fun x hx => hsp x (List.mem_append_right _ hx)), rfl⟩
  | [], _ :: _, _, _, _, h, _, _ => (by simp [DataW.TrodAll] at h)
  | _ :: _, [], _, _, _, h, _, _ => (by simp [DataW.TrodAll] at h)
  | [], [], _ :: _, _, _, h, _, _ => (by simp [DataW.TrodAll] at h)
  | _ :: _, _ :: _, [], _, _, h, _, _ => (by simp [DataW.TrodAll] at h)

structure LawSpec (s : ChangeSpec) (n : Nat) : Prop where
  vars : s.vars = []
  fn : ∀ (H : Type) (ds : List (DataW H)), ds.length = n → (s.fn H ds).results = [.lit (.bool true)] ∧ (s.fn H ds).args = ds ∧ (s.fn H ds).vars = []

theorem trodAll_length {w : World} {spare : Nat → Bool} {held : Bool} : ∀ {ts : List TypeId} {vs : List Value} {ds : List (DataW H)} {ps : List MemPlace}, DataW.TrodAll enc P w 0 spare held ts vs ds ps → ds.length = ts.length
  | [], [], [], _, _ => rfl
  | _ :: _, _ :: _, _ :: _, _, ⟨_, _, _, h, _⟩ => by simp [trodAll_length h]
  | [], _ :: _, _, _, h => (by simp [DataW.TrodAll] at h)
  | _ :: _, [], _, _, h => (by simp [DataW.TrodAll] at h)
  | [], [], _ :: _, _, h => (by simp [DataW.TrodAll] at h)
  | _ :: _, _ :: _, [], _, h => (by simp [DataW.TrodAll] at h)

theorem law_post {f : Func} {s : ChangeSpec} (hs : LawSpec s f.params.size) (hl : laidOutB P = true) (hr : ∀ t ∈ f.params.toList, P.readableRec t = true ∧ t < P.types.size) {bt : TypeId} (hrt : f.resultTypes = #[bt]) (hbt : P.underlying bt = some .bool)
    {W W' : World} {args : Array Value} {ds gs : List (DataW H)} {before : List MemPlace} (hW : DataW.Whole enc P f.params.toList s.vars false W args.toList ds gs before) {ρ : Rho} {σ : AS} (hg : Rep W ρ σ W') :
    s.post enc P f false true false false W args (.bool true) W' := by
  have hW' := hW
  obtain ⟨p, q, hA, hV, rfl, hfz, _⟩ := hW
  rw [hs.vars] at hV
  cases gs with
  | cons g gs => simp [DataW.TrodVars] at hV
  | nil =>
    have hq : q = [] := hV
    subst hq
    obtain ⟨h1, h2, h3⟩ := hs.fn H ds (by rw [trodAll_length hA]; simp)
    refine post_of_same0 (pa := p) (pv := []) hW' (fun b sp hd => ?_) (fun sp hsp => ?_) (fun sp hsp => ?_) rfl (hg.kept_of _)
    · rw [List.append_nil, h1, hrt]
      exact trodAll_mk1 (shut_bool hbt _)
    · rw [List.append_nil, h2]
      refine all_stays hl hr hA (fun x hx => ?_) (fun x hx => hsp x (List.mem_append_left _ hx))
      have hlt := hW'.lt x (List.mem_append_left _ hx)
      have hk := hg.keep x.block hlt
      cases x with
      | cell b off =>
        simp only [MemPlace.block] at hk
        simp only [World.sameAt, World.cell?, hk]
      | map b => exact hk
    · rw [List.append_nil, h3, hs.vars]
      rfl
theorem table_cells {w : World} {spare : Nat → Bool} {held : Bool} {fuel : Nat} {t e : TypeId} {k : IntKind} {ns : List Int} {cs : List Value} {ps : List MemPlace} (ht : P.underlying t = some (.array ns.length e)) (he : P.underlying e = some (.int k)) (ce : P.cellsOf e = 1) (ct : P.cellsOf t = ns.length)
    (h : DataW.trod enc P w 0 spare held fuel t cs = some (.agg (ns.map fun n => .lit (.int k n)), ps)) : cs = ns.map (.int k) := by
  obtain ⟨xs, m, _, hx, hlen, hxl, hel⟩ := DataW.trod_array ht h
  simp only [Prod.mk.injEq, DataW.agg.injEq] at hx
  obtain ⟨hx, _⟩ := hx
  apply List.ext_getElem?
  intro i
  by_cases hi : i < ns.length
  · have h1 := hel i hi
    rw [ce, Nat.mul_one] at h1
    have hi' : i < cs.length := by omega
    rw [List.drop_eq_getElem_cons hi', List.take_succ_cons, List.take_zero, List.getElem?_eq_getElem (by omega)] at h1
    obtain ⟨n, h2, h3, _⟩ := DataW.trod_int he h1
    have h4 := congrArg (·[i]?) hx
    simp only [List.getElem?_map, List.getElem?_eq_getElem hi, List.getElem?_eq_getElem (show i < xs.length by omega), Option.map_some, h3, Option.some.injEq, DataW.lit.injEq, Lit.int.injEq, true_and] at h4
    simp only [List.cons.injEq, and_true] at h2
    rw [List.getElem?_eq_getElem hi', List.getElem?_map, List.getElem?_eq_getElem hi, h2, h4]
    rfl
  · rw [List.getElem?_eq_none (by omega), List.getElem?_eq_none (by simp; omega)]
theorem table_mem {w : World} {spare : Nat → Bool} {held : Bool} {fuel : Nat} {nm : String} {g : Nat} {t e : TypeId} {k : IntKind} {ns : List Int} {cs : Array Value} {ps : List MemPlace} (hg : P.globalNamed nm = some g) (hv : w.var? P nm = some cs) (ht : P.underlying t = some (.array ns.length e))
    (he : P.underlying e = some (.int k)) (ce : P.cellsOf e = 1) (ct : P.cellsOf t = ns.length) (h : DataW.trod enc P w 0 spare held fuel t cs.toList = some (.agg (ns.map fun n => .lit (.int k n)), ps)) {ρ : Rho} {row : List AV} (hrow : row = ns.map fun n => .s (.int k n)) :
    ConcMem (memOf w) ρ g 0 row.length [row] := by
  have hcs := table_cells ht he ce ct h
  have hm : ∃ cs' e' fz, w.heap[g]? = some (.cells cs' e' fz) ∧ cs' = cs := by
    unfold World.var? at hv
    rw [hg] at hv
    simp only [Option.bind_some] at hv
    split at hv
    · exact ⟨_, _, _, by assumption, Option.some.inj hv⟩
    · cases hv
  obtain ⟨_, e', fz, hh, hcc⟩ := hm
  subst hcc
  refine .mk hh (fun r hr => by simp at hr; rw [hr]) ?_
  rw [hcs, hrow]
  simp only [List.flatten_cons, List.flatten_nil, List.append_nil, List.drop_zero, List.length_cons, List.length_nil, Nat.zero_add, Nat.one_mul, List.length_map]
  rw [List.take_of_length_le (by simp)]
  have : (ns.map fun n => AV.s (.int k n)) = (ns.map (Value.int k)).map .s := by simp
  rw [this]
  exact Concs.ofS _

def isArr (P : Program) (n : Nat) (k : IntKind) (t : TypeId) : Bool :=
  match P.underlying t with
  | some (.array m e) => m == n && P.cellsOf e == 1 && P.cellsOf t == n && (match P.underlying e with
    | some (.int q) => q == k
    | _ => false)
  | _ => false
theorem isArr_spec {P : Program} {n : Nat} {k : IntKind} {t : TypeId} (h : isArr P n k t = true) : ∃ e, P.underlying t = some (.array n e) ∧ P.underlying e = some (.int k) ∧ P.cellsOf e = 1 ∧ P.cellsOf t = n := by
  unfold isArr at h
  split at h
  · rename_i m e ht
    simp only [Bool.and_eq_true, beq_iff_eq] at h
    obtain ⟨⟨⟨h1, h2⟩, h3⟩, h4⟩ := h
    split at h4
    · rename_i q he
      have := beq_iff_eq.1 h4
      subst h1 this
      exact ⟨e, ht, he, h2, h3⟩
    · cases h4
  · cases h
def typeOf (P : Program) (g : Nat) : TypeId := ((P.globals[g]?).map (·.type)).getD 0
theorem typeOf_eq {P : Program} {g : Nat} {t : TypeId} (h : (P.globals[g]?).map (·.type) = some t) : typeOf P g = t := by unfold typeOf; rw [h]; rfl

theorem run_law {G : Gl} {n : Nat} {f : FuncId} {as : List AV} (hP : Fit P) (hg : Given P G) {σ : AS} (h : runCall P G n f as = some (.s (.bool true), σ)) {B : World} {vs : Array Value} (hG : GlOk (memOf B) (fun _ => none) G) (hc : Concs (memOf B) (fun _ => none) as vs.toList) :
    Calls P f vs B fun e w => ∃ ρ σ, e = .returned (.bool true) ∧ Rep B ρ σ w :=
  (run_calls hP hg h hG hc).mono fun e w ⟨ρ, y, he, hy, hr⟩ => by
    cases hy
    exact ⟨ρ, σ, he, hr⟩
end Go.Ab
/- Symbolic steps: temporaries and own objects as lists; one rule an operation. -/
namespace Go.Ab
variable {P : Program} {G : Gl}

def lk : List (Nat × AV) → Nat → Option AV
  | [], _ => none
  | (k, v) :: r, j => bif Nat.beq k j then some v else lk r j
structure En (tm : Tm) (N : Nat) (L : List (Nat × AV)) : Prop where
  n : tm.n = N
  get : ∀ j v, lk L j = some v → tm.get j = v
theorem En.set {tm : Tm} {N : Nat} {L : List (Nat × AV)} (h : En tm N L) {d : Nat} (hd : d < N) (v : AV) : En (tm.set d v) N ((d, v) :: L) := by
  refine ⟨by rw [Tm.n_set]; exact h.n, fun j u hj => ?_⟩
  rw [Tm.get_set, h.n]
  unfold lk at hj
  by_cases e : d = j
  · subst e
    have : Nat.beq d d = true := Nat.beq_refl d
    rw [this] at hj
    simp only [cond_true, Option.some.injEq] at hj
    rw [if_pos ⟨rfl, hd⟩, hj]
  · have : Nat.beq d j = false := by
      cases hb : Nat.beq d j with
      | false => rfl
      | true => exact absurd (Nat.eq_of_beq_eq_true hb) e
    rw [this] at hj
    simp only [cond_false] at hj
    rw [if_neg (fun x => e x.1)]
    exact h.get j u hj
def Sub : List (Nat × AV) → List (Nat × AV) → Prop
  | [], _ => True
  | p :: r, L => lk L p.1 = some p.2 ∧ Sub r L
theorem Sub.lk : ∀ {L' L : List (Nat × AV)}, Sub L' L → ∀ j v, lk L' j = some v → Go.Ab.lk L j = some v
  | [], _, _, j, v, h => by cases h
  | (k, u) :: r, L, ⟨h1, h2⟩, j, v, h => by
    unfold Go.Ab.lk at h
    cases hb : Nat.beq k j with
    | true =>
      rw [hb] at h
      simp only [cond_true, Option.some.injEq] at h
      have := Nat.eq_of_beq_eq_true hb
      subst this h
      exact h1
    | false =>
      rw [hb] at h
      exact h2.lk j v h
theorem En.sub {tm : Tm} {N : Nat} {L L' : List (Nat × AV)} (h : En tm N L) (hs : Sub L' L) : En tm N L' := ⟨h.n, fun j v hj => h.get j v (hs.lk j v hj)⟩

def evL (G : Gl) (L : List (Nat × AV)) : Operand → Option AV
  | .tmp t => lk L t
  | .const v => some (.s v)
  | .global g => some (evG G g)
  | .func f => some (.s (.func (.func f) #[] #[]))
theorem En.ev {tm : Tm} {N : Nat} {L : List (Nat × AV)} (h : En tm N L) {x : Operand} {v : AV} (hx : evL G L x = some v) : evT G tm x = v := by
  cases x with
  | tmp t => exact h.get t v hx
  | const c => cases hx; rfl
  | global g => cases hx; rfl
  | func f => cases hx; rfl
def evsL (G : Gl) (L : List (Nat × AV)) : List Operand → Option (List AV)
  | [] => some []
  | x :: r => match evL G L x, evsL G L r with
    | some v, some vs => some (v :: vs)
    | _, _ => none
theorem En.evs {tm : Tm} {N : Nat} {L : List (Nat × AV)} (h : En tm N L) : ∀ {xs : List Operand} {vs : List AV}, evsL G L xs = some vs → xs.map (evT G tm) = vs
  | [], vs, hx => by cases hx; rfl
  | x :: r, vs, hx => by
    unfold evsL at hx
    split at hx
    · rename_i v us hv hus
      cases hx
      rw [List.map_cons, h.ev hv, h.evs hus]
    · cases hx

structure He (B : AS) (W : List Nat) (σ : AS) (H : List (Nat × AObj)) (ds : List Nat) : Prop where
  slot : σ.slot = none
  fresh : ∀ id, σ.next ≤ id → σ.objs.get id = none
  le : B.next ≤ σ.next
  nodup : (H.map (·.1)).Nodup
  get : ∀ p ∈ H, σ.get p.1 = some p.2
  keep : ∀ id, id < B.next → id ∉ W → σ.objs.get id = B.objs.get id
  dle : ∀ d ∈ ds, B.next ≤ d
  dget : ∀ d ∈ ds, σ.get d = some .defr
  dnodup : ds.Nodup
  dH : ∀ d ∈ ds, d ∉ H.map (·.1)

theorem AS.newId_none {σ : AS} (h : σ.slot = none) : σ.newId = σ.next := by rw [AS.newId_eq, h]; rfl
theorem AS.push_none {σ : AS} (h : σ.slot = none) (o : AObj) : σ.push o = ⟨putObj σ.objs σ.next o, σ.next + 1, none⟩ := by
  obtain ⟨a, b, c⟩ := σ
  simp only at h; subst h; rfl
theorem AS.get_none_le {σ : AS} {id : Nat} (h : σ.next ≤ id) : σ.get id = none := by
  unfold AS.get; rw [if_neg (by omega)]
theorem He.lt {B σ : AS} {W : List Nat} {H : List (Nat × AObj)} {ds : List Nat} (h : He B W σ H ds) {p : Nat × AObj} (hp : p ∈ H) : p.1 < σ.next := AS.lt_of_get (h.get p hp)

theorem He.push {B σ : AS} {W : List Nat} {H : List (Nat × AObj)} {ds : List Nat} (h : He B W σ H ds) (o : AObj) : He B W (σ.push o) ((σ.newId, o) :: H) ds := by
  have hlow : ∀ k, σ.slot = some k → k < σ.next := fun k hk => by rw [h.slot] at hk; cases hk
  have hnid := AS.newId_none h.slot
  have hgetn : ∀ j, j < σ.next → (σ.push o).get j = σ.get j := fun j hj => by
    rw [AS.get_push σ j o hlow, hnid, if_neg (by omega)]
  have hlt : ∀ d ∈ ds, d < σ.next := fun d hd => AS.lt_of_get (h.dget d hd)
  refine ⟨AS.slot_push σ o, fun id hid => ?_, Nat.le_trans h.le (AS.next_push_le σ o), ?_, ?_, fun id hid hw => ?_, h.dle, fun d hd => ?_, h.dnodup, ?_⟩
  · rw [AS.push_none h.slot] at hid ⊢
    simp only at hid ⊢
    rw [putObj_get, if_neg (by omega)]
    exact h.fresh id (by omega)
  · rw [List.map_cons, List.nodup_cons]
    refine ⟨fun hm => ?_, h.nodup⟩
    obtain ⟨p, hp, hpe⟩ := List.mem_map.1 hm
    have := h.lt hp
    rw [hnid] at hpe; omega
  · intro p hp
    rcases List.mem_cons.1 hp with rfl | hp
    · rw [AS.get_push σ _ o hlow, if_pos rfl]
    · rw [hgetn _ (h.lt hp)]; exact h.get p hp
  · rw [AS.push_none h.slot]
    simp only
    rw [putObj_get, if_neg (by have := h.le; omega)]
    exact h.keep id hid hw
  · rw [hgetn d (hlt d hd)]; exact h.dget d hd
  · intro d hd
    rw [List.map_cons, List.mem_cons]
    rintro (e | hm)
    · have := hlt d hd
      rw [e, hnid] at this; omega
    · exact h.dH d hd hm

inductive Upd : List (Nat × AObj) → Nat → AObj → AObj → List (Nat × AObj) → Prop
  | head {id : Nat} {o o' : AObj} {H : List (Nat × AObj)} : Upd ((id, o) :: H) id o o' ((id, o') :: H)
  | tail {p : Nat × AObj} {id : Nat} {o o' : AObj} {H H' : List (Nat × AObj)} (h : Upd H id o o' H') : Upd (p :: H) id o o' (p :: H')
theorem Upd.mem {H H' : List (Nat × AObj)} {id : Nat} {o o' : AObj} (h : Upd H id o o' H') : (id, o) ∈ H := by
  induction h with
  | head => simp
  | tail _ ih => exact List.mem_cons_of_mem _ ih
theorem Upd.keys {H H' : List (Nat × AObj)} {id : Nat} {o o' : AObj} (h : Upd H id o o' H') : H'.map (·.1) = H.map (·.1) := by
  induction h with
  | head => rfl
  | tail _ ih => simp [ih]
theorem Upd.cases_mem {H H' : List (Nat × AObj)} {id : Nat} {o o' : AObj} (h : Upd H id o o' H') (hn : (H.map (·.1)).Nodup) : ∀ p ∈ H', (p = (id, o')) ∨ (p ∈ H ∧ p.1 ≠ id) := by
  induction h with
  | head =>
    rw [List.map_cons, List.nodup_cons] at hn
    intro p hp
    rcases List.mem_cons.1 hp with rfl | hp
    · exact .inl rfl
    · exact .inr ⟨List.mem_cons_of_mem _ hp, fun e => hn.1 (List.mem_map.2 ⟨p, hp, e⟩)⟩
  | tail h ih =>
    rw [List.map_cons, List.nodup_cons] at hn
    intro p hp
    rcases List.mem_cons.1 hp with rfl | hp
    · refine .inr ⟨List.mem_cons_self, fun e => hn.1 ?_⟩
      rw [e]; exact List.mem_map.2 ⟨_, h.mem, rfl⟩
    · rcases ih hn.2 p hp with e | ⟨h1, h2⟩
      · exact .inl e
      · exact .inr ⟨List.mem_cons_of_mem _ h1, h2⟩

theorem He.set {B σ : AS} {W : List Nat} {H H' : List (Nat × AObj)} {ds : List Nat} (h : He B W σ H ds) {id : Nat} {o o' : AObj} (hu : Upd H id o o' H') (hw : B.next ≤ id ∨ id ∈ W) : He B W (σ.set id o') H' ds := by
  have hlt := h.lt hu.mem
  have hmem := h.get _ hu.mem
  refine ⟨h.slot, fun j hj => ?_, h.le, by rw [hu.keys]; exact h.nodup, fun p hp => ?_, fun j hj hjw => ?_, h.dle, fun d hd => ?_, h.dnodup, by rw [hu.keys]; exact h.dH⟩
  · rw [AS.next_set] at hj
    have : (σ.set id o').objs = putObj σ.objs id o' := rfl
    rw [this, putObj_get, if_neg (by simp only at hlt; omega)]
    exact h.fresh j hj
  · rcases hu.cases_mem h.nodup p hp with rfl | ⟨h1, h2⟩
    · rw [AS.get_set, if_pos hlt, if_pos rfl]
    · rw [AS.get_set, if_pos (h.lt h1), if_neg (fun e => h2 e.symm)]
      exact h.get p h1
  · have : (σ.set id o').objs = putObj σ.objs id o' := rfl
    rw [this, putObj_get, if_neg (fun e => by subst e; rcases hw with hw | hw
                                              · omega
                                              · exact hjw hw)]
    exact h.keep j hj hjw
  · have hne : ¬ id = d := fun e => by subst e; exact h.dH id hd (List.mem_map.2 ⟨_, hu.mem, rfl⟩)
    rw [AS.get_set, if_pos (AS.lt_of_get (h.dget d hd)), if_neg hne]
    exact h.dget d hd

def SubH : List (Nat × AObj) → List (Nat × AObj) → Prop
  | [], _ => True
  | p :: r, H => p ∈ H ∧ SubH r H
theorem SubH.mem : ∀ {H' H : List (Nat × AObj)}, SubH H' H → ∀ p ∈ H', p ∈ H
  | [], _, _, p, hp => by cases hp
  | q :: r, H, ⟨h1, h2⟩, p, hp => by
    rcases List.mem_cons.1 hp with rfl | hp
    · exact h1
    · exact h2.mem p hp
theorem He.sub {B σ : AS} {W : List Nat} {H H' : List (Nat × AObj)} {ds : List Nat} (h : He B W σ H ds) (hs : SubH H' H) (hn : (H'.map (·.1)).Nodup) : He B W σ H' ds :=
  ⟨h.slot, h.fresh, h.le, hn, fun p hp => h.get p (hs.mem p hp), h.keep, h.dle, h.dget, h.dnodup, fun d hd hm => h.dH d hd (by
    obtain ⟨p, hp, hpe⟩ := List.mem_map.1 hm
    exact List.mem_map.2 ⟨p, hs.mem p hp, hpe⟩)⟩

theorem He.trans {B σ σ' : AS} {W : List Nat} {H Hn : List (Nat × AObj)} {ds : List Nat} (h : He B W σ H ds) (h' : He σ [] σ' Hn []) (hn : ∀ p ∈ Hn, σ.next ≤ p.1) : He B W σ' (Hn ++ H) ds := by
  have keep : ∀ id, id < σ.next → σ'.get id = σ.get id := fun id hid => by
    have hk := h'.keep id hid (by simp)
    unfold AS.get
    rw [if_pos hid, if_pos (Nat.lt_of_lt_of_le hid h'.le), hk]
  refine ⟨h'.slot, h'.fresh, Nat.le_trans h.le h'.le, ?_, ?_, fun id hid hw => ?_, h.dle, fun d hd => ?_, h.dnodup, ?_⟩
  · rw [List.map_append, List.nodup_append]
    refine ⟨h'.nodup, h.nodup, fun a ha b hb => ?_⟩
    obtain ⟨p, hp, hpe⟩ := List.mem_map.1 ha
    obtain ⟨q, hq, hqe⟩ := List.mem_map.1 hb
    have h1 := hn p hp
    have h2 := h.lt hq
    omega
  · intro p hp
    rcases List.mem_append.1 hp with hp | hp
    · exact h'.get p hp
    · rw [keep _ (h.lt hp)]; exact h.get p hp
  · rw [h'.keep id (Nat.lt_of_lt_of_le hid h.le) (by simp)]
    exact h.keep id hid hw
  · rw [keep d (AS.lt_of_get (h.dget d hd))]; exact h.dget d hd
  · intro d hd hm
    rw [List.map_append, List.mem_append] at hm
    rcases hm with hm | hm
    · obtain ⟨p, hp, hpe⟩ := List.mem_map.1 hm
      have h1 := hn p hp
      have h2 := AS.lt_of_get (h.dget d hd)
      omega
    · exact h.dH d hd hm
theorem He.start {σ : AS} (h1 : σ.slot = none) (h2 : ∀ id, σ.next ≤ id → σ.objs.get id = none) {H : List (Nat × AObj)} (hn : (H.map (·.1)).Nodup) (hg : ∀ p ∈ H, σ.get p.1 = some p.2) : He σ [] σ H [] :=
  ⟨h1, h2, Nat.le_refl _, hn, hg, fun _ _ _ => rfl, (fun d hd => by cases hd), (fun d hd => by cases hd), List.nodup_nil, (fun d hd => by cases hd)⟩
theorem He.here {B σ : AS} {W : List Nat} {H : List (Nat × AObj)} {ds : List Nat} (h : He B W σ H ds) : He σ [] σ H [] := .start h.slot h.fresh h.nodup h.get

variable (P G)
def SC (B : AS) (W : List Nat) (rd : Option Nat) (c : Code) (L : List (Nat × AV)) (N : Nat) (ds : List Nat) (H : List (Nat × AObj)) (Q : AEx → Cfg → Prop) : Prop :=
  ∀ tm σ, En tm N L → He B W σ H ds → wpc P G rd c ⟨tm, ds, σ⟩ Q
def SL (B : AS) (W : List Nat) (ops : Array Oper) (os : List Oper) (L : List (Nat × AV)) (N : Nat) (ds : List Nat) (H : List (Nat × AObj)) (Q : Cfg → Prop) : Prop :=
  ∀ tm σ, En tm N L → He B W σ H ds → wpl P G ops os ⟨tm, ds, σ⟩ Q
variable {P G}

section code
variable {B : AS} {W : List Nat} {rd : Option Nat} {L : List (Nat × AV)} {N : Nat} {ds : List Nat} {H : List (Nat × AObj)} {Q : AEx → Cfg → Prop}
theorem SC.app {c : Code} {tm : Tm} {σ : AS} (h : SC P G B W rd c L N ds H Q) (h1 : En tm N L) (h2 : He B W σ H ds) : wpc P G rd c ⟨tm, ds, σ⟩ Q := h tm σ h1 h2
theorem SC.sub {c : Code} {L' : List (Nat × AV)} (h : SC P G B W rd c L' N ds H Q) (hs : Sub L' L) : SC P G B W rd c L N ds H Q := fun tm σ h1 h2 => h tm σ (h1.sub hs) h2
theorem SC_seq {a b : Code} (h : SC P G B W rd a L N ds H (Nxt (fun s => wpc P G rd b s Q) Q)) : SC P G B W rd (.seq a b) L N ds H Q := fun tm σ h1 h2 => wpc_seq (h tm σ h1 h2)
theorem SC_block {id : Nat} {b : Code} (h : SC P G B W rd b L N ds H (InB id Q)) : SC P G B W rd (.block id b) L N ds H Q := fun tm σ h1 h2 => wpc_block (h tm σ h1 h2)
theorem SC_scope {b : Code} (h : SC P G B W rd b L N ds H Q) : SC P G B W rd (.scope b) L N ds H Q := fun tm σ h1 h2 => wpc_scope (h tm σ h1 h2)
theorem SC_cond_t {x : Operand} {a b : Code} (hx : evL G L x = some (.s (.bool true))) (h : SC P G B W rd a L N ds H Q) : SC P G B W rd (.cond x a b) L N ds H Q := fun tm σ h1 h2 => wpc_cond (t := true) (h1.ev hx) (h tm σ h1 h2)
theorem SC_cond_f {x : Operand} {a b : Code} (hx : evL G L x = some (.s (.bool false))) (h : SC P G B W rd b L N ds H Q) : SC P G B W rd (.cond x a b) L N ds H Q := fun tm σ h1 h2 => wpc_cond (t := false) (h1.ev hx) (h tm σ h1 h2)
theorem SC_skip {K : Cfg → Prop} {Q' : AEx → Cfg → Prop} (h : ∀ tm σ, En tm N L → He B W σ H ds → K ⟨tm, ds, σ⟩) : SC P G B W rd .skip L N ds H (Nxt K Q') := fun tm σ h1 h2 => wpc_skip (h tm σ h1 h2)
theorem SC_skip' (h : ∀ tm σ, En tm N L → He B W σ H ds → Q .normal ⟨tm, ds, σ⟩) : SC P G B W rd .skip L N ds H Q := fun tm σ h1 h2 => wpc_skip (h tm σ h1 h2)
theorem SC_exit {id : Nat} (h : ∀ tm σ, En tm N L → He B W σ H ds → Q (.exit id) ⟨tm, ds, σ⟩) : SC P G B W rd (.exit id) L N ds H Q := fun tm σ h1 h2 => wpc_exit (h tm σ h1 h2)
theorem SC_ret (h : ∀ tm σ, En tm N L → He B W σ H ds → Q .ret ⟨tm, ds, σ⟩) : SC P G B W rd .ret L N ds H Q := fun tm σ h1 h2 => wpc_ret (h tm σ h1 h2)
theorem SC_region {id : Nat} {l : List Oper} (h : SL P G B W l.toArray l L N ds H (fun s => Q .normal s)) : SC P G B W rd (.region id l.toArray false) L N ds H Q := fun tm σ h1 h2 => wpc_region (h tm σ h1 h2)

def St (B : AS) (W : List Nat) (s : Cfg) (L : List (Nat × AV)) (N : Nat) (ds : List Nat) (H : List (Nat × AObj)) : Prop := ∃ tm σ, s = ⟨tm, ds, σ⟩ ∧ En tm N L ∧ He B W σ H ds
theorem SC_loop {b : Code} {α : Type} (Lf : α → List (Nat × AV)) (Hf : α → List (Nat × AObj)) (dsf : α → List Nat) (Inv : α → Prop) (μ : α → Nat) (a0 : α) (hI : Inv a0) (hL : Sub (Lf a0) L) (hH : SubH (Hf a0) H) (hn : ((Hf a0).map (·.1)).Nodup) (hd : dsf a0 = ds)
    (step : ∀ a, Inv a → SC P G B W rd b (Lf a) N (dsf a) (Hf a) (Nxt (fun s => ∃ a', μ a' < μ a ∧ Inv a' ∧ St B W s (Lf a') N (dsf a') (Hf a')) Q)) : SC P G B W rd (.loop b) L N ds H Q := by
  intro tm σ h1 h2
  refine wpc_inv (fun m s => ∃ a, μ a = m ∧ Inv a ∧ St B W s (Lf a) N (dsf a) (Hf a)) (μ a0) ⟨a0, rfl, hI, tm, σ, by rw [hd], h1.sub hL, by rw [hd]; exact h2.sub hH hn⟩ ?_
  rintro m s ⟨a, rfl, hIa, tm', σ', rfl, h3, h4⟩
  refine wpc_mono (step a hIa tm' σ' h3 h4) fun e s' hq => ?_
  cases e with
  | normal =>
    obtain ⟨a', h5, h6, h7⟩ := hq
    exact ⟨μ a', h5, a', rfl, h6, h7⟩
  | exit id => exact hq
  | ret => exact hq
end code
end Go.Ab
/- Symbolic steps: the rules of the operations. -/
namespace Go.Ab
variable {P : Program} {G : Gl}

def rowN (P : Program) (t : TypeId) : Option (Option Nat) :=
  match P.underlying t with
  | some d => if d.isRow then (sz P t).map some else some none
  | none => none
def sliceOf (P : Program) (t : TypeId) : Option (TypeId × Nat) :=
  match P.underlying t with
  | some (.slice e) => (sz P e).map fun n => (e, n)
  | _ => none
def arrOf (P : Program) (t : TypeId) : Option (Nat × TypeId × Nat) :=
  match P.underlying t with
  | some (.array n e) => (sz P e).map fun s => (n, e, s)
  | _ => none
def fldOf (P : Program) (t : TypeId) (f : Nat) : Option Nat :=
  match P.underlying t with
  | some (.struct fields) =>
    match fields[f]? with
    | some fd => match sz P fd.type with
      | some (_ + 1) => some fd.offset
      | _ => none
    | none => none
  | _ => none
def zeroOf (P : Program) (t : TypeId) : Option (List AV) := ((P.info? t).bind (·.zero)).map fun z => z.cells.toList.map .s
def elOf (P : Program) (t : TypeId) : Option (TypeId × Nat × Nat × List AV) :=
  match P.underlying t with
  | some (.slice e) =>
    match P.info? e with
    | some info =>
      match info.zero with
      | some z => if z.cells.size = info.size then some (e, info.size, info.bytes, z.cells.toList.map .s) else none
      | none => none
    | none => none
  | _ => none

theorem readAt_cell {t : TypeId} (h : rowN P t = some none) (row : List AV) (f : Nat) : readAt P t row f = row[f]? := by
  unfold rowN at h
  unfold readAt
  split at h
  · rename_i d hd
    rw [hd]
    simp only
    split at h
    · cases hs : sz P t with
      | none => rw [hs] at h; cases h
      | some n => rw [hs] at h; cases h
    · rename_i hr
      rw [if_neg hr]
  · cases h
theorem readAt_row {t : TypeId} {n : Nat} (h : rowN P t = some (some n)) (row : List AV) (f : Nat) (hf : f + n ≤ row.length) : readAt P t row f = some (mkAgg ((row.drop f).take n)) := by
  unfold rowN at h
  unfold readAt
  split at h
  · rename_i d hd
    rw [hd]
    simp only
    split at h
    · rename_i hr
      rw [if_pos hr]
      cases hs : sz P t with
      | none => rw [hs] at h; cases h
      | some m =>
        rw [hs] at h
        cases h
        simp only
        rw [if_pos hf]
    · cases h
  · cases h
theorem sliceOf_spec {t e : TypeId} {n : Nat} (h : sliceOf P t = some (e, n)) : P.underlying t = some (.slice e) ∧ sz P e = some n := by
  unfold sliceOf at h
  split at h
  · rename_i e' he
    cases hs : sz P e' with
    | none => rw [hs] at h; cases h
    | some m => rw [hs] at h; cases h; exact ⟨he, hs⟩
  · cases h
theorem arrOf_spec {t e : TypeId} {n k : Nat} (h : arrOf P t = some (k, e, n)) : P.underlying t = some (.array k e) ∧ sz P e = some n := by
  unfold arrOf at h
  split at h
  · rename_i k' e' he
    cases hs : sz P e' with
    | none => rw [hs] at h; cases h
    | some m => rw [hs] at h; cases h; exact ⟨he, hs⟩
  · cases h
theorem elOf_spec {t e : TypeId} {n b : Nat} {z : List AV} (h : elOf P t = some (e, n, b, z)) : P.underlying t = some (.slice e) ∧ sz P e = some n ∧ ∃ info zv, P.info? e = some info ∧ info.zero = some zv ∧ zv.cells.size = info.size ∧ info.size = n ∧ info.bytes = b ∧ z = zv.cells.toList.map .s := by
  unfold elOf at h
  split at h
  · rename_i e' he
    split at h
    · rename_i info hi
      split at h
      · rename_i zv hz
        split at h
        · rename_i hsz
          cases h
          exact ⟨he, by unfold sz; rw [hi]; rfl, info, zv, hi, hz, hsz, rfl, rfl, rfl⟩
        · cases h
      · cases h
    · cases h
  · cases h

theorem evalP_bind {α β : Type} (s : Sem α) (f : α → Sem β) : evalP P (s >>= f) = (evalP P s).bind fun a => evalP P (f a) := by
  show evalP P (s.bind f) = _
  induction s with
  | pure a => rfl
  | program k ih => exact ih P
  | mark m k ih => exact ih
  | _ => rfl
theorem evalP_map {α β : Type} (s : Sem α) (f : α → β) : evalP P (f <$> s) = (evalP P s).map f := by
  show evalP P (s >>= fun a => pure (f a)) = _
  rw [evalP_bind]
  cases evalP P s <;> rfl
theorem evalP_under (t : TypeId) {d : TypeDesc} (h : P.underlying t = some d) : evalP P (underlying t) = some d := by
  unfold underlying
  show evalP P (Go.program >>= _) = _
  rw [evalP_bind]
  show evalP P (match P.underlying t with | some d => pure d | none => _) = _
  rw [h]
  rfl

section rules
variable {B : AS} {W : List Nat} {ops : Array Oper} {os : List Oper} {L : List (Nat × AV)} {N : Nat} {ds : List Nat} {H : List (Nat × AObj)} {Q : Cfg → Prop} {ty : TypeId} {pos : String} {af : Array Edge} {d : Nat}

theorem SL_nil (h : ∀ tm σ, En tm N L → He B W σ H ds → Q ⟨tm, ds, σ⟩) : SL P G B W ops [] L N ds H Q := fun tm σ h1 h2 => wpl_nil (h tm σ h1 h2)
theorem SL_seq {rd : Option Nat} {b : Code} {Q Q' : AEx → Cfg → Prop} (h : SC P G B W rd b L N ds H Q) : SL P G B W ops [] L N ds H (fun s => Nxt (fun s => wpc P G rd b s Q) Q' .normal s) := fun tm σ h1 h2 => wpl_nil (h tm σ h1 h2)

theorem SL_val {op : Op} (v : AV) (hd : d < N) (h : ∀ tm σ, En tm N L → He B W σ H ds → eff P ⟨some d, op, ty, pos, af, none⟩ (evT G tm) σ = some (.val v, σ)) (k : SL P G B W ops os ((d, v) :: L) N ds H Q) :
    SL P G B W ops (⟨some d, op, ty, pos, af, none⟩ :: os) L N ds H Q := fun tm σ h1 h2 => by
  refine wpl_op rfl ?_
  rw [h tm σ h1 h2]
  exact wpn_val (k _ σ (h1.set hd v) h2)

theorem SL_run {dst : Option Tmp} {op : Op} {j t : Nat} {want : Bool} (hj : (ops[j]?).bind (·.dst) = some t) (ht : lk L t = some (.s (.bool want))) (k : SL P G B W ops (⟨dst, op, ty, pos, af, none⟩ :: os) L N ds H Q) :
    SL P G B W ops (⟨dst, op, ty, pos, af, some (j, want)⟩ :: os) L N ds H Q := fun tm σ h1 h2 => by
  obtain ⟨n, s', h3, h4⟩ := k tm σ h1 h2
  refine ⟨n, s', ?_, h4⟩
  simp only [runL, stepO, resO] at h3 ⊢
  have hw : Region.wanted ⟨dst, op, ty, pos, af, some (j, want)⟩ (ayielded ops tm) = true := by
    simp only [Region.wanted, ayielded, hj, h1.get _ _ ht, beq_self_eq_true]
  have hw' : Region.wanted ⟨dst, op, ty, pos, af, none⟩ (ayielded ops tm) = true := rfl
  rw [if_pos hw]
  rw [if_pos hw'] at h3
  exact h3
theorem SL_not {op : Op} {j t : Nat} {want b : Bool} (hj : (ops[j]?).bind (·.dst) = some t) (ht : lk L t = some (.s (.bool b))) (hb : b = !want) (hd : d < N) (k : SL P G B W ops os ((d, uv) :: L) N ds H Q) :
    SL P G B W ops (⟨some d, op, ty, pos, af, some (j, want)⟩ :: os) L N ds H Q := fun tm σ h1 h2 => by
  refine wpl_not ?_ (k _ σ (h1.set hd uv) h2)
  simp only [Region.wanted, ayielded, hj, h1.get _ _ ht, hb]
  cases want <;> rfl

theorem SL_move {x : Operand} {v : AV} (hd : d < N) (hx : evL G L x = some v) (k : SL P G B W ops os ((d, v) :: L) N ds H Q) : SL P G B W ops (⟨some d, .move x, ty, pos, af, none⟩ :: os) L N ds H Q :=
  SL_val v hd (fun tm σ h1 h2 => by unfold eff; simp only [h1.ev hx]) k
theorem SL_assign {x : Operand} {v : AV} (hd : d < N) (hx : evL G L x = some v) (k : SL P G B W ops os ((d, v) :: L) N ds H Q) : SL P G B W ops (⟨some d, .assign x, ty, pos, af, none⟩ :: os) L N ds H Q :=
  SL_val v hd (fun tm σ h1 h2 => by unfold eff; simp only [h1.ev hx]) k
theorem SL_pick_t {c x y : Operand} {v : AV} (hd : d < N) (hc : evL G L c = some (.s (.bool true))) (hx : evL G L x = some v) (k : SL P G B W ops os ((d, v) :: L) N ds H Q) : SL P G B W ops (⟨some d, .pick c x y, ty, pos, af, none⟩ :: os) L N ds H Q :=
  SL_val v hd (fun tm σ h1 h2 => by unfold eff; simp only [effPick, h1.ev hc, h1.ev hx]; rfl) k
theorem SL_pick_f {c x y : Operand} {v : AV} (hd : d < N) (hc : evL G L c = some (.s (.bool false))) (hy : evL G L y = some v) (k : SL P G B W ops os ((d, v) :: L) N ds H Q) : SL P G B W ops (⟨some d, .pick c x y, ty, pos, af, none⟩ :: os) L N ds H Q :=
  SL_val v hd (fun tm σ h1 h2 => by unfold eff; simp only [effPick, h1.ev hc, h1.ev hy]; rfl) k

theorem SL_fast {o : BinOp} {t yt : TypeId} {x y : Operand} {u v r : Value} (hd : d < N) (hx : evL G L x = some (.s u)) (hy : evL G L y = some (.s v)) (hr : fastBin o u v = some r) (k : SL P G B W ops os ((d, .s r) :: L) N ds H Q) :
    SL P G B W ops (⟨some d, .binOp o t x y yt, ty, pos, af, none⟩ :: os) L N ds H Q :=
  SL_val (.s r) hd (fun tm σ h1 h2 => by unfold eff; simp only [effBin, h1.ev hx, h1.ev hy, hr]) k
theorem SL_add {t yt : TypeId} {x y : Operand} {a b : Int} (hd : d < N) (hx : evL G L x = some (.s (.int .i64 a))) (hy : evL G L y = some (.s (.int .i64 b))) (h1 : -9223372036854775808 ≤ a + b) (h2 : a + b ≤ 9223372036854775807) (k : SL P G B W ops os ((d, .s (.int .i64 (a + b))) :: L) N ds H Q) :
    SL P G B W ops (⟨some d, .binOp .add t x y yt, ty, pos, af, none⟩ :: os) L N ds H Q :=
  SL_fast hd hx hy (by simp only [fastBin, if_true, IntWalk.i64_in _ ⟨h1, h2⟩]) k
theorem SL_sub {t yt : TypeId} {x y : Operand} {a b : Int} (hd : d < N) (hx : evL G L x = some (.s (.int .i64 a))) (hy : evL G L y = some (.s (.int .i64 b))) (h1 : -9223372036854775808 ≤ a - b) (h2 : a - b ≤ 9223372036854775807) (k : SL P G B W ops os ((d, .s (.int .i64 (a - b))) :: L) N ds H Q) :
    SL P G B W ops (⟨some d, .binOp .sub t x y yt, ty, pos, af, none⟩ :: os) L N ds H Q :=
  SL_fast hd hx hy (by simp only [fastBin, if_true, IntWalk.i64_in _ ⟨h1, h2⟩]) k
theorem SL_mul {t yt : TypeId} {x y : Operand} {a b : Int} (hd : d < N) (hx : evL G L x = some (.s (.int .i64 a))) (hy : evL G L y = some (.s (.int .i64 b))) (h1 : -9223372036854775808 ≤ a * b) (h2 : a * b ≤ 9223372036854775807) (k : SL P G B W ops os ((d, .s (.int .i64 (a * b))) :: L) N ds H Q) :
    SL P G B W ops (⟨some d, .binOp .mul t x y yt, ty, pos, af, none⟩ :: os) L N ds H Q :=
  SL_fast hd hx hy (by simp only [fastBin, if_true, IntWalk.i64_in _ ⟨h1, h2⟩]) k

theorem SL_test {o : BinOp} {t yt : TypeId} {x y : Operand} {kk : IntKind} {a b : Int} {c : Bool} (hd : d < N) (hx : evL G L x = some (.s (.int kk a))) (hy : evL G L y = some (.s (.int kk b))) (hr : fastBin o (.int kk a) (.int kk b) = some (.bool c))
    (ht : c = true → SL P G B W ops os ((d, .s (.bool true)) :: L) N ds H Q) (hf : c = false → SL P G B W ops os ((d, .s (.bool false)) :: L) N ds H Q) : SL P G B W ops (⟨some d, .binOp o t x y yt, ty, pos, af, none⟩ :: os) L N ds H Q := by
  cases c with
  | true => exact SL_fast hd hx hy hr (ht rfl)
  | false => exact SL_fast hd hx hy hr (hf rfl)
theorem SL_lss {t yt : TypeId} {x y : Operand} {kk : IntKind} {a b : Int} (hd : d < N) (hx : evL G L x = some (.s (.int kk a))) (hy : evL G L y = some (.s (.int kk b))) (ht : a < b → SL P G B W ops os ((d, .s (.bool true)) :: L) N ds H Q) (hf : b ≤ a → SL P G B W ops os ((d, .s (.bool false)) :: L) N ds H Q) :
    SL P G B W ops (⟨some d, .binOp .lss t x y yt, ty, pos, af, none⟩ :: os) L N ds H Q :=
  SL_test (c := decide (a < b)) hd hx hy (by simp only [fastBin, if_true]) (fun h => ht (by simpa using h)) (fun h => hf (by simpa using h))
theorem SL_leq {t yt : TypeId} {x y : Operand} {kk : IntKind} {a b : Int} (hd : d < N) (hx : evL G L x = some (.s (.int kk a))) (hy : evL G L y = some (.s (.int kk b))) (ht : a ≤ b → SL P G B W ops os ((d, .s (.bool true)) :: L) N ds H Q) (hf : b < a → SL P G B W ops os ((d, .s (.bool false)) :: L) N ds H Q) :
    SL P G B W ops (⟨some d, .binOp .leq t x y yt, ty, pos, af, none⟩ :: os) L N ds H Q :=
  SL_test (c := decide (a ≤ b)) hd hx hy (by simp only [fastBin, if_true]) (fun h => ht (by simpa using h)) (fun h => hf (by simpa using h))
theorem SL_gtr {t yt : TypeId} {x y : Operand} {kk : IntKind} {a b : Int} (hd : d < N) (hx : evL G L x = some (.s (.int kk a))) (hy : evL G L y = some (.s (.int kk b))) (ht : b < a → SL P G B W ops os ((d, .s (.bool true)) :: L) N ds H Q) (hf : a ≤ b → SL P G B W ops os ((d, .s (.bool false)) :: L) N ds H Q) :
    SL P G B W ops (⟨some d, .binOp .gtr t x y yt, ty, pos, af, none⟩ :: os) L N ds H Q :=
  SL_test (c := decide (a > b)) hd hx hy (by simp only [fastBin, if_true]) (fun h => ht (by simpa using h)) (fun h => hf (by simpa using h))
theorem SL_geq {t yt : TypeId} {x y : Operand} {kk : IntKind} {a b : Int} (hd : d < N) (hx : evL G L x = some (.s (.int kk a))) (hy : evL G L y = some (.s (.int kk b))) (ht : b ≤ a → SL P G B W ops os ((d, .s (.bool true)) :: L) N ds H Q) (hf : a < b → SL P G B W ops os ((d, .s (.bool false)) :: L) N ds H Q) :
    SL P G B W ops (⟨some d, .binOp .geq t x y yt, ty, pos, af, none⟩ :: os) L N ds H Q :=
  SL_test (c := decide (a ≥ b)) hd hx hy (by simp only [fastBin, if_true]) (fun h => ht (by simpa using h)) (fun h => hf (by simpa using h))
theorem SL_eql {t yt : TypeId} {x y : Operand} {kk : IntKind} {a b : Int} (hd : d < N) (hx : evL G L x = some (.s (.int kk a))) (hy : evL G L y = some (.s (.int kk b))) (ht : a = b → SL P G B W ops os ((d, .s (.bool true)) :: L) N ds H Q) (hf : a ≠ b → SL P G B W ops os ((d, .s (.bool false)) :: L) N ds H Q) :
    SL P G B W ops (⟨some d, .binOp .eql t x y yt, ty, pos, af, none⟩ :: os) L N ds H Q :=
  SL_test (c := a == b) hd hx hy (by simp only [fastBin, if_true]) (fun h => ht (by simpa using h)) (fun h => hf (by simpa using h))
theorem SL_neq {t yt : TypeId} {x y : Operand} {kk : IntKind} {a b : Int} (hd : d < N) (hx : evL G L x = some (.s (.int kk a))) (hy : evL G L y = some (.s (.int kk b))) (ht : a ≠ b → SL P G B W ops os ((d, .s (.bool true)) :: L) N ds H Q) (hf : a = b → SL P G B W ops os ((d, .s (.bool false)) :: L) N ds H Q) :
    SL P G B W ops (⟨some d, .binOp .neq t x y yt, ty, pos, af, none⟩ :: os) L N ds H Q :=
  SL_test (c := a != b) hd hx hy (by simp only [fastBin, if_true]) (fun h => ht (by simpa using h)) (fun h => hf (by simpa using h))

theorem SL_bool {b : Bool} {i : Nat} (hb : lk L i = some (.s (.bool b))) (ht : b = true → SL P G B W ops os ((i, .s (.bool true)) :: L) N ds H Q) (hf : b = false → SL P G B W ops os ((i, .s (.bool false)) :: L) N ds H Q) : SL P G B W ops os L N ds H Q := by
  have key : ∀ {c : Bool}, b = c → (∀ j v, lk ((i, .s (.bool c)) :: L) j = some v → lk L j = some v) := by
    intro c hc j v hv
    unfold lk at hv
    cases he : Nat.beq i j with
    | true =>
      have := Nat.eq_of_beq_eq_true he
      subst this
      rw [he] at hv
      simp only [cond_true] at hv
      rw [hb, hc]; exact hv
    | false => rw [he] at hv; exact hv
  intro tm σ h1 h2
  cases b with
  | true => exact ht rfl tm σ ⟨h1.n, fun j v hj => h1.get j v (key rfl j v hj)⟩ h2
  | false => exact hf rfl tm σ ⟨h1.n, fun j v hj => h1.get j v (key rfl j v hj)⟩ h2

theorem SL_not_op {t : TypeId} {x : Operand} {b : Bool} (hd : d < N) (hx : evL G L x = some (.s (.bool b))) (k : SL P G B W ops os ((d, .s (.bool (!b))) :: L) N ds H Q) :
    SL P G B W ops (⟨some d, .unOp .not t x, ty, pos, af, none⟩ :: os) L N ds H Q :=
  SL_val (.s (.bool (!b))) hd (fun tm σ h1 h2 => by
    unfold eff
    have he : effPure P ⟨some d, .unOp .not t x, ty, pos, af, none⟩ (evT G tm) = some (.s (.bool (!b))) := by
      unfold effPure
      simp only [Op.operands, h1.ev hx, isRef, List.all_cons, List.all_nil, Bool.not_false, Bool.and_self, if_true, execOp, sOf, Option.getD_some]
      rfl
    simp only [he]
    rfl) k
theorem SL_len_rsl {t : TypeId} {x : Operand} {a : Addr} {es cap : Nat} {rows : List (List AV)} {e : TypeId} {ats : Array TypeId} (hd : d < N) (hx : evL G L x = some (.rsl a es cap rows)) (ha : ats[0]? = some t) (ht : P.underlying t = some (.slice e)) (k : SL P G B W ops os ((d, .s (.int .i64 rows.length)) :: L) N ds H Q) :
    SL P G B W ops (⟨some d, .call ⟨.builtin .len, #[x], ats⟩, ty, pos, af, none⟩ :: os) L N ds H Q :=
  SL_val _ hd (fun tm σ h1 h2 => by
    unfold eff
    simp only [effCall, effBuiltin, List.map_cons, List.map_nil, h1.ev hx, effLenOp, isRef, if_true, effLen, ha, Option.bind_some, ht]
    rfl) k
theorem SL_len_sl {t : TypeId} {x : Operand} {o i n : Nat} {cap : Option Nat} {e : TypeId} {ats : Array TypeId} (hd : d < N) (hx : evL G L x = some (.sl o i n cap)) (ha : ats[0]? = some t) (ht : P.underlying t = some (.slice e)) (k : SL P G B W ops os ((d, .s (.int .i64 n)) :: L) N ds H Q) :
    SL P G B W ops (⟨some d, .call ⟨.builtin .len, #[x], ats⟩, ty, pos, af, none⟩ :: os) L N ds H Q :=
  SL_val _ hd (fun tm σ h1 h2 => by
    unfold eff
    simp only [effCall, effBuiltin, List.map_cons, List.map_nil, h1.ev hx, effLenOp, isRef, if_true, effLen, ha, Option.bind_some, ht]
    rfl) k
theorem SL_len_0 {t : TypeId} {x : Operand} {a : Option Addr} {n cap : Nat} {e : TypeId} {ats : Array TypeId} (hd : d < N) (hx : evL G L x = some (.s (.slice a n cap))) (ha : ats[0]? = some t) (ht : P.underlying t = some (.slice e)) (k : SL P G B W ops os ((d, .s (.int .i64 n)) :: L) N ds H Q) :
    SL P G B W ops (⟨some d, .call ⟨.builtin .len, #[x], ats⟩, ty, pos, af, none⟩ :: os) L N ds H Q :=
  SL_val _ hd (fun tm σ h1 h2 => by
    unfold eff
    have he : effPure P ⟨some d, .call ⟨.builtin .len, #[x], ats⟩, ty, pos, af, none⟩ (evT G tm) = some (.s (.int .i64 n)) := by
      unfold effPure
      simp only [Op.operands, Call.operands, h1.ev hx, isRef, List.all_cons, List.all_nil, Bool.not_false, Bool.and_self, List.nil_append, Array.toList_append, if_true]
      have hl : evalP P (Builtin.len_ ats ty #[.slice a n cap]) = some (.int .i64 n) := by
        unfold Builtin.len_
        rw [ha]
        show evalP P (underlying t >>= _) = _
        rw [evalP_bind, evalP_under t ht]
        rfl
      have hx2 : evalP P (execOp (fun x => (sOf (evT G tm x)).getD undef) ⟨some d, .call ⟨.builtin .len, #[x], ats⟩, ty, pos, af, none⟩) = some (.value (.int .i64 n)) := by
        have e1 : execOp (fun x => (sOf (evT G tm x)).getD undef) ⟨some d, .call ⟨.builtin .len, #[x], ats⟩, ty, pos, af, none⟩ = (do pure (Next.value (← Builtin.len_ ats ty #[(sOf (evT G tm x)).getD undef]))) :=
          builtin_v (o := ⟨some d, .call ⟨.builtin .len, #[x], ats⟩, ty, pos, af, none⟩) (c := ⟨.builtin .len, #[x], ats⟩) rfl rfl (by simp [builtin])
        rw [e1, h1.ev hx]
        simp only [sOf, Option.getD_some]
        rw [evalP_bind, hl]
        rfl
      rw [hx2]
    simp only [effCall, effBuiltin, List.map_cons, List.map_nil, h1.ev hx, effLenOp, isRef, he]
    rfl) k

theorem SL_extract_tup {x : Operand} {l : List AV} {i : Nat} {v : AV} (hd : d < N) (hx : evL G L x = some (.tup l)) (hv : l[i]? = some v) (k : SL P G B W ops os ((d, v) :: L) N ds H Q) : SL P G B W ops (⟨some d, .extract x i, ty, pos, af, none⟩ :: os) L N ds H Q :=
  SL_val v hd (fun tm σ h1 h2 => by unfold eff; simp only [effExtract, h1.ev hx, withSt, hv]; rfl) k
theorem SL_extract_s {x : Operand} {vs : Array Value} {i : Nat} {v : Value} (hd : d < N) (hx : evL G L x = some (.s (.tuple vs))) (hv : vs.toList[i]? = some v) (k : SL P G B W ops os ((d, .s v) :: L) N ds H Q) : SL P G B W ops (⟨some d, .extract x i, ty, pos, af, none⟩ :: os) L N ds H Q :=
  SL_val (.s v) hd (fun tm σ h1 h2 => by unfold eff; simp only [effExtract, h1.ev hx, withSt, hv]; rfl) k
theorem fieldAddr_spec {t : TypeId} {f off : Nat} (h : fldOf P t f = some off) (o i g : Nat) : effFieldAddr P t (.ptr o i g) f = some (.ptr o i (g + off)) := by
  unfold fldOf at h
  unfold effFieldAddr
  split at h
  · rename_i fields hu
    rw [hu]
    simp only
    split at h
    · rename_i fd hf
      rw [hf]
      simp only
      split at h
      · rename_i n hs
        cases h
        rw [hs]
      · cases h
    · cases h
  · cases h
theorem fieldAddr_spec' {t : TypeId} {f off : Nat} (h : fldOf P t f = some off) (a : Addr) (es : Nat) (rows : List (List AV)) (i g : Nat) : effFieldAddr P t (.rptr a es rows i g) f = some (.rptr a es rows i (g + off)) := by
  unfold fldOf at h
  unfold effFieldAddr
  split at h
  · rename_i fields hu
    rw [hu]
    simp only
    split at h
    · rename_i fd hf
      rw [hf]
      simp only
      split at h
      · rename_i n hs
        cases h
        rw [hs]
      · cases h
    · cases h
  · cases h
theorem SL_fieldAddr {t : TypeId} {x : Operand} {f off o i g : Nat} (hd : d < N) (hx : evL G L x = some (.ptr o i g)) (ht : fldOf P t f = some off) (k : SL P G B W ops os ((d, .ptr o i (g + off)) :: L) N ds H Q) : SL P G B W ops (⟨some d, .fieldAddr t x f, ty, pos, af, none⟩ :: os) L N ds H Q :=
  SL_val _ hd (fun tm σ h1 h2 => by unfold eff; simp only [withSt, h1.ev hx, fieldAddr_spec ht]; rfl) k
theorem SL_fieldAddr_r {t : TypeId} {x : Operand} {f off i g es : Nat} {a : Addr} {rows : List (List AV)} (hd : d < N) (hx : evL G L x = some (.rptr a es rows i g)) (ht : fldOf P t f = some off) (k : SL P G B W ops os ((d, .rptr a es rows i (g + off)) :: L) N ds H Q) :
    SL P G B W ops (⟨some d, .fieldAddr t x f, ty, pos, af, none⟩ :: os) L N ds H Q :=
  SL_val _ hd (fun tm σ h1 h2 => by unfold eff; simp only [withSt, h1.ev hx, fieldAddr_spec' ht]; rfl) k
theorem SL_indexAddr_r {t e : TypeId} {x ix : Operand} {a : Addr} {es cap : Nat} {rows : List (List AV)} {kk : IntKind} {n : Int} (hd : d < N) (hx : evL G L x = some (.rsl a es cap rows)) (hi : evL G L ix = some (.s (.int kk n))) (ht : sliceOf P t = some (e, es)) (i : Nat) (hn : n = i) (hlt : i < rows.length)
    (k : SL P G B W ops os ((d, .rptr a es rows i 0) :: L) N ds H Q) : SL P G B W ops (⟨some d, .indexAddr t x ix, ty, pos, af, none⟩ :: os) L N ds H Q :=
  SL_val _ hd (fun tm σ h1 h2 => by
    obtain ⟨hu, hs⟩ := sliceOf_spec ht
    unfold eff
    simp only [effIndexAddr, h1.ev hx, h1.ev hi, hu, hs, withSt]
    subst hn
    rw [if_pos ⟨trivial, by omega, by omega⟩]
    simp) k
theorem SL_indexAddr_o {t e e' : TypeId} {x ix : Operand} {id j len : Nat} {cap : Option Nat} {es : Nat} {ex : Bool} {rows : List (List AV)} {kk : IntKind} {n : Int} (hd : d < N) (hx : evL G L x = some (.sl id j len cap)) (hi : evL G L ix = some (.s (.int kk n))) (hm : (id, AObj.cells e' es ex rows) ∈ H) (ht : sliceOf P t = some (e, es))
    (i : Nat) (hn : n = i) (hlt : i < len) (k : SL P G B W ops os ((d, .ptr id (j + i) 0) :: L) N ds H Q) : SL P G B W ops (⟨some d, .indexAddr t x ix, ty, pos, af, none⟩ :: os) L N ds H Q :=
  SL_val _ hd (fun tm σ h1 h2 => by
    obtain ⟨hu, hs⟩ := sliceOf_spec ht
    unfold eff
    simp only [effIndexAddr, h1.ev hx, h1.ev hi, hu, hs, withSt, h2.get _ hm]
    subst hn
    rw [if_pos ⟨trivial, by omega, by omega⟩]
    simp) k

theorem SL_load_r {t : TypeId} {x : Operand} {a : Addr} {es i f : Nat} {rows : List (List AV)} {row : List AV} {v : AV} (hd : d < N) (hx : evL G L x = some (.rptr a es rows i f)) (ht : rowN P t = some none) (hr : rows[i]? = some row) (hv : row[f]? = some v)
    (k : SL P G B W ops os ((d, v) :: L) N ds H Q) : SL P G B W ops (⟨some d, .load t x, ty, pos, af, none⟩ :: os) L N ds H Q :=
  SL_val v hd (fun tm σ h1 h2 => by unfold eff; simp only [effLoad, h1.ev hx, hr, Option.bind_some, readAt_cell ht, hv, withSt]; rfl) k
theorem SL_load_rr {t : TypeId} {x : Operand} {a : Addr} {es i f n : Nat} {rows : List (List AV)} {row : List AV} {v : AV} (hd : d < N) (hx : evL G L x = some (.rptr a es rows i f)) (ht : rowN P t = some (some n)) (hr : rows[i]? = some row) (hf : f + n ≤ row.length) (hv : mkAgg ((row.drop f).take n) = v)
    (k : SL P G B W ops os ((d, v) :: L) N ds H Q) : SL P G B W ops (⟨some d, .load t x, ty, pos, af, none⟩ :: os) L N ds H Q :=
  SL_val v hd (fun tm σ h1 h2 => by unfold eff; simp only [effLoad, h1.ev hx, hr, Option.bind_some, readAt_row ht row f hf, hv, withSt]; rfl) k
theorem rows_of {σ : AS} {id : Nat} {e : TypeId} {es : Nat} {ex : Bool} {rows : List (List AV)} (h : σ.get id = some (.cells e es ex rows)) : σ.rows id = some rows := by unfold AS.rows; rw [h]
theorem SL_load_o {t e : TypeId} {x : Operand} {id es i f : Nat} {ex : Bool} {rows : List (List AV)} {row : List AV} {v : AV} (hd : d < N) (hx : evL G L x = some (.ptr id i f)) (hm : (id, AObj.cells e es ex rows) ∈ H) (ht : rowN P t = some none) (hr : rows[i]? = some row) (hv : row[f]? = some v)
    (k : SL P G B W ops os ((d, v) :: L) N ds H Q) : SL P G B W ops (⟨some d, .load t x, ty, pos, af, none⟩ :: os) L N ds H Q :=
  SL_val v hd (fun tm σ h1 h2 => by unfold eff; simp only [effLoad, h1.ev hx, rows_of (h2.get _ hm), hr, Option.bind_some, readAt_cell ht, hv, withSt]; rfl) k
theorem SL_load_or {t e : TypeId} {x : Operand} {id es i f n : Nat} {ex : Bool} {rows : List (List AV)} {row : List AV} {v : AV} (hd : d < N) (hx : evL G L x = some (.ptr id i f)) (hm : (id, AObj.cells e es ex rows) ∈ H) (ht : rowN P t = some (some n)) (hr : rows[i]? = some row) (hf : f + n ≤ row.length)
    (hv : mkAgg ((row.drop f).take n) = v) (k : SL P G B W ops os ((d, v) :: L) N ds H Q) : SL P G B W ops (⟨some d, .load t x, ty, pos, af, none⟩ :: os) L N ds H Q :=
  SL_val v hd (fun tm σ h1 h2 => by unfold eff; simp only [effLoad, h1.ev hx, rows_of (h2.get _ hm), hr, Option.bind_some, readAt_row ht row f hf, hv, withSt]; rfl) k

theorem SL_store {dst : Option Tmp} {t e : TypeId} {x y : Operand} {id es i f : Nat} {ex : Bool} {rows : List (List AV)} {row cs : List AV} {v : AV} {H' : List (Nat × AObj)} (hd : dst = none) (hx : evL G L x = some (.ptr id i f)) (hy : evL G L y = some v) (hu : Upd H id (.cells e es ex rows) (.cells e es ex (rows.set i (writeRow row f cs))) H')
    (hw : B.next ≤ id ∨ id ∈ W) (hr : rows[i]? = some row) (hc : cellsOf v = cs) (hs : sz P t = some cs.length) (hf : f + cs.length ≤ row.length) (h1c : cs.all isCell = true) (k : SL P G B W ops os L N ds H' Q) :
    SL P G B W ops (⟨dst, .store t x y, ty, pos, af, none⟩ :: os) L N ds H Q := fun tm σ h1 h2 => by
  refine wpl_op rfl ?_
  have he : eff P ⟨dst, .store t x y, ty, pos, af, none⟩ (evT G tm) σ = some (.val uv, σ.set id (.cells e es ex (rows.set i (writeRow row f cs)))) := by
    unfold eff
    simp only [effStore, h1.ev hx, h1.ev hy, h2.get _ hu.mem, hr, hc]
    rw [if_pos (by simp [hs, hf, h1c])]
    rfl
  rw [he]
  subst hd
  exact wpn_val (k _ _ h1 (h2.set hu hw))

theorem SL_new {op : Op} (o : AObj) (v : Nat → AV) (hd : d < N) (he : ∀ tm σ, En tm N L → He B W σ H ds → eff P ⟨some d, op, ty, pos, af, none⟩ (evT G tm) σ = some (.val (v σ.newId), σ.push o)) (k : ∀ id, B.next ≤ id → SL P G B W ops os ((d, v id) :: L) N ds ((id, o) :: H) Q) :
    SL P G B W ops (⟨some d, op, ty, pos, af, none⟩ :: os) L N ds H Q := fun tm σ h1 h2 => by
  refine wpl_op rfl ?_
  rw [he tm σ h1 h2]
  refine wpn_val (k σ.newId ?_ _ _ (h1.set hd _) (h2.push o))
  rw [AS.newId_none h2.slot]; exact h2.le
theorem SL_alloc {t : TypeId} {cs : List AV} (hd : d < N) (ht : zeroOf P t = some cs) (k : ∀ id, B.next ≤ id → SL P G B W ops os ((d, .ptr id 0 0) :: L) N ds ((id, .cells t cs.length true [cs]) :: H) Q) : SL P G B W ops (⟨some d, .alloc t, ty, pos, af, none⟩ :: os) L N ds H Q :=
  SL_new _ (fun id => .ptr id 0 0) hd (fun tm σ h1 h2 => by
    unfold zeroOf at ht
    simp only [Option.map_eq_some_iff] at ht
    obtain ⟨z, hz, rfl⟩ := ht
    unfold eff
    simp only [effAlloc, hz, Option.map_some, effBox]) k
theorem SL_box {t : TypeId} {x : Operand} {v : AV} {cs : List AV} (hd : d < N) (hx : evL G L x = some v) (hc : cellsOf v = cs) (k : ∀ id, B.next ≤ id → SL P G B W ops os ((d, .ptr id 0 0) :: L) N ds ((id, .cells t cs.length true [cs]) :: H) Q) :
    SL P G B W ops (⟨some d, .box t x, ty, pos, af, none⟩ :: os) L N ds H Q :=
  SL_new _ (fun id => .ptr id 0 0) hd (fun tm σ h1 h2 => by
    unfold eff
    simp only [effBox, h1.ev hx, hc]) k
theorem SL_makeSlice {t e : TypeId} {l c : Operand} {es b : Nat} {z : List AV} {kk kk' : IntKind} {n m : Int} (hd : d < N) (hl : evL G L l = some (.s (.int kk n))) (hc : evL G L c = some (.s (.int kk' m))) (ht : elOf P t = some (e, es, b, z)) (h0 : 0 ≤ n) (hnm : n ≤ m) (hm : m < 2 ^ 47) (hb : b * m ≤ 2 ^ 48)
    (k : ∀ id, B.next ≤ id → SL P G B W ops os ((d, .sl id 0 n.toNat none) :: L) N ds ((id, .cells e es true (List.replicate m.toNat z)) :: H) Q) : SL P G B W ops (⟨some d, .makeSlice t l c, ty, pos, af, none⟩ :: os) L N ds H Q :=
  SL_new _ (fun id => .sl id 0 n.toNat none) hd (fun tm σ h1 h2 => by
    obtain ⟨hu, hs, info, zv, hi, hz, hsz, hn, hbb, hzz⟩ := elOf_spec ht
    unfold eff
    simp only [effMakeSlice, h1.ev hl, h1.ev hc, hu, hi, hz]
    rw [if_pos ⟨hsz, h0, hnm, hm, by rw [hbb]; exact hb⟩, hn, hzz]) k

def FnC (P : Program) (G : Gl) (f : FuncId) (as : List AV) (H : List (Nat × AObj)) (R : AV → List (Nat × AObj) → Prop) : Prop :=
  ∀ σ, He σ [] σ H [] → wpf P G f as σ fun v σ' => ∃ Hn, He σ [] σ' Hn [] ∧ (∀ p ∈ Hn, σ.next ≤ p.1) ∧ R v Hn
theorem FnC.mono {f : FuncId} {as : List AV} {H' : List (Nat × AObj)} {R R' : AV → List (Nat × AObj) → Prop} (h : FnC P G f as H' R) (hr : ∀ v Hn, R v Hn → R' v Hn) : FnC P G f as H' R' := fun σ hs => wpf_mono (h σ hs) fun v _σ' ⟨Hn, h1, h2, h3⟩ => ⟨Hn, h1, h2, hr v Hn h3⟩
theorem SL_call {f : Operand} {xs : List Operand} {ats : Array TypeId} {g : FuncId} {first cap : Array Value} {vs as : List AV} {R : AV → List (Nat × AObj) → Prop} {H0 : List (Nat × AObj)} (hd : d < N) (hf : evL G L f = some (.s (.func (.func g) first cap))) (hb : (P.funcs[g]?).map (·.body.isNone) = some false) (hx : evsL G L xs = some vs)
    (has : first.toList.map .s ++ vs ++ cap.toList.map .s = as) (hc : FnC P G g as H0 R) (hs : SubH H0 H) (hn : (H0.map (·.1)).Nodup) (k : ∀ v Hn, (∀ p ∈ Hn, B.next ≤ p.1) → R v Hn → SL P G B W ops os ((d, v) :: L) N ds (Hn ++ H) Q) :
    SL P G B W ops (⟨some d, .call ⟨.value f, xs.toArray, ats⟩, ty, pos, af, none⟩ :: os) L N ds H Q := fun tm σ h1 h2 => by
  refine wpl_op rfl ?_
  have he : eff P ⟨some d, .call ⟨.value f, xs.toArray, ats⟩, ty, pos, af, none⟩ (evT G tm) σ = some (.enter g as, σ) := by
    unfold eff
    have hbl : bodyless P (.s (.func (.func g) first cap)) = false := by
      cases hp : P.funcs[g]? with
      | none => simp only [bodyless, hp]
      | some fn => rw [hp] at hb; simp at hb; simp [bodyless, hp, hb]
    simp only [effCall, h1.ev hf, hbl, Bool.false_eq_true, if_false, h1.evs hx, target, Option.map_some, has]
  rw [he]
  refine wpn_enter (wpf_mono (hc σ (h2.here.sub hs hn)) fun v σ' ⟨Hn, h3, h4, h5⟩ => ?_)
  exact k v Hn (fun p hp => Nat.le_trans h2.le (h4 p hp)) h5 _ _ (h1.set hd v) (h2.trans h3 h4)
end rules

theorem fill_get : ∀ (as : List AV) (tm : Tm) (i : Nat), i + as.length ≤ tm.n → (Tm.fill tm i as).n = tm.n ∧ ∀ j, (Tm.fill tm i as).get j = if i ≤ j then (match as[j - i]? with | some v => v | none => tm.get j) else tm.get j
  | [], tm, i, h => ⟨rfl, fun j => by simp [Tm.fill]⟩
  | a :: as, tm, i, h => by
    simp only [List.length_cons] at h
    obtain ⟨h1, h2⟩ := fill_get as (tm.set i a) (i + 1) (by rw [Tm.n_set]; omega)
    refine ⟨by rw [Tm.fill, h1, Tm.n_set], fun j => ?_⟩
    rw [Tm.fill, h2, Tm.get_set]
    by_cases hj : i + 1 ≤ j
    · have e : j - i = (j - (i + 1)) + 1 := by omega
      have hi : i ≤ j := by omega
      have hne : ¬ (i = j ∧ i < tm.n) := by omega
      simp only [if_pos hj, if_pos hi, if_neg hne]
      rw [e, List.getElem?_cons_succ]
    · simp only [if_neg hj]
      by_cases hij : i = j
      · subst hij
        have hc : i = i ∧ i < tm.n := ⟨rfl, by omega⟩
        rw [if_pos hc, if_pos (Nat.le_refl i), Nat.sub_self]
        rfl
      · have hne : ¬ (i = j ∧ i < tm.n) := fun e => hij e.1
        have hle : ¬ i ≤ j := by omega
        simp only [if_neg hne, if_neg hle]
def argsL : List AV → Nat → List (Nat × AV)
  | [], _ => []
  | a :: r, i => (i, a) :: argsL r (i + 1)
theorem argsL_lk : ∀ (as : List AV) (i j : Nat) (v : AV), lk (argsL as i) j = some v → i ≤ j ∧ as[j - i]? = some v
  | [], i, j, v, h => by cases h
  | a :: as, i, j, v, h => by
    unfold argsL lk at h
    cases hb : Nat.beq i j with
    | true =>
      rw [hb] at h
      cases h
      have := Nat.eq_of_beq_eq_true hb
      subst this
      simp
    | false =>
      rw [hb] at h
      obtain ⟨h1, h2⟩ := argsL_lk as (i + 1) j v h
      refine ⟨by omega, ?_⟩
      have e : j - i = (j - (i + 1)) + 1 := by omega
      rw [e]
      simpa using h2
theorem En.args (as : List AV) (n : Nat) : En (Tm.fill ⟨max as.length n, .e⟩ 0 as) (max as.length n) (argsL as 0) := by
  obtain ⟨h1, h2⟩ := fill_get as ⟨max as.length n, .e⟩ 0 (by simp; omega)
  refine ⟨h1, fun j v hj => ?_⟩
  obtain ⟨_, h3⟩ := argsL_lk as 0 j v hj
  rw [h2, if_pos (Nat.zero_le _)]
  rw [h3]
def resL (L : List (Nat × AV)) : List ResultVar → Option (List AV)
  | [] => some []
  | .tmp t :: r => match lk L t, resL L r with
    | some v, some vs => some (v :: vs)
    | _, _ => none
  | _ :: _ => none
theorem En.res {tm : Tm} {N : Nat} {L : List (Nat × AV)} (h : En tm N L) (σ : AS) : ∀ {rs : List ResultVar} {vs : List AV}, resL L rs = some vs → aresultL P tm σ rs = some vs
  | [], vs, hx => by cases hx; rfl
  | .cell a t :: r, vs, hx => by cases hx
  | .tmp t :: r, vs, hx => by
    unfold resL at hx
    split at hx
    · rename_i v us hv hus
      cases hx
      simp only [aresultL, aresult, h.get _ _ hv, h.res σ hus]
    · cases hx
def Post (P : Program) (B : AS) (fn : Func) (R : AV → List (Nat × AObj) → Prop) (e : AEx) (s : Cfg) : Prop :=
  (e = .normal ∨ e = .ret) ∧ ∃ σ' v, dropDefs s.st s.defs = some σ' ∧ aresults P fn s.tmps σ' = some v ∧ ∃ Hn, He B [] σ' Hn [] ∧ (∀ p ∈ Hn, B.next ≤ p.1) ∧ R v Hn
theorem He.drop {B : AS} {W : List Nat} : ∀ {ds : List Nat} {σ : AS} {H : List (Nat × AObj)}, He B W σ H ds → ∃ σ', dropDefs σ ds = some σ' ∧ He B W σ' H []
  | [], σ, H, h => ⟨σ, rfl, h⟩
  | d :: ds, σ, H, h => by
    have hg := h.dget d (by simp)
    have hlt := AS.lt_of_get hg
    have hdn := h.dnodup
    rw [List.nodup_cons] at hdn
    have h' : He B W (σ.set d .dead) H ds := by
      have hobj : (σ.set d .dead).objs = putObj σ.objs d .dead := rfl
      refine ⟨h.slot, fun j hj => ?_, h.le, h.nodup, fun p hp => ?_, fun j hj hjw => ?_, fun x hx => h.dle x (List.mem_cons_of_mem _ hx), fun x hx => ?_, hdn.2, fun x hx => h.dH x (List.mem_cons_of_mem _ hx)⟩
      · rw [AS.next_set] at hj
        rw [hobj, putObj_get, if_neg (by omega)]
        exact h.fresh j hj
      · have hne : ¬ d = p.1 := fun e => h.dH d (by simp) (List.mem_map.2 ⟨p, hp, e.symm⟩)
        rw [AS.get_set, if_pos (h.lt hp), if_neg hne]
        exact h.get p hp
      · have := h.dle d (by simp)
        rw [hobj, putObj_get, if_neg (by omega)]
        exact h.keep j hj hjw
      · have hne : ¬ d = x := fun e => hdn.1 (e ▸ hx)
        have hgx := h.dget x (List.mem_cons_of_mem _ hx)
        rw [AS.get_set, if_pos (AS.lt_of_get hgx), if_neg hne]
        exact hgx
    obtain ⟨σ', h1, h2⟩ := h'.drop
    exact ⟨σ', by simp only [dropDefs, hg]; exact h1, h2⟩
theorem Post.intro {B : AS} {fn : Func} {R : AV → List (Nat × AObj) → Prop} {e : AEx} {tm : Tm} {N : Nat} {L : List (Nat × AV)} {σ : AS} {H Hn : List (Nat × AObj)} {ds : List Nat} {vs : List AV} (he : e = .normal ∨ e = .ret) (h1 : En tm N L) (h2 : He B [] σ H ds) (hr : resL L fn.results.toList = some vs)
    (hs : SubH Hn H) (hn : (Hn.map (·.1)).Nodup) (hB : ∀ p ∈ Hn, B.next ≤ p.1) (hR : R (tupled vs) Hn) : Post P B fn R e ⟨tm, ds, σ⟩ := by
  obtain ⟨σ', h3, h4⟩ := h2.drop
  exact ⟨he, σ', tupled vs, h3, by unfold aresults; rw [h1.res σ' hr]; rfl, Hn, h4.sub hs hn, hB, hR⟩
theorem Fn_body {f : FuncId} {as : List AV} {fn : Func} {c : Code} {H : List (Nat × AObj)} {R : AV → List (Nat × AObj) → Prop} (ho : G.orc f as = none) (hf : P.funcs[f]? = some fn) (hb : fn.body = some c) {N : Nat} (hN : max as.length fn.ntmps = N)
    (h : ∀ B, SC P G B [] none c (argsL as 0) N [] H (Post P B fn R)) : FnC P G f as H R := fun σ hs => by
  refine wpf_body ho hf hb ?_
  rw [hN]
  refine wpc_mono (h σ _ σ (hN ▸ En.args as fn.ntmps) hs) fun e s ⟨h1, σ', v, h2, h3, Hn, h4, h5, h6⟩ => ?_
  exact ⟨h1, σ', v, h2, h3, Hn, h4, h5, h6⟩
theorem Fn_orc {f : FuncId} {as : List AV} {v : AV} {H : List (Nat × AObj)} {R : AV → List (Nat × AObj) → Prop} (ho : G.orc f as = some (fun σ => some (v, σ))) (hR : R v []) : FnC P G f as H R := fun σ hs =>
  wpf_orc ho rfl ⟨[], hs.sub trivial List.nodup_nil, (fun p hp => by cases hp), hR⟩
end Go.Ab
/- Symbolic steps: slices that came in, seen as lists. -/
namespace Go.Ab
variable {P : Program} {G : Gl}

inductive SlV (es : Nat) : AV → List (List AV) → Prop
  | nil {a : Option Addr} {cap : Nat} : SlV es (.s (.slice a 0 cap)) []
  | rsl {a : Addr} {cap : Nat} {rows : List (List AV)} (h : 0 < rows.length) : SlV es (.rsl a es cap rows) rows

section rules
variable {B : AS} {W : List Nat} {ops : Array Oper} {os : List Oper} {L : List (Nat × AV)} {N : Nat} {ds : List Nat} {H : List (Nat × AObj)} {Q : Cfg → Prop} {ty : TypeId} {pos : String} {af : Array Edge} {d : Nat}
theorem SL_len_v {t e : TypeId} {x : Operand} {es n : Nat} {a : AV} {rows : List (List AV)} {ats : Array TypeId} (hd : d < N) (hx : evL G L x = some a) (hv : SlV es a rows) (ha : ats[0]? = some t) (ht : sliceOf P t = some (e, es)) (hn : rows.length = n) (k : SL P G B W ops os ((d, .s (.int .i64 n)) :: L) N ds H Q) :
    SL P G B W ops (⟨some d, .call ⟨.builtin .len, #[x], ats⟩, ty, pos, af, none⟩ :: os) L N ds H Q := by
  subst hn
  cases hv with
  | nil => exact SL_len_0 hd hx ha (sliceOf_spec ht).1 k
  | rsl h => exact SL_len_rsl hd hx ha (sliceOf_spec ht).1 k
theorem SL_indexAddr_v {t e : TypeId} {x ix : Operand} {a : AV} {es : Nat} {rows : List (List AV)} {kk : IntKind} {n : Int} (hd : d < N) (hx : evL G L x = some a) (hi : evL G L ix = some (.s (.int kk n))) (hv : SlV es a rows) (ht : sliceOf P t = some (e, es)) (i : Nat) (hn : n = i) (hlt : i < rows.length)
    (k : ∀ ad, SL P G B W ops os ((d, .rptr ad es rows i 0) :: L) N ds H Q) : SL P G B W ops (⟨some d, .indexAddr t x ix, ty, pos, af, none⟩ :: os) L N ds H Q := by
  cases hv with
  | nil => cases hlt
  | rsl h => exact SL_indexAddr_r hd hx hi ht i hn hlt (k _)
end rules


end Go.Ab
/- Symbolic steps: regions that draw their order but read only (and store); calls that turn old objects; ranges over functions; appends. -/
namespace Go.Ab
variable {P : Program} {G : Gl}

def isStore (o : Oper) : Bool := match o.op with
  | .store .. => true
  | _ => false
def plainDraw (l : List Oper) : Bool := drawnOk l.toArray && (plan l.toArray == (List.range l.length).map fun i => (i, [])) && l.all fun o => (cls o == 0 || cls o == 1 || isStore o) && !isConv o

theorem resO_slot {ex : Runner} {ops : Array Oper} {o : Oper} {tm : Tm} {σ σ' : AS} {v : AV} (hc : cls o = 0 ∨ cls o = 1 ∨ isStore o = true) (hs : σ.slot = none) (h : resO P G ex ops o tm σ = some (v, σ')) : σ'.slot = none := by
  unfold resO at h
  split at h
  · cases he : eff P o (evT G tm) σ with
    | none => rw [he] at h; cases h
    | some x =>
      obtain ⟨r, σ₁⟩ := x
      rw [he] at h
      rcases hc with hc | hc | hc
      · obtain ⟨rfl, ⟨u, rfl⟩, _⟩ := eff0 hc he
        simp only [resNext, Option.some.injEq, Prod.mk.injEq] at h
        rw [← h.2]; exact hs
      · obtain ⟨rfl, ⟨u, rfl⟩, _⟩ := eff1 hc he
        simp only [resNext, Option.some.injEq, Prod.mk.injEq] at h
        rw [← h.2]; exact hs
      · unfold isStore at hc
        split at hc
        · rename_i t a b ho
          unfold eff at he
          rw [ho] at he
          simp only [Option.map_eq_some_iff, Prod.mk.injEq] at he
          obtain ⟨σ₂, h1, rfl, rfl⟩ := he
          simp only [resNext, Option.some.injEq, Prod.mk.injEq] at h
          rw [← h.2]
          cases ha : evT G tm a <;> rw [ha] at h1 <;> simp only [effStore] at h1 <;> try (cases h1; done)
          split at h1
          · split at h1
            · split at h1
              · cases h1; exact hs
              · cases h1
            · cases h1
          · cases h1
        · cases hc
  · cases h; exact hs

theorem lateOk_not {o : Oper} {base size : Nat} {sn : Option Seen} (h : isConv o = false) : lateOk base size o sn = true := by
  unfold lateOk; rw [if_neg (by simp [h])]
theorem runL_runD {ex : Runner} {base : Nat} {l : List Oper} (hnc : ∀ o ∈ l, isConv o = false) (hall : ∀ o ∈ l, cls o = 0 ∨ cls o = 1 ∨ isStore o = true) : ∀ (rest : List Oper) (k : Nat) (tm : Tm) (defs : List Nat) (σ : AS) (s' : Cfg) (rc : Rec), l.drop k = rest → σ.slot = none → runL P G ex l.toArray rest ⟨tm, defs, σ⟩ = some s' →
    runD P G ex base l.toArray ((List.range' k rest.length).map fun i => (i, [])) ⟨tm, defs, σ⟩ rc = some s'
  | [], k, tm, defs, σ, s', rc, hd, hs, h => h
  | o :: rest, k, tm, defs, σ, s', rc, hd, hs, h => by
    have hget : l[k]? = some o := by
      have := congrArg (·[0]?) hd
      simpa using this
    have hrest : l.drop (k + 1) = rest := by
      have := congrArg List.tail hd
      simpa using this
    have hmem : o ∈ l := List.mem_of_getElem? hget
    have hc3 : cls o ≠ 3 := by
      rcases hall o hmem with h1 | h1 | h1
      · omega
      · omega
      · unfold isStore at h1
        split at h1
        · rename_i ho; unfold cls; rw [ho]; simp
        · cases h1
    simp only [runL, stepO] at h
    rw [List.length_cons, List.range'_succ, List.map_cons]
    simp only [runD, stepD]
    have hg' : l.toArray[k]? = some o := by simpa using hget
    rw [hg']
    simp only
    cases hr : resO P G ex l.toArray o tm σ with
    | none => rw [hr] at h; cases h
    | some x =>
      obtain ⟨v, σ₁⟩ := x
      rw [hr] at h
      simp only [stepVal] at h
      have hs1 := resO_slot (hall o hmem) hs hr
      have hx : resX P G ex base l.toArray k o tm σ = some (v, σ₁) := by
        obtain ⟨a, b, c⟩ := σ
        simp only at hs; subst hs
        rw [resX_plain hc3, hr]
        obtain ⟨a1, b1, c1⟩ := σ₁
        simp only at hs1; subst hs1
        rfl
      rw [hx]
      have hst : stands rc σ₁ [] = true := rfl
      simp only [hst, lateOk_not (hnc o hmem), Bool.and_self, if_true]
      exact runL_runD hnc hall rest (k + 1) _ _ _ _ _ hrest hs1 h

theorem He.bump {B σ : AS} {W : List Nat} {H : List (Nat × AObj)} {ds : List Nat} (h : He B W σ H ds) (m : Nat) : He B W ⟨σ.objs, σ.next + m, none⟩ H ds := by
  have hget : ∀ id, id < σ.next → (⟨σ.objs, σ.next + m, none⟩ : AS).get id = σ.get id := fun id hid => by
    obtain ⟨a, b, c⟩ := σ
    exact AS.get_bump hid
  exact ⟨rfl, fun id hid => h.fresh id (Nat.le_trans (Nat.le_add_right _ _) hid), Nat.le_trans h.le (Nat.le_add_right _ _), h.nodup, fun p hp => by rw [hget _ (h.lt hp)]; exact h.get p hp, h.keep, h.dle,
    fun d hd => by rw [hget _ (AS.lt_of_get (h.dget d hd))]; exact h.dget d hd, h.dnodup, h.dH⟩

section
variable {B : AS} {W : List Nat} {rd : Option Nat} {L : List (Nat × AV)} {N : Nat} {ds : List Nat} {H : List (Nat × AObj)} {Q : AEx → Cfg → Prop}
theorem SC_draw {id : Nat} {l : List Oper} (hp : plainDraw l = true) (h : SL P G B W l.toArray l L N ds H (fun s => Q .normal s)) : SC P G B W rd (.region id l.toArray true) L N ds H Q := by
  unfold plainDraw at hp
  simp only [Bool.and_eq_true, beq_iff_eq, List.all_eq_true, Bool.or_eq_true, Bool.not_eq_true'] at hp
  obtain ⟨⟨hok, hpl⟩, hall⟩ := hp
  intro tm σ h1 h2
  refine wpc_draw hok hpl ?_
  have hsz : l.toArray.size = l.length := by simp
  obtain ⟨n, s', h3, h4⟩ := h tm _ h1 (h2.bump l.toArray.size)
  refine ⟨n, s', ?_, h4⟩
  have hall2 : ∀ o ∈ l, cls o = 0 ∨ cls o = 1 ∨ isStore o = true := fun o ho => (hall o ho).1.elim (fun h => h.elim .inl (fun h => .inr (.inl h))) (fun h => .inr (.inr h))
  have := runL_runD (base := σ.next) (fun o ho => (hall o ho).2) hall2 l 0 tm ds ⟨σ.objs, σ.next + l.toArray.size, none⟩ s' (fun _ => none) rfl rfl h3
  rw [List.range_eq_range']
  exact this
end

theorem He.transW {B σ σ' : AS} {W M : List Nat} {H Hr Hn : List (Nat × AObj)} {ds : List Nat} (h : He B W σ H ds) (h' : He σ M σ' Hn []) (hM : ∀ id ∈ M, (B.next ≤ id ∨ id ∈ W) ∧ id ∈ H.map (·.1)) (hn : ∀ p ∈ Hn, p.1 ∈ M ∨ σ.next ≤ p.1) (hs : SubH Hr H) (hrn : (Hr.map (·.1)).Nodup) (hr : ∀ p ∈ Hr, p.1 ∉ M) :
    He B W σ' (Hn ++ Hr) ds := by
  have keep : ∀ id, id < σ.next → id ∉ M → σ'.get id = σ.get id := fun id hid hm => by
    have hk := h'.keep id hid hm
    unfold AS.get
    rw [if_pos hid, if_pos (Nat.lt_of_lt_of_le hid h'.le), hk]
  have hsub := hs.mem
  refine ⟨h'.slot, h'.fresh, Nat.le_trans h.le h'.le, ?_, ?_, fun id hid hw => ?_, h.dle, fun d hd => ?_, h.dnodup, ?_⟩
  · rw [List.map_append, List.nodup_append]
    refine ⟨h'.nodup, hrn, fun a ha b hb e => ?_⟩
    obtain ⟨p, hp, hpe⟩ := List.mem_map.1 ha
    obtain ⟨q, hq, hqe⟩ := List.mem_map.1 hb
    have h1 := hn p hp
    have h2 := h.lt (hsub q hq)
    have h3 := hr q hq
    rcases h1 with h1 | h1
    · exact h3 (by rw [hqe, ← e, ← hpe]; exact h1)
    · omega
  · intro p hp
    rcases List.mem_append.1 hp with hp | hp
    · exact h'.get p hp
    · rw [keep _ (h.lt (hsub p hp)) (hr p hp)]; exact h.get p (hsub p hp)
  · rw [h'.keep id (Nat.lt_of_lt_of_le hid h.le) (fun hm => by
      rcases (hM id hm).1 with h1 | h1
      · omega
      · exact hw h1)]
    exact h.keep id hid hw
  · rw [keep d (AS.lt_of_get (h.dget d hd)) (fun hm => h.dH d hd (hM d hm).2)]; exact h.dget d hd
  · intro d hd hm
    rw [List.map_append, List.mem_append] at hm
    rcases hm with hm | hm
    · obtain ⟨p, hp, hpe⟩ := List.mem_map.1 hm
      have h2 := AS.lt_of_get (h.dget d hd)
      rcases hn p hp with h1 | h1
      · exact h.dH d hd (by rw [← hpe]; exact (hM _ h1).2)
      · omega
    · obtain ⟨p, hp, hpe⟩ := List.mem_map.1 hm
      exact h.dH d hd (List.mem_map.2 ⟨p, hsub p hp, hpe⟩)
theorem He.startW {σ : AS} {B : AS} {W M : List Nat} {H H0 : List (Nat × AObj)} {ds : List Nat} (h : He B W σ H ds) (hs : SubH H0 H) (hn : (H0.map (·.1)).Nodup) : He σ M σ H0 [] :=
  ⟨h.slot, h.fresh, Nat.le_refl _, hn, fun p hp => h.get p (hs.mem p hp), fun _ _ _ => rfl, (fun d hd => by cases hd), (fun d hd => by cases hd), List.nodup_nil, (fun d hd => by cases hd)⟩

def FnW (P : Program) (G : Gl) (f : FuncId) (xs : List AV) (M : List Nat) (H : List (Nat × AObj)) (R : AV → List (Nat × AObj) → Prop) : Prop :=
  ∀ σ, He σ M σ H [] → wpf P G f xs σ fun v σ' => ∃ Hn, He σ M σ' Hn [] ∧ (∀ p ∈ Hn, p.1 ∈ M ∨ σ.next ≤ p.1) ∧ R v Hn
def RdW (P : Program) (G : Gl) (l : Nat) (xs : List AV) (M : List Nat) (H : List (Nat × AObj)) (R : AV → List (Nat × AObj) → Prop) : Prop :=
  ∀ σ, He σ M σ H [] → wpy P G l xs σ fun v σ' => ∃ Hn, He σ M σ' Hn [] ∧ (∀ p ∈ Hn, p.1 ∈ M ∨ σ.next ≤ p.1) ∧ R v Hn
def MOk (B : AS) (W M : List Nat) (H : List (Nat × AObj)) : Prop := ∀ id ∈ M, (B.next ≤ id ∨ id ∈ W) ∧ id ∈ H.map (·.1)

section rules
variable {B : AS} {W : List Nat} {ops : Array Oper} {os : List Oper} {L : List (Nat × AV)} {N : Nat} {ds : List Nat} {H : List (Nat × AObj)} {Q : Cfg → Prop} {ty : TypeId} {pos : String} {af : Array Edge} {d : Nat}
theorem SL_yield {f : Operand} {xs : List Operand} {ats : Array TypeId} {l : Nat} {vs : List AV} {M : List Nat} {R : AV → List (Nat × AObj) → Prop} {H0 Hr : List (Nat × AObj)} (hd : d < N) (hf : evL G L f = some (.yld l)) (hx : evsL G L xs = some vs) (hc : RdW P G l vs M H0 R)
    (hs : SubH H0 H) (hn : (H0.map (·.1)).Nodup) (hM : MOk B W M H) (hr : SubH Hr H) (hrn : (Hr.map (·.1)).Nodup) (hrm : ∀ p ∈ Hr, p.1 ∉ M) (k : ∀ v Hn, R v Hn → SL P G B W ops os ((d, v) :: L) N ds (Hn ++ Hr) Q) :
    SL P G B W ops (⟨some d, .call ⟨.value f, xs.toArray, ats⟩, ty, pos, af, none⟩ :: os) L N ds H Q := fun tm σ h1 h2 => by
  refine wpl_op rfl ?_
  have he : eff P ⟨some d, .call ⟨.value f, xs.toArray, ats⟩, ty, pos, af, none⟩ (evT G tm) σ = some (.round l vs, σ) := by
    unfold eff
    simp only [effCall, h1.ev hf, bodyless, Bool.false_eq_true, if_false, h1.evs hx, target, Option.map_some]
  rw [he]
  refine wpn_round (wpy_mono (hc σ (h2.startW hs hn)) fun v σ' ⟨Hn, h3, h4, h5⟩ => ?_)
  exact k v Hn h5 _ _ (h1.set hd v) (h2.transW h3 hM h4 hr hrn hrm)
theorem SL_load_ob {t e : TypeId} {x : Operand} {id es i f : Nat} {ex : Bool} {rows : List (List AV)} {row : List AV} {b : Bool} (hd : d < N) (hx : evL G L x = some (.ptr id i f)) (hm : (id, AObj.cells e es ex rows) ∈ H) (ht : rowN P t = some none) (hr : rows[i]? = some row) (hv : row[f]? = some (.s (.bool b)))
    (kt : b = true → SL P G B W ops os ((d, .s (.bool true)) :: L) N ds H Q) (kf : b = false → SL P G B W ops os ((d, .s (.bool false)) :: L) N ds H Q) : SL P G B W ops (⟨some d, .load t x, ty, pos, af, none⟩ :: os) L N ds H Q := by
  cases b with
  | true => exact SL_load_o hd hx hm ht hr hv (kt rfl)
  | false => exact SL_load_o hd hx hm ht hr hv (kf rfl)
theorem SL_store_box {t e : TypeId} {x y : Operand} {id es : Nat} {ex : Bool} {row cs : List AV} {v : AV} {H' : List (Nat × AObj)} (hx : evL G L x = some (.ptr id 0 0)) (hy : evL G L y = some v) (hc : cellsOf v = cs) (hu : Upd H id (.cells e es ex [row]) (.cells e es ex [cs]) H')
    (hw : B.next ≤ id ∨ id ∈ W) (hl : cs.length = row.length) (hs : sz P t = some cs.length) (h1c : cs.all isCell = true) (k : SL P G B W ops os L N ds H' Q) : SL P G B W ops (⟨none, .store t x y, ty, pos, af, none⟩ :: os) L N ds H Q := by
  have hwr : writeRow row 0 cs = cs := by simp [writeRow, hl]
  refine SL_store (i := 0) (f := 0) rfl hx hy (rows := [row]) (row := row) (cs := cs) (by simpa [hwr] using hu) hw rfl hc hs (by omega) h1c k
theorem SL_indexAddr_0 {t e e' : TypeId} {x ix : Operand} {id len : Nat} {cap : Option Nat} {es : Nat} {ex : Bool} {rows : List (List AV)} {kk : IntKind} {n : Int} (hd : d < N) (hx : evL G L x = some (.sl id 0 len cap)) (hi : evL G L ix = some (.s (.int kk n))) (hm : (id, AObj.cells e' es ex rows) ∈ H) (ht : sliceOf P t = some (e, es))
    (i : Nat) (hn : n = i) (hlt : i < len) (k : SL P G B W ops os ((d, .ptr id i 0) :: L) N ds H Q) : SL P G B W ops (⟨some d, .indexAddr t x ix, ty, pos, af, none⟩ :: os) L N ds H Q :=
  SL_indexAddr_o hd hx hi hm ht i hn hlt (by rw [Nat.zero_add]; exact k)
theorem SL_notu {op : Op} {j t : Nat} {want : Bool} (hj : (ops[j]?).bind (·.dst) = some t) (ht : lk L t = some uv) (hd : d < N) (k : SL P G B W ops os ((d, uv) :: L) N ds H Q) :
    SL P G B W ops (⟨some d, op, ty, pos, af, some (j, want)⟩ :: os) L N ds H Q := fun tm σ h1 h2 => by
  refine wpl_not ?_ (k _ σ (h1.set hd uv) h2)
  simp only [Region.wanted, ayielded, hj, h1.get _ _ ht]
  cases want <;> rfl
theorem SL_store_n {t e : TypeId} {x y : Operand} {id es i f : Nat} {ex : Bool} {rows rows' : List (List AV)} {row cs : List AV} {v : AV} {H' : List (Nat × AObj)} (hx : evL G L x = some (.ptr id i f)) (hy : evL G L y = some v) (_hm : (id, AObj.cells e es ex rows) ∈ H) (hr : rows[i]? = some row) (hc : cellsOf v = cs)
    (hset : rows.set i (writeRow row f cs) = rows') (hu : Upd H id (.cells e es ex rows) (.cells e es ex rows') H') (hw : B.next ≤ id ∨ id ∈ W) (hs : sz P t = some cs.length) (hf : f + cs.length ≤ row.length) (h1c : cs.all isCell = true) (k : SL P G B W ops os L N ds H' Q) :
    SL P G B W ops (⟨none, .store t x y, ty, pos, af, none⟩ :: os) L N ds H Q := by
  subst hset
  exact SL_store rfl hx hy hu hw hr hc hs hf h1c k
theorem SL_makeFunc {fn : Fn} {first cap : Array Operand} {vs ws : List AV} (hd : d < N) (hx : evsL G L first.toList = some vs) (hy : evsL G L cap.toList = some ws) (k : SL P G B W ops os ((d, mkFn fn vs ws) :: L) N ds H Q) : SL P G B W ops (⟨some d, .makeFunc fn first cap, ty, pos, af, none⟩ :: os) L N ds H Q :=
  SL_val _ hd (fun tm σ h1 h2 => by unfold eff; simp only [h1.evs hx, h1.evs hy]) k
def partsL (G : Gl) (L : List (Nat × AV)) : List (Nat × Operand) → Option (List (Nat × AV))
  | [] => some []
  | p :: r => match evL G L p.2, partsL G L r with
    | some v, some vs => some ((p.1, v) :: vs)
    | _, _ => none
theorem En.parts {tm : Tm} (h : En tm N L) : ∀ {xs : List (Nat × Operand)} {vs : List (Nat × AV)}, partsL G L xs = some vs → xs.map (fun p => (p.1, evT G tm p.2)) = vs
  | [], vs, hx => by cases hx; rfl
  | p :: r, vs, hx => by
    unfold partsL at hx
    split at hx
    · rename_i v us hv hus
      cases hx
      rw [List.map_cons, h.ev hv, h.parts hus]
    · cases hx
theorem SL_build {t : TypeId} {ps : Array (Nat × Operand)} {vs : List (Nat × AV)} {v : AV} (hd : d < N) (hx : partsL G L ps.toList = some vs) (hv : effBuild P t vs = some v) (k : SL P G B W ops os ((d, v) :: L) N ds H Q) : SL P G B W ops (⟨some d, .build t ps, ty, pos, af, none⟩ :: os) L N ds H Q :=
  SL_val v hd (fun tm σ h1 h2 => by unfold eff; simp only [h1.parts hx, hv]; rfl) k
theorem SL_buildSlice {t e : TypeId} {len es b : Nat} {z : List AV} {ps : Array (Nat × Operand)} {vs : List (Nat × AV)} {rows : List (List AV)} (hd : d < N) (hx : partsL G L ps.toList = some vs) (ht : elOf P t = some (e, es, b, z)) (hb : len * es ≤ 2 ^ 24) (hr : setRows es (List.replicate len z) vs = some rows)
    (k : ∀ id, B.next ≤ id → SL P G B W ops os ((d, .sl id 0 len none) :: L) N ds ((id, .cells e es true rows) :: H) Q) : SL P G B W ops (⟨some d, .buildSlice t len ps, ty, pos, af, none⟩ :: os) L N ds H Q :=
  SL_new _ (fun id => .sl id 0 len none) hd (fun tm σ h1 h2 => by
    obtain ⟨hu, hs, info, zv, hi, hz, hsz, hn, hbb, hzz⟩ := elOf_spec ht
    subst hn hzz
    unfold eff
    simp only [effBuildSlice, h1.parts hx, hu, hi, hz]
    rw [if_pos ⟨hsz, hb⟩, hr]) k

theorem append_src {t _tx e : TypeId} {es b : Nat} {z : List AV} (_ht : elOf P t = some (e, es, b, z)) {tx : TypeId} {e' : TypeId} (_htx : P.underlying tx = some (.slice e')) : True := trivial
theorem SL_append_nil {t tx e e' ee : TypeId} {s x : Operand} {es b i n id0 : Nat} {cap : Option Nat} {ex : Bool} {z : List AV} {rows news : List (List AV)} (hd : d < N) (hs : evL G L s = some (.s (.slice none 0 0))) (hx : evL G L x = some (.sl id0 i n cap)) (hm : (id0, AObj.cells ee es ex rows) ∈ H)
    (ht : elOf P t = some (e, es, b, z)) (htx : P.underlying tx = some (.slice e')) (hle : i + n ≤ rows.length) (hnews : (rows.drop i).take n = news) (hc : news.all (·.all isCell) = true) (hn : news.length ≠ 0) (hb1 : (2 * news.length + 192) * b ≤ 2 ^ 48) (hb2 : news.length < 2 ^ 62)
    (k : ∀ id, B.next ≤ id → SL P G B W ops os ((d, .sl id 0 news.length none) :: L) N ds ((id, .cells e es false news) :: H) Q) :
    SL P G B W ops (⟨some d, .call ⟨.builtin .append, #[s, x], #[t, tx]⟩, ty, pos, af, none⟩ :: os) L N ds H Q :=
  SL_new _ (fun id => .sl id 0 news.length none) hd (fun tm σ h1 h2 => by
    obtain ⟨hu, hsz0, info, zv, hi, hz, hsz, hnn, hbb, hzz⟩ := elOf_spec ht
    subst hnn hzz hbb
    have hsrc : appRows info (.sl id0 i n cap) σ = some news := by
      simp only [appRows, srcRows, h2.get _ hm]
      rw [if_pos ⟨trivial, hle⟩, hnews]
    unfold eff
    simp only [effCall, effBuiltin, List.map_cons, List.map_nil, h1.ev hs, h1.ev hx, effAppend, srcOk, htx, hu, hi, hz, hsrc, if_true]
    rw [if_pos ⟨hsz, hc⟩, if_neg hn, if_pos (by simp only [List.length_nil, Nat.zero_add]; exact ⟨hb1, hb2⟩)]
    simp only [List.length_nil, Nat.zero_add, List.nil_append]) k
theorem SL_append_nil_r {t tx e e' : TypeId} {s x : Operand} {es b cap : Nat} {ad : Addr} {z : List AV} {news : List (List AV)} (hd : d < N) (hs : evL G L s = some (.s (.slice none 0 0))) (hx : evL G L x = some (.rsl ad es cap news))
    (ht : elOf P t = some (e, es, b, z)) (htx : P.underlying tx = some (.slice e')) (hc : news.all (·.all isCell) = true) (hn : news.length ≠ 0) (hb1 : (2 * news.length + 192) * b ≤ 2 ^ 48) (hb2 : news.length < 2 ^ 62)
    (k : ∀ id, B.next ≤ id → SL P G B W ops os ((d, .sl id 0 news.length none) :: L) N ds ((id, .cells e es false news) :: H) Q) :
    SL P G B W ops (⟨some d, .call ⟨.builtin .append, #[s, x], #[t, tx]⟩, ty, pos, af, none⟩ :: os) L N ds H Q :=
  SL_new _ (fun id => .sl id 0 news.length none) hd (fun tm σ h1 h2 => by
    obtain ⟨hu, hsz0, info, zv, hi, hz, hsz, hnn, hbb, hzz⟩ := elOf_spec ht
    subst hnn hzz hbb
    have hsrc : appRows info (.rsl ad info.size cap news) σ = some news := by
      simp only [appRows, srcRows, if_true]
    unfold eff
    simp only [effCall, effBuiltin, List.map_cons, List.map_nil, h1.ev hs, h1.ev hx, effAppend, srcOk, htx, hu, hi, hz, hsrc, if_true]
    rw [if_pos ⟨hsz, hc⟩, if_neg hn, if_pos (by simp only [List.length_nil, Nat.zero_add]; exact ⟨hb1, hb2⟩)]
    simp only [List.length_nil, Nat.zero_add, List.nil_append]) k
theorem SL_append_nil_nil {t tx e e' : TypeId} {s x : Operand} {es b cap : Nat} {ad : Option Addr} {z : List AV} (hd : d < N) (hs : evL G L s = some (.s (.slice none 0 0))) (hx : evL G L x = some (.s (.slice ad 0 cap)))
    (ht : elOf P t = some (e, es, b, z)) (htx : P.underlying tx = some (.slice e'))
    (k : SL P G B W ops os ((d, .s (.slice none 0 0)) :: L) N ds H Q) :
    SL P G B W ops (⟨some d, .call ⟨.builtin .append, #[s, x], #[t, tx]⟩, ty, pos, af, none⟩ :: os) L N ds H Q :=
  SL_val _ hd (fun tm σ h1 h2 => by
    obtain ⟨hu, hsz0, info, zv, hi, hz, hsz, hnn, hbb, hzz⟩ := elOf_spec ht
    subst hnn hzz hbb
    have hsrc : appRows info (.s (.slice ad 0 cap)) σ = some [] := by
      cases ad <;> simp only [appRows, srcRows]
    unfold eff
    simp only [effCall, effBuiltin, List.map_cons, List.map_nil, h1.ev hs, h1.ev hx, effAppend, srcOk, htx, hu, hi, hz, hsrc, if_true]
    rw [if_pos ⟨hsz, by simp⟩, if_pos (by simp)]) k
theorem SL_append_own {t tx e e' ee : TypeId} {s x : Operand} {es b i n id0 o len : Nat} {cap : Option Nat} {ex : Bool} {z : List AV} {rows news old : List (List AV)} {H' : List (Nat × AObj)} (hd : d < N) (hs : evL G L s = some (.sl o 0 len none)) (hx : evL G L x = some (.sl id0 i n cap)) (hu : Upd H o (.cells e es false old) .dead H')
    (hlen : len = old.length) (ho : B.next ≤ o ∨ o ∈ W) (hm : (id0, AObj.cells ee es ex rows) ∈ H)
    (ht : elOf P t = some (e, es, b, z)) (htx : P.underlying tx = some (.slice e')) (hle : i + n ≤ rows.length) (hnews : (rows.drop i).take n = news) (hc : news.all (·.all isCell) = true) (hn : news.length ≠ 0) (hb1 : (2 * (len + news.length) + 192) * b ≤ 2 ^ 48) (hb2 : len + news.length < 2 ^ 62)
    (k : ∀ id, B.next ≤ id → SL P G B W ops os ((d, .sl id 0 (len + news.length) none) :: L) N ds ((id, .cells e es false (old ++ news)) :: H') Q) :
    SL P G B W ops (⟨some d, .call ⟨.builtin .append, #[s, x], #[t, tx]⟩, ty, pos, af, none⟩ :: os) L N ds H Q := fun tm σ h1 h2 => by
  refine wpl_op rfl ?_
  have he : eff P ⟨some d, .call ⟨.builtin .append, #[s, x], #[t, tx]⟩, ty, pos, af, none⟩ (evT G tm) σ = some (.val (.sl σ.newId 0 (len + news.length) none), (σ.set o .dead).push (.cells e es false (old ++ news))) := by
    obtain ⟨hun, hsz0, info, zv, hi, hz, hsz, hnn, hbb, hzz⟩ := elOf_spec ht
    subst hnn hzz hbb
    have hsrc : appRows info (.sl id0 i n cap) σ = some news := by
      simp only [appRows, srcRows, h2.get _ hm]
      rw [if_pos ⟨trivial, hle⟩, hnews]
    unfold eff
    simp only [effCall, effBuiltin, List.map_cons, List.map_nil, h1.ev hs, h1.ev hx, effAppend, srcOk, htx, hun, hi, hz, hsrc, if_true, h2.get _ hu.mem]
    rw [if_pos ⟨hsz, hc⟩, if_pos ⟨trivial, by omega⟩, if_neg hn, if_pos ⟨trivial, hlen, trivial, hb1, hb2⟩]
  rw [he]
  have h3 := (h2.set hu ho).push (.cells e es false (old ++ news))
  rw [AS.newId_set] at h3
  refine wpn_val (k σ.newId ?_ _ _ (h1.set hd _) h3)
  rw [AS.newId_none h2.slot]; exact h2.le
theorem SL_build1 {t e : TypeId} {es b : Nat} {z : List AV} {x : Operand} {v : AV} (hd : d < N) (hx : evL G L x = some v) (ht : elOf P t = some (e, es, b, z)) (hc : cellsOf v = [v]) (he : es = 1) (k : ∀ id, B.next ≤ id → SL P G B W ops os ((d, .sl id 0 1 none) :: L) N ds ((id, .cells e es true [[v]]) :: H) Q) :
    SL P G B W ops (⟨some d, .buildSlice t 1 #[(0, x)], ty, pos, af, none⟩ :: os) L N ds H Q := by
  subst he
  refine SL_buildSlice (vs := [(0, v)]) hd (by simp only [partsL, hx]) ht (by decide) ?_ k
  simp [setRows, hc]
theorem SL_append1_nil {t tx e e' ee : TypeId} {s x : Operand} {es b id0 : Nat} {cap : Option Nat} {ex : Bool} {z : List AV} {row : List AV} (hd : d < N) (hs : evL G L s = some (.s (.slice none 0 0))) (hx : evL G L x = some (.sl id0 0 1 cap)) (hm : (id0, AObj.cells ee es ex [row]) ∈ H)
    (ht : elOf P t = some (e, es, b, z)) (htx : P.underlying tx = some (.slice e')) (hc : row.all isCell = true) (hb1 : 194 * b ≤ 2 ^ 48)
    (k : ∀ id, B.next ≤ id → SL P G B W ops os ((d, .sl id 0 1 none) :: L) N ds ((id, .cells e es false [row]) :: H) Q) :
    SL P G B W ops (⟨some d, .call ⟨.builtin .append, #[s, x], #[t, tx]⟩, ty, pos, af, none⟩ :: os) L N ds H Q :=
  SL_append_nil (news := [row]) hd hs hx hm ht htx (by simp) rfl (by simp [hc]) (by simp) (by simpa using hb1) (show 1 < 2 ^ 62 by decide) k
theorem SL_append1_own {t tx e e' ee : TypeId} {s x : Operand} {es b id0 o len : Nat} {cap : Option Nat} {ex : Bool} {z row : List AV} {old : List (List AV)} {H' : List (Nat × AObj)} (hd : d < N) (hs : evL G L s = some (.sl o 0 len none)) (hx : evL G L x = some (.sl id0 0 1 cap)) (hu : Upd H o (.cells e es false old) .dead H')
    (hlen : len = old.length) (ho : B.next ≤ o ∨ o ∈ W) (hm : (id0, AObj.cells ee es ex [row]) ∈ H)
    (ht : elOf P t = some (e, es, b, z)) (htx : P.underlying tx = some (.slice e')) (hc : row.all isCell = true) (hb1 : (2 * (len + 1) + 192) * b ≤ 2 ^ 48) (hb2 : len + 1 < 2 ^ 62)
    (k : ∀ id, B.next ≤ id → SL P G B W ops os ((d, .sl id 0 (len + 1) none) :: L) N ds ((id, .cells e es false (old ++ [row])) :: H') Q) :
    SL P G B W ops (⟨some d, .call ⟨.builtin .append, #[s, x], #[t, tx]⟩, ty, pos, af, none⟩ :: os) L N ds H Q :=
  SL_append_own (news := [row]) hd hs hx hu hlen ho hm ht htx (by simp) rfl (by simp [hc]) (by simp) hb1 hb2 k
end rules

theorem Upd.append {H H' : List (Nat × AObj)} {id : Nat} {o o' : AObj} (h : Upd H id o o' H') (K : List (Nat × AObj)) : Upd (H ++ K) id o o' (H' ++ K) := by
  induction h with
  | head => exact .head
  | tail _ ih => exact .tail ih

def zipL : List Nat → List AV → List (Nat × AV) → List (Nat × AV)
  | p :: ps, a :: xs, L => zipL ps xs ((p, a) :: L)
  | _, _, L => L
theorem En.zip {N : Nat} : ∀ (ps : List Nat) (xs : List AV) (tm : Tm) (L : List (Nat × AV)), En tm N L → (∀ p ∈ ps, p < N) → En ((ps.zip xs).foldl (fun (ts : Tm) (p : Tmp × AV) => ts.set p.1 p.2) tm) N (zipL ps xs L)
  | [], _, tm, L, h, _ => by simpa [zipL] using h
  | _ :: _, [], tm, L, h, _ => by simpa [zipL] using h
  | p :: ps, a :: xs, tm, L, h, hp => by
    simp only [List.zip_cons_cons, List.foldl_cons, zipL]
    exact En.zip ps xs _ _ (h.set (hp p (by simp)) a) (fun q hq => hp q (List.mem_cons_of_mem _ hq))

def RPost (B : AS) (M : List Nat) (l : Nat) (R : AV → List (Nat × AObj) → Prop) (e : AEx) (s : Cfg) : Prop :=
  e = .normal ∧ ∃ lp, s.st.get l = some (.loop lp) ∧ ∃ Hn, He B M (s.st.set l (.loop { lp with state := .ready, pending := none })) Hn [] ∧ (∀ p ∈ Hn, p.1 ∈ M ∨ B.next ≤ p.1) ∧ R (.s (.bool true)) Hn
theorem RPost.intro {B : AS} {M : List Nat} {l : Nat} {R : AV → List (Nat × AObj) → Prop} {tm : Tm} {σ : AS} {H H' Hn : List (Nat × AObj)} {lp : ALoop} (h2 : He B M σ H []) (hl : l ∈ M) (hu : Upd H l (.loop lp) (.loop { lp with state := .ready, pending := none }) H') (hs : SubH Hn H') (hn : (Hn.map (·.1)).Nodup)
    (hB : ∀ p ∈ Hn, p.1 ∈ M ∨ B.next ≤ p.1) (hR : R (.s (.bool true)) Hn) : RPost B M l R .normal ⟨tm, [], σ⟩ :=
  ⟨rfl, lp, h2.get _ hu.mem, Hn, (h2.set hu (.inr hl)).sub hs hn, hB, hR⟩
theorem Rd_body {l : Nat} {xs : List AV} {M : List Nat} {H : List (Nat × AObj)} {R : AV → List (Nat × AObj) → Prop} {lp : ALoop} {N : Nat} {L : List (Nat × AV)} (hE : En lp.tmps N L) (hl : (l, AObj.loop lp) ∈ H) (hst : lp.state = .ready) (hlen : xs.length = lp.params.size) (hp : ∀ p ∈ lp.params.toList, p < N)
    (h : ∀ B : AS, SC P G B M (some l) lp.assign (zipL lp.params.toList xs L) N [] H (Nxt (fun s => ∃ r : ALoop, s.st.get l = some (.loop r) ∧ r.state = .ready ∧ wpc P G (some l) lp.body ⟨s.tmps, s.defs, s.st.set l (.loop { r with state := .busy })⟩ (RPost B M l R)) (fun _ _ => False))) : RdW P G l xs M H R := fun σ hs => by
  obtain ⟨n, e, s₁, h1, h2⟩ := h σ _ σ (En.zip lp.params.toList xs lp.tmps L hE hp) hs
  cases e with
  | exit id => exact h2.elim
  | ret => exact h2.elim
  | normal =>
    obtain ⟨r, hr1, hr2, m, e, s₂, h3, he, lp', hlp, Hn, hHe, hB, hR⟩ := h2
    subst he
    refine ⟨max n m, _, _, ?_, Hn, hHe, hB, hR⟩
    unfold roundWith
    rw [hs.get _ hl]
    simp only
    rw [if_pos ⟨hst, hlen⟩]
    simp only [exec_le (Nat.le_max_left n m) _ _ _ _ h1, hr1]
    rw [if_pos hr2]
    obtain ⟨tm1, df1, st1⟩ := s₁
    simp only at h3
    simp only [exec_le (Nat.le_max_right n m) _ _ _ _ h3, hlp]
    rfl

theorem SC_range {B : AS} {W : List Nat} {L : List (Nat × AV)} {N : Nat} {ds : List Nat} {H H0 Hr : List (Nat × AObj)} {Q : AEx → Cfg → Prop} {g : Operand} {params : Array Tmp} {assign body : Code} {gv : AV} {f : FuncId} {xs : Nat → List AV} {M0 : List Nat} {R : Tm → Nat → Nat → List (Nat × AObj) → Prop}
    (hg : evL G L g = some gv) (ht : ∀ l, target gv [.yld l] = some (.enter f (xs l))) (hs : SubH H0 H) (hn : (H0.map (·.1)).Nodup) (hM : ∀ id ∈ M0, (B.next ≤ id ∨ id ∈ W) ∧ id ∈ H.map (·.1)) (hr : SubH Hr H) (hrn : (Hr.map (·.1)).Nodup) (hrm : ∀ p ∈ Hr, p.1 ∉ M0)
    (hc : ∀ tm d l, En tm N L → B.next ≤ d → B.next ≤ l → l ∉ H.map (·.1) → FnW P G f (xs l) (l :: M0) ((l, .loop { state := .ready, pending := none, tmps := tm, params, assign, body, defers := d }) :: H0) (fun _ Hn => R tm d l Hn))
    (hR : ∀ tm d l Hn, B.next ≤ l → R tm d l Hn → ∃ r Hn', Upd Hn l (.loop r) (.loop { r with state := .exhausted }) Hn' ∧ r.state ≠ .busy ∧ r.pending = none ∧ ∀ tm' σ', En tm' N L → He B W σ' (Hn' ++ Hr) (d :: ds) → Q .normal ⟨tm', d :: ds, σ'⟩) :
    SC P G B W none (.rangeFunc g params assign body) L N ds H Q := by
  intro tm σ h1 h2
  -- the block for deferred calls, the record
  have p1 := h2.push .defr
  have hd1 : σ.newId = σ.next := AS.newId_none h2.slot
  have hd : B.next ≤ σ.newId := by rw [hd1]; exact h2.le
  have hdnot : σ.newId ∉ H.map (·.1) := fun hm => by
    obtain ⟨p, hp, hpe⟩ := List.mem_map.1 hm
    have := h2.lt hp; omega
  have p1' : He B W (σ.push .defr) H (σ.newId :: ds) := by
    refine ⟨p1.slot, p1.fresh, p1.le, h2.nodup, fun p hp => p1.get p (List.mem_cons_of_mem _ hp), p1.keep, fun x hx => ?_, fun x hx => ?_, ?_, fun x hx => ?_⟩
    · rcases List.mem_cons.1 hx with rfl | hx
      · exact hd
      · exact h2.dle x hx
    · rcases List.mem_cons.1 hx with rfl | hx
      · exact p1.get (σ.newId, .defr) (by simp)
      · exact p1.dget x hx
    · rw [List.nodup_cons]
      refine ⟨fun hm => ?_, h2.dnodup⟩
      have := AS.lt_of_get (h2.dget _ hm)
      omega
    · rcases List.mem_cons.1 hx with rfl | hx
      · exact hdnot
      · exact h2.dH x hx
  have p2 := p1'.push (.loop { state := .ready, pending := none, tmps := tm, params, assign, body, defers := σ.newId })
  have hl1 : (σ.push .defr).newId = (σ.push .defr).next := AS.newId_none p1.slot
  have hlB : B.next ≤ (σ.push .defr).newId := by rw [hl1]; exact p1.le
  have hlnot : (σ.push .defr).newId ∉ H.map (·.1) := fun hm => by
    obtain ⟨p, hp, hpe⟩ := List.mem_map.1 hm
    have := p1'.lt hp; omega
  have hnd : (((σ.push .defr).newId, AObj.loop { state := .ready, pending := none, tmps := tm, params, assign, body, defers := σ.newId }) :: H0).map (·.1) |>.Nodup := by
    rw [List.map_cons, List.nodup_cons]
    refine ⟨fun hm => hlnot ?_, hn⟩
    obtain ⟨p, hp, hpe⟩ := List.mem_map.1 hm
    exact List.mem_map.2 ⟨p, hs.mem p hp, hpe⟩
  have hsub : ∀ {A : List (Nat × AObj)} (q : Nat × AObj), SubH A H → SubH A (q :: H) := by
    intro A q hA
    induction A with
    | nil => trivial
    | cons a A ih => exact ⟨List.mem_cons_of_mem _ hA.1, ih hA.2⟩
  have hcall := hc tm σ.newId (σ.push .defr).newId h1 hd hlB hlnot _ (p2.startW (M := (σ.push .defr).newId :: M0) (H0 := ((σ.push .defr).newId, _) :: H0) ⟨by simp, hsub _ hs⟩ hnd)
  obtain ⟨n, v, σ₃, hrun, Hn, h3, h4, h5⟩ := hcall
  obtain ⟨r, Hn', hu, hb, hpend, hk⟩ := hR _ _ _ _ hlB h5
  have h6 : He B W σ₃ (Hn ++ Hr) (σ.newId :: ds) := p2.transW h3 (fun id hid => by
      rcases List.mem_cons.1 hid with rfl | hid
      · exact ⟨.inl hlB, by simp⟩
      · exact ⟨(hM id hid).1, by simp only [List.map_cons, List.mem_cons]; exact .inr (hM id hid).2⟩) h4 (hsub _ hr) hrn (fun p hp hm => by
      rcases List.mem_cons.1 hm with e | hm
      · exact hlnot (by rw [← e]; exact List.mem_map.2 ⟨p, hr.mem p hp, rfl⟩)
      · exact hrm p hp hm)
  have hu' : Upd (Hn ++ Hr) (σ.push .defr).newId (.loop r) (.loop { r with state := .exhausted }) (Hn' ++ Hr) := hu.append Hr
  have h7 := h6.set hu' (.inl hlB)
  have hQ := hk tm _ h1 h7
  refine ⟨n + 1, .normal, _, ?_, hQ⟩
  show stRange P G (exec P G n) none g params assign body ⟨tm, ds, σ⟩ = _
  have hg2 : evT G tm g = gv := h1.ev hg
  have hgl : σ₃.get (σ.push .defr).newId = some (.loop r) := h6.get _ hu'.mem
  simp only [stRange, rangeWith, hg2, ht, hrun, hgl]
  rw [if_neg hb, hpend]
  rfl
end Go.Ab
/- Tables looked up. -/
namespace Go.Ab
def fnd {β : Type} : List (Nat × β) → Nat → Option β
  | [], _ => none
  | (k, v) :: r, j => bif Nat.beq k j then some v else fnd r j
theorem fndF {β : Type} {f : Nat → Option β} : ∀ {L : List (Nat × β)}, (∀ p ∈ L, f p.1 = some p.2) → ∀ {t : Nat} {v : β}, fnd L t = some v → f t = some v
  | [], _, _, _, h => by cases h
  | (k, u) :: r, hl, t, v, h => by
    unfold fnd at h
    cases hb : Nat.beq k t with
    | true =>
      rw [hb] at h
      simp only [cond_true, Option.some.injEq] at h
      have := Nat.eq_of_beq_eq_true hb
      subst this h
      exact hl _ List.mem_cons_self
    | false =>
      rw [hb] at h
      exact fndF (fun p hp => hl p (List.mem_cons_of_mem _ hp)) h
def fnd2 : List (Nat × List (Nat × Nat)) → Nat → Nat → Option Nat
  | [], _, _ => none
  | (k, l) :: r, j, i => bif Nat.beq k j then fnd l i else fnd2 r j i
theorem fnd2F {f : Nat → Nat → Option Nat} : ∀ {L : List (Nat × List (Nat × Nat))}, (∀ p ∈ L, ∀ q ∈ p.2, f p.1 q.1 = some q.2) → ∀ {t i v : Nat}, fnd2 L t i = some v → f t i = some v
  | [], _, _, _, _, h => by cases h
  | (k, u) :: r, hl, t, i, v, h => by
    unfold fnd2 at h
    cases hb : Nat.beq k t with
    | true =>
      rw [hb] at h
      simp only [cond_true] at h
      have := Nat.eq_of_beq_eq_true hb
      subst this
      exact fndF (f := f k) (hl _ List.mem_cons_self) h
    | false =>
      rw [hb] at h
      exact fnd2F (fun p hp => hl p (List.mem_cons_of_mem _ hp)) h
end Go.Ab
/- Symbolic steps: names that differ, heaps in another order, functions and rounds that turn old objects. -/
namespace Go.Ab
variable {P : Program} {G : Gl}

theorem SubH.of_mem : ∀ {H' H : List (Nat × AObj)}, (∀ p ∈ H', p ∈ H) → SubH H' H
  | [], _, _ => trivial
  | p :: _, _, h => ⟨h p List.mem_cons_self, SubH.of_mem fun q hq => h q (List.mem_cons_of_mem _ hq)⟩
theorem SubH.refl (H : List (Nat × AObj)) : SubH H H := .of_mem fun _ h => h
theorem He.perm {B σ : AS} {W : List Nat} {H H' : List (Nat × AObj)} {ds : List Nat} (h : He B W σ H ds) (hp : H.Perm H') : He B W σ H' ds :=
  h.sub (.of_mem fun _ hm => hp.symm.subset hm) ((hp.map (·.1)).nodup h.nodup)

section
variable {B : AS} {W : List Nat} {rd : Option Nat} {L : List (Nat × AV)} {N : Nat} {ds : List Nat} {H : List (Nat × AObj)}
theorem SC_nd {c : Code} {Q : AEx → Cfg → Prop} (k : (H.map (·.1)).Nodup → SC P G B W rd c L N ds H Q) : SC P G B W rd c L N ds H Q := fun tm σ h1 h2 => k h2.nodup tm σ h1 h2
theorem SC_perm {c : Code} {H' : List (Nat × AObj)} {Q : AEx → Cfg → Prop} (hp : H.Perm H') (k : SC P G B W rd c L N ds H' Q) : SC P G B W rd c L N ds H Q := fun tm σ h1 h2 => k tm σ h1 (h2.perm hp)
theorem SC_drop {c : Code} {H' : List (Nat × AObj)} {Q : AEx → Cfg → Prop} (hs : SubH H' H) (hn : (H'.map (·.1)).Nodup) (k : SC P G B W rd c L N ds H' Q) : SC P G B W rd c L N ds H Q := fun tm σ h1 h2 => k tm σ h1 (h2.sub hs hn)
end

section rules
variable {B : AS} {W : List Nat} {ops : Array Oper} {os : List Oper} {L : List (Nat × AV)} {N : Nat} {ds : List Nat} {H : List (Nat × AObj)} {Q : Cfg → Prop} {ty : TypeId} {pos : String} {af : Array Edge} {d : Nat}
theorem SL_nd (k : (H.map (·.1)).Nodup → SL P G B W ops os L N ds H Q) : SL P G B W ops os L N ds H Q := fun tm σ h1 h2 => k h2.nodup tm σ h1 h2
theorem SL_perm {H' : List (Nat × AObj)} (hp : H.Perm H') (k : SL P G B W ops os L N ds H' Q) : SL P G B W ops os L N ds H Q := fun tm σ h1 h2 => k tm σ h1 (h2.perm hp)
theorem SL_drop {H' : List (Nat × AObj)} (hs : SubH H' H) (hn : (H'.map (·.1)).Nodup) (k : SL P G B W ops os L N ds H' Q) : SL P G B W ops os L N ds H Q := fun tm σ h1 h2 => k tm σ h1 (h2.sub hs hn)
theorem keys_apart {Hr H0 : List (Nat × AObj)} (h : ((Hr ++ H0).map (·.1)).Nodup) {M : List Nat} (hM : ∀ id ∈ M, id ∈ H0.map (·.1)) : ∀ p ∈ Hr, p.1 ∉ M := fun p hp hm => by
  rw [List.map_append, List.nodup_append] at h
  exact h.2.2 _ (List.mem_map.2 ⟨p, hp, rfl⟩) _ (hM _ hm) rfl
theorem SL_yield' {f : Operand} {xs : List Operand} {ats : Array TypeId} {l : Nat} {vs : List AV} {M : List Nat} {R : AV → List (Nat × AObj) → Prop} {H0 Hr : List (Nat × AObj)} (hd : d < N) (hf : evL G L f = some (.yld l)) (hx : evsL G L xs = some vs) (hc : RdW P G l vs M H0 R)
    (hM : ∀ id ∈ M, (B.next ≤ id ∨ id ∈ W) ∧ id ∈ H0.map (·.1)) (k : ∀ v Hn, R v Hn → SL P G B W ops os ((d, v) :: L) N ds (Hr ++ Hn) Q) :
    SL P G B W ops (⟨some d, .call ⟨.value f, xs.toArray, ats⟩, ty, pos, af, none⟩ :: os) L N ds (Hr ++ H0) Q := by
  refine SL_nd fun hnd => ?_
  have hap := keys_apart hnd (fun id hid => (hM id hid).2)
  rw [List.map_append, List.nodup_append] at hnd
  refine SL_yield hd hf hx hc (.of_mem fun p hp => List.mem_append_right _ hp) hnd.2.1 (fun id hid => ⟨(hM id hid).1, ?_⟩) (.of_mem fun p hp => List.mem_append_left _ hp) hnd.1 hap fun v Hn hR => ?_
  · rw [List.map_append]; exact List.mem_append_right _ (hM id hid).2
  · exact SL_perm List.perm_append_comm (k v Hn hR)
theorem SL_bneq {t yt : TypeId} {x y : Operand} {a b : Bool} (hd : d < N) (hx : evL G L x = some (.s (.bool a))) (hy : evL G L y = some (.s (.bool b)))
    (he : evalP P (do eqGuard .neq t x y (.bool a) (.bool b); binOp .neq t (.bool a) (.bool b)) = some (.bool (a != b))) (k : SL P G B W ops os ((d, .s (.bool (a != b))) :: L) N ds H Q) :
    SL P G B W ops (⟨some d, .binOp .neq t x y yt, ty, pos, af, none⟩ :: os) L N ds H Q :=
  SL_val (.s (.bool (a != b))) hd (fun tm σ h1 h2 => by
    unfold eff
    simp only [effBin, h1.ev hx, h1.ev hy, fastBin, he]) k
end rules

def PostW (P : Program) (B : AS) (M : List Nat) (fn : Func) (R : AV → List (Nat × AObj) → Prop) (e : AEx) (s : Cfg) : Prop :=
  (e = .normal ∨ e = .ret) ∧ ∃ σ' v, dropDefs s.st s.defs = some σ' ∧ aresults P fn s.tmps σ' = some v ∧ ∃ Hn, He B M σ' Hn [] ∧ (∀ p ∈ Hn, p.1 ∈ M ∨ B.next ≤ p.1) ∧ R v Hn
theorem PostW.intro {B : AS} {M : List Nat} {fn : Func} {R : AV → List (Nat × AObj) → Prop} {e : AEx} {tm : Tm} {N : Nat} {L : List (Nat × AV)} {σ : AS} {H Hn : List (Nat × AObj)} {ds : List Nat} {vs : List AV} (he : e = .normal ∨ e = .ret) (h1 : En tm N L) (h2 : He B M σ H ds) (hr : resL L fn.results.toList = some vs)
    (hs : SubH Hn H) (hn : (Hn.map (·.1)).Nodup) (hB : ∀ p ∈ Hn, p.1 ∈ M ∨ B.next ≤ p.1) (hR : R (tupled vs) Hn) : PostW P B M fn R e ⟨tm, ds, σ⟩ := by
  obtain ⟨σ', h3, h4⟩ := h2.drop
  exact ⟨he, σ', tupled vs, h3, by unfold aresults; rw [h1.res σ' hr]; rfl, Hn, h4.sub hs hn, hB, hR⟩
theorem FnW_body {f : FuncId} {as : List AV} {M : List Nat} {fn : Func} {c : Code} {H : List (Nat × AObj)} {R : AV → List (Nat × AObj) → Prop} (ho : G.orc f as = none) (hf : P.funcs[f]? = some fn) (hb : fn.body = some c) {N : Nat} (hN : max as.length fn.ntmps = N)
    (h : ∀ B, SC P G B M none c (argsL as 0) N [] H (PostW P B M fn R)) : FnW P G f as M H R := fun σ hs => by
  refine wpf_body ho hf hb ?_
  rw [hN]
  refine wpc_mono (h σ _ σ (hN ▸ En.args as fn.ntmps) hs) fun e s ⟨h1, σ', v, h2, h3, Hn, h4, h5, h6⟩ => ?_
  exact ⟨h1, σ', v, h2, h3, Hn, h4, h5, h6⟩

theorem SC_range' {B : AS} {W : List Nat} {L : List (Nat × AV)} {N : Nat} {ds : List Nat} {H0 Hr Hfin : List (Nat × AObj)} {Q : AEx → Cfg → Prop} {g : Operand} {params : Array Tmp} {assign body : Code} {gv : AV} {f : FuncId} {xs : Nat → List AV} {M0 : List Nat}
    (hg : evL G L g = some gv) (ht : ∀ l, target gv [.yld l] = some (.enter f (xs l))) (hM : ∀ id ∈ M0, (B.next ≤ id ∨ id ∈ W) ∧ id ∈ H0.map (·.1))
    (hc : ∀ tm d l, En tm N L → B.next ≤ l → l ∉ (Hr ++ H0).map (·.1) → FnW P G f (xs l) (l :: M0) ((l, .loop { state := .ready, pending := none, tmps := tm, params, assign, body, defers := d }) :: H0) (fun _ Hn => Hn = (l, .loop { state := .ready, pending := none, tmps := tm, params, assign, body, defers := d }) :: Hfin))
    (hk : ∀ d tm' σ', En tm' N L → He B W σ' (Hr ++ Hfin) (d :: ds) → Q .normal ⟨tm', d :: ds, σ'⟩) :
    SC P G B W none (.rangeFunc g params assign body) L N ds (Hr ++ H0) Q := by
  refine SC_nd fun hnd => ?_
  have hap := keys_apart hnd (fun id hid => (hM id hid).2)
  rw [List.map_append, List.nodup_append] at hnd
  refine SC_range (H0 := H0) (Hr := Hr) (M0 := M0) (R := fun tm d l Hn => l ∉ (Hr ++ H0).map (·.1) ∧ Hn = (l, .loop { state := .ready, pending := none, tmps := tm, params, assign, body, defers := d }) :: Hfin) hg ht (.of_mem fun p hp => List.mem_append_right _ hp) hnd.2.1 (fun id hid => ⟨(hM id hid).1, ?_⟩) (.of_mem fun p hp => List.mem_append_left _ hp) hnd.1 hap
    (fun tm d l h1 _ h3 h4 => ?_) fun tm d l Hn hl hR => ?_
  · rw [List.map_append]; exact List.mem_append_right _ (hM id hid).2
  · intro σ hs
    exact wpf_mono (hc tm d l h1 h3 h4 σ hs) fun v σ' ⟨Hn, a, b, c⟩ => ⟨Hn, a, b, h4, c⟩
  · obtain ⟨_, rfl⟩ := hR
    refine ⟨_, _, .head, by simp, rfl, fun tm' σ' hE hH => ?_⟩
    have h5 := hH.sub (H' := Hfin ++ Hr) (.of_mem fun p hp => List.mem_cons_of_mem _ hp) (by
      have := hH.nodup
      rw [List.cons_append, List.map_cons, List.nodup_cons] at this
      exact this.2)
    exact hk d tm' σ' hE (h5.perm List.perm_append_comm)

theorem Rd_body' {l : Nat} {xs : List AV} {M : List Nat} {H : List (Nat × AObj)} {R : AV → List (Nat × AObj) → Prop} {tm : Tm} {params : Array Tmp} {assign body : Code} {d : Nat} {N : Nat} {L : List (Nat × AV)} (hE : En tm N L) (hlen : xs.length = params.size) (hp : ∀ p ∈ params.toList, p < N) (hl : l ∈ M)
    (h : ∀ B : AS, SC P G B M (some l) assign (zipL params.toList xs L) N [] ((l, .loop { state := .ready, pending := none, tmps := tm, params, assign, body, defers := d }) :: H)
      (Nxt (fun s => ∃ tm1 σ1 L1 H1, s = ⟨tm1, [], σ1⟩ ∧ En tm1 N L1 ∧ He B M σ1 ((l, .loop { state := .ready, pending := none, tmps := tm, params, assign, body, defers := d }) :: H1) [] ∧
        SC P G B M (some l) body L1 N [] ((l, .loop { state := .busy, pending := none, tmps := tm, params, assign, body, defers := d }) :: H1) (RPost B M l R)) (fun _ _ => False))) :
    RdW P G l xs M ((l, .loop { state := .ready, pending := none, tmps := tm, params, assign, body, defers := d }) :: H) R := by
  refine Rd_body (lp := { state := .ready, pending := none, tmps := tm, params, assign, body, defers := d }) hE (by simp) rfl hlen hp fun B => ?_
  intro tm0 σ0 h1 h2
  refine wpc_mono (h B tm0 σ0 h1 h2) fun e s hs => ?_
  cases e with
  | exit _ => exact hs.elim
  | ret => exact hs.elim
  | normal =>
    obtain ⟨tm1, σ1, L1, H1, rfl, h3, h4, h5⟩ := hs
    exact ⟨_, h4.get _ List.mem_cons_self, rfl, h5 tm1 _ h3 (h4.set .head (.inr hl))⟩
end Go.Ab
/- Symbolic steps: drawn regions that act: one operation after the other, in the order of the plan. -/
namespace Go.Ab
variable {P : Program} {G : Gl}

def Seen.id : Seen → Nat
  | .all id _ => id
  | .size id _ => id
theorem seenAll_stands {σ : AS} {v : AV} {x : Seen} (h : seenAll σ v = some x) : x.stands σ = true ∧ idOf v = some x.id := by
  unfold seenAll at h
  split at h
  · rename_i id hid
    split at h
    · rename_i n o hg
      cases h
      exact ⟨by simp [Seen.stands, hg], hid⟩
    · cases h
  · cases h
theorem seenSl_stands {σ : AS} {v : AV} {x : Seen} (h : seenSl σ v = some x) : x.stands σ = true ∧ idOf v = some x.id := by
  unfold seenSl at h
  split at h
  · split at h
    · rename_i hg
      cases h
      exact ⟨by simp [Seen.stands, hg], rfl⟩
    · cases h
  · cases h
def lookAt (o : Oper) : Option Operand := match o.op with
  | .load _ a => some a
  | .indexAddr _ x _ => some x
  | .slice _ x _ _ _ => some x
  | .convert _ _ x => some x
  | _ => none
theorem readOf_stands {o : Oper} {ev : Operand → AV} {σ : AS} {x : Seen} (h : readOf o ev σ = some x) : x.stands σ = true ∧ ∃ a, lookAt o = some a ∧ idOf (ev a) = some x.id := by
  unfold readOf at h
  unfold lookAt
  split at h
  · rename_i a ha
    have := seenAll_stands h
    rw [ha]; exact ⟨this.1, _, rfl, this.2⟩
  · rename_i ha
    have := seenSl_stands h
    rw [ha]; exact ⟨this.1, _, rfl, this.2⟩
  · rename_i ha
    have := seenAll_stands h
    rw [ha]; exact ⟨this.1, _, rfl, this.2⟩
  · rename_i ha
    have := seenAll_stands h
    rw [ha]; exact ⟨this.1, _, rfl, this.2⟩
  · cases h
theorem readOf_none {o : Oper} {ev : Operand → AV} {σ : AS} {a : Operand} (ha : lookAt o = some a) (hv : idOf (ev a) = none) : readOf o ev σ = none := by
  unfold lookAt at ha
  unfold readOf
  have h2 : ∀ x : AV, idOf x = none → seenAll σ x = none := fun x hx => by simp only [seenAll, hx]
  have h3 : ∀ x : AV, idOf x = none → seenSl σ x = none := fun x hx => by cases x <;> first | rfl | cases hx
  cases ho : o.op <;> rw [ho] at ha <;> simp only [Option.some.injEq] at ha ⊢ <;> try (cases ha; done)
  all_goals subst ha
  all_goals first | exact h2 _ hv | exact h3 _ hv
def LateL (G : Gl) (L : List (Nat × AV)) (o : Oper) : Prop := isConv o = false ∨ ∃ a v, lookAt o = some a ∧ evL G L a = some v ∧ idOf v = none
theorem LateL.ok {L : List (Nat × AV)} {o : Oper} (h : LateL G L o) {tm : Tm} {N base size : Nat} (h1 : En tm N L) {ops : Array Oper} (σ : AS) : lateOk base size o (if Region.wanted o (ayielded ops tm) then readOf o (evT G tm) σ else none) = true := by
  rcases h with h | ⟨a, v, ha, hv, hid⟩
  · exact lateOk_not h
  · rw [readOf_none ha (by rw [h1.ev hv]; exact hid)]
    unfold lateOk
    split <;> first | rfl | (split <;> simp_all)
theorem stands_of {σ σ' : AS} {x : Seen} (h : x.stands σ = true) (he : σ'.objs.get x.id = σ.objs.get x.id) : x.stands σ' = true := by
  cases x <;> simp only [Seen.stands, Seen.id] at h he ⊢ <;> rw [he] <;> exact h

def RcSt (B : AS) (RC : List (Nat × Nat)) (rc : Rec) : Prop := ∀ p ∈ RC, ∀ x, rc p.1 = some x → x.id = p.2 ∧ x.stands B = true
theorem RcSt.upd {B : AS} {RC : List (Nat × Nat)} {rc : Rec} (h : RcSt B RC rc) {i : Nat} (hi : ∀ p ∈ RC, p.1 ≠ i) (v : Option Seen) : RcSt B RC (rc.upd i v) := fun p hp x hx => by
  unfold Rec.upd at hx
  rw [if_neg (hi p hp)] at hx
  exact h p hp x hx

def SD (P : Program) (G : Gl) (B : AS) (W : List Nat) (base : Nat) (ops : Array Oper) (pl : List (Nat × List Nat)) (L : List (Nat × AV)) (N : Nat) (H : List (Nat × AObj)) (RC : List (Nat × Nat)) (Q : Cfg → Prop) : Prop :=
  ∀ tm σ rc, En tm N L → He B W σ H [] → RcSt B RC rc → wpd P G base ops pl ⟨tm, [], σ⟩ rc Q

theorem He.wide {B σ : AS} {W W' : List Nat} {H : List (Nat × AObj)} {ds : List Nat} (h : He B W σ H ds) (hw : ∀ id ∈ W, id ∈ W') : He B W' σ H ds :=
  ⟨h.slot, h.fresh, h.le, h.nodup, h.get, fun id h1 h2 => h.keep id h1 (fun h3 => h2 (hw id h3)), h.dle, h.dget, h.dnodup, h.dH⟩

section
variable {B : AS} {W : List Nat} {base : Nat} {ops : Array Oper} {rest : List (Nat × List Nat)} {L : List (Nat × AV)} {N : Nat} {H : List (Nat × AObj)} {RC : List (Nat × Nat)} {Q : Cfg → Prop}
theorem SD_nil (h : ∀ tm σ, En tm N L → He B W σ H [] → Q ⟨tm, [], σ⟩) : SD P G B W base ops [] L N H RC Q := fun tm σ _ h1 h2 _ => ⟨0, _, rfl, h tm σ h1 h2⟩
theorem SD_op {i : Nat} {fl : List Nat} {o : Oper} (W' : List Nat) (RC' : List (Nat × Nat)) (hi : ops[i]? = some o) (hc : (cls o == 3) = false) (hw : ∀ id ∈ W, id ∈ W') (hRC : ∀ p ∈ RC, p.1 ≠ i) (hfl : ∀ k ∈ fl, ∃ id, (k, id) ∈ RC ∧ id ∉ W' ∧ id < B.next)
    (hrc : RC' = RC ∨ ∃ a v id, lookAt o = some a ∧ evL G L a = some v ∧ idOf v = some id ∧ id ∉ W ∧ id < B.next ∧ RC' = (i, id) :: RC)
    (h : SL P G B W' ops [o] L N [] H (fun s => ∃ tm' σ' L' H', s = ⟨tm', [], σ'⟩ ∧ En tm' N L' ∧ He B W' σ' H' [] ∧ SD P G B W' base ops rest L' N H' RC' Q)) (hlt : LateL G L o := by first | exact .inl rfl | exact .inr ⟨_, _, rfl, rfl, rfl⟩) : SD P G B W base ops ((i, fl) :: rest) L N H RC Q := by
  intro tm σ rc h1 h2 h3
  obtain ⟨n, s', hr, tm', σ', L', H', rfl, h4, h5, h6⟩ := h tm σ h1 (h2.wide hw)
  have hc3 : cls o ≠ 3 := by simpa using hc
  simp only [runL, stepO] at hr
  cases hres : resO P G (exec P G n) ops o tm σ with
  | none => rw [hres] at hr; simp [stepVal] at hr
  | some y =>
    obtain ⟨v, σ₁⟩ := y
    rw [hres] at hr
    simp only [stepVal, Option.some.injEq, Cfg.mk.injEq] at hr
    obtain ⟨rfl, -, rfl⟩ := hr
    have hx : resX P G (exec P G n) base ops i o tm σ = some (v, σ₁) := by
      obtain ⟨a, b, c⟩ := σ
      have hs := h2.slot
      simp only at hs; subst hs
      rw [resX_plain hc3, hres]
      obtain ⟨a1, b1, c1⟩ := σ₁
      have hs1 := h5.slot
      simp only at hs1; subst hs1
      rfl
    have hst : stands rc σ₁ fl = true := by
      unfold stands
      rw [List.all_eq_true]
      intro k hk
      obtain ⟨id, hm, hnw, hlt⟩ := hfl k hk
      cases hrk : rc k with
      | none => rfl
      | some x =>
        obtain ⟨rfl, hb⟩ := h3 _ hm x hrk
        exact stands_of hb (h5.keep _ hlt hnw)
    have hok : RcSt B RC' (rc.upd i (if Region.wanted o (ayielded ops tm) then readOf o (evT G tm) σ else none)) := by
      rcases hrc with rfl | ⟨a, v, id, ha, hv, hid, hnw, hlt, rfl⟩
      · exact h3.upd hRC _
      · intro p hp x hx
        rcases List.mem_cons.1 hp with rfl | hp
        · unfold Rec.upd at hx
          simp only [if_true] at hx
          split at hx
          · obtain ⟨hs, a', ha', hid'⟩ := readOf_stands hx
            rw [ha] at ha'; cases ha'
            rw [h1.ev hv, hid] at hid'
            cases hid'
            exact ⟨rfl, stands_of hs (h2.keep _ hlt hnw).symm⟩
          · cases hx
        · exact h3.upd hRC _ p hp x hx
    obtain ⟨m, s'', h7, h8⟩ := h6 _ _ _ h4 h5 hok
    refine ⟨max n m, s'', ?_, h8⟩
    simp only [runD, stepD, hi]
    rw [resX_le (exec_le (Nat.le_max_left n m)) hx]
    simp only [hst, hlt.ok h1 σ, Bool.and_self, if_true]
    exact runD_le (exec_le (Nat.le_max_right n m)) _ _ _ _ h7
theorem SD_newS {i d : Nat} {op : Op} {ty : TypeId} {pos : String} {af : Array Edge} (ob : AObj) (v : Nat → AV) (hi : ops[i]? = some ⟨some d, op, ty, pos, af, none⟩) (hc : (cls ⟨some d, op, ty, pos, af, none⟩ == 3) = true) (hd : d < N) (hRC : ∀ p ∈ RC, p.1 ≠ i)
    (hnW : base + i ∉ W) (hnH : base + i ∉ H.map (·.1)) (hlt : base + i < B.next) (hfree : B.objs.get (base + i) = none)
    (he : ∀ tm σ, En tm N L → eff P ⟨some d, op, ty, pos, af, none⟩ (evT G tm) σ = some (.val (v σ.newId), σ.push ob))
    (h : ∀ tm σ rc, En tm N ((d, v (base + i)) :: L) → He B ((base + i) :: W) σ ((base + i, ob) :: H) [] → RcSt B RC rc → σ.objs.get (base + i) = some (0, ob) → wpd P G base ops rest ⟨tm, [], σ⟩ rc Q) : SD P G B W base ops ((i, []) :: rest) L N H RC Q := by
  intro tm σ rc h1 h2 h3
  have hslot := h2.slot
  have hfr : σ.objs.get (base + i) = none := by rw [h2.keep _ hlt hnW]; exact hfree
  have hres : resO P G (exec P G 0) ops ⟨some d, op, ty, pos, af, none⟩ tm ⟨σ.objs, σ.next, some (base + i)⟩ = some (v (base + i), ⟨putObj σ.objs (base + i) ob, σ.next, none⟩) := by
    unfold resO
    have hw : Region.wanted ⟨some d, op, ty, pos, af, none⟩ (ayielded ops tm) = true := rfl
    rw [hw, if_pos rfl, he tm _ h1]
    rfl
  have hx : resX P G (exec P G 0) base ops i ⟨some d, op, ty, pos, af, none⟩ tm σ = some (v (base + i), ⟨putObj σ.objs (base + i) ob, σ.next, none⟩) := by
    unfold resX
    rw [hc]
    simp only [if_true]
    obtain ⟨a, b, c⟩ := σ
    simp only at hfr hres
    simp only [resA, hfr, hres]
  have hget : ∀ j, (⟨putObj σ.objs (base + i) ob, σ.next, none⟩ : AS).get j = if j = base + i then some ob else σ.get j := fun j => by
    have hb : base + i < σ.next := Nat.lt_of_lt_of_le hlt h2.le
    unfold AS.get
    simp only [putObj_get, hfr]
    by_cases e : j = base + i
    · subst e; simp [hb]
    · rw [if_neg e]; simp only [if_neg (fun x : base + i = j => e x.symm)]
  have h4 : He B ((base + i) :: W) ⟨putObj σ.objs (base + i) ob, σ.next, none⟩ ((base + i, ob) :: H) [] := by
    refine ⟨rfl, fun id hid => ?_, h2.le, ?_, fun p hp => ?_, fun id h5 h6 => ?_, (fun d hd => by cases hd), (fun d hd => by cases hd), List.nodup_nil, (fun d hd => by cases hd)⟩
    · simp only at hid
      simp only [putObj_get]
      have hb : base + i < σ.next := Nat.lt_of_lt_of_le hlt h2.le
      rw [if_neg (by omega)]
      exact h2.fresh id hid
    · rw [List.map_cons, List.nodup_cons]; exact ⟨hnH, h2.nodup⟩
    · rw [hget]
      rcases List.mem_cons.1 hp with rfl | hp
      · rw [if_pos rfl]
      · rw [if_neg (fun e => hnH (List.mem_map.2 ⟨p, hp, e⟩))]; exact h2.get p hp
    · simp only [putObj_get]
      rw [if_neg (fun e => h6 (by rw [e]; exact List.mem_cons_self))]
      exact h2.keep id h5 (fun h7 => h6 (List.mem_cons_of_mem _ h7))
  obtain ⟨m, s'', h7, h8⟩ := h _ _ (rc.upd i (if Region.wanted ⟨some d, op, ty, pos, af, none⟩ (ayielded ops tm) then readOf ⟨some d, op, ty, pos, af, none⟩ (evT G tm) σ else none)) (h1.set hd (v (base + i))) h4 (h3.upd hRC _) (by simp only [putObj_get, hfr, if_true])
  refine ⟨m, s'', ?_, h8⟩
  simp only [runD, stepD, hi]
  rw [resX_le (exec_le (Nat.zero_le m)) hx]
  have hst : ∀ (σ' : AS), stands rc σ' [] = true := fun _ => rfl
  have hnc : isConv ⟨some d, op, ty, pos, af, none⟩ = false := by
    cases hh : isConv ⟨some d, op, ty, pos, af, none⟩ with
    | false => rfl
    | true => rw [isConv_cls hh] at hc; cases hc
  simp only [hst, lateOk_not hnc, Bool.and_self, if_true]
  exact h7
theorem SD_new {i d : Nat} {op : Op} {ty : TypeId} {pos : String} {af : Array Edge} (ob : AObj) (v : Nat → AV) (hi : ops[i]? = some ⟨some d, op, ty, pos, af, none⟩) (hc : (cls ⟨some d, op, ty, pos, af, none⟩ == 3) = true) (hd : d < N) (hRC : ∀ p ∈ RC, p.1 ≠ i)
    (hnW : base + i ∉ W) (hnH : base + i ∉ H.map (·.1)) (hlt : base + i < B.next) (hfree : B.objs.get (base + i) = none)
    (he : ∀ tm σ, En tm N L → eff P ⟨some d, op, ty, pos, af, none⟩ (evT G tm) σ = some (.val (v σ.newId), σ.push ob))
    (h : SD P G B ((base + i) :: W) base ops rest ((d, v (base + i)) :: L) N ((base + i, ob) :: H) RC Q) : SD P G B W base ops ((i, []) :: rest) L N H RC Q :=
  SD_newS ob v hi hc hd hRC hnW hnH hlt hfree he fun tm σ rc h1 h2 h3 _ => h tm σ rc h1 h2 h3
end

theorem SC_drawn {B : AS} {W : List Nat} {rd : Option Nat} {L : List (Nat × AV)} {N : Nat} {H : List (Nat × AObj)} {Q : AEx → Cfg → Prop} {id : Nat} {l : List Oper} {pl : List (Nat × List Nat)} (hok : drawnOk l.toArray = true) (hpl : plan l.toArray = pl)
    (h : ∀ B' base, B.next ≤ base → base + l.length ≤ B'.next → (∀ j, base ≤ j → B'.objs.get j = none) → (∀ p ∈ H, p.1 < base) →
      SD P G B' [] base l.toArray pl L N H [] (fun s => ∃ W' tm' σ' L' H', s = ⟨tm', [], σ'⟩ ∧ En tm' N L' ∧ He B' W' σ' H' [] ∧ (∀ id ∈ W', B.next ≤ id ∨ id ∈ W) ∧ ∀ tm σ, En tm N L' → He B W σ H' [] → Q .normal ⟨tm, [], σ⟩)) :
    SC P G B W rd (.region id l.toArray true) L N [] H Q := by
  intro tm σ h1 h2
  refine wpc_draw hok hpl ?_
  have hsz : l.toArray.size = l.length := by simp
  have h3 := h2.bump l.toArray.size
  have hfree : ∀ j, σ.next ≤ j → σ.objs.get j = none := h2.fresh
  have h4 : He (⟨σ.objs, σ.next + l.toArray.size, none⟩ : AS) [] ⟨σ.objs, σ.next + l.toArray.size, none⟩ H [] :=
    ⟨rfl, h3.fresh, Nat.le_refl _, h2.nodup, h3.get, fun _ _ _ => rfl, (fun d hd => by cases hd), (fun d hd => by cases hd), List.nodup_nil, (fun d hd => by cases hd)⟩
  obtain ⟨n, s', h5, W', tm', σ', L', H', rfl, h6, h7, h8, h9⟩ := h ⟨σ.objs, σ.next + l.toArray.size, none⟩ σ.next h2.le (by simp) hfree (fun p hp => h2.lt hp) tm _ (fun _ => none) h1 h4 (fun p hp => by cases hp)
  refine ⟨n, _, h5, h9 tm' σ' h6 ⟨h7.slot, h7.fresh, ?_, h7.nodup, h7.get, fun j hj hw => ?_, (fun d hd => by cases hd), (fun d hd => by cases hd), List.nodup_nil, (fun d hd => by cases hd)⟩⟩
  · have := h7.le
    have := h2.le
    simp only at *
    omega
  · have hlt : j < σ.next + l.toArray.size := by have := h2.le; omega
    rw [h7.keep j hlt (fun hm => by
      rcases h8 j hm with h | h
      · omega
      · exact hw h)]
    exact h2.keep j hj hw
end Go.Ab
/- Symbolic steps: closures, calls that turn old objects, pure operations on known values, slices of own slices, tables in objects. -/
namespace Go.Ab
variable {P : Program} {G : Gl}
section rules
variable {B : AS} {W : List Nat} {ops : Array Oper} {os : List Oper} {L : List (Nat × AV)} {N : Nat} {ds : List Nat} {H : List (Nat × AObj)} {Q : Cfg → Prop} {ty : TypeId} {pos : String} {af : Array Edge} {d : Nat}
theorem He.calls {f : Operand} {xs : List Operand} {ats : Array TypeId} {dst : Option Tmp} {g : FuncId} {fv : AV} {vs args : List AV} {tm : Tm} {σ : AS} (h1 : En tm N L) (hf : evL G L f = some fv) (hb : bodyless P fv = false) (ht : target fv vs = some (.enter g args)) (hx : evsL G L xs = some vs) :
    eff P ⟨dst, .call ⟨.value f, xs.toArray, ats⟩, ty, pos, af, none⟩ (evT G tm) σ = some (.enter g args, σ) := by
  unfold eff
  simp only [effCall, h1.ev hf, hb, Bool.false_eq_true, if_false, h1.evs hx, ht, Option.map_some]
theorem SL_callv {f : Operand} {xs : List Operand} {ats : Array TypeId} {g : FuncId} {fv : AV} {vs args : List AV} {R : AV → List (Nat × AObj) → Prop} {H0 : List (Nat × AObj)} (hd : d < N) (hf : evL G L f = some fv) (hb : bodyless P fv = false) (hx : evsL G L xs = some vs) (ht : target fv vs = some (.enter g args))
    (hc : FnC P G g args H0 R) (hs : SubH H0 H) (hn : (H0.map (·.1)).Nodup) (k : ∀ v Hn, (∀ p ∈ Hn, B.next ≤ p.1) → R v Hn → SL P G B W ops os ((d, v) :: L) N ds (Hn ++ H) Q) :
    SL P G B W ops (⟨some d, .call ⟨.value f, xs.toArray, ats⟩, ty, pos, af, none⟩ :: os) L N ds H Q := fun tm σ h1 h2 => by
  refine wpl_op rfl ?_
  rw [He.calls h1 hf hb ht hx]
  refine wpn_enter (wpf_mono (hc σ (h2.here.sub hs hn)) fun v σ' ⟨Hn, h3, h4, h5⟩ => ?_)
  exact k v Hn (fun p hp => Nat.le_trans h2.le (h4 p hp)) h5 _ _ (h1.set hd v) (h2.trans h3 h4)
theorem SL_callW {f : Operand} {xs : List Operand} {ats : Array TypeId} {g : FuncId} {fv : AV} {vs args : List AV} {M : List Nat} {R : AV → List (Nat × AObj) → Prop} {H0 Hr : List (Nat × AObj)} (hd : d < N) (hf : evL G L f = some fv) (hb : bodyless P fv = false) (hx : evsL G L xs = some vs) (ht : target fv vs = some (.enter g args))
    (hc : FnW P G g args M H0 R) (hM : ∀ id ∈ M, (B.next ≤ id ∨ id ∈ W) ∧ id ∈ H0.map (·.1)) (k : ∀ v Hn, R v Hn → SL P G B W ops os ((d, v) :: L) N ds (Hr ++ Hn) Q) :
    SL P G B W ops (⟨some d, .call ⟨.value f, xs.toArray, ats⟩, ty, pos, af, none⟩ :: os) L N ds (Hr ++ H0) Q := by
  refine SL_nd fun hnd => ?_
  have hap := keys_apart hnd (fun id hid => (hM id hid).2)
  rw [List.map_append, List.nodup_append] at hnd
  intro tm σ h1 h2
  refine wpl_op rfl ?_
  rw [He.calls h1 hf hb ht hx]
  refine wpn_enter (wpf_mono (hc σ (h2.startW (.of_mem fun p hp => List.mem_append_right _ hp) hnd.2.1)) fun v σ' ⟨Hn, h3, h4, h5⟩ => ?_)
  have h6 := h2.transW h3 (fun id hid => ⟨(hM id hid).1, by rw [List.map_append]; exact List.mem_append_right _ (hM id hid).2⟩) h4 (Hr := Hr) (.of_mem fun p hp => List.mem_append_left _ hp) hnd.1 hap
  exact k v Hn h5 _ _ (h1.set hd v) (h6.perm List.perm_append_comm)
def evC (L : List (Nat × AV)) (y : Operand) : AV := (evL ⟨fun _ => none, fun _ _ => none⟩ L y).getD uv
def hasV (L : List (Nat × AV)) : Operand → Bool
  | .tmp t => (lk L t).isSome
  | .const _ => true
  | .func _ => true
  | .global _ => false
theorem evC_eq {L' : List (Nat × AV)} {tm : Tm} (h : En tm N L) (hs : Sub L' L) {y : Operand} (hy : hasV L' y = true) : evT G tm y = evC L' y := by
  cases y with
  | tmp t =>
    simp only [hasV, Option.isSome_iff_exists] at hy
    obtain ⟨v, hv⟩ := hy
    show tm.get t = (lk L' t).getD uv
    rw [hv, h.get t v (hs.lk t v hv)]; rfl
  | const c => rfl
  | func f => rfl
  | global g => cases hy
theorem SL_pure {op : Op} (L' : List (Nat × AV)) {v : AV} (hd : d < N) (hs : Sub L' L) (hall : op.operands.toList.all (hasV L') = true) (hk : ∀ tm σ, En tm N L → eff P ⟨some d, op, ty, pos, af, none⟩ (evT G tm) σ = withSt σ (effPure P ⟨some d, op, ty, pos, af, none⟩ (evT G tm)))
    (hsel : ∀ cs b, op ≠ .select cs b) (hr : effPure P ⟨some d, op, ty, pos, af, none⟩ (evC L') = some v) (k : SL P G B W ops os ((d, v) :: L) N ds H Q) :
    SL P G B W ops (⟨some d, op, ty, pos, af, none⟩ :: os) L N ds H Q :=
  SL_val v hd (fun tm σ h1 h2 => by
    rw [hk tm σ h1, effPure_congr (ev' := evC L') hsel (fun z hz => evC_eq h1 hs (List.all_eq_true.1 hall z (by simpa using hz))), hr]
    rfl) k
theorem SL_slice {t e e' : TypeId} {x : Operand} {lo hi : Option Operand} {id n l h es : Nat} {ex : Bool} {rows : List (List AV)} {v : AV} (hd : d < N) (hx : evL G L x = some (.sl id 0 n none)) (hm : (id, AObj.cells e' es ex rows) ∈ H) (ht : sliceOf P t = some (e, es)) (hex : ex = false) (hlen : rows.length = n)
    (hlo : ∀ tm, En tm N L → bound (lo.map (evT G tm)) 0 h = some l) (hhi : ∀ tm, En tm N L → bound (hi.map (evT G tm)) n n = some h) (hlh : l ≤ h) (hv : v = if l = 0 ∨ l < n then .sl id l (h - l) none else if h = l then .sle else uv) (hok : l = 0 ∨ l < n ∨ h = l)
    (k : SL P G B W ops os ((d, v) :: L) N ds H Q) : SL P G B W ops (⟨some d, .slice t x lo hi none, ty, pos, af, none⟩ :: os) L N ds H Q :=
  SL_val v hd (fun tm σ h1 h2 => by
    obtain ⟨hu, hs⟩ := sliceOf_spec ht
    subst hex hlen
    have hb1 : bound (none : Option AV) rows.length rows.length = some rows.length := rfl
    unfold eff
    simp only [effSliceTop, effSliceOp, h1.ev hx, isRef, if_true, effSlice, Option.map_none, Option.isSome_none, Bool.false_and, Bool.false_eq_true, if_false, hu, hs, h2.get _ hm, Nat.zero_add, Nat.le_refl, and_self, Nat.sub_zero, slBounds, hb1, Option.bind_some, hhi tm h1, hlo tm h1, withSt]
    rw [hv]
    by_cases c : l = 0 ∨ l < rows.length
    · simp only [c, if_true, Option.map_some]
    · have hh : h = l := by omega
      simp only [c, if_false, hh, if_true, Option.map_some]) k
theorem SL_indexAddr_a {t e : TypeId} {x ix : Operand} {o i f es len : Nat} {kk : IntKind} {n : Int} (hd : d < N) (hx : evL G L x = some (.ptr o i f)) (hi : evL G L ix = some (.s (.int kk n))) (ht : arrOf P t = some (len, e, es)) (j : Nat) (hn : n = j) (hlt : j < len)
    (k : SL P G B W ops os ((d, .ptr o i (f + j * es)) :: L) N ds H Q) : SL P G B W ops (⟨some d, .indexAddr t x ix, ty, pos, af, none⟩ :: os) L N ds H Q :=
  SL_val _ hd (fun tm σ h1 h2 => by
    obtain ⟨hu, hs⟩ := arrOf_spec ht
    unfold eff
    simp only [effIndexAddr, h1.ev hx, h1.ev hi, hu, hs, withSt]
    subst hn
    rw [if_pos ⟨by omega, by omega⟩]
    simp) k
theorem SL_len_e {t e : TypeId} {es : Nat} {x : Operand} {ats : Array TypeId} (hd : d < N) (hx : evL G L x = some .sle) (ha : ats[0]? = some t) (ht : sliceOf P t = some (e, es)) (k : SL P G B W ops os ((d, .s (.int .i64 0)) :: L) N ds H Q) :
    SL P G B W ops (⟨some d, .call ⟨.builtin .len, #[x], ats⟩, ty, pos, af, none⟩ :: os) L N ds H Q :=
  SL_val _ hd (fun tm σ h1 h2 => by
    unfold eff
    simp only [effCall, effBuiltin, List.map_cons, List.map_nil, h1.ev hx, effLenOp, isRef, if_true, effLen, ha, Option.bind_some, (sliceOf_spec ht).1]
    rfl) k
theorem SL_bin {o : BinOp} {t yt : TypeId} {x y : Operand} {u v r : Value} (hd : d < N) (hx : evL G L x = some (.s u)) (hy : evL G L y = some (.s v)) (hf : fastBin o u v = none) (hr : evalP P (do eqGuard o t x y u v; binOp o t u v) = some r) (k : SL P G B W ops os ((d, .s r) :: L) N ds H Q) :
    SL P G B W ops (⟨some d, .binOp o t x y yt, ty, pos, af, none⟩ :: os) L N ds H Q :=
  SL_val (.s r) hd (fun tm σ h1 h2 => by unfold eff; simp only [effBin, h1.ev hx, h1.ev hy, hf, hr]) k
end rules
end Go.Ab
/- Symbolic steps: rounds whose heap is told by a predicate. -/
namespace Go.Ab
variable {P : Program} {G : Gl}
section rules
variable {B : AS} {W : List Nat} {ops : Array Oper} {os : List Oper} {L : List (Nat × AV)} {N : Nat} {ds : List Nat} {H : List (Nat × AObj)} {Q : Cfg → Prop} {ty : TypeId} {pos : String} {af : Array Edge} {d : Nat}
theorem nodup_with {Hr H0 Hx : List (Nat × AObj)} (_h1 : (Hr.map (·.1)).Nodup) (h2 : (H0.map (·.1)).Nodup) (h3 : ∀ a ∈ Hr.map (·.1), ∀ b ∈ H0.map (·.1), a ≠ b) (hx : ∀ p ∈ Hx, p ∈ Hr) (hn : (Hx.map (·.1)).Nodup) : ((H0 ++ Hx).map (·.1)).Nodup := by
  rw [List.map_append, List.nodup_append]
  refine ⟨h2, hn, fun a ha b hb e => ?_⟩
  obtain ⟨p, hp, rfl⟩ := List.mem_map.1 hb
  exact h3 p.1 (List.mem_map.2 ⟨p, hx p hp, rfl⟩) a ha e.symm
theorem SL_yield2 {f : Operand} {xs : List Operand} {ats : Array TypeId} {l : Nat} {vs : List AV} {M : List Nat} {R : AV → List (Nat × AObj) → Prop} {H0 Hr Hx : List (Nat × AObj)} (hd : d < N) (hf : evL G L f = some (.yld l)) (hx : evsL G L xs = some vs) (hc : RdW P G l vs M (H0 ++ Hx) R) (hxr : ∀ p ∈ Hx, p ∈ Hr) (hxn : (Hx.map (·.1)).Nodup)
    (hM : ∀ id ∈ M, (B.next ≤ id ∨ id ∈ W) ∧ id ∈ H0.map (·.1)) (k : ∀ v Hn, (∀ p ∈ Hn, B.next ≤ p.1 ∨ p.1 ∈ W) → R v Hn → SL P G B W ops os ((d, v) :: L) N ds (Hr ++ Hn) Q) :
    SL P G B W ops (⟨some d, .call ⟨.value f, xs.toArray, ats⟩, ty, pos, af, none⟩ :: os) L N ds (Hr ++ H0) Q := by
  refine SL_nd fun hnd => ?_
  have hap := keys_apart hnd (fun id hid => (hM id hid).2)
  rw [List.map_append, List.nodup_append] at hnd
  have hnx := nodup_with hnd.1 hnd.2.1 hnd.2.2 hxr hxn
  intro tm σ h1 h2
  refine wpl_op rfl ?_
  have he : eff P ⟨some d, .call ⟨.value f, xs.toArray, ats⟩, ty, pos, af, none⟩ (evT G tm) σ = some (.round l vs, σ) := by
    unfold eff
    simp only [effCall, h1.ev hf, bodyless, Bool.false_eq_true, if_false, h1.evs hx, target, Option.map_some]
  rw [he]
  refine wpn_round (wpy_mono (hc σ (h2.startW (.of_mem fun p hp => (List.mem_append.1 hp).elim (fun h => List.mem_append_right _ h) (fun h => List.mem_append_left _ (hxr p h))) hnx)) fun v σ' ⟨Hn, h3, h4, h5⟩ => ?_)
  have h6 := h2.transW h3 (fun id hid => ⟨(hM id hid).1, by rw [List.map_append]; exact List.mem_append_right _ (hM id hid).2⟩) h4 (Hr := Hr) (.of_mem fun p hp => List.mem_append_left _ hp) hnd.1 hap
  refine k v Hn (fun p hp => ?_) h5 _ _ (h1.set hd v) (h6.perm List.perm_append_comm)
  rcases h4 p hp with h7 | h7
  · exact (hM _ h7).1
  · exact .inl (Nat.le_trans h2.le h7)
end rules

theorem SC_range2 {B : AS} {W : List Nat} {L : List (Nat × AV)} {N : Nat} {ds : List Nat} {H0 Hr Hx : List (Nat × AObj)} {Fin : List (Nat × AObj) → Prop} {Q : AEx → Cfg → Prop} {g : Operand} {params : Array Tmp} {assign body : Code} {gv : AV} {f : FuncId} {xs : Nat → List AV} {M0 : List Nat}
    (hg : evL G L g = some gv) (ht : ∀ l, target gv [.yld l] = some (.enter f (xs l))) (hM : ∀ id ∈ M0, (B.next ≤ id ∨ id ∈ W) ∧ id ∈ H0.map (·.1)) (hxr : ∀ p ∈ Hx, p ∈ Hr) (hxn : (Hx.map (·.1)).Nodup)
    (hc : ∀ tm d l, En tm N L → B.next ≤ l → l ∉ (Hr ++ H0).map (·.1) → FnW P G f (xs l) (l :: M0) ((l, .loop { state := .ready, pending := none, tmps := tm, params, assign, body, defers := d }) :: (H0 ++ Hx)) (fun _ Hn => ∃ H', Hn = (l, .loop { state := .ready, pending := none, tmps := tm, params, assign, body, defers := d }) :: H' ∧ Fin H'))
    (hk : ∀ d H' tm' σ', (∀ p ∈ H', B.next ≤ p.1 ∨ p.1 ∈ W) → Fin H' → En tm' N L → He B W σ' (Hr ++ H') (d :: ds) → Q .normal ⟨tm', d :: ds, σ'⟩) :
    SC P G B W none (.rangeFunc g params assign body) L N ds (Hr ++ H0) Q := by
  refine SC_nd fun hnd => ?_
  have hap := keys_apart hnd (fun id hid => (hM id hid).2)
  rw [List.map_append, List.nodup_append] at hnd
  have hnx := nodup_with hnd.1 hnd.2.1 hnd.2.2 hxr hxn
  refine SC_range (H0 := H0 ++ Hx) (Hr := Hr) (M0 := M0) (R := fun tm d l Hn => (l ∉ (Hr ++ H0).map (·.1) ∧ ∀ p ∈ Hn, B.next ≤ p.1 ∨ p.1 ∈ W) ∧ ∃ H', Hn = (l, .loop { state := .ready, pending := none, tmps := tm, params, assign, body, defers := d }) :: H' ∧ Fin H') hg ht (.of_mem fun p hp => (List.mem_append.1 hp).elim (fun h => List.mem_append_right _ h) (fun h => List.mem_append_left _ (hxr p h))) hnx (fun id hid => ⟨(hM id hid).1, ?_⟩) (.of_mem fun p hp => List.mem_append_left _ hp) hnd.1 hap
    (fun tm d l h1 _ h3 h4 => ?_) fun tm d l Hn hl hR => ?_
  · rw [List.map_append]; exact List.mem_append_right _ (hM id hid).2
  · intro σ hs
    have hlt : l < σ.next := hs.lt (p := (l, _)) List.mem_cons_self
    exact wpf_mono (hc tm d l h1 h3 h4 σ hs) fun v σ' ⟨Hn, a, b, c⟩ => ⟨Hn, a, b, ⟨h4, fun p hp => by
      rcases b p hp with hb | hb
      · rcases List.mem_cons.1 hb with e | hb
        · rw [e]; exact .inl h3
        · exact (hM _ hb).1
      · exact .inl (by omega)⟩, c⟩
  · obtain ⟨⟨_, hpl⟩, H', rfl, hF⟩ := hR
    refine ⟨_, _, .head, by simp, rfl, fun tm' σ' hE hH => ?_⟩
    have h5 := hH.sub (H' := H' ++ Hr) (.of_mem fun p hp => List.mem_cons_of_mem _ hp) (by
      have := hH.nodup
      rw [List.cons_append, List.map_cons, List.nodup_cons] at this
      exact this.2)
    exact hk d H' tm' σ' (fun p hp => hpl p (List.mem_cons_of_mem _ hp)) hF hE (h5.perm List.perm_append_comm)
end Go.Ab
/- Symbolic steps: calls that turn some objects and read others. -/
namespace Go.Ab
variable {P : Program} {G : Gl}
section rules
variable {B : AS} {W : List Nat} {ops : Array Oper} {os : List Oper} {L : List (Nat × AV)} {N : Nat} {ds : List Nat} {H : List (Nat × AObj)} {Q : Cfg → Prop} {ty : TypeId} {pos : String} {af : Array Edge} {d : Nat}
theorem SL_callW2 {f : Operand} {xs : List Operand} {ats : Array TypeId} {g : FuncId} {fv : AV} {vs args : List AV} {M : List Nat} {R : AV → List (Nat × AObj) → Prop} {H0 Hr Hx : List (Nat × AObj)} (hd : d < N) (hf : evL G L f = some fv) (hb : bodyless P fv = false) (hx : evsL G L xs = some vs) (ht : target fv vs = some (.enter g args))
    (hc : FnW P G g args M (H0 ++ Hx) R) (hxr : ∀ p ∈ Hx, p ∈ Hr) (hxn : (Hx.map (·.1)).Nodup) (hM : ∀ id ∈ M, (B.next ≤ id ∨ id ∈ W) ∧ id ∈ H0.map (·.1)) (k : ∀ v Hn, (∀ p ∈ Hn, B.next ≤ p.1 ∨ p.1 ∈ W) → R v Hn → SL P G B W ops os ((d, v) :: L) N ds (Hn ++ Hr) Q) :
    SL P G B W ops (⟨some d, .call ⟨.value f, xs.toArray, ats⟩, ty, pos, af, none⟩ :: os) L N ds (H0 ++ Hr) Q := by
  refine SL_perm (List.perm_append_comm) (SL_nd fun hnd => ?_)
  have hap := keys_apart hnd (fun id hid => (hM id hid).2)
  rw [List.map_append, List.nodup_append] at hnd
  have hnx := nodup_with hnd.1 hnd.2.1 hnd.2.2 hxr hxn
  intro tm σ h1 h2
  refine wpl_op rfl ?_
  rw [He.calls h1 hf hb ht hx]
  refine wpn_enter (wpf_mono (hc σ (h2.startW (.of_mem fun p hp => (List.mem_append.1 hp).elim (fun h => List.mem_append_right _ h) (fun h => List.mem_append_left _ (hxr p h))) hnx)) fun v σ' ⟨Hn, h3, h4, h5⟩ => ?_)
  have h6 := h2.transW h3 (fun id hid => ⟨(hM id hid).1, by rw [List.map_append]; exact List.mem_append_right _ (hM id hid).2⟩) h4 (Hr := Hr) (.of_mem fun p hp => List.mem_append_left _ hp) hnd.1 hap
  refine k v Hn (fun p hp => ?_) h5 _ _ (h1.set hd v) h6
  rcases h4 p hp with h7 | h7
  · exact (hM _ h7).1
  · exact .inl (Nat.le_trans h2.le h7)
theorem SL_nilCheck {x : Operand} {o i f : Nat} (hd : d < N) (hx : evL G L x = some (.ptr o i f)) (k : SL P G B W ops os ((d, .ptr o i f) :: L) N ds H Q) : SL P G B W ops (⟨some d, .nilCheck x, ty, pos, af, none⟩ :: os) L N ds H Q :=
  SL_val _ hd (fun tm σ h1 h2 => by unfold eff; simp only [h1.ev hx, effNil]) k
theorem SL_quo {t yt : TypeId} {x y : Operand} {a b : Int} (hd : d < N) (hx : evL G L x = some (.s (.int .i64 a))) (hy : evL G L y = some (.s (.int .i64 b))) (h0 : 0 ≤ a) (h1 : a ≤ 9223372036854775807) (hb : 1 ≤ b) (k : SL P G B W ops os ((d, .s (.int .i64 (a / b))) :: L) N ds H Q) :
    SL P G B W ops (⟨some d, .binOp .quo t x y yt, ty, pos, af, none⟩ :: os) L N ds H Q :=
  SL_bin hd hx hy rfl (by
    show evalP P (Op.intDiv .quo .i64 a b) = _
    unfold Op.intDiv
    rw [if_neg (by omega)]
    show some (Value.int .i64 (IntKind.i64.wrap (a.tdiv b))) = _
    rw [IntWalk.i64_quo a b ⟨h0, h1, hb⟩]) k
theorem SL_rem {t yt : TypeId} {x y : Operand} {kk : IntKind} {a b : Int} (hd : d < N) (hx : evL G L x = some (.s (.int kk a))) (hy : evL G L y = some (.s (.int kk b))) (h0 : 0 ≤ a) (hb : 1 ≤ b) (k : SL P G B W ops os ((d, .s (.int kk (a % b))) :: L) N ds H Q) :
    SL P G B W ops (⟨some d, .binOp .rem t x y yt, ty, pos, af, none⟩ :: os) L N ds H Q :=
  SL_bin hd hx hy (by simp [fastBin]) (by
    show evalP P (if kk ≠ kk then _ else Op.intDiv .rem kk a b) = _
    rw [if_neg (by simp)]
    unfold Op.intDiv
    rw [if_neg (by omega)]
    show some (Value.int kk (a.tmod b)) = _
    rw [Int.tmod_eq_emod_of_nonneg h0]) k
theorem SL_subu {t yt : TypeId} {x y : Operand} {a b : Int} (hd : d < N) (hx : evL G L x = some (.s (.int .u64 a))) (hy : evL G L y = some (.s (.int .u64 b))) (h1 : 0 ≤ a - b) (h2 : a - b ≤ 18446744073709551615) (k : SL P G B W ops os ((d, .s (.int .u64 (a - b))) :: L) N ds H Q) :
    SL P G B W ops (⟨some d, .binOp .sub t x y yt, ty, pos, af, none⟩ :: os) L N ds H Q :=
  SL_fast hd hx hy (by simp only [fastBin, if_true, IntWalk.u64_in _ ⟨h1, h2⟩]) k
theorem SL_xorE {t yt : TypeId} {x y : Operand} {kk : IntKind} {a b : Int} (hd : d < N) (hx : evL G L x = some (.s (.int kk a))) (hy : evL G L y = some (.s (.int kk b))) (k : ∀ z : Int, SL P G B W ops os ((d, .s (.int kk z)) :: L) N ds H Q) :
    SL P G B W ops (⟨some d, .binOp .xor t x y yt, ty, pos, af, none⟩ :: os) L N ds H Q :=
  SL_bin hd hx hy (by simp [fastBin]) (by
    show evalP P (if kk ≠ kk then _ else Op.intBits .xor kk a b) = _
    rw [if_neg (by simp)]; rfl) (k _)
theorem SL_shlE {t yt : TypeId} {x y : Operand} {kk yk : IntKind} {a b : Int} (hd : d < N) (hx : evL G L x = some (.s (.int kk a))) (hy : evL G L y = some (.s (.int yk b))) (hb : 0 ≤ b) (k : SL P G B W ops os ((d, .s (.int kk (kk.wrap (a * 2 ^ (min b.toNat kk.bits))))) :: L) N ds H Q) :
    SL P G B W ops (⟨some d, .binOp .shl t x y yt, ty, pos, af, none⟩ :: os) L N ds H Q :=
  SL_bin hd hx hy (by unfold fastBin; simp) (by
    show evalP P (Op.shift .shl kk a yk b) = _
    unfold Op.shift
    rw [if_neg (by omega)]; rfl) k
theorem SL_shrE {t yt : TypeId} {x y : Operand} {kk yk : IntKind} {a b : Int} (hd : d < N) (hx : evL G L x = some (.s (.int kk a))) (hy : evL G L y = some (.s (.int yk b))) (hb : 0 ≤ b) (k : SL P G B W ops os ((d, .s (.int kk (a.fdiv (2 ^ (min b.toNat kk.bits))))) :: L) N ds H Q) :
    SL P G B W ops (⟨some d, .binOp .shr t x y yt, ty, pos, af, none⟩ :: os) L N ds H Q :=
  SL_bin hd hx hy (by unfold fastBin; simp) (by
    show evalP P (Op.shift .shr kk a yk b) = _
    unfold Op.shift
    rw [if_neg (by omega)]; rfl) k
theorem SL_andLe {t yt : TypeId} {x y : Operand} {a b : Int} (hd : d < N) (hx : evL G L x = some (.s (.int .u64 a))) (hy : evL G L y = some (.s (.int .u64 b))) (hb : 0 ≤ b) (hb2 : b < 2 ^ 64) (k : ∀ z : Nat, (z : Int) ≤ b → SL P G B W ops os ((d, .s (.int .u64 z)) :: L) N ds H Q) :
    SL P G B W ops (⟨some d, .binOp .and t x y yt, ty, pos, af, none⟩ :: os) L N ds H Q := by
  have hw : IntKind.u64.wrap ((BitVec.ofInt IntKind.u64.bits a &&& BitVec.ofInt IntKind.u64.bits b).toNat : Int) = ((BitVec.ofInt IntKind.u64.bits a &&& BitVec.ofInt IntKind.u64.bits b).toNat : Int) := IntWalk.u64_in _ ⟨by omega, by
    have := (BitVec.ofInt IntKind.u64.bits a &&& BitVec.ofInt IntKind.u64.bits b).isLt
    have e : IntKind.u64.bits = 64 := rfl
    rw [e] at this ⊢
    omega⟩
  refine SL_bin (r := .int .u64 ((BitVec.ofInt IntKind.u64.bits a &&& BitVec.ofInt IntKind.u64.bits b).toNat : Int)) hd hx hy (by simp [fastBin]) (by
    show evalP P (Op.intBits .and .u64 a b) = _
    show some (Value.int .u64 (IntKind.u64.wrap _)) = _
    rw [hw]) (k _ ?_)
  rw [BitVec.toNat_and]
  have h1 : (BitVec.ofInt IntKind.u64.bits b).toNat = b.toNat := by
    have e : IntKind.u64.bits = 64 := rfl
    rw [e, BitVec.toNat_ofInt]
    omega
  have h2 := Nat.and_le_right (n := (BitVec.ofInt IntKind.u64.bits a).toNat) (m := (BitVec.ofInt IntKind.u64.bits b).toNat)
  omega
structure Cmp (P : Program) (G : Gl) (cv : AV) (Hx : List (Nat × AObj)) (S : Int → Prop) (lt : Int → Int → Prop) : Prop where
  body : bodyless P cv = false
  call : ∀ x y, S x → S y → ∃ g gas, target cv [.s (.int .i64 x), .s (.int .i64 y)] = some (.enter g gas) ∧ FnC P G g gas Hx (fun v Hn => (∃ c : Int, v = .s (.int .i64 c) ∧ (c < 0 ↔ lt x y)) ∧ Hn = [])
  irr : ∀ x, S x → ¬ lt x x
  tr : ∀ x y z, S x → S y → S z → lt x y → lt y z → lt x z
  tot : ∀ x y, S x → S y → x ≠ y → lt x y ∨ lt y x
theorem SL_cmp {cv : AV} {Hx : List (Nat × AObj)} {S : Int → Prop} {lt : Int → Int → Prop} {f a b : Operand} {ats : Array TypeId} {x y : Int} (hcmp : Cmp P G cv Hx S lt) (hd : d < N) (hf : evL G L f = some cv) (ha : evL G L a = some (.s (.int .i64 x))) (hb : evL G L b = some (.s (.int .i64 y))) (sx : S x) (sy : S y)
    (hs : SubH Hx H) (hn : (Hx.map (·.1)).Nodup) (k1 : ∀ c : Int, c < 0 → lt x y → SL P G B W ops os ((d, .s (.int .i64 c)) :: L) N ds H Q) (k2 : ∀ c : Int, 0 ≤ c → ¬ lt x y → SL P G B W ops os ((d, .s (.int .i64 c)) :: L) N ds H Q) :
    SL P G B W ops (⟨some d, .call ⟨.value f, #[a, b], ats⟩, ty, pos, af, none⟩ :: os) L N ds H Q := by
  obtain ⟨g, gas, ht, hc⟩ := hcmp.call x y sx sy
  refine SL_callv (xs := [a, b]) hd hf hcmp.body (by unfold evsL; rw [ha]; unfold evsL; rw [hb]; rfl) ht hc hs hn ?_
  rintro v Hn _ ⟨⟨c, rfl, hlt⟩, rfl⟩
  rw [List.nil_append]
  by_cases h : lt x y
  · exact k1 c (hlt.2 h) h
  · exact k2 c (Int.not_lt.1 fun h' => h (hlt.1 h')) h
end rules
theorem SC_seq_cut {B : AS} {W : List Nat} {rd : Option Nat} {L : List (Nat × AV)} {N : Nat} {ds : List Nat} {H : List (Nat × AObj)} {Q : AEx → Cfg → Prop} {a b : Code} {α : Type} (Lf : α → List (Nat × AV)) (Hf : α → List (Nat × AObj)) (dsf : α → List Nat) (Inv : α → Prop)
    (h1 : SC P G B W rd a L N ds H (Nxt (fun s => ∃ x, Inv x ∧ St B W s (Lf x) N (dsf x) (Hf x)) Q)) (h2 : ∀ x, Inv x → SC P G B W rd b (Lf x) N (dsf x) (Hf x) Q) : SC P G B W rd (.seq a b) L N ds H Q :=
  SC_seq fun tm σ hE hH => wpc_mono (h1 tm σ hE hH) fun e s hs => by
    cases e with
    | normal =>
      obtain ⟨x, hi, tm', σ', rfl, h3, h4⟩ := hs
      exact h2 x hi tm' σ' h3 h4
    | exit _ => exact hs
    | ret => exact hs
theorem SC_loop_cut {B : AS} {W : List Nat} {rd : Option Nat} {L : List (Nat × AV)} {N : Nat} {H : List (Nat × AObj)} {Q : AEx → Cfg → Prop} {id : Nat} {b : Code} {α β : Type} (Lf : α → List (Nat × AV)) (Hf : α → List (Nat × AObj)) (Inv : α → Prop) (μ : α → Nat) (Lo : β → List (Nat × AV)) (Ho : β → List (Nat × AObj)) (Out : β → Prop) (a0 : α) (hI : Inv a0) (hL : Sub (Lf a0) L) (hH : SubH (Hf a0) H) (hn : ((Hf a0).map (·.1)).Nodup)
    (step : ∀ a, Inv a → SC P G B W rd b (Lf a) N [] (Hf a) (Nxt (fun s => ∃ a', μ a' < μ a ∧ Inv a' ∧ St B W s (Lf a') N [] (Hf a')) (fun e s => e = .exit id ∧ ∃ x, Out x ∧ St B W s (Lo x) N [] (Ho x))))
    (out : ∀ x, Out x → ∀ tm σ, En tm N (Lo x) → He B W σ (Ho x) [] → Q .normal ⟨tm, [], σ⟩) : SC P G B W rd (.loop b) L N [] H (InB id Q) := by
  refine SC_loop Lf Hf (fun _ => []) Inv μ a0 hI hL hH hn rfl fun a ha tm σ hE hHe => wpc_mono (step a ha tm σ hE hHe) fun e s hs => ?_
  cases e with
  | normal => exact hs
  | ret => exact absurd hs.1 (by simp)
  | exit id' =>
    obtain ⟨h1, x, hx, tm', σ', rfl, h3, h4⟩ := hs
    cases h1
    show (if id = id then _ else _)
    rw [if_pos rfl]
    exact out x hx tm' σ' h3 h4
theorem FnW.monoW {f : FuncId} {xs : List AV} {M : List Nat} {H : List (Nat × AObj)} {R R' : AV → List (Nat × AObj) → Prop} (h : FnW P G f xs M H R) (hr : ∀ v Hn, R v Hn → R' v Hn) : FnW P G f xs M H R' := fun σ hs => wpf_mono (h σ hs) fun v _σ' ⟨Hn, h1, h2, h3⟩ => ⟨Hn, h1, h2, hr v Hn h3⟩
theorem FnC.on {f : FuncId} {xs : List AV} {H0 H : List (Nat × AObj)} {R : AV → List (Nat × AObj) → Prop} (h : FnC P G f xs H0 R) (hs : H0.Sublist H) : FnC P G f xs H R := fun σ hσ => h σ (hσ.sub (.of_mem fun _ hp => hs.subset hp) (hσ.nodup.sublist (hs.map _)))
end Go.Ab
namespace Go.Ab
variable {P : Program} {G : Gl}
def kinds2 (P : Program) (s d : TypeId) : Option (IntKind × IntKind) := match P.underlying s, P.underlying d with
  | some (.int a), some (.int b) => some (a, b)
  | _, _ => none
theorem SL_conv {B : AS} {W : List Nat} {ops : Array Oper} {os : List Oper} {L : List (Nat × AV)} {N : Nat} {ds : List Nat} {H : List (Nat × AObj)} {Q : Cfg → Prop} {ty : TypeId} {pos : String} {af : Array Edge} {d : Nat} {s t : TypeId} {x : Operand} {kk k1 k2 : IntKind} {a : Int} (hd : d < N) (hx : evL G L x = some (.s (.int kk a))) (hk : kinds2 P s t = some (k1, k2)) (hw : k2.wrap a = a)
    (k : SL P G B W ops os ((d, .s (.int k2 a)) :: L) N ds H Q) : SL P G B W ops (⟨some d, .convert s t x, ty, pos, af, none⟩ :: os) L N ds H Q := by
  have hu : P.underlying s = some (.int k1) ∧ P.underlying t = some (.int k2) := by
    unfold kinds2 at hk
    split at hk
    · rename_i a b h1 h2
      cases hk; exact ⟨h1, h2⟩
    · cases hk
  refine SL_val (.s (.int k2 a)) hd (fun tm σ h1 h2 => ?_) k
  have he : effPure P ⟨some d, .convert s t x, ty, pos, af, none⟩ (evT G tm) = some (.s (.int k2 a)) := by
    unfold effPure
    simp only [Op.operands, h1.ev hx, isRef, List.all_cons, List.all_nil, Bool.not_false, Bool.and_self, if_true, execOp, sOf, Option.getD_some]
    have hc : evalP P (convert s t (.int kk a)) = some (.int k2 a) := by
      unfold convert
      rw [evalP_bind, evalP_under s hu.1]
      simp only [Option.bind_some]
      rw [evalP_bind, evalP_under t hu.2]
      show some (Value.int k2 (k2.wrap a)) = _
      rw [hw]
    rw [evalP_bind, hc]
    rfl
  unfold eff
  simp only [effConv, h1.ev hx, isRef, Bool.false_eq_true, if_false, he]
  rfl
end Go.Ab
namespace Go.Ab
variable {P : Program} {G : Gl}
section rules
variable {B : AS} {W : List Nat} {ops : Array Oper} {os : List Oper} {L : List (Nat × AV)} {N : Nat} {ds : List Nat} {H : List (Nat × AObj)} {Q : Cfg → Prop} {ty : TypeId} {pos : String} {af : Array Edge} {d : Nat}
theorem SL_slice_r {t e : TypeId} {x y : Operand} {a : Addr} {es cap i : Nat} {rows : List (List AV)} {kk : IntKind} {n : Int} (hd : d < N) (hx : evL G L x = some (.rsl a es cap rows)) (hy : evL G L y = some (.s (.int kk n))) (ht : sliceOf P t = some (e, es)) (hn : n = i) (hi : i ≤ rows.length) (hc : rows.length ≤ cap)
    (k : SL P G B W ops os ((d, .rsl a es cap (rows.take i)) :: L) N ds H Q) : SL P G B W ops (⟨some d, .slice t x none (some y) none, ty, pos, af, none⟩ :: os) L N ds H Q :=
  SL_val (.rsl a es cap (rows.take i)) hd (fun tm σ h1 h2 => by
    obtain ⟨hu, hs⟩ := sliceOf_spec ht
    subst hn
    have hb1 : bound (none : Option AV) cap cap = some cap := rfl
    have hb2 : bound (some (AV.s (.int kk (i : Int)))) rows.length cap = some i := by
      unfold bound
      simp only
      rw [if_pos ⟨by omega, by omega⟩]; rfl
    have hb3 : bound (none : Option AV) 0 i = some 0 := rfl
    unfold eff
    simp only [effSliceTop, effSliceOp, h1.ev hx, isRef, if_true, effSlice, Option.map_none, Option.map_some, h1.ev hy, Option.isSome_none, Bool.false_and, Bool.false_eq_true, if_false, hu, hs, slBounds, hb1, hb2, hb3, Option.bind_some, hi, withSt]) k
theorem SL_append1_grow {t tx e e' ee : TypeId} {s x : Operand} {es b id0 o len : Nat} {cap : Option Nat} {ex : Bool} {z row : List AV} {old : List (List AV)} (hd : d < N) (hs : evL G L s = some (.sl o 0 len none)) (hx : evL G L x = some (.sl id0 0 1 cap)) (hmo : (o, AObj.cells e es true old) ∈ H)
    (hlen : len = old.length) (hm : (id0, AObj.cells ee es ex [row]) ∈ H) (ht : elOf P t = some (e, es, b, z)) (htx : P.underlying tx = some (.slice e')) (hc : row.all isCell = true) (hb1 : (2 * (len + 1) + 192) * b ≤ 2 ^ 48) (hb2 : len + 1 < 2 ^ 62)
    (k : ∀ id, B.next ≤ id → SL P G B W ops os ((d, .sl id 0 (len + 1) none) :: L) N ds ((id, .cells e es false (old ++ [row])) :: H) Q) :
    SL P G B W ops (⟨some d, .call ⟨.builtin .append, #[s, x], #[t, tx]⟩, ty, pos, af, none⟩ :: os) L N ds H Q :=
  SL_new _ (fun id => .sl id 0 (len + 1) none) hd (fun tm σ h1 h2 => by
    obtain ⟨hu, hsz0, info, zv, hi, hz, hsz, hnn, hbb, hzz⟩ := elOf_spec ht
    subst hnn hzz hbb hlen
    have hsrc : appRows info (.sl id0 0 1 cap) σ = some [row] := by
      simp only [appRows, srcRows, h2.get _ hm]
      rw [if_pos ⟨trivial, by simp⟩]; rfl
    have hall : ([row].all fun r => r.all isCell) = true := by simp [hc]
    unfold eff
    simp only [effCall, effBuiltin, List.map_cons, List.map_nil, h1.ev hs, h1.ev hx, effAppend, srcOk, htx, hu, hi, hz, hsrc, if_true, h2.get _ hmo]
    rw [if_pos ⟨hsz, hall⟩, if_pos ⟨trivial, by omega⟩, if_neg (by simp), if_pos ⟨by simpa using hb1, by simpa using hb2⟩]
    simp) k
end rules
end Go.Ab
namespace Go.Ab
theorem He.subl {B σ : AS} {W : List Nat} {H H' : List (Nat × AObj)} {ds : List Nat} (h : He B W σ H ds) (hs : H'.Sublist H) : He B W σ H' ds := h.sub (.of_mem fun _ hp => hs.subset hp) (h.nodup.sublist (hs.map _))
end Go.Ab
/- A closed call's outcome, given as a contract. -/
namespace Go.Ab
variable {P : Program}

theorem Rep.after {B w w' : World} {ρ ρ' : Rho} {σ σ' : AS} (h : Rep B ρ σ w) (h' : Rep w ρ' σ' w') : Rep B ρ σ w' where
  dom := h.dom
  free := h.free
  low := h.low
  obj := fun id o l hg hr => by
    have ho := h.obj id o l hg hr
    have hk := h'.keep l.blk (h.new id l hr).2
    cases o with
    | dead => trivial
    | cells e es x rows =>
      obtain ⟨h1, h2, h3, h4, c, h5, h6, h7⟩ := ho
      exact ⟨h1, h2, h3, h4, c, by rw [hk]; exact h5, h6, h7⟩
    | loop lp =>
      obtain ⟨fn, arr, d, h1, h2, h3⟩ := ho
      exact ⟨fn, arr, d, h1, h2, by rw [hk]; exact h3⟩
    | defr => show w'.heap[l.blk]? = _; rw [hk]; exact ho
    | map es => show w'.heap[l.blk]? = _; rw [hk]; exact ho
    | siter s pos => show w'.heap[l.blk]? = _; rw [hk]; exact ho
    | iter m =>
      obtain ⟨d, h1, h2⟩ := ho
      exact ⟨d, h1, by rw [hk]; exact h2⟩
  new := fun id l hr => ⟨(h.new id l hr).1, Nat.lt_of_lt_of_le (h.new id l hr).2 h'.size⟩
  inj := h.inj
  keep := fun b hb => (h'.keep b (Nat.lt_of_lt_of_le hb h.size)).trans (h.keep b hb)
  size := Nat.le_trans h.size h'.size
  tape := h'.tape.trans h.tape
  os := h'.os.trans h.os
  out := h'.out.trans h.out
  has := h.has
  thaw := fun b x hb hx => by
    by_cases hw : b < w.heap.size
    · exact h.thaw b x hb (by rw [← h'.keep b hw]; exact hx)
    · exact h'.thaw b x (by omega) hx

def oneOrc (f : FuncId) (v : Value) : Gl := ⟨fun _ => none, fun g as => if g = f ∧ as = [] then some (fun σ => some (.s v, σ)) else none⟩
theorem oneOrc_at (f : FuncId) (v : Value) : (oneOrc f v).orc f [] = some (fun σ => some (.s v, σ)) := by simp [oneOrc]
theorem oneOrc_off {f g : FuncId} {v : Value} {as : List AV} (h : as ≠ []) : (oneOrc f v).orc g as = none := by simp [oneOrc, h]
theorem oneOrc_given (hP : Fit P) {n : Nat} {f : FuncId} {v : Value} {σk : AS} {fn : Func} (hf : P.funcs[f]? = some fn) (hb : fn.body.isNone = false) (h : runCall P ⟨fun _ => none, fun _ _ => none⟩ n f [] = some (.s v, σk)) : Given P (oneOrc f v) where
  ok := fun g as hh ho => by
    unfold oneOrc at ho
    simp only at ho
    split at ho
    · rename_i hc
      obtain ⟨rfl, rfl⟩ := hc
      cases ho
      refine ⟨⟨fn, hf, hb⟩, fun σ v' σ' hv B ρ w vs hG hrep hc k => ?_⟩
      cases hv
      refine call_sound (exec_sound hP (Given.none _) n) (G := ⟨fun _ => none, fun _ _ => none⟩) (fun _ _ hr => by cases hr) (start_rep w) (as := []) ?_ h k (R := fun e w' => ∃ ρ' y, e = .returned y ∧ ρ.le ρ' ∧ Conc (memOf B) ρ' (.s v) y ∧ Rep B ρ' σ w') (fun ρ' y w' _ hcy hrep' => ?_)
      · cases hvs : vs.toList with
        | nil => exact .nil
        | cons a b => rw [hvs] at hc; cases hc
      · cases hcy
        exact ⟨ρ, _, rfl, Rho.le_refl ρ, .s _, hrep.after hrep'⟩
    · cases ho
  acts := fun g as hh ho => by
    unfold oneOrc at ho
    simp only at ho
    split at ho
    · cases ho
      intro σ v' σ' hv N hN
      cases hv
      exact ⟨[], trivial, rfl, fun σ₂ _ => rfl⟩
    · cases ho
end Go.Ab
/- Symbolic steps: drawn regions that look at what is only read. -/
namespace Go.Ab
variable {P : Program} {G : Gl}
section
variable {B : AS} {W : List Nat} {base : Nat} {ops : Array Oper} {rest : List (Nat × List Nat)} {L : List (Nat × AV)} {N : Nat} {H : List (Nat × AObj)} {RC : List (Nat × Nat)} {Q : Cfg → Prop}
theorem SD_opN {i : Nat} {fl : List Nat} {o : Oper} (W' : List Nat) (RC' : List (Nat × Nat)) (hi : ops[i]? = some o) (hc : (cls o == 3) = false) (hw : ∀ id ∈ W, id ∈ W') (hRC : ∀ p ∈ RC, p.1 ≠ i) (hfl : ∀ k ∈ fl, ∃ id, (k, id) ∈ RC ∧ id ∉ W' ∧ id < B.next)
    (hrc : ∃ a v id, lookAt o = some a ∧ evL G L a = some v ∧ idOf v = none ∧ RC' = (i, id) :: RC)
    (h : SL P G B W' ops [o] L N [] H (fun s => ∃ tm' σ' L' H', s = ⟨tm', [], σ'⟩ ∧ En tm' N L' ∧ He B W' σ' H' [] ∧ SD P G B W' base ops rest L' N H' RC' Q)) : SD P G B W base ops ((i, fl) :: rest) L N H RC Q := by
  have hlt : LateL G L o := by
    obtain ⟨a, v, id, ha, hv, hid, _⟩ := hrc
    exact .inr ⟨a, v, ha, hv, hid⟩
  intro tm σ rc h1 h2 h3
  obtain ⟨n, s', hr, tm', σ', L', H', rfl, h4, h5, h6⟩ := h tm σ h1 (h2.wide hw)
  have hc3 : cls o ≠ 3 := by simpa using hc
  simp only [runL, stepO] at hr
  cases hres : resO P G (exec P G n) ops o tm σ with
  | none => rw [hres] at hr; simp [stepVal] at hr
  | some y =>
    obtain ⟨v, σ₁⟩ := y
    rw [hres] at hr
    simp only [stepVal, Option.some.injEq, Cfg.mk.injEq] at hr
    obtain ⟨rfl, -, rfl⟩ := hr
    have hx : resX P G (exec P G n) base ops i o tm σ = some (v, σ₁) := by
      obtain ⟨a, b, c⟩ := σ
      have hs := h2.slot
      simp only at hs; subst hs
      rw [resX_plain hc3, hres]
      obtain ⟨a1, b1, c1⟩ := σ₁
      have hs1 := h5.slot
      simp only at hs1; subst hs1
      rfl
    have hst : stands rc σ₁ fl = true := by
      unfold stands
      rw [List.all_eq_true]
      intro k hk
      obtain ⟨id, hm, hnw, hlt⟩ := hfl k hk
      cases hrk : rc k with
      | none => rfl
      | some x =>
        obtain ⟨rfl, hb⟩ := h3 _ hm x hrk
        exact stands_of hb (h5.keep _ hlt hnw)
    have hok : RcSt B RC' (rc.upd i (if Region.wanted o (ayielded ops tm) then readOf o (evT G tm) σ else none)) := by
      obtain ⟨a, v, id, ha, hv, hid, rfl⟩ := hrc
      intro p hp x hx
      rcases List.mem_cons.1 hp with rfl | hp
      · unfold Rec.upd at hx
        simp only [if_true] at hx
        split at hx
        · obtain ⟨hs, a', ha', hid'⟩ := readOf_stands hx
          rw [ha] at ha'; cases ha'
          rw [h1.ev hv, hid] at hid'
          cases hid'
        · cases hx
      · exact h3.upd hRC _ p hp x hx
    obtain ⟨m, s'', h7, h8⟩ := h6 _ _ _ h4 h5 hok
    refine ⟨max n m, s'', ?_, h8⟩
    simp only [runD, stepD, hi]
    rw [resX_le (exec_le (Nat.le_max_left n m)) hx]
    simp only [hst, hlt.ok h1 σ, Bool.and_self, if_true]
    exact runD_le (exec_le (Nat.le_max_right n m)) _ _ _ _ h7
end
end Go.Ab
/- Contracts by runs: calls that a run with another table answers; contracts on data of one's own, which is read only. -/
namespace Go.Ab
variable {P : Program} {G0 : Gl}
open Classical in
noncomputable def runF (P : Program) (G0 : Gl) (f : FuncId) (as : List AV) (σ : AS) : Option (AV × AS) :=
  if h : ∃ n x, callWith P G0 (exec P G0 n) f as σ = some x then callWith P G0 (exec P G0 h.choose) f as σ else none
theorem runF_some {f : FuncId} {as : List AV} {σ : AS} {x : AV × AS} (h : runF P G0 f as σ = some x) : ∃ n, callWith P G0 (exec P G0 n) f as σ = some x := by
  unfold runF at h
  split at h
  · exact ⟨_, h⟩
  · cases h
theorem runF_of {f : FuncId} {as : List AV} {σ : AS} {x : AV × AS} {n : Nat} (h : callWith P G0 (exec P G0 n) f as σ = some x) : runF P G0 f as σ = some x := by
  unfold runF
  have hh : ∃ n x, callWith P G0 (exec P G0 n) f as σ = some x := ⟨n, x, h⟩
  rw [dif_pos hh]
  obtain ⟨y, hy⟩ := hh.choose_spec
  have h1 := callWith_le (exec_le (P := P) (G := G0) (Nat.le_max_left n hh.choose)) h
  have h2 := callWith_le (exec_le (P := P) (G := G0) (Nat.le_max_right n hh.choose)) hy
  rw [hy]
  rw [h1] at h2
  exact h2.symm

def Bodied (P : Program) (f : FuncId) : Prop := ∃ fn, P.funcs[f]? = some fn ∧ fn.body.isNone = false
structure Ctr (P : Program) (G0 : Gl) (f : FuncId) (as : List AV) (h : AS → Option (AV × AS)) : Prop where
  body : Bodied P f
  ok : ∀ (σ : AS) v σ', h σ = some (v, σ') → ∀ (B : World) (ρ : Rho) (w : World) (vs : Array Value), GlOk (memOf B) ρ G0 → Rep B ρ σ w → Concs (memOf B) ρ as vs.toList → ∀ n,
    CallsIn Fence.wide n P f vs w fun e w' => ∃ ρ' y, e = .returned y ∧ ρ.le ρ' ∧ Conc (memOf B) ρ' v y ∧ Rep B ρ' σ' w'
  acts : ∀ (σ : AS) v σ', h σ = some (v, σ') → ∀ N, N ≤ σ.next → Acts N h σ v σ'
theorem runF_ctr (hP : Fit P) (hg : Given P G0) {f : FuncId} {as : List AV} (hb : Bodied P f) : Ctr P G0 f as (runF P G0 f as) where
  body := hb
  ok := fun σ v σ' h B ρ w vs hG hrep hc k => by
    obtain ⟨n, hn⟩ := runF_some h
    exact call_sound (exec_sound hP hg n) hG hrep hc hn k fun ρ' y w' hle hcy hrep' => ⟨ρ', y, rfl, hle, hcy, hrep'⟩
  acts := fun σ v σ' h N hN => by
    obtain ⟨n, hn⟩ := runF_some h
    obtain ⟨cs, h1, h2, h3⟩ := call_acts hg.acts (exec_acts hg.acts n) hn hN
    exact ⟨cs, h1, h2, fun σ₂ hl => runF_of (h3 σ₂ hl)⟩

open Classical in
noncomputable def overGl (P : Program) (G0 : Gl) (own : FuncId → List AV → Option (AS → Option (AV × AS))) (top : FuncId) : Gl :=
  ⟨G0.rows, fun f as => if f = top then none else match own f as with
    | some h => some h
    | none => if Bodied P f then some (runF P G0 f as) else none⟩
theorem overGl_given (hP : Fit P) (hg : Given P G0) {own : FuncId → List AV → Option (AS → Option (AV × AS))} {top : FuncId} (ho : ∀ f as h, own f as = some h → Ctr P G0 f as h) : Given P (overGl P G0 own top) := by
  have key : ∀ f as h, (overGl P G0 own top).orc f as = some h → Ctr P G0 f as h := fun f as h e => by
    unfold overGl at e
    simp only at e
    split at e
    · cases e
    · split at e
      · rename_i h' hh
        cases e
        exact ho f as _ hh
      · split at e
        · rename_i hb
          cases e
          exact runF_ctr hP hg hb
        · cases e
  exact ⟨fun f as h e => ⟨(key f as h e).body, fun σ v σ' hh B ρ w vs hG => (key f as h e).ok σ v σ' hh B ρ w vs hG⟩, fun f as h e => (key f as h e).acts⟩
theorem overGl_top {own : FuncId → List AV → Option (AS → Option (AV × AS))} {top : FuncId} (as : List AV) : (overGl P G0 own top).orc top as = none := by
  unfold overGl
  simp only [if_true]
theorem FnC.over (hg : Given P G0) {own : FuncId → List AV → Option (AS → Option (AV × AS))} {top f : FuncId} {as : List AV} {H : List (Nat × AObj)} {R : AV → List (Nat × AObj) → Prop} (h : FnC P G0 f as H R) (hf : f ≠ top) (ho : own f as = none) : FnC P (overGl P G0 own top) f as H R := fun σ hs => by
  obtain ⟨n, v, σ', h1, h2⟩ := h σ hs
  have hb : Bodied P f := callWith_body hg.ok h1
  refine wpf_orc (g := runF P G0 f as) ?_ (runF_of h1) h2
  unfold overGl
  simp only [if_neg hf, ho, if_pos hb]
theorem FnC.own {own : FuncId → List AV → Option (AS → Option (AV × AS))} {top f : FuncId} {as : List AV} {H : List (Nat × AObj)} {v : AV} {g : AS → Option (AV × AS)} (hf : f ≠ top) (ho : own f as = some g) (_hn : (H.map (·.1)).Nodup) (hv : ∀ σ, He σ [] σ H [] → g σ = some (v, σ)) :
    FnC P (overGl P G0 own top) f as H (fun x Hn => x = v ∧ Hn = []) := fun σ hs => by
  refine wpf_orc (g := g) ?_ (hv σ hs) ⟨[], hs.sub trivial List.nodup_nil, (fun p hp => by cases hp), rfl, rfl⟩
  unfold overGl
  simp only [if_neg hf, ho]

theorem own_ctr (hP : Fit P) (hg : Given P G0) (hrows : ∀ g, G0.rows g = none) {f : FuncId} {as : List AV} {h : AS → Option (AV × AS)} (hb : Bodied P f)
    (hok : ∀ σ v σ', h σ = some (v, σ') → σ' = σ ∧ ∃ c, v = .s c ∧ ∀ (B : World) (ρ : Rho) (w : World) (vs : List Value), Rep B ρ σ w → Concs (memOf B) ρ as vs →
      ∃ as' n σk, Concs (memOf w) (fun _ => none) as' vs ∧ runCall P G0 n f as' = some (.s c, σk))
    (hacts : ∀ σ v σ', h σ = some (v, σ') → ∀ N σ₂, Le N σ σ₂ → h σ₂ = some (v, σ₂)) : Ctr P G0 f as h where
  body := hb
  ok := fun σ v σ' hh B ρ w vs hG hrep hc k => by
    obtain ⟨rfl, c, rfl, hx⟩ := hok σ v σ' hh
    obtain ⟨as', n, σk, h1, h2⟩ := hx B ρ w vs.toList hrep hc
    refine call_sound (exec_sound hP hg n) (fun g row hr => by rw [hrows] at hr; cases hr) (start_rep w) h1 h2 k fun ρ' y w' _ hcy hrep' => ?_
    cases hcy
    exact ⟨ρ, _, rfl, Rho.le_refl ρ, .s _, hrep.after hrep'⟩
  acts := fun σ v σ' hh N hN => by
    obtain ⟨rfl, c, rfl, _⟩ := hok σ v σ' hh
    exact Acts.none fun σ₂ hl => hacts _ _ _ hh N σ₂ hl
theorem own_ctr2 (hP : Fit P) (hg : Given P G0) (hrows : ∀ g, G0.rows g = none) {f : FuncId} {as : List AV} {h : AS → Option (AV × AS)} (hb : Bodied P f)
    (hok : ∀ σ v σ', h σ = some (v, σ') → ∀ (B : World) (ρ : Rho) (w : World) (vs : List Value), Rep B ρ σ w → Concs (memOf B) ρ as vs →
      ∃ as' n vk σk, Concs (memOf w) (fun _ => none) as' vs ∧ runCall P G0 n f as' = some (vk, σk) ∧ ∀ ρk y w', Conc (memOf w) ρk vk y → Rep w ρk σk w' → ∃ ρ', ρ.le ρ' ∧ Conc (memOf B) ρ' v y ∧ Rep B ρ' σ' w')
    (hacts : ∀ σ v σ', h σ = some (v, σ') → ∀ N, N ≤ σ.next → Acts N h σ v σ') : Ctr P G0 f as h where
  body := hb
  ok := fun σ v σ' hh B ρ w vs hG hrep hc k => by
    obtain ⟨as', n, vk, σk, h1, h2, h3⟩ := hok σ v σ' hh B ρ w vs.toList hrep hc
    refine call_sound (exec_sound hP hg n) (fun g row hr => by rw [hrows] at hr; cases hr) (start_rep w) h1 h2 k fun ρk y w' _ hcy hrep' => ?_
    obtain ⟨ρ', h4, h5, h6⟩ := h3 ρk y w' hcy hrep'
    exact ⟨ρ', y, rfl, h4, h5, h6⟩
  acts := hacts
inductive OwnS (σ : AS) (es : Nat) : AV → List (List AV) → Prop
  | nil : OwnS σ es (.s (.slice none 0 0)) []
  | sl {o : Nat} {e : TypeId} {x : Bool} {rows : List (List AV)} (h : σ.get o = some (.cells e es x rows)) : OwnS σ es (.sl o 0 rows.length none) rows
theorem OwnS.le {σ σ₂ : AS} {N es : Nat} {a : AV} {rows : List (List AV)} (h : OwnS σ es a rows) (hl : Le N σ σ₂) : OwnS σ₂ es a rows := by
  cases h with
  | nil => exact .nil
  | sl h => exact .sl (hl.get _ _ h)
theorem OwnS.uniq {σ : AS} {es : Nat} {a : AV} {r r' : List (List AV)} (h : OwnS σ es a r) (h' : OwnS σ es a r') : r = r' := by
  cases h with
  | nil => cases h'; rfl
  | sl h =>
    generalize hn : r.length = n at h'
    cases h' with | sl h' => rw [h] at h'; cases h'; rfl
theorem OwnS.laid {σ : AS} {es : Nat} {a : AV} {rows : List (List AV)} (h : OwnS σ es a rows) {B w : World} {ρ : Rho} {v : Value} (hrep : Rep B ρ σ w) (hc : Conc (memOf B) ρ a v) :
    (a = .s (.slice none 0 0) ∧ rows = [] ∧ v = .slice none 0 0) ∨ ∃ b cap, rows.length ≤ cap ∧ v = .slice (some ⟨b, 0, none⟩) rows.length cap ∧
      ∃ (c : Array Value) (e : TypeId), memOf w b = some (.cells c e) ∧ (∀ r ∈ rows, r.length = es) ∧ Concs (memOf B) ρ rows.flatten (c.toList.take (rows.length * es)) := by
  cases h with
  | nil => cases hc; exact .inl ⟨rfl, rfl, rfl⟩
  | sl h =>
    cases hc with
    | sl hl =>
      obtain ⟨h1, h2, h3, h4, c, h5, h6, h7⟩ := hrep.obj _ _ _ h hl
      exact .inr ⟨_, _, by simpa using h2, by simp, c, _, h5, h4, h7⟩
theorem Concs.plain {M M' : Mem} {ρ ρ' : Rho} : ∀ {as : List AV} {vs : List Value}, (∀ a ∈ as, ∃ v, a = .s v) → Concs M ρ as vs → Concs M' ρ' as vs
  | [], _, _, h => by cases h; exact .nil
  | a :: as, _, hp, h => by
    cases h with
    | cons h t =>
      obtain ⟨v, rfl⟩ := hp a (by simp)
      cases h
      exact .cons (.s _) (t.plain fun b hb => hp b (List.mem_cons_of_mem _ hb))
theorem Rep.memW {B w : World} {ρ : Rho} {σ : AS} (h : Rep B ρ σ w) {b : Nat} {x : Obj} (hx : memOf B b = some x) : memOf w b = some x := by
  have hlt := (Array.getElem?_eq_some_iff.1 hx).1
  show w.heap[b]? = some x
  rw [h.keep b hlt]; exact hx
theorem SlV.later {es : Nat} {a : AV} {rows : List (List AV)} (h : SlV es a rows) {B w : World} {ρ ρ' : Rho} {σ : AS} {v : Value} (hrep : Rep B ρ σ w) (hc : Conc (memOf B) ρ a v)
    {Q : List (List AV) → Prop} (f : ∀ vs, Concs (memOf B) ρ rows.flatten vs → ∃ rows', rows'.length = rows.length ∧ (∀ r ∈ rows', r.length = es) ∧ Q rows' ∧ Concs (memOf w) ρ' rows'.flatten vs) : ∃ a' rows', Q rows' ∧ SlV es a' rows' ∧ Conc (memOf w) ρ' a' v := by
  cases h with
  | nil =>
    cases hc
    obtain ⟨rows', h1, h2, h3, h4⟩ := f [] .nil
    obtain rfl := List.eq_nil_of_length_eq_zero h1
    exact ⟨_, [], h3, .nil, .s _⟩
  | rsl hp =>
    cases hc with
    | rsl hm hcap =>
      cases hm with
      | mk hm hl hcs =>
        obtain ⟨rows', h1, h2, h3, h4⟩ := f _ hcs
        rw [← h1] at hcap hcs h4 hp ⊢
        exact ⟨.rsl ⟨_, _, none⟩ es _ rows', rows', h3, .rsl hp, .rsl (.mk (hrep.memW hm) h2 h4) hcap⟩
theorem Rep.adopt {B w w' : World} {ρ ρk : Rho} {σ σk : AS} (h : Rep B ρ σ w') (hk : Rep w ρk σk w') (hBw : B.heap.size ≤ w.heap.size) {id : Nat} {l : Loc} {e : TypeId} {es : Nat} {x : Bool} {rows : List (List AV)} (hg : σk.get id = some (.cells e es x rows)) (hl : ρk id = some l) (hw : ∀ j l', ρ j = some l' → l'.blk ≠ l.blk) (hp : ∀ a ∈ rows.flatten, ∃ v, a = .s v) :
    Rep B (ρ.ext σ.newId l) (σ.push (.cells e es x rows)) w' := by
  obtain ⟨h1, h2⟩ := hk.new id l hl
  refine h.name ⟨by omega, h2⟩ (fun j p l' _ _ hr => hw j l' hr) ?_
  obtain ⟨a1, a2, a3, a4, c, a5, a6, a7⟩ := hk.obj id _ l hg hl
  exact ⟨a1, a2, a3, a4, c, a5, a6, a7.plain hp⟩
#print axioms overGl_given
end Go.Ab
/- Contracts off the library's shelf: calls of the library that leave what was there as it was. -/
namespace Go.Ab
open Go.RowKit
variable {P : Program} {G : Gl}
theorem Rep.below {B w w' : World} {ρ : Rho} {σ : AS} (h : Rep B ρ σ w) (hb : Below w.heap.size w w') : Rep B ρ σ w' where
  dom := h.dom
  free := h.free
  low := h.low
  obj := fun id o l hg hr => (h.obj id o l hg hr).congr fun _ => hb.block _ (h.new id l hr).2
  new := fun id l hr => ⟨(h.new id l hr).1, Nat.lt_of_lt_of_le (h.new id l hr).2 hb.size⟩
  inj := h.inj
  keep := fun b hb' => (hb.block b (Nat.lt_of_lt_of_le hb' h.size)).trans (h.keep b hb')
  size := Nat.le_trans h.size hb.size
  tape := hb.tape.trans h.tape
  os := hb.os.trans h.os
  out := hb.output.trans h.out
  has := h.has
  thaw := fun _ _ _ _ => trivial
theorem Rep.pushDead {B w w' : World} {ρ : Rho} {σ : AS} (h : Rep B ρ σ w) (hb : Below w.heap.size w w') {N : Nat} (hN : w.heap.size ≤ N) (hlt : N < w'.heap.size) : Rep B (ρ.ext σ.newId ⟨N, 0, 1⟩) (σ.push .dead) w' :=
  (h.below hb).name (o := .dead) (l := ⟨N, 0, 1⟩) ⟨Nat.le_trans h.size hN, hlt⟩ (fun id p l' _ _ hr => by have h1 := (h.new id l' hr).2; show l'.blk ≠ N; omega) trivial
theorem Ctr.look {f : FuncId} {as : List AV} {h : AS → Option (AV × AS)} (hb : Bodied P f)
    (hh : ∀ σ v σ', h σ = some (v, σ') → σ' = σ ∧ ∃ r, v = .s r ∧ ∀ (B : World) (ρ : Rho) (w : World) (vs : Array Value), GlOk (memOf B) ρ G → Rep B ρ σ w → Concs (memOf B) ρ as vs.toList → Calls P f vs w fun e w' => e = .returned r ∧ Below w.heap.size w w')
    (hle : ∀ σ v σ', h σ = some (v, σ') → ∀ N σ₂, Le N σ σ₂ → h σ₂ = some (v, σ₂)) : Ctr P G f as h where
  body := hb
  ok := fun σ v σ' ho B ρ w vs hG hrep hc n => by
    obtain ⟨rfl, r, rfl, hx⟩ := hh σ v σ' ho
    exact callsIn_wide.2 ((hx B ρ w vs hG hrep hc).mono fun e w' ⟨he, hw⟩ => ⟨ρ, r, he, Rho.le_refl ρ, .s _, hrep.below hw⟩)
  acts := fun σ v σ' ho N hN => by
    obtain ⟨rfl, r, rfl, _⟩ := hh σ v σ' ho
    exact Acts.none fun σ₂ hl => hle _ _ _ ho N σ₂ hl
theorem Ctr.plain {f : FuncId} {as : List AV} {r : Value} (hb : Bodied P f)
    (hh : ∀ (B : World) (ρ : Rho) (w : World) (vs : Array Value), GlOk (memOf B) ρ G → (∀ b, b < B.heap.size → w.heap[b]? = B.heap[b]?) → Concs (memOf B) ρ as vs.toList → Calls P f vs w fun e w' => e = .returned r ∧ Below w.heap.size w w') : Ctr P G f as (fun σ => some (.s r, σ)) :=
  Ctr.look hb (fun σ v σ' h => by cases h; exact ⟨rfl, r, rfl, fun B ρ w vs hG hrep hc => hh B ρ w vs hG hrep.keep hc⟩) fun σ v σ' h N σ₂ _ => by cases h; rfl
theorem GlOk.cell {B w : World} {ρ : Rho} (hG : GlOk (memOf B) ρ G) (hk : ∀ b, b < B.heap.size → w.heap[b]? = B.heap[b]?) {g : Nat} {v : Value} (h : G.rows g = some [.s v]) : w.cell? ⟨g, 0, none⟩ = some v := by
  have h1 := (hG g _ h).1
  cases h1 with
  | mk hm hl hc =>
    rename_i c e fz
    have hlt : g < B.heap.size := (Array.getElem?_eq_some_iff.1 hm).1
    have h2 : w.heap[g]? = some (.cells c e fz) := (hk g hlt).trans hm
    simp only [List.flatten_cons, List.flatten_nil, List.append_nil, List.drop_zero, List.length_singleton, Nat.one_mul] at hc
    obtain ⟨u, hu, hcu⟩ := hc.get (i := 0) (a := .s v) rfl
    cases hcu
    rw [List.getElem?_take_of_lt (by omega)] at hu
    simp only [World.cell?, h2]
    rw [if_neg (by simp)]
    rw [← Array.getElem?_toList]; exact hu
theorem GlOk.cells {B w : World} {ρ : Rho} (hG : GlOk (memOf B) ρ G) (hk : ∀ b, b < B.heap.size → w.heap[b]? = B.heap[b]?) {g : Nat} {vs : List Value} (h : G.rows g = some (vs.map .s)) : ∃ c e fz, w.heap[g]? = some (.cells c e fz) ∧ c.toList = vs := by
  obtain ⟨h1, c, e, fz, h2, h3⟩ := hG g _ h
  have hlt : g < B.heap.size := (Array.getElem?_eq_some_iff.1 h2).1
  refine ⟨c, e, fz, (hk g hlt).trans h2, ?_⟩
  cases h1 with
  | mk hm hl hc =>
    rw [h2] at hm
    cases hm
    simp only [List.flatten_cons, List.flatten_nil, List.append_nil, List.drop_zero, List.length_singleton, Nat.one_mul] at hc
    rw [List.take_of_length_le (by rw [Array.length_toList, h3]; exact Nat.le_refl _)] at hc
    exact hc.s_eq
noncomputable def byF : List (FuncId × (List AV → Option (AS → Option (AV × AS)))) → FuncId → List AV → Option (AS → Option (AV × AS))
  | [], _, _ => none
  | (g, c) :: r, f, as => bif Nat.beq g f then c as else byF r f as
theorem byF_ok {Q : FuncId → List AV → (AS → Option (AV × AS)) → Prop} : ∀ {l : List (FuncId × (List AV → Option (AS → Option (AV × AS))))}, (∀ p ∈ l, ∀ as h, p.2 as = some h → Q p.1 as h) → ∀ {f as h}, byF l f as = some h → Q f as h
  | [], _, _, _, _, h => by cases h
  | (g, c) :: r, hl, f, as, hh, h => by
    unfold byF at h
    cases hb : Nat.beq g f with
    | true =>
      rw [hb] at h
      have := Nat.eq_of_beq_eq_true hb
      subst this
      exact hl _ List.mem_cons_self as hh h
    | false =>
      rw [hb] at h
      exact byF_ok (fun p hp => hl p (List.mem_cons_of_mem _ hp)) h
theorem given_of {rows : Nat → Option (List AV)} {l : List (FuncId × (List AV → Option (AS → Option (AV × AS))))} (h : ∀ p ∈ l, ∀ as c, p.2 as = some c → Ctr P ⟨rows, byF l⟩ p.1 as c) : Given P ⟨rows, byF l⟩ where
  ok := fun f as c ho => by
    have := byF_ok (Q := fun f as c => Ctr P ⟨rows, byF l⟩ f as c) h ho
    exact ⟨this.body, fun σ v σ' hh B ρ w vs hG hrep hc n => this.ok σ v σ' hh B ρ w vs hG hrep hc n⟩
  acts := fun f as c ho σ v σ' hh N hN => (byF_ok (Q := fun f as c => Ctr P ⟨rows, byF l⟩ f as c) h ho).acts σ v σ' hh N hN
theorem Fn_orc2 {f : FuncId} {as : List AV} {c : AS → Option (AV × AS)} {v : AV} {H : List (Nat × AObj)} {R : AV → List (Nat × AObj) → Prop} (ho : G.orc f as = some c) (hc : ∀ σ, He σ [] σ H [] → c σ = some (v, σ)) (hR : R v []) : FnC P G f as H R := fun σ hs =>
  wpf_orc ho (hc σ hs) ⟨[], hs.sub trivial List.nodup_nil, (fun p hp => by cases hp), hR⟩
end Go.Ab
/- Symbolic steps on strings, and on bytes that are turned to strings. -/
namespace Go.Ab
variable {P : Program} {G : Gl}
theorem toList_inj {a b : ByteArray} (h : a.toList = b.toList) : a = b := WideShapes.bytes_inj (by rwa [ByteArray.toList_eq, ByteArray.toList_eq] at h)
theorem strAdd {t : TypeId} {x y : Operand} {a b : ByteArray} (h : a.size + b.size ≤ 9223372036854775807) : evalP P (do eqGuard .add t x y (.string a) (.string b); binOp .add t (.string a) (.string b)) = some (.string (a ++ b)) := by
  have h1 : ¬ ((a.size + b.size : Nat) : Int) > IntKind.i64.max := by
    have : IntKind.i64.max = 9223372036854775807 := rfl
    omega
  show evalP P (if ((a.size + b.size : Nat) : Int) > IntKind.i64.max then _ else _) = _
  rw [if_neg h1]; rfl
theorem strEql {t : TypeId} {x y : Operand} {a b : ByteArray} : evalP P (do eqGuard .eql t x y (.string a) (.string b); binOp .eql t (.string a) (.string b)) = some (.bool (a.toList == b.toList)) := rfl
theorem strNeq {t : TypeId} {x y : Operand} {a b : ByteArray} : evalP P (do eqGuard .neq t x y (.string a) (.string b); binOp .neq t (.string a) (.string b)) = some (.bool !(a.toList == b.toList)) := rfl
section rules
variable {B : AS} {W : List Nat} {ops : Array Oper} {os : List Oper} {L : List (Nat × AV)} {N : Nat} {ds : List Nat} {H : List (Nat × AObj)} {Q : Cfg → Prop} {ty : TypeId} {pos : String} {af : Array Edge} {d : Nat}
theorem SL_cat {t yt : TypeId} {x y : Operand} {a b : ByteArray} (hd : d < N) (hx : evL G L x = some (.s (.string a))) (hy : evL G L y = some (.s (.string b))) (h : a.size + b.size ≤ 9223372036854775807) (k : SL P G B W ops os ((d, .s (.string (a ++ b))) :: L) N ds H Q) :
    SL P G B W ops (⟨some d, .binOp .add t x y yt, ty, pos, af, none⟩ :: os) L N ds H Q := SL_bin hd hx hy rfl (strAdd h) k
theorem SL_seql {t yt : TypeId} {x y : Operand} {a b : ByteArray} (hd : d < N) (hx : evL G L x = some (.s (.string a))) (hy : evL G L y = some (.s (.string b))) (ht : a = b → SL P G B W ops os ((d, .s (.bool true)) :: L) N ds H Q) (hf : a ≠ b → SL P G B W ops os ((d, .s (.bool false)) :: L) N ds H Q) :
    SL P G B W ops (⟨some d, .binOp .eql t x y yt, ty, pos, af, none⟩ :: os) L N ds H Q := by
  by_cases h : a = b
  · refine SL_bin hd hx hy rfl strEql ?_
    rw [show (a.toList == b.toList) = true by rw [h]; exact beq_self_eq_true _]
    exact ht h
  · refine SL_bin hd hx hy rfl strEql ?_
    rw [show (a.toList == b.toList) = false from beq_false_of_ne fun e => h (toList_inj e)]
    exact hf h
theorem SL_sneq {t yt : TypeId} {x y : Operand} {a b : ByteArray} (hd : d < N) (hx : evL G L x = some (.s (.string a))) (hy : evL G L y = some (.s (.string b))) (ht : a ≠ b → SL P G B W ops os ((d, .s (.bool true)) :: L) N ds H Q) (hf : a = b → SL P G B W ops os ((d, .s (.bool false)) :: L) N ds H Q) :
    SL P G B W ops (⟨some d, .binOp .neq t x y yt, ty, pos, af, none⟩ :: os) L N ds H Q := by
  by_cases h : a = b
  · refine SL_bin hd hx hy rfl strNeq ?_
    rw [show (a.toList == b.toList) = true by rw [h]; exact beq_self_eq_true _]
    exact hf h
  · refine SL_bin hd hx hy rfl strNeq ?_
    rw [show (a.toList == b.toList) = false from beq_false_of_ne fun e => h (toList_inj e)]
    exact ht h
theorem SL_bytes {s t e : TypeId} {x : Operand} {id i n : Nat} {cap : Option Nat} {ex : Bool} {rows : List (List AV)} {el : TypeId} {bs : List UInt8} (hd : d < N) (hx : evL G L x = some (.sl id i n cap)) (hm : (id, AObj.cells el 1 ex rows) ∈ H)
    (hs : P.underlying s = some (.slice e)) (ht : P.underlying t = some .string) (he : P.underlying e = some (.int .u8)) (hn : i + n ≤ rows.length) (hb : bytesOf ((rows.drop i).take n) = some bs) (k : SL P G B W ops os ((d, .s (.string ⟨bs.toArray⟩)) :: L) N ds H Q) :
    SL P G B W ops (⟨some d, .convert s t x, ty, pos, af, none⟩ :: os) L N ds H Q :=
  SL_val _ hd (fun tm σ h1 h2 => by
    unfold eff
    simp only [effConv, h1.ev hx, isRef, if_true, effBytes, hs, ht, he, h2.get _ hm]
    rw [if_pos ⟨trivial, hn⟩, hb]; rfl) k
end rules
section
variable {B : AS} {W : List Nat} {base : Nat} {ops : Array Oper} {rest : List (Nat × List Nat)} {L : List (Nat × AV)} {N : Nat} {H : List (Nat × AObj)} {RC : List (Nat × Nat)} {Q : Cfg → Prop}
theorem SD_mkstr {i j d d2 : Nat} {t t2 e : TypeId} {x : Operand} {c : Int} {b : Nat} {z : List AV} {ty ty2 : TypeId} {pos pos2 : String} {af af2 : Array Edge} (hi : ops[i]? = some ⟨some d, .buildSlice t 1 #[(0, x)], ty, pos, af, none⟩) (hj : ops[j]? = some ⟨some d2, .convert t t2 (.tmp d), ty2, pos2, af2, none⟩)
    (hbind : (bindsOf ⟨some d2, .convert t t2 (.tmp d), ty2, pos2, af2, none⟩).any (fun k => k == i) = true) (his : i < ops.size) (hd : d < N) (hd2 : d2 < N) (hx : evL G L x = some (.s (.int .u8 c))) (hel : elOf P t = some (e, 1, b, z)) (he : P.underlying e = some (.int .u8)) (ht2 : P.underlying t2 = some .string)
    (hRC : ∀ p ∈ RC, p.1 ≠ i) (hRC2 : ∀ p ∈ RC, p.1 ≠ j) (hnW : base + i ∉ W) (hnH : base + i ∉ H.map (·.1)) (hlt : base + i < B.next) (hfree : B.objs.get (base + i) = none)
    (h : SD P G B ((base + i) :: W) base ops rest ((d2, .s (.string ⟨#[UInt8.ofNat c.toNat]⟩)) :: (d, .sl (base + i) 0 1 none) :: L) N ((base + i, .cells e 1 true [[.s (.int .u8 c)]]) :: H) RC Q) : SD P G B W base ops ((i, []) :: (j, []) :: rest) L N H RC Q := by
  obtain ⟨hu, hs, info, zv, hif, hz, hsz, hn, hbb, hzz⟩ := elOf_spec hel
  refine SD_newS (.cells e 1 true [[.s (.int .u8 c)]]) (fun id => .sl id 0 1 none) hi rfl hd hRC hnW hnH hlt hfree (fun tm σ h1 => ?_) fun tm σ rc h1 h2 h3 h4 => ?_
  · unfold eff
    have hp : partsL G L (#[(0, x)] : Array (Nat × Operand)).toList = some [(0, .s (.int .u8 c))] := by simp only [partsL, hx]
    simp only [effBuildSlice, h1.parts hp, hu, hif, hz]
    rw [if_pos ⟨hsz, by rw [hn]; decide⟩, hn]
    simp [setRows, cellsOf]
    rw [if_pos (show (Value.int IntKind.u8 c).cells.size = 1 from rfl)]; rfl
  · have hev : evT G tm (.tmp d) = .sl (base + i) 0 1 none := h1.ev (v := .sl (base + i) 0 1 none) (by simp [evL, lk])
    have hget : σ.get (base + i) = some (.cells e 1 true [[.s (.int .u8 c)]]) := h2.get _ List.mem_cons_self
    have heff : eff P ⟨some d2, .convert t t2 (.tmp d), ty2, pos2, af2, none⟩ (evT G tm) σ = some (.val (.s (.string ⟨#[UInt8.ofNat c.toNat]⟩)), σ) := by
      unfold eff
      simp only [effConv, hev, isRef, if_true, effBytes, hu, ht2, he, hget]
      rw [if_pos ⟨trivial, by simp⟩]
      simp [bytesOf, withSt]
    have hslot := h2.slot
    have hw : Region.wanted ⟨some d2, .convert t t2 (.tmp d), ty2, pos2, af2, none⟩ (ayielded ops tm) = true := rfl
    have hres : resO P G (exec P G 0) ops ⟨some d2, .convert t t2 (.tmp d), ty2, pos2, af2, none⟩ tm σ = some (.s (.string ⟨#[UInt8.ofNat c.toNat]⟩), σ) := by
      unfold resO
      rw [hw, if_pos rfl, heff]; rfl
    have hx2 : resX P G (exec P G 0) base ops j ⟨some d2, .convert t t2 (.tmp d), ty2, pos2, af2, none⟩ tm σ = some (.s (.string ⟨#[UInt8.ofNat c.toNat]⟩), σ) := by
      obtain ⟨a, b, c⟩ := σ
      simp only at hslot; subst hslot
      rw [resX_plain (by show (1 : Nat) ≠ 3; decide), hres]
    have hread : readOf ⟨some d2, .convert t t2 (.tmp d), ty2, pos2, af2, none⟩ (evT G tm) σ = some (.all (base + i) 0) := by
      simp only [readOf, hev, seenAll, idOf, h4]
    have hlate : lateOk base ops.size ⟨some d2, .convert t t2 (.tmp d), ty2, pos2, af2, none⟩ (some (.all (base + i) 0)) = true := by
      have : (bindsOf ⟨some d2, .convert t t2 (.tmp d), ty2, pos2, af2, none⟩).any (fun k => base + i == base + k) = true := by
        rw [List.any_eq_true] at hbind ⊢
        obtain ⟨k, hk, hki⟩ := hbind
        have : k = i := by simpa using hki
        exact ⟨k, hk, by rw [this]; exact beq_self_eq_true _⟩
      simp only [lateOk, isConv, if_true, this, Bool.and_true]
      simp [his]
    obtain ⟨m, s'', h7, h8⟩ := h _ _ (rc.upd j (some (.all (base + i) 0))) (h1.set hd2 (.s (.string ⟨#[UInt8.ofNat c.toNat]⟩))) h2 (h3.upd hRC2 _)
    refine ⟨m, s'', ?_, h8⟩
    simp only [runD, stepD, hj]
    rw [resX_le (exec_le (Nat.zero_le m)) hx2]
    have hst : ∀ (σ' : AS), stands rc σ' [] = true := fun _ => rfl
    simp only [hw, if_true, hread, hst, hlate, Bool.and_self]
    exact h7
end
end Go.Ab
/- Tables that package-level variables hold, whatever their make: arrays, structs, numbers, strings; and one cell that holds an error. -/
namespace Go.Ab
open Go.WideShapes Go.ChangeShapes Go.ChangeAt
variable {P : Program}
def datAll (g : TypeId → DataW Unit → Option (List Value)) (P : Program) : List (TypeId × Nat) → Nat → List (DataW Unit) → Option (List Value)
  | [], _, [] => some []
  | (t, o) :: r, p, d :: ds =>
    if o = p then match g t d with
      | some vs => if vs.length = P.cellsOf t then (datAll g P r (p + P.cellsOf t) ds).map (vs ++ ·) else none
      | none => none
    else none
  | _, _, _ => none
def datCells (P : Program) : Nat → TypeId → DataW Unit → Option (List Value)
  | 0, _, _ => none
  | n + 1, t, d => match P.underlying t, d with
    | some (.int k), .lit (.int k' x) => if k' = k then some [.int k x] else none
    | some .string, .lit (.string s) => some [.string ⟨s.toArray⟩]
    | some (.struct fs), .agg ds => match datAll (datCells P n) P (fs.toList.map fun f => (f.type, f.offset)) 0 ds with
      | some vs => if vs.length = P.cellsOf t then some vs else none
      | none => none
    | some (.array m e), .agg ds => match datAll (datCells P n) P ((List.range m).map fun i => (e, i * P.cellsOf e)) 0 ds with
      | some vs => if vs.length = P.cellsOf t then some vs else none
      | none => none
    | _, _ => none
section
variable {enc : TypeId × Value → Unit} {w : World} {spare : Nat → Bool} {held : Bool}
theorem datAll_ok {g : TypeId → DataW Unit → Option (List Value)} {m : Nat} (hg : ∀ t d vs, g t d = some vs → ∀ sub ps, DataW.trod enc P w 0 spare held m t sub = some (d, ps) → sub = vs) (cs : List Value) :
    ∀ (qs : List (TypeId × Nat)) (p : Nat) (xs : List (DataW Unit × List MemPlace)) (vs : List Value), datAll g P qs p (xs.map (·.1)) = some vs → (∀ (i : Nat) (q : TypeId × Nat), qs[i]? = some q → DataW.trod enc P w 0 spare held m q.1 ((cs.drop q.2).take (P.cellsOf q.1)) = xs[i]?) → cs.drop p = vs ++ cs.drop (p + vs.length)
  | [], p, [], vs, h, _ => by
    simp only [datAll, List.map_nil, Option.some.injEq] at h
    subst h; simp
  | [], p, x :: xs, vs, h, _ => by simp [datAll] at h
  | (t, o) :: r, p, [], vs, h, _ => by simp [datAll] at h
  | (t, o) :: r, p, x :: xs, vs, h, hx => by
    simp only [datAll, List.map_cons] at h
    split at h
    · rename_i ho
      subst ho
      split at h
      · rename_i us hus
        split at h
        · rename_i hl
          simp only [Option.map_eq_some_iff] at h
          obtain ⟨ws, hws, rfl⟩ := h
          have h0 := hx 0 (t, o) rfl
          simp only [List.getElem?_cons_zero] at h0
          have e := hg t x.1 us hus _ x.2 h0
          have ih := datAll_ok hg cs r (o + P.cellsOf t) xs ws hws fun i q hq => hx (i + 1) q hq
          have hs : cs.drop o = us ++ cs.drop (o + P.cellsOf t) := by
            have := List.take_append_drop (P.cellsOf t) (cs.drop o)
            rw [List.drop_drop] at this
            rw [← this, e]
          rw [hs, ih, List.append_assoc, List.length_append, ← hl, Nat.add_assoc]
        · cases h
      · cases h
    · cases h
theorem datCells_ok : ∀ (n : Nat) (t : TypeId) (d : DataW Unit) (vs : List Value), datCells P n t d = some vs → ∀ (fuel : Nat) (cs : List Value) (ps : List MemPlace), DataW.trod enc P w 0 spare held fuel t cs = some (d, ps) → cs = vs
  | 0, _, _, _, h, _, _, _, _ => by cases h
  | n + 1, t, d, vs, h, fuel, cs, ps, hd => by
    unfold datCells at h
    split at h
    · rename_i k k' x ht
      split at h
      · rename_i hk
        cases h
        obtain ⟨y, rfl, hy, _⟩ := DataW.trod_int ht hd
        simp only [Prod.mk.injEq, DataW.lit.injEq, Lit.int.injEq] at hy
        obtain ⟨⟨_, rfl⟩, _⟩ := hy
        rfl
      · cases h
    · rename_i s ht
      cases h
      obtain ⟨y, rfl, hy, _⟩ := DataW.trod_string ht hd
      simp only [Prod.mk.injEq, DataW.lit.injEq, Lit.string.injEq] at hy
      obtain ⟨rfl, _⟩ := hy
      rfl
    · rename_i fs ds ht
      split at h
      · rename_i us hus
        split at h
        · rename_i hl
          cases h
          obtain ⟨xs, m, _, hx, hlen, hxl, hel⟩ := DataW.trod_struct ht hd
          simp only [Prod.mk.injEq, DataW.agg.injEq] at hx
          obtain ⟨rfl, _⟩ := hx
          have := datAll_ok (m := m) (fun t d vs h sub ps => datCells_ok n t d vs h m sub ps) cs _ 0 xs vs hus fun i q hq => by
            rw [List.getElem?_map, Option.map_eq_some_iff] at hq
            obtain ⟨f, hf, rfl⟩ := hq
            exact hel i f (by simpa using hf)
          rw [List.drop_zero, Nat.zero_add, List.drop_eq_nil_of_le (by omega), List.append_nil] at this
          exact this
        · cases h
      · cases h
    · rename_i m' e ds ht
      split at h
      · rename_i us hus
        split at h
        · rename_i hl
          cases h
          obtain ⟨xs, m, _, hx, hlen, hxl, hel⟩ := DataW.trod_array ht hd
          simp only [Prod.mk.injEq, DataW.agg.injEq] at hx
          obtain ⟨rfl, _⟩ := hx
          have := datAll_ok (m := m) (fun t d vs h sub ps => datCells_ok n t d vs h m sub ps) cs _ 0 xs vs hus fun i q hq => by
            rw [List.getElem?_map, Option.map_eq_some_iff] at hq
            obtain ⟨j, hj, rfl⟩ := hq
            obtain ⟨hlt, rfl⟩ := List.getElem?_eq_some_iff.1 hj
            simp only [List.length_range] at hlt
            rw [List.getElem_range]
            exact hel i hlt
          rw [List.drop_zero, Nat.zero_add, List.drop_eq_nil_of_le (by omega), List.append_nil] at this
          exact this
        · cases h
      · cases h
    · cases h
def Held (w : World) (g : Nat) (row : List AV) : Prop := ∃ vs : List Value, row = vs.map .s ∧ ∃ cs e fz, w.heap[g]? = some (.cells cs e fz) ∧ cs.toList = vs
theorem Held.mem {w : World} {g : Nat} {row : List AV} (h : Held w g row) {ρ : Rho} : ConcMem (memOf w) ρ g 0 row.length [row] ∧ ∃ c e fz, memOf w g = some (.cells c e fz) ∧ c.size = row.length := by
  obtain ⟨vs, rfl, cs, e, fz, h1, h2⟩ := h
  have hl : cs.size = vs.length := by rw [← h2, Array.length_toList]
  refine ⟨.mk h1 (by simp) ?_, cs, e, fz, h1, by simpa using hl⟩
  have : (cs.toList.drop 0).take ([vs.map AV.s].length * (vs.map AV.s).length) = vs := by
    rw [List.drop_zero, h2, List.take_of_length_le (by simp)]
  rw [this]
  simpa using Concs.ofS vs
theorem var_heap {nm : String} {g : Nat} {cs : Array Value} (hg : P.globalNamed nm = some g) (hv : w.var? P nm = some cs) : ∃ e fz, w.heap[g]? = some (.cells cs e fz) := by
  unfold World.var? at hv
  rw [hg] at hv
  simp only [Option.bind_some] at hv
  split at hv
  · cases Option.some.inj hv
    exact ⟨_, _, by assumption⟩
  · cases hv
theorem Held.of_dat {nm : String} {g : Nat} {t : TypeId} {cs : Array Value} {fuel n : Nat} {d : DataW Unit} {vs : List Value} {ps : List MemPlace} {row : List AV} (hg : P.globalNamed nm = some g) (hv : w.var? P nm = some cs) (hd : DataW.trod enc P w 0 spare held fuel t cs.toList = some (d, ps)) (hc : datCells P n t d = some vs) (hrow : row = vs.map .s) : Held w g row := by
  obtain ⟨e, fz, hh⟩ := var_heap hg hv
  exact ⟨vs, hrow, cs, e, fz, hh, datCells_ok n t d vs hc fuel _ ps hd⟩
theorem Held.of_err {nm nt : String} {g : Nat} {t : TypeId} {cs : Array Value} {fuel : Nat} {d : DataW Unit} {ps : List MemPlace} {ms : Array (String × TypeId)} (hg : P.globalNamed nm = some g) (hv : w.var? P nm = some cs) (ht : P.underlying t = some (.interface ms)) (hd : DataW.trod enc P w 0 spare held fuel t cs.toList = some (.iface nt d, ps)) : ∃ v, Held w g [.s v] ∧ (v = .nilIface ∨ ∃ te pe, v = .iface te pe) := by
  obtain ⟨e, fz, hh⟩ := var_heap hg hv
  have : ∃ u v, cs.toList = [.iface u v] := by
    cases fuel with
    | zero => cases hd
    | succ m =>
      unfold DataW.trod at hd
      rw [ht] at hd
      split at hd <;> first | (cases hd; done) | exact ⟨_, _, by assumption⟩ | skip
      all_goals simp_all
  obtain ⟨u, v, hc⟩ := this
  exact ⟨.iface u v, ⟨[.iface u v], rfl, cs, e, fz, hh, hc⟩, .inr ⟨u, v, rfl⟩⟩
end
theorem returns_shaped {H : Type} {enc : TypeId × Value → H} {a : Assume} {C : Checked} {os : Os} {f : FuncId} {fn : Func} {s : ChangeSpec} {conds : List PathCond} {apart fresh handsOn again : Bool} {X : World → Array Value → Prop}
    (hX : ∀ (w w' : World) (args : Array Value), w.heap = w'.heap → X w args → X w' args)
    (own : ownKnob C.prog.godebug = none) (started : os.Started) (noInit : C.prog.inits.idxOf? f = none) (hfn : C.prog.funcs[f]? = some fn)
    (witness : ∃ (w : World) (tape : Tape) (i : Input), w.os = os ∧ (w.forCall tape i).Shaped C.prog ∧ i.vars = [] ∧ Input.okWide C.prog (w.forCall tape i) .any w.heap.size f i ∧
      ((s.pre enc C.prog fn conds apart (w.forCall tape i).memory i.args ∧ X (w.forCall tape i).memory i.args) ∧ sizedMet enc C.prog fn (OpenSpec.ofChange s) apart (w.forCall tape i).memory i.args) ∧ a.holds C.prog (lone (Frame.enter C.prog f i.args .normal) [] (w.forCall tape i)))
    (contract : ∀ (W : World) (base : Nat) (args : Array Value) (ds gs : List (DataW H)) (before : List MemPlace),
      (∀ (j : Nat) t v, fn.params[j]? = some t → args[j]? = some v → Value.okWide C.prog W .any base t v) →
      DataW.Whole enc C.prog fn.params.toList s.vars apart W args.toList ds gs before →
      W.ShapedOpen C.prog → X W args →
      Calls C.prog f args W fun e W' => ∃ v, e = .returned v ∧ s.post enc C.prog fn apart fresh handsOn again W args v W') :
    ReturnsInHanded a C os f .any (fun w args => (s.pre enc C.prog fn conds apart w args ∧ X w args) ∧ sizedMet enc C.prog fn (OpenSpec.ofChange s) apart w args) (s.post enc C.prog fn apart fresh handsOn again) := by
  refine returnsInHanded_of_calls own started noInit witness ?_
  intro w tape i _ hsh _ hok hpre hholds
  obtain ⟨_, _, _, fn', hfn', _, _, _, _, hval⟩ := hok
  have e : fn' = fn := Option.some.inj (hfn'.symm.trans hfn)
  subst e
  obtain ⟨⟨⟨ds, gs, before, hw, hc⟩, hx⟩, hz⟩ := hpre
  have hw' := DataW.Whole.of_heap (w' := w.forCall tape i) (by rfl) hw
  refine (contract (w.forCall tape i) w.heap.size i.args ds gs before hval hw' hsh (hX _ _ _ (by rfl) hx)).mono fun e W' ⟨v, he, hp⟩ => ?_
  subst he
  exact ChangeSpec.post_blind hp
end Go.Ab
/- Symbolic steps: a part of a slice that is only read. -/
namespace Go.Ab
variable {P : Program} {G : Gl}
inductive SlK (es : Nat) : AV → List (List AV) → Prop
  | nil {a : Option Addr} {cap : Nat} : SlK es (.s (.slice a 0 cap)) []
  | rsl {a : Addr} {cap : Nat} {rows : List (List AV)} (h : 0 < rows.length) (hc : rows.length ≤ cap) : SlK es (.rsl a es cap rows) rows
theorem SlK.v {es : Nat} {a : AV} {rows : List (List AV)} (h : SlK es a rows) : SlV es a rows := by
  cases h with
  | nil => exact .nil
  | rsl h hc => exact .rsl h
theorem Fn_orcN {f : FuncId} {al : List AV} {o : AObj} {v : Nat → AV} {H : List (Nat × AObj)} {R : AV → List (Nat × AObj) → Prop} (ho : G.orc f al = some (fun σ => some (v σ.newId, σ.push o))) (hR : ∀ id, R (v id) [(id, o)]) : FnC P G f al H R := fun σ hs =>
  wpf_orc ho rfl ⟨[(σ.newId, o)], (hs.push o).sub ⟨.head _, trivial⟩ (by simp), fun p hp => by
    cases List.mem_singleton.1 hp
    rw [AS.newId_none hs.slot]
    exact Nat.le_refl _, hR _⟩
section
variable {B : AS} {W : List Nat} {ops : Array Oper} {os : List Oper} {L : List (Nat × AV)} {N : Nat} {ds : List Nat} {H : List (Nat × AObj)} {Q : Cfg → Prop} {ty : TypeId} {pos : String} {af : Array Edge} {d : Nat}
theorem SL_slice_rr {t e : TypeId} {x y z : Operand} {a : AV} {es l h : Nat} {rows : List (List AV)} {kk kk' : IntKind} {n m : Int} (hd : d < N) (hx : evL G L x = some a) (hv : SlK es a rows) (hz : evL G L z = some (.s (.int kk' m))) (hy : evL G L y = some (.s (.int kk n))) (ht : sliceOf P t = some (e, es)) (hm : m = l) (hn : n = h) (hlh : l < h) (hi : h ≤ rows.length)
    (k : ∀ v, SlK es v ((rows.take h).drop l) → SL P G B W ops os ((d, v) :: L) N ds H Q) : SL P G B W ops (⟨some d, .slice t x (some z) (some y) none, ty, pos, af, none⟩ :: os) L N ds H Q := by
  cases hv with
  | nil => exact absurd hi (by simp; omega)
  | @rsl a cap _ h0 hc =>
    have hlen : 0 < ((rows.take h).drop l).length := by rw [List.length_drop, List.length_take]; omega
    refine SL_val (if l = 0 then .rsl a es cap (rows.take h) else .rsl (a.add (l * es)) es (cap - l) ((rows.take h).drop l)) hd (fun tm σ h1 h2 => ?_) (k _ ?_)
    · obtain ⟨hu, hs⟩ := sliceOf_spec ht
      subst hn hm
      have hb1 : bound (none : Option AV) cap cap = some cap := rfl
      have hb2 : bound (some (AV.s (.int kk (h : Int)))) rows.length cap = some h := by
        unfold bound
        simp only
        rw [if_pos ⟨by omega, by omega⟩]; rfl
      have hb3 : bound (some (AV.s (.int kk' (l : Int)))) 0 h = some l := by
        unfold bound
        simp only
        rw [if_pos ⟨by omega, by omega⟩]; rfl
      have hcl : ¬ cap = l := by omega
      unfold eff
      simp only [effSliceTop, effSliceOp, h1.ev hx, isRef, if_true, effSlice, Option.map_none, Option.map_some, h1.ev hy, h1.ev hz, Option.isSome_none, Bool.false_and, Bool.false_eq_true, if_false, hu, hs, slBounds, hb1, hb2, hb3, Option.bind_some, hi, withSt, hcl]
      split <;> rfl
    · split
      · rename_i hl
        subst hl
        rw [List.drop_zero]
        rw [List.drop_zero] at hlen
        exact .rsl hlen (by rw [List.length_take]; omega)
      · exact .rsl hlen (by rw [List.length_drop, List.length_take]; omega)
theorem SL_len_s {t : TypeId} {x : Operand} {s : ByteArray} {ats : Array TypeId} (hd : d < N) (hx : evL G L x = some (.s (.string s))) (ha : ats[0]? = some t) (ht : P.underlying t = some .string) (k : SL P G B W ops os ((d, .s (.int .i64 s.size)) :: L) N ds H Q) :
    SL P G B W ops (⟨some d, .call ⟨.builtin .len, #[x], ats⟩, ty, pos, af, none⟩ :: os) L N ds H Q :=
  SL_val _ hd (fun tm σ h1 h2 => by
    unfold eff
    have he : effPure P ⟨some d, .call ⟨.builtin .len, #[x], ats⟩, ty, pos, af, none⟩ (evT G tm) = some (.s (.int .i64 s.size)) := by
      unfold effPure
      simp only [Op.operands, Call.operands, h1.ev hx, isRef, List.all_cons, List.all_nil, Bool.not_false, Bool.and_self, List.nil_append, Array.toList_append, if_true]
      have hl : evalP P (Builtin.len_ ats ty #[.string s]) = some (.int .i64 s.size) := by
        unfold Builtin.len_
        rw [ha]
        show evalP P (underlying t >>= _) = _
        rw [evalP_bind, evalP_under t ht]
        rfl
      have hx2 : evalP P (execOp (fun x => (sOf (evT G tm x)).getD undef) ⟨some d, .call ⟨.builtin .len, #[x], ats⟩, ty, pos, af, none⟩) = some (.value (.int .i64 s.size)) := by
        have e1 : execOp (fun x => (sOf (evT G tm x)).getD undef) ⟨some d, .call ⟨.builtin .len, #[x], ats⟩, ty, pos, af, none⟩ = (do pure (Next.value (← Builtin.len_ ats ty #[(sOf (evT G tm x)).getD undef]))) :=
          builtin_v (o := ⟨some d, .call ⟨.builtin .len, #[x], ats⟩, ty, pos, af, none⟩) (c := ⟨.builtin .len, #[x], ats⟩) rfl rfl (by simp [builtin])
        rw [e1, h1.ev hx]
        simp only [sOf, Option.getD_some]
        rw [evalP_bind, hl]
        rfl
      rw [hx2]
    simp only [effCall, effBuiltin, List.map_cons, List.map_nil, h1.ev hx, effLenOp, isRef, he]
    rfl) k
theorem SL_index_s {t : TypeId} {x ix : Operand} {s : ByteArray} {kk : IntKind} {n : Int} {i : Nat} {b : UInt8} (hd : d < N) (hx : evL G L x = some (.s (.string s))) (hi : evL G L ix = some (.s (.int kk n))) (ht : P.underlying t = some .string) (hn : n = i) (hb : s.data.toList[i]? = some b)
    (k : SL P G B W ops os ((d, .s (.int .u8 b.toNat)) :: L) N ds H Q) : SL P G B W ops (⟨some d, .index t x ix, ty, pos, af, none⟩ :: os) L N ds H Q := by
  refine SL_val (.s (.int .u8 b.toNat)) hd (fun tm σ h1 h2 => ?_) k
  have he : effPure P ⟨some d, .index t x ix, ty, pos, af, none⟩ (evT G tm) = some (.s (.int .u8 b.toNat)) := by
    unfold effPure
    simp only [Op.operands, h1.ev hx, h1.ev hi, isRef, List.all_cons, List.all_nil, Bool.not_false, Bool.and_self, if_true, execOp, sOf, Option.getD_some]
    have hc : evalP P (Instr.index t (.string s) (.int kk n)) = some (.int .u8 b.toNat) := by
      unfold Instr.index
      rw [evalP_bind]
      show evalP P (underlying t >>= _) = _
      rw [evalP_bind, evalP_under t ht]
      simp only [Option.bind_some]
      subst hn
      have hs : s[i]? = some b := by
        have h0 := (List.getElem?_eq_some_iff.1 hb).1
        have h1 : i < s.size := by simpa using h0
        rw [getElem?_pos s i h1]
        rw [List.getElem?_eq_getElem h0] at hb
        rw [← Option.some.inj hb]
        rfl
      rw [if_pos (by omega), Int.toNat_natCast, hs]
      rfl
    rw [evalP_bind, hc]
    rfl
  unfold eff
  simp only [effIndexOp, h1.ev hx, he]
  rfl
end
end Go.Ab
/- What an argument's cells are, by their type. -/
namespace Go.Ab
variable {P : Program}
def isOffs (fs : Option TypeDesc) (l : List (TypeId × Nat)) : Bool := match fs with
  | some (.struct fs) => (fs.toList.map fun f => (f.type, f.offset)) == l
  | _ => false
theorem le_maxI {n : Nat} (h : n ≤ maxLen) : n ≤ 9223372036854775807 := by unfold maxLen at h; omega
theorem Ty.int_inv {t : TypeId} {k : IntKind} (ht : P.underlying t = some (.int k)) {al : List AV} (h : Ty P t al) : ∃ n, al = [.s (.int k n)] ∧ (Lit.int k n).wf = true := by
  cases h with
  | int h hw => rw [ht] at h; cases h; exact ⟨_, rfl, hw⟩
  | bool h => rw [ht] at h; cases h
  | str h => rw [ht] at h; cases h
  | empty h => rw [ht] at h; cases h
  | rsl h => rw [ht] at h; cases h
  | struct h => rw [ht] at h; cases h
  | array h => rw [ht] at h; cases h
theorem Ty.bool_inv {t : TypeId} (ht : P.underlying t = some .bool) {al : List AV} (h : Ty P t al) : ∃ b, al = [.s (.bool b)] := by
  cases h with
  | bool h => exact ⟨_, rfl⟩
  | int h hw => rw [ht] at h; cases h
  | str h => rw [ht] at h; cases h
  | empty h => rw [ht] at h; cases h
  | rsl h => rw [ht] at h; cases h
  | struct h => rw [ht] at h; cases h
  | array h => rw [ht] at h; cases h
theorem Ty.str_inv {t : TypeId} (ht : P.underlying t = some .string) {al : List AV} (h : Ty P t al) : ∃ s, al = [.s (.string s)] ∧ s.size ≤ 9223372036854775807 := by
  cases h with
  | str h hs => exact ⟨_, rfl, le_maxI hs⟩
  | bool h => rw [ht] at h; cases h
  | int h hw => rw [ht] at h; cases h
  | empty h => rw [ht] at h; cases h
  | rsl h => rw [ht] at h; cases h
  | struct h => rw [ht] at h; cases h
  | array h => rw [ht] at h; cases h
theorem Ty.slice_inv {t e : TypeId} (ht : P.underlying t = some (.slice e)) {al : List AV} (h : Ty P t al) : ∃ a rows, al = [a] ∧ SlK (P.cellsOf e) a rows ∧ (∀ r ∈ rows, r.length = P.cellsOf e ∧ Ty P e r) ∧ rows.length ≤ 9223372036854775807 := by
  cases h with
  | empty h hc => exact ⟨_, [], rfl, .nil, fun r hr => (by cases hr), by simp⟩
  | rsl h hp hn hc hl hr =>
    rw [ht] at h; cases h
    exact ⟨_, _, rfl, .rsl hp hn, fun r hr' => ⟨hl r hr', hr r hr'⟩, Nat.le_trans hn (le_maxI hc)⟩
  | str h hs => rw [ht] at h; cases h
  | bool h => rw [ht] at h; cases h
  | int h hw => rw [ht] at h; cases h
  | struct h => rw [ht] at h; cases h
  | array h => rw [ht] at h; cases h
theorem Ty.struct_inv {t : TypeId} {l : List (TypeId × Nat)} (ho : isOffs (P.underlying t) l = true) {al : List AV} (h : Ty P t al) : al.length = P.cellsOf t ∧ ∀ p ∈ l, Ty P p.1 ((al.drop p.2).take (P.cellsOf p.1)) := by
  unfold isOffs at ho
  cases h with
  | struct h hl hf =>
    rw [h] at ho
    simp only [beq_iff_eq] at ho
    refine ⟨hl, fun p hp => ?_⟩
    rw [← ho] at hp
    obtain ⟨f, hfm, rfl⟩ := List.mem_map.1 hp
    exact hf f hfm
  | int h hw => rw [h] at ho; cases ho
  | bool h => rw [h] at ho; cases ho
  | str h => rw [h] at ho; cases ho
  | empty h => rw [h] at ho; cases ho
  | rsl h => rw [h] at ho; cases ho
  | array h => rw [h] at ho; cases ho
theorem Ty.array_inv {t e : TypeId} {n : Nat} (ht : P.underlying t = some (.array n e)) {al : List AV} (h : Ty P t al) : al.length = n * P.cellsOf e ∧ ∀ i, i < n → Ty P e ((al.drop (i * P.cellsOf e)).take (P.cellsOf e)) := by
  cases h with
  | array h hl hf => rw [ht] at h; cases h; exact ⟨hl, hf⟩
  | struct h hl hf => rw [ht] at h; cases h
  | int h hw => rw [ht] at h; cases h
  | bool h => rw [ht] at h; cases h
  | str h => rw [ht] at h; cases h
  | empty h => rw [ht] at h; cases h
  | rsl h => rw [ht] at h; cases h
theorem rows_form {α : Type} {Q : List AV → Prop} {F : α → List AV} (hq : ∀ r, Q r → ∃ a, r = F a) : ∀ (rows : List (List AV)), (∀ r ∈ rows, Q r) → ∃ l : List α, rows = l.map F
  | [], _ => ⟨[], rfl⟩
  | r :: rows, h => by
    obtain ⟨a, rfl⟩ := hq r (h r List.mem_cons_self)
    obtain ⟨l, rfl⟩ := rows_form hq rows fun r hr => h r (List.mem_cons_of_mem _ hr)
    exact ⟨a :: l, rfl⟩
theorem open_one {H : Type} {enc : TypeId × Value → H} {w : World} {r : Reach} {b0 : Nat} {spare : Nat → Bool} {held : Bool} {n : Nat} {t e : TypeId} {v : Value} {d : DataW H} {ps : List MemPlace} (ht : P.underlying t = some (.slice e)) (hp : plainTy P n t = true) (hval : Value.okWide P w r b0 t v) (hd : DataW.Trod enc P w 0 spare held t v d ps) :
    ∃ a, Conc (memOf w) (fun _ => none) a v ∧ Ty P t [a] := by
  obtain ⟨a, hc, hty⟩ := open_value hp hval hd
  obtain ⟨x, len, cap, rfl⟩ := Go.WideShapes.okWide_slice ht hval
  cases a with
  | agg l => cases hc
  | s v => cases hc; exact ⟨_, .s _, hty⟩
  | _ => exact ⟨_, hc, hty⟩
theorem open_agg {H : Type} {enc : TypeId × Value → H} {w : World} {r : Reach} {b0 : Nat} {spare : Nat → Bool} {held : Bool} {n : Nat} {t : TypeId} {v : Value} {d : DataW H} {ps : List MemPlace} {l : List (TypeId × Nat)} (ht : isOffs (P.underlying t) l = true) (hp : plainTy P n t = true) (hval : Value.okWide P w r b0 t v) (hd : DataW.Trod enc P w 0 spare held t v d ps) :
    ∃ al, Conc (memOf w) (fun _ => none) (mkAgg al) v ∧ Ty P t al := by
  obtain ⟨a, hc, hty⟩ := open_value hp hval hd
  have hv : ∃ cs, v = .agg cs := by
    unfold isOffs at ht
    split at ht
    · rename_i fs hfs
      obtain ⟨cs, rfl, _⟩ := Go.WideShapes.okWide_struct hfs hval
      exact ⟨cs, rfl⟩
    · cases ht
  obtain ⟨cs, rfl⟩ := hv
  cases hc with
  | s => exact ⟨cs.toList.map .s, by simpa using conc_mkAgg (M := memOf w) (ρ := fun _ => none) (Concs.ofS cs.toList), by simpa [cellsOf, Value.cells] using hty⟩
  | @agg al _ h => exact ⟨al, by simpa using conc_mkAgg h, hty⟩
end Go.Ab
