/- An abstract heap for closed and symbolic runs: values with named own blocks, and how they stand for the model's values. -/
import Derived.RangeFuncLeaves
import Derived.OrdersIn
import Derived.Deep.MidRow
import Derived.Deep.AppendSrc
namespace Go.Ab

/-- Abstract values. 's': a value that stands for itself. 'ptr', 'sl': into an own block (row i, cell f). 'rptr', 'rsl': into memory that is only read. -/
inductive AV where
  | s (v : Value)
  | ptr (o i f : Nat)
  | sl (o i n : Nat) (cap : Option Nat)
  | rptr (a : Addr) (es : Nat) (rows : List (List AV)) (i f : Nat)
  | rsl (a : Addr) (es cap : Nat) (rows : List (List AV))
  | agg (cs : List AV)
  | tup (cs : List AV)
  | ifc (t : TypeId) (v : AV)
  | fn (f : Fn) (first captured : List AV)
  | yld (o : Nat)
  | mp (o : Nat)
  deriving Inhabited

structure Loc where
  blk : Nat
  cap : Nat
  es : Nat

abbrev Rho := Nat → Option Loc
abbrev Mem := Nat → Option Obj

mutual
inductive Conc (M : Mem) (ρ : Rho) : AV → Value → Prop
  | s (v : Value) : Conc M ρ (.s v) v
  | ptr {o i f : Nat} {l : Loc} (h : ρ o = some l) : Conc M ρ (.ptr o i f) (.pointer (some ⟨l.blk, i * l.es + f, none⟩))
  | sl {o i n : Nat} {l : Loc} (h : ρ o = some l) : Conc M ρ (.sl o i n none) (.slice (some ⟨l.blk, i * l.es, none⟩) n (l.cap - i))
  | slc {o i n c : Nat} {l : Loc} (h : ρ o = some l) : Conc M ρ (.sl o i n (some c)) (.slice (some ⟨l.blk, i * l.es, none⟩) n c)
  | rptr {b off es i f : Nat} {rows : List (List AV)} (h : ConcMem M ρ b off es rows) :
      Conc M ρ (.rptr ⟨b, off, none⟩ es rows i f) (.pointer (some ⟨b, off + (i * es + f), none⟩))
  | rsl {b off es cap : Nat} {rows : List (List AV)} (h : ConcMem M ρ b off es rows) (hc : rows.length ≤ cap) :
      Conc M ρ (.rsl ⟨b, off, none⟩ es cap rows) (.slice (some ⟨b, off, none⟩) rows.length cap)
  | agg {l : List AV} {vs : Array Value} (h : Concs M ρ l vs.toList) : Conc M ρ (.agg l) (.agg vs)
  | tup {l : List AV} {vs : Array Value} (h : Concs M ρ l vs.toList) : Conc M ρ (.tup l) (.tuple vs)
  | ifc {t : TypeId} {v : AV} {c : Value} (h : Conc M ρ v c) : Conc M ρ (.ifc t v) (.iface t c)
  | fn {f : Fn} {a b : List AV} {vs ws : Array Value} (ha : Concs M ρ a vs.toList) (hb : Concs M ρ b ws.toList) : Conc M ρ (.fn f a b) (.func f vs ws)
  | yld {o : Nat} {l : Loc} (h : ρ o = some l) : Conc M ρ (.yld o) (.func (.yield l.blk) #[] #[])
  | mp {o : Nat} {l : Loc} (h : ρ o = some l) : Conc M ρ (.mp o) (.map (some l.blk))
inductive ConcMem (M : Mem) (ρ : Rho) : Nat → Nat → Nat → List (List AV) → Prop
  | mk {b off es : Nat} {rows : List (List AV)} {c : Array Value} {e : TypeId} {fz : Nat × Nat} (hm : M b = some (.cells c e fz))
      (hl : ∀ r ∈ rows, r.length = es) (hc : Concs M ρ rows.flatten ((c.toList.drop off).take (rows.length * es))) : ConcMem M ρ b off es rows
inductive Concs (M : Mem) (ρ : Rho) : List AV → List Value → Prop
  | nil : Concs M ρ [] []
  | cons {a : AV} {v : Value} {as : List AV} {vs : List Value} (h : Conc M ρ a v) (t : Concs M ρ as vs) : Concs M ρ (a :: as) (v :: vs)
end

def Rho.le (ρ ρ' : Rho) : Prop := ∀ o l, ρ o = some l → ρ' o = some l
theorem Rho.le_refl (ρ : Rho) : ρ.le ρ := fun _ _ h => h
theorem Rho.le_trans {a b c : Rho} (h : a.le b) (h' : b.le c) : a.le c := fun o l x => h' o l (h o l x)

section mono
variable {M : Mem} {ρ ρ' : Rho} (hle : ρ.le ρ')
include hle
theorem mono_arms (C : ∀ (_p1 : ∀ (a : AV) (v : Value), Conc M ρ a v → Prop) (_p2 : ∀ (b off es : Nat) (rows : List (List AV)), ConcMem M ρ b off es rows → Prop) (_p3 : ∀ (as : List AV) (vs : List Value), Concs M ρ as vs → Prop), Prop)
    (hC : ∀ p1 p2 p3, (∀ v, p1 _ _ (.s v)) → (∀ {o i f l} (h : ρ o = some l), p1 (.ptr o i f) _ (.ptr h)) → (∀ {o i n l} (h : ρ o = some l), p1 (.sl o i n none) _ (.sl h)) →
      (∀ {o i n c l} (h : ρ o = some l), p1 (.sl o i n (some c)) _ (.slc h)) → (∀ {b off es i f rows} (h : ConcMem M ρ b off es rows), p2 _ _ _ _ h → p1 (.rptr ⟨b, off, none⟩ es rows i f) _ (.rptr h)) →
      (∀ {b off es cap rows} (h : ConcMem M ρ b off es rows) (hc : rows.length ≤ cap), p2 _ _ _ _ h → p1 (.rsl ⟨b, off, none⟩ es cap rows) _ (.rsl h hc)) → (∀ {l} {vs : Array Value} (h : Concs M ρ l vs.toList), p3 _ _ h → p1 _ _ (.agg h)) →
      (∀ {l} {vs : Array Value} (h : Concs M ρ l vs.toList), p3 _ _ h → p1 _ _ (.tup h)) → (∀ {t v c} (h : Conc M ρ v c), p1 _ _ h → p1 (.ifc t v) _ (.ifc h)) →
      (∀ {f a b} {vs ws : Array Value} (ha : Concs M ρ a vs.toList) (hb : Concs M ρ b ws.toList), p3 _ _ ha → p3 _ _ hb → p1 (.fn f a b) _ (.fn ha hb)) → (∀ {o l} (h : ρ o = some l), p1 (.yld o) _ (.yld h)) → (∀ {o l} (h : ρ o = some l), p1 (.mp o) _ (.mp h)) →
      (∀ {b off es rows c e fz} (hm : M b = some (.cells c e fz)) (hl : ∀ r ∈ rows, r.length = es) (hc : Concs M ρ rows.flatten ((c.toList.drop off).take (rows.length * es))), p3 _ _ hc → p2 b off es rows (.mk hm hl hc)) →
      p3 _ _ .nil → (∀ {a v as vs} (h : Conc M ρ a v) (t : Concs M ρ as vs), p1 _ _ h → p3 _ _ t → p3 _ _ (.cons h t)) → C p1 p2 p3) :
    C (fun a v _ => Conc M ρ' a v) (fun b off es rows _ => ConcMem M ρ' b off es rows) (fun as vs _ => Concs M ρ' as vs) :=
  hC _ _ _ (fun v => .s v) (fun h => .ptr (hle _ _ h)) (fun h => .sl (hle _ _ h)) (fun h => .slc (hle _ _ h)) (fun _ ih => .rptr ih) (fun _ hc ih => .rsl ih hc) (fun _ ih => .agg ih) (fun _ ih => .tup ih)
    (fun _ ih => .ifc ih) (fun _ _ ia ib => .fn ia ib) (fun h => .yld (hle _ _ h)) (fun h => .mp (hle _ _ h)) (fun hm hl _ ih => .mk hm hl ih) .nil (fun _ _ ih it => .cons ih it)
theorem Conc.mono {a : AV} {v : Value} (h : Conc M ρ a v) : Conc M ρ' a v :=
  mono_arms (M := M) hle (fun p1 _ _ => p1 a v h) fun p1 p2 p3 h1 h2 h3 h4 h5 h6 h7 h8 h9 h10 h11 h12 h13 h14 h15 =>
    Conc.rec (motive_1 := p1) (motive_2 := p2) (motive_3 := p3) h1 h2 h3 h4 h5 h6 h7 h8 h9 h10 h11 h12 h13 h14 h15 h
theorem Concs.mono {as : List AV} {vs : List Value} (h : Concs M ρ as vs) : Concs M ρ' as vs := by
  induction as generalizing vs with
  | nil => cases h; exact .nil
  | cons a as ih => cases h with | cons h t => exact .cons (Conc.mono hle h) (ih t)
theorem ConcMem.mono {b off es : Nat} {rows : List (List AV)} (h : ConcMem M ρ b off es rows) : ConcMem M ρ' b off es rows := by
  cases h with
  | mk hm hl hc => exact .mk hm hl (Concs.mono hle hc)
end mono

section lists
variable {M : Mem} {ρ : Rho}

theorem Concs.len {as : List AV} {vs : List Value} (h : Concs M ρ as vs) : as.length = vs.length := by
  induction as generalizing vs with
  | nil => cases h; rfl
  | cons a as ih => cases h with | cons h t => simp [ih t]

theorem Concs.get {as : List AV} {vs : List Value} (h : Concs M ρ as vs) : ∀ {i : Nat} {a : AV}, as[i]? = some a → ∃ v, vs[i]? = some v ∧ Conc M ρ a v := by
  induction as generalizing vs with
  | nil => intro i a hi; simp at hi
  | cons b as ih =>
    cases h with
    | cons h t =>
      intro i a hi
      cases i with
      | zero => simp at hi; subst hi; exact ⟨_, rfl, h⟩
      | succ i => simpa using ih t (by simpa using hi)

theorem Concs.get' {as : List AV} {vs : List Value} (h : Concs M ρ as vs) {i : Nat} {a : AV} {v : Value} (ha : as[i]? = some a) (hv : vs[i]? = some v) : Conc M ρ a v := by
  obtain ⟨v', hv', hc⟩ := h.get ha
  rw [hv] at hv'; cases hv'; exact hc

theorem Concs.append {as bs : List AV} {vs ws : List Value} (h : Concs M ρ as vs) (h' : Concs M ρ bs ws) : Concs M ρ (as ++ bs) (vs ++ ws) := by
  induction as generalizing vs with
  | nil => cases h; exact h'
  | cons a as ih => cases h with | cons h t => exact .cons h (ih t)

theorem Concs.take {as : List AV} {vs : List Value} (h : Concs M ρ as vs) (n : Nat) : Concs M ρ (as.take n) (vs.take n) := by
  induction as generalizing vs n with
  | nil => cases h; simp; exact .nil
  | cons a as ih =>
    cases h with
    | cons h t => cases n with
      | zero => exact .nil
      | succ n => exact .cons h (ih t n)

theorem Concs.drop {as : List AV} {vs : List Value} (h : Concs M ρ as vs) (n : Nat) : Concs M ρ (as.drop n) (vs.drop n) := by
  induction as generalizing vs n with
  | nil => cases h; simp; exact .nil
  | cons a as ih =>
    cases h with
    | cons h t => cases n with
      | zero => exact .cons h t
      | succ n => exact ih t n

theorem Concs.set {as : List AV} {vs : List Value} (h : Concs M ρ as vs) {a : AV} {v : Value} (hc : Conc M ρ a v) (n : Nat) : Concs M ρ (as.set n a) (vs.set n v) := by
  induction as generalizing vs n with
  | nil => cases h; exact .nil
  | cons b as ih =>
    cases h with
    | cons h t => cases n with
      | zero => exact .cons hc t
      | succ n => exact .cons h (ih t n)

theorem Concs.replicate {a : AV} {v : Value} (hc : Conc M ρ a v) (n : Nat) : Concs M ρ (List.replicate n a) (List.replicate n v) := by
  induction n with
  | zero => exact .nil
  | succ n ih => exact .cons hc ih

theorem Concs.ofS (vs : List Value) : Concs M ρ (vs.map .s) vs := by
  induction vs with
  | nil => exact .nil
  | cons v vs ih => exact .cons (.s v) ih

theorem Concs.split {as bs : List AV} {vs : List Value} (h : Concs M ρ (as ++ bs) vs) : ∃ us ws, vs = us ++ ws ∧ Concs M ρ as us ∧ Concs M ρ bs ws :=
  ⟨vs.take as.length, vs.drop as.length, (List.take_append_drop _ _).symm, by simpa using h.take as.length, by simpa using h.drop as.length⟩

theorem Concs.one {a : AV} {v : Value} (h : Conc M ρ a v) : Concs M ρ [a] [v] := .cons h .nil

end lists

/-! ### Values that stand for themselves -/
def sOf : AV → Option Value
  | .s v => some v
  | _ => none
def sOfs : List AV → Option (List Value)
  | [] => some []
  | .s v :: r => match sOfs r with
    | some vs => some (v :: vs)
    | none => none
  | _ :: _ => none
theorem sOfs_eq {l : List AV} {vs : List Value} (h : sOfs l = some vs) : l = vs.map .s := by
  induction l generalizing vs with
  | nil => simp [sOfs] at h; subst h; rfl
  | cons a l ih =>
    cases a <;> simp only [sOfs] at h <;> try (simp at h; done)
    split at h
    · rename_i ws hw
      simp at h; subst h
      simp [ih hw]
    · simp at h
def mkAgg (l : List AV) : AV := match sOfs l with
  | some vs => .s (.agg vs.toArray)
  | none => .agg l
def mkTup (l : List AV) : AV := match sOfs l with
  | some vs => .s (.tuple vs.toArray)
  | none => .tup l
def mkIfc (t : TypeId) : AV → AV
  | .s v => .s (.iface t v)
  | v => .ifc t v
def mkFn (f : Fn) (a b : List AV) : AV := match sOfs a, sOfs b with
  | some x, some y => .s (.func f x.toArray y.toArray)
  | _, _ => .fn f a b

section
variable {M : Mem} {ρ : Rho}
theorem Concs.s_eq {vs ws : List Value} (h : Concs M ρ (vs.map .s) ws) : ws = vs := by
  induction vs generalizing ws with
  | nil => cases h; rfl
  | cons v vs ih => cases h with | cons h t => cases h; rw [ih t]
theorem conc_mkAgg {l : List AV} {vs : List Value} (h : Concs M ρ l vs) : Conc M ρ (mkAgg l) (.agg vs.toArray) := by
  unfold mkAgg
  split
  · rename_i us hu
    rw [sOfs_eq hu] at h
    rw [h.s_eq]; exact .s _
  · exact .agg (by simpa using h)
theorem conc_mkTup {l : List AV} {vs : List Value} (h : Concs M ρ l vs) : Conc M ρ (mkTup l) (.tuple vs.toArray) := by
  unfold mkTup
  split
  · rename_i us hu
    rw [sOfs_eq hu] at h
    rw [h.s_eq]; exact .s _
  · exact .tup (by simpa using h)
theorem conc_mkIfc {t : TypeId} {a : AV} {v : Value} (h : Conc M ρ a v) : Conc M ρ (mkIfc t a) (.iface t v) := by
  unfold mkIfc
  split
  · cases h; exact .s _
  · exact .ifc h
theorem conc_mkFn {f : Fn} {a b : List AV} {vs ws : List Value} (ha : Concs M ρ a vs) (hb : Concs M ρ b ws) : Conc M ρ (mkFn f a b) (.func f vs.toArray ws.toArray) := by
  unfold mkFn
  split
  · rename_i x y hx hy
    rw [sOfs_eq hx] at ha
    rw [sOfs_eq hy] at hb
    rw [ha.s_eq, hb.s_eq]; exact .s _
  · exact .fn (by simpa using ha) (by simpa using hb)
end

/-- The cells of a value. -/
def cellsOf : AV → List AV
  | .s v => v.cells.toList.map .s
  | .agg l => l
  | v => [v]
theorem conc_cells {M : Mem} {ρ : Rho} {a : AV} {v : Value} (h : Conc M ρ a v) : Concs M ρ (cellsOf a) v.cells.toList := by
  cases h <;> simp only [cellsOf, Value.cells] <;> first
    | exact Concs.ofS _
    | assumption
    | (refine .one ?_; constructor <;> assumption)

/-- A value of one cell. -/
def isCell : AV → Bool
  | .s (.agg _) | .s (.tuple _) | .agg _ | .tup _ => false
  | _ => true
theorem oneCell_of {M : Mem} {ρ : Rho} {a : AV} {v : Value} (h : Conc M ρ a v) (hc : isCell a = true) : v.oneCell' = true := by
  cases h with
  | s v => cases v <;> simp_all [isCell, Value.oneCell']
  | _ => first | rfl | simp [isCell] at hc
theorem oneCells_of {M : Mem} {ρ : Rho} {as : List AV} {vs : List Value} (h : Concs M ρ as vs) (hc : as.all isCell = true) : ∀ u ∈ vs, u.oneCell' = true := by
  induction as generalizing vs with
  | nil => cases h; intro u hu; cases hu
  | cons a as ih =>
    cases h with
    | cons h t =>
      simp only [List.all_cons, Bool.and_eq_true] at hc
      intro u hu
      cases hu with
      | head => exact oneCell_of h hc.1
      | tail _ hm => exact ih t hc.2 u hm

end Go.Ab
