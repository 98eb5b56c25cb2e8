/- An abstract heap for closed and symbolic runs: values with named own blocks, and how they stand for the model's values. -/
import Derived.RangeFuncLeaves
import Derived.OrdersIn
import Derived.Deep.MidRow
import Derived.Deep.AppendSrc
import Derived.Laws.Tables
import Derived.Laws.MakeOwn
import Derived.Deep.Upon
import Derived.Laws.BytesString
import Derived.Laws.Cells
namespace Go.Ab

inductive AV where
  | s (v : Value)
  | ptr (o i f : Nat)
  | sl (o i n : Nat) (cap : Option Nat)
  | rptr (a : Addr) (es : Nat) (rows : List (List AV)) (i f : Nat)
  | rsl (a : Addr) (es cap : Nat) (rows : List (List AV))
  | agg (cs : List AV)
  | tup (cs : List AV)
  | ifc (t : TypeId) (v : AV)
  | fn (f : Fn) (first captured : List AV)
  | yld (o : Nat)
  | mp (o : Nat)
  | sle
  deriving Inhabited

structure Loc where
  blk : Nat
  cap : Nat
  es : Nat
  le : 0 < es → cap < 2 ^ 63

abbrev Rho := Nat → Option Loc
abbrev Mem := Nat → Option Obj

mutual
inductive Conc (M : Mem) (ρ : Rho) : AV → Value → Prop
  | s (v : Value) : Conc M ρ (.s v) v
  | ptr {o i f : Nat} {l : Loc} (h : ρ o = some l) : Conc M ρ (.ptr o i f) (.pointer (some ⟨l.blk, i * l.es + f, none⟩))
  | sl {o i n : Nat} {l : Loc} (h : ρ o = some l) : Conc M ρ (.sl o i n none) (.slice (some ⟨l.blk, i * l.es, none⟩) n (l.cap - i))
  | slc {o i n c : Nat} {l : Loc} (h : ρ o = some l) : Conc M ρ (.sl o i n (some c)) (.slice (some ⟨l.blk, i * l.es, none⟩) n c)
  | rptr {b off es i f : Nat} {rows : List (List AV)} (h : ConcMem M ρ b off es rows) :
      Conc M ρ (.rptr ⟨b, off, none⟩ es rows i f) (.pointer (some ⟨b, off + (i * es + f), none⟩))
  | rsl {b off es cap : Nat} {rows : List (List AV)} (h : ConcMem M ρ b off es rows) (hc : rows.length ≤ cap) :
      Conc M ρ (.rsl ⟨b, off, none⟩ es cap rows) (.slice (some ⟨b, off, none⟩) rows.length cap)
  | agg {l : List AV} {vs : Array Value} (h : Concs M ρ l vs.toList) : Conc M ρ (.agg l) (.agg vs)
  | tup {l : List AV} {vs : Array Value} (h : Concs M ρ l vs.toList) : Conc M ρ (.tup l) (.tuple vs)
  | ifc {t : TypeId} {v : AV} {c : Value} (h : Conc M ρ v c) : Conc M ρ (.ifc t v) (.iface t c)
  | fn {f : Fn} {a b : List AV} {vs ws : Array Value} (ha : Concs M ρ a vs.toList) (hb : Concs M ρ b ws.toList) : Conc M ρ (.fn f a b) (.func f vs ws)
  | yld {o : Nat} {l : Loc} (h : ρ o = some l) : Conc M ρ (.yld o) (.func (.yield l.blk) #[] #[])
  | mp {o : Nat} {l : Loc} (h : ρ o = some l) : Conc M ρ (.mp o) (.map (some l.blk))
  | sle {a : Option Addr} {c : Nat} : Conc M ρ .sle (.slice a 0 c)
inductive ConcMem (M : Mem) (ρ : Rho) : Nat → Nat → Nat → List (List AV) → Prop
  | mk {b off es : Nat} {rows : List (List AV)} {c : Array Value} {e : TypeId} {fz : Nat × Nat} (hm : M b = some (.cells c e fz))
      (hl : ∀ r ∈ rows, r.length = es) (hc : Concs M ρ rows.flatten ((c.toList.drop off).take (rows.length * es))) : ConcMem M ρ b off es rows
inductive Concs (M : Mem) (ρ : Rho) : List AV → List Value → Prop
  | nil : Concs M ρ [] []
  | cons {a : AV} {v : Value} {as : List AV} {vs : List Value} (h : Conc M ρ a v) (t : Concs M ρ as vs) : Concs M ρ (a :: as) (v :: vs)
end

def Rho.le (ρ ρ' : Rho) : Prop := ∀ o l, ρ o = some l → ρ' o = some l
theorem Rho.le_refl (ρ : Rho) : ρ.le ρ := fun _ _ h => h
theorem Rho.le_trans {a b c : Rho} (h : a.le b) (h' : b.le c) : a.le c := fun o l x => h' o l (h o l x)

section mono
variable {M : Mem} {ρ ρ' : Rho} (hle : ρ.le ρ')
include hle
theorem mono_arms (C : ∀ (_p1 : ∀ (a : AV) (v : Value), Conc M ρ a v → Prop) (_p2 : ∀ (b off es : Nat) (rows : List (List AV)), ConcMem M ρ b off es rows → Prop) (_p3 : ∀ (as : List AV) (vs : List Value), Concs M ρ as vs → Prop), Prop)
    (hC : ∀ p1 p2 p3, (∀ v, p1 _ _ (.s v)) → (∀ {o i f l} (h : ρ o = some l), p1 (.ptr o i f) _ (.ptr h)) → (∀ {o i n l} (h : ρ o = some l), p1 (.sl o i n none) _ (.sl h)) →
      (∀ {o i n c l} (h : ρ o = some l), p1 (.sl o i n (some c)) _ (.slc h)) → (∀ {b off es i f rows} (h : ConcMem M ρ b off es rows), p2 _ _ _ _ h → p1 (.rptr ⟨b, off, none⟩ es rows i f) _ (.rptr h)) →
      (∀ {b off es cap rows} (h : ConcMem M ρ b off es rows) (hc : rows.length ≤ cap), p2 _ _ _ _ h → p1 (.rsl ⟨b, off, none⟩ es cap rows) _ (.rsl h hc)) → (∀ {l} {vs : Array Value} (h : Concs M ρ l vs.toList), p3 _ _ h → p1 _ _ (.agg h)) →
      (∀ {l} {vs : Array Value} (h : Concs M ρ l vs.toList), p3 _ _ h → p1 _ _ (.tup h)) → (∀ {t v c} (h : Conc M ρ v c), p1 _ _ h → p1 (.ifc t v) _ (.ifc h)) →
      (∀ {f a b} {vs ws : Array Value} (ha : Concs M ρ a vs.toList) (hb : Concs M ρ b ws.toList), p3 _ _ ha → p3 _ _ hb → p1 (.fn f a b) _ (.fn ha hb)) → (∀ {o l} (h : ρ o = some l), p1 (.yld o) _ (.yld h)) → (∀ {o l} (h : ρ o = some l), p1 (.mp o) _ (.mp h)) → (∀ {a c}, p1 .sle (.slice a 0 c) .sle) →
      (∀ {b off es rows c e fz} (hm : M b = some (.cells c e fz)) (hl : ∀ r ∈ rows, r.length = es) (hc : Concs M ρ rows.flatten ((c.toList.drop off).take (rows.length * es))), p3 _ _ hc → p2 b off es rows (.mk hm hl hc)) →
      p3 _ _ .nil → (∀ {a v as vs} (h : Conc M ρ a v) (t : Concs M ρ as vs), p1 _ _ h → p3 _ _ t → p3 _ _ (.cons h t)) → C p1 p2 p3) :
    C (fun a v _ => Conc M ρ' a v) (fun b off es rows _ => ConcMem M ρ' b off es rows) (fun as vs _ => Concs M ρ' as vs) :=
  hC _ _ _ (fun v => .s v) (fun h => .ptr (hle _ _ h)) (fun h => .sl (hle _ _ h)) (fun h => .slc (hle _ _ h)) (fun _ ih => .rptr ih) (fun _ hc ih => .rsl ih hc) (fun _ ih => .agg ih) (fun _ ih => .tup ih)
    (fun _ ih => .ifc ih) (fun _ _ ia ib => .fn ia ib) (fun h => .yld (hle _ _ h)) (fun h => .mp (hle _ _ h)) .sle (fun hm hl _ ih => .mk hm hl ih) .nil (fun _ _ ih it => .cons ih it)
theorem Conc.mono {a : AV} {v : Value} (h : Conc M ρ a v) : Conc M ρ' a v :=
  mono_arms (M := M) hle (fun p1 _ _ => p1 a v h) fun p1 p2 p3 h1 h2 h3 h4 h5 h6 h7 h8 h9 h10 h11 h12 h13 h14 h15 h16 =>
    Conc.rec (motive_1 := p1) (motive_2 := p2) (motive_3 := p3) h1 h2 h3 h4 h5 h6 h7 h8 h9 h10 h11 h12 h13 h14 h15 h16 h
theorem Concs.mono {as : List AV} {vs : List Value} (h : Concs M ρ as vs) : Concs M ρ' as vs := by
  induction as generalizing vs with
  | nil => cases h; exact .nil
  | cons a as ih => cases h with | cons h t => exact .cons (Conc.mono hle h) (ih t)
theorem ConcMem.mono {b off es : Nat} {rows : List (List AV)} (h : ConcMem M ρ b off es rows) : ConcMem M ρ' b off es rows := by
  cases h with
  | mk hm hl hc => exact .mk hm hl (Concs.mono hle hc)
end mono

section lists
variable {M : Mem} {ρ : Rho}

theorem Concs.len {as : List AV} {vs : List Value} (h : Concs M ρ as vs) : as.length = vs.length := by
  induction as generalizing vs with
  | nil => cases h; rfl
  | cons a as ih => cases h with | cons h t => simp [ih t]

theorem Concs.get {as : List AV} {vs : List Value} (h : Concs M ρ as vs) : ∀ {i : Nat} {a : AV}, as[i]? = some a → ∃ v, vs[i]? = some v ∧ Conc M ρ a v := by
  induction as generalizing vs with
  | nil => intro i a hi; simp at hi
  | cons b as ih =>
    cases h with
    | cons h t =>
      intro i a hi
      cases i with
      | zero => simp at hi; subst hi; exact ⟨_, rfl, h⟩
      | succ i => simpa using ih t (by simpa using hi)

theorem Concs.get' {as : List AV} {vs : List Value} (h : Concs M ρ as vs) {i : Nat} {a : AV} {v : Value} (ha : as[i]? = some a) (hv : vs[i]? = some v) : Conc M ρ a v := by
  obtain ⟨v', hv', hc⟩ := h.get ha
  rw [hv] at hv'; cases hv'; exact hc

theorem Concs.append {as bs : List AV} {vs ws : List Value} (h : Concs M ρ as vs) (h' : Concs M ρ bs ws) : Concs M ρ (as ++ bs) (vs ++ ws) := by
  induction as generalizing vs with
  | nil => cases h; exact h'
  | cons a as ih => cases h with | cons h t => exact .cons h (ih t)

theorem Concs.take {as : List AV} {vs : List Value} (h : Concs M ρ as vs) (n : Nat) : Concs M ρ (as.take n) (vs.take n) := by
  induction as generalizing vs n with
  | nil => cases h; simp; exact .nil
  | cons a as ih =>
    cases h with
    | cons h t => cases n with
      | zero => exact .nil
      | succ n => exact .cons h (ih t n)

theorem Concs.drop {as : List AV} {vs : List Value} (h : Concs M ρ as vs) (n : Nat) : Concs M ρ (as.drop n) (vs.drop n) := by
  induction as generalizing vs n with
  | nil => cases h; simp; exact .nil
  | cons a as ih =>
    cases h with
    | cons h t => cases n with
      | zero => exact .cons h t
      | succ n => exact ih t n

theorem Concs.set {as : List AV} {vs : List Value} (h : Concs M ρ as vs) {a : AV} {v : Value} (hc : Conc M ρ a v) (n : Nat) : Concs M ρ (as.set n a) (vs.set n v) := by
  induction as generalizing vs n with
  | nil => cases h; exact .nil
  | cons b as ih =>
    cases h with
    | cons h t => cases n with
      | zero => exact .cons hc t
      | succ n => exact .cons h (ih t n)

theorem Concs.replicate {a : AV} {v : Value} (hc : Conc M ρ a v) (n : Nat) : Concs M ρ (List.replicate n a) (List.replicate n v) := by
  induction n with
  | zero => exact .nil
  | succ n ih => exact .cons hc ih

theorem Concs.ofS (vs : List Value) : Concs M ρ (vs.map .s) vs := by
  induction vs with
  | nil => exact .nil
  | cons v vs ih => exact .cons (.s v) ih

theorem Concs.split {as bs : List AV} {vs : List Value} (h : Concs M ρ (as ++ bs) vs) : ∃ us ws, vs = us ++ ws ∧ Concs M ρ as us ∧ Concs M ρ bs ws :=
  ⟨vs.take as.length, vs.drop as.length, (List.take_append_drop _ _).symm, by simpa using h.take as.length, by simpa using h.drop as.length⟩

theorem Concs.one {a : AV} {v : Value} (h : Conc M ρ a v) : Concs M ρ [a] [v] := .cons h .nil

end lists

def sOf : AV → Option Value
  | .s v => some v
  | _ => none
def sOfs : List AV → Option (List Value)
  | [] => some []
  | .s v :: r => match sOfs r with
    | some vs => some (v :: vs)
    | none => none
  | _ :: _ => none
theorem sOfs_eq {l : List AV} {vs : List Value} (h : sOfs l = some vs) : l = vs.map .s := by
  induction l generalizing vs with
  | nil => simp [sOfs] at h; subst h; rfl
  | cons a l ih =>
    cases a <;> simp only [sOfs] at h <;> try (simp at h; done)
    split at h
    · rename_i ws hw
      simp at h; subst h
      simp [ih hw]
    · simp at h
def mkAgg (l : List AV) : AV := match sOfs l with
  | some vs => .s (.agg vs.toArray)
  | none => .agg l
def mkTup (l : List AV) : AV := match sOfs l with
  | some vs => .s (.tuple vs.toArray)
  | none => .tup l
def mkIfc (t : TypeId) : AV → AV
  | .s v => .s (.iface t v)
  | v => .ifc t v
def mkFn (f : Fn) (a b : List AV) : AV := match sOfs a, sOfs b with
  | some x, some y => .s (.func f x.toArray y.toArray)
  | _, _ => .fn f a b

section
variable {M : Mem} {ρ : Rho}
theorem Concs.s_eq {vs ws : List Value} (h : Concs M ρ (vs.map .s) ws) : ws = vs := by
  induction vs generalizing ws with
  | nil => cases h; rfl
  | cons v vs ih => cases h with | cons h t => cases h; rw [ih t]
theorem conc_mkAgg {l : List AV} {vs : List Value} (h : Concs M ρ l vs) : Conc M ρ (mkAgg l) (.agg vs.toArray) := by
  unfold mkAgg
  split
  · rename_i us hu
    rw [sOfs_eq hu] at h
    rw [h.s_eq]; exact .s _
  · exact .agg (by simpa using h)
theorem conc_mkTup {l : List AV} {vs : List Value} (h : Concs M ρ l vs) : Conc M ρ (mkTup l) (.tuple vs.toArray) := by
  unfold mkTup
  split
  · rename_i us hu
    rw [sOfs_eq hu] at h
    rw [h.s_eq]; exact .s _
  · exact .tup (by simpa using h)
theorem conc_mkIfc {t : TypeId} {a : AV} {v : Value} (h : Conc M ρ a v) : Conc M ρ (mkIfc t a) (.iface t v) := by
  unfold mkIfc
  split
  · cases h; exact .s _
  · exact .ifc h
theorem conc_mkFn {f : Fn} {a b : List AV} {vs ws : List Value} (ha : Concs M ρ a vs) (hb : Concs M ρ b ws) : Conc M ρ (mkFn f a b) (.func f vs.toArray ws.toArray) := by
  unfold mkFn
  split
  · rename_i x y hx hy
    rw [sOfs_eq hx] at ha
    rw [sOfs_eq hy] at hb
    rw [ha.s_eq, hb.s_eq]; exact .s _
  · exact .fn (by simpa using ha) (by simpa using hb)
end

def cellsOf : AV → List AV
  | .s v => v.cells.toList.map .s
  | .agg l => l
  | v => [v]
theorem conc_cells {M : Mem} {ρ : Rho} {a : AV} {v : Value} (h : Conc M ρ a v) : Concs M ρ (cellsOf a) v.cells.toList := by
  cases h <;> simp only [cellsOf, Value.cells] <;> first
    | exact Concs.ofS _
    | assumption
    | (refine .one ?_; constructor <;> assumption)

def isCell : AV → Bool
  | .s (.agg _) | .s (.tuple _) | .agg _ | .tup _ => false
  | _ => true
theorem oneCell_of {M : Mem} {ρ : Rho} {a : AV} {v : Value} (h : Conc M ρ a v) (hc : isCell a = true) : v.oneCell' = true := by
  cases h with
  | s v => cases v <;> simp_all [isCell, Value.oneCell']
  | _ => first | rfl | simp [isCell] at hc
theorem oneCells_of {M : Mem} {ρ : Rho} {as : List AV} {vs : List Value} (h : Concs M ρ as vs) (hc : as.all isCell = true) : ∀ u ∈ vs, u.oneCell' = true := by
  induction as generalizing vs with
  | nil => cases h; intro u hu; cases hu
  | cons a as ih =>
    cases h with
    | cons h t =>
      simp only [List.all_cons, Bool.and_eq_true] at hc
      intro u hu
      cases hu with
      | head => exact oneCell_of h hc.1
      | tail _ hm => exact ih t hc.2 u hm

end Go.Ab
/- A tree of places, numbered: what was put is got. -/
namespace Go.Ab

inductive Tr (α : Type) where
  | e
  | n (v : Option α) (l r : Tr α)

def way : Nat → Nat → List Bool
  | 0, _ => []
  | f + 1, i => if i = 0 then [] else (i % 2 == 1) :: way f ((i - 1) / 2)

section
variable {α : Type}
noncomputable def Tr.getW (p : List Bool) : Tr α → Option α :=
  List.rec (motive := fun _ => Tr α → Option α) (fun t => Tr.rec none (fun v _ _ _ _ => v) t) (fun b _ ih t => Tr.rec none (fun _ l r _ _ => Bool.rec (ih r) (ih l) b) t) p
noncomputable def Tr.setW (p : List Bool) : Tr α → α → Tr α :=
  List.rec (motive := fun _ => Tr α → α → Tr α) (fun t v => Tr.rec (.n (some v) .e .e) (fun _ l r _ _ => .n (some v) l r) t)
    (fun b _ ih t v => Tr.rec (Bool.rec (.n none .e (ih .e v)) (.n none (ih .e v) .e) b) (fun u l r _ _ => Bool.rec (.n u l (ih r v)) (.n u (ih l v) r) b) t) p
noncomputable def Tr.get (t : Tr α) (i : Nat) : Option α := t.getW (way (i + 1) i)
noncomputable def Tr.set (t : Tr α) (i : Nat) (v : α) : Tr α := t.setW (way (i + 1) i) v

theorem getW_setW (p q : List Bool) (t : Tr α) (v : α) : (t.setW p v).getW q = if p = q then some v else t.getW q := by
  induction p generalizing q t with
  | nil =>
    cases q with
    | nil => cases t <;> rfl
    | cons c q => cases t <;> cases c <;> simp [Tr.getW, Tr.setW] <;> (cases q <;> rfl)
  | cons b p ih =>
    cases q with
    | nil => cases t <;> cases b <;> simp [Tr.getW, Tr.setW]
    | cons c q =>
      cases t with
      | e =>
        cases b <;> cases c <;> simp [Tr.getW, Tr.setW]
        · have := ih q (.e : Tr α); simp only [Tr.getW, Tr.setW] at this; rw [this]; cases q <;> rfl
        · cases q <;> rfl
        · cases q <;> rfl
        · have := ih q (.e : Tr α); simp only [Tr.getW, Tr.setW] at this; rw [this]; cases q <;> rfl
      | n u l r =>
        cases b <;> cases c <;> simp [Tr.getW, Tr.setW]
        · have := ih q r; simp only [Tr.getW, Tr.setW] at this; exact this
        · have := ih q l; simp only [Tr.getW, Tr.setW] at this; exact this

def unway : List Bool → Nat
  | [] => 0
  | b :: p => if b then 2 * unway p + 1 else 2 * unway p + 2
theorem unway_way : ∀ (f i : Nat), i < f → unway (way f i) = i
  | 0, _, h => absurd h (Nat.not_lt_zero _)
  | f + 1, i, h => by
    unfold way
    split
    · rename_i h0; subst h0; rfl
    · rename_i h0
      have ih := unway_way f ((i - 1) / 2) (by omega)
      simp only [unway, ih]
      by_cases h1 : i % 2 = 1
      · simp [h1]; omega
      · simp [h1]; omega
theorem way_inj {i j : Nat} (h : way (i + 1) i = way (j + 1) j) : i = j := by
  have := congrArg unway h
  rwa [unway_way _ _ (by omega), unway_way _ _ (by omega)] at this

theorem Tr.get_set (t : Tr α) (i j : Nat) (v : α) : (t.set i v).get j = if i = j then some v else t.get j := by
  unfold Tr.get Tr.set
  rw [getW_setW]
  by_cases h : i = j
  · subst h; simp
  · simp only [h, if_false]
    rw [if_neg (fun e => h (way_inj e))]
theorem Tr.get_e (i : Nat) : (Tr.e : Tr α).get i = none := by
  unfold Tr.get
  cases way (i + 1) i <;> rfl
end
end Go.Ab
/- The abstract run: operations on abstract values, and code by fuel. -/
namespace Go.Ab

def uv : AV := .s undef

structure Tm where
  n : Nat
  t : Tr AV
noncomputable def Tm.get (tm : Tm) (i : Nat) : AV := (tm.t.get i).getD uv
noncomputable def Tm.set (tm : Tm) (i : Nat) (v : AV) : Tm :=
  match tm with
  | ⟨n, t⟩ => if i < n then ⟨n, t.set i v⟩ else ⟨n, t⟩
noncomputable def Tm.fill (tm : Tm) (i : Nat) : List AV → Tm
  | [] => tm
  | v :: r => Tm.fill (tm.set i v) (i + 1) r

structure ALoop where
  state : LoopState
  pending : Option Code
  tmps : Tm
  params : Array Tmp
  assign : Code
  body : Code
  defers : Nat

inductive AObj where
  | dead
  | cells (elem : TypeId) (es : Nat) (exact : Bool) (rows : List (List AV))
  | loop (l : ALoop)
  | defr
  | map (es : List (Value × AV × Nat)) (clock : Nat)
  | iter (m since : Nat) (seen : List Nat) (last : Nat)
  | siter (s : ByteArray) (pos : Nat)

structure AS where
  objs : Tr (Nat × AObj)
  next : Nat
  slot : Option Nat

def AS.newId (σ : AS) : Nat :=
  match σ with
  | ⟨_, next, slot⟩ => match slot with
    | none => next
    | some k => k
noncomputable def AS.get (σ : AS) (id : Nat) : Option AObj :=
  if id < σ.next then
    match σ.objs.get id with
    | some (_, o) => some o
    | none => none
  else none
noncomputable def putObj (objs : Tr (Nat × AObj)) (id : Nat) (o : AObj) : Tr (Nat × AObj) :=
  match objs.get id with
  | some (n, _) => objs.set id (n + 1, o)
  | none => objs.set id (0, o)
noncomputable def AS.set (σ : AS) (id : Nat) (o : AObj) : AS :=
  match σ with
  | ⟨objs, next, slot⟩ => ⟨putObj objs id o, next, slot⟩
noncomputable def AS.push (σ : AS) (o : AObj) : AS :=
  match σ with
  | ⟨objs, next, slot⟩ => match slot with
    | none => ⟨putObj objs next o, next + 1, none⟩
    | some k => ⟨putObj objs k o, next, none⟩

structure Cfg where
  tmps : Tm
  defs : List Nat
  st : AS

structure Gl where
  rows : Nat → Option (List AV)
  orc : FuncId → List AV → Option (AS → Option (AV × AS))
def evG (G : Gl) (g : Nat) : AV :=
  match G.rows g with
  | some row => .rptr ⟨g, 0, none⟩ row.length [row] 0 0
  | none => .s (.pointer (some ⟨g, 0, none⟩))
noncomputable def evT (G : Gl) (tmps : Tm) : Operand → AV
  | .tmp t => tmps.get t
  | .const v => .s v
  | .global g => evG G g
  | .func f => .s (.func (.func f) #[] #[])

inductive ANext where
  | val (v : AV)
  | enter (f : FuncId) (args : List AV)
  | round (l : Nat) (args : List AV)

def evalP {α : Type} (P : Program) : Sem α → Option α
  | .pure a => some a
  | .program k => evalP P (k P)
  | .mark _ k => evalP P k
  | _ => none

section ops
variable (P : Program)

def sz (t : TypeId) : Option Nat := (P.info? t).map (·.size)

def readAt (t : TypeId) (row : List AV) (f : Nat) : Option AV :=
  match P.underlying t with
  | some d =>
    if d.isRow then
      match sz P t with
      | some n => if f + n ≤ row.length then some (mkAgg ((row.drop f).take n)) else none
      | none => none
    else row[f]?
  | none => none

def writeRow (row : List AV) (f : Nat) (cs : List AV) : List AV := row.take f ++ cs ++ row.drop (f + cs.length)

noncomputable def AS.rows (σ : AS) (o : Nat) : Option (List (List AV)) :=
  match σ.get o with
  | some (.cells _ _ _ rows) => some rows
  | _ => none

noncomputable def effLoad (t : TypeId) (a : AV) (σ : AS) : Option AV :=
  match a with
  | .ptr o i f => (σ.rows o).bind fun rows => (rows[i]?).bind fun row => readAt P t row f
  | .rptr _ _ rows i f => (rows[i]?).bind fun row => readAt P t row f
  | _ => none

noncomputable def effStore (t : TypeId) (a v : AV) (σ : AS) : Option AS :=
  match a with
  | .ptr o i f =>
    match σ.get o with
    | some (.cells e es x rows) =>
      match rows[i]? with
      | some row =>
        let cs := cellsOf v
        if sz P t = some cs.length && f + cs.length ≤ row.length && cs.all isCell then
          some (σ.set o (.cells e es x (rows.set i (writeRow row f cs))))
        else none
      | none => none
    | _ => none
  | _ => none

noncomputable def effBox (elem : TypeId) (cs : List AV) (σ : AS) : ANext × AS :=
  (.val (.ptr σ.newId 0 0), σ.push (.cells elem cs.length true [cs]))

def afill (place : Nat → Option (Nat × Nat)) (cells : List AV) : List (Nat × AV) → Option (List AV)
  | [] => some cells
  | (i, v) :: rest =>
    match place i with
    | none => none
    | some (off, size) =>
      if (cellsOf v).length = size ∧ off + (cellsOf v).length ≤ cells.length then afill place (writeRow cells off (cellsOf v)) rest else none

def effBuild (t : TypeId) (parts : List (Nat × AV)) : Option AV :=
  match P.info? t, P.underlying t with
  | some it, some (.struct fields) =>
    match it.zero, fields.toList.mapM (fun f => (P.info? f.type).map fun i => (f.offset, i.size)) with
    | some z, some places => (afill (places.toArray[·]?) (z.cells.toList.map .s) parts).map mkAgg
    | _, _ => none
  | some it, some (.array _ elem) =>
    match it.zero, P.info? elem with
    | some z, some ie => (afill (fun i => some (i * ie.size, ie.size)) (z.cells.toList.map .s) parts).map mkAgg
    | _, _ => none
  | _, _ => none

def setRows (size : Nat) (rows : List (List AV)) : List (Nat × AV) → Option (List (List AV))
  | [] => some rows
  | (i, v) :: rest => if (cellsOf v).length = size ∧ i < rows.length then setRows size (rows.set i (cellsOf v)) rest else none

noncomputable def effBuildSlice (t : TypeId) (len : Nat) (parts : List (Nat × AV)) (σ : AS) : Option (ANext × AS) :=
  match P.underlying t with
  | some (.slice elem) =>
    match P.info? elem with
    | some info =>
      match info.zero with
      | some z =>
        if z.cells.size = info.size ∧ len * info.size ≤ 2 ^ 24 then
          match setRows info.size (List.replicate len (z.cells.toList.map .s)) parts with
          | some rows => some (.val (.sl σ.newId 0 len none), σ.push (.cells elem info.size true rows))
          | none => none
        else none
      | none => none
    | none => none
  | _ => none

noncomputable def effMakeSlice (t : TypeId) (l c : AV) (σ : AS) : Option (ANext × AS) :=
  match P.underlying t, l, c with
  | some (.slice elem), .s (.int _ len), .s (.int _ cap) =>
    match P.info? elem with
    | some info =>
      match info.zero with
      | some z =>
        if z.cells.size = info.size ∧ 0 ≤ len ∧ len ≤ cap ∧ cap < 2 ^ 47 ∧ info.bytes * cap ≤ 2 ^ 48 then
          some (.val (.sl σ.newId 0 len.toNat none), σ.push (.cells elem info.size true (List.replicate cap.toNat (z.cells.toList.map .s))))
        else none
      | none => none
    | none => none
  | _, _, _ => none

def effField (t : TypeId) (x : AV) (f : Nat) : Option AV :=
  match P.underlying t, x with
  | some (.struct fields), .agg cs => (fields[f]?).bind fun fd => readAt P fd.type cs fd.offset
  | _, _ => none

def effFieldAddr (t : TypeId) (x : AV) (f : Nat) : Option AV :=
  match P.underlying t with
  | some (.struct fields) =>
    match fields[f]? with
    | some fd =>
      match sz P fd.type with
      | some (_ + 1) =>
        match x with
        | .ptr o i g => some (.ptr o i (g + fd.offset))
        | .rptr a es rows i g => some (.rptr a es rows i (g + fd.offset))
        | _ => none
      | _ => none
    | none => none
  | _ => none

noncomputable def effIndexAddr (t : TypeId) (x ix : AV) (σ : AS) : Option AV :=
  match P.underlying t, ix with
  | some (.slice elem), .s (.int _ n) =>
    match sz P elem with
    | some size =>
      match x with
      | .sl o i len _ =>
        match σ.get o with
        | some (.cells _ es _ _) => if es = size ∧ 0 ≤ n ∧ n < len then some (.ptr o (i + n.toNat) 0) else none
        | _ => none
      | .rsl a es _ rows => if es = size ∧ 0 ≤ n ∧ n < rows.length then some (.rptr a es rows n.toNat 0) else none
      | _ => none
    | none => none
  | some (.array len elem), .s (.int _ n) =>
    match sz P elem with
    | some size =>
      if 0 ≤ n ∧ n < len then
        match x with
        | .ptr o i f => some (.ptr o i (f + n.toNat * size))
        | .rptr a es rows i f => some (.rptr a es rows i (f + n.toNat * size))
        | _ => none
      else none
    | none => none
  | _, _ => none

def effIndex (t : TypeId) (x ix : AV) : Option AV :=
  match P.underlying t, x, ix with
  | some (.array len elem), .agg cs, .s (.int _ n) =>
    if 0 ≤ n ∧ n < len then (sz P elem).bind fun size => readAt P elem cs (n.toNat * size) else none
  | _, _, _ => none

def bound (v : Option AV) (dflt y : Nat) : Option Nat :=
  match v with
  | none => some dflt
  | some (.s (.int _ n)) => if 0 ≤ n ∧ n ≤ y then some n.toNat else none
  | some _ => none

def mkSl (o i l h m : Nat) : AV := if m = l then .sl o i (h - l) (some (m - l)) else .sl o (i + l) (h - l) (some (m - l))

def slBounds (n top : Nat) (lo hi mx : Option AV) : Option (Nat × Nat × Nat) :=
  (bound mx top top).bind fun m => (bound hi n m).bind fun h => (bound lo 0 h).bind fun l => some (l, h, m)

noncomputable def effSlice (t : TypeId) (x : AV) (lo hi mx : Option AV) (σ : AS) : Option AV :=
  if mx.isSome && hi.isNone then none else
  match P.underlying t with
  | some (.slice elem) =>
    match sz P elem with
    | some size =>
      match x with
      | .sl o i n cap =>
        match σ.get o with
        | some (.cells _ es exact rows) =>
          if es = size ∧ i + n ≤ rows.length then
            match cap with
            | some c => (slBounds n c lo hi mx).map fun (l, h, m) => mkSl o i l h m
            | none =>
              match exact, mx with
              | _, some _ => (slBounds n (rows.length - i) lo hi mx).map fun (l, h, m) => mkSl o i l h m
              | true, none => (slBounds n (rows.length - i) lo hi none).map fun (l, h, m) => if m = l then .sl o i (h - l) (some 0) else .sl o (i + l) (h - l) none
              | false, none => (slBounds n (rows.length - i) lo hi none).bind fun (l, h, m) => if l = 0 ∨ l < m then some (.sl o (i + l) (h - l) none) else if h = l then some .sle else none
          else none
        | _ => none
      | .rsl a es cap rows =>
        if es = size then
          (slBounds rows.length cap lo hi mx).bind fun (l, h, m) =>
            if h ≤ rows.length then
              if l = 0 then some (.rsl a es m (rows.take h))
              else if m = l then some (.rsl a es 0 []) else some (.rsl (a.add (l * es)) es (m - l) ((rows.take h).drop l))
            else none
        else none
      | _ => none
    | none => none
  | _ => none

def effEq (t : TypeId) (x y : AV) : Option Bool :=
  match P.underlying t, x, y with
  | some (.pointer _), .ptr .., .s (.pointer none) => some false
  | some (.pointer _), .rptr .., .s (.pointer none) => some false
  | some (.pointer _), .s (.pointer none), .ptr .. => some false
  | some (.pointer _), .s (.pointer none), .rptr .. => some false
  | some (.slice _), .sl .., .s (.slice none _ _) => some false
  | some (.slice _), .rsl .., .s (.slice none _ _) => some false
  | some (.slice _), .s (.slice none _ _), .sl .. => some false
  | some (.slice _), .s (.slice none _ _), .rsl .. => some false
  | some (.func ..), .fn .., .s .nilFunc => some false
  | some (.func ..), .s .nilFunc, .fn .. => some false
  | some (.map ..), .mp .., .s (.map none) => some false
  | some (.map ..), .s (.map none), .mp .. => some false
  | some (.interface _), .ifc .., .s .nilIface => some false
  | some (.interface _), .s .nilIface, .ifc .. => some false
  | some (.interface _), .ifc a _, .s (.iface b _) => if a ≠ b then some false else none
  | some (.interface _), .s (.iface a _), .ifc b _ => if a ≠ b then some false else none
  | some (.interface _), .ifc a _, .ifc b _ => if a ≠ b then some false else none
  | _, _, _ => none

def effAssert (x : AV) (asserted : TypeId) (commaOk : Bool) : Option AV :=
  match P.underlying asserted, x with
  | some (.interface want), .ifc t v =>
    match P.info? t with
    | some i =>
      match Instr.missingMethod want i.methods with
      | none => some (if commaOk then mkTup [.ifc t v, .s (.bool true)] else .ifc t v)
      | some _ => if commaOk then ((P.info? asserted).bind (·.zero)).map fun z => mkTup [.s z, .s (.bool false)] else none
    | none => none
  | some (.interface _), _ => none
  | some _, .ifc t v =>
    if t = asserted then some (if commaOk then mkTup [v, .s (.bool true)] else v)
    else if commaOk then ((P.info? asserted).bind (·.zero)).map fun z => mkTup [.s z, .s (.bool false)] else none
  | _, _ => none

def isRef : AV → Bool
  | .s _ => false
  | _ => true

noncomputable def srcRows (size : Nat) (x : AV) (σ : AS) : Option (List (List AV)) :=
  match x with
  | .sl o i n _ =>
    match σ.get o with
    | some (.cells _ es _ rows) => if es = size ∧ i + n ≤ rows.length then some ((rows.drop i).take n) else none
    | _ => none
  | .rsl _ es _ rows => if es = size then some rows else none
  | .s (.slice none 0 _) => some []
  | .s (.slice (some _) 0 _) => some []
  | .s (.string b) => if size = 1 then some (b.data.toList.map fun x => [.s (.int .u8 x.toNat)]) else none
  | _ => none

def srcOk (P : Program) (tx : TypeId) (x : AV) : Bool :=
  match P.underlying tx, x with
  | some (.slice _), .sl .. | some (.slice _), .rsl .. | some (.slice _), .s (.slice ..) | some .string, .s (.string _) | some (.int _), .s (.int _ _) => true
  | _, _ => false

noncomputable def appRows (info : TypeInfo) (x : AV) (σ : AS) : Option (List (List AV)) :=
  match x with
  | .s (.int _ n) => match info.zero with
    | some z => if 0 ≤ n ∧ n.toNat < 2 ^ 40 ∧ n.toNat * info.bytes ≤ 2 ^ 48 then some (List.replicate n.toNat (z.cells.toList.map .s)) else none
    | none => none
  | _ => srcRows info.size x σ
noncomputable def effAppend (ats : Array TypeId) (s x : AV) (σ : AS) : Option (ANext × AS) :=
  match ats.toList with
  | [t, tx] =>
    if srcOk P tx x then
      match P.underlying t with
      | some (.slice elem) =>
        match P.info? elem with
        | some info =>
          match info.zero, appRows info x σ with
          | some z, some news =>
            let n := news.length
            if z.cells.size = info.size ∧ news.all (·.all isCell) then
              let grow (old : List (List AV)) : Option (ANext × AS) :=
                let need := old.length + n
                if (2 * need + 192) * info.bytes ≤ 2 ^ 48 ∧ need < 2 ^ 62 then
                  some (.val (.sl σ.newId 0 need none), σ.push (.cells elem info.size false (old ++ news)))
                else none
              match s with
              | .s (.slice none 0 0) => if n = 0 then some (.val (.s (.slice none 0 0)), σ) else grow []
              | .sl o i len cap =>
                match σ.get o with
                | some (.cells e es exact rows) =>
                  if es = info.size ∧ i + len ≤ rows.length then
                    match cap, exact with
                    | some c, _ =>
                      if len + n ≤ c then
                        if i + len + n ≤ rows.length then some (.val (.sl o i (len + n) (some c)), σ.set o (.cells e es exact (rows.take (i + len) ++ news ++ rows.drop (i + len + n)))) else none
                      else if len ≤ c then grow ((rows.drop i).take len) else none
                    | none, true =>
                      if i + len + n ≤ rows.length then some (.val (.sl o i (len + n) none), σ.set o (.cells e es true (rows.take (i + len) ++ news ++ rows.drop (i + len + n))))
                      else grow ((rows.drop i).take len)
                    | none, false =>
                      if n = 0 then some (.val (.sl o i len none), σ)
                      else if i + len + n ≤ rows.length then some (.val (.sl o i (len + n) none), σ.set o (.cells e es false (rows.take (i + len) ++ news ++ rows.drop (i + len + n))))
                      else if i = 0 ∧ len = rows.length ∧ e = elem ∧ (2 * (len + n) + 192) * info.bytes ≤ 2 ^ 48 ∧ len + n < 2 ^ 62 then
                        some (.val (.sl σ.newId 0 (len + n) none), (σ.set o .dead).push (.cells elem info.size false (rows ++ news)))
                      else none
                  else none
                | _ => none
              | .rsl a es cap rows =>
                if es = info.size then
                  if n = 0 then some (.val (.rsl a es cap rows), σ)
                  else if rows.length + n ≤ cap then none else grow rows
                else none
              | _ => none
            else none
          | _, _ => none
        | none => none
      | _ => none
    else none
  | _ => none

noncomputable def effCopy (ats : Array TypeId) (d x : AV) (σ : AS) : Option (ANext × AS) :=
  match ats[0]? with
  | some t =>
    match P.underlying t with
    | some (.slice elem) =>
      match sz P elem with
      | some size =>
        match srcRows size x σ, d with
        | some news, .sl o i n _ =>
          match σ.get o with
          | some (.cells e es exact rows) =>
            if es = size ∧ i + n ≤ rows.length ∧ news.all (·.all isCell) ∧ (isRef x = true ∨ news.length ≤ n) then
              let m := min news.length n
              some (.val (.s (.int .i64 m)), σ.set o (.cells e es exact (rows.take i ++ news.take m ++ rows.drop (i + m))))
            else none
          | _ => none
        | _, _ => none
      | none => none
    | _ => none
  | none => none

def effLen (ats : Array TypeId) (x : AV) : Option AV :=
  match (ats[0]?).bind P.underlying, x with
  | some (.slice _), .sl _ _ n _ => some (.s (.int .i64 n))
  | some (.slice _), .rsl _ _ _ rows => some (.s (.int .i64 rows.length))
  | some (.slice _), .sle => some (.s (.int .i64 0))
  | _, _ => none

noncomputable def effCap (ats : Array TypeId) (x : AV) (σ : AS) : Option AV :=
  match (ats[0]?).bind P.underlying, x with
  | some (.slice _), .sl _ _ _ (some c) => some (.s (.int .i64 c))
  | some (.slice _), .sl o i _ none =>
    match σ.get o with
    | some (.cells _ _ true rows) => some (.s (.int .i64 ((rows.length - i : Nat) : Int)))
    | _ => none
  | some (.slice _), .rsl _ _ cap _ => some (.s (.int .i64 cap))
  | _, _ => none

def target (f : AV) (args : List AV) : Option ANext :=
  match f with
  | .s (.func (.func g) first cap) => some (.enter g (first.toList.map .s ++ args ++ cap.toList.map .s))
  | .fn (.func g) first cap => some (.enter g (first ++ args ++ cap))
  | .yld o => some (.round o args)
  | _ => none

def targetM (recv : AV) (name : String) (args : List AV) : Option ANext :=
  let go (t : TypeId) (v : AV) : Option ANext :=
    match P.info? t with
    | some info =>
      match info.methods.toList.find? (·.name == name) with
      | some m =>
        if m.path.isEmpty then
          match m.func, P.underlying t with
          | some (g, true), some (.pointer _) => some (.enter g (v :: args))
          | some (_g, false), some (.pointer _) => none
          | some (g, false), some _ => some (.enter g (v :: args))
          | _, _ => none
        else none
      | none => none
    | none => none
  match recv with
  | .ifc t v => go t v
  | .s (.iface t v) => go t (.s v)
  | _ => none

def effPure (o : Oper) (ev : Operand → AV) : Option AV :=
  if o.op.operands.toList.all (fun x => !isRef (ev x)) then
    match evalP P (execOp (fun x => ((sOf (ev x)).getD undef)) o) with
    | some (.value v) => some (.s v)
    | _ => none
  else none

def withSt (σ : AS) (v : Option AV) : Option (ANext × AS) := v.map fun v => (.val v, σ)

def bytesOf : List (List AV) → Option (List UInt8)
  | [] => some []
  | r :: rs => match r, bytesOf rs with
    | [.s (.int .u8 n)], some bs => some (UInt8.ofNat n.toNat :: bs)
    | _, _ => none
noncomputable def effBytes (s t : TypeId) (x : AV) (σ : AS) : Option AV :=
  match P.underlying s, P.underlying t, x with
  | some (.slice e), some .string, .sl id i n _ =>
    match P.underlying e, σ.get id with
    | some (.int .u8), some (.cells _ es _ rows) => if es = 1 ∧ i + n ≤ rows.length then (bytesOf ((rows.drop i).take n)).map fun bs => .s (.string ⟨bs.toArray⟩) else none
    | _, _ => none
  | _, _, _ => none
noncomputable def effConv (o : Oper) (ev : Operand → AV) (s t : TypeId) (x : AV) (σ : AS) : Option (ANext × AS) :=
  if isRef x then withSt σ (effBytes P s t x σ) else withSt σ (effPure P o ev)

def chunks (k : Nat) : Nat → List AV → List (List AV)
  | 0, _ => []
  | n + 1, l => l.take k :: chunks k n (l.drop k)
def effArr (t : TypeId) (x : AV) (lo hi mx : Option AV) : Option AV :=
  match lo, hi, mx, x, P.underlying t with
  | none, none, none, .rptr a es [row] 0 f, some (.array n e) =>
    match sz P e with
    | some k => if n ≠ 0 ∧ es = row.length ∧ f + n * k ≤ row.length then some (.rsl (a.add f) k n (chunks k n (row.drop f))) else none
    | none => none
  | _, _, _, _, _ => none

def fastBin (op : BinOp) (a b : Value) : Option Value :=
  match a, b with
  | .int k x, .int k' y =>
    if k = k' then
      match op with
      | .add => some (.int k (k.wrap (x + y)))
      | .sub => some (.int k (k.wrap (x - y)))
      | .mul => some (.int k (k.wrap (x * y)))
      | .eql => some (.bool (x == y))
      | .neq => some (.bool (x != y))
      | .lss => some (.bool (x < y))
      | .leq => some (.bool (x ≤ y))
      | .gtr => some (.bool (x > y))
      | .geq => some (.bool (x ≥ y))
      | _ => none
    else none
  | _, _ => none

noncomputable def effMakeMap (t : TypeId) (r : Option AV) (σ : AS) : Option (ANext × AS) :=
  match r with
  | none => some (.val (.mp σ.newId), σ.push (.map [] 0))
  | some (.s (.int _ _)) => match P.underlying t with
    | some (.map ..) => some (.val (.mp σ.newId), σ.push (.map [] 0))
    | _ => none
  | _ => none
def keyEnts (es : List (Value × AV × Nat)) : List MapEntry := es.map fun p => ⟨p.1, undef, p.2.2⟩
def findAt (kt : TypeId) (kv : Value) (es : List (Value × AV × Nat)) (empty : Bool) : Option (Option (Nat × Value × AV × Nat)) :=
  match evalP P (Instr.checkKey empty 10000 kt kv), evalP P (Instr.findKey kt kv (keyEnts es)) with
  | some _, some (some (i, _)) => match es[i]? with
    | some e => some (some (i, e))
    | none => none
  | some _, some none => some none
  | _, _ => none
noncomputable def effMapUpdate (t : TypeId) (m k v : AV) (σ : AS) : Option (ANext × AS) :=
  match P.underlying t, m, k with
  | some (.map kt _), .mp o, .s kv =>
    match σ.get o with
    | some (.map es clock) =>
      match findAt P kt kv es false with
      | some (some (i, k0, _, b)) => if Instr.sameBits 10000 k0 kv then some (.val uv, σ.set o (.map (es.set i (kv, v, b)) clock)) else none
      | some none => some (.val uv, σ.set o (.map (es ++ [(kv, v, clock)]) (clock + 1)))
      | none => none
    | _ => none
  | _, _, _ => none
noncomputable def effMapEntry (t : TypeId) (m k : AV) (σ : AS) : Option (ANext × AS) :=
  match P.underlying t, m, k with
  | some (.map kt et), .mp o, .s kv =>
    match σ.get o with
    | some (.map es clock) =>
      match findAt P kt kv es false with
      | some (some (i, k0, v, b)) => if Instr.sameBits 10000 k0 kv then some (.val (mkTup [v, .s (goInt b)]), σ.set o (.map (es.set i (kv, v, b)) clock)) else none
      | some none => match (P.info? et).bind (·.zero) with
        | some z => some (.val (mkTup [.s z, .s (goInt clock)]), σ.set o (.map (es ++ [(kv, .s z, clock)]) (clock + 1)))
        | none => none
      | none => none
    | _ => none
  | _, _, _ => none
noncomputable def effEntryStore (m n v : AV) (σ : AS) : Option (ANext × AS) :=
  match m, n with
  | .mp o, .s (.int _ b) =>
    match σ.get o with
    | some (.map es clock) =>
      match es.findIdx? fun e => (e.2.2 : Int) == b with
      | some i => match es[i]? with
        | some (k0, _, b0) => some (.val uv, σ.set o (.map (es.set i (k0, v, b0)) clock))
        | none => none
      | none => none
    | _ => none
  | _, _ => none
noncomputable def effDelete (ats : Array TypeId) (m k : AV) (σ : AS) : Option (ANext × AS) :=
  match (ats[0]?).bind P.underlying, m, k with
  | some (.map kt _), .mp o, .s kv =>
    match σ.get o with
    | some (.map es clock) =>
      match findAt P kt kv es es.isEmpty with
      | some (some (i, _)) => some (.val (.s (.tuple #[])), σ.set o (.map (es.eraseIdx i) clock))
      | some none => some (.val (.s (.tuple #[])), σ.set o (.map es clock))
      | none => none
    | _ => none
  | _, _, _ => none
noncomputable def effLookup (o : Oper) (ev : Operand → AV) (t : TypeId) (x k : AV) (ok : Bool) (σ : AS) : Option (ANext × AS) :=
  match x with
  | .mp id =>
    match P.underlying t, k with
    | some (.map kt et), .s kv =>
      match σ.get id with
      | some (.map es _) =>
        match findAt P kt kv es es.isEmpty with
        | some (some (_, _, v, _)) => some (.val (if ok then mkTup [v, .s (.bool true)] else v), σ)
        | some none => match (P.info? et).bind (·.zero) with
          | some z => some (.val (.s (if ok then .tuple #[z, .bool false] else z)), σ)
          | none => none
        | none => none
      | _ => none
    | _, _ => none
  | _ => withSt σ (effPure P o ev)
noncomputable def effRange (t : TypeId) (x : AV) (σ : AS) : Option (ANext × AS) :=
  match P.underlying t, x with
  | some (.map ..), .mp o => match σ.get o with
    | some (.map _ clock) => some (.val (.ptr σ.newId 0 0), σ.push (.iter o clock [] clock))
    | _ => none
  | some .string, .s (.string s) => some (.val (.ptr σ.newId 0 0), σ.push (.siter s 0))
  | _, _ => none
noncomputable def effNext (it : AV) (isString : Bool) (σ : AS) : Option (ANext × AS) :=
  match it, isString with
  | .ptr i 0 0, false => match σ.get i with
    | some (.iter o _ seen last) => match σ.get o with
      | some (.map es _) => if es.all (fun e => seen.contains e.2.2 && decide (e.2.2 < last)) then some (.val (.s (.tuple #[.bool false])), σ) else none
      | _ => none
    | _ => none
  | .ptr i 0 0, true => match σ.get i with
    | some (.siter s pos) =>
      if pos < s.size then
        some (.val (.s (.tuple #[.bool true, goInt pos, .int .i32 (Utf8.decode s pos).1])), σ.set i (.siter s (pos + (Utf8.decode s pos).2)))
      else some (.val (.s (.tuple #[.bool false])), σ)
    | _ => none
  | _, _ => none

noncomputable def effEntry (it : AV) (σ : AS) : Option (ANext × AS) :=
  match it with
  | .ptr i 0 0 => match σ.get i with
    | some (.iter o _ seen last) => match seen.getLast?, σ.get o with
      | some st, some (.map es clock) =>
        if clock = last then
          match es.find? (fun e => e.2.2 == st) with
          | some (k, v, _) => some (.val (mkTup [.s k, v]), σ)
          | none => none
        else none
      | _, _ => none
    | _ => none
  | _ => none

noncomputable def effPick (ev : Operand → AV) (c a b : Operand) (σ : AS) : Option (ANext × AS) :=
  match ev c with
  | .s (.bool t) => some (.val (if t then ev a else ev b), σ)
  | _ => none
noncomputable def effAlloc (elem : TypeId) (σ : AS) : Option (ANext × AS) := ((P.info? elem).bind (·.zero)).map fun z => effBox elem (z.cells.toList.map .s) σ
noncomputable def effMkIfc (t : TypeId) (x : AV) (σ : AS) : Option (ANext × AS) :=
  match P.underlying t with
  | some (.interface _) => none
  | some _ => some (.val (mkIfc t x), σ)
  | none => none
noncomputable def effNil (o : Oper) (ev : Operand → AV) (x : AV) (σ : AS) : Option (ANext × AS) :=
  match x with
  | .ptr o i f => some (.val (.ptr o i f), σ)
  | .rptr a es rows i f => some (.val (.rptr a es rows i f), σ)
  | .ifc t v => some (.val (.ifc t v), σ)
  | .yld l => some (.val (.yld l), σ)
  | .fn (.func g) a b => some (.val (.fn (.func g) a b), σ)
  | _ => withSt σ (effPure P o ev)
noncomputable def effExtract (o : Oper) (ev : Operand → AV) (x : AV) (i : Nat) (σ : AS) : Option (ANext × AS) :=
  match x with
  | .tup l => withSt σ l[i]?
  | .s (.tuple vs) => withSt σ (vs.toList[i]?.map .s)
  | _ => withSt σ (effPure P o ev)
noncomputable def effFieldOp (o : Oper) (ev : Operand → AV) (t : TypeId) (x : AV) (f : Nat) (σ : AS) : Option (ANext × AS) :=
  match x with
  | .agg cs => withSt σ (effField P t (.agg cs) f)
  | _ => withSt σ (effPure P o ev)
noncomputable def effIndexOp (o : Oper) (ev : Operand → AV) (t : TypeId) (x ix : AV) (σ : AS) : Option (ANext × AS) :=
  match x with
  | .agg cs => withSt σ (effIndex P t (.agg cs) ix)
  | _ => withSt σ (effPure P o ev)
noncomputable def effSliceOp (o : Oper) (ev : Operand → AV) (t : TypeId) (x : AV) (lo hi mx : Option AV) (σ : AS) : Option (ANext × AS) :=
  if isRef x then withSt σ (effSlice P t x lo hi mx σ) else withSt σ (effPure P o ev)
noncomputable def effSliceTop (o : Oper) (ev : Operand → AV) (t : TypeId) (x : AV) (lo hi mx : Option AV) (σ : AS) : Option (ANext × AS) :=
  match x with
  | .rptr a es rows i f => withSt σ (effArr P t (.rptr a es rows i f) lo hi mx)
  | _ => effSliceOp P o ev t x lo hi mx σ
noncomputable def effBin (op : BinOp) (t : TypeId) (x y : Operand) (a b : AV) (σ : AS) : Option (ANext × AS) :=
  match a, b with
  | .s u, .s v =>
    match fastBin op u v with
    | some r => some (.val (.s r), σ)
    | none => match evalP P (do eqGuard op t x y u v; binOp op t u v) with
      | some r => some (.val (.s r), σ)
      | none => none
  | a, b =>
    match op with
    | .eql => (effEq P t a b).map fun r => (.val (.s (.bool r)), σ)
    | .neq => (effEq P t a b).map fun r => (.val (.s (.bool !r)), σ)
    | _ => none
noncomputable def effAssertOp (o : Oper) (ev : Operand → AV) (x : AV) (asserted : TypeId) (ok : Bool) (σ : AS) : Option (ANext × AS) :=
  if isRef x then withSt σ (effAssert P x asserted ok) else withSt σ (effPure P o ev)
noncomputable def effLenOp (o : Oper) (ev : Operand → AV) (ats : Array TypeId) (x : AV) (σ : AS) : Option (ANext × AS) :=
  if isRef x then withSt σ (effLen P ats x) else withSt σ (effPure P o ev)
noncomputable def effCapOp (o : Oper) (ev : Operand → AV) (ats : Array TypeId) (x : AV) (σ : AS) : Option (ANext × AS) :=
  if isRef x then withSt σ (effCap P ats x σ) else withSt σ (effPure P o ev)
noncomputable def effBuiltin (o : Oper) (ev : Operand → AV) (b : Builtin) (ats : Array TypeId) (args : List AV) (σ : AS) : Option (ANext × AS) :=
  match b, args with
  | .append, [s, x] => effAppend P ats s x σ
  | .delete, [m, k] => effDelete P ats m k σ
  | .copy, [d, x] => effCopy P ats d x σ
  | .len, [x] => effLenOp P o ev ats x σ
  | .cap, [x] => effCapOp P o ev ats x σ
  | .min, _ | .max, _ => withSt σ (effPure P o ev)
  | _, _ => none
def bodyless (f : AV) : Bool :=
  match f with
  | .s (.func (.func g) _ _) => match P.funcs[g]? with
    | some fn => fn.body.isNone
    | none => false
  | _ => false
noncomputable def effCall (o : Oper) (ev : Operand → AV) (c : Call) (σ : AS) : Option (ANext × AS) :=
  match c.callee with
  | .value f => if bodyless P (ev f) then withSt σ (effPure P o ev) else (target (ev f) (c.args.toList.map ev)).map fun r => (r, σ)
  | .invoke recv name => (targetM P (ev recv) name (c.args.toList.map ev)).map fun r => (r, σ)
  | .builtin b => effBuiltin P o ev b c.argTypes (c.args.toList.map ev) σ

noncomputable def eff (o : Oper) (ev : Operand → AV) (σ : AS) : Option (ANext × AS) :=
  match o.op with
  | .move x => some (.val (ev x), σ)
  | .assign x => some (.val (ev x), σ)
  | .pick c a b => effPick ev c a b σ
  | .load t a => withSt σ (effLoad P t (ev a) σ)
  | .store t a v => (effStore P t (ev a) (ev v) σ).map fun σ' => (.val uv, σ')
  | .alloc elem => effAlloc P elem σ
  | .box elem v => some (effBox elem (cellsOf (ev v)) σ)
  | .build t parts => withSt σ (effBuild P t (parts.toList.map fun p => (p.1, ev p.2)))
  | .buildSlice t len parts => effBuildSlice P t len (parts.toList.map fun p => (p.1, ev p.2)) σ
  | .makeSlice t l c => effMakeSlice P t (ev l) (ev c) σ
  | .makeFunc fn first captured => some (.val (mkFn fn (first.toList.map ev) (captured.toList.map ev)), σ)
  | .makeInterface t x => effMkIfc P t (ev x) σ
  | .fieldAddr t x f => withSt σ (effFieldAddr P t (ev x) f)
  | .indexAddr t x ix => withSt σ (effIndexAddr P t (ev x) (ev ix) σ)
  | .nilCheck x => effNil P o ev (ev x) σ
  | .extract t i => effExtract P o ev (ev t) i σ
  | .field t x f => effFieldOp P o ev t (ev x) f σ
  | .index t x ix => effIndexOp P o ev t (ev x) (ev ix) σ
  | .slice t x lo hi mx => effSliceTop P o ev t (ev x) (lo.map ev) (hi.map ev) (mx.map ev) σ
  | .binOp op t x y _ => effBin P op t x y (ev x) (ev y) σ
  | .typeAssert x _ asserted ok => effAssertOp P o ev (ev x) asserted ok σ
  | .unOp _ _ _ => withSt σ (effPure P o ev)
  | .convert s t x => effConv P o ev s t (ev x) σ
  | .call c => effCall P o ev c σ
  | .makeMap t r => effMakeMap P t (r.map ev) σ
  | .range t x => effRange P t (ev x) σ
  | .next it isString => effNext (ev it) isString σ
  | .entry it => effEntry (ev it) σ
  | .mapUpdate t m k v => effMapUpdate P t (ev m) (ev k) (ev v) σ
  | .lookup t x k ok => effLookup P o ev t (ev x) (ev k) ok σ
  | .mapEntry t m k => effMapEntry P t (ev m) (ev k) σ
  | .entryStore _ m n v => effEntryStore (ev m) (ev n) (ev v) σ
  | _ => none
end ops

def cls (o : Oper) : Nat :=
  match o.op with
  | .move _ | .assign _ | .pick .. | .build .. | .unOp .. | .binOp .. | .extract .. | .field .. | .index .. | .makeFunc .. | .makeInterface .. | .typeAssert .. | .fieldAddr .. | .nilCheck _ => 0
  | .load .. | .indexAddr .. | .slice .. | .convert .. | .lookup .. => 1
  | .alloc _ | .box .. | .buildSlice .. | .makeSlice .. | .makeMap .. => 3
  | .call c => match c.callee with
    | .builtin .len => 0
    | .builtin .min => 0
    | .builtin .max => 0
    | _ => 2
  | _ => 2

def bindsOf (o : Oper) : List Nat := (o.after.toList.filter (Region.binds .any)).map (·.on)
def mask (acc : List Nat) (o : Oper) : Nat := (bindsOf o).foldl (fun s e => s ||| (2 ^ e ||| acc.getD e 0)) 0
def masks : List Oper → List Nat → List Nat
  | [], acc => acc
  | o :: r, acc => masks r (acc ++ [mask acc o])
def edgesOk : List Oper → Nat → Bool
  | [], _ => true
  | o :: r, j => (bindsOf o).all (· < j) && edgesOk r (j + 1)
def isConv (o : Oper) : Bool := match o.op with
  | .convert .. => true
  | _ => false
def pairOk (st : Bool) (ops : Array Oper) (x y : Oper) : Bool := x.apart ops y && (cls x == 0 || cls y == 0 || cls x == 1 || cls y == 3 || isConv y || (st && cls x == 3 && cls y == 1))
def idOf : AV → Option Nat
  | .ptr o _ _ => some o
  | .sl o _ _ _ => some o
  | .mp o => some o
  | _ => none
inductive Seen where
  | all (id : Nat) (stamp : Nat)
  | size (id : Nat) (es : Nat)
noncomputable def seenAll (σ : AS) (v : AV) : Option Seen :=
  match idOf v with
  | some id => match σ.objs.get id with
    | some (n, _) => some (.all id n)
    | none => none
  | none => none
noncomputable def seenSl (σ : AS) (v : AV) : Option Seen :=
  match v with
  | .sl id _ _ _ => match σ.objs.get id with
    | some (_, .cells _ es _ _) => some (.size id es)
    | _ => none
  | _ => none
noncomputable def readOf (o : Oper) (ev : Operand → AV) (σ : AS) : Option Seen :=
  match o.op with
  | .load _ a => seenAll σ (ev a)
  | .indexAddr _ x _ => seenSl σ (ev x)
  | .slice _ x _ _ _ => seenAll σ (ev x)
  | .convert _ _ x => seenAll σ (ev x)
  | .lookup _ x _ _ => seenAll σ (ev x)
  | _ => none
noncomputable def Seen.stands (σ : AS) : Seen → Bool
  | .all id n => match σ.objs.get id with
    | some (m, _) => m == n
    | none => false
  | .size id es => match σ.objs.get id with
    | some (_, .cells _ es' _ _) => es' == es
    | _ => false

def Seen.name : Seen → Nat
  | .all id _ => id
  | .size id _ => id
def lateOk (st : Bool) (base : Nat) (ops : Array Oper) (i : Nat) (o : Oper) (sn : Option Seen) : Bool :=
  if isConv o then match sn with
    | none => true
    | some (.all id n) => n == 0 && ((bindsOf o).any fun e => id == base + e) && decide (id < base + ops.size)
    | some (.size _ _) => false
  else if st && cls o == 1 then match sn with
    | none => true
    | some x => decide (x.name < base) || decide (base + ops.size ≤ x.name) || ((masks ops.toList []).getD i 0).testBit (x.name - base)
  else true

def wbits : List Oper → Nat → Nat
  | [], _ => 0
  | o :: r, j => (if cls o == 2 || cls o == 3 then 2 ^ j else 0) ||| wbits r (j + 1)
def isEarly (ms : List Nat) (wm : Nat) (o : Oper) (j : Nat) : Bool := (cls o == 0 || cls o == 1) && (ms.getD j 0) &&& wm == 0
def ordPart (ms : List Nat) (wm : Nat) (want : Bool) : List Oper → Nat → List Nat
  | [], _ => []
  | o :: r, j => if isEarly ms wm o j == want then j :: ordPart ms wm want r (j + 1) else ordPart ms wm want r (j + 1)
def pairAt (st : Bool) (ops : Array Oper) (m : Nat) (y : Oper) (i : Nat) : Bool :=
  m.testBit i || match ops[i]? with
    | some x => pairOk st ops x y
    | none => false
def checkFrom (st : Bool) (ops : Array Oper) (ms : List Nat) : List Nat → List Nat → Bool
  | [], _ => true
  | j :: r, seen => match ops[j]? with
    | some y => !seen.contains j && (bindsOf y).all (fun e => seen.contains e) && seen.all (pairAt st ops (ms.getD j 0) y) && checkFrom st ops ms r (j :: seen)
    | none => false
def flagsAt (ops : Array Oper) (m : Nat) (y : Oper) (seen : List Nat) : List Nat :=
  if cls y == 2 then seen.filter fun i => !m.testBit i && match ops[i]? with
    | some x => cls x == 1
    | none => false
  else []
def planFrom (ops : Array Oper) (ms : List Nat) : List Nat → List Nat → List (Nat × List Nat)
  | [], _ => []
  | j :: r, seen => match ops[j]? with
    | some y => (j, flagsAt ops (ms.getD j 0) y seen) :: planFrom ops ms r (j :: seen)
    | none => []
def drawOrd0 (ops : Array Oper) (ms : List Nat) : List Nat := ordPart ms (wbits ops.toList 0) true ops.toList 0 ++ ordPart ms (wbits ops.toList 0) false ops.toList 0
def nextOp (look : Bool) (seen : List Nat) : List Oper → Nat → Option Nat
  | [], _ => none
  | o :: r, j => if !seen.contains j && (!look || cls o == 0 || cls o == 1) && (bindsOf o).all (fun e => seen.contains e) then some j else nextOp look seen r (j + 1)
def greedy (l : List Oper) : Nat → List Nat → List Nat
  | 0, _ => []
  | f + 1, seen => match nextOp true seen l 0 with
    | some j => j :: greedy l f (j :: seen)
    | none => match nextOp false seen l 0 with
      | some j => j :: greedy l f (j :: seen)
      | none => []
def drawOrd (st : Bool) (ops : Array Oper) (ms : List Nat) : List Nat := if checkFrom st ops ms (drawOrd0 ops ms) [] then drawOrd0 ops ms else greedy ops.toList ops.size []
def drawnOkS (st : Bool) (ops : Array Oper) : Bool := edgesOk ops.toList 0 && (drawOrd st ops (masks ops.toList [])).length == ops.size && checkFrom st ops (masks ops.toList []) (drawOrd st ops (masks ops.toList [])) []
def planS (st : Bool) (ops : Array Oper) : List (Nat × List Nat) := planFrom ops (masks ops.toList []) (drawOrd st ops (masks ops.toList [])) []
def drawnOk (ops : Array Oper) : Bool := drawnOkS false ops
def plan (ops : Array Oper) : List (Nat × List Nat) := planS false ops

inductive AEx where
  | normal
  | exit (id : Nat)
  | ret
  deriving DecidableEq

section run
variable (P : Program) (G : Gl)

noncomputable def aresult (tm : Tm) (σ : AS) : ResultVar → Option AV
  | .tmp t => some (tm.get t)
  | .cell a t => effLoad P t (tm.get a) σ
noncomputable def aresultL (tm : Tm) (σ : AS) : List ResultVar → Option (List AV)
  | [] => some []
  | r :: rs => match aresult P tm σ r, aresultL tm σ rs with
    | some v, some vs => some (v :: vs)
    | _, _ => none
def tupled : List AV → AV
  | [v] => v
  | vs => mkTup vs
noncomputable def aresults (fn : Func) (tm : Tm) (σ : AS) : Option AV := (aresultL P tm σ fn.results.toList).map tupled

noncomputable def dropDefs (σ : AS) : List Nat → Option AS
  | [] => some σ
  | d :: ds => match σ.get d with
    | some .defr => dropDefs (σ.set d .dead) ds
    | _ => none

variable (ex : Option Nat → Code → Cfg → Option (AEx × Cfg))

noncomputable def callBody (f : FuncId) (args : List AV) (σ : AS) : Option (AV × AS) :=
  match P.funcs[f]? with
  | some fn =>
    match fn.body with
    | some c =>
      match ex none c { tmps := Tm.fill ⟨max args.length fn.ntmps, .e⟩ 0 args, defs := [], st := σ } with
      | some (.normal, s) | some (.ret, s) =>
        match dropDefs s.st s.defs with
        | some σ' => match aresults P fn s.tmps σ' with
          | some v => some (v, σ')
          | none => none
        | none => none
      | _ => none
    | none => none
  | none => none

noncomputable def callWith (f : FuncId) (args : List AV) (σ : AS) : Option (AV × AS) :=
  match G.orc f args with
  | some h => h σ
  | none => callBody P ex f args σ

def jumpOf : AEx → Option Code
  | .normal => none
  | .ret => some .ret
  | .exit id => some (.exit id)

noncomputable def roundWith (l : Nat) (args : List AV) (σ : AS) : Option (AV × AS) :=
  match σ.get l with
  | some (.loop r) =>
    if r.state = .ready ∧ args.length = r.params.size then
      let tmps := (r.params.toList.zip args).foldl (fun (ts : Tm) (p : Tmp × AV) => ts.set p.1 p.2) r.tmps
      match ex (some l) r.assign { tmps, defs := [], st := σ } with
      | some (.normal, s₁) =>
        match s₁.st.get l with
        | some (.loop r₁) =>
          if r₁.state = .ready then
            match ex (some l) r.body { s₁ with st := s₁.st.set l (.loop { r₁ with state := .busy }) } with
            | some (e, s₂) =>
              match s₂.st.get l with
              | some (.loop r₂) =>
                some (.s (.bool (jumpOf e).isNone), s₂.st.set l (.loop { r₂ with state := if (jumpOf e).isNone then .ready else .done, pending := jumpOf e }))
              | _ => none
            | none => none
          else none
        | _ => none
      | _ => none
    else none
  | _ => none

noncomputable def put (tmps : Tm) (dst : Option Tmp) (v : AV) : Tm :=
  match dst with
  | some d => tmps.set d v
  | none => tmps

noncomputable def ayielded (ops : Array Oper) (tmps : Tm) (j : Nat) : Option Bool :=
  match (ops[j]?).bind (·.dst) with
  | some t => match tmps.get t with
    | .s (.bool b) => some b
    | _ => none
  | none => none

noncomputable def stepVal (dst : Option Tmp) (tm : Tm) (defs : List Nat) : Option (AV × AS) → Option Cfg
  | some (v, σ) => some ⟨put tm dst v, defs, σ⟩
  | none => none

noncomputable def resNext : Option (ANext × AS) → Option (AV × AS)
  | some (.val v, σ) => some (v, σ)
  | some (.enter f args, σ) => callWith P G ex f args σ
  | some (.round l args, σ) => roundWith ex l args σ
  | none => none

noncomputable def resO (ops : Array Oper) (o : Oper) (tm : Tm) (σ : AS) : Option (AV × AS) :=
  if Region.wanted o (ayielded ops tm) then resNext P G ex (eff P o (evT G tm) σ) else some (uv, σ)

noncomputable def stepO (ops : Array Oper) (o : Oper) (s : Cfg) : Option Cfg :=
  match s with
  | ⟨tm, defs, σ⟩ => stepVal o.dst tm defs (resO P G ex ops o tm σ)

noncomputable def resA (k : Nat) (ops : Array Oper) (o : Oper) (tm : Tm) (σ : AS) : Option (AV × AS) :=
  match σ with
  | ⟨objs, next, _⟩ =>
    match objs.get k with
    | some _ => none
    | none => match resO P G ex ops o tm ⟨objs, next, some k⟩ with
      | some (v, ⟨objs', next', _⟩) => some (v, ⟨objs', next', none⟩)
      | none => none

noncomputable def resX (base : Nat) (ops : Array Oper) (i : Nat) (o : Oper) (tm : Tm) (σ : AS) : Option (AV × AS) :=
  if cls o == 3 then resA P G ex (base + i) ops o tm σ
  else match σ with
    | ⟨objs, next, _⟩ => match resO P G ex ops o tm ⟨objs, next, none⟩ with
      | some (v, ⟨objs', next', _⟩) => some (v, ⟨objs', next', none⟩)
      | none => none

noncomputable def stepX (base : Nat) (ops : Array Oper) (i : Nat) (s : Cfg) : Option Cfg :=
  match ops[i]? with
  | none => none
  | some o =>
    match s with
    | ⟨tm, defs, σ⟩ => stepVal o.dst tm defs (resX P G ex base ops i o tm σ)

abbrev Rec := Nat → Option Seen
def Rec.upd (rc : Rec) (k : Nat) (v : Option Seen) : Rec := fun j => if j = k then v else rc j

noncomputable def stands (rc : Rec) (σ' : AS) (fl : List Nat) : Bool := fl.all fun k => match rc k with
  | some x => x.stands σ'
  | none => true

noncomputable def stepD (st : Bool) (base : Nat) (ops : Array Oper) (i : Nat) (fl : List Nat) (s : Cfg) (rc : Rec) : Option (Cfg × Rec) :=
  match ops[i]? with
  | none => none
  | some o =>
    match s with
    | ⟨tm, defs, σ⟩ =>
      match resX P G ex base ops i o tm σ with
      | some (v, σ') => if stands rc σ' fl && lateOk st base ops i o (if Region.wanted o (ayielded ops tm) then readOf o (evT G tm) σ else none) then some (⟨put tm o.dst v, defs, σ'⟩, rc.upd i (if Region.wanted o (ayielded ops tm) then readOf o (evT G tm) σ else none)) else none
      | none => none

noncomputable def runD (st : Bool) (base : Nat) (ops : Array Oper) : List (Nat × List Nat) → Cfg → Rec → Option Cfg
  | [], s, _ => some s
  | (i, fl) :: r, s, rc => match stepD P G ex st base ops i fl s rc with
    | some (s', rc') => runD st base ops r s' rc'
    | none => none

noncomputable def runL (ops : Array Oper) : List Oper → Cfg → Option Cfg
  | [], s => some s
  | o :: r, s => match stepO P G ex ops o s with
    | some s' => runL ops r s'
    | none => none

noncomputable def rangeWith (rd : Option Nat) (f : Operand) (params : Array Tmp) (assign body : Code) (s : Cfg) : Option (Option Code × Cfg) :=
  let front : Option (Nat × List Nat × AS) := match rd with
    | none => some (s.st.newId, [s.st.newId], s.st.push .defr)
    | some l => match s.st.get l with
      | some (.loop r) => some (r.defers, [], s.st)
      | _ => none
  match front with
  | some (d, mark, σ₁) =>
    let l := σ₁.newId
    let σ₂ := σ₁.push (.loop { state := .ready, pending := none, tmps := s.tmps, params, assign, body, defers := d })
    match target (evT G s.tmps f) [.yld l] with
    | some (.enter g args) =>
      match callWith P G ex g args σ₂ with
      | some (_, σ₃) =>
        match σ₃.get l with
        | some (.loop r) =>
          if r.state = .busy then none
          else some (r.pending, { tmps := s.tmps, defs := mark ++ s.defs, st := σ₃.set l (.loop { r with state := .exhausted }) })
        | _ => none
      | none => none
    | _ => none
  | none => none
end run

section steps
variable (P : Program) (G : Gl) (ex : Option Nat → Code → Cfg → Option (AEx × Cfg)) (rd : Option Nat)
def stSeq (a b : Code) (s : Cfg) : Option (AEx × Cfg) :=
  match ex rd a s with
  | some (.normal, s') => ex rd b s'
  | r => r
noncomputable def stCond (x : Operand) (a b : Code) (s : Cfg) : Option (AEx × Cfg) :=
  match evT G s.tmps x with
  | .s (.bool t) => ex rd (if t then a else b) s
  | _ => none
def stBlock (id : Nat) (b : Code) (s : Cfg) : Option (AEx × Cfg) :=
  match ex rd b s with
  | some (.exit id', s') => some (if id' = id then .normal else .exit id', s')
  | r => r
def stLoop (b : Code) (s : Cfg) : Option (AEx × Cfg) :=
  match ex rd b s with
  | some (.normal, s') => ex rd (.loop b) s'
  | r => r
noncomputable def stRegion (ops : Array Oper) (s : Cfg) : Option (AEx × Cfg) :=
  match runL P G ex ops ops.toList s with
  | some s' => some (.normal, s')
  | none => none
noncomputable def stDrawS (st : Bool) (ops : Array Oper) (s : Cfg) : Option (AEx × Cfg) :=
  match s with
  | ⟨tm, defs, ⟨objs, next, _⟩⟩ =>
    match runD P G ex st next ops (planS st ops) ⟨tm, defs, ⟨objs, next + ops.size, none⟩⟩ (fun _ => none) with
    | some s' => some (.normal, s')
    | none => none
noncomputable def stDraw (ops : Array Oper) (s : Cfg) : Option (AEx × Cfg) :=
  if drawnOk ops then stDrawS P G ex false ops s
  else if drawnOkS true ops then stDrawS P G ex true ops s
  else none
noncomputable def stRange (f : Operand) (params : Array Tmp) (assign body : Code) (s : Cfg) : Option (AEx × Cfg) :=
  match rangeWith P G ex rd f params assign body s with
  | some (none, s') => some (.normal, s')
  | some (some c, s') => ex rd c s'
  | none => none
noncomputable def execStep (c : Code) (s : Cfg) : Option (AEx × Cfg) :=
  match c with
  | .skip => some (.normal, s)
  | .label _ => some (.normal, s)
  | .seq a b => stSeq ex rd a b s
  | .cond x a b => stCond G ex rd x a b s
  | .block id b => stBlock ex rd id b s
  | .loop b => stLoop ex rd b s
  | .scope b => ex rd b s
  | .exit id => some (.exit id, s)
  | .ret => some (.ret, s)
  | .region _ ops draw => if draw then stDraw P G ex ops s else stRegion P G ex ops s
  | .rangeFunc f params assign body => stRange P G ex rd f params assign body s
  | _ => none
end steps

noncomputable def exec (P : Program) (G : Gl) (n : Nat) : Option Nat → Code → Cfg → Option (AEx × Cfg) :=
  Nat.rec (motive := fun _ => Option Nat → Code → Cfg → Option (AEx × Cfg)) (fun _ _ _ => none) (fun _ ih => execStep P G ih) n

noncomputable def runCall (P : Program) (G : Gl) (n : Nat) (f : FuncId) (args : List AV) : Option (AV × AS) :=
  callWith P G (exec P G n) f args ⟨.e, 0, none⟩

end Go.Ab
/- How an abstract heap stands for a world; what keeps it so. -/
namespace Go.Ab

abbrev memOf (B : World) : Mem := fun b => B.heap[b]?

def AObj.live : AObj → Bool
  | .dead => false
  | _ => true

structure TmRel (M : Mem) (ρ : Rho) (tm : Tm) (arr : Array Value) : Prop where
  size : tm.n = arr.size
  get : ∀ i, Conc M ρ (tm.get i) (arr.getD i undef)

theorem TmRel.mono {M : Mem} {ρ ρ' : Rho} (hle : ρ.le ρ') {tm : Tm} {arr : Array Value} (h : TmRel M ρ tm arr) : TmRel M ρ' tm arr :=
  ⟨h.size, fun i => Conc.mono hle (h.get i)⟩

theorem Tm.get_set (tm : Tm) (i j : Nat) (v : AV) : (tm.set i v).get j = if i = j ∧ i < tm.n then v else tm.get j := by
  obtain ⟨n, t⟩ := tm
  unfold Tm.set
  by_cases h : i < n
  · simp only [h, if_true, Tm.get, Tr.get_set]
    by_cases he : i = j <;> simp [he]
  · simp [h]
theorem Tm.n_set (tm : Tm) (i : Nat) (v : AV) : (tm.set i v).n = tm.n := by
  obtain ⟨n, t⟩ := tm
  unfold Tm.set
  by_cases h : i < n <;> simp [h]

theorem TmRel.set {M : Mem} {ρ : Rho} {tm : Tm} {arr : Array Value} (h : TmRel M ρ tm arr) {v : AV} {c : Value} (hc : Conc M ρ v c) (i : Nat) : TmRel M ρ (tm.set i v) (arr.setIfInBounds i c) := by
  refine ⟨by rw [Tm.n_set, h.size, Array.size_setIfInBounds], fun j => ?_⟩
  rw [Tm.get_set, h.size]
  by_cases hij : i = j
  · subst hij
    by_cases hi : i < arr.size
    · simp [hi, hc]
    · have := h.get i
      simpa [hi] using this
  · simp only [hij, false_and, if_false]
    have := h.get j
    simpa [Array.getElem?_setIfInBounds_ne hij] using this

theorem TmRel.put {M : Mem} {ρ : Rho} {tm : Tm} {a : Act} (h : TmRel M ρ tm a.tmps) {v : AV} {c : Value} (hc : Conc M ρ v c) (dst : Option Tmp) : TmRel M ρ (put tm dst v) (a.put dst c).tmps := by
  cases dst with
  | none => exact h
  | some d => exact h.set hc d

def GlOk (M : Mem) (ρ : Rho) (G : Gl) : Prop := ∀ g row, G.rows g = some row → ConcMem M ρ g 0 row.length [row] ∧ ∃ c e fz, M g = some (.cells c e fz) ∧ c.size = row.length
theorem GlOk.mono {M : Mem} {ρ ρ' : Rho} (hle : ρ.le ρ') {G : Gl} (h : GlOk M ρ G) : GlOk M ρ' G := fun g row hg => ⟨(h g row hg).1.mono hle, (h g row hg).2⟩

theorem TmRel.ev {M : Mem} {ρ : Rho} {G : Gl} (hG : GlOk M ρ G) {tm : Tm} {a : Act} (h : TmRel M ρ tm a.tmps) (x : Operand) : Conc M ρ (evT G tm x) (a.eval x) := by
  cases x with
  | tmp t => exact h.get t
  | const v => exact .s _
  | global g =>
    simp only [evT, evG, Act.eval]
    split
    · rename_i row hg
      have := Conc.rptr (i := 0) (f := 0) (hG g row hg).1
      simpa using this
    · exact .s _
  | func f => exact .s _

inductive Ents (M : Mem) (ρ : Rho) : List (Value × AV × Nat) → List MapEntry → Prop
  | nil : Ents M ρ [] []
  | cons {k c : Value} {v : AV} {b : Nat} {es : List (Value × AV × Nat)} {xs : List MapEntry} (h : Conc M ρ v c) (t : Ents M ρ es xs) : Ents M ρ ((k, v, b) :: es) (⟨k, c, b⟩ :: xs)
theorem Ents.mono {M : Mem} {ρ ρ' : Rho} (hle : ρ.le ρ') {es : List (Value × AV × Nat)} {xs : List MapEntry} (h : Ents M ρ es xs) : Ents M ρ' es xs := by
  induction h with
  | nil => exact .nil
  | cons h t ih => exact .cons (h.mono hle) ih
theorem Ents.len {M : Mem} {ρ : Rho} {es : List (Value × AV × Nat)} {xs : List MapEntry} (h : Ents M ρ es xs) : xs.length = es.length := by
  induction h with
  | nil => rfl
  | cons h t ih => simp [ih]
theorem Ents.get {M : Mem} {ρ : Rho} {es : List (Value × AV × Nat)} {xs : List MapEntry} (h : Ents M ρ es xs) : ∀ {i : Nat} {k : Value} {v : AV} {b : Nat}, es[i]? = some (k, v, b) → ∃ c, xs[i]? = some ⟨k, c, b⟩ ∧ Conc M ρ v c := by
  induction h with
  | nil => intro i k v b hi; simp at hi
  | cons h t ih =>
    intro i k v b hi
    cases i with
    | zero => simp at hi; obtain ⟨rfl, rfl, rfl⟩ := hi; exact ⟨_, rfl, h⟩
    | succ i => simpa using ih (by simpa using hi)
theorem Ents.set {M : Mem} {ρ : Rho} {es : List (Value × AV × Nat)} {xs : List MapEntry} (h : Ents M ρ es xs) {k c : Value} {v : AV} {b : Nat} (hc : Conc M ρ v c) (i : Nat) : Ents M ρ (es.set i (k, v, b)) (xs.set i ⟨k, c, b⟩) := by
  induction h generalizing i with
  | nil => exact .nil
  | cons h t ih =>
    cases i with
    | zero => exact .cons hc t
    | succ i => exact .cons h (ih i)
theorem Ents.snoc {M : Mem} {ρ : Rho} {es : List (Value × AV × Nat)} {xs : List MapEntry} (h : Ents M ρ es xs) {k c : Value} {v : AV} {b : Nat} (hc : Conc M ρ v c) : Ents M ρ (es ++ [(k, v, b)]) (xs ++ [⟨k, c, b⟩]) := by
  induction h with
  | nil => exact .cons hc .nil
  | cons h t ih => exact .cons h ih
theorem Ents.erase {M : Mem} {ρ : Rho} {es : List (Value × AV × Nat)} {xs : List MapEntry} (h : Ents M ρ es xs) (i : Nat) : Ents M ρ (es.eraseIdx i) (xs.eraseIdx i) := by
  induction h generalizing i with
  | nil => exact .nil
  | cons h t ih =>
    cases i with
    | zero => exact t
    | succ i => exact .cons h (ih i)
theorem Ents.back {M : Mem} {ρ : Rho} {es : List (Value × AV × Nat)} {xs : List MapEntry} (h : Ents M ρ es xs) : ∀ {i : Nat} {e : MapEntry}, xs[i]? = some e → ∃ v, es[i]? = some (e.key, v, e.born) ∧ Conc M ρ v e.val := by
  induction h with
  | nil => intro i e hi; simp at hi
  | cons h t ih =>
    intro i e hi
    cases i with
    | zero => simp at hi; subst hi; exact ⟨_, rfl, h⟩
    | succ i => simpa using ih (by simpa using hi)
theorem Ents.find {M : Mem} {ρ : Rho} {es : List (Value × AV × Nat)} {xs : List MapEntry} (h : Ents M ρ es xs) {st : Nat} {k : Value} {v : AV} {b : Nat} (hf : es.find? (fun e => e.2.2 == st) = some (k, v, b)) :
    ∃ c, xs.find? (fun e => e.born == st) = some ⟨k, c, b⟩ ∧ Conc M ρ v c := by
  induction h with
  | nil => simp at hf
  | cons h t ih =>
    rename_i k' c' v' b' es' xs'
    simp only [List.find?_cons] at hf ⊢
    cases hb : (b' == st) with
    | true => rw [hb] at hf; simp at hf; obtain ⟨rfl, rfl, rfl⟩ := hf; exact ⟨_, rfl, h⟩
    | false => rw [hb] at hf; simpa using ih (by simpa using hf)
theorem Ents.keys {M : Mem} {ρ : Rho} {es : List (Value × AV × Nat)} {xs : List MapEntry} (h : Ents M ρ es xs) : xs.map (fun e => (e.key, e.born)) = es.map fun p => (p.1, p.2.2) := by
  induction h with
  | nil => rfl
  | cons h t ih => simp [ih]

def ObjRep (M : Mem) (ρ : Rho) (w : World) (l : Loc) : AObj → Prop
  | .dead => True
  | .cells elem es exact rows => l.es = es ∧ rows.length ≤ l.cap ∧ (exact = true → l.cap = rows.length) ∧ (∀ r ∈ rows, r.length = es) ∧
      ∃ c : Array Value, w.heap[l.blk]? = some (.cells c elem) ∧ c.size = l.cap * es ∧ Concs M ρ rows.flatten (c.toList.take (rows.length * es))
  | .loop lp => ∃ fn arr d, TmRel M ρ lp.tmps arr ∧ ρ lp.defers = some d ∧
      w.heap[l.blk]? = some (.loop { state := lp.state, pending := lp.pending, fn, tmps := arr, params := lp.params, assign := lp.assign, body := lp.body, defers := d.blk })
  | .defr => w.heap[l.blk]? = some (.deferred (some []))
  | .map es clock => ∃ xs, Ents M ρ es xs ∧ w.heap[l.blk]? = some (.map xs.toArray clock)
  | .siter s pos => w.heap[l.blk]? = some (.stringIter s pos)
  | .iter m since seen last => ∃ d, ρ m = some d ∧ w.heap[l.blk]? = some (.mapIter (some d.blk) since seen.toArray last)

theorem ObjRep.mono {M : Mem} {ρ ρ' : Rho} (hle : ρ.le ρ') {w : World} {l : Loc} {o : AObj} (h : ObjRep M ρ w l o) : ObjRep M ρ' w l o := by
  cases o with
  | dead => trivial
  | cells e es x rows =>
    obtain ⟨h1, h2, h3, h4, c, h5, h6, h7⟩ := h
    exact ⟨h1, h2, h3, h4, c, h5, h6, h7.mono hle⟩
  | loop lp =>
    obtain ⟨fn, arr, d, h1, h2, h3⟩ := h
    exact ⟨fn, arr, d, h1.mono hle, hle _ _ h2, h3⟩
  | defr => exact h
  | map es clock => obtain ⟨xs, h1, h2⟩ := h; exact ⟨xs, h1.mono hle, h2⟩
  | siter s pos => exact h
  | iter m since seen last => obtain ⟨d, h1, h2⟩ := h; exact ⟨d, hle _ _ h1, h2⟩

theorem ObjRep.congr {M : Mem} {ρ : Rho} {w w' : World} {l : Loc} {o : AObj} (h : ObjRep M ρ w l o) (hh : o.live = true → w'.heap[l.blk]? = w.heap[l.blk]?) : ObjRep M ρ w' l o := by
  cases o with
  | dead => trivial
  | cells e es x rows =>
    obtain ⟨h1, h2, h3, h4, c, h5, h6, h7⟩ := h
    exact ⟨h1, h2, h3, h4, c, (hh rfl).trans h5, h6, h7⟩
  | loop lp =>
    obtain ⟨fn, arr, d, h1, h2, h3⟩ := h
    exact ⟨fn, arr, d, h1, h2, (hh rfl).trans h3⟩
  | defr => exact (hh rfl).trans h
  | map es clock => obtain ⟨xs, h1, h2⟩ := h; exact ⟨xs, h1, (hh rfl).trans h2⟩
  | siter s pos => exact (hh rfl).trans h
  | iter m since seen last => obtain ⟨d, h1, h2⟩ := h; exact ⟨d, h1, (hh rfl).trans h2⟩

def ObjThaw (_ : Obj) : Prop := True
structure Rep (B : World) (ρ : Rho) (σ : AS) (w : World) : Prop where
  dom : ∀ id l, ρ id = some l → id < σ.next
  free : ρ σ.newId = none
  low : ∀ k, σ.slot = some k → k < σ.next
  obj : ∀ id o l, σ.get id = some o → ρ id = some l → ObjRep (memOf B) ρ w l o
  new : ∀ id l, ρ id = some l → B.heap.size ≤ l.blk ∧ l.blk < w.heap.size
  inj : ∀ id id' o o' l l', σ.get id = some o → σ.get id' = some o' → o.live = true → o'.live = true → ρ id = some l → ρ id' = some l' → l.blk = l'.blk → id = id'
  keep : ∀ b, b < B.heap.size → w.heap[b]? = B.heap[b]?
  size : B.heap.size ≤ w.heap.size
  tape : w.tape = B.tape
  os : w.os = B.os
  out : w.output = B.output
  has : ∀ id l, ρ id = some l → ∃ p, σ.objs.get id = some p
  thaw : ∀ b x, B.heap.size ≤ b → w.heap[b]? = some x → ObjThaw x

theorem putObj_get (t : Tr (Nat × AObj)) (id j : Nat) (o : AObj) : (putObj t id o).get j = if id = j then (match t.get id with | some (n, _) => some (n + 1, o) | none => some (0, o)) else t.get j := by
  unfold putObj
  cases h : t.get id with
  | none => simp only [Tr.get_set]
  | some p => simp only [Tr.get_set]
theorem AS.get_set (σ : AS) (id j : Nat) (o : AObj) : (σ.set id o).get j = if j < σ.next then (if id = j then some o else σ.get j) else none := by
  obtain ⟨t, n, slot⟩ := σ
  by_cases h : j < n
  · simp only [AS.set, AS.get, h, if_true, putObj_get]
    by_cases e : id = j
    · subst e
      simp only [if_true]
      cases t.get id <;> rfl
    · simp only [e, if_false]
  · simp only [AS.set, AS.get, h, if_false]
theorem AS.next_set (σ : AS) (id : Nat) (o : AObj) : (σ.set id o).next = σ.next := rfl
theorem AS.slot_set (σ : AS) (id : Nat) (o : AObj) : (σ.set id o).slot = σ.slot := rfl
theorem AS.newId_eq (σ : AS) : σ.newId = σ.slot.getD σ.next := by
  obtain ⟨t, n, slot⟩ := σ
  cases slot <;> rfl
theorem AS.newId_set (σ : AS) (id : Nat) (o : AObj) : (σ.set id o).newId = σ.newId := by
  rw [AS.newId_eq, AS.newId_eq, AS.next_set, AS.slot_set]
theorem AS.next_push_le (σ : AS) (o : AObj) : σ.next ≤ (σ.push o).next := by
  obtain ⟨t, n, slot⟩ := σ
  cases slot <;> simp [AS.push]
theorem AS.slot_push (σ : AS) (o : AObj) : (σ.push o).slot = none := by
  obtain ⟨t, n, slot⟩ := σ
  cases slot <;> rfl
theorem AS.newId_push (σ : AS) (o : AObj) : (σ.push o).newId = (σ.push o).next := by
  rw [AS.newId_eq, AS.slot_push]; rfl
theorem AS.lt_push (σ : AS) (o : AObj) (h : ∀ k, σ.slot = some k → k < σ.next) : σ.newId < (σ.push o).next := by
  obtain ⟨t, n, slot⟩ := σ
  cases slot with
  | none => simp [AS.push, AS.newId]
  | some k => exact h k rfl
theorem AS.get_push (σ : AS) (j : Nat) (o : AObj) (h : ∀ k, σ.slot = some k → k < σ.next) : (σ.push o).get j = if j = σ.newId then some o else σ.get j := by
  obtain ⟨t, n, slot⟩ := σ
  cases slot with
  | none =>
    simp only [AS.push, AS.get, AS.newId, putObj_get]
    by_cases h : j = n
    · subst h
      simp only [Nat.lt_succ_self, if_true]
      cases t.get j <;> rfl
    · have h' : ¬ n = j := fun e => h e.symm
      simp only [h, h', if_false]
      by_cases h2 : j < n
      · simp [h2, Nat.lt_succ_of_lt h2]
      · have : ¬ j < n + 1 := by omega
        simp [h2, this]
  | some k =>
    have hk : k < n := h k rfl
    simp only [AS.push, AS.get, AS.newId, putObj_get]
    by_cases h : j = k
    · subst h
      simp only [hk, if_true]
      cases t.get j <;> rfl
    · have h' : ¬ k = j := fun e => h e.symm
      simp only [h, h', if_false]
theorem putObj_has {t : Tr (Nat × AObj)} {id : Nat} {p : Nat × AObj} (h : t.get id = some p) (j : Nat) (o : AObj) : ∃ p, (putObj t j o).get id = some p := by
  rw [putObj_get]
  by_cases e : j = id
  · rw [if_pos e]; cases t.get j <;> exact ⟨_, rfl⟩
  · rw [if_neg e]; exact ⟨p, h⟩
theorem putObj_has_self (t : Tr (Nat × AObj)) (j : Nat) (o : AObj) : ∃ p, (putObj t j o).get j = some p := by
  rw [putObj_get, if_pos rfl]; cases t.get j <;> exact ⟨_, rfl⟩
theorem AS.has_set {σ : AS} {id : Nat} (h : ∃ p, σ.objs.get id = some p) (j : Nat) (o : AObj) : ∃ p, (σ.set j o).objs.get id = some p := by
  obtain ⟨t, n, s⟩ := σ
  obtain ⟨p, hp⟩ := h
  exact putObj_has hp j o
theorem AS.has_push {σ : AS} {id : Nat} (h : ∃ p, σ.objs.get id = some p) (o : AObj) : ∃ p, (σ.push o).objs.get id = some p := by
  obtain ⟨t, n, s⟩ := σ
  obtain ⟨p, hp⟩ := h
  cases s <;> exact putObj_has hp _ o
theorem AS.has_push_self (σ : AS) (o : AObj) : ∃ p, (σ.push o).objs.get σ.newId = some p := by
  obtain ⟨t, n, s⟩ := σ
  cases s <;> exact putObj_has_self t _ o
theorem AS.lt_of_get {σ : AS} {id : Nat} {o : AObj} (h : σ.get id = some o) : id < σ.next := by
  unfold AS.get at h
  split at h
  · assumption
  · cases h

theorem Rep.same {B : World} {ρ : Rho} {σ : AS} {w w' : World} (h : Rep B ρ σ w) (hh : w'.heap = w.heap) (ht : w'.tape = w.tape) (ho : w'.os = w.os) (hu : w'.output = w.output) : Rep B ρ σ w' where
  dom := h.dom
  free := h.free
  low := h.low
  obj := fun id o l hg hr => (h.obj id o l hg hr).congr fun _ => by rw [hh]
  new := fun id l hr => by rw [hh]; exact h.new id l hr
  inj := h.inj
  keep := fun b hb => by rw [hh]; exact h.keep b hb
  size := by rw [hh]; exact h.size
  tape := ht.trans h.tape
  os := ho.trans h.os
  out := hu.trans h.out
  has := h.has
  thaw := fun b x hb hx => h.thaw b x hb (by rw [← hh]; exact hx)

theorem Rep.drew {B : World} {ρ : Rho} {σ : AS} {w : World} (h : Rep B ρ σ w) : Rep B ρ σ w.drew := h.same rfl rfl rfl rfl

theorem Rep.mod {B : World} {ρ : Rho} {σ : AS} {w w' : World} (h : Rep B ρ σ w) {id : Nat} {o o' : AObj} {l : Loc} (hg : σ.get id = some o) (hl : o.live = true) (hr : ρ id = some l)
    (hs : w'.heap.size = w.heap.size) (hh : ∀ b, b ≠ l.blk → w'.heap[b]? = w.heap[b]?) (ht : w'.tape = w.tape) (ho : w'.os = w.os) (hu : w'.output = w.output)
    (hn : ObjRep (memOf B) ρ w' l o') (hz : ∀ x, w'.heap[l.blk]? = some x → ObjThaw x) : Rep B ρ (σ.set id o') w' where
  dom := fun j l' hj => by rw [AS.next_set]; exact h.dom j l' hj
  free := by rw [AS.newId_set]; exact h.free
  low := fun k hk => by rw [AS.slot_set] at hk; rw [AS.next_set]; exact h.low k hk
  obj := fun j p l' hj hr' => by
    rw [AS.get_set, if_pos (h.dom j l' hr')] at hj
    by_cases e : id = j
    · subst e
      simp at hj; subst hj
      rw [hr] at hr'; cases hr'
      exact hn
    · simp only [e, if_false] at hj
      refine (h.obj j p l' hj hr').congr fun hlive => hh _ fun hb => ?_
      exact e (h.inj id j o p l l' hg hj hl hlive hr hr' hb.symm)
  new := fun j l' hr' => by rw [hs]; exact h.new j l' hr'
  inj := fun j j' p p' l1 l2 h1 h2 v1 v2 r1 r2 hb => by
    rw [AS.get_set, if_pos (h.dom j l1 r1)] at h1
    rw [AS.get_set, if_pos (h.dom j' l2 r2)] at h2
    by_cases e1 : id = j <;> by_cases e2 : id = j'
    · exact e1.symm.trans e2
    · simp only [e2, if_false] at h2
      exact (h.inj j j' o p' l1 l2 (e1 ▸ hg) h2 hl v2 r1 r2 hb)
    · simp only [e1, if_false] at h1
      exact (h.inj j j' p o l1 l2 h1 (e2 ▸ hg) v1 hl r1 r2 hb)
    · simp only [e1, if_false] at h1
      simp only [e2, if_false] at h2
      exact h.inj j j' p p' l1 l2 h1 h2 v1 v2 r1 r2 hb
  keep := fun b hb => by
    rw [hh b (fun e => by have := (h.new id l hr).1; omega)]
    exact h.keep b hb
  size := by rw [hs]; exact h.size
  tape := ht.trans h.tape
  os := ho.trans h.os
  out := hu.trans h.out
  has := fun j l' hj => AS.has_set (h.has j l' hj) _ _
  thaw := fun b x hb hx => by
    by_cases e : b = l.blk
    · subst e; exact hz x hx
    · rw [hh b e] at hx; exact h.thaw b x hb hx

theorem Rep.kill {B : World} {ρ : Rho} {σ : AS} {w : World} (h : Rep B ρ σ w) (id : Nat) : Rep B ρ (σ.set id .dead) w where
  dom := fun j l' hj => by rw [AS.next_set]; exact h.dom j l' hj
  free := by rw [AS.newId_set]; exact h.free
  low := fun k hk => by rw [AS.slot_set] at hk; rw [AS.next_set]; exact h.low k hk
  obj := fun j p l' hj hr' => by
    rw [AS.get_set, if_pos (h.dom j l' hr')] at hj
    by_cases e : id = j
    · simp [e] at hj; subst hj; trivial
    · simp only [e, if_false] at hj
      exact h.obj j p l' hj hr'
  new := h.new
  inj := fun j j' p p' l1 l2 h1 h2 v1 v2 r1 r2 hb => by
    rw [AS.get_set, if_pos (h.dom j l1 r1)] at h1
    rw [AS.get_set, if_pos (h.dom j' l2 r2)] at h2
    by_cases e1 : id = j
    · simp [e1] at h1; subst h1; cases v1
    · by_cases e2 : id = j'
      · simp [e2] at h2; subst h2; cases v2
      · simp only [e1, if_false] at h1
        simp only [e2, if_false] at h2
        exact h.inj j j' p p' l1 l2 h1 h2 v1 v2 r1 r2 hb
  keep := h.keep
  size := h.size
  tape := h.tape
  os := h.os
  out := h.out
  has := fun j l' hj => AS.has_set (h.has j l' hj) _ _
  thaw := h.thaw

def Rho.ext (ρ : Rho) (id : Nat) (l : Loc) : Rho := fun j => if j = id then some l else ρ j

theorem Rep.le_ext {B : World} {ρ : Rho} {σ : AS} {w : World} (h : Rep B ρ σ w) (l : Loc) : ρ.le (ρ.ext σ.newId l) := fun j l' hj => by
  unfold Rho.ext
  rw [if_neg (fun e => by have := h.free; rw [← e, hj] at this; cases this)]
  exact hj

theorem Rep.name {B : World} {ρ : Rho} {σ : AS} {w : World} (h : Rep B ρ σ w) {o : AObj} {l : Loc} (hb : B.heap.size ≤ l.blk ∧ l.blk < w.heap.size)
    (hf : ∀ id p l', σ.get id = some p → p.live = true → ρ id = some l' → l'.blk ≠ l.blk) (hn : ObjRep (memOf B) (ρ.ext σ.newId l) w l o) : Rep B (ρ.ext σ.newId l) (σ.push o) w where
  dom := fun j l' hj => by
    unfold Rho.ext at hj
    by_cases e : j = σ.newId
    · rw [e]; exact AS.lt_push σ o h.low
    · simp only [e, if_false] at hj
      exact Nat.lt_of_lt_of_le (h.dom j l' hj) (AS.next_push_le σ o)
  free := by
    rw [AS.newId_push]
    unfold Rho.ext
    have h1 := AS.lt_push σ o h.low
    rw [if_neg (by omega)]
    cases hr : ρ (σ.push o).next with
    | none => rfl
    | some l' =>
      have h2 := h.dom _ l' hr
      have h3 := AS.next_push_le σ o
      omega
  low := fun k hk => by rw [AS.slot_push] at hk; cases hk
  obj := fun j p l' hj hr' => by
    rw [AS.get_push σ j o h.low] at hj
    by_cases e : j = σ.newId
    · simp [e] at hj; subst hj
      simp [Rho.ext, e] at hr'; subst hr'
      exact hn
    · simp only [e, if_false] at hj
      simp only [Rho.ext, e, if_false] at hr'
      exact (h.obj j p l' hj hr').mono (h.le_ext l)
  new := fun j l' hr' => by
    by_cases e : j = σ.newId
    · simp [Rho.ext, e] at hr'; subst hr'; exact hb
    · simp only [Rho.ext, e, if_false] at hr'; exact h.new j l' hr'
  inj := fun j j' p p' l1 l2 h1 h2 v1 v2 r1 r2 hbl => by
    rw [AS.get_push σ _ o h.low] at h1 h2
    by_cases e1 : j = σ.newId <;> by_cases e2 : j' = σ.newId
    · exact e1.trans e2.symm
    · simp [Rho.ext, e1] at r1; subst r1
      simp only [Rho.ext, e2, if_false] at r2 h2
      exact absurd hbl.symm (hf j' p' l2 h2 v2 r2)
    · simp [Rho.ext, e2] at r2; subst r2
      simp only [Rho.ext, e1, if_false] at r1 h1
      exact absurd hbl (hf j p l1 h1 v1 r1)
    · simp only [Rho.ext, e1, if_false] at r1 h1
      simp only [Rho.ext, e2, if_false] at r2 h2
      exact h.inj j j' p p' l1 l2 h1 h2 v1 v2 r1 r2 hbl
  keep := h.keep
  size := h.size
  tape := h.tape
  os := h.os
  out := h.out
  has := fun j l' hj => by
    unfold Rho.ext at hj
    by_cases e : j = σ.newId
    · rw [e]; exact AS.has_push_self σ o
    · simp only [e, if_false] at hj
      exact AS.has_push (h.has j l' hj) o
  thaw := h.thaw

theorem Rep.grown {B : World} {ρ : Rho} {σ : AS} {w w' : World} (h : Rep B ρ σ w) {x : Obj} (hh : w'.heap = w.heap.push x) (ht : w'.tape = w.tape) (ho : w'.os = w.os) (hu : w'.output = w.output) (hz : ObjThaw x) : Rep B ρ σ w' where
  dom := h.dom
  free := h.free
  low := h.low
  obj := fun id o l hg hr => (h.obj id o l hg hr).congr fun _ => by
    rw [hh, Array.getElem?_push, if_neg]
    have := (h.new id l hr).2; omega
  new := fun id l hr => by
    rw [hh, Array.size_push]
    have := h.new id l hr; omega
  inj := h.inj
  keep := fun b hb => by
    rw [hh, Array.getElem?_push, if_neg]
    · exact h.keep b hb
    · have := h.size; omega
  size := by rw [hh, Array.size_push]; have := h.size; omega
  tape := ht.trans h.tape
  os := ho.trans h.os
  out := hu.trans h.out
  has := h.has
  thaw := fun b y hb hy => by
    rw [hh, Array.getElem?_push] at hy
    split at hy
    · cases hy; exact hz
    · exact h.thaw b y hb hy

theorem Rep.push {B : World} {ρ : Rho} {σ : AS} {w w' : World} (h : Rep B ρ σ w) {x : Obj} {o : AObj} {l : Loc} (hl : l.blk = w.heap.size) (hh : w'.heap = w.heap.push x) (ht : w'.tape = w.tape) (ho : w'.os = w.os)
    (hu : w'.output = w.output) (hn : ObjRep (memOf B) (ρ.ext σ.newId l) w' l o) (hz : ObjThaw x := trivial) : Rep B (ρ.ext σ.newId l) (σ.push o) w' :=
  (h.grown hh ht ho hu hz).name (by rw [hl, hh, Array.size_push]; have := h.size; omega) (fun id p l' _ _ hr => by have := (h.new id l' hr).2; omega) hn

theorem Rho.ext_self (ρ : Rho) (id : Nat) (l : Loc) : ρ.ext id l id = some l := by simp [Rho.ext]

end Go.Ab
/- The operations, one by one: what the abstract side gives the model does. Loads and stores. -/
namespace Go.Ab
variable {P : Program} {B : World} {ρ : Rho} {σ : AS} {w : World}

section rows
variable {α : Type}
theorem flat_len {rows : List (List α)} {es : Nat} (h : ∀ r ∈ rows, r.length = es) : rows.flatten.length = rows.length * es := by
  induction rows with
  | nil => simp
  | cons r rows ih =>
    have h1 := h r (by simp)
    have h2 := ih fun x hx => h x (by simp [hx])
    simp [h1, h2, Nat.add_mul, Nat.add_comm]
theorem flat_drop {rows : List (List α)} {es : Nat} (h : ∀ r ∈ rows, r.length = es) (n : Nat) : (rows.drop n).flatten = rows.flatten.drop (n * es) := by
  induction n generalizing rows with
  | zero => simp
  | succ n ih =>
    cases rows with
    | nil => simp
    | cons r rows =>
      have h1 := h r (by simp)
      have h2 := ih (rows := rows) fun x hx => h x (by simp [hx])
      simp only [List.drop_succ_cons, List.flatten_cons, h2]
      have : (n + 1) * es = r.length + n * es := by rw [h1, Nat.add_mul]; omega
      rw [this, List.drop_length_add_append]
theorem flat_take {rows : List (List α)} {es : Nat} (h : ∀ r ∈ rows, r.length = es) (n : Nat) : (rows.take n).flatten = rows.flatten.take (n * es) := by
  induction n generalizing rows with
  | zero => simp
  | succ n ih =>
    cases rows with
    | nil => simp
    | cons r rows =>
      have h1 := h r (by simp)
      have h2 := ih (rows := rows) fun x hx => h x (by simp [hx])
      simp only [List.take_succ_cons, List.flatten_cons, h2]
      have : (n + 1) * es = r.length + n * es := by rw [h1, Nat.add_mul]; omega
      rw [this, List.take_length_add_append]
theorem flat_row {rows : List (List α)} {es : Nat} (h : ∀ r ∈ rows, r.length = es) {i : Nat} {row : List α} (hi : rows[i]? = some row) : (rows.flatten.drop (i * es)).take es = row := by
  rw [← flat_drop h]
  have hlt : i < rows.length := (List.getElem?_eq_some_iff.1 hi).1
  have hd : rows.drop i = row :: rows.drop (i + 1) := by
    rw [List.drop_eq_getElem_cons hlt]
    congr 1
    exact (List.getElem?_eq_some_iff.1 hi).2
  rw [hd, List.flatten_cons]
  have := h row (List.mem_of_getElem? hi)
  rw [← this, List.take_left']
  rfl
theorem flat_set {rows : List (List α)} {es : Nat} (h : ∀ r ∈ rows, r.length = es) {i : Nat} (hi : i < rows.length) (row : List α) :
    (rows.set i row).flatten = rows.flatten.take (i * es) ++ row ++ rows.flatten.drop ((i + 1) * es) := by
  rw [List.set_eq_take_append_cons_drop, if_pos hi]
  simp only [List.flatten_append, List.flatten_cons, flat_take h, flat_drop h, List.append_assoc]
theorem mem_set_len {rows : List (List α)} {es : Nat} (h : ∀ r ∈ rows, r.length = es) {i : Nat} {row : List α} (hr : row.length = es) : ∀ r ∈ rows.set i row, r.length = es := by
  intro r hm
  rcases List.mem_or_eq_of_mem_set hm with h1 | h1
  · exact h r h1
  · rw [h1, hr]
end rows

theorem run_isAgg {t : TypeId} {d : TypeDesc} (hu : P.underlying t = some d) (w : World) : (isAgg t).run P w = .ok d.isRow w := by
  unfold isAgg
  rw [Sem.run_bind, run_underlying hu w]
  cases d <;> rfl
theorem sz_eq {t : TypeId} {n : Nat} (h : sz P t = some n) : ∃ i, P.info? t = some i ∧ i.size = n := by
  unfold sz at h
  cases hi : P.info? t with
  | none => simp [hi] at h
  | some i => simp [hi] at h; exact ⟨i, rfl, h⟩
theorem run_sizeOf {t : TypeId} {n : Nat} (h : sz P t = some n) (w : World) : (sizeOf t).run P w = .ok n w := by
  obtain ⟨i, hi, hn⟩ := sz_eq h
  simp [sizeOf, typeInfo, hi, hn]

def RowAt (M : Mem) (ρ : Rho) (w : World) (b off : Nat) (row : List AV) : Prop :=
  ∃ c e fz, w.heap[b]? = some (.cells c e fz) ∧ Concs M ρ row ((c.toList.drop off).take row.length)

theorem RowAt.range {M : Mem} {b off : Nat} {row : List AV} (h : RowAt M ρ w b off row) {f n : Nat} (hf : f + n ≤ row.length) :
    ∃ vs, Concs M ρ ((row.drop f).take n) vs ∧ vs.length = n ∧ w.rangeAt b (off + f) vs := by
  obtain ⟨c, e, fz, hh, hc⟩ := h
  refine ⟨_, (hc.drop f).take n, ?_, ?_⟩
  · have := ((hc.drop f).take n).len
    rw [← this, List.length_take, List.length_drop]; omega
  · intro j v hj
    have hl := hc.len
    rw [List.length_take, List.length_drop] at hl
    simp only [List.getElem?_take, List.getElem?_drop] at hj
    split at hj
    · split at hj
      · simp only [World.cell?, hh]
        simp only [Option.isSome_none, Bool.false_eq_true, if_false]
        rw [← Array.getElem?_toList, ← hj]
        congr 1; omega
      · cases hj
    · cases hj

theorem RowAt.cell {M : Mem} {b off : Nat} {row : List AV} (h : RowAt M ρ w b off row) {f : Nat} {v : AV} (hf : row[f]? = some v) :
    ∃ x, Conc M ρ v x ∧ w.cell? ⟨b, off + f, none⟩ = some x := by
  obtain ⟨c, e, fz, hh, hc⟩ := h
  obtain ⟨x, hx, hcx⟩ := hc.get hf
  refine ⟨x, hcx, ?_⟩
  simp only [List.getElem?_take, List.getElem?_drop] at hx
  split at hx
  · simp only [World.cell?, hh]
    simp only [Option.isSome_none, Bool.false_eq_true, if_false]
    rw [← Array.getElem?_toList, ← hx]
  · cases hx

theorem read_run {M : Mem} {b off : Nat} {row : List AV} (h : RowAt M ρ w b off row) {t : TypeId} {f : Nat} {v : AV} (hr : readAt P t row f = some v) :
    ∃ x, (loadVar t ⟨b, off + f, none⟩).run P w = .ok x w ∧ Conc M ρ v x := by
  unfold readAt at hr
  split at hr
  · rename_i d hu
    split at hr
    · rename_i hd
      split at hr
      · rename_i n hn
        split at hr
        · rename_i hle
          simp at hr; subst hr
          obtain ⟨vs, hvs, hlen, hrange⟩ := h.range hle
          obtain ⟨i, hi, hin⟩ := sz_eq hn
          exact ⟨_, run_loadVar_mid w b (off + f) t vs d hrange hu hd (by simp [hi, hin, hlen]), conc_mkAgg hvs⟩
        · cases hr
      · cases hr
    · rename_i hd
      obtain ⟨x, hx, hcell⟩ := h.cell hr
      refine ⟨x, ?_, hx⟩
      have hd' : d.isRow = false := by simpa using hd
      simp [loadVar, Sem.run_bind, run_isAgg hu w, hd', load, Sem.run, hcell]
  · cases hr

theorem Rep.rowAt (h : Rep B ρ σ w) {o : Nat} {rows : List (List AV)} {i : Nat} {row : List AV} {l : Loc} (hr : ρ o = some l) (ho : σ.rows o = some rows) (hi : rows[i]? = some row) :
    RowAt (memOf B) ρ w l.blk (i * l.es) row := by
  unfold AS.rows at ho
  split at ho
  · rename_i e es x rws hg
    simp at ho; subst ho
    obtain ⟨h1, h2, h3, h4, c, h5, h6, h7⟩ := h.obj o _ l hg hr
    refine ⟨c, e, _, h5, ?_⟩
    have hrow := flat_row h4 hi
    have hl := h4 row (List.mem_of_getElem? hi)
    have hilt : i < rws.length := (List.getElem?_eq_some_iff.1 hi).1
    have := (h7.drop (i * es)).take es
    rw [hrow] at this
    rw [h1, hl]
    have hmul : (i + 1) * es ≤ rws.length * es := Nat.mul_le_mul_right _ hilt
    rw [Nat.add_mul] at hmul
    rw [List.drop_take, List.take_take] at this
    rwa [Nat.min_eq_left (by omega)] at this
  · cases ho

theorem Rep.mem (h : Rep B ρ σ w) {b : Nat} {o : Obj} (hm : memOf B b = some o) : w.heap[b]? = some o := by
  rw [h.keep b (Array.getElem?_eq_some_iff.1 hm).1]; exact hm

theorem Rep.memRow (h : Rep B ρ σ w) {b off es : Nat} {rows : List (List AV)} {i : Nat} {row : List AV} (hm : ConcMem (memOf B) ρ b off es rows) (hi : rows[i]? = some row) :
    RowAt (memOf B) ρ w b (off + i * es) row := by
  cases hm with
  | mk hm hl hc =>
    rename_i c e fz
    refine ⟨c, e, fz, h.mem hm, ?_⟩
    have hrow := flat_row hl hi
    have hlen := hl row (List.mem_of_getElem? hi)
    have hilt : i < rows.length := (List.getElem?_eq_some_iff.1 hi).1
    have := (hc.drop (i * es)).take es
    rw [hrow] at this
    rw [hlen]
    have hmul : (i + 1) * es ≤ rows.length * es := Nat.mul_le_mul_right _ hilt
    rw [Nat.add_mul] at hmul
    rw [List.drop_take, List.take_take, List.drop_drop] at this
    rwa [Nat.min_eq_left (by omega)] at this

theorem load_run (h : Rep B ρ σ w) {a v : AV} {x : Value} {t : TypeId} (hc : Conc (memOf B) ρ a x) (he : effLoad P t a σ = some v) :
    ∃ y, (Instr.loadAt t x).run P w = .ok y w ∧ Conc (memOf B) ρ v y := by
  cases hc <;> simp only [effLoad] at he <;> try (cases he; done)
  · rename_i o i f l hr
    simp only [Option.bind_eq_some_iff] at he
    obtain ⟨rows, hrows, row, hrow, hread⟩ := he
    obtain ⟨y, hy, hcy⟩ := read_run (h.rowAt hr hrows hrow) hread
    exact ⟨y, by simp only [Instr.loadAt, Instr.sureAddr, Sem.run_bind, Sem.run_pure, Result.andThen_ok, hy], hcy⟩
  · rename_i b off es i f rows hm
    simp only [Option.bind_eq_some_iff] at he
    obtain ⟨row, hrow, hread⟩ := he
    obtain ⟨y, hy, hcy⟩ := read_run (h.memRow hm hrow) hread
    rw [Nat.add_assoc] at hy
    exact ⟨y, by simp only [Instr.loadAt, Instr.sureAddr, Sem.run_bind, Sem.run_pure, Result.andThen_ok, hy], hcy⟩

end Go.Ab
/- Stores, new objects. -/
namespace Go.Ab
variable {P : Program} {B : World} {ρ : Rho} {σ : AS} {w : World}

section wr
variable {α : Type}
def wr (l : List α) (o : Nat) (xs : List α) : List α := l.take o ++ xs ++ l.drop (o + xs.length)
theorem wr_left (A L : List α) (f : Nat) (xs : List α) : wr (A ++ L) (A.length + f) xs = A ++ wr L f xs := by
  unfold wr
  rw [List.take_length_add_append, Nat.add_assoc, List.drop_length_add_append]
  simp
theorem wr_right (R C : List α) (f : Nat) (xs : List α) (h : f + xs.length ≤ R.length) : wr (R ++ C) f xs = wr R f xs ++ C := by
  unfold wr
  rw [List.take_append_of_le_length (by omega), List.drop_append_of_le_length h]
  simp
theorem wr_len (l : List α) (o : Nat) (xs : List α) (h : o + xs.length ≤ l.length) : (wr l o xs).length = l.length := by
  unfold wr
  simp; omega
theorem wr_take (l : List α) (o : Nat) (xs : List α) (n : Nat) (h : o + xs.length ≤ n) (hl : o ≤ l.length) : (wr l o xs).take n = wr (l.take n) o xs := by
  unfold wr
  rw [List.take_append, List.take_append, List.take_take, List.take_take]
  rw [Nat.min_eq_right (show o ≤ n by omega), Nat.min_eq_left (show o ≤ n by omega)]
  congr 1
  · congr 1
    rw [List.take_of_length_le]
    rw [List.length_take]; omega
  · rw [List.drop_take]
    congr 1
    simp only [List.length_append, List.length_take]
    rw [Nat.min_eq_left hl]
theorem flat_write {rows : List (List α)} {es : Nat} (h : ∀ r ∈ rows, r.length = es) {i : Nat} {row : List α} (hi : rows[i]? = some row) {f : Nat} {cs : List α} (hf : f + cs.length ≤ es) :
    (rows.set i (wr row f cs)).flatten = wr rows.flatten (i * es + f) cs := by
  have hilt : i < rows.length := (List.getElem?_eq_some_iff.1 hi).1
  have hd : rows = rows.take i ++ row :: rows.drop (i + 1) := by
    have h1 : rows.drop i = row :: rows.drop (i + 1) := by
      rw [List.drop_eq_getElem_cons hilt]
      congr 1
      exact (List.getElem?_eq_some_iff.1 hi).2
    rw [← h1, List.take_append_drop]
  have hset : rows.set i (wr row f cs) = rows.take i ++ wr row f cs :: rows.drop (i + 1) := by
    rw [List.set_eq_take_append_cons_drop, if_pos hilt]
  have hrow := h row (List.mem_of_getElem? hi)
  have hA : (rows.take i).flatten.length = i * es := by
    rw [flat_len (es := es) (fun r hr => h r (List.mem_of_mem_take hr)), List.length_take, Nat.min_eq_left (by omega)]
  rw [hset]
  conv => rhs; rw [hd]
  simp only [List.flatten_append, List.flatten_cons]
  rw [← hA, wr_left, wr_right _ _ _ _ (by omega)]
theorem flat_wr {rows : List (List α)} {es : Nat} (h : ∀ r ∈ rows, r.length = es) {news : List (List α)} (hn : ∀ r ∈ news, r.length = es) (k : Nat) :
    (wr rows k news).flatten = wr rows.flatten (k * es) news.flatten := by
  unfold wr
  rw [List.flatten_append, List.flatten_append, flat_take h, flat_drop h, flat_len hn, Nat.add_mul]
end wr

theorem writeRow_eq (row : List AV) (f : Nat) (cs : List AV) : writeRow row f cs = wr row f cs := rfl

theorem Concs.wr {M : Mem} {as cs : List AV} {vs us : List Value} (h : Concs M ρ as vs) (hc : Concs M ρ cs us) (o : Nat) : Concs M ρ (Ab.wr as o cs) (Ab.wr vs o us) := by
  unfold Ab.wr
  rw [hc.len]
  exact ((h.take o).append hc).append (h.drop _)

theorem setCell_heap {b o : Nat} {v : Value} {c : Array Value} {e : TypeId} {fz : Nat × Nat} (h : w.heap[b]? = some (.cells c e fz)) :
    (w.setCell ⟨b, o, none⟩ v).heap[b]? = some (.cells (c.setIfInBounds o v) e fz) := by
  simp [World.setCell, Array.getElem?_modify, h]
theorem setCell_other {b o b' : Nat} {v : Value} (h : b' ≠ b) : (w.setCell ⟨b, o, none⟩ v).heap[b']? = w.heap[b']? := by
  have : ¬ b = b' := fun e => h e.symm
  simp [World.setCell, Array.getElem?_modify, this]

theorem setCells_heap (b : Nat) : ∀ (vs : List Value) (o : Nat) (w : World) (c : Array Value) (e : TypeId) (fz : Nat × Nat), w.heap[b]? = some (.cells c e fz) → o + vs.length ≤ c.size →
    ∃ c', (w.setCells b o vs).heap[b]? = some (.cells c' e fz) ∧ c'.toList = wr c.toList o vs
  | [], o, w, c, e, fz, h, _ => ⟨c, h, by simp [wr]⟩
  | v :: vs, o, w, c, e, fz, h, hl => by
    have h1 := setCell_heap (o := o) (v := v) h
    obtain ⟨c', hc', hcl⟩ := setCells_heap b vs (o + 1) _ _ e fz h1 (by simp at hl ⊢; omega)
    refine ⟨c', hc', ?_⟩
    rw [hcl]
    simp only [List.length_cons] at hl
    unfold wr
    have hlt : o < c.toList.length := by rw [Array.length_toList]; omega
    rw [Array.toList_setIfInBounds, List.set_eq_take_append_cons_drop, if_pos hlt]
    have ht : (c.toList.take o).length = o := by rw [List.length_take]; omega
    have e1 : List.take (o + 1) (c.toList.take o ++ v :: c.toList.drop (o + 1)) = c.toList.take o ++ [v] := by
      conv => lhs; rw [show o + 1 = (c.toList.take o).length + 1 by omega]
      rw [List.take_length_add_append]; rfl
    have e2 : List.drop (o + 1 + vs.length) (c.toList.take o ++ v :: c.toList.drop (o + 1)) = c.toList.drop (o + (v :: vs).length) := by
      conv => lhs; rw [show o + 1 + vs.length = (c.toList.take o).length + (1 + vs.length) by omega]
      rw [List.drop_length_add_append, Nat.add_comm 1, List.drop_succ_cons, List.drop_drop]
      congr 1; simp; omega
    rw [e1, e2]; simp
theorem setCells_other (b : Nat) : ∀ (vs : List Value) (o : Nat) (w : World) (b' : Nat), b' ≠ b → (w.setCells b o vs).heap[b']? = w.heap[b']?
  | [], _, _, _, _ => rfl
  | v :: vs, o, w, b', h => by rw [World.setCells, setCells_other b vs _ _ b' h, setCell_other h]
theorem setCells_rest (b : Nat) : ∀ (vs : List Value) (o : Nat) (w : World), (w.setCells b o vs).heap.size = w.heap.size ∧ (w.setCells b o vs).tape = w.tape ∧ (w.setCells b o vs).os = w.os ∧ (w.setCells b o vs).output = w.output
  | [], _, _ => ⟨rfl, rfl, rfl, rfl⟩
  | v :: vs, o, w => by
    obtain ⟨h1, h2, h3, h4⟩ := setCells_rest b vs (o + 1) (w.setCell ⟨b, o, none⟩ v)
    exact ⟨by rw [World.setCells, h1]; simp, h2, h3, h4⟩

theorem setCells_thaw (b : Nat) (vs : List Value) (o : Nat) (w : World) (_ : ∀ x, w.heap[b]? = some x → ObjThaw x) : ∀ x, (w.setCells b o vs).heap[b]? = some x → ObjThaw x := fun _ _ => trivial

theorem Rep.write (h : Rep B ρ σ w) {o : Nat} {e : TypeId} {es : Nat} {x : Bool} {rows rows' : List (List AV)} {l : Loc} (hg : σ.get o = some (.cells e es x rows)) (hr : ρ o = some l)
    (hl' : ∀ r ∈ rows', r.length = es) (hlen : rows'.length = rows.length) {off : Nat} {cs : List AV} {vs : List Value} (hf : rows'.flatten = wr rows.flatten off cs) (hoff : off + cs.length ≤ rows.length * es)
    (hc : Concs (memOf B) ρ cs vs) (h1 : ∀ u ∈ vs, u.oneCell' = true) :
    (storeCells ⟨l.blk, off, none⟩ vs).run P w = .ok () (w.setCells l.blk off vs) ∧ Rep B ρ (σ.set o (.cells e es x rows')) (w.setCells l.blk off vs) := by
  obtain ⟨q1, q2, q3, q4, c, q5, q6, q7⟩ := h.obj o _ l hg hr
  have hcl := hc.len
  have hcap : rows.length * es ≤ l.cap * es := Nat.mul_le_mul_right _ q2
  have hcs : c.toList.length = c.size := Array.length_toList
  refine ⟨?_, ?_⟩
  · have := run_storeCells_cells (P := P) l.blk off vs 0 w (fun j hj => by
      simp only [World.cell?, q5, Nat.add_zero]
      rw [if_neg (by simp), Array.getElem?_eq_getElem (by omega)]; rfl) (fun j hj => by simp [World.frozen?, q5]) h1
    simpa using this
  · obtain ⟨s1, s2, s3, s4⟩ := setCells_rest l.blk vs off w
    obtain ⟨c', hc', hcl'⟩ := setCells_heap l.blk vs off w c e _ q5 (by omega)
    refine h.mod hg rfl hr s1 (fun b hb => setCells_other l.blk vs off w b hb) s2 s3 s4 ?_ (setCells_thaw _ _ _ _ fun x hx => h.thaw _ x (h.new o l hr).1 hx)
    refine ⟨q1, by omega, fun hx => by rw [hlen]; exact q3 hx, hl', c', hc', ?_, ?_⟩
    · have := congrArg List.length hcl'
      rw [wr_len _ _ _ (by omega)] at this
      simpa [q6] using this
    · rw [hlen, hcl', wr_take _ _ _ _ (by omega) (by omega), hf]
      exact q7.wr hc off

theorem store_run (h : Rep B ρ σ w) {a v : AV} {x y : Value} {t : TypeId} (ha : Conc (memOf B) ρ a x) (hv : Conc (memOf B) ρ v y) {σ' : AS} (he : effStore P t a v σ = some σ') :
    ∃ w', (Instr.storeAt t x y).run P w = .ok () w' ∧ Rep B ρ σ' w' := by
  cases ha <;> simp only [effStore] at he <;> try (cases he; done)
  rename_i o i f l hr
  split at he
  · rename_i e es x rows hg
    split at he
    · rename_i row hrow
      split at he
      · rename_i hcond
        simp only [Bool.and_eq_true, decide_eq_true_eq] at hcond
        obtain ⟨⟨hsz, hle⟩, hcell⟩ := hcond
        simp at he; subst he
        obtain ⟨q1, q2, q3, q4, c, q5, q6, q7⟩ := h.obj o _ l hg hr
        have hcs := conc_cells hv
        have hrl := q4 row (List.mem_of_getElem? hrow)
        have hilt : i < rows.length := (List.getElem?_eq_some_iff.1 hrow).1
        have hmul : (i + 1) * es ≤ rows.length * es := Nat.mul_le_mul_right _ hilt
        rw [Nat.add_mul] at hmul
        obtain ⟨w1, w2⟩ := h.write (P := P) hg hr (rows' := rows.set i (writeRow row f (cellsOf v))) (mem_set_len q4 (by rw [writeRow_eq, wr_len _ _ _ hle, hrl])) (by simp)
          (off := i * es + f) (flat_write q4 hrow (by omega)) (by omega) hcs (oneCells_of hcs hcell)
        refine ⟨_, ?_, w2⟩
        obtain ⟨inf, hi, hin⟩ := sz_eq hsz
        have hsize : y.cells.size = inf.size := by rw [hin, hcs.len, Array.length_toList]
        rw [q1]
        simp [Instr.storeAt, Instr.sureAddr, storeVar, Sem.run_bind, sizeOf, typeInfo, hi, hsize, w1]
      · cases he
    · cases he
  · cases he

theorem box_run (h : Rep B ρ σ w) {elem : TypeId} {v : Value} {cs : List AV} (hc : Concs (memOf B) ρ cs v.cells.toList) :
    ∃ ρ' w' y, (newVar elem v).run P w = .ok y w' ∧ Rep B ρ' (σ.push (.cells elem cs.length true [cs])) w' ∧ ρ.le ρ' ∧ Conc (memOf B) ρ' (.ptr σ.newId 0 0) (.pointer (some y)) := by
  refine ⟨ρ.ext σ.newId ⟨w.heap.size, 1, cs.length, fun _ => by decide⟩, w.alloc (.cells v.cells elem), ⟨w.heap.size, 0, none⟩, rfl, ?_, h.le_ext _, ?_⟩
  · refine h.push rfl rfl rfl rfl rfl ⟨rfl, by simp, fun _ => rfl, by simp, v.cells, ?_, ?_, ?_⟩
    · exact Array.getElem?_push_size
    · have := hc.len
      have hcs : v.cells.toList.length = v.cells.size := Array.length_toList
      show v.cells.size = 1 * cs.length
      omega
    · have := hc.len
      simp only [List.length_cons, List.length_nil, Nat.zero_add, Nat.one_mul, List.flatten_cons, List.flatten_nil, List.append_nil]
      rw [List.take_of_length_le (by omega)]
      exact hc.mono (h.le_ext _)
  · have := Conc.ptr (M := memOf B) (i := 0) (f := 0) (Rho.ext_self ρ σ.newId ⟨w.heap.size, 1, cs.length, fun _ => by decide⟩)
    simpa using this

theorem row_run (h : Rep B ρ σ w) {elem : TypeId} {c : Array Value} {rows : List (List AV)} {es n : Nat} (hl : ∀ r ∈ rows, r.length = es) (hb : 0 < es → rows.length < 2 ^ 63) (hc : Concs (memOf B) ρ rows.flatten c.toList) :
    ∃ ρ' w', (newRow elem c).run P w = .ok ⟨w.heap.size, 0, none⟩ w' ∧ Rep B ρ' (σ.push (.cells elem es true rows)) w' ∧ ρ.le ρ' ∧
      Conc (memOf B) ρ' (.sl σ.newId 0 n none) (.slice (some ⟨w.heap.size, 0, none⟩) n rows.length) := by
  have hfl := flat_len hl
  have hcl := hc.len
  refine ⟨ρ.ext σ.newId ⟨w.heap.size, rows.length, es, hb⟩, w.alloc (.cells c elem), rfl, ?_, h.le_ext _, ?_⟩
  · refine h.push rfl rfl rfl rfl rfl ⟨rfl, by simp, fun _ => rfl, hl, c, ?_, ?_, ?_⟩
    · exact Array.getElem?_push_size
    · have hcs : c.toList.length = c.size := Array.length_toList
      show c.size = rows.length * es
      omega
    · rw [List.take_of_length_le (by rw [← hcl, hfl]; exact Nat.le_refl _)]
      exact hc.mono (h.le_ext _)
  · have := Conc.sl (M := memOf B) (i := 0) (n := n) (Rho.ext_self ρ σ.newId ⟨w.heap.size, rows.length, es, hb⟩)
    simpa using this

end Go.Ab
/- Building values and slices; fields, elements. -/
namespace Go.Ab
variable {P : Program} {B : World} {ρ : Rho} {σ : AS} {w : World}

theorem foldl_wr (off : Nat) : ∀ (vs : List Value) (k : Nat) (arr : Array Value), off + k + vs.length ≤ arr.size →
    ((vs.zipIdx k).foldl (fun (cs : Array Value) (p : Value × Nat) => cs.setIfInBounds (off + p.2) p.1) arr).toList = wr arr.toList (off + k) vs
  | [], k, arr, _ => by simp [wr]
  | v :: vs, k, arr, h => by
    simp only [List.length_cons] at h
    rw [List.zipIdx_cons, List.foldl_cons, foldl_wr off vs (k + 1) _ (by rw [Array.size_setIfInBounds]; omega), Array.toList_setIfInBounds]
    have hsz : arr.toList.length = arr.size := Array.length_toList
    have hlt : off + k < arr.toList.length := by omega
    unfold wr
    rw [List.set_eq_take_append_cons_drop, if_pos hlt]
    have ht : (arr.toList.take (off + k)).length = off + k := by rw [List.length_take]; omega
    have e1 : List.take (off + (k + 1)) (arr.toList.take (off + k) ++ v :: arr.toList.drop (off + k + 1)) = arr.toList.take (off + k) ++ [v] := by
      conv => lhs; rw [show off + (k + 1) = (arr.toList.take (off + k)).length + 1 by omega]
      rw [List.take_length_add_append]; rfl
    have e2 : List.drop (off + (k + 1) + vs.length) (arr.toList.take (off + k) ++ v :: arr.toList.drop (off + k + 1)) = arr.toList.drop (off + k + (v :: vs).length) := by
      conv => lhs; rw [show off + (k + 1) + vs.length = (arr.toList.take (off + k)).length + (1 + vs.length) by omega]
      rw [List.drop_length_add_append, Nat.add_comm 1, List.drop_succ_cons, List.drop_drop]
      congr 1; simp; omega
    rw [e1, e2]; simp

theorem fill_step (off : Nat) (v : Value) (arr : Array Value) (h : off + v.cells.size ≤ arr.size) :
    (v.cells.zipIdx.foldl (fun (cs : Array Value) (c, j) => cs.setIfInBounds (off + j) c) arr).toList = wr arr.toList off v.cells.toList := by
  have hsz : v.cells.toList.length = v.cells.size := Array.length_toList
  have := foldl_wr off v.cells.toList 0 arr (by omega)
  rw [Nat.add_zero] at this
  rw [← this, ← Array.foldl_toList, Array.toList_zipIdx]

theorem afill_fill {M : Mem} {place : Nat → Option (Nat × Nat)} : ∀ (ps : List (Nat × AV)) (qs : List (Nat × Value)) (cells cells' : List AV) (arr : Array Value), Concs M ρ cells arr.toList →
    ps.map (·.1) = qs.map (·.1) → Concs M ρ (ps.map (·.2)) (qs.map (·.2)) → afill place cells ps = some cells' → ∃ arr', Instr.fill place arr qs = some arr' ∧ Concs M ρ cells' arr'.toList
  | [], qs, cells, cells', arr, hc, hq, hv, h => by
    cases qs with
    | nil => simp [afill] at h; subst h; exact ⟨arr, rfl, hc⟩
    | cons q qs => simp at hq
  | (i, v) :: ps, qs, cells, cells', arr, hc, hq, hv, h => by
    cases qs with
    | nil => simp at hq
    | cons q qs =>
      obtain ⟨i', x⟩ := q
      simp only [List.map_cons, List.cons.injEq] at hq
      obtain ⟨rfl, hq⟩ := hq
      cases hv with
      | cons hvx hvs =>
        have hvx : Conc M ρ v x := hvx
        simp only [afill] at h
        split at h
        · cases h
        · rename_i off size hp
          split at h
          · rename_i hcond
            obtain ⟨h1, h2⟩ := hcond
            have hcs := conc_cells hvx
            have hl := hcs.len
            have hl2 := hc.len
            have hsz : x.cells.toList.length = x.cells.size := Array.length_toList
            have hsz2 : arr.toList.length = arr.size := Array.length_toList
            have hcond : ¬ ((decide (x.cells.size ≠ size) || decide (off + x.cells.size > arr.size)) = true) := by
              simp; omega
            have := afill_fill ps qs _ cells' (x.cells.zipIdx.foldl (fun (cs : Array Value) (c, j) => cs.setIfInBounds (off + j) c) arr) (by
              rw [fill_step off x arr (by omega)]
              exact hc.wr hcs off) hq hvs h
            obtain ⟨arr', ha, hc'⟩ := this
            refine ⟨arr', ?_, hc'⟩
            simp only [Instr.fill, hp]
            rw [if_neg hcond]
            exact ha
          · cases h

theorem build_run {t : TypeId} {ps : List (Nat × AV)} {qs : Array (Nat × Value)} {v : AV} (hq : ps.map (·.1) = qs.toList.map (·.1)) (hv : Concs (memOf B) ρ (ps.map (·.2)) (qs.toList.map (·.2)))
    (h : effBuild P t ps = some v) (w : World) : ∃ y, (Instr.build t qs).run P w = .ok y w ∧ Conc (memOf B) ρ v y := by
  have key : ∃ cells, P.built t qs.toList = some cells ∧ Conc (memOf B) ρ v (.agg cells) := by
    unfold effBuild at h
    unfold Program.built
    split at h
    · rename_i it fields hit hu
      split at h
      · rename_i z places hz hp
        simp only [Option.map_eq_some_iff] at h
        obtain ⟨cs, hcs, rfl⟩ := h
        obtain ⟨arr, ha, hc⟩ := afill_fill ps qs.toList _ cs z.cells (Concs.ofS _) hq hv hcs
        refine ⟨arr, ?_, by simpa using conc_mkAgg hc⟩
        simp only [hit, hu, hz, hp, ha]
      · cases h
    · rename_i it n elem hit hu
      split at h
      · rename_i z ie hz hp
        simp only [Option.map_eq_some_iff] at h
        obtain ⟨cs, hcs, rfl⟩ := h
        obtain ⟨arr, ha, hc⟩ := afill_fill ps qs.toList _ cs z.cells (Concs.ofS _) hq hv hcs
        refine ⟨arr, ?_, by simpa using conc_mkAgg hc⟩
        simp only [hit, hu, hz, hp, ha]
      · cases h
    · cases h
  obtain ⟨cells, hb, hc⟩ := key
  exact ⟨_, run_build w t qs cells hb, hc⟩

theorem made_toList (z : Array Value) : ∀ k : Nat, ((Array.range (k * z.size)).map (z[· % z.size]!)).toList = (List.replicate k z.toList).flatten
  | 0 => by simp
  | k + 1 => by
    have ih := made_toList z k
    simp only [Array.toList_map, Array.toList_range] at ih ⊢
    rw [Nat.add_mul, Nat.one_mul, List.range_add, List.map_append, ih, List.replicate_succ', List.flatten_append]
    congr 1
    simp only [List.flatten_cons, List.flatten_nil, List.append_nil, List.map_map]
    apply List.ext_getElem
    · simp
    · intro i h1 h2
      simp only [List.length_map, List.length_range] at h1
      simp [Nat.mul_comm k, Nat.mod_eq_of_lt h1, h1]

theorem setRows_fill {M : Mem} {size : Nat} : ∀ (ps : List (Nat × AV)) (qs : List (Nat × Value)) (rows rows' : List (List AV)) (arr : Array Value), (∀ r ∈ rows, r.length = size) → Concs M ρ rows.flatten arr.toList →
    ps.map (·.1) = qs.map (·.1) → Concs M ρ (ps.map (·.2)) (qs.map (·.2)) → setRows size rows ps = some rows' →
    (∀ r ∈ rows', r.length = size) ∧ rows'.length = rows.length ∧ ∃ arr', Instr.fill (fun i => some (i * size, size)) arr qs = some arr' ∧ Concs M ρ rows'.flatten arr'.toList
  | [], qs, rows, rows', arr, hr, hc, hq, hv, h => by
    cases qs with
    | nil => simp [setRows] at h; subst h; exact ⟨hr, rfl, arr, rfl, hc⟩
    | cons q qs => simp at hq
  | (i, v) :: ps, qs, rows, rows', arr, hr, hc, hq, hv, h => by
    cases qs with
    | nil => simp at hq
    | cons q qs =>
      obtain ⟨i', x⟩ := q
      simp only [List.map_cons, List.cons.injEq] at hq
      obtain ⟨rfl, hq⟩ := hq
      cases hv with
      | cons hvx hvs =>
        have hvx : Conc M ρ v x := hvx
        simp only [setRows] at h
        split at h
        · rename_i hcond
          obtain ⟨h1, h2⟩ := hcond
          have hcs := conc_cells hvx
          have hl := hcs.len
          have hl2 := hc.len
          have hfl := flat_len hr
          have hmul : (i + 1) * size ≤ rows.length * size := Nat.mul_le_mul_right _ h2
          rw [Nat.add_mul] at hmul
          have hsz : x.cells.toList.length = x.cells.size := Array.length_toList
          have hsz2 : arr.toList.length = arr.size := Array.length_toList
          have hcond : ¬ ((decide (x.cells.size ≠ size) || decide (i * size + x.cells.size > arr.size)) = true) := by
            simp; omega
          have hset : (rows.set i (cellsOf v)).flatten = wr rows.flatten (i * size) (cellsOf v) := by
            rw [flat_set hr h2]; unfold wr; rw [h1, Nat.add_mul, Nat.one_mul]
          obtain ⟨k1, k2, arr', ha, hc'⟩ := setRows_fill ps qs (rows.set i (cellsOf v)) rows' (x.cells.zipIdx.foldl (fun (cs : Array Value) (c, j) => cs.setIfInBounds (i * size + j) c) arr)
            (mem_set_len hr h1) (by rw [fill_step (i * size) x arr (by omega), hset]; exact hc.wr hcs _) hq hvs h
          refine ⟨k1, by simpa using k2, arr', ?_, hc'⟩
          simp only [Instr.fill]
          rw [if_neg hcond]
          exact ha
        · cases h

theorem zero_rows {z : Value} {n : Nat} {size : Nat} (hz : z.cells.size = size) {M : Mem} : (∀ r ∈ List.replicate n (z.cells.toList.map AV.s), r.length = size) ∧
    Concs M ρ (List.replicate n (z.cells.toList.map AV.s)).flatten ((Array.range (n * size)).map (z.cells[· % z.cells.size]!)).toList := by
  refine ⟨fun r hr => ?_, ?_⟩
  · rw [(List.mem_replicate.1 hr).2]; simp [hz]
  · subst hz
    rw [made_toList, show List.replicate n (z.cells.toList.map AV.s) = (List.replicate n z.cells.toList).map (·.map AV.s) by simp, ← List.map_flatten]
    exact Concs.ofS _

theorem buildSlice_run (h : Rep B ρ σ w) {t : TypeId} {len : Nat} {ps : List (Nat × AV)} {qs : Array (Nat × Value)} {r : ANext} {σ' : AS} (hq : ps.map (·.1) = qs.toList.map (·.1))
    (hv : Concs (memOf B) ρ (ps.map (·.2)) (qs.toList.map (·.2))) (he : effBuildSlice P t len ps σ = some (r, σ')) :
    ∃ v ρ' w' y, r = .val v ∧ (Instr.buildSlice t len qs).run P w = .ok y w' ∧ Rep B ρ' σ' w' ∧ ρ.le ρ' ∧ Conc (memOf B) ρ' v y := by
  unfold effBuildSlice at he
  split at he
  · rename_i elem hu
    split at he
    · rename_i info hi
      split at he
      · rename_i z hz
        split at he
        · rename_i hcond
          obtain ⟨hzs, hsmall⟩ := hcond
          split at he
          · rename_i rows hrows
            simp only [Option.some.injEq, Prod.mk.injEq] at he
            obtain ⟨rfl, rfl⟩ := he
            obtain ⟨hr0, hc0⟩ := zero_rows (ρ := ρ) (M := memOf B) (n := len) hzs
            obtain ⟨k1, k2, arr, ha, hc⟩ := setRows_fill ps qs.toList _ rows _ hr0 hc0 hq hv hrows
            obtain ⟨ρ', w', hrun, hrep, hle, hconc⟩ := row_run (P := P) h (elem := elem) (c := arr) (n := len) k1 (fun h0 => by
              have h9 := k2
              simp only [List.length_replicate] at h9
              have := Nat.le_mul_of_pos_right len h0
              omega) hc
            refine ⟨_, ρ', w', .slice (some ⟨w.heap.size, 0, none⟩) len len, rfl, ?_, hrep, hle, ?_⟩
            · have hs2 : ¬ (len * info.size > 2 ^ 24) := by omega
              by_cases h0 : len * info.size = 0
              · have ha' : Instr.fill (fun i => some (i * info.size, info.size)) #[] qs.toList = some arr := by
                  rw [← ha]; congr 1; simp [h0, Array.range_zero']
                simp [Instr.buildSlice, run_underlying hu, sizeOf, typeInfo, hi, h0, ha', hrun, Sem.run_bind, Array.range_zero']
              · simp [Instr.buildSlice, run_underlying hu, sizeOf, typeInfo, zeroValue, hi, hz, hs2, h0, ha, hrun, Sem.run_bind]
            · simp only [List.length_replicate] at k2
              rw [k2] at hconc; exact hconc
          · cases he
        · cases he
      · cases he
    · cases he
  · cases he

theorem makeSlice_run (h : Rep B ρ σ w) {t : TypeId} {l c : AV} {x y : Value} {r : ANext} {σ' : AS} (hl : Conc (memOf B) ρ l x) (hc : Conc (memOf B) ρ c y) (he : effMakeSlice P t l c σ = some (r, σ')) :
    ∃ v ρ' w' u, r = .val v ∧ (Instr.makeSlice t x y).run P w = .ok u w' ∧ Rep B ρ' σ' w' ∧ ρ.le ρ' ∧ Conc (memOf B) ρ' v u := by
  unfold effMakeSlice at he
  split at he
  · rename_i elem kl len kc cap hu
    cases hl; cases hc
    split at he
    · rename_i info hi
      split at he
      · rename_i z hz
        split at he
        · rename_i hcond
          obtain ⟨hzs, h0, h1, h2, h3⟩ := hcond
          simp only [Option.some.injEq, Prod.mk.injEq] at he
          obtain ⟨rfl, rfl⟩ := he
          obtain ⟨hr0, hc0⟩ := zero_rows (ρ := ρ) (M := memOf B) (n := cap.toNat) hzs
          obtain ⟨ρ', w', hrun, hrep, hle, hconc⟩ := row_run (P := P) h (elem := elem) (n := len.toNat) hr0 (fun _ => by rw [List.length_replicate]; omega) hc0
          have hmk := run_make (P := P) w t elem info z hu hi hz kl kc len cap h0 h1 h3 (by omega)
          have hw : w' = w.alloc (.cells (madeCells z.cells (cap.toNat * info.size)) elem) := by
            have : (newRow elem ((Array.range (cap.toNat * info.size)).map (z.cells[· % z.cells.size]!))).run P w = .ok ⟨w.heap.size, 0, none⟩ (w.alloc (.cells (madeCells z.cells (cap.toNat * info.size)) elem)) := rfl
            rw [this] at hrun
            cases hrun; rfl
          refine ⟨_, ρ', w', .slice (some ⟨w.heap.size, 0, none⟩) len.toNat cap.toNat, rfl, ?_, hrep, hle, ?_⟩
          · rw [hw]; exact hmk
          · simpa using hconc
        · cases he
      · cases he
    · cases he
  · cases he

end Go.Ab
/- Fields, elements, slices of slices, equality, assertions, lengths. -/
namespace Go.Ab
variable {P : Program} {B : World} {ρ : Rho} {σ : AS} {w : World}

theorem run_underlying' {t : TypeId} {d : TypeDesc} (h : P.underlying t = some d) (w : World) : (underlying t).run P w = .ok d w := run_underlying h w

theorem part_run {M : Mem} {t : TypeId} {cs : List AV} {vs : Array Value} {off : Nat} {v : AV} (hc : Concs M ρ cs vs.toList) (h : readAt P t cs off = some v) (w : World) :
    ∃ y, (part t vs off).run P w = .ok y w ∧ Conc M ρ v y := by
  unfold readAt at h
  split at h
  · rename_i d hu
    split at h
    · rename_i hd
      split at h
      · rename_i n hn
        split at h
        · rename_i hle
          simp at h; subst h
          refine ⟨.agg (vs.extract off (off + n)), ?_, ?_⟩
          · simp [part, Sem.run_bind, run_isAgg hu w, hd, run_sizeOf hn w]
          · have := conc_mkAgg ((hc.drop off).take n)
            have e : (vs.toList.drop off |>.take n).toArray = vs.extract off (off + n) := by
              apply Array.ext'
              simp [Array.toList_extract, List.extract_eq_take_drop]
            rwa [e] at this
        · cases h
      · cases h
    · rename_i hd
      obtain ⟨y, hy, hcy⟩ := hc.get h
      refine ⟨y, ?_, hcy⟩
      have hd' : d.isRow = false := by simpa using hd
      have : vs[off]? = some y := by rw [← Array.getElem?_toList]; exact hy
      simp [part, Sem.run_bind, run_isAgg hu w, hd', this]
  · cases h

theorem field_run {M : Mem} {t : TypeId} {x : AV} {c : Value} {f : Nat} {v : AV} (hx : Conc M ρ x c) (h : effField P t x f = some v) (w : World) :
    ∃ y, (Instr.field t c f).run P w = .ok y w ∧ Conc M ρ v y := by
  unfold effField at h
  split at h
  · rename_i fields cs hu
    cases hx with
    | agg hx =>
      simp only [Option.bind_eq_some_iff] at h
      obtain ⟨fd, hfd, hr⟩ := h
      obtain ⟨y, hy, hcy⟩ := part_run hx hr w
      exact ⟨y, by simp [Instr.field, Sem.run_bind, run_underlying hu w, hfd, asAgg, hy], hcy⟩
  · cases h

theorem index_run {M : Mem} {t : TypeId} {x ix : AV} {c ci : Value} {v : AV} (hx : Conc M ρ x c) (hi : Conc M ρ ix ci) (h : effIndex P t x ix = some v) (w : World) :
    ∃ y, (Instr.index t c ci).run P w = .ok y w ∧ Conc M ρ v y := by
  unfold effIndex at h
  split at h
  · rename_i len elem cs k n hu
    cases hi
    cases hx with
    | agg hx =>
      split at h
      · rename_i hn
        simp only [Option.bind_eq_some_iff] at h
        obtain ⟨size, hs, hr⟩ := h
        obtain ⟨y, hy, hcy⟩ := part_run hx hr w
        exact ⟨y, by simp [Instr.index, Sem.run_bind, asIntOf, run_underlying hu w, hn, run_sizeOf hs w, hy], hcy⟩
      · cases h
  · cases h

theorem fieldAddr_run {M : Mem} {t : TypeId} {x : AV} {c : Value} {f : Nat} {v : AV} (hx : Conc M ρ x c) (h : effFieldAddr P t x f = some v) (w : World) :
    ∃ y, (Instr.fieldAt t c f).run P w = .ok y w ∧ Conc M ρ v y := by
  unfold effFieldAddr at h
  split at h
  · rename_i fields hu
    split at h
    · rename_i fd hfd
      split at h
      · rename_i k hs
        split at h
        · cases h
          cases hx with
          | ptr hr =>
            refine ⟨_, ?_, .ptr hr⟩
            simp [Instr.fieldAt, Sem.run_bind, run_underlying hu w, hfd, Instr.sureAddr, fieldPlace, run_sizeOf hs w, Addr.add_mid, Nat.add_assoc]
        · cases h
          cases hx with
          | rptr hr =>
            refine ⟨_, ?_, .rptr hr⟩
            simp [Instr.fieldAt, Sem.run_bind, run_underlying hu w, hfd, Instr.sureAddr, fieldPlace, run_sizeOf hs w, Addr.add_mid, Nat.add_assoc]
        · cases h
      · cases h
    · cases h
  · cases h

theorem indexAddr_run (hrep : Rep B ρ σ w) {t : TypeId} {x ix : AV} {c ci : Value} {v : AV} (hx : Conc (memOf B) ρ x c) (hi : Conc (memOf B) ρ ix ci) (h : effIndexAddr P t x ix σ = some v) :
    ∃ y, (Instr.indexAt t c ci).run P w = .ok y w ∧ Conc (memOf B) ρ v y := by
  unfold effIndexAddr at h
  split at h
  · rename_i elem k n hu
    cases hi
    split at h
    · rename_i size hs
      split at h
      · rename_i o i len cap
        split at h
        · rename_i e es ex rows hg
          split at h
          · rename_i hcond
            obtain ⟨he, h0, h1⟩ := hcond
            cases h
            cases hx <;> rename_i l hr
            all_goals
              obtain ⟨q1, _⟩ := hrep.obj o _ l hg hr
              refine ⟨_, ?_, .ptr hr⟩
              simp [Instr.indexAt, Sem.run_bind, asIntOf, run_underlying hu w, h0, h1, run_sizeOf hs w, Addr.add_mid, q1, he, Nat.add_mul]
          · cases h
        · cases h
      · rename_i a es cap rows
        split at h
        · rename_i hcond
          obtain ⟨he, h0, h1⟩ := hcond
          cases h
          cases hx with
          | rsl hm hc =>
            refine ⟨_, ?_, .rptr hm⟩
            simp [Instr.indexAt, Sem.run_bind, asIntOf, run_underlying hu w, h0, h1, run_sizeOf hs w, Addr.add_mid, he]
        · cases h
      · cases h
    · cases h
  · rename_i len elem k n hu
    cases hi
    split at h
    · rename_i size hs
      split at h
      · rename_i hn
        split at h
        · cases h
          cases hx with
          | ptr hr =>
            refine ⟨_, ?_, .ptr hr⟩
            simp [Instr.indexAt, Sem.run_bind, asIntOf, run_underlying hu w, hn, Instr.sureAddr, run_sizeOf hs w, Addr.add_mid, Nat.add_assoc]
        · cases h
          cases hx with
          | rptr hr =>
            refine ⟨_, ?_, .rptr hr⟩
            simp [Instr.indexAt, Sem.run_bind, asIntOf, run_underlying hu w, hn, Instr.sureAddr, run_sizeOf hs w, Addr.add_mid, Nat.add_assoc]
        · cases h
      · cases h
    · cases h
  · cases h

theorem len_run {M : Mem} {ats : Array TypeId} {x : AV} {c : Value} {ty : TypeId} {v : AV} (hx : Conc M ρ x c) (h : effLen P ats x = some v) (w : World) :
    ∃ y, (Builtin.len_ ats ty #[c]).run P w = .ok y w ∧ Conc M ρ v y := by
  unfold effLen at h
  split at h
  · rename_i o i n cap e hu
    cases h
    simp only [Option.bind_eq_some_iff] at hu
    obtain ⟨t, ht, hu⟩ := hu
    cases hx <;> exact ⟨_, by simp [Builtin.len_, ht, Sem.run_bind, run_underlying hu w]; rfl, .s _⟩
  · rename_i a es cap rows e hu
    cases h
    simp only [Option.bind_eq_some_iff] at hu
    obtain ⟨t, ht, hu⟩ := hu
    cases hx; exact ⟨_, by simp [Builtin.len_, ht, Sem.run_bind, run_underlying hu w]; rfl, .s _⟩
  · rename_i e hu
    cases h
    simp only [Option.bind_eq_some_iff] at hu
    obtain ⟨t, ht, hu⟩ := hu
    cases hx; exact ⟨_, by simp [Builtin.len_, ht, Sem.run_bind, run_underlying hu w]; rfl, .s _⟩
  · cases h

theorem cap_run (hrep : Rep B ρ σ w) {ats : Array TypeId} {x : AV} {c : Value} {ty : TypeId} {v : AV} (hx : Conc (memOf B) ρ x c) (h : effCap P ats x σ = some v) :
    ∃ y, (Builtin.cap_ ats ty #[c]).run P w = .ok y w ∧ Conc (memOf B) ρ v y := by
  unfold effCap at h
  split at h
  · rename_i o i n cap e hu
    cases h
    simp only [Option.bind_eq_some_iff] at hu
    obtain ⟨t, ht, hu⟩ := hu
    cases hx; exact ⟨_, by simp [Builtin.cap_, ht, Sem.run_bind, run_underlying hu w]; rfl, .s _⟩
  · rename_i o i n e hu
    split at h
    · rename_i e' es rows hg
      cases h
      simp only [Option.bind_eq_some_iff] at hu
      obtain ⟨t, ht, hu⟩ := hu
      cases hx
      rename_i l hr
      obtain ⟨q1, q2, q3, _⟩ := hrep.obj _ _ l hg hr
      have := q3 rfl
      exact ⟨_, by simp [Builtin.cap_, ht, Sem.run_bind, run_underlying hu w, this]; rfl, .s _⟩
    · cases h
  · rename_i a es cap rows e hu
    cases h
    simp only [Option.bind_eq_some_iff] at hu
    obtain ⟨t, ht, hu⟩ := hu
    cases hx; exact ⟨_, by simp [Builtin.cap_, ht, Sem.run_bind, run_underlying hu w]; rfl, .s _⟩
  · cases h

theorem eq_ifaces {t a b : TypeId} {u v : Value} {ms : Array (String × TypeId)} (hu : P.underlying t = some (.interface ms)) (hab : a ≠ b) (n : Nat) (w : World) :
    (Op.equalIn (n + 1) t (.iface a u) (.iface b v)).run P w = .ok false w := by
  unfold Op.equalIn
  rw [Sem.run_bind, run_underlying hu w]
  show (if a ≠ b then (pure false : Sem Bool) else _).run P w = _
  rw [if_pos hab]; rfl

set_option maxHeartbeats 1000000 in
theorem eq_run {M : Mem} {t : TypeId} {x y : AV} {c d : Value} {r : Bool} (hx : Conc M ρ x c) (hy : Conc M ρ y d) (h : effEq P t x y = some r) (w : World) : (Op.equal t c d).run P w = .ok r w := by
  unfold effEq at h
  split at h <;> rename_i hu <;> (try split at h) <;> first
    | (cases h; done)
    | (cases h
       cases hx <;> cases hy <;>
        (unfold Op.equal Op.maxDepth Op.equalIn
         rw [Sem.run_bind, run_underlying hu w]
         rfl))
    | (rename_i hne
       cases h
       cases hx <;> cases hy <;> exact eq_ifaces hu hne 9999 w)

end Go.Ab
/- Slices of slices; assertions. -/
namespace Go.Ab
variable {P : Program} {B : World} {ρ : Rho} {σ : AS} {w : World}

inductive OptConc (M : Mem) (ρ : Rho) : Option AV → Option Value → Prop
  | none : OptConc M ρ none none
  | some {a : AV} {v : Value} (h : Conc M ρ a v) : OptConc M ρ (some a) (some v)
theorem optConc_map {M : Mem} {ev : Operand → AV} {av : Operand → Value} (h : ∀ x, Conc M ρ (ev x) (av x)) (x : Option Operand) : OptConc M ρ (x.map ev) (x.map av) := by
  cases x with
  | none => exact .none
  | some x => exact .some (h x)

theorem bound_some {a : AV} {d y n : Nat} (h : bound (some a) d y = some n) : ∃ k i, a = .s (.int k i) ∧ 0 ≤ i ∧ i ≤ y ∧ n = i.toNat := by
  unfold bound at h
  split at h
  · rename_i he; cases he
  · rename_i k i he
    split at h
    · rename_i hc
      cases h; cases he
      exact ⟨k, i, rfl, hc.1, hc.2, rfl⟩
    · cases h
  · cases h

theorem slBounds_run {M : Mem} {n top cap : Nat} {lo hi mx : Option AV} {cl ch cm : Option Value} {l h m : Nat} (hl : OptConc M ρ lo cl) (hh : OptConc M ρ hi ch) (hm : OptConc M ρ mx cm)
    (hmh : ¬ (mx.isSome && hi.isNone) = true) (hcap : top ≤ cap) (hb : slBounds n top lo hi mx = some (l, h, m)) (b : Bool) (w : World) :
    ∃ m', (Instr.sliceBounds b n cap cl ch cm).run P w = .ok (l, h, m') w ∧ (mx.isSome = true → m' = m) ∧ (mx = none → m = top ∧ m' = cap) := by
  unfold slBounds at hb
  simp only [Option.bind_eq_some_iff, Option.some.injEq, Prod.mk.injEq] at hb
  obtain ⟨m0, hm0, h0, hh0, l0, hl0, rfl, rfl, rfl⟩ := hb
  cases hm with
  | none =>
    simp only [bound, Option.some.injEq] at hm0
    subst hm0
    refine ⟨cap, ?_, by simp, fun _ => ⟨rfl, rfl⟩⟩
    cases hh with
    | none =>
      simp only [bound, Option.some.injEq] at hh0
      subst hh0
      cases hl with
      | none => simp only [bound, Option.some.injEq] at hl0; subst hl0; simp [Instr.sliceBounds]
      | some hv =>
        obtain ⟨k, i, rfl, h1, h2, rfl⟩ := bound_some hl0
        cases hv
        simp [Instr.sliceBounds, Instr.sliceBound, asIntOf, h1, h2]
    | some hv =>
      obtain ⟨k, i, rfl, h1, h2, rfl⟩ := bound_some hh0
      cases hv
      have h2' : i ≤ cap := by omega
      cases hl with
      | none => simp only [bound, Option.some.injEq] at hl0; subst hl0; simp [Instr.sliceBounds, Instr.sliceBound, asIntOf, h1, h2']
      | some hv =>
        obtain ⟨k', i', rfl, h3, h4, rfl⟩ := bound_some hl0
        cases hv
        simp [Instr.sliceBounds, Instr.sliceBound, asIntOf, h1, h2', h3]
        omega
  | some hv =>
    obtain ⟨k, i, rfl, h1, h2, rfl⟩ := bound_some hm0
    cases hv
    have h2' : i ≤ cap := by omega
    refine ⟨i.toNat, ?_, fun _ => rfl, by simp⟩
    cases hh with
    | none => simp at hmh
    | some hv =>
      obtain ⟨k2, i2, rfl, h3, h4, rfl⟩ := bound_some hh0
      cases hv
      have h4' : i2 ≤ i := by omega
      cases hl with
      | none =>
        simp only [bound, Option.some.injEq] at hl0; subst hl0
        simp [Instr.sliceBounds, Instr.sliceBound, asIntOf, h1, h2', h3]
        omega
      | some hv =>
        obtain ⟨k', i', rfl, h5, h6, rfl⟩ := bound_some hl0
        cases hv
        have h6' : i' ≤ i2 := by omega
        have e1 : i2 ≤ (i.toNat : Int) := by omega
        have e2 : i' ≤ (i2.toNat : Int) := by omega
        simp only [Instr.sliceBounds, Instr.sliceBound, asIntOf, Sem.run_bind, Sem.run_pure, Result.andThen_ok, h1, h2', h3, h5, e1, e2, true_and, and_self, if_true]

theorem ConcMem.take {M : Mem} {b off es : Nat} {rows : List (List AV)} (h : ConcMem M ρ b off es rows) (n : Nat) : ConcMem M ρ b off es (rows.take n) := by
  cases h with
  | mk hm hl hc =>
    refine .mk hm (fun r hr => hl r (List.mem_of_mem_take hr)) ?_
    rw [flat_take hl]
    have := hc.take (n * es)
    rw [List.take_take] at this
    have e : min (n * es) (rows.length * es) = (rows.take n).length * es := by
      rw [List.length_take]
      rcases Nat.le_total n rows.length with h | h
      · rw [Nat.min_eq_left h, Nat.min_eq_left (Nat.mul_le_mul_right _ h)]
      · rw [Nat.min_eq_right h, Nat.min_eq_right (Nat.mul_le_mul_right _ h)]
    rwa [e] at this
theorem ConcMem.drop {M : Mem} {b off es : Nat} {rows : List (List AV)} (h : ConcMem M ρ b off es rows) (n : Nat) : ConcMem M ρ b (off + n * es) es (rows.drop n) := by
  cases h with
  | mk hm hl hc =>
    refine .mk hm (fun r hr => hl r (List.mem_of_mem_drop hr)) ?_
    rw [flat_drop hl]
    have := hc.drop (n * es)
    rw [List.drop_take, List.drop_drop] at this
    have e : rows.length * es - n * es = (rows.drop n).length * es := by
      rw [List.length_drop, Nat.sub_mul]
    rwa [e] at this

theorem slice_go {t elem : TypeId} {size : Nat} (hu : P.underlying t = some (.slice elem)) (hs : sz P elem = some size) {a : Option Addr} {n cap : Nat} {cl ch cm : Option Value} {l h m : Nat} {w : World}
    (hb : (Instr.sliceBounds true n cap cl ch cm).run P w = .ok (l, h, m) w) :
    (Instr.sliceAt t (.slice a n cap) cl ch cm).run P w = .ok (.slice (if m = l then a else a.map (·.add (l * size))) (h - l) (m - l)) w := by
  simp [Instr.sliceAt, Instr.slice, Sem.run_bind, run_underlying hu w, hb, run_sizeOf hs w]

theorem mkSl_conc {M : Mem} {o i l h m : Nat} {loc : Loc} {size : Nat} (hr : ρ o = some loc) (hes : loc.es = size) :
    Conc M ρ (mkSl o i l h m) (.slice (if m = l then some ⟨loc.blk, i * loc.es, none⟩ else (some (⟨loc.blk, i * loc.es, none⟩ : Addr)).map (·.add (l * size))) (h - l) (m - l)) := by
  unfold mkSl
  by_cases e : m = l
  · simp only [e, if_true]
    exact .slc hr
  · simp only [e, if_false]
    have := Conc.slc (M := M) (i := i + l) (n := h - l) (c := m - l) hr
    simpa [Addr.add_mid, hes, Nat.add_mul] using this

theorem slice_run (hrep : Rep B ρ σ w) {t : TypeId} {x v : AV} {c : Value} {lo hi mx : Option AV} {cl ch cm : Option Value} (hx : Conc (memOf B) ρ x c) (hl : OptConc (memOf B) ρ lo cl) (hh : OptConc (memOf B) ρ hi ch)
    (hm : OptConc (memOf B) ρ mx cm) (he : effSlice P t x lo hi mx σ = some v) : ∃ y, (Instr.sliceAt t c cl ch cm).run P w = .ok y w ∧ Conc (memOf B) ρ v y := by
  unfold effSlice at he
  split at he
  · cases he
  · rename_i hmh
    split at he
    · rename_i elem hu
      split at he
      · rename_i size hs
        split at he
        · rename_i o i n cap
          split at he
          · rename_i e es exact rows hg
            split at he
            · rename_i hcond
              obtain ⟨hes, hle⟩ := hcond
              cases hx with
              | slc hr =>
                rename_i c loc
                obtain ⟨q1, q2, q3, q4, _⟩ := hrep.obj o _ loc hg hr
                simp only [Option.map_eq_some_iff] at he
                obtain ⟨⟨l, h, m⟩, hb, rfl⟩ := he
                obtain ⟨m', hrun, h1, h2⟩ := slBounds_run (P := P) hl hh hm hmh (Nat.le_refl c) hb true w
                have hmm : m' = m := by
                  cases mx with
                  | none => obtain ⟨a1, a2⟩ := h2 rfl; omega
                  | some _ => exact h1 rfl
                subst hmm
                exact ⟨_, slice_go hu hs hrun, mkSl_conc hr (q1.trans hes)⟩
              | sl hr =>
                rename_i loc
                obtain ⟨q1, q2, q3, q4, _⟩ := hrep.obj o _ loc hg hr
                simp only at he
                split at he
                · -- with a third bound
                  rename_i mv
                  simp only [Option.map_eq_some_iff] at he
                  obtain ⟨⟨l, h, m⟩, hb, rfl⟩ := he
                  obtain ⟨m', hrun, h1, h2⟩ := slBounds_run (P := P) (cap := loc.cap - i) hl hh hm hmh (by omega) hb true w
                  have := h1 rfl
                  subst this
                  exact ⟨_, slice_go hu hs hrun, mkSl_conc hr (q1.trans hes)⟩
                · simp only [Option.map_eq_some_iff] at he
                  obtain ⟨⟨l, h, m⟩, hb, rfl⟩ := he
                  obtain ⟨m', hrun, h1, h2⟩ := slBounds_run (P := P) (cap := loc.cap - i) hl hh hm hmh (by omega) hb true w
                  obtain ⟨a1, a2⟩ := h2 rfl
                  have hq := q3 rfl
                  have hmm : m' = m := by omega
                  subst hmm
                  refine ⟨_, slice_go hu hs hrun, ?_⟩
                  by_cases e : m' = l
                  · simp only [e, if_true, Nat.sub_self]; exact .slc hr
                  · simp only [e, if_false]
                    have := Conc.sl (M := memOf B) (i := i + l) (n := h - l) hr
                    have e2 : loc.cap - (i + l) = m' - l := by omega
                    rw [e2] at this
                    simpa [Addr.add_mid, q1, hes, Nat.add_mul] using this
                · simp only [Option.bind_eq_some_iff] at he
                  obtain ⟨⟨l, h, m⟩, hb, he⟩ := he
                  obtain ⟨m', hrun, h1, h2⟩ := slBounds_run (P := P) (cap := loc.cap - i) hl hh hm hmh (by omega) hb true w
                  obtain ⟨a1, a2⟩ := h2 rfl
                  simp only at he
                  split at he
                  · rename_i hc
                    cases he
                    refine ⟨_, slice_go hu hs hrun, ?_⟩
                    have := Conc.sl (M := memOf B) (i := i + l) (n := h - l) hr
                    have e2 : loc.cap - (i + l) = m' - l := by omega
                    rw [e2] at this
                    by_cases e : m' = l
                    · have hl0 : l = 0 := by omega
                      subst hl0
                      simpa [e] using this
                    · simp only [e, if_false]
                      simpa [Addr.add_mid, q1, hes, Nat.add_mul] using this
                  · split at he
                    · rename_i hhl
                      cases he
                      refine ⟨_, slice_go hu hs hrun, ?_⟩
                      subst hhl
                      rw [Nat.sub_self]
                      exact .sle
                    · cases he
            · cases he
          · cases he
        · rename_i a es cap rows
          split at he
          · rename_i hes
            simp only [Option.bind_eq_some_iff] at he
            obtain ⟨⟨l, h, m⟩, hb, he⟩ := he
            cases hx with
            | rsl hmem hc =>
              obtain ⟨m', hrun, h1, h2⟩ := slBounds_run (P := P) hl hh hm hmh (Nat.le_refl cap) hb true w
              have hmm : m' = m := by
                cases mx with
                | none => obtain ⟨a1, a2⟩ := h2 rfl; omega
                | some _ => exact h1 rfl
              subst hmm
              have hlh : l ≤ h ∧ h ≤ m' ∨ mx = none := by
                by_cases e : mx = none
                · exact .inr e
                · left
                  unfold slBounds at hb
                  simp only [Option.bind_eq_some_iff, Option.some.injEq, Prod.mk.injEq] at hb
                  obtain ⟨m0, hm0, h0, hh0, l0, hl0, rfl, rfl, rfl⟩ := hb
                  cases hi with
                  | none => cases mx <;> simp_all
                  | some hv =>
                    obtain ⟨_, _, rfl, _, _, rfl⟩ := bound_some hh0
                    cases lo with
                    | none => simp only [bound, Option.some.injEq] at hl0; subst hl0; omega
                    | some lv => obtain ⟨_, _, rfl, _, _, rfl⟩ := bound_some hl0; omega
              have hlh' : l ≤ h := by
                unfold slBounds at hb
                simp only [Option.bind_eq_some_iff, Option.some.injEq, Prod.mk.injEq] at hb
                obtain ⟨m0, hm0, h0, hh0, l0, hl0, rfl, rfl, rfl⟩ := hb
                cases lo with
                | none => simp only [bound, Option.some.injEq] at hl0; subst hl0; omega
                | some lv => obtain ⟨_, _, rfl, _, _, rfl⟩ := bound_some hl0; omega
              simp only at he
              split at he
              · rename_i hhl
                have hhm : h ≤ m' := by
                  rcases hlh with ⟨_, h'⟩ | e
                  · exact h'
                  · obtain ⟨a1, a2⟩ := h2 e; omega
                have hlen : (rows.take h).length = h := by rw [List.length_take]; omega
                split at he
                · rename_i hl0
                  cases he; subst hl0
                  refine ⟨_, slice_go hu hs hrun, ?_⟩
                  have := Conc.rsl (hmem.take h) (show (rows.take h).length ≤ m' by omega)
                  rw [hlen] at this
                  by_cases e : m' = 0
                  · simpa [e] using this
                  · simpa [e, Addr.add_mid] using this
                · split at he
                  · rename_i e
                    cases he
                    refine ⟨_, slice_go hu hs hrun, ?_⟩
                    have := Conc.rsl (hmem.take 0) (show (rows.take 0).length ≤ 0 by simp)
                    have e0 : h - l = 0 := by omega
                    have e1 : m' - l = 0 := by omega
                    simp only [e, if_true, Nat.sub_self] at *
                    simpa [e0] using this
                  · rename_i e
                    cases he
                    refine ⟨_, slice_go hu hs hrun, ?_⟩
                    have := Conc.rsl ((hmem.take h).drop l) (cap := m' - l) (by rw [List.length_drop, hlen]; omega)
                    rw [List.length_drop, hlen] at this
                    simp only [e, if_false, Option.map_some, Addr.add_mid, ← hes]
                    exact this
              · cases he
          · cases he
        · cases he
      · cases he
    · cases he

theorem assert_run {M : Mem} {x v : AV} {c : Value} {xt asserted : TypeId} {ok : Bool} (hx : Conc M ρ x c) (he : effAssert P x asserted ok = some v) (w : World) :
    ∃ y, (Instr.typeAssert c xt asserted ok).run P w = .ok y w ∧ Conc M ρ v y := by
  have pair : ∀ {a b : AV} {u z : Value}, Conc M ρ a u → Conc M ρ b z → Conc M ρ (mkTup [a, b]) (.tuple #[u, z]) := fun ha hb => conc_mkTup (.cons ha (.cons hb .nil))
  unfold effAssert at he
  split at he
  · rename_i want t v' hu
    cases hx with
    | ifc hx =>
      split at he
      · rename_i i hi
        split at he
        · rename_i hm
          cases he
          cases ok
          · exact ⟨_, by simp [Instr.typeAssert, Sem.run_bind, run_underlying hu w, typeInfo, hi, hm], .ifc hx⟩
          · exact ⟨_, by simp [Instr.typeAssert, Sem.run_bind, run_underlying hu w, typeInfo, hi, hm], pair (.ifc hx) (.s _)⟩
        · rename_i mm hm
          cases ok
          · cases he
          · simp only [if_true, Option.map_eq_some_iff, Option.bind_eq_some_iff] at he
            obtain ⟨z, ⟨ia, hia, hz⟩, rfl⟩ := he
            exact ⟨_, by simp [Instr.typeAssert, Sem.run_bind, run_underlying hu w, typeInfo, hi, hm, zeroValue, hia, hz], pair (.s _) (.s _)⟩
      · cases he
  · cases he
  · rename_i d t v' hnot hu
    cases hx with
    | ifc hx =>
      split at he
      · rename_i ht
        cases he
        subst ht
        cases ok
        · refine ⟨_, ?_, hx⟩
          cases d <;> first | (exact absurd rfl (hnot _)) | (simp [Instr.typeAssert, Sem.run_bind, run_underlying hu w])
        · refine ⟨_, ?_, pair hx (.s _)⟩
          cases d <;> first | (exact absurd rfl (hnot _)) | (simp [Instr.typeAssert, Sem.run_bind, run_underlying hu w])
      · rename_i ht
        cases ok
        · cases he
        · simp only [if_true, Option.map_eq_some_iff, Option.bind_eq_some_iff] at he
          obtain ⟨z, ⟨ia, hia, hz⟩, rfl⟩ := he
          refine ⟨_, ?_, pair (.s z) (.s _)⟩
          · cases d <;> first | (exact absurd rfl (hnot _)) | (simp [Instr.typeAssert, Sem.run_bind, run_underlying hu w, ht, zeroValue, typeInfo, hia, hz])
  · cases he

end Go.Ab
/- append(s, make([]T, n)...): what is appended are zeros. -/
namespace Go.Ab
variable {P : Program} {w : World}
structure Zer (P : Program) (info : TypeInfo) (tx : TypeId) (c : Value) (n : Nat) (nvs : List Value) : Prop where
  kind : ∃ ki, P.underlying tx = some (.int ki)
  val : ∃ kk, c = .int kk n
  small : n < 2 ^ 40
  fits : n * info.bytes ≤ 2 ^ 48
  zero : ∃ z, info.zero = some z ∧ z.cells.size = info.size ∧ nvs = (Builtin.zeroCells z.cells n).toList
  one : ∀ u ∈ nvs, u.oneCell' = true
def SrcZ (P : Program) (info : TypeInfo) (tx : TypeId) (c : Value) (n : Nat) (nvs : List Value) (w : World) : Prop := Src P info.size tx c n nvs w ∨ Zer P info tx c n nvs
theorem SrcZ.one {info : TypeInfo} {tx : TypeId} {c : Value} {n : Nat} {nvs : List Value} (h : SrcZ P info tx c n nvs w) : ∀ u ∈ nvs, u.oneCell' = true := h.elim (·.one) (·.one)
theorem Zer.len {info : TypeInfo} {tx : TypeId} {c : Value} {n : Nat} {nvs : List Value} (h : Zer P info tx c n nvs) : nvs.length = n * info.size := by
  obtain ⟨z, _, hz, rfl⟩ := h.zero
  simp [Builtin.zeroCells, hz]
theorem wrap_small {n : Nat} (h : n < 2 ^ 40) : IntKind.i64.wrap (n : Int) = n := by
  have h1 : (n : Int) < 1099511627776 := by omega
  unfold IntKind.wrap
  simp [IntKind.bits, IntKind.signed]
  omega
theorem run_asInt {kk : IntKind} {n : Int} {w : World} : (asInt (.int kk n)).run P w = .ok n w := by simp [asInt, asIntOf]
theorem fits_int {n b : Nat} (h : n * b ≤ 2 ^ 48) : ¬ (281474976710656 < (n : Int) * (b : Int)) := by
  have e : ((n * b : Nat) : Int) ≤ ((2 ^ 48 : Nat) : Int) := Int.ofNat_le.2 h
  rw [Int.natCast_mul] at e
  omega
theorem room_srcZ (w : World) (t tx ty e : TypeId) (i : TypeInfo) (ht : P.underlying t = some (.slice e)) (hi : P.info? e = some i) (b off sLen sCap : Nat) (x : Value) (n : Nat) (news : List Value) (hs : SrcZ P i tx x n news w)
    (hroom : sLen + n ≤ sCap) (hc : ∀ j, j < news.length → (w.cell? ⟨b, off + sLen * i.size + j, none⟩).isSome = true) (hf : ∀ j, j < news.length → w.frozen? ⟨b, off + sLen * i.size + j, none⟩ = false) :
    (Builtin.append_ #[t, tx] ty #[.slice (some ⟨b, off, none⟩) sLen sCap, x]).run P w = .ok (.slice (some ⟨b, off, none⟩) (sLen + n) sCap) (w.setCells b (off + sLen * i.size) news) := by
  rcases hs with hs | hs
  · exact run_append_room_src w t tx ty e i ht hi b off sLen sCap x n news hs hroom hc hf
  · have hst := run_storeCells_cells (P := P) b (off + sLen * i.size) news 0 w (by simpa using hc) (by simpa using hf) hs.one
    simp only [Nat.add_zero] at hst
    have hl := hs.len
    obtain ⟨ki, hk⟩ := hs.kind
    obtain ⟨kk, rfl⟩ := hs.val
    obtain ⟨z, hz1, hz2, hz3⟩ := hs.zero
    have hw := wrap_small hs.small
    have hfit := fits_int hs.fits
    have hneg : ¬ ((n : Int) < 0) := by omega
    by_cases h0 : n * i.size = 0
    · have hn : news = [] := List.eq_nil_of_length_eq_zero (by omega)
      subst hn
      simp [Builtin.append_, run_underlying ht, run_underlying hk, sizeOf, typeInfo, hi, run_asInt, hw, hneg, hfit, hroom, h0, Addr.add_lit, hst]
    · simp [Builtin.append_, run_underlying ht, run_underlying hk, sizeOf, typeInfo, zeroValue, hi, hz1, run_asInt, hw, hneg, hfit, hroom, h0, Addr.add_lit, ← hz3, hst]
theorem grow_srcZ (w : World) (t tx ty e : TypeId) (i : TypeInfo) (z : Value) (ht : P.underlying t = some (.slice e)) (hi : P.info? e = some i) (hz : i.zero = some z) (base : Option Addr) (sLen sCap : Nat) (olds : List Value)
    (hold : (Builtin.firstCells i.size sLen (.slice base sLen sCap)).run P w.drew = .ok olds.toArray w.drew) (x : Value) (n : Nat) (news : List Value) (hs : SrcZ P i tx x n news w)
    (hg : sCap < sLen + n) (h63 : ((sLen + n : Nat) : Int) ≤ 9223372036854775807) (hfit : Builtin.nextslicecap (sLen + n) sCap * i.bytes ≤ 281474976710656) :
    (Builtin.append_ #[t, tx] ty #[.slice base sLen sCap, x]).run P w =
      .ok (.slice (some ⟨w.heap.size, 0, none⟩) (sLen + n) (grownCap w (sLen + n) sCap e))
        (w.drew.alloc (.cells ((olds ++ news).toArray ++ Builtin.zeroCells z.cells (grownCap w (sLen + n) sCap e - (sLen + n))) e)) := by
  rcases hs with hs | hs
  · exact run_append_grow_src w t tx ty e i z ht hi hz base sLen sCap olds hold x n news hs hg h63 hfit
  · have hn : ¬ (sLen + n ≤ sCap) := by omega
    have h63' : ¬ (9223372036854775807 < ((sLen : Int) + (n : Int))) := by omega
    have h48' : ¬ (281474976710656 < Builtin.nextslicecap (sLen + n) sCap * i.bytes) := by omega
    have hl := hs.len
    obtain ⟨ki, hk⟩ := hs.kind
    obtain ⟨kk, rfl⟩ := hs.val
    obtain ⟨z', hz1, hz2, hz3⟩ := hs.zero
    rw [hz] at hz1
    cases hz1
    have hw := wrap_small hs.small
    have hfit2 := fits_int hs.fits
    have hneg : ¬ ((n : Int) < 0) := by omega
    by_cases h0 : n * i.size = 0
    · have hnn : news = [] := List.eq_nil_of_length_eq_zero (by omega)
      subst hnn
      simp [Builtin.append_, run_underlying ht, run_underlying hk, sizeOf, typeInfo, zeroValue, hi, hz, run_asInt, hw, hneg, hfit2, hn, h63', h48', h0, Question.forced, hold, newRow, grownCap]
      try (congr 2; apply Array.ext'; simp [List.append_assoc])
    · simp [Builtin.append_, run_underlying ht, run_underlying hk, sizeOf, typeInfo, zeroValue, hi, hz, run_asInt, hw, hneg, hfit2, hn, h63', h48', h0, Question.forced, hold, newRow, grownCap]
      congr 2
      apply Array.ext'
      simp [hz3, List.append_assoc]
theorem nothing_srcZ (w : World) (t tx ty e : TypeId) (i : TypeInfo) (ht : P.underlying t = some (.slice e)) (hi : P.info? e = some i) (base : Option Addr) (sLen sCap : Nat) (hle : sLen ≤ sCap) (x : Value) (hs : SrcZ P i tx x 0 [] w) :
    (Builtin.append_ #[t, tx] ty #[.slice base sLen sCap, x]).run P w = .ok (.slice base sLen sCap) w := by
  rcases hs with hs | hs
  · exact run_append_nothing w t tx ty e i ht hi base sLen sCap hle x hs
  · obtain ⟨ki, hk⟩ := hs.kind
    obtain ⟨kk, rfl⟩ := hs.val
    have hw := wrap_small hs.small
    cases base <;> simp [Builtin.append_, run_underlying ht, run_underlying hk, sizeOf, typeInfo, hi, run_asInt, hle, storeCells, show IntKind.i64.wrap 0 = 0 from rfl]
end Go.Ab
/- append and copy. -/
namespace Go.Ab
variable {P : Program} {B : World} {ρ : Rho} {σ : AS} {w : World}

theorem cell_of_take {b off n : Nat} {c : Array Value} {e : TypeId} {fz : Nat × Nat} (hh : w.heap[b]? = some (.cells c e fz)) {j : Nat} {u : Value} (h : ((c.toList.drop off).take n)[j]? = some u) :
    w.cell? ⟨b, off + j, none⟩ = some u := by
  simp only [List.getElem?_take, List.getElem?_drop] at h
  split at h
  · simp only [World.cell?, hh]
    simp only [Option.isSome_none, Bool.false_eq_true, if_false]
    rw [← Array.getElem?_toList, ← h]
  · cases h

theorem all_flat {news : List (List AV)} (h : news.all (·.all isCell) = true) : news.flatten.all isCell = true := by
  induction news with
  | nil => rfl
  | cons r rs ih =>
    simp only [List.all_cons, Bool.and_eq_true] at h
    simp only [List.flatten_cons, List.all_append, Bool.and_eq_true]
    exact ⟨h.1, ih h.2⟩

theorem own_cells (hrep : Rep B ρ σ w) {o : Nat} {e : TypeId} {es : Nat} {ex : Bool} {rows : List (List AV)} {l : Loc} (hg : σ.get o = some (.cells e es ex rows)) (hr : ρ o = some l) {i n : Nat} (hle : i + n ≤ rows.length) :
    (∀ r ∈ (rows.drop i).take n, r.length = es) ∧ ((rows.drop i).take n).length = n ∧ ∃ vs, Concs (memOf B) ρ ((rows.drop i).take n).flatten vs ∧ vs.length = n * es ∧ ∀ j u, vs[j]? = some u → w.cell? ⟨l.blk, i * es + j, none⟩ = some u := by
  obtain ⟨q1, q2, q3, q4, c, q5, q6, q7⟩ := hrep.obj o _ l hg hr
  have hl : ∀ r ∈ (rows.drop i).take n, r.length = es := fun r h => q4 r (List.mem_of_mem_drop (List.mem_of_mem_take h))
  have hlen : ((rows.drop i).take n).length = n := by rw [List.length_take, List.length_drop]; omega
  refine ⟨hl, hlen, (c.toList.drop (i * es)).take (n * es), ?_, ?_, ?_⟩
  · rw [flat_take (fun r h => q4 r (List.mem_of_mem_drop h)), flat_drop q4]
    have h := (q7.drop (i * es)).take (n * es)
    have hmul : (i + n) * es ≤ rows.length * es := Nat.mul_le_mul_right _ hle
    rw [Nat.add_mul] at hmul
    rw [List.drop_take, List.take_take, Nat.min_eq_left (by omega)] at h
    exact h
  · have hmul : (i + n) * es ≤ rows.length * es := Nat.mul_le_mul_right _ hle
    have hmul2 : rows.length * es ≤ l.cap * es := Nat.mul_le_mul_right _ q2
    rw [Nat.add_mul] at hmul
    have hcs : c.toList.length = c.size := Array.length_toList
    rw [List.length_take, List.length_drop]; omega
  · intro j u hj
    exact cell_of_take q5 hj

theorem mem_cells (hrep : Rep B ρ σ w) {b off es : Nat} {rows : List (List AV)} (hm : ConcMem (memOf B) ρ b off es rows) :
    (∀ r ∈ rows, r.length = es) ∧ ∃ vs, Concs (memOf B) ρ rows.flatten vs ∧ vs.length = rows.length * es ∧ ∀ j u, vs[j]? = some u → w.cell? ⟨b, off + j, none⟩ = some u := by
  cases hm with
  | mk hm hl hc =>
    refine ⟨hl, _, hc, ?_, fun j u hj => cell_of_take (hrep.mem hm) hj⟩
    rw [← hc.len, flat_len hl]

theorem src_of (hrep : Rep B ρ σ w) {size : Nat} {tx : TypeId} {x : AV} {c : Value} {news : List (List AV)} (hx : Conc (memOf B) ρ x c) (hok : srcOk P tx x = true) (hr : srcRows size x σ = some news)
    (hcell : news.all (·.all isCell) = true) : (∀ r ∈ news, r.length = size) ∧ ∃ vs, Concs (memOf B) ρ news.flatten vs ∧ Src P size tx c news.length vs w := by
  unfold srcRows at hr
  split at hr
  · rename_i o i n cap
    have hk : ∃ e', P.underlying tx = some (.slice e') := by
      unfold srcOk at hok
      cases hu : P.underlying tx with
      | none => simp [hu] at hok
      | some d => cases d <;> simp [hu] at hok; exact ⟨_, rfl⟩
    obtain ⟨e', hk⟩ := hk
    split at hr
    · rename_i e es ex rows hg
      split at hr
      · rename_i hcond
        obtain ⟨rfl, hle⟩ := hcond
        cases hr
        cases hx <;> rename_i l hr'
        all_goals
          have hes : l.es = es := (hrep.obj o _ l hg hr').1
          obtain ⟨h1, h2, vs, h3, h4, h5⟩ := own_cells hrep hg hr' hle
          refine ⟨h1, vs, h3, ?_⟩
          rw [h2]
          exact Src.ofSlice w hk _ n _ vs h4 (fun j u hj => by rw [Addr.add_mid, hes]; exact h5 j u hj) (oneCells_of h3 (all_flat hcell))
      · cases hr
    · cases hr
  · rename_i a es cap rows
    have hk : ∃ e', P.underlying tx = some (.slice e') := by
      unfold srcOk at hok
      cases hu : P.underlying tx with
      | none => simp [hu] at hok
      | some d => cases d <;> simp [hu] at hok; exact ⟨_, rfl⟩
    obtain ⟨e', hk⟩ := hk
    split at hr
    · rename_i hes
      cases hr
      subst hes
      cases hx with
      | rsl hm hc =>
        obtain ⟨h1, vs, h3, h4, h5⟩ := mem_cells hrep hm
        refine ⟨h1, vs, h3, Src.ofSlice w hk _ _ _ vs h4 (fun j u hj => by rw [Addr.add_mid]; exact h5 j u hj) (oneCells_of h3 (all_flat hcell))⟩
    · cases hr
  · rename_i cap
    have hk : ∃ e', P.underlying tx = some (.slice e') := by
      unfold srcOk at hok
      cases hu : P.underlying tx with
      | none => simp [hu] at hok
      | some d => cases d <;> simp [hu] at hok; exact ⟨_, rfl⟩
    obtain ⟨e', hk⟩ := hk
    cases hr; cases hx
    exact ⟨by simp, [], .nil, Src.ofNil w hk cap⟩
  · rename_i a cap
    have hk : ∃ e', P.underlying tx = some (.slice e') := by
      unfold srcOk at hok
      cases hu : P.underlying tx with
      | none => simp [hu] at hok
      | some d => cases d <;> simp [hu] at hok; exact ⟨_, rfl⟩
    obtain ⟨e', hk⟩ := hk
    cases hr; cases hx
    exact ⟨by simp, [], .nil, Src.ofSlice w hk a 0 cap [] (by simp) (fun j u hj => by simp at hj) (fun u hu => by simp at hu)⟩
  · rename_i b
    have hk : P.underlying tx = some .string := by
      unfold srcOk at hok
      cases hu : P.underlying tx with
      | none => simp [hu] at hok
      | some d => cases d <;> simp [hu] at hok; rfl
    split at hr
    · rename_i hs
      cases hr; cases hx; subst hs
      refine ⟨by simp, byteCells b, ?_, ?_⟩
      · have : (b.data.toList.map fun x => [AV.s (.int .u8 x.toNat)]).flatten = (byteCells b).map .s := by
          unfold byteCells
          rw [List.map_map]
          induction b.data.toList with
          | nil => rfl
          | cons y ys ih => simp [ih]
        rw [this]; exact Concs.ofS _
      · have := Src.ofString (P := P) w hk b
        have e : (b.data.toList.map fun x => [AV.s (.int .u8 x.toNat)]).length = b.size := by
          rw [List.length_map, Array.length_toList]; rfl
        rw [e]; exact this
    · cases hr
  · cases hr

theorem src_of2 (hrep : Rep B ρ σ w) {info : TypeInfo} {z : Value} {tx : TypeId} {x : AV} {c : Value} {news : List (List AV)} (hz : info.zero = some z) (hzs : z.cells.size = info.size) (hx : Conc (memOf B) ρ x c) (hok : srcOk P tx x = true) (hr : appRows info x σ = some news)
    (hcell : news.all (·.all isCell) = true) : (∀ r ∈ news, r.length = info.size) ∧ ∃ vs, Concs (memOf B) ρ news.flatten vs ∧ SrcZ P info tx c news.length vs w := by
  unfold appRows at hr
  split at hr
  · rename_i kk n
    rw [hz] at hr
    simp only at hr
    split at hr
    · rename_i hc
      obtain ⟨h0, h1, h2⟩ := hc
      cases hr; cases hx
      have hk : ∃ ki, P.underlying tx = some (.int ki) := by
        unfold srcOk at hok
        cases hu : P.underlying tx with
        | none => simp [hu] at hok
        | some d => cases d <;> simp [hu] at hok; exact ⟨_, rfl⟩
      have hlen : (List.replicate n.toNat (z.cells.toList.map AV.s)).length = n.toNat := by simp
      have hcs : Concs (memOf B) ρ (List.replicate n.toNat (z.cells.toList.map AV.s)).flatten (Builtin.zeroCells z.cells n.toNat).toList := (zero_rows (ρ := ρ) (n := n.toNat) (size := z.cells.size) (M := memOf B) rfl).2
      refine ⟨fun r hr => by rw [(List.mem_replicate.1 hr).2]; simp [hzs], _, hcs, .inr ⟨hk, ⟨kk, ?_⟩, by rw [hlen]; exact h1, by rw [hlen]; exact h2, ⟨z, hz, hzs, by rw [hlen]⟩, oneCells_of hcs (all_flat hcell)⟩⟩
      rw [hlen, Int.toNat_of_nonneg h0]
    · cases hr
  · obtain ⟨h1, vs, h2, h3⟩ := src_of hrep hx hok hr hcell
    exact ⟨h1, vs, h2, .inl h3⟩

theorem growBy_le (n : Nat) : ∀ (r c X : Nat), c ≤ X → n + (n + 768) / 4 ≤ X → Builtin.growBy n r c ≤ X
  | 0, c, X, h, _ => h
  | r + 1, c, X, h, hX => by
    unfold Builtin.growBy
    split
    · exact h
    · rename_i hc
      exact growBy_le n r _ X (by omega) hX
theorem nextcap_le {need old : Nat} (h : old < need) : Builtin.nextslicecap need old ≤ 2 * need + 192 := by
  unfold Builtin.nextslicecap
  split
  · omega
  · split
    · omega
    · exact growBy_le need 4 old _ (by omega) (by omega)
theorem le_grownCap (w : World) (need old : Nat) (e : TypeId) : need ≤ grownCap w need old e := by
  unfold grownCap Question.cut
  exact Nat.le_add_right _ _

theorem grownCap_lt (w : World) (need old : Nat) (e : TypeId) (h : need < 2 ^ 63) : grownCap w need old e < 2 ^ 63 := by
  unfold grownCap Question.cut
  have := Nat.mod_lt (w.tape w.drawn (.appendCap need old e)) (show 0 < 2 ^ 63 - need by omega)
  simp only
  omega
theorem grow_run (hrep : Rep B ρ σ w) {t tx ty elem : TypeId} {info : TypeInfo} {z : Value} (ht : P.underlying t = some (.slice elem)) (hi : P.info? elem = some info) (hz : info.zero = some z) (hzs : z.cells.size = info.size)
    {base : Option Addr} {sLen sCap : Nat} {old news : List (List AV)} {ovs nvs : List Value} {c : Value} (hol : ∀ r ∈ old, r.length = info.size) (hon : old.length = sLen) (hoc : Concs (memOf B) ρ old.flatten ovs)
    (hov : (Builtin.firstCells info.size sLen (.slice base sLen sCap)).run P w.drew = .ok ovs.toArray w.drew) (hnl : ∀ r ∈ news, r.length = info.size) (hnc : Concs (memOf B) ρ news.flatten nvs)
    (hs : SrcZ P info tx c news.length nvs w) (hg : sCap < sLen + news.length) (hfit : (2 * (sLen + news.length) + 192) * info.bytes ≤ 2 ^ 48) (h62 : sLen + news.length < 2 ^ 62) :
    ∃ ρ' w' y, (Builtin.append_ #[t, tx] ty #[.slice base sLen sCap, c]).run P w = .ok y w' ∧ Rep B ρ' (σ.push (.cells elem info.size false (old ++ news))) w' ∧ ρ.le ρ' ∧
      Conc (memOf B) ρ' (.sl σ.newId 0 (sLen + news.length) none) y := by
  have hb : Builtin.nextslicecap (sLen + news.length) sCap * info.bytes ≤ 281474976710656 :=
    Nat.le_trans (Nat.mul_le_mul_right _ (nextcap_le hg)) (by omega)
  have hrun := grow_srcZ (P := P) w t tx ty elem info z ht hi hz base sLen sCap ovs hov c news.length nvs hs hg (by omega) hb
  have hcap := le_grownCap w (sLen + news.length) sCap elem
  have hcap63 := grownCap_lt w (sLen + news.length) sCap elem (by omega)
  generalize hcp : grownCap w (sLen + news.length) sCap elem = cap at hrun hcap hcap63
  have hfl : ∀ r ∈ old ++ news, r.length = info.size := fun r hr => by
    rcases List.mem_append.1 hr with h | h
    · exact hol r h
    · exact hnl r h
  have hcc : Concs (memOf B) ρ (old ++ news).flatten (ovs ++ nvs) := by rw [List.flatten_append]; exact hoc.append hnc
  have hlen := hcc.len
  rw [flat_len hfl, List.length_append, hon] at hlen
  have hzc : (Builtin.zeroCells z.cells (cap - (sLen + news.length))).size = (cap - (sLen + news.length)) * info.size := by
    simp [Builtin.zeroCells, hzs]
  refine ⟨ρ.ext σ.newId ⟨w.heap.size, cap, info.size, fun _ => hcap63⟩, _, _, hrun, ?_, hrep.le_ext _, ?_⟩
  · refine hrep.drew.push rfl rfl rfl rfl rfl ⟨rfl, by rw [List.length_append, hon]; exact hcap, by simp, hfl, _, Array.getElem?_push_size, ?_, ?_⟩
    · rw [Array.size_append, hzc]
      show (ovs ++ nvs).length + _ = cap * info.size
      rw [← hlen, ← Nat.add_mul]
      congr 1; omega
    · rw [Array.toList_append]
      show Concs _ _ _ (List.take _ ((ovs ++ nvs) ++ _))
      have e3 : (old ++ news).length * info.size = (ovs ++ nvs).length := by
        rw [← hlen, List.length_append (as := old), hon]
      rw [List.take_append_of_le_length (by omega), List.take_of_length_le (by omega)]
      exact hcc.mono (hrep.le_ext _)
  · have := Conc.sl (M := memOf B) (i := 0) (n := sLen + news.length) (Rho.ext_self ρ σ.newId ⟨w.heap.size, cap, info.size, fun _ => hcap63⟩)
    simpa using this

theorem firstCells_own (hrep : Rep B ρ σ w) {o : Nat} {e : TypeId} {es : Nat} {ex : Bool} {rows : List (List AV)} {l : Loc} (hg : σ.get o = some (.cells e es ex rows)) (hr : ρ o = some l) {i n cap : Nat} (hle : i + n ≤ rows.length) :
    ∃ vs, Concs (memOf B) ρ ((rows.drop i).take n).flatten vs ∧ (Builtin.firstCells es n (.slice (some ⟨l.blk, i * es, none⟩) n cap)).run P w.drew = .ok vs.toArray w.drew := by
  obtain ⟨h1, h2, vs, h3, h4, h5⟩ := own_cells hrep hg hr hle
  exact ⟨vs, h3, run_firstCells_some w.drew es n _ n cap vs h4 (fun j u hj => by rw [Addr.add_mid]; exact h5 j u hj)⟩

theorem room_run (hrep : Rep B ρ σ w) {t tx ty elem : TypeId} {info : TypeInfo} (ht : P.underlying t = some (.slice elem)) (hi : P.info? elem = some info) {o : Nat} {e : TypeId} {ex : Bool} {rows news : List (List AV)} {l : Loc}
    (hg : σ.get o = some (.cells e info.size ex rows)) (hr : ρ o = some l) {i len cap : Nat} {c : Value} {nvs : List Value} (hnl : ∀ r ∈ news, r.length = info.size) (hnc : Concs (memOf B) ρ news.flatten nvs)
    (hs : SrcZ P info tx c news.length nvs w) (hroom : len + news.length ≤ cap) (hle : i + len + news.length ≤ rows.length) :
    ∃ w', (Builtin.append_ #[t, tx] ty #[.slice (some ⟨l.blk, i * l.es, none⟩) len cap, c]).run P w = .ok (.slice (some ⟨l.blk, i * l.es, none⟩) (len + news.length) cap) w' ∧
      Rep B ρ (σ.set o (.cells e info.size ex (rows.take (i + len) ++ news ++ rows.drop (i + len + news.length)))) w' := by
  obtain ⟨q1, q2, q3, q4, cc, q5, q6, q7⟩ := hrep.obj o _ l hg hr
  have hnlen : nvs.length = news.length * info.size := by rw [← hnc.len, flat_len hnl]
  have hmul : (i + len + news.length) * info.size ≤ rows.length * info.size := Nat.mul_le_mul_right _ hle
  have hmul2 : rows.length * info.size ≤ l.cap * info.size := Nat.mul_le_mul_right _ q2
  rw [Nat.add_mul, Nat.add_mul] at hmul
  have hrow := wr_len rows (i + len) news hle
  obtain ⟨w1, w2⟩ := hrep.write (P := P) hg hr (rows' := wr rows (i + len) news) (fun r h => by
      unfold wr at h
      rcases List.mem_append.1 h with h | h
      · rcases List.mem_append.1 h with h | h
        · exact q4 r (List.mem_of_mem_take h)
        · exact hnl r h
      · exact q4 r (List.mem_of_mem_drop h)) hrow (flat_wr q4 hnl (i + len)) (by rw [flat_len hnl, Nat.add_mul]; omega) hnc hs.one
  refine ⟨_, ?_, w2⟩
  have := room_srcZ (P := P) w t tx ty elem info ht hi l.blk (i * info.size) len cap c news.length nvs hs hroom
    (fun j hj => by simp only [World.cell?, q5]; rw [if_neg (by simp), Array.getElem?_eq_getElem (by omega)]; rfl) (fun j hj => by simp [World.frozen?, q5])
  rw [q1, this, Nat.add_mul]

theorem blind_run (hrep : Rep B ρ σ w) {t tx ty elem : TypeId} {info : TypeInfo} {z : Value} (ht : P.underlying t = some (.slice elem)) (hi : P.info? elem = some info) (hz : info.zero = some z) (hzs : z.cells.size = info.size)
    {o : Nat} {rows news : List (List AV)} {l : Loc} (hg : σ.get o = some (.cells elem info.size false rows)) (hr : ρ o = some l) {c : Value} {nvs : List Value} (hnl : ∀ r ∈ news, r.length = info.size)
    (hnc : Concs (memOf B) ρ news.flatten nvs) (hs : SrcZ P info tx c news.length nvs w) (hfit : (2 * (rows.length + news.length) + 192) * info.bytes ≤ 2 ^ 48) (h62 : rows.length + news.length < 2 ^ 62) :
    ∃ ρ' w' y, (Builtin.append_ #[t, tx] ty #[.slice (some ⟨l.blk, 0 * l.es, none⟩) rows.length (l.cap - 0), c]).run P w = .ok y w' ∧
      Rep B ρ' ((σ.set o .dead).push (.cells elem info.size false (rows ++ news))) w' ∧ ρ.le ρ' ∧ Conc (memOf B) ρ' (.sl σ.newId 0 (rows.length + news.length) none) y := by
  obtain ⟨q1, q2, q3, q4, cc, q5, q6, q7⟩ := hrep.obj o _ l hg hr
  have hnlen : nvs.length = news.length * info.size := by rw [← hnc.len, flat_len hnl]
  by_cases hroom : rows.length + news.length ≤ l.cap
  · -- there is room
    have hmul : (rows.length + news.length) * info.size ≤ l.cap * info.size := Nat.mul_le_mul_right _ hroom
    rw [Nat.add_mul] at hmul
    have hcs : cc.toList.length = cc.size := Array.length_toList
    have hfl : ∀ r ∈ rows ++ news, r.length = info.size := fun r hr => by
      rcases List.mem_append.1 hr with h | h
      · exact q4 r h
      · exact hnl r h
    have hrun := room_srcZ (P := P) w t tx ty elem info ht hi l.blk 0 rows.length l.cap c news.length nvs hs hroom
      (fun j hj => by simp only [World.cell?, q5]; rw [if_neg (by simp), Array.getElem?_eq_getElem (by omega)]; rfl) (fun j hj => by simp [World.frozen?, q5])
    obtain ⟨s1, s2, s3, s4⟩ := setCells_rest l.blk nvs (0 + rows.length * info.size) w
    obtain ⟨c', hc', hcl'⟩ := setCells_heap l.blk nvs (0 + rows.length * info.size) w cc _ _ q5 (by omega)
    have hdead := hrep.mod hg rfl hr (o' := .dead) s1 (fun b hb => setCells_other l.blk nvs _ w b hb) s2 s3 s4 trivial (setCells_thaw _ _ _ _ fun x hx => hrep.thaw _ x (hrep.new o l hr).1 hx)
    have hnew := hrep.new o l hr
    have hname := hdead.name (o := .cells elem info.size false (rows ++ news)) (l := l) (by rw [s1]; exact hnew) (fun id p l' hp hlive hr' => by
        rw [AS.get_set, if_pos (hrep.dom id l' hr')] at hp
        by_cases e : o = id
        · simp [e] at hp; subst hp; cases hlive
        · simp only [e, if_false] at hp
          intro hb
          exact e (hrep.inj o id _ p l l' hg hp rfl hlive hr hr' hb.symm)) ⟨q1, by rw [List.length_append]; exact hroom, by simp, hfl, c', hc', by
        have := congrArg List.length hcl'
        rw [wr_len _ _ _ (by omega)] at this
        have h' : c'.toList.length = c'.size := Array.length_toList
        omega, by
        rw [hcl', List.length_append, List.flatten_append]
        have e1 : (wr cc.toList (0 + rows.length * info.size) nvs).take ((rows.length + news.length) * info.size) = cc.toList.take (rows.length * info.size) ++ nvs := by
          unfold wr
          rw [Nat.zero_add, List.take_append_of_le_length (by rw [List.length_append, List.length_take, Nat.add_mul]; omega), List.take_of_length_le (by rw [List.length_append, List.length_take, Nat.add_mul]; omega)]
        rw [e1]
        exact (q7.append hnc).mono (hdead.le_ext _)⟩
    refine ⟨_, _, .slice (some ⟨l.blk, 0, none⟩) (rows.length + news.length) l.cap, ?_, hname, hdead.le_ext _, ?_⟩
    · simpa using hrun
    · have := Conc.sl (M := memOf B) (i := 0) (n := rows.length + news.length) (Rho.ext_self ρ (σ.set o .dead).newId l)
      simp only [AS.newId_set] at this ⊢
      simpa using this
  · -- there is none
    obtain ⟨ovs, ho1, ho2⟩ := firstCells_own (P := P) hrep hg hr (i := 0) (n := rows.length) (cap := l.cap) (by omega)
    have hall : (rows.drop 0).take rows.length = rows := by simp
    rw [hall] at ho1
    obtain ⟨ρ', w', y, h1, h2, h3, h4⟩ := grow_run (hrep.kill o) ht hi hz hzs (base := some ⟨l.blk, 0 * info.size, none⟩) (sLen := rows.length) (sCap := l.cap) (ty := ty) q4 rfl ho1 ho2 hnl hnc hs (by omega) hfit h62
    rw [← q1] at h1
    rw [AS.newId_set] at h4
    exact ⟨ρ', w', y, h1, h2, h3, h4⟩

theorem list_two {ats : Array TypeId} {t tx : TypeId} (h : ats.toList = [t, tx]) : ats = #[t, tx] := Array.ext' (by simpa using h)

set_option maxHeartbeats 2000000 in
theorem append_run (hrep : Rep B ρ σ w) {ats : Array TypeId} {ty : TypeId} {s x : AV} {cs cx : Value} {r : ANext} {σ' : AS} (hs : Conc (memOf B) ρ s cs) (hx : Conc (memOf B) ρ x cx) (he : effAppend P ats s x σ = some (r, σ')) :
    ∃ v ρ' w' y, r = .val v ∧ (Builtin.append_ ats ty #[cs, cx]).run P w = .ok y w' ∧ Rep B ρ' σ' w' ∧ ρ.le ρ' ∧ Conc (memOf B) ρ' v y := by
  unfold effAppend at he
  split at he
  · rename_i t tx hats
    have hats := list_two hats
    subst hats
    split at he
    · rename_i hok
      split at he
      · rename_i elem ht
        split at he
        · rename_i info hi
          split at he
          · rename_i z news hz hsrc
            simp only at he
            split at he
            · rename_i hcond
              obtain ⟨hzs, hcell⟩ := hcond
              obtain ⟨hnl, nvs, hnc, hS⟩ := src_of2 hrep hz hzs hx hok hsrc hcell
              have nothing : ∀ {base : Option Addr} {sLen sCap : Nat}, sLen ≤ sCap → news.length = 0 → (Builtin.append_ #[t, tx] ty #[.slice base sLen sCap, cx]).run P w = .ok (.slice base sLen sCap) w := by
                intro base sLen sCap hle h0
                have h1 : nvs = [] := List.eq_nil_of_length_eq_zero (by rw [← hnc.len, flat_len hnl, h0, Nat.zero_mul])
                rw [h0, h1] at hS
                exact nothing_srcZ w t tx ty elem info ht hi base sLen sCap hle cx hS
              split at he
              · -- nil
                cases hs
                split at he
                · rename_i h0
                  cases he
                  exact ⟨_, ρ, w, _, rfl, nothing (Nat.le_refl _) h0, hrep, Rho.le_refl ρ, .s _⟩
                · rename_i h0
                  split at he
                  · rename_i hc
                    cases he
                    obtain ⟨ρ', w', y, h1, h2, h3, h4⟩ := grow_run hrep ht hi hz hzs (base := none) (sLen := 0) (sCap := 0) (old := []) (ovs := []) (ty := ty) (by simp) rfl .nil (run_firstCells_none w.drew info.size 0 0 0) hnl hnc hS (by omega) (by simpa using hc.1) (by simpa using hc.2)
                    refine ⟨_, ρ', w', y, rfl, h1, h2, h3, ?_⟩
                    simpa using h4
                  · cases he
              · rename_i o i len cap
                split at he
                · rename_i e es exact_ rows hg
                  split at he
                  · rename_i hc0
                    obtain ⟨hes, hle⟩ := hc0
                    subst hes
                    have grown : ∀ {l : Loc} {sCap : Nat}, ρ o = some l → sCap < len + news.length → (2 * (((rows.drop i).take len).length + news.length) + 192) * info.bytes ≤ 2 ^ 48 → ((rows.drop i).take len).length + news.length < 2 ^ 62 →
                        ∃ ρ' w' y, (Builtin.append_ #[t, tx] ty #[.slice (some ⟨l.blk, i * l.es, none⟩) len sCap, cx]).run P w = .ok y w' ∧ Rep B ρ' (σ.push (.cells elem info.size false ((rows.drop i).take len ++ news))) w' ∧ ρ.le ρ' ∧
                          Conc (memOf B) ρ' (.sl σ.newId 0 (((rows.drop i).take len).length + news.length) none) y := by
                      intro l sCap hr hlt h1 h2
                      obtain ⟨k1, k2, vs, k3, k4, k5⟩ := own_cells hrep hg hr hle
                      obtain ⟨ovs, g1, g2⟩ := firstCells_own (P := P) hrep hg hr (cap := sCap) hle
                      have hes := (hrep.obj o _ l hg hr).1
                      rw [k2] at h1 h2 ⊢
                      rw [hes]
                      exact grow_run hrep ht hi hz hzs k1 k2 g1 g2 hnl hnc hS hlt h1 h2
                    split at he
                    · -- a room that is told
                      rename_i c
                      split at he
                      · rename_i hroom
                        split at he
                        · rename_i hin
                          cases he
                          cases hs with
                          | slc hr =>
                            obtain ⟨w', h1, h2⟩ := room_run (ty := ty) hrep ht hi hg hr (i := i) hnl hnc hS hroom hin
                            exact ⟨_, ρ, w', _, rfl, h1, h2, Rho.le_refl ρ, .slc hr⟩
                        · cases he
                      · rename_i hroom
                        split at he
                        · split at he
                          · rename_i hc
                            cases he
                            cases hs with
                            | slc hr =>
                              obtain ⟨ρ', w', y, h1, h2, h3, h4⟩ := grown (sCap := c) hr (by omega) hc.1 hc.2
                              exact ⟨_, ρ', w', y, rfl, h1, h2, h3, h4⟩
                          · cases he
                        · cases he
                    · -- exact
                      cases hs with
                      | sl hr =>
                        rename_i l
                        obtain ⟨q1, q2, q3, q4, _⟩ := hrep.obj o _ l hg hr
                        have hcap := q3 rfl
                        split at he
                        · rename_i hin
                          cases he
                          obtain ⟨w', h1, h2⟩ := room_run (ty := ty) (cap := l.cap - i) hrep ht hi hg hr (i := i) hnl hnc hS (by omega) hin
                          exact ⟨_, ρ, w', _, rfl, h1, h2, Rho.le_refl ρ, .sl hr⟩
                        · split at he
                          · rename_i hc
                            cases he
                            obtain ⟨ρ', w', y, h1, h2, h3, h4⟩ := grown (sCap := l.cap - i) hr (by omega) hc.1 hc.2
                            exact ⟨_, ρ', w', y, rfl, h1, h2, h3, h4⟩
                          · cases he
                    · -- not known
                      cases hs with
                      | sl hr =>
                        rename_i l
                        obtain ⟨q1, q2, q3, q4, _⟩ := hrep.obj o _ l hg hr
                        split at he
                        · rename_i h0
                          cases he
                          exact ⟨_, ρ, w, _, rfl, nothing (by omega) h0, hrep, Rho.le_refl ρ, .sl hr⟩
                        · split at he
                          · rename_i hin
                            cases he
                            obtain ⟨w', h1, h2⟩ := room_run (ty := ty) (cap := l.cap - i) hrep ht hi hg hr (i := i) hnl hnc hS (by omega) hin
                            exact ⟨_, ρ, w', _, rfl, h1, h2, Rho.le_refl ρ, .sl hr⟩
                          · split at he
                            · rename_i hc
                              obtain ⟨c1, c2, c3, c4, c5⟩ := hc
                              cases he
                              subst c1 c2 c3
                              obtain ⟨ρ', w', y, h1, h2, h3, h4⟩ := blind_run (ty := ty) hrep ht hi hz hzs hg hr hnl hnc hS c4 c5
                              exact ⟨_, ρ', w', y, rfl, h1, h2, h3, h4⟩
                            · cases he
                  · cases he
                · cases he
              · rename_i a es cap rows
                split at he
                · rename_i hes
                  subst hes
                  cases hs with
                  | rsl hm hc =>
                    rename_i b off
                    split at he
                    · rename_i h0
                      cases he
                      exact ⟨_, ρ, w, _, rfl, nothing hc h0, hrep, Rho.le_refl ρ, .rsl hm hc⟩
                    · split at he
                      · cases he
                      · rename_i hcap
                        split at he
                        · rename_i hfit
                          cases he
                          obtain ⟨k1, vs, k2, k3, k4⟩ := mem_cells hrep hm
                          obtain ⟨ρ', w', y, h1, h2, h3, h4⟩ := grow_run hrep ht hi hz hzs (base := some ⟨b, off, none⟩) (sLen := rows.length) (sCap := cap) (ty := ty) k1 rfl k2
                            (run_firstCells_some w.drew info.size rows.length _ _ _ vs k3 (fun j u hj => by rw [Addr.add_mid]; exact k4 j u hj)) hnl hnc hS (by omega) hfit.1 hfit.2
                          exact ⟨_, ρ', w', y, rfl, h1, h2, h3, h4⟩
                        · cases he
                · cases he
              · cases he
            · cases he
          · cases he
        · cases he
      · cases he
    · cases he
  · cases he

end Go.Ab
/- copy; calls; plain values; all operations together. -/
namespace Go.Ab
variable {P : Program} {B : World} {ρ : Rho} {σ : AS} {w : World}

theorem src_first (hrep : Rep B ρ σ w) {size : Nat} {x : AV} {c : Value} {news : List (List AV)} (hx : Conc (memOf B) ρ x c) (hr : srcRows size x σ = some news) {m : Nat} (hm : m ≤ news.length)
    (hmm : isRef x = true ∨ m = news.length) : (∀ r ∈ news, r.length = size) ∧ (∀ w' : World, (Builtin.lenOf c).run P w' = .ok news.length w') ∧ ∃ vs, Concs (memOf B) ρ (news.take m).flatten vs ∧
      (Builtin.firstCells size m c).run P w = .ok vs.toArray w := by
  unfold srcRows at hr
  split at hr
  · rename_i o i n cap
    split at hr
    · rename_i e es ex rows hg
      split at hr
      · rename_i hcond
        obtain ⟨rfl, hle⟩ := hcond
        cases hr
        have hml : ((rows.drop i).take n).length = n := by rw [List.length_take, List.length_drop]; omega
        have htt : ((rows.drop i).take n).take m = (rows.drop i).take m := by rw [List.take_take, Nat.min_eq_left (by omega)]
        cases hx <;> rename_i l hr'
        all_goals
          have hes : l.es = es := (hrep.obj o _ l hg hr').1
          obtain ⟨h1, _, _⟩ := own_cells hrep hg hr' hle
          obtain ⟨g1, g2, vs, h3, h4, h5⟩ := own_cells hrep hg hr' (i := i) (n := m) (by omega)
          refine ⟨h1, fun w' => by rw [hml]; rfl, vs, by rw [htt]; exact h3, ?_⟩
          exact run_firstCells_some w es m _ _ _ vs h4 (fun j u hj => by rw [Addr.add_mid, hes]; exact h5 j u hj)
      · cases hr
    · cases hr
  · rename_i a es cap rows
    split at hr
    · rename_i hes
      cases hr
      subst hes
      cases hx with
      | rsl hm' hc =>
        obtain ⟨h1, _⟩ := mem_cells hrep hm'
        obtain ⟨g1, vs, h3, h4, h5⟩ := mem_cells hrep (hm'.take m)
        refine ⟨h1, fun w' => rfl, vs, h3, ?_⟩
        have hlen : (news.take m).length = m := by rw [List.length_take]; omega
        rw [hlen] at h4
        exact run_firstCells_some w es m _ _ _ vs h4 (fun j u hj => by rw [Addr.add_mid]; exact h5 j u hj)
    · cases hr
  · rename_i cap
    cases hr; cases hx
    refine ⟨by simp, fun w' => rfl, [], by simpa using Concs.nil, ?_⟩
    have : m = 0 := by simpa using hm
    subst this
    exact run_firstCells_none w size 0 0 cap
  · rename_i a cap
    cases hr; cases hx
    refine ⟨by simp, fun w' => rfl, [], by simpa using Concs.nil, ?_⟩
    have : m = 0 := by simpa using hm
    subst this
    exact run_firstCells_some w size 0 a 0 cap [] (by simp) (fun j u hj => by simp at hj)
  · rename_i b
    split at hr
    · rename_i hs
      cases hr; cases hx; subst hs
      have e : (b.data.toList.map fun x => [AV.s (.int .u8 x.toNat)]).length = b.size := by
        rw [List.length_map, Array.length_toList]; rfl
      rcases hmm with h | h
      · cases h
      · subst h
        refine ⟨by simp, fun w' => by rw [e]; rfl, byteCells b, ?_, ?_⟩
        · rw [List.take_of_length_le (Nat.le_refl _)]
          have : (b.data.toList.map fun x => [AV.s (.int .u8 x.toNat)]).flatten = (byteCells b).map .s := by
            unfold byteCells
            rw [List.map_map]
            induction b.data.toList with
            | nil => rfl
            | cons y ys ih => simp [ih]
          rw [this]; exact Concs.ofS _
        · rw [e]; exact firstCells_string b w
    · cases hr
  · cases hr

theorem copy_run (hrep : Rep B ρ σ w) {ats : Array TypeId} {ty : TypeId} {d x : AV} {cd cx : Value} {r : ANext} {σ' : AS} (hd : Conc (memOf B) ρ d cd) (hx : Conc (memOf B) ρ x cx) (he : effCopy P ats d x σ = some (r, σ')) :
    ∃ v w' y, r = .val v ∧ (Builtin.copy_ ats ty #[cd, cx]).run P w = .ok y w' ∧ Rep B ρ σ' w' ∧ Conc (memOf B) ρ v y := by
  unfold effCopy at he
  split at he
  · rename_i t ht
    split at he
    · rename_i elem hu
      split at he
      · rename_i size hs
        split at he
        · rename_i news o i n cap hsrc
          split at he
          · rename_i e es ex rows hg
            split at he
            · rename_i hc
              obtain ⟨hes, hle, hcell, href⟩ := hc
              subst hes
              simp only [Option.some.injEq, Prod.mk.injEq] at he
              obtain ⟨rfl, rfl⟩ := he
              have hmle : min news.length n ≤ news.length := Nat.min_le_left _ _
              obtain ⟨hnl, hlen, vs, hvs, hfirst⟩ := src_first (P := P) hrep hx hsrc hmle (by
                rcases href with h | h
                · exact .inl h
                · exact .inr (Nat.min_eq_left h))
              have hnt : ∀ r ∈ news.take (min news.length n), r.length = es := fun r h => hnl r (List.mem_of_mem_take h)
              have hlt : (news.take (min news.length n)).length = min news.length n := by rw [List.length_take]; omega
              have hone : ∀ u ∈ vs, u.oneCell' = true := oneCells_of hvs (by
                rw [List.all_eq_true]
                intro q hq
                have := all_flat hcell
                rw [List.all_eq_true] at this
                obtain ⟨r, hr1, hr2⟩ := List.mem_flatten.1 hq
                exact this q (List.mem_flatten.2 ⟨r, List.mem_of_mem_take hr1, hr2⟩))
              have fin : ∀ {l : Loc} {cp : Nat}, ρ o = some l → ∃ w', (Builtin.copy_ ats ty #[.slice (some ⟨l.blk, i * l.es, none⟩) n cp, cx]).run P w = .ok (.int .i64 ((min news.length n : Nat) : Int)) w' ∧
                  Rep B ρ (σ.set o (.cells e es ex (rows.take i ++ news.take (min news.length n) ++ rows.drop (i + min news.length n)))) w' := by
                intro l cp hr
                obtain ⟨q1, q2, q3, q4, cc, q5, q6, q7⟩ := hrep.obj o _ l hg hr
                have hin : i + (news.take (min news.length n)).length ≤ rows.length := by rw [hlt]; omega
                have hmul : (i + min news.length n) * es ≤ rows.length * es := Nat.mul_le_mul_right _ (by omega)
                rw [Nat.add_mul] at hmul
                obtain ⟨w1, w2⟩ := hrep.write (P := P) hg hr (rows' := wr rows i (news.take (min news.length n))) (fun r h => by
                    unfold wr at h
                    rcases List.mem_append.1 h with h | h
                    · rcases List.mem_append.1 h with h | h
                      · exact q4 r (List.mem_of_mem_take h)
                      · exact hnt r h
                    · exact q4 r (List.mem_of_mem_drop h)) (wr_len _ _ _ hin) (flat_wr q4 hnt i) (by rw [flat_len hnt, hlt]; omega) hvs hone
                refine ⟨w.setCells l.blk (i * es) vs, ?_, ?_⟩
                · have hmin : Nat.min news.length n = min news.length n := rfl
                  simp [Builtin.copy_, ht, Sem.run_bind, run_underlying hu w, hlen, run_sizeOf hs w, hmin, hfirst, q1, w1, goInt]
                · have e2 : wr rows i (news.take (min news.length n)) = rows.take i ++ news.take (min news.length n) ++ rows.drop (i + min news.length n) := by unfold wr; rw [hlt]
                  rw [← e2]; exact w2
              cases hd with
              | sl hr =>
                obtain ⟨w', h1, h2⟩ := fin hr
                exact ⟨_, w', _, rfl, h1, h2, .s _⟩
              | slc hr =>
                obtain ⟨w', h1, h2⟩ := fin hr
                exact ⟨_, w', _, rfl, h1, h2, .s _⟩
            · cases he
          · cases he
        · cases he
      · cases he
    · cases he
  · cases he

theorem evalP_run {α : Type} : ∀ (s : Sem α) (x : α), evalP P s = some x → ∀ w, s.run P w = .ok x w
  | .pure a, x, h, w => by simp [evalP] at h; subst h; rfl
  | .program k, x, h, w => by simp only [evalP] at h; exact evalP_run (k P) x h w
  | .mark m k, x, h, w => by simp only [evalP] at h; exact evalP_run k x h w
  | .load .., _, h, _ | .store .., _, h, _ | .new .., _, h, _ | .shape .., _, h, _ | .freeze .., _, h, _ | .frozen .., _, h, _ | .getObj .., _, h, _ | .setObj .., _, h, _ | .choose .., _, h, _
  | .sys .., _, h, _ | .halt _, _, h, _ => by simp [evalP] at h

theorem pure_run {M : Mem} {o : Oper} {ev : Operand → AV} {av : Operand → Value} (hev : ∀ x, Conc M ρ (ev x) (av x)) (hsel : ∀ cs b, o.op ≠ .select cs b) {v : AV} (h : effPure P o ev = some v) (w : World) :
    ∃ y, (execOp av o).run P w = .ok (.value y) w ∧ Conc M ρ v y := by
  unfold effPure at h
  split at h
  · rename_i hall
    split at h
    · rename_i y hy
      cases h
      refine ⟨y, ?_, .s y⟩
      have hc : execOp (fun x => (sOf (ev x)).getD undef) o = execOp av o := execOp_congr o hsel fun x hx => by
        rw [List.all_eq_true] at hall
        have := hall x (by simpa using hx)
        have hcx := hev x
        show (sOf (ev x)).getD undef = av x
        generalize ev x = e at this hcx ⊢
        generalize av x = ax at hcx ⊢
        cases hcx <;> first | rfl | simp [isRef] at this
      rw [← hc]
      exact evalP_run _ _ hy w
    · cases h
  · cases h

theorem concs_map {M : Mem} {ev : Operand → AV} {av : Operand → Value} (hev : ∀ x, Conc M ρ (ev x) (av x)) (xs : List Operand) : Concs M ρ (xs.map ev) (xs.map av) := by
  induction xs with
  | nil => exact .nil
  | cons x xs ih => exact .cons (hev x) ih

theorem target_enter {M : Mem} {f : AV} {cf : Value} {args : List AV} {cargs : Array Value} {g : FuncId} {as : List AV} (hf : Conc M ρ f cf) (ha : Concs M ρ args cargs.toList) (h : target f args = some (.enter g as)) :
    ∃ vs : Array Value, Concs M ρ as vs.toList ∧ ∀ w, (do let d ← Deferred.ofValue cf cargs; invoke d.target d.args : Sem Next).run P w = (callFunc g vs).run P w := by
  unfold target at h
  split at h
  · rename_i g' first cap
    cases h
    cases hf
    exact ⟨first ++ cargs ++ cap, by simp only [Array.toList_append]; exact ((Concs.ofS _).append ha).append (Concs.ofS _), fun w => rfl⟩
  · rename_i g' first cap
    cases h
    cases hf with
    | fn h1 h2 =>
      rename_i vs ws
      exact ⟨vs ++ cargs ++ ws, by simp only [Array.toList_append]; exact (h1.append ha).append h2, fun w => rfl⟩
  · cases h
  · cases h

theorem target_round {M : Mem} {f : AV} {cf : Value} {args : List AV} {cargs : Array Value} {l : Nat} {as : List AV} (hf : Conc M ρ f cf) (h : target f args = some (.round l as)) :
    as = args ∧ ∃ loc, ρ l = some loc ∧ ∀ w, (do let d ← Deferred.ofValue cf cargs; invoke d.target d.args : Sem Next).run P w = (Instr.yield loc.blk cargs).run P w := by
  unfold target at h
  split at h
  · cases h
  · cases h
  · rename_i o
    cases h
    cases hf with
    | yld hr =>
      refine ⟨rfl, _, hr, fun w => ?_⟩
      show (Instr.yield _ (#[] ++ cargs)).run P w = _
      rw [Array.empty_append]
  · cases h

theorem target_val {f : AV} {args : List AV} {v : AV} (h : target f args = some (.val v)) : False := by
  unfold target at h
  split at h <;> cases h

theorem targetM_enter {M : Mem} {recv : AV} {cr : Value} {name : String} {args : List AV} {cargs : Array Value} {r : ANext} (hr : Conc M ρ recv cr) (ha : Concs M ρ args cargs.toList) (h : targetM P recv name args = some r) :
    ∃ g as, r = .enter g as ∧ ∃ vs : Array Value, Concs M ρ as vs.toList ∧ ∀ w, (invoke (.fn (.method name) #[]) (#[cr] ++ cargs)).run P w = (callFunc g vs).run P w := by
  have key : ∀ {t : TypeId} {v : AV} {c : Value}, Conc M ρ v c → cr = .iface t c → (match P.info? t with
      | some info => match info.methods.toList.find? (·.name == name) with
        | some m => if m.path.isEmpty then
            match m.func, P.underlying t with
            | some (g, true), some (.pointer _) => some (ANext.enter g (v :: args))
            | some (g, false), some (.pointer _) => none
            | some (g, false), some _ => some (.enter g (v :: args))
            | _, _ => none
          else none
        | none => none
      | none => none) = some r → ∃ g as, r = .enter g as ∧ ∃ vs : Array Value, Concs M ρ as vs.toList ∧ ∀ w, (invoke (.fn (.method name) #[]) (#[cr] ++ cargs)).run P w = (callFunc g vs).run P w := by
    intro t v c hv hcr h
    split at h
    · rename_i info hi
      split at h
      · rename_i m hm
        split at h
        · rename_i hp
          have hp' : m.path = #[] := by simpa using hp
          have hfind : info.methods.find? (·.name == name) = some m := by rw [← Array.find?_toList]; exact hm
          have fin : ∀ {g : FuncId} {ptr : Bool}, m.func = some (g, ptr) → (∀ (wr : Option String) (w : World), (receiverAt t (.val c) ptr wr).run P w = .ok c w) → r = .enter g (v :: args) →
              ∃ g as, r = .enter g as ∧ ∃ vs : Array Value, Concs M ρ as vs.toList ∧ ∀ w, (invoke (.fn (.method name) #[]) (#[cr] ++ cargs)).run P w = (callFunc g vs).run P w := by
            intro g ptr hfn hrecv hr
            refine ⟨g, v :: args, hr, #[c] ++ cargs, by simpa using Concs.cons hv ha, fun w => ?_⟩
            subst hcr
            have h0 : (#[Value.iface t c] ++ cargs)[0]? = some (.iface t c) := by rw [Array.getElem?_append_left (by simp)]; rfl
            have h1 : (#[Value.iface t c] ++ cargs).extract 1 (#[Value.iface t c] ++ cargs).size = cargs := by
              apply Array.ext'; simp
            have hmeth : (method (P.types.size + Made.depth) t c name).run P w = .ok (g, c) w := by
              show (method ((P.types.size + 99) + 1) t c name).run P w = _
              unfold method
              simp [Sem.run_bind, typeInfo, hi, hfind, hp', follow, hfn, hrecv]
            have hi1 : invoke (.fn (.method name) #[]) (#[Value.iface t c] ++ cargs) = callMethod (.iface t c) name ((#[Value.iface t c] ++ cargs).extract 1 (#[Value.iface t c] ++ cargs).size) := by
              unfold invoke
              simp only [h0]
            rw [hi1, h1]
            show (do let (f, receiver) ← method ((← program).types.size + Made.depth) t c name; callFunc f (#[receiver] ++ cargs) : Sem Next).run P w = _
            simp only [Sem.run_bind, run_program, Result.andThen_ok, hmeth]
          split at h
          · rename_i g e hfn hu
            cases h
            exact fin hfn (fun wr w => by simp [receiverAt, Sem.run_bind, run_underlying hu w, Place.get]) rfl
          · cases h
          · rename_i g d hnot hfn hu
            cases h
            refine fin hfn (fun wr w => ?_) rfl
            cases d <;> first | (exact absurd rfl (hnot _)) | (simp [receiverAt, Sem.run_bind, run_underlying hu w, Place.get])
          · cases h
        · cases h
      · cases h
    · cases h
  unfold targetM at h
  split at h
  · rename_i t v
    cases hr with
    | ifc hv => exact key hv rfl h
  · rename_i t v
    cases hr
    exact key (.s v) rfl h
  · cases h

end Go.Ab
/- Own bytes as a string; a laid array as a slice. -/
namespace Go.Ab
variable {P : Program} {B : World} {ρ : Rho} {σ : AS} {w : World}

theorem bytesOf_spec : ∀ {rows : List (List AV)} {bs : List UInt8}, bytesOf rows = some bs → ∃ ns : List Int, rows.flatten = (ns.map (Value.int .u8)).map .s ∧ bs = ns.map fun n => UInt8.ofNat n.toNat
  | [], bs, h => by
    simp only [bytesOf, Option.some.injEq] at h
    exact ⟨[], rfl, h.symm⟩
  | r :: rs, bs, h => by
    unfold bytesOf at h
    split at h
    · rename_i n bs' hb
      cases h
      obtain ⟨ns, h1, h2⟩ := bytesOf_spec hb
      exact ⟨n :: ns, by simp [h1], by simp [h2]⟩
    · cases h
theorem push_all : ∀ (ns : List Int) (s : ByteArray), ns.foldl (fun r n => r.push (UInt8.ofNat n.toNat)) s = ⟨s.data ++ (ns.map fun n => UInt8.ofNat n.toNat).toArray⟩
  | [], s => by simp
  | n :: ns, s => by
    rw [List.foldl_cons, push_all ns]
    simp [ByteArray.push]
theorem bytes_run (hrep : Rep B ρ σ w) {s t : TypeId} {x v : AV} {c : Value} (hx : Conc (memOf B) ρ x c) (he : effBytes P s t x σ = some v) : ∃ y, (convert s t c).run P w = .ok y w ∧ Conc (memOf B) ρ v y := by
  unfold effBytes at he
  split at he
  · rename_i e id i n cap hs ht
    split at he
    · rename_i e' es ex rows hu hg
      split at he
      · rename_i hc
        obtain ⟨hes, hle⟩ := hc
        simp only [Option.map_eq_some_iff] at he
        obtain ⟨bs, hb, rfl⟩ := he
        subst hes
        have key : ∀ {l : Loc} {cap' : Nat}, ρ id = some l → (convert s t (.slice (some ⟨l.blk, i * l.es, none⟩) n cap')).run P w = .ok (.string ⟨bs.toArray⟩) w := by
          intro l cap' hr
          obtain ⟨q1, _⟩ := hrep.obj id _ l hg hr
          obtain ⟨_, h2, vs, h3, h4, h5⟩ := own_cells hrep hg hr hle
          obtain ⟨ns, h6, rfl⟩ := bytesOf_spec hb
          rw [h6] at h3
          have h7 := h3.s_eq
          subst h7
          rw [run_convert_bytes_string w s t e _ n cap' hs hu ht, run_bytesToString w _ n cap' ns ?_, push_all]
          · simp
          · rw [q1, Nat.mul_one] at *
            have hl : (ns.map (Value.int .u8)).length = n := by rw [h4]
            have := run_loadCells_list (P := P) (w := w) ⟨l.blk, i, none⟩ (ns.map (Value.int .u8)) (fun j u hj => by rw [Addr.add_mid]; exact h5 j u hj)
            rw [hl] at this
            exact this
        cases hx with
        | sl hr => exact ⟨_, key hr, .s _⟩
        | slc hr => exact ⟨_, key hr, .s _⟩
      · cases he
    · cases he
  · cases he

theorem chunks_len (k : Nat) : ∀ (n : Nat) (l : List AV), (chunks k n l).length = n
  | 0, _ => rfl
  | n + 1, l => by simp [chunks, chunks_len k n]
theorem chunks_each (k : Nat) : ∀ (n : Nat) (l : List AV), n * k ≤ l.length → ∀ r ∈ chunks k n l, r.length = k
  | 0, _, _, r, h => by cases h
  | n + 1, l, hl, r, h => by
    rw [Nat.add_mul, Nat.one_mul] at hl
    rcases List.mem_cons.1 h with rfl | h
    · rw [List.length_take]; omega
    · exact chunks_each k n _ (by rw [List.length_drop]; omega) r h
theorem chunks_flat (k : Nat) : ∀ (n : Nat) (l : List AV), (chunks k n l).flatten = l.take (n * k)
  | 0, _ => by simp [chunks]
  | n + 1, l => by
    rw [chunks, List.flatten_cons, chunks_flat k n, Nat.add_mul, Nat.one_mul, Nat.add_comm, List.take_add]
theorem arr_run {M : Mem} {t : TypeId} {x v : AV} {c : Value} {lo hi mx : Option AV} {cl ch cm : Option Value} (hx : Conc M ρ x c) (hl : OptConc M ρ lo cl) (hh : OptConc M ρ hi ch) (hm : OptConc M ρ mx cm)
    (he : effArr P t x lo hi mx = some v) (w : World) : ∃ y, (Instr.sliceAt t c cl ch cm).run P w = .ok y w ∧ Conc M ρ v y := by
  unfold effArr at he
  split at he
  · rename_i a es row f n e ht
    cases hl; cases hh; cases hm
    split at he
    · rename_i k hk
      split at he
      · rename_i hc
        obtain ⟨hn, hes, hf⟩ := hc
        cases he
        cases hx with
        | rptr h =>
          rename_i b off
          cases h with
          | mk hm hl hcs =>
            rename_i cc ee fz
            rw [List.flatten_cons, List.flatten_nil, List.append_nil, List.length_singleton, Nat.one_mul] at hcs
            have h1 := (hcs.drop f).take (n * k)
            rw [List.drop_take, List.take_take, List.drop_drop, Nat.min_eq_left (by omega)] at h1
            have hmem : ConcMem M ρ b (off + f) k (chunks k n (row.drop f)) := by
              refine .mk hm (chunks_each k n _ (by rw [List.length_drop]; omega)) ?_
              rw [chunks_flat, chunks_len]
              exact h1
            have h2 := Conc.rsl hmem (cap := n) (by rw [chunks_len]; exact Nat.le_refl _)
            rw [chunks_len] at h2
            refine ⟨.slice (some ⟨b, off + f, none⟩) n n, ?_, by rw [Addr.add_mid]; exact h2⟩
            simp [Instr.sliceAt, Sem.run_bind, run_underlying ht w, Instr.sureAddr, Instr.sliceBounds, run_sizeOf hk w, Addr.add_mid]
      · cases he
    · cases he
  · cases he
#print axioms bytes_run
#print axioms arr_run
end Go.Ab
