/- The abstract run: operations on abstract values, and code by fuel. -/
import Derived.Test.YtldckcopeiginaaAbA
import Derived.Test.YtldckcopeiginaaAbT
namespace Go.Ab

def uv : AV := .s undef

/-- The temporaries: how many, and the tree of their values. -/
structure Tm where
  n : Nat
  t : Tr AV
noncomputable def Tm.get (tm : Tm) (i : Nat) : AV := (tm.t.get i).getD uv
noncomputable def Tm.set (tm : Tm) (i : Nat) (v : AV) : Tm :=
  match tm with
  | ⟨n, t⟩ => if i < n then ⟨n, t.set i v⟩ else ⟨n, t⟩
noncomputable def Tm.fill (tm : Tm) (i : Nat) : List AV → Tm
  | [] => tm
  | v :: r => Tm.fill (tm.set i v) (i + 1) r

structure ALoop where
  state : LoopState
  pending : Option Code
  tmps : Tm
  params : Array Tmp
  assign : Code
  body : Code
  defers : Nat

inductive AObj where
  | dead
  | cells (elem : TypeId) (es : Nat) (exact : Bool) (rows : List (List AV))
  | loop (l : ALoop)
  | defr
  | emap
  | iter (m : Nat)

/-- Each object bears the number of times that it has turned. -/
structure AS where
  objs : Tr (Nat × AObj)
  next : Nat
  slot : Option Nat

/-- The name that the next new object gets. -/
def AS.newId (σ : AS) : Nat :=
  match σ with
  | ⟨_, next, slot⟩ => match slot with
    | none => next
    | some k => k
noncomputable def AS.get (σ : AS) (id : Nat) : Option AObj :=
  if id < σ.next then
    match σ.objs.get id with
    | some (_, o) => some o
    | none => none
  else none
/-- Written: one turn more. -/
noncomputable def putObj (objs : Tr (Nat × AObj)) (id : Nat) (o : AObj) : Tr (Nat × AObj) :=
  match objs.get id with
  | some (n, _) => objs.set id (n + 1, o)
  | none => objs.set id (0, o)
noncomputable def AS.set (σ : AS) (id : Nat) (o : AObj) : AS :=
  match σ with
  | ⟨objs, next, slot⟩ => ⟨putObj objs id o, next, slot⟩
noncomputable def AS.push (σ : AS) (o : AObj) : AS :=
  match σ with
  | ⟨objs, next, slot⟩ => match slot with
    | none => ⟨putObj objs next o, next + 1, none⟩
    | some k => ⟨putObj objs k o, next, none⟩

structure Cfg where
  tmps : Tm
  defs : List Nat
  st : AS

/-- What is given besides: 'rows': what package-level variables read as (of those that are looked at); 'orc': calls that are taken by a contract. -/
structure Gl where
  rows : Nat → Option (List AV)
  orc : FuncId → List AV → Option (AS → Option (AV × AS))
def evG (G : Gl) (g : Nat) : AV :=
  match G.rows g with
  | some row => .rptr ⟨g, 0, none⟩ row.length [row] 0 0
  | none => .s (.pointer (some ⟨g, 0, none⟩))
noncomputable def evT (G : Gl) (tmps : Tm) : Operand → AV
  | .tmp t => tmps.get t
  | .const v => .s v
  | .global g => evG G g
  | .func f => .s (.func (.func f) #[] #[])

inductive ANext where
  | val (v : AV)
  | enter (f : FuncId) (args : List AV)
  | round (l : Nat) (args : List AV)

/-- What a computation that touches no memory gives. -/
def evalP {α : Type} (P : Program) : Sem α → Option α
  | .pure a => some a
  | .program k => evalP P (k P)
  | .mark _ k => evalP P k
  | _ => none

section ops
variable (P : Program)

def sz (t : TypeId) : Option Nat := (P.info? t).map (·.size)

/-- The variable of type t at cell f of a row. -/
def readAt (t : TypeId) (row : List AV) (f : Nat) : Option AV :=
  match P.underlying t with
  | some d =>
    if d.isRow then
      match sz P t with
      | some n => if f + n ≤ row.length then some (mkAgg ((row.drop f).take n)) else none
      | none => none
    else row[f]?
  | none => none

def writeRow (row : List AV) (f : Nat) (cs : List AV) : List AV := row.take f ++ cs ++ row.drop (f + cs.length)

noncomputable def AS.rows (σ : AS) (o : Nat) : Option (List (List AV)) :=
  match σ.get o with
  | some (.cells _ _ _ rows) => some rows
  | _ => none

noncomputable def effLoad (t : TypeId) (a : AV) (σ : AS) : Option AV :=
  match a with
  | .ptr o i f => (σ.rows o).bind fun rows => (rows[i]?).bind fun row => readAt P t row f
  | .rptr _ _ rows i f => (rows[i]?).bind fun row => readAt P t row f
  | _ => none

noncomputable def effStore (t : TypeId) (a v : AV) (σ : AS) : Option AS :=
  match a with
  | .ptr o i f =>
    match σ.get o with
    | some (.cells e es x rows) =>
      match rows[i]? with
      | some row =>
        let cs := cellsOf v
        if sz P t = some cs.length && f + cs.length ≤ row.length && cs.all isCell then
          some (σ.set o (.cells e es x (rows.set i (writeRow row f cs))))
        else none
      | none => none
    | _ => none
  | _ => none

noncomputable def effBox (elem : TypeId) (cs : List AV) (σ : AS) : ANext × AS :=
  (.val (.ptr σ.newId 0 0), σ.push (.cells elem cs.length true [cs]))

def afill (place : Nat → Option (Nat × Nat)) (cells : List AV) : List (Nat × AV) → Option (List AV)
  | [] => some cells
  | (i, v) :: rest =>
    match place i with
    | none => none
    | some (off, size) =>
      if (cellsOf v).length = size ∧ off + (cellsOf v).length ≤ cells.length then afill place (writeRow cells off (cellsOf v)) rest else none

def effBuild (t : TypeId) (parts : List (Nat × AV)) : Option AV :=
  match P.info? t, P.underlying t with
  | some it, some (.struct fields) =>
    match it.zero, fields.toList.mapM (fun f => (P.info? f.type).map fun i => (f.offset, i.size)) with
    | some z, some places => (afill (places.toArray[·]?) (z.cells.toList.map .s) parts).map mkAgg
    | _, _ => none
  | some it, some (.array _ elem) =>
    match it.zero, P.info? elem with
    | some z, some ie => (afill (fun i => some (i * ie.size, ie.size)) (z.cells.toList.map .s) parts).map mkAgg
    | _, _ => none
  | _, _ => none

def setRows (size : Nat) (rows : List (List AV)) : List (Nat × AV) → Option (List (List AV))
  | [] => some rows
  | (i, v) :: rest => if (cellsOf v).length = size ∧ i < rows.length then setRows size (rows.set i (cellsOf v)) rest else none

noncomputable def effBuildSlice (t : TypeId) (len : Nat) (parts : List (Nat × AV)) (σ : AS) : Option (ANext × AS) :=
  match P.underlying t with
  | some (.slice elem) =>
    match P.info? elem with
    | some info =>
      match info.zero with
      | some z =>
        if z.cells.size = info.size ∧ len * info.size ≤ 2 ^ 24 then
          match setRows info.size (List.replicate len (z.cells.toList.map .s)) parts with
          | some rows => some (.val (.sl σ.newId 0 len none), σ.push (.cells elem info.size true rows))
          | none => none
        else none
      | none => none
    | none => none
  | _ => none

noncomputable def effMakeSlice (t : TypeId) (l c : AV) (σ : AS) : Option (ANext × AS) :=
  match P.underlying t, l, c with
  | some (.slice elem), .s (.int _ len), .s (.int _ cap) =>
    match P.info? elem with
    | some info =>
      match info.zero with
      | some z =>
        if z.cells.size = info.size ∧ 0 ≤ len ∧ len ≤ cap ∧ cap < 2 ^ 47 ∧ info.bytes * cap ≤ 2 ^ 48 then
          some (.val (.sl σ.newId 0 len.toNat none), σ.push (.cells elem info.size true (List.replicate cap.toNat (z.cells.toList.map .s))))
        else none
      | none => none
    | none => none
  | _, _, _ => none

def effField (t : TypeId) (x : AV) (f : Nat) : Option AV :=
  match P.underlying t, x with
  | some (.struct fields), .agg cs => (fields[f]?).bind fun fd => readAt P fd.type cs fd.offset
  | _, _ => none

def effFieldAddr (t : TypeId) (x : AV) (f : Nat) : Option AV :=
  match P.underlying t with
  | some (.struct fields) =>
    match fields[f]? with
    | some fd =>
      match sz P fd.type with
      | some (_ + 1) =>
        match x with
        | .ptr o i g => some (.ptr o i (g + fd.offset))
        | .rptr a es rows i g => some (.rptr a es rows i (g + fd.offset))
        | _ => none
      | _ => none
    | none => none
  | _ => none

noncomputable def effIndexAddr (t : TypeId) (x ix : AV) (σ : AS) : Option AV :=
  match P.underlying t, ix with
  | some (.slice elem), .s (.int _ n) =>
    match sz P elem with
    | some size =>
      match x with
      | .sl o i len _ =>
        match σ.get o with
        | some (.cells _ es _ _) => if es = size ∧ 0 ≤ n ∧ n < len then some (.ptr o (i + n.toNat) 0) else none
        | _ => none
      | .rsl a es _ rows => if es = size ∧ 0 ≤ n ∧ n < rows.length then some (.rptr a es rows n.toNat 0) else none
      | _ => none
    | none => none
  | some (.array len elem), .s (.int _ n) =>
    match sz P elem with
    | some size =>
      if 0 ≤ n ∧ n < len then
        match x with
        | .ptr o i f => some (.ptr o i (f + n.toNat * size))
        | .rptr a es rows i f => some (.rptr a es rows i (f + n.toNat * size))
        | _ => none
      else none
    | none => none
  | _, _ => none

def effIndex (t : TypeId) (x ix : AV) : Option AV :=
  match P.underlying t, x, ix with
  | some (.array len elem), .agg cs, .s (.int _ n) =>
    if 0 ≤ n ∧ n < len then (sz P elem).bind fun size => readAt P elem cs (n.toNat * size) else none
  | _, _, _ => none

/-- An optional bound of a slice expression. -/
def bound (v : Option AV) (dflt y : Nat) : Option Nat :=
  match v with
  | none => some dflt
  | some (.s (.int _ n)) => if 0 ≤ n ∧ n ≤ y then some n.toNat else none
  | some _ => none

def mkSl (o i l h m : Nat) : AV := if m = l then .sl o i (h - l) (some (m - l)) else .sl o (i + l) (h - l) (some (m - l))

def slBounds (n top : Nat) (lo hi mx : Option AV) : Option (Nat × Nat × Nat) :=
  (bound mx top top).bind fun m => (bound hi n m).bind fun h => (bound lo 0 h).bind fun l => some (l, h, m)

noncomputable def effSlice (t : TypeId) (x : AV) (lo hi mx : Option AV) (σ : AS) : Option AV :=
  if mx.isSome && hi.isNone then none else
  match P.underlying t with
  | some (.slice elem) =>
    match sz P elem with
    | some size =>
      match x with
      | .sl o i n cap =>
        match σ.get o with
        | some (.cells _ es exact rows) =>
          if es = size ∧ i + n ≤ rows.length then
            match cap with
            | some c => (slBounds n c lo hi mx).map fun (l, h, m) => mkSl o i l h m
            | none =>
              match exact, mx with
              | _, some _ => (slBounds n (rows.length - i) lo hi mx).map fun (l, h, m) => mkSl o i l h m
              | true, none => (slBounds n (rows.length - i) lo hi none).map fun (l, h, m) => if m = l then .sl o i (h - l) (some 0) else .sl o (i + l) (h - l) none
              | false, none => (slBounds n (rows.length - i) lo hi none).bind fun (l, h, m) => if l = 0 ∨ l < m then some (.sl o (i + l) (h - l) none) else none
          else none
        | _ => none
      | .rsl a es cap rows =>
        if es = size then
          (slBounds rows.length cap lo hi mx).bind fun (l, h, m) =>
            if h ≤ rows.length then
              if l = 0 then some (.rsl a es m (rows.take h))
              else if m = l then some (.rsl a es 0 []) else some (.rsl (a.add (l * es)) es (m - l) ((rows.take h).drop l))
            else none
        else none
      | _ => none
    | none => none
  | _ => none

/-- '==' where one side is no plain value. -/
def effEq (t : TypeId) (x y : AV) : Option Bool :=
  match P.underlying t, x, y with
  | some (.pointer _), .ptr .., .s (.pointer none) => some false
  | some (.pointer _), .rptr .., .s (.pointer none) => some false
  | some (.pointer _), .s (.pointer none), .ptr .. => some false
  | some (.pointer _), .s (.pointer none), .rptr .. => some false
  | some (.slice _), .sl .., .s (.slice none _ _) => some false
  | some (.slice _), .rsl .., .s (.slice none _ _) => some false
  | some (.slice _), .s (.slice none _ _), .sl .. => some false
  | some (.slice _), .s (.slice none _ _), .rsl .. => some false
  | some (.func ..), .fn .., .s .nilFunc => some false
  | some (.func ..), .s .nilFunc, .fn .. => some false
  | some (.map ..), .mp .., .s (.map none) => some false
  | some (.map ..), .s (.map none), .mp .. => some false
  | some (.interface _), .ifc .., .s .nilIface => some false
  | some (.interface _), .s .nilIface, .ifc .. => some false
  | some (.interface _), .ifc a _, .s (.iface b _) => if a ≠ b then some false else none
  | some (.interface _), .s (.iface a _), .ifc b _ => if a ≠ b then some false else none
  | some (.interface _), .ifc a _, .ifc b _ => if a ≠ b then some false else none
  | _, _, _ => none

def effAssert (x : AV) (asserted : TypeId) (commaOk : Bool) : Option AV :=
  match P.underlying asserted, x with
  | some (.interface want), .ifc t v =>
    match P.info? t with
    | some i =>
      match Instr.missingMethod want i.methods with
      | none => some (if commaOk then mkTup [.ifc t v, .s (.bool true)] else .ifc t v)
      | some _ => if commaOk then ((P.info? asserted).bind (·.zero)).map fun z => mkTup [.s z, .s (.bool false)] else none
    | none => none
  | some (.interface _), _ => none
  | some _, .ifc t v =>
    if t = asserted then some (if commaOk then mkTup [v, .s (.bool true)] else v)
    else if commaOk then ((P.info? asserted).bind (·.zero)).map fun z => mkTup [.s z, .s (.bool false)] else none
  | _, _ => none

def isRef : AV → Bool
  | .s _ => false
  | _ => true

/-- The rows that a second argument of append or copy gives. -/
noncomputable def srcRows (size : Nat) (x : AV) (σ : AS) : Option (List (List AV)) :=
  match x with
  | .sl o i n _ =>
    match σ.get o with
    | some (.cells _ es _ rows) => if es = size ∧ i + n ≤ rows.length then some ((rows.drop i).take n) else none
    | _ => none
  | .rsl _ es _ rows => if es = size then some rows else none
  | .s (.slice none 0 _) => some []
  | .s (.string b) => if size = 1 then some (b.data.toList.map fun x => [.s (.int .u8 x.toNat)]) else none
  | _ => none

def srcOk (P : Program) (tx : TypeId) (x : AV) : Bool :=
  match P.underlying tx, x with
  | some (.slice _), .sl .. | some (.slice _), .rsl .. | some (.slice _), .s (.slice ..) | some .string, .s (.string _) => true
  | _, _ => false

noncomputable def effAppend (ats : Array TypeId) (s x : AV) (σ : AS) : Option (ANext × AS) :=
  match ats.toList with
  | [t, tx] =>
    if srcOk P tx x then
      match P.underlying t with
      | some (.slice elem) =>
        match P.info? elem with
        | some info =>
          match info.zero, srcRows info.size x σ with
          | some z, some news =>
            let n := news.length
            if z.cells.size = info.size ∧ news.all (·.all isCell) then
              let grow (old : List (List AV)) : Option (ANext × AS) :=
                let need := old.length + n
                if (2 * need + 192) * info.bytes ≤ 2 ^ 48 ∧ need < 2 ^ 62 then
                  some (.val (.sl σ.newId 0 need none), σ.push (.cells elem info.size false (old ++ news)))
                else none
              match s with
              | .s (.slice none 0 0) => if n = 0 then some (.val (.s (.slice none 0 0)), σ) else grow []
              | .sl o i len cap =>
                match σ.get o with
                | some (.cells e es exact rows) =>
                  if es = info.size ∧ i + len ≤ rows.length then
                    match cap, exact with
                    | some c, _ =>
                      if len + n ≤ c then
                        if i + len + n ≤ rows.length then some (.val (.sl o i (len + n) (some c)), σ.set o (.cells e es exact (rows.take (i + len) ++ news ++ rows.drop (i + len + n)))) else none
                      else if len ≤ c then grow ((rows.drop i).take len) else none
                    | none, true =>
                      if i + len + n ≤ rows.length then some (.val (.sl o i (len + n) none), σ.set o (.cells e es true (rows.take (i + len) ++ news ++ rows.drop (i + len + n))))
                      else grow ((rows.drop i).take len)
                    | none, false =>
                      if n = 0 then some (.val (.sl o i len none), σ)
                      else if i = 0 ∧ len = rows.length ∧ e = elem ∧ (2 * (len + n) + 192) * info.bytes ≤ 2 ^ 48 ∧ len + n < 2 ^ 62 then
                        some (.val (.sl σ.newId 0 (len + n) none), (σ.set o .dead).push (.cells elem info.size false (rows ++ news)))
                      else none
                  else none
                | _ => none
              | .rsl a es cap rows =>
                if es = info.size then
                  if n = 0 then some (.val (.rsl a es cap rows), σ)
                  else if rows.length + n ≤ cap then none else grow rows
                else none
              | _ => none
            else none
          | _, _ => none
        | none => none
      | _ => none
    else none
  | _ => none

noncomputable def effCopy (ats : Array TypeId) (d x : AV) (σ : AS) : Option (ANext × AS) :=
  match ats[0]? with
  | some t =>
    match P.underlying t with
    | some (.slice elem) =>
      match sz P elem with
      | some size =>
        match srcRows size x σ, d with
        | some news, .sl o i n _ =>
          match σ.get o with
          | some (.cells e es exact rows) =>
            if es = size ∧ i + n ≤ rows.length ∧ news.all (·.all isCell) ∧ (isRef x = true ∨ news.length ≤ n) then
              let m := min news.length n
              some (.val (.s (.int .i64 m)), σ.set o (.cells e es exact (rows.take i ++ news.take m ++ rows.drop (i + m))))
            else none
          | _ => none
        | _, _ => none
      | none => none
    | _ => none
  | none => none

def effLen (ats : Array TypeId) (x : AV) : Option AV :=
  match (ats[0]?).bind P.underlying, x with
  | some (.slice _), .sl _ _ n _ => some (.s (.int .i64 n))
  | some (.slice _), .rsl _ _ _ rows => some (.s (.int .i64 rows.length))
  | _, _ => none

noncomputable def effCap (ats : Array TypeId) (x : AV) (σ : AS) : Option AV :=
  match (ats[0]?).bind P.underlying, x with
  | some (.slice _), .sl _ _ _ (some c) => some (.s (.int .i64 c))
  | some (.slice _), .sl o i _ none =>
    match σ.get o with
    | some (.cells _ _ true rows) => some (.s (.int .i64 ((rows.length - i : Nat) : Int)))
    | _ => none
  | some (.slice _), .rsl _ _ cap _ => some (.s (.int .i64 cap))
  | _, _ => none

def target (f : AV) (args : List AV) : Option ANext :=
  match f with
  | .s (.func (.func g) first cap) => some (.enter g (first.toList.map .s ++ args ++ cap.toList.map .s))
  | .fn (.func g) first cap => some (.enter g (first ++ args ++ cap))
  | .yld o => some (.round o args)
  | _ => none

def targetM (recv : AV) (name : String) (args : List AV) : Option ANext :=
  let go (t : TypeId) (v : AV) : Option ANext :=
    match P.info? t with
    | some info =>
      match info.methods.toList.find? (·.name == name) with
      | some m =>
        if m.path.isEmpty then
          match m.func, P.underlying t with
          | some (g, true), some (.pointer _) => some (.enter g (v :: args))
          | some (g, false), some (.pointer _) => none
          | some (g, false), some _ => some (.enter g (v :: args))
          | _, _ => none
        else none
      | none => none
    | none => none
  match recv with
  | .ifc t v => go t v
  | .s (.iface t v) => go t (.s v)
  | _ => none

/-- The operation on plain values alone, by the model's own text. -/
def effPure (o : Oper) (ev : Operand → AV) : Option AV :=
  if o.op.operands.toList.all (fun x => !isRef (ev x)) then
    match evalP P (execOp (fun x => ((sOf (ev x)).getD undef)) o) with
    | some (.value v) => some (.s v)
    | _ => none
  else none

def withSt (σ : AS) (v : Option AV) : Option (ANext × AS) := v.map fun v => (.val v, σ)

/-- Integers, bools and strings: the common operators, at once. -/
def fastBin (op : BinOp) (a b : Value) : Option Value :=
  match a, b with
  | .int k x, .int k' y =>
    if k = k' then
      match op with
      | .add => some (.int k (k.wrap (x + y)))
      | .sub => some (.int k (k.wrap (x - y)))
      | .mul => some (.int k (k.wrap (x * y)))
      | .eql => some (.bool (x == y))
      | .neq => some (.bool (x != y))
      | .lss => some (.bool (x < y))
      | .leq => some (.bool (x ≤ y))
      | .gtr => some (.bool (x > y))
      | .geq => some (.bool (x ≥ y))
      | _ => none
    else none
  | _, _ => none

/-- Maps: as far as they are empty. -/
noncomputable def effMakeMap (t : TypeId) (r : Option AV) (σ : AS) : Option (ANext × AS) :=
  match r with
  | none => some (.val (.mp σ.newId), σ.push .emap)
  | some (.s (.int _ _)) => match P.underlying t with
    | some (.map ..) => some (.val (.mp σ.newId), σ.push .emap)
    | _ => none
  | _ => none
noncomputable def effRange (t : TypeId) (x : AV) (σ : AS) : Option (ANext × AS) :=
  match P.underlying t, x with
  | some (.map ..), .mp o => match σ.get o with
    | some .emap => some (.val (.ptr σ.newId 0 0), σ.push (.iter o))
    | _ => none
  | _, _ => none
noncomputable def effNext (it : AV) (isString : Bool) (σ : AS) : Option (ANext × AS) :=
  match it, isString with
  | .ptr i 0 0, false => match σ.get i with
    | some (.iter o) => match σ.get o with
      | some .emap => some (.val (.s (.tuple #[.bool false])), σ)
      | _ => none
    | _ => none
  | _, _ => none

noncomputable def effPick (ev : Operand → AV) (c a b : Operand) (σ : AS) : Option (ANext × AS) :=
  match ev c with
  | .s (.bool t) => some (.val (if t then ev a else ev b), σ)
  | _ => none
noncomputable def effAlloc (elem : TypeId) (σ : AS) : Option (ANext × AS) := ((P.info? elem).bind (·.zero)).map fun z => effBox elem (z.cells.toList.map .s) σ
noncomputable def effMkIfc (t : TypeId) (x : AV) (σ : AS) : Option (ANext × AS) :=
  match P.underlying t with
  | some (.interface _) => none
  | some _ => some (.val (mkIfc t x), σ)
  | none => none
noncomputable def effNil (o : Oper) (ev : Operand → AV) (x : AV) (σ : AS) : Option (ANext × AS) :=
  match x with
  | .ptr o i f => some (.val (.ptr o i f), σ)
  | .rptr a es rows i f => some (.val (.rptr a es rows i f), σ)
  | .ifc t v => some (.val (.ifc t v), σ)
  | .yld l => some (.val (.yld l), σ)
  | .fn (.func g) a b => some (.val (.fn (.func g) a b), σ)
  | _ => withSt σ (effPure P o ev)
noncomputable def effExtract (o : Oper) (ev : Operand → AV) (x : AV) (i : Nat) (σ : AS) : Option (ANext × AS) :=
  match x with
  | .tup l => withSt σ l[i]?
  | .s (.tuple vs) => withSt σ (vs.toList[i]?.map .s)
  | _ => withSt σ (effPure P o ev)
noncomputable def effFieldOp (o : Oper) (ev : Operand → AV) (t : TypeId) (x : AV) (f : Nat) (σ : AS) : Option (ANext × AS) :=
  match x with
  | .agg cs => withSt σ (effField P t (.agg cs) f)
  | _ => withSt σ (effPure P o ev)
noncomputable def effIndexOp (o : Oper) (ev : Operand → AV) (t : TypeId) (x ix : AV) (σ : AS) : Option (ANext × AS) :=
  match x with
  | .agg cs => withSt σ (effIndex P t (.agg cs) ix)
  | _ => withSt σ (effPure P o ev)
noncomputable def effSliceOp (o : Oper) (ev : Operand → AV) (t : TypeId) (x : AV) (lo hi mx : Option AV) (σ : AS) : Option (ANext × AS) :=
  if isRef x then withSt σ (effSlice P t x lo hi mx σ) else withSt σ (effPure P o ev)
noncomputable def effBin (op : BinOp) (t : TypeId) (x y : Operand) (a b : AV) (σ : AS) : Option (ANext × AS) :=
  match a, b with
  | .s u, .s v =>
    match fastBin op u v with
    | some r => some (.val (.s r), σ)
    | none => match evalP P (do eqGuard op t x y u v; binOp op t u v) with
      | some r => some (.val (.s r), σ)
      | none => none
  | a, b =>
    match op with
    | .eql => (effEq P t a b).map fun r => (.val (.s (.bool r)), σ)
    | .neq => (effEq P t a b).map fun r => (.val (.s (.bool !r)), σ)
    | _ => none
noncomputable def effAssertOp (o : Oper) (ev : Operand → AV) (x : AV) (asserted : TypeId) (ok : Bool) (σ : AS) : Option (ANext × AS) :=
  if isRef x then withSt σ (effAssert P x asserted ok) else withSt σ (effPure P o ev)
noncomputable def effLenOp (o : Oper) (ev : Operand → AV) (ats : Array TypeId) (x : AV) (σ : AS) : Option (ANext × AS) :=
  if isRef x then withSt σ (effLen P ats x) else withSt σ (effPure P o ev)
noncomputable def effCapOp (o : Oper) (ev : Operand → AV) (ats : Array TypeId) (x : AV) (σ : AS) : Option (ANext × AS) :=
  if isRef x then withSt σ (effCap P ats x σ) else withSt σ (effPure P o ev)
noncomputable def effBuiltin (o : Oper) (ev : Operand → AV) (b : Builtin) (ats : Array TypeId) (args : List AV) (σ : AS) : Option (ANext × AS) :=
  match b, args with
  | .append, [s, x] => effAppend P ats s x σ
  | .copy, [d, x] => effCopy P ats d x σ
  | .len, [x] => effLenOp P o ev ats x σ
  | .cap, [x] => effCapOp P o ev ats x σ
  | .min, _ | .max, _ => withSt σ (effPure P o ev)
  | _, _ => none
/-- A function without a body of Go's own: the model's own text, on plain values. -/
def bodyless (f : AV) : Bool :=
  match f with
  | .s (.func (.func g) _ _) => match P.funcs[g]? with
    | some fn => fn.body.isNone
    | none => false
  | _ => false
noncomputable def effCall (o : Oper) (ev : Operand → AV) (c : Call) (σ : AS) : Option (ANext × AS) :=
  match c.callee with
  | .value f => if bodyless P (ev f) then withSt σ (effPure P o ev) else (target (ev f) (c.args.toList.map ev)).map fun r => (r, σ)
  | .invoke recv name => (targetM P (ev recv) name (c.args.toList.map ev)).map fun r => (r, σ)
  | .builtin b => effBuiltin P o ev b c.argTypes (c.args.toList.map ev) σ

noncomputable def eff (o : Oper) (ev : Operand → AV) (σ : AS) : Option (ANext × AS) :=
  match o.op with
  | .move x => some (.val (ev x), σ)
  | .assign x => some (.val (ev x), σ)
  | .pick c a b => effPick ev c a b σ
  | .load t a => withSt σ (effLoad P t (ev a) σ)
  | .store t a v => (effStore P t (ev a) (ev v) σ).map fun σ' => (.val uv, σ')
  | .alloc elem => effAlloc P elem σ
  | .box elem v => some (effBox elem (cellsOf (ev v)) σ)
  | .build t parts => withSt σ (effBuild P t (parts.toList.map fun p => (p.1, ev p.2)))
  | .buildSlice t len parts => effBuildSlice P t len (parts.toList.map fun p => (p.1, ev p.2)) σ
  | .makeSlice t l c => effMakeSlice P t (ev l) (ev c) σ
  | .makeFunc fn first captured => some (.val (mkFn fn (first.toList.map ev) (captured.toList.map ev)), σ)
  | .makeInterface t x => effMkIfc P t (ev x) σ
  | .fieldAddr t x f => withSt σ (effFieldAddr P t (ev x) f)
  | .indexAddr t x ix => withSt σ (effIndexAddr P t (ev x) (ev ix) σ)
  | .nilCheck x => effNil P o ev (ev x) σ
  | .extract t i => effExtract P o ev (ev t) i σ
  | .field t x f => effFieldOp P o ev t (ev x) f σ
  | .index t x ix => effIndexOp P o ev t (ev x) (ev ix) σ
  | .slice t x lo hi mx => effSliceOp P o ev t (ev x) (lo.map ev) (hi.map ev) (mx.map ev) σ
  | .binOp op t x y _ => effBin P op t x y (ev x) (ev y) σ
  | .typeAssert x _ asserted ok => effAssertOp P o ev (ev x) asserted ok σ
  | .unOp _ _ _ => withSt σ (effPure P o ev)
  | .convert _ _ _ => withSt σ (effPure P o ev)
  | .call c => effCall P o ev c σ
  | .makeMap t r => effMakeMap P t (r.map ev) σ
  | .range t x => effRange P t (ev x) σ
  | .next it isString => effNext (ev it) isString σ
  | _ => none
end ops

/-! ### Regions that draw their order: what may be turned about -/
/-- 0: looks at no object; 1: looks at objects; 3: makes one object; 2: all others. -/
def cls (o : Oper) : Nat :=
  match o.op with
  | .move _ | .assign _ | .pick .. | .build .. | .unOp .. | .binOp .. | .convert .. | .extract .. | .field .. | .index .. | .makeFunc .. | .makeInterface .. | .typeAssert .. | .fieldAddr .. | .nilCheck _ => 0
  | .load .. | .indexAddr .. | .slice .. => 1
  | .alloc _ | .box .. | .buildSlice .. | .makeSlice .. => 3
  | .call c => match c.callee with
    | .builtin .len => 0
    | .builtin .min => 0
    | .builtin .max => 0
    | _ => 2
  | _ => 2

def bindsOf (o : Oper) : List Nat := (o.after.toList.filter (Region.binds .any)).map (·.on)
/-- The operations that come before, as bits. -/
def mask (acc : List Nat) (o : Oper) : Nat := (bindsOf o).foldl (fun s e => s ||| (2 ^ e ||| acc.getD e 0)) 0
def masks : List Oper → List Nat → List Nat
  | [], acc => acc
  | o :: r, acc => masks r (acc ++ [mask acc o])
def edgesOk : List Oper → Nat → Bool
  | [], _ => true
  | o :: r, j => (bindsOf o).all (· < j) && edgesOk r (j + 1)
def pairOk (ops : Array Oper) (x y : Oper) : Bool := x.apart ops y && (cls x == 0 || cls y == 0 || cls x == 1 || cls y == 3)
def idOf : AV → Option Nat
  | .ptr o _ _ => some o
  | .sl o _ _ _ => some o
  | _ => none
/-- What an operation of class 1 has looked at: an object, and how often it had turned; or the size of its elements alone. -/
inductive Seen where
  | all (id : Nat) (stamp : Nat)
  | size (id : Nat) (es : Nat)
noncomputable def seenAll (σ : AS) (v : AV) : Option Seen :=
  match idOf v with
  | some id => match σ.objs.get id with
    | some (n, _) => some (.all id n)
    | none => none
  | none => none
noncomputable def seenSl (σ : AS) (v : AV) : Option Seen :=
  match v with
  | .sl id _ _ _ => match σ.objs.get id with
    | some (_, .cells _ es _ _) => some (.size id es)
    | _ => none
  | _ => none
noncomputable def readOf (o : Oper) (ev : Operand → AV) (σ : AS) : Option Seen :=
  match o.op with
  | .load _ a => seenAll σ (ev a)
  | .indexAddr _ x _ => seenSl σ (ev x)
  | .slice _ x _ _ _ => seenAll σ (ev x)
  | _ => none
noncomputable def Seen.stands (σ : AS) : Seen → Bool
  | .all id n => match σ.objs.get id with
    | some (m, _) => m == n
    | none => false
  | .size id es => match σ.objs.get id with
    | some (_, .cells _ es' _ _) => es' == es
    | _ => false

/-- What of class 2 there is, as bits. -/
def wbits : List Oper → Nat → Nat
  | [], _ => 0
  | o :: r, j => (if cls o == 2 || cls o == 3 then 2 ^ j else 0) ||| wbits r (j + 1)
/-- The order in which the run goes: first what looks only and hangs on nothing that acts. -/
def isEarly (ms : List Nat) (wm : Nat) (o : Oper) (j : Nat) : Bool := (cls o == 0 || cls o == 1) && (ms.getD j 0) &&& wm == 0
def ordPart (ms : List Nat) (wm : Nat) (want : Bool) : List Oper → Nat → List Nat
  | [], _ => []
  | o :: r, j => if isEarly ms wm o j == want then j :: ordPart ms wm want r (j + 1) else ordPart ms wm want r (j + 1)
def pairAt (ops : Array Oper) (m : Nat) (y : Oper) (i : Nat) : Bool :=
  m.testBit i || match ops[i]? with
    | some x => pairOk ops x y
    | none => false
def checkFrom (ops : Array Oper) (ms : List Nat) : List Nat → List Nat → Bool
  | [], _ => true
  | j :: r, seen => match ops[j]? with
    | some y => !seen.contains j && (bindsOf y).all (fun e => seen.contains e) && seen.all (pairAt ops (ms.getD j 0) y) && checkFrom ops ms r (j :: seen)
    | none => false
def flagsAt (ops : Array Oper) (m : Nat) (y : Oper) (seen : List Nat) : List Nat :=
  if cls y == 2 then seen.filter fun i => !m.testBit i && match ops[i]? with
    | some x => cls x == 1
    | none => false
  else []
def planFrom (ops : Array Oper) (ms : List Nat) : List Nat → List Nat → List (Nat × List Nat)
  | [], _ => []
  | j :: r, seen => match ops[j]? with
    | some y => (j, flagsAt ops (ms.getD j 0) y seen) :: planFrom ops ms r (j :: seen)
    | none => []
def drawOrd (ops : Array Oper) (ms : List Nat) : List Nat := ordPart ms (wbits ops.toList 0) true ops.toList 0 ++ ordPart ms (wbits ops.toList 0) false ops.toList 0
def drawnOk (ops : Array Oper) : Bool := edgesOk ops.toList 0 && (drawOrd ops (masks ops.toList [])).length == ops.size && checkFrom ops (masks ops.toList []) (drawOrd ops (masks ops.toList [])) []
def plan (ops : Array Oper) : List (Nat × List Nat) := planFrom ops (masks ops.toList []) (drawOrd ops (masks ops.toList [])) []

inductive AEx where
  | normal
  | exit (id : Nat)
  | ret
  deriving DecidableEq

section run
variable (P : Program) (G : Gl)

/-- The results of a call. -/
noncomputable def aresult (tm : Tm) (σ : AS) : ResultVar → Option AV
  | .tmp t => some (tm.get t)
  | .cell a t => effLoad P t (tm.get a) σ
noncomputable def aresultL (tm : Tm) (σ : AS) : List ResultVar → Option (List AV)
  | [] => some []
  | r :: rs => match aresult P tm σ r, aresultL tm σ rs with
    | some v, some vs => some (v :: vs)
    | _, _ => none
def tupled : List AV → AV
  | [v] => v
  | vs => mkTup vs
noncomputable def aresults (fn : Func) (tm : Tm) (σ : AS) : Option AV := (aresultL P tm σ fn.results.toList).map tupled

noncomputable def dropDefs (σ : AS) : List Nat → Option AS
  | [] => some σ
  | d :: ds => match σ.get d with
    | some .defr => dropDefs (σ.set d .dead) ds
    | _ => none

variable (ex : Option Nat → Code → Cfg → Option (AEx × Cfg))

noncomputable def callBody (f : FuncId) (args : List AV) (σ : AS) : Option (AV × AS) :=
  match P.funcs[f]? with
  | some fn =>
    match fn.body with
    | some c =>
      match ex none c { tmps := Tm.fill ⟨max args.length fn.ntmps, .e⟩ 0 args, defs := [], st := σ } with
      | some (.normal, s) | some (.ret, s) =>
        match dropDefs s.st s.defs with
        | some σ' => match aresults P fn s.tmps σ' with
          | some v => some (v, σ')
          | none => none
        | none => none
      | _ => none
    | none => none
  | none => none

noncomputable def callWith (f : FuncId) (args : List AV) (σ : AS) : Option (AV × AS) :=
  match G.orc f args with
  | some h => h σ
  | none => callBody P ex f args σ

/-- The jump that is left to do when a round's body has been left. -/
def jumpOf : AEx → Option Code
  | .normal => none
  | .ret => some .ret
  | .exit id => some (.exit id)

noncomputable def roundWith (l : Nat) (args : List AV) (σ : AS) : Option (AV × AS) :=
  match σ.get l with
  | some (.loop r) =>
    if r.state = .ready ∧ args.length = r.params.size then
      let tmps := (r.params.toList.zip args).foldl (fun (ts : Tm) (p : Tmp × AV) => ts.set p.1 p.2) r.tmps
      match ex (some l) r.assign { tmps, defs := [], st := σ } with
      | some (.normal, s₁) =>
        match s₁.st.get l with
        | some (.loop r₁) =>
          if r₁.state = .ready then
            match ex (some l) r.body { s₁ with st := s₁.st.set l (.loop { r₁ with state := .busy }) } with
            | some (e, s₂) =>
              match s₂.st.get l with
              | some (.loop r₂) =>
                some (.s (.bool (jumpOf e).isNone), s₂.st.set l (.loop { r₂ with state := if (jumpOf e).isNone then .ready else .done, pending := jumpOf e }))
              | _ => none
            | none => none
          else none
        | _ => none
      | _ => none
    else none
  | _ => none

noncomputable def put (tmps : Tm) (dst : Option Tmp) (v : AV) : Tm :=
  match dst with
  | some d => tmps.set d v
  | none => tmps

noncomputable def ayielded (ops : Array Oper) (tmps : Tm) (j : Nat) : Option Bool :=
  match (ops[j]?).bind (·.dst) with
  | some t => match tmps.get t with
    | .s (.bool b) => some b
    | _ => none
  | none => none

noncomputable def stepVal (dst : Option Tmp) (tm : Tm) (defs : List Nat) : Option (AV × AS) → Option Cfg
  | some (v, σ) => some ⟨put tm dst v, defs, σ⟩
  | none => none

noncomputable def resNext : Option (ANext × AS) → Option (AV × AS)
  | some (.val v, σ) => some (v, σ)
  | some (.enter f args, σ) => callWith P G ex f args σ
  | some (.round l args, σ) => roundWith ex l args σ
  | none => none

noncomputable def resO (ops : Array Oper) (o : Oper) (tm : Tm) (σ : AS) : Option (AV × AS) :=
  if Region.wanted o (ayielded ops tm) then resNext P G ex (eff P o (evT G tm) σ) else some (uv, σ)

noncomputable def stepO (ops : Array Oper) (o : Oper) (s : Cfg) : Option Cfg :=
  match s with
  | ⟨tm, defs, σ⟩ => stepVal o.dst tm defs (resO P G ex ops o tm σ)

/-- As 'resO': the new object gets the name k. -/
noncomputable def resA (k : Nat) (ops : Array Oper) (o : Oper) (tm : Tm) (σ : AS) : Option (AV × AS) :=
  match σ with
  | ⟨objs, next, _⟩ =>
    match objs.get k with
    | some _ => none
    | none => match resO P G ex ops o tm ⟨objs, next, some k⟩ with
      | some (v, ⟨objs', next', _⟩) => some (v, ⟨objs', next', none⟩)
      | none => none

noncomputable def resX (base : Nat) (ops : Array Oper) (i : Nat) (o : Oper) (tm : Tm) (σ : AS) : Option (AV × AS) :=
  if cls o == 3 then resA P G ex (base + i) ops o tm σ
  else match σ with
    | ⟨objs, next, _⟩ => match resO P G ex ops o tm ⟨objs, next, none⟩ with
      | some (v, ⟨objs', next', _⟩) => some (v, ⟨objs', next', none⟩)
      | none => none

/-- One operation of a region that draws its order. -/
noncomputable def stepX (base : Nat) (ops : Array Oper) (i : Nat) (s : Cfg) : Option Cfg :=
  match ops[i]? with
  | none => none
  | some o =>
    match s with
    | ⟨tm, defs, σ⟩ => stepVal o.dst tm defs (resX P G ex base ops i o tm σ)

abbrev Rec := Nat → Option Seen
def Rec.upd (rc : Rec) (k : Nat) (v : Option Seen) : Rec := fun j => if j = k then v else rc j

/-- What was looked at before, and may not turn here, has not turned. -/
noncomputable def stands (rc : Rec) (σ' : AS) (fl : List Nat) : Bool := fl.all fun k => match rc k with
  | some x => x.stands σ'
  | none => true

noncomputable def stepD (base : Nat) (ops : Array Oper) (i : Nat) (fl : List Nat) (s : Cfg) (rc : Rec) : Option (Cfg × Rec) :=
  match ops[i]? with
  | none => none
  | some o =>
    match s with
    | ⟨tm, defs, σ⟩ =>
      match resX P G ex base ops i o tm σ with
      | some (v, σ') => if stands rc σ' fl then some (⟨put tm o.dst v, defs, σ'⟩, rc.upd i (if Region.wanted o (ayielded ops tm) then readOf o (evT G tm) σ else none)) else none
      | none => none

noncomputable def runD (base : Nat) (ops : Array Oper) : List (Nat × List Nat) → Cfg → Rec → Option Cfg
  | [], s, _ => some s
  | (i, fl) :: r, s, rc => match stepD P G ex base ops i fl s rc with
    | some (s', rc') => runD base ops r s' rc'
    | none => none

noncomputable def runL (ops : Array Oper) : List Oper → Cfg → Option Cfg
  | [], s => some s
  | o :: r, s => match stepO P G ex ops o s with
    | some s' => runL ops r s'
    | none => none

noncomputable def rangeWith (rd : Option Nat) (f : Operand) (params : Array Tmp) (assign body : Code) (s : Cfg) : Option (Option Code × Cfg) :=
  let front : Option (Nat × List Nat × AS) := match rd with
    | none => some (s.st.newId, [s.st.newId], s.st.push .defr)
    | some l => match s.st.get l with
      | some (.loop r) => some (r.defers, [], s.st)
      | _ => none
  match front with
  | some (d, mark, σ₁) =>
    let l := σ₁.newId
    let σ₂ := σ₁.push (.loop { state := .ready, pending := none, tmps := s.tmps, params, assign, body, defers := d })
    match target (evT G s.tmps f) [.yld l] with
    | some (.enter g args) =>
      match callWith P G ex g args σ₂ with
      | some (_, σ₃) =>
        match σ₃.get l with
        | some (.loop r) =>
          if r.state = .busy then none
          else some (r.pending, { tmps := s.tmps, defs := mark ++ s.defs, st := σ₃.set l (.loop { r with state := .exhausted }) })
        | _ => none
      | none => none
    | _ => none
  | none => none
end run

section steps
variable (P : Program) (G : Gl) (ex : Option Nat → Code → Cfg → Option (AEx × Cfg)) (rd : Option Nat)
def stSeq (a b : Code) (s : Cfg) : Option (AEx × Cfg) :=
  match ex rd a s with
  | some (.normal, s') => ex rd b s'
  | r => r
noncomputable def stCond (x : Operand) (a b : Code) (s : Cfg) : Option (AEx × Cfg) :=
  match evT G s.tmps x with
  | .s (.bool t) => ex rd (if t then a else b) s
  | _ => none
def stBlock (id : Nat) (b : Code) (s : Cfg) : Option (AEx × Cfg) :=
  match ex rd b s with
  | some (.exit id', s') => some (if id' = id then .normal else .exit id', s')
  | r => r
def stLoop (b : Code) (s : Cfg) : Option (AEx × Cfg) :=
  match ex rd b s with
  | some (.normal, s') => ex rd (.loop b) s'
  | r => r
noncomputable def stRegion (ops : Array Oper) (s : Cfg) : Option (AEx × Cfg) :=
  match runL P G ex ops ops.toList s with
  | some s' => some (.normal, s')
  | none => none
noncomputable def stDraw (ops : Array Oper) (s : Cfg) : Option (AEx × Cfg) :=
  if drawnOk ops then
    match s with
    | ⟨tm, defs, ⟨objs, next, _⟩⟩ =>
      match runD P G ex next ops (plan ops) ⟨tm, defs, ⟨objs, next + ops.size, none⟩⟩ (fun _ => none) with
      | some s' => some (.normal, s')
      | none => none
  else none
noncomputable def stRange (f : Operand) (params : Array Tmp) (assign body : Code) (s : Cfg) : Option (AEx × Cfg) :=
  match rangeWith P G ex rd f params assign body s with
  | some (none, s') => some (.normal, s')
  | some (some c, s') => ex rd c s'
  | none => none
noncomputable def execStep (c : Code) (s : Cfg) : Option (AEx × Cfg) :=
  match c with
  | .skip => some (.normal, s)
  | .label _ => some (.normal, s)
  | .seq a b => stSeq ex rd a b s
  | .cond x a b => stCond G ex rd x a b s
  | .block id b => stBlock ex rd id b s
  | .loop b => stLoop ex rd b s
  | .scope b => ex rd b s
  | .exit id => some (.exit id, s)
  | .ret => some (.ret, s)
  | .region _ ops draw => if draw then stDraw P G ex ops s else stRegion P G ex ops s
  | .rangeFunc f params assign body => stRange P G ex rd f params assign body s
  | _ => none
end steps

noncomputable def exec (P : Program) (G : Gl) (n : Nat) : Option Nat → Code → Cfg → Option (AEx × Cfg) :=
  Nat.rec (motive := fun _ => Option Nat → Code → Cfg → Option (AEx × Cfg)) (fun _ _ _ => none) (fun _ ih => execStep P G ih) n

noncomputable def runCall (P : Program) (G : Gl) (n : Nat) (f : FuncId) (args : List AV) : Option (AV × AS) :=
  callWith P G (exec P G n) f args ⟨.e, 0, none⟩

end Go.Ab
