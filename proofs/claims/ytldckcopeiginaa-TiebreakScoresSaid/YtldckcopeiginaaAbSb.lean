/- Symbolic steps: the rules of the operations. -/
import Derived.Test.YtldckcopeiginaaAbSa
namespace Go.Ab
variable {P : Program} {G : Gl}

/-! ### What types say -/
/-- none: not known; some none: a cell; some (some n): a row of n cells. -/
def rowN (P : Program) (t : TypeId) : Option (Option Nat) :=
  match P.underlying t with
  | some d => if d.isRow then (sz P t).map some else some none
  | none => none
def sliceOf (P : Program) (t : TypeId) : Option (TypeId × Nat) :=
  match P.underlying t with
  | some (.slice e) => (sz P e).map fun n => (e, n)
  | _ => none
def arrOf (P : Program) (t : TypeId) : Option (Nat × TypeId × Nat) :=
  match P.underlying t with
  | some (.array n e) => (sz P e).map fun s => (n, e, s)
  | _ => none
def fldOf (P : Program) (t : TypeId) (f : Nat) : Option Nat :=
  match P.underlying t with
  | some (.struct fields) =>
    match fields[f]? with
    | some fd => match sz P fd.type with
      | some (_ + 1) => some fd.offset
      | _ => none
    | none => none
  | _ => none
def zeroOf (P : Program) (t : TypeId) : Option (List AV) := ((P.info? t).bind (·.zero)).map fun z => z.cells.toList.map .s
/-- element, cells, bytes, zero cells -/
def elOf (P : Program) (t : TypeId) : Option (TypeId × Nat × Nat × List AV) :=
  match P.underlying t with
  | some (.slice e) =>
    match P.info? e with
    | some info =>
      match info.zero with
      | some z => if z.cells.size = info.size then some (e, info.size, info.bytes, z.cells.toList.map .s) else none
      | none => none
    | none => none
  | _ => none

theorem readAt_cell {t : TypeId} (h : rowN P t = some none) (row : List AV) (f : Nat) : readAt P t row f = row[f]? := by
  unfold rowN at h
  unfold readAt
  split at h
  · rename_i d hd
    rw [hd]
    simp only
    split at h
    · cases hs : sz P t with
      | none => rw [hs] at h; cases h
      | some n => rw [hs] at h; cases h
    · rename_i hr
      rw [if_neg hr]
  · cases h
theorem readAt_row {t : TypeId} {n : Nat} (h : rowN P t = some (some n)) (row : List AV) (f : Nat) (hf : f + n ≤ row.length) : readAt P t row f = some (mkAgg ((row.drop f).take n)) := by
  unfold rowN at h
  unfold readAt
  split at h
  · rename_i d hd
    rw [hd]
    simp only
    split at h
    · rename_i hr
      rw [if_pos hr]
      cases hs : sz P t with
      | none => rw [hs] at h; cases h
      | some m =>
        rw [hs] at h
        cases h
        simp only
        rw [if_pos hf]
    · cases h
  · cases h
theorem sliceOf_spec {t e : TypeId} {n : Nat} (h : sliceOf P t = some (e, n)) : P.underlying t = some (.slice e) ∧ sz P e = some n := by
  unfold sliceOf at h
  split at h
  · rename_i e' he
    cases hs : sz P e' with
    | none => rw [hs] at h; cases h
    | some m => rw [hs] at h; cases h; exact ⟨he, hs⟩
  · cases h
theorem arrOf_spec {t e : TypeId} {n k : Nat} (h : arrOf P t = some (k, e, n)) : P.underlying t = some (.array k e) ∧ sz P e = some n := by
  unfold arrOf at h
  split at h
  · rename_i k' e' he
    cases hs : sz P e' with
    | none => rw [hs] at h; cases h
    | some m => rw [hs] at h; cases h; exact ⟨he, hs⟩
  · cases h
theorem elOf_spec {t e : TypeId} {n b : Nat} {z : List AV} (h : elOf P t = some (e, n, b, z)) : P.underlying t = some (.slice e) ∧ sz P e = some n ∧ ∃ info zv, P.info? e = some info ∧ info.zero = some zv ∧ zv.cells.size = info.size ∧ info.size = n ∧ info.bytes = b ∧ z = zv.cells.toList.map .s := by
  unfold elOf at h
  split at h
  · rename_i e' he
    split at h
    · rename_i info hi
      split at h
      · rename_i zv hz
        split at h
        · rename_i hsz
          cases h
          exact ⟨he, by unfold sz; rw [hi]; rfl, info, zv, hi, hz, hsz, rfl, rfl, rfl⟩
        · cases h
      · cases h
    · cases h
  · cases h

theorem evalP_bind {α β : Type} (s : Sem α) (f : α → Sem β) : evalP P (s >>= f) = (evalP P s).bind fun a => evalP P (f a) := by
  show evalP P (s.bind f) = _
  induction s with
  | pure a => rfl
  | program k ih => exact ih P
  | mark m k ih => exact ih
  | _ => rfl
theorem evalP_map {α β : Type} (s : Sem α) (f : α → β) : evalP P (f <$> s) = (evalP P s).map f := by
  show evalP P (s >>= fun a => pure (f a)) = _
  rw [evalP_bind]
  cases evalP P s <;> rfl
theorem evalP_under (t : TypeId) {d : TypeDesc} (h : P.underlying t = some d) : evalP P (underlying t) = some d := by
  unfold underlying
  show evalP P (Go.program >>= _) = _
  rw [evalP_bind]
  show evalP P (match P.underlying t with | some d => pure d | none => _) = _
  rw [h]
  rfl

section rules
variable {B : AS} {W : List Nat} {ops : Array Oper} {os : List Oper} {L : List (Nat × AV)} {N : Nat} {ds : List Nat} {H : List (Nat × AObj)} {Q : Cfg → Prop} {ty : TypeId} {pos : String} {af : Array Edge} {d : Nat}

theorem SL_nil (h : ∀ tm σ, En tm N L → He B W σ H ds → Q ⟨tm, ds, σ⟩) : SL P G B W ops [] L N ds H Q := fun tm σ h1 h2 => wpl_nil (h tm σ h1 h2)
theorem SL_seq {rd : Option Nat} {b : Code} {Q Q' : AEx → Cfg → Prop} (h : SC P G B W rd b L N ds H Q) : SL P G B W ops [] L N ds H (fun s => Nxt (fun s => wpc P G rd b s Q) Q' .normal s) := fun tm σ h1 h2 => wpl_nil (h tm σ h1 h2)

/-- A value, nothing turned. -/
theorem SL_val {op : Op} (v : AV) (hd : d < N) (h : ∀ tm σ, En tm N L → He B W σ H ds → eff P ⟨some d, op, ty, pos, af, none⟩ (evT G tm) σ = some (.val v, σ)) (k : SL P G B W ops os ((d, v) :: L) N ds H Q) :
    SL P G B W ops (⟨some d, op, ty, pos, af, none⟩ :: os) L N ds H Q := fun tm σ h1 h2 => by
  refine wpl_op rfl ?_
  rw [h tm σ h1 h2]
  exact wpn_val (k _ σ (h1.set hd v) h2)

/-- A guard that is met; one that is not. -/
theorem SL_run {dst : Option Tmp} {op : Op} {j t : Nat} {want : Bool} (hj : (ops[j]?).bind (·.dst) = some t) (ht : lk L t = some (.s (.bool want))) (k : SL P G B W ops (⟨dst, op, ty, pos, af, none⟩ :: os) L N ds H Q) :
    SL P G B W ops (⟨dst, op, ty, pos, af, some (j, want)⟩ :: os) L N ds H Q := fun tm σ h1 h2 => by
  obtain ⟨n, s', h3, h4⟩ := k tm σ h1 h2
  refine ⟨n, s', ?_, h4⟩
  simp only [runL, stepO, resO] at h3 ⊢
  have hw : Region.wanted ⟨dst, op, ty, pos, af, some (j, want)⟩ (ayielded ops tm) = true := by
    simp only [Region.wanted, ayielded, hj, h1.get _ _ ht, beq_self_eq_true]
  have hw' : Region.wanted ⟨dst, op, ty, pos, af, none⟩ (ayielded ops tm) = true := rfl
  rw [if_pos hw]
  rw [if_pos hw'] at h3
  exact h3
theorem SL_not {op : Op} {j t : Nat} {want b : Bool} (hj : (ops[j]?).bind (·.dst) = some t) (ht : lk L t = some (.s (.bool b))) (hb : b = !want) (hd : d < N) (k : SL P G B W ops os ((d, uv) :: L) N ds H Q) :
    SL P G B W ops (⟨some d, op, ty, pos, af, some (j, want)⟩ :: os) L N ds H Q := fun tm σ h1 h2 => by
  refine wpl_not ?_ (k _ σ (h1.set hd uv) h2)
  simp only [Region.wanted, ayielded, hj, h1.get _ _ ht, hb]
  cases want <;> rfl

theorem SL_move {x : Operand} {v : AV} (hd : d < N) (hx : evL G L x = some v) (k : SL P G B W ops os ((d, v) :: L) N ds H Q) : SL P G B W ops (⟨some d, .move x, ty, pos, af, none⟩ :: os) L N ds H Q :=
  SL_val v hd (fun tm σ h1 h2 => by unfold eff; simp only [h1.ev hx]) k
theorem SL_assign {x : Operand} {v : AV} (hd : d < N) (hx : evL G L x = some v) (k : SL P G B W ops os ((d, v) :: L) N ds H Q) : SL P G B W ops (⟨some d, .assign x, ty, pos, af, none⟩ :: os) L N ds H Q :=
  SL_val v hd (fun tm σ h1 h2 => by unfold eff; simp only [h1.ev hx]) k
theorem SL_pick_t {c x y : Operand} {v : AV} (hd : d < N) (hc : evL G L c = some (.s (.bool true))) (hx : evL G L x = some v) (k : SL P G B W ops os ((d, v) :: L) N ds H Q) : SL P G B W ops (⟨some d, .pick c x y, ty, pos, af, none⟩ :: os) L N ds H Q :=
  SL_val v hd (fun tm σ h1 h2 => by unfold eff; simp only [effPick, h1.ev hc, h1.ev hx]; rfl) k
theorem SL_pick_f {c x y : Operand} {v : AV} (hd : d < N) (hc : evL G L c = some (.s (.bool false))) (hy : evL G L y = some v) (k : SL P G B W ops os ((d, v) :: L) N ds H Q) : SL P G B W ops (⟨some d, .pick c x y, ty, pos, af, none⟩ :: os) L N ds H Q :=
  SL_val v hd (fun tm σ h1 h2 => by unfold eff; simp only [effPick, h1.ev hc, h1.ev hy]; rfl) k

/-- Arithmetic and comparison of integers. -/
theorem SL_fast {o : BinOp} {t yt : TypeId} {x y : Operand} {u v r : Value} (hd : d < N) (hx : evL G L x = some (.s u)) (hy : evL G L y = some (.s v)) (hr : fastBin o u v = some r) (k : SL P G B W ops os ((d, .s r) :: L) N ds H Q) :
    SL P G B W ops (⟨some d, .binOp o t x y yt, ty, pos, af, none⟩ :: os) L N ds H Q :=
  SL_val (.s r) hd (fun tm σ h1 h2 => by unfold eff; simp only [effBin, h1.ev hx, h1.ev hy, hr]) k
theorem SL_add {t yt : TypeId} {x y : Operand} {a b : Int} (hd : d < N) (hx : evL G L x = some (.s (.int .i64 a))) (hy : evL G L y = some (.s (.int .i64 b))) (h1 : -9223372036854775808 ≤ a + b) (h2 : a + b ≤ 9223372036854775807) (k : SL P G B W ops os ((d, .s (.int .i64 (a + b))) :: L) N ds H Q) :
    SL P G B W ops (⟨some d, .binOp .add t x y yt, ty, pos, af, none⟩ :: os) L N ds H Q :=
  SL_fast hd hx hy (by simp only [fastBin, if_true, IntWalk.i64_in _ ⟨h1, h2⟩]) k
theorem SL_sub {t yt : TypeId} {x y : Operand} {a b : Int} (hd : d < N) (hx : evL G L x = some (.s (.int .i64 a))) (hy : evL G L y = some (.s (.int .i64 b))) (h1 : -9223372036854775808 ≤ a - b) (h2 : a - b ≤ 9223372036854775807) (k : SL P G B W ops os ((d, .s (.int .i64 (a - b))) :: L) N ds H Q) :
    SL P G B W ops (⟨some d, .binOp .sub t x y yt, ty, pos, af, none⟩ :: os) L N ds H Q :=
  SL_fast hd hx hy (by simp only [fastBin, if_true, IntWalk.i64_in _ ⟨h1, h2⟩]) k
theorem SL_mul {t yt : TypeId} {x y : Operand} {a b : Int} (hd : d < N) (hx : evL G L x = some (.s (.int .i64 a))) (hy : evL G L y = some (.s (.int .i64 b))) (h1 : -9223372036854775808 ≤ a * b) (h2 : a * b ≤ 9223372036854775807) (k : SL P G B W ops os ((d, .s (.int .i64 (a * b))) :: L) N ds H Q) :
    SL P G B W ops (⟨some d, .binOp .mul t x y yt, ty, pos, af, none⟩ :: os) L N ds H Q :=
  SL_fast hd hx hy (by simp only [fastBin, if_true, IntWalk.i64_in _ ⟨h1, h2⟩]) k

/-- A test parts the way. -/
theorem SL_test {o : BinOp} {t yt : TypeId} {x y : Operand} {kk : IntKind} {a b : Int} {c : Bool} (hd : d < N) (hx : evL G L x = some (.s (.int kk a))) (hy : evL G L y = some (.s (.int kk b))) (hr : fastBin o (.int kk a) (.int kk b) = some (.bool c))
    (ht : c = true → SL P G B W ops os ((d, .s (.bool true)) :: L) N ds H Q) (hf : c = false → SL P G B W ops os ((d, .s (.bool false)) :: L) N ds H Q) : SL P G B W ops (⟨some d, .binOp o t x y yt, ty, pos, af, none⟩ :: os) L N ds H Q := by
  cases c with
  | true => exact SL_fast hd hx hy hr (ht rfl)
  | false => exact SL_fast hd hx hy hr (hf rfl)
theorem SL_lss {t yt : TypeId} {x y : Operand} {kk : IntKind} {a b : Int} (hd : d < N) (hx : evL G L x = some (.s (.int kk a))) (hy : evL G L y = some (.s (.int kk b))) (ht : a < b → SL P G B W ops os ((d, .s (.bool true)) :: L) N ds H Q) (hf : b ≤ a → SL P G B W ops os ((d, .s (.bool false)) :: L) N ds H Q) :
    SL P G B W ops (⟨some d, .binOp .lss t x y yt, ty, pos, af, none⟩ :: os) L N ds H Q :=
  SL_test (c := decide (a < b)) hd hx hy (by simp only [fastBin, if_true]) (fun h => ht (by simpa using h)) (fun h => hf (by simpa using h))
theorem SL_leq {t yt : TypeId} {x y : Operand} {kk : IntKind} {a b : Int} (hd : d < N) (hx : evL G L x = some (.s (.int kk a))) (hy : evL G L y = some (.s (.int kk b))) (ht : a ≤ b → SL P G B W ops os ((d, .s (.bool true)) :: L) N ds H Q) (hf : b < a → SL P G B W ops os ((d, .s (.bool false)) :: L) N ds H Q) :
    SL P G B W ops (⟨some d, .binOp .leq t x y yt, ty, pos, af, none⟩ :: os) L N ds H Q :=
  SL_test (c := decide (a ≤ b)) hd hx hy (by simp only [fastBin, if_true]) (fun h => ht (by simpa using h)) (fun h => hf (by simpa using h))
theorem SL_gtr {t yt : TypeId} {x y : Operand} {kk : IntKind} {a b : Int} (hd : d < N) (hx : evL G L x = some (.s (.int kk a))) (hy : evL G L y = some (.s (.int kk b))) (ht : b < a → SL P G B W ops os ((d, .s (.bool true)) :: L) N ds H Q) (hf : a ≤ b → SL P G B W ops os ((d, .s (.bool false)) :: L) N ds H Q) :
    SL P G B W ops (⟨some d, .binOp .gtr t x y yt, ty, pos, af, none⟩ :: os) L N ds H Q :=
  SL_test (c := decide (a > b)) hd hx hy (by simp only [fastBin, if_true]) (fun h => ht (by simpa using h)) (fun h => hf (by simpa using h))
theorem SL_geq {t yt : TypeId} {x y : Operand} {kk : IntKind} {a b : Int} (hd : d < N) (hx : evL G L x = some (.s (.int kk a))) (hy : evL G L y = some (.s (.int kk b))) (ht : b ≤ a → SL P G B W ops os ((d, .s (.bool true)) :: L) N ds H Q) (hf : a < b → SL P G B W ops os ((d, .s (.bool false)) :: L) N ds H Q) :
    SL P G B W ops (⟨some d, .binOp .geq t x y yt, ty, pos, af, none⟩ :: os) L N ds H Q :=
  SL_test (c := decide (a ≥ b)) hd hx hy (by simp only [fastBin, if_true]) (fun h => ht (by simpa using h)) (fun h => hf (by simpa using h))
theorem SL_eql {t yt : TypeId} {x y : Operand} {kk : IntKind} {a b : Int} (hd : d < N) (hx : evL G L x = some (.s (.int kk a))) (hy : evL G L y = some (.s (.int kk b))) (ht : a = b → SL P G B W ops os ((d, .s (.bool true)) :: L) N ds H Q) (hf : a ≠ b → SL P G B W ops os ((d, .s (.bool false)) :: L) N ds H Q) :
    SL P G B W ops (⟨some d, .binOp .eql t x y yt, ty, pos, af, none⟩ :: os) L N ds H Q :=
  SL_test (c := a == b) hd hx hy (by simp only [fastBin, if_true]) (fun h => ht (by simpa using h)) (fun h => hf (by simpa using h))
theorem SL_neq {t yt : TypeId} {x y : Operand} {kk : IntKind} {a b : Int} (hd : d < N) (hx : evL G L x = some (.s (.int kk a))) (hy : evL G L y = some (.s (.int kk b))) (ht : a ≠ b → SL P G B W ops os ((d, .s (.bool true)) :: L) N ds H Q) (hf : a = b → SL P G B W ops os ((d, .s (.bool false)) :: L) N ds H Q) :
    SL P G B W ops (⟨some d, .binOp .neq t x y yt, ty, pos, af, none⟩ :: os) L N ds H Q :=
  SL_test (c := a != b) hd hx hy (by simp only [fastBin, if_true]) (fun h => ht (by simpa using h)) (fun h => hf (by simpa using h))

/-- A bool that is not known parts the way. -/
theorem SL_bool {b : Bool} {i : Nat} (hb : lk L i = some (.s (.bool b))) (ht : b = true → SL P G B W ops os ((i, .s (.bool true)) :: L) N ds H Q) (hf : b = false → SL P G B W ops os ((i, .s (.bool false)) :: L) N ds H Q) : SL P G B W ops os L N ds H Q := by
  have key : ∀ {c : Bool}, b = c → (∀ j v, lk ((i, .s (.bool c)) :: L) j = some v → lk L j = some v) := by
    intro c hc j v hv
    unfold lk at hv
    cases he : Nat.beq i j with
    | true =>
      have := Nat.eq_of_beq_eq_true he
      subst this
      rw [he] at hv
      simp only [cond_true] at hv
      rw [hb, hc]; exact hv
    | false => rw [he] at hv; exact hv
  intro tm σ h1 h2
  cases b with
  | true => exact ht rfl tm σ ⟨h1.n, fun j v hj => h1.get j v (key rfl j v hj)⟩ h2
  | false => exact hf rfl tm σ ⟨h1.n, fun j v hj => h1.get j v (key rfl j v hj)⟩ h2

theorem SL_not_op {t : TypeId} {x : Operand} {b : Bool} (hd : d < N) (hx : evL G L x = some (.s (.bool b))) (k : SL P G B W ops os ((d, .s (.bool (!b))) :: L) N ds H Q) :
    SL P G B W ops (⟨some d, .unOp .not t x, ty, pos, af, none⟩ :: os) L N ds H Q :=
  SL_val (.s (.bool (!b))) hd (fun tm σ h1 h2 => by
    unfold eff
    have he : effPure P ⟨some d, .unOp .not t x, ty, pos, af, none⟩ (evT G tm) = some (.s (.bool (!b))) := by
      unfold effPure
      simp only [Op.operands, h1.ev hx, isRef, List.all_cons, List.all_nil, Bool.not_false, Bool.and_self, if_true, execOp, sOf, Option.getD_some]
      rfl
    simp only [he]
    rfl) k
theorem SL_len_rsl {t : TypeId} {x : Operand} {a : Addr} {es cap : Nat} {rows : List (List AV)} {e : TypeId} {ats : Array TypeId} (hd : d < N) (hx : evL G L x = some (.rsl a es cap rows)) (ha : ats[0]? = some t) (ht : P.underlying t = some (.slice e)) (k : SL P G B W ops os ((d, .s (.int .i64 rows.length)) :: L) N ds H Q) :
    SL P G B W ops (⟨some d, .call ⟨.builtin .len, #[x], ats⟩, ty, pos, af, none⟩ :: os) L N ds H Q :=
  SL_val _ hd (fun tm σ h1 h2 => by
    unfold eff
    simp only [effCall, effBuiltin, List.map_cons, List.map_nil, h1.ev hx, effLenOp, isRef, if_true, effLen, ha, Option.bind_some, ht]
    rfl) k
theorem SL_len_sl {t : TypeId} {x : Operand} {o i n : Nat} {cap : Option Nat} {e : TypeId} {ats : Array TypeId} (hd : d < N) (hx : evL G L x = some (.sl o i n cap)) (ha : ats[0]? = some t) (ht : P.underlying t = some (.slice e)) (k : SL P G B W ops os ((d, .s (.int .i64 n)) :: L) N ds H Q) :
    SL P G B W ops (⟨some d, .call ⟨.builtin .len, #[x], ats⟩, ty, pos, af, none⟩ :: os) L N ds H Q :=
  SL_val _ hd (fun tm σ h1 h2 => by
    unfold eff
    simp only [effCall, effBuiltin, List.map_cons, List.map_nil, h1.ev hx, effLenOp, isRef, if_true, effLen, ha, Option.bind_some, ht]
    rfl) k
theorem SL_len_0 {t : TypeId} {x : Operand} {a : Option Addr} {n cap : Nat} {e : TypeId} {ats : Array TypeId} (hd : d < N) (hx : evL G L x = some (.s (.slice a n cap))) (ha : ats[0]? = some t) (ht : P.underlying t = some (.slice e)) (k : SL P G B W ops os ((d, .s (.int .i64 n)) :: L) N ds H Q) :
    SL P G B W ops (⟨some d, .call ⟨.builtin .len, #[x], ats⟩, ty, pos, af, none⟩ :: os) L N ds H Q :=
  SL_val _ hd (fun tm σ h1 h2 => by
    unfold eff
    have he : effPure P ⟨some d, .call ⟨.builtin .len, #[x], ats⟩, ty, pos, af, none⟩ (evT G tm) = some (.s (.int .i64 n)) := by
      unfold effPure
      simp only [Op.operands, Call.operands, h1.ev hx, isRef, List.all_cons, List.all_nil, Bool.not_false, Bool.and_self, List.append_eq, List.nil_append, List.toList_toArray, Array.toList_append, if_true]
      have hl : evalP P (Builtin.len_ ats ty #[.slice a n cap]) = some (.int .i64 n) := by
        unfold Builtin.len_
        rw [ha]
        show evalP P (underlying t >>= _) = _
        rw [evalP_bind, evalP_under t ht]
        rfl
      have hx2 : evalP P (execOp (fun x => (sOf (evT G tm x)).getD undef) ⟨some d, .call ⟨.builtin .len, #[x], ats⟩, ty, pos, af, none⟩) = some (.value (.int .i64 n)) := by
        have e1 : execOp (fun x => (sOf (evT G tm x)).getD undef) ⟨some d, .call ⟨.builtin .len, #[x], ats⟩, ty, pos, af, none⟩ = (do pure (Next.value (← Builtin.len_ ats ty #[(sOf (evT G tm x)).getD undef]))) :=
          builtin_v (o := ⟨some d, .call ⟨.builtin .len, #[x], ats⟩, ty, pos, af, none⟩) (c := ⟨.builtin .len, #[x], ats⟩) rfl rfl (by simp [builtin])
        rw [e1, h1.ev hx]
        simp only [sOf, Option.getD_some]
        rw [evalP_bind, hl]
        rfl
      rw [hx2]
    simp only [effCall, effBuiltin, List.map_cons, List.map_nil, h1.ev hx, effLenOp, isRef, he]
    rfl) k

theorem SL_extract_tup {x : Operand} {l : List AV} {i : Nat} {v : AV} (hd : d < N) (hx : evL G L x = some (.tup l)) (hv : l[i]? = some v) (k : SL P G B W ops os ((d, v) :: L) N ds H Q) : SL P G B W ops (⟨some d, .extract x i, ty, pos, af, none⟩ :: os) L N ds H Q :=
  SL_val v hd (fun tm σ h1 h2 => by unfold eff; simp only [effExtract, h1.ev hx, withSt, hv]; rfl) k
theorem SL_extract_s {x : Operand} {vs : Array Value} {i : Nat} {v : Value} (hd : d < N) (hx : evL G L x = some (.s (.tuple vs))) (hv : vs.toList[i]? = some v) (k : SL P G B W ops os ((d, .s v) :: L) N ds H Q) : SL P G B W ops (⟨some d, .extract x i, ty, pos, af, none⟩ :: os) L N ds H Q :=
  SL_val (.s v) hd (fun tm σ h1 h2 => by unfold eff; simp only [effExtract, h1.ev hx, withSt, hv]; rfl) k
theorem fieldAddr_spec {t : TypeId} {f off : Nat} (h : fldOf P t f = some off) (o i g : Nat) : effFieldAddr P t (.ptr o i g) f = some (.ptr o i (g + off)) := by
  unfold fldOf at h
  unfold effFieldAddr
  split at h
  · rename_i fields hu
    rw [hu]
    simp only
    split at h
    · rename_i fd hf
      rw [hf]
      simp only
      split at h
      · rename_i n hs
        cases h
        rw [hs]
      · cases h
    · cases h
  · cases h
theorem fieldAddr_spec' {t : TypeId} {f off : Nat} (h : fldOf P t f = some off) (a : Addr) (es : Nat) (rows : List (List AV)) (i g : Nat) : effFieldAddr P t (.rptr a es rows i g) f = some (.rptr a es rows i (g + off)) := by
  unfold fldOf at h
  unfold effFieldAddr
  split at h
  · rename_i fields hu
    rw [hu]
    simp only
    split at h
    · rename_i fd hf
      rw [hf]
      simp only
      split at h
      · rename_i n hs
        cases h
        rw [hs]
      · cases h
    · cases h
  · cases h
theorem SL_fieldAddr {t : TypeId} {x : Operand} {f off o i g : Nat} (hd : d < N) (hx : evL G L x = some (.ptr o i g)) (ht : fldOf P t f = some off) (k : SL P G B W ops os ((d, .ptr o i (g + off)) :: L) N ds H Q) : SL P G B W ops (⟨some d, .fieldAddr t x f, ty, pos, af, none⟩ :: os) L N ds H Q :=
  SL_val _ hd (fun tm σ h1 h2 => by unfold eff; simp only [withSt, h1.ev hx, fieldAddr_spec ht]; rfl) k
theorem SL_fieldAddr_r {t : TypeId} {x : Operand} {f off i g es : Nat} {a : Addr} {rows : List (List AV)} (hd : d < N) (hx : evL G L x = some (.rptr a es rows i g)) (ht : fldOf P t f = some off) (k : SL P G B W ops os ((d, .rptr a es rows i (g + off)) :: L) N ds H Q) :
    SL P G B W ops (⟨some d, .fieldAddr t x f, ty, pos, af, none⟩ :: os) L N ds H Q :=
  SL_val _ hd (fun tm σ h1 h2 => by unfold eff; simp only [withSt, h1.ev hx, fieldAddr_spec' ht]; rfl) k
theorem SL_indexAddr_r {t e : TypeId} {x ix : Operand} {a : Addr} {es cap : Nat} {rows : List (List AV)} {kk : IntKind} {n : Int} (hd : d < N) (hx : evL G L x = some (.rsl a es cap rows)) (hi : evL G L ix = some (.s (.int kk n))) (ht : sliceOf P t = some (e, es)) (i : Nat) (hn : n = i) (hlt : i < rows.length)
    (k : SL P G B W ops os ((d, .rptr a es rows i 0) :: L) N ds H Q) : SL P G B W ops (⟨some d, .indexAddr t x ix, ty, pos, af, none⟩ :: os) L N ds H Q :=
  SL_val _ hd (fun tm σ h1 h2 => by
    obtain ⟨hu, hs⟩ := sliceOf_spec ht
    unfold eff
    simp only [effIndexAddr, h1.ev hx, h1.ev hi, hu, hs, withSt]
    subst hn
    rw [if_pos ⟨trivial, by omega, by omega⟩]
    simp) k
theorem SL_indexAddr_o {t e e' : TypeId} {x ix : Operand} {id j len : Nat} {cap : Option Nat} {es : Nat} {ex : Bool} {rows : List (List AV)} {kk : IntKind} {n : Int} (hd : d < N) (hx : evL G L x = some (.sl id j len cap)) (hi : evL G L ix = some (.s (.int kk n))) (hm : (id, AObj.cells e' es ex rows) ∈ H) (ht : sliceOf P t = some (e, es))
    (i : Nat) (hn : n = i) (hlt : i < len) (k : SL P G B W ops os ((d, .ptr id (j + i) 0) :: L) N ds H Q) : SL P G B W ops (⟨some d, .indexAddr t x ix, ty, pos, af, none⟩ :: os) L N ds H Q :=
  SL_val _ hd (fun tm σ h1 h2 => by
    obtain ⟨hu, hs⟩ := sliceOf_spec ht
    unfold eff
    simp only [effIndexAddr, h1.ev hx, h1.ev hi, hu, hs, withSt, h2.get _ hm]
    subst hn
    rw [if_pos ⟨trivial, by omega, by omega⟩]
    simp) k

theorem SL_load_r {t : TypeId} {x : Operand} {a : Addr} {es i f : Nat} {rows : List (List AV)} {row : List AV} {v : AV} (hd : d < N) (hx : evL G L x = some (.rptr a es rows i f)) (ht : rowN P t = some none) (hr : rows[i]? = some row) (hv : row[f]? = some v)
    (k : SL P G B W ops os ((d, v) :: L) N ds H Q) : SL P G B W ops (⟨some d, .load t x, ty, pos, af, none⟩ :: os) L N ds H Q :=
  SL_val v hd (fun tm σ h1 h2 => by unfold eff; simp only [effLoad, h1.ev hx, hr, Option.bind_some, readAt_cell ht, hv, withSt]; rfl) k
theorem SL_load_rr {t : TypeId} {x : Operand} {a : Addr} {es i f n : Nat} {rows : List (List AV)} {row : List AV} {v : AV} (hd : d < N) (hx : evL G L x = some (.rptr a es rows i f)) (ht : rowN P t = some (some n)) (hr : rows[i]? = some row) (hf : f + n ≤ row.length) (hv : mkAgg ((row.drop f).take n) = v)
    (k : SL P G B W ops os ((d, v) :: L) N ds H Q) : SL P G B W ops (⟨some d, .load t x, ty, pos, af, none⟩ :: os) L N ds H Q :=
  SL_val v hd (fun tm σ h1 h2 => by unfold eff; simp only [effLoad, h1.ev hx, hr, Option.bind_some, readAt_row ht row f hf, hv, withSt]; rfl) k
theorem rows_of {σ : AS} {id : Nat} {e : TypeId} {es : Nat} {ex : Bool} {rows : List (List AV)} (h : σ.get id = some (.cells e es ex rows)) : σ.rows id = some rows := by unfold AS.rows; rw [h]
theorem SL_load_o {t e : TypeId} {x : Operand} {id es i f : Nat} {ex : Bool} {rows : List (List AV)} {row : List AV} {v : AV} (hd : d < N) (hx : evL G L x = some (.ptr id i f)) (hm : (id, AObj.cells e es ex rows) ∈ H) (ht : rowN P t = some none) (hr : rows[i]? = some row) (hv : row[f]? = some v)
    (k : SL P G B W ops os ((d, v) :: L) N ds H Q) : SL P G B W ops (⟨some d, .load t x, ty, pos, af, none⟩ :: os) L N ds H Q :=
  SL_val v hd (fun tm σ h1 h2 => by unfold eff; simp only [effLoad, h1.ev hx, rows_of (h2.get _ hm), hr, Option.bind_some, readAt_cell ht, hv, withSt]; rfl) k
theorem SL_load_or {t e : TypeId} {x : Operand} {id es i f n : Nat} {ex : Bool} {rows : List (List AV)} {row : List AV} {v : AV} (hd : d < N) (hx : evL G L x = some (.ptr id i f)) (hm : (id, AObj.cells e es ex rows) ∈ H) (ht : rowN P t = some (some n)) (hr : rows[i]? = some row) (hf : f + n ≤ row.length)
    (hv : mkAgg ((row.drop f).take n) = v) (k : SL P G B W ops os ((d, v) :: L) N ds H Q) : SL P G B W ops (⟨some d, .load t x, ty, pos, af, none⟩ :: os) L N ds H Q :=
  SL_val v hd (fun tm σ h1 h2 => by unfold eff; simp only [effLoad, h1.ev hx, rows_of (h2.get _ hm), hr, Option.bind_some, readAt_row ht row f hf, hv, withSt]; rfl) k

/-- A store. -/
theorem SL_store {dst : Option Tmp} {t e : TypeId} {x y : Operand} {id es i f : Nat} {ex : Bool} {rows : List (List AV)} {row cs : List AV} {v : AV} {H' : List (Nat × AObj)} (hd : dst = none) (hx : evL G L x = some (.ptr id i f)) (hy : evL G L y = some v) (hu : Upd H id (.cells e es ex rows) (.cells e es ex (rows.set i (writeRow row f cs))) H')
    (hw : B.next ≤ id ∨ id ∈ W) (hr : rows[i]? = some row) (hc : cellsOf v = cs) (hs : sz P t = some cs.length) (hf : f + cs.length ≤ row.length) (h1c : cs.all isCell = true) (k : SL P G B W ops os L N ds H' Q) :
    SL P G B W ops (⟨dst, .store t x y, ty, pos, af, none⟩ :: os) L N ds H Q := fun tm σ h1 h2 => by
  refine wpl_op rfl ?_
  have he : eff P ⟨dst, .store t x y, ty, pos, af, none⟩ (evT G tm) σ = some (.val uv, σ.set id (.cells e es ex (rows.set i (writeRow row f cs)))) := by
    unfold eff
    simp only [effStore, h1.ev hx, h1.ev hy, h2.get _ hu.mem, hr, hc]
    rw [if_pos (by simp [hs, hf, h1c])]
    rfl
  rw [he]
  subst hd
  exact wpn_val (k _ _ h1 (h2.set hu hw))

/-- A new object. -/
theorem SL_new {op : Op} (o : AObj) (v : Nat → AV) (hd : d < N) (he : ∀ tm σ, En tm N L → He B W σ H ds → eff P ⟨some d, op, ty, pos, af, none⟩ (evT G tm) σ = some (.val (v σ.newId), σ.push o)) (k : ∀ id, B.next ≤ id → SL P G B W ops os ((d, v id) :: L) N ds ((id, o) :: H) Q) :
    SL P G B W ops (⟨some d, op, ty, pos, af, none⟩ :: os) L N ds H Q := fun tm σ h1 h2 => by
  refine wpl_op rfl ?_
  rw [he tm σ h1 h2]
  refine wpn_val (k σ.newId ?_ _ _ (h1.set hd _) (h2.push o))
  rw [AS.newId_none h2.slot]; exact h2.le
theorem SL_alloc {t : TypeId} {cs : List AV} (hd : d < N) (ht : zeroOf P t = some cs) (k : ∀ id, B.next ≤ id → SL P G B W ops os ((d, .ptr id 0 0) :: L) N ds ((id, .cells t cs.length true [cs]) :: H) Q) : SL P G B W ops (⟨some d, .alloc t, ty, pos, af, none⟩ :: os) L N ds H Q :=
  SL_new _ (fun id => .ptr id 0 0) hd (fun tm σ h1 h2 => by
    unfold zeroOf at ht
    simp only [Option.map_eq_some_iff] at ht
    obtain ⟨z, hz, rfl⟩ := ht
    unfold eff
    simp only [effAlloc, hz, Option.map_some, effBox]) k
theorem SL_box {t : TypeId} {x : Operand} {v : AV} {cs : List AV} (hd : d < N) (hx : evL G L x = some v) (hc : cellsOf v = cs) (k : ∀ id, B.next ≤ id → SL P G B W ops os ((d, .ptr id 0 0) :: L) N ds ((id, .cells t cs.length true [cs]) :: H) Q) :
    SL P G B W ops (⟨some d, .box t x, ty, pos, af, none⟩ :: os) L N ds H Q :=
  SL_new _ (fun id => .ptr id 0 0) hd (fun tm σ h1 h2 => by
    unfold eff
    simp only [effBox, h1.ev hx, hc]) k
theorem SL_makeSlice {t e : TypeId} {l c : Operand} {es b : Nat} {z : List AV} {kk kk' : IntKind} {n m : Int} (hd : d < N) (hl : evL G L l = some (.s (.int kk n))) (hc : evL G L c = some (.s (.int kk' m))) (ht : elOf P t = some (e, es, b, z)) (h0 : 0 ≤ n) (hnm : n ≤ m) (hm : m < 2 ^ 47) (hb : b * m ≤ 2 ^ 48)
    (k : ∀ id, B.next ≤ id → SL P G B W ops os ((d, .sl id 0 n.toNat none) :: L) N ds ((id, .cells e es true (List.replicate m.toNat z)) :: H) Q) : SL P G B W ops (⟨some d, .makeSlice t l c, ty, pos, af, none⟩ :: os) L N ds H Q :=
  SL_new _ (fun id => .sl id 0 n.toNat none) hd (fun tm σ h1 h2 => by
    obtain ⟨hu, hs, info, zv, hi, hz, hsz, hn, hbb, hzz⟩ := elOf_spec ht
    unfold eff
    simp only [effMakeSlice, h1.ev hl, h1.ev hc, hu, hi, hz]
    rw [if_pos ⟨hsz, h0, hnm, hm, by rw [hbb]; exact hb⟩, hn, hzz]) k

/-- A call of a function by its contract: nothing old turns. -/
def FnC (P : Program) (G : Gl) (f : FuncId) (as : List AV) (H : List (Nat × AObj)) (R : AV → List (Nat × AObj) → Prop) : Prop :=
  ∀ σ, He σ [] σ H [] → wpf P G f as σ fun v σ' => ∃ Hn, He σ [] σ' Hn [] ∧ (∀ p ∈ Hn, σ.next ≤ p.1) ∧ R v Hn
theorem FnC.mono {f : FuncId} {as : List AV} {H' : List (Nat × AObj)} {R R' : AV → List (Nat × AObj) → Prop} (h : FnC P G f as H' R) (hr : ∀ v Hn, R v Hn → R' v Hn) : FnC P G f as H' R' := fun σ hs => wpf_mono (h σ hs) fun v σ' ⟨Hn, h1, h2, h3⟩ => ⟨Hn, h1, h2, hr v Hn h3⟩
theorem SL_call {f : Operand} {xs : List Operand} {ats : Array TypeId} {g : FuncId} {first cap : Array Value} {vs as : List AV} {R : AV → List (Nat × AObj) → Prop} {H0 : List (Nat × AObj)} (hd : d < N) (hf : evL G L f = some (.s (.func (.func g) first cap))) (hb : (P.funcs[g]?).map (·.body.isNone) = some false) (hx : evsL G L xs = some vs)
    (has : first.toList.map .s ++ vs ++ cap.toList.map .s = as) (hc : FnC P G g as H0 R) (hs : SubH H0 H) (hn : (H0.map (·.1)).Nodup) (k : ∀ v Hn, (∀ p ∈ Hn, B.next ≤ p.1) → R v Hn → SL P G B W ops os ((d, v) :: L) N ds (Hn ++ H) Q) :
    SL P G B W ops (⟨some d, .call ⟨.value f, xs.toArray, ats⟩, ty, pos, af, none⟩ :: os) L N ds H Q := fun tm σ h1 h2 => by
  refine wpl_op rfl ?_
  have he : eff P ⟨some d, .call ⟨.value f, xs.toArray, ats⟩, ty, pos, af, none⟩ (evT G tm) σ = some (.enter g as, σ) := by
    unfold eff
    have hbl : bodyless P (.s (.func (.func g) first cap)) = false := by
      cases hp : P.funcs[g]? with
      | none => simp only [bodyless, hp]
      | some fn => rw [hp] at hb; simp at hb; simp [bodyless, hp, hb]
    simp only [effCall, h1.ev hf, hbl, Bool.false_eq_true, if_false, h1.evs hx, target, Option.map_some, has]
  rw [he]
  refine wpn_enter (wpf_mono (hc σ (h2.here.sub hs hn)) fun v σ' ⟨Hn, h3, h4, h5⟩ => ?_)
  exact k v Hn (fun p hp => Nat.le_trans h2.le (h4 p hp)) h5 _ _ (h1.set hd v) (h2.trans h3 h4)
end rules

/-! ### Functions -/
theorem fill_get : ∀ (as : List AV) (tm : Tm) (i : Nat), i + as.length ≤ tm.n → (Tm.fill tm i as).n = tm.n ∧ ∀ j, (Tm.fill tm i as).get j = if i ≤ j then (match as[j - i]? with | some v => v | none => tm.get j) else tm.get j
  | [], tm, i, h => ⟨rfl, fun j => by simp [Tm.fill]⟩
  | a :: as, tm, i, h => by
    simp only [List.length_cons] at h
    obtain ⟨h1, h2⟩ := fill_get as (tm.set i a) (i + 1) (by rw [Tm.n_set]; omega)
    refine ⟨by rw [Tm.fill, h1, Tm.n_set], fun j => ?_⟩
    rw [Tm.fill, h2, Tm.get_set]
    by_cases hj : i + 1 ≤ j
    · have e : j - i = (j - (i + 1)) + 1 := by omega
      have hi : i ≤ j := by omega
      have hne : ¬ (i = j ∧ i < tm.n) := by omega
      simp only [if_pos hj, if_pos hi, if_neg hne]
      rw [e, List.getElem?_cons_succ]
    · simp only [if_neg hj]
      by_cases hij : i = j
      · subst hij
        have hc : i = i ∧ i < tm.n := ⟨rfl, by omega⟩
        rw [if_pos hc, if_pos (Nat.le_refl i), Nat.sub_self]
        rfl
      · have hne : ¬ (i = j ∧ i < tm.n) := fun e => hij e.1
        have hle : ¬ i ≤ j := by omega
        simp only [if_neg hne, if_neg hle]
def argsL : List AV → Nat → List (Nat × AV)
  | [], _ => []
  | a :: r, i => (i, a) :: argsL r (i + 1)
theorem argsL_lk : ∀ (as : List AV) (i j : Nat) (v : AV), lk (argsL as i) j = some v → i ≤ j ∧ as[j - i]? = some v
  | [], i, j, v, h => by cases h
  | a :: as, i, j, v, h => by
    unfold argsL lk at h
    cases hb : Nat.beq i j with
    | true =>
      rw [hb] at h
      cases h
      have := Nat.eq_of_beq_eq_true hb
      subst this
      simp
    | false =>
      rw [hb] at h
      obtain ⟨h1, h2⟩ := argsL_lk as (i + 1) j v h
      refine ⟨by omega, ?_⟩
      have e : j - i = (j - (i + 1)) + 1 := by omega
      rw [e]
      simpa using h2
theorem En.args (as : List AV) (n : Nat) : En (Tm.fill ⟨max as.length n, .e⟩ 0 as) (max as.length n) (argsL as 0) := by
  obtain ⟨h1, h2⟩ := fill_get as ⟨max as.length n, .e⟩ 0 (by simp; omega)
  refine ⟨h1, fun j v hj => ?_⟩
  obtain ⟨_, h3⟩ := argsL_lk as 0 j v hj
  rw [h2, if_pos (Nat.zero_le _)]
  rw [h3]
def resL (L : List (Nat × AV)) : List ResultVar → Option (List AV)
  | [] => some []
  | .tmp t :: r => match lk L t, resL L r with
    | some v, some vs => some (v :: vs)
    | _, _ => none
  | _ :: _ => none
theorem En.res {tm : Tm} {N : Nat} {L : List (Nat × AV)} (h : En tm N L) (σ : AS) : ∀ {rs : List ResultVar} {vs : List AV}, resL L rs = some vs → aresultL P tm σ rs = some vs
  | [], vs, hx => by cases hx; rfl
  | .cell a t :: r, vs, hx => by cases hx
  | .tmp t :: r, vs, hx => by
    unfold resL at hx
    split at hx
    · rename_i v us hv hus
      cases hx
      simp only [aresultL, aresult, h.get _ _ hv, h.res σ hus]
    · cases hx
/-- What a body must come to. -/
def Post (P : Program) (B : AS) (fn : Func) (R : AV → List (Nat × AObj) → Prop) (e : AEx) (s : Cfg) : Prop :=
  (e = .normal ∨ e = .ret) ∧ ∃ σ' v, dropDefs s.st s.defs = some σ' ∧ aresults P fn s.tmps σ' = some v ∧ ∃ Hn, He B [] σ' Hn [] ∧ (∀ p ∈ Hn, B.next ≤ p.1) ∧ R v Hn
theorem He.drop {B : AS} {W : List Nat} : ∀ {ds : List Nat} {σ : AS} {H : List (Nat × AObj)}, He B W σ H ds → ∃ σ', dropDefs σ ds = some σ' ∧ He B W σ' H []
  | [], σ, H, h => ⟨σ, rfl, h⟩
  | d :: ds, σ, H, h => by
    have hg := h.dget d (by simp)
    have hlt := AS.lt_of_get hg
    have hdn := h.dnodup
    rw [List.nodup_cons] at hdn
    have h' : He B W (σ.set d .dead) H ds := by
      have hobj : (σ.set d .dead).objs = putObj σ.objs d .dead := rfl
      refine ⟨h.slot, fun j hj => ?_, h.le, h.nodup, fun p hp => ?_, fun j hj hjw => ?_, fun x hx => h.dle x (List.mem_cons_of_mem _ hx), fun x hx => ?_, hdn.2, fun x hx => h.dH x (List.mem_cons_of_mem _ hx)⟩
      · rw [AS.next_set] at hj
        rw [hobj, putObj_get, if_neg (by omega)]
        exact h.fresh j hj
      · have hne : ¬ d = p.1 := fun e => h.dH d (by simp) (List.mem_map.2 ⟨p, hp, e.symm⟩)
        rw [AS.get_set, if_pos (h.lt hp), if_neg hne]
        exact h.get p hp
      · have := h.dle d (by simp)
        rw [hobj, putObj_get, if_neg (by omega)]
        exact h.keep j hj hjw
      · have hne : ¬ d = x := fun e => hdn.1 (e ▸ hx)
        have hgx := h.dget x (List.mem_cons_of_mem _ hx)
        rw [AS.get_set, if_pos (AS.lt_of_get hgx), if_neg hne]
        exact hgx
    obtain ⟨σ', h1, h2⟩ := h'.drop
    exact ⟨σ', by simp only [dropDefs, hg]; exact h1, h2⟩
theorem Post.intro {B : AS} {fn : Func} {R : AV → List (Nat × AObj) → Prop} {e : AEx} {tm : Tm} {N : Nat} {L : List (Nat × AV)} {σ : AS} {H Hn : List (Nat × AObj)} {ds : List Nat} {vs : List AV} (he : e = .normal ∨ e = .ret) (h1 : En tm N L) (h2 : He B [] σ H ds) (hr : resL L fn.results.toList = some vs)
    (hs : SubH Hn H) (hn : (Hn.map (·.1)).Nodup) (hB : ∀ p ∈ Hn, B.next ≤ p.1) (hR : R (tupled vs) Hn) : Post P B fn R e ⟨tm, ds, σ⟩ := by
  obtain ⟨σ', h3, h4⟩ := h2.drop
  exact ⟨he, σ', tupled vs, h3, by unfold aresults; rw [h1.res σ' hr]; rfl, Hn, h4.sub hs hn, hB, hR⟩
theorem Fn_body {f : FuncId} {as : List AV} {fn : Func} {c : Code} {H : List (Nat × AObj)} {R : AV → List (Nat × AObj) → Prop} (ho : G.orc f as = none) (hf : P.funcs[f]? = some fn) (hb : fn.body = some c) {N : Nat} (hN : max as.length fn.ntmps = N)
    (h : ∀ B, SC P G B [] none c (argsL as 0) N [] H (Post P B fn R)) : FnC P G f as H R := fun σ hs => by
  refine wpf_body ho hf hb ?_
  rw [hN]
  refine wpc_mono (h σ _ σ (hN ▸ En.args as fn.ntmps) hs) fun e s ⟨h1, σ', v, h2, h3, Hn, h4, h5, h6⟩ => ?_
  exact ⟨h1, σ', v, h2, h3, Hn, h4, h5, h6⟩
theorem Fn_orc {f : FuncId} {as : List AV} {v : AV} {H : List (Nat × AObj)} {R : AV → List (Nat × AObj) → Prop} (ho : G.orc f as = some (fun σ => some (v, σ))) (hR : R v []) : FnC P G f as H R := fun σ hs =>
  wpf_orc ho rfl ⟨[], hs.sub trivial List.nodup_nil, (fun p hp => by cases hp), hR⟩
end Go.Ab
