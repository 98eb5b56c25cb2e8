/- Symbolic steps: slices that came in, seen as lists. -/
import Derived.Test.YtldckcopeiginaaAbSb
namespace Go.Ab
variable {P : Program} {G : Gl}

/-- A slice that is only read, or an empty one. -/
inductive SlV (es : Nat) : AV → List (List AV) → Prop
  | nil {a : Option Addr} {cap : Nat} : SlV es (.s (.slice a 0 cap)) []
  | rsl {a : Addr} {cap : Nat} {rows : List (List AV)} (h : 0 < rows.length) : SlV es (.rsl a es cap rows) rows

section rules
variable {B : AS} {W : List Nat} {ops : Array Oper} {os : List Oper} {L : List (Nat × AV)} {N : Nat} {ds : List Nat} {H : List (Nat × AObj)} {Q : Cfg → Prop} {ty : TypeId} {pos : String} {af : Array Edge} {d : Nat}
theorem SL_len_v {t e : TypeId} {x : Operand} {es n : Nat} {a : AV} {rows : List (List AV)} {ats : Array TypeId} (hd : d < N) (hx : evL G L x = some a) (hv : SlV es a rows) (ha : ats[0]? = some t) (ht : sliceOf P t = some (e, es)) (hn : rows.length = n) (k : SL P G B W ops os ((d, .s (.int .i64 n)) :: L) N ds H Q) :
    SL P G B W ops (⟨some d, .call ⟨.builtin .len, #[x], ats⟩, ty, pos, af, none⟩ :: os) L N ds H Q := by
  subst hn
  cases hv with
  | nil => exact SL_len_0 hd hx ha (sliceOf_spec ht).1 k
  | rsl h => exact SL_len_rsl hd hx ha (sliceOf_spec ht).1 k
theorem SL_indexAddr_v {t e : TypeId} {x ix : Operand} {a : AV} {es : Nat} {rows : List (List AV)} {kk : IntKind} {n : Int} (hd : d < N) (hx : evL G L x = some a) (hi : evL G L ix = some (.s (.int kk n))) (hv : SlV es a rows) (ht : sliceOf P t = some (e, es)) (i : Nat) (hn : n = i) (hlt : i < rows.length)
    (k : ∀ ad, SL P G B W ops os ((d, .rptr ad es rows i 0) :: L) N ds H Q) : SL P G B W ops (⟨some d, .indexAddr t x ix, ty, pos, af, none⟩ :: os) L N ds H Q := by
  cases hv with
  | nil => cases hlt
  | rsl h => exact SL_indexAddr_r hd hx hi ht i hn hlt (k _)
end rules


end Go.Ab
