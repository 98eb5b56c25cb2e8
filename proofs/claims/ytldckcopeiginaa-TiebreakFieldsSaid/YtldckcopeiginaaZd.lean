/- Symbolic steps: calls that turn some objects and read others. -/
import Derived.Test.YtldckcopeiginaaZc
import Derived.LoopNIn
import Derived.Maps.RangeRun
import Derived.Below
import Derived.WideShapes
import Derived.OpenShut
import Derived.Handed
namespace Go.Ab
variable {P : Program} {G : Gl}
section rules
variable {B : AS} {W : List Nat} {ops : Array Oper} {os : List Oper} {L : List (Nat × AV)} {N : Nat} {ds : List Nat} {H : List (Nat × AObj)} {Q : Cfg → Prop} {ty : TypeId} {pos : String} {af : Array Edge} {d : Nat}
theorem SL_callW2 {f : Operand} {xs : List Operand} {ats : Array TypeId} {g : FuncId} {fv : AV} {vs args : List AV} {M : List Nat} {R : AV → List (Nat × AObj) → Prop} {H0 Hr Hx : List (Nat × AObj)} (hd : d < N) (hf : evL G L f = some fv) (hb : bodyless P fv = false) (hx : evsL G L xs = some vs) (ht : target fv vs = some (.enter g args))
    (hc : FnW P G g args M (H0 ++ Hx) R) (hxr : ∀ p ∈ Hx, p ∈ Hr) (hxn : (Hx.map (·.1)).Nodup) (hM : ∀ id ∈ M, (B.next ≤ id ∨ id ∈ W) ∧ id ∈ H0.map (·.1)) (k : ∀ v Hn, (∀ p ∈ Hn, B.next ≤ p.1 ∨ p.1 ∈ W) → R v Hn → SL P G B W ops os ((d, v) :: L) N ds (Hn ++ Hr) Q) :
    SL P G B W ops (⟨some d, .call ⟨.value f, xs.toArray, ats⟩, ty, pos, af, none⟩ :: os) L N ds (H0 ++ Hr) Q := by
  refine SL_perm (List.perm_append_comm) (SL_nd fun hnd => ?_)
  have hap := keys_apart hnd (fun id hid => (hM id hid).2)
  rw [List.map_append, List.nodup_append] at hnd
  have hnx := nodup_with hnd.1 hnd.2.1 hnd.2.2 hxr hxn
  intro tm σ h1 h2
  refine wpl_op rfl ?_
  rw [He.calls h1 hf hb ht hx]
  refine wpn_enter (wpf_mono (hc σ (h2.startW (.of_mem fun p hp => (List.mem_append.1 hp).elim (fun h => List.mem_append_right _ h) (fun h => List.mem_append_left _ (hxr p h))) hnx)) fun v σ' ⟨Hn, h3, h4, h5⟩ => ?_)
  have h6 := h2.transW h3 (fun id hid => ⟨(hM id hid).1, by rw [List.map_append]; exact List.mem_append_right _ (hM id hid).2⟩) h4 (Hr := Hr) (.of_mem fun p hp => List.mem_append_left _ hp) hnd.1 hap
  refine k v Hn (fun p hp => ?_) h5 _ _ (h1.set hd v) h6
  rcases h4 p hp with h7 | h7
  · exact (hM _ h7).1
  · exact .inl (Nat.le_trans h2.le h7)
theorem SL_nilCheck {x : Operand} {o i f : Nat} (hd : d < N) (hx : evL G L x = some (.ptr o i f)) (k : SL P G B W ops os ((d, .ptr o i f) :: L) N ds H Q) : SL P G B W ops (⟨some d, .nilCheck x, ty, pos, af, none⟩ :: os) L N ds H Q :=
  SL_val _ hd (fun tm σ h1 h2 => by unfold eff; simp only [h1.ev hx, effNil]) k
theorem SL_quo {t yt : TypeId} {x y : Operand} {a b : Int} (hd : d < N) (hx : evL G L x = some (.s (.int .i64 a))) (hy : evL G L y = some (.s (.int .i64 b))) (h0 : 0 ≤ a) (h1 : a ≤ 9223372036854775807) (hb : 1 ≤ b) (k : SL P G B W ops os ((d, .s (.int .i64 (a / b))) :: L) N ds H Q) :
    SL P G B W ops (⟨some d, .binOp .quo t x y yt, ty, pos, af, none⟩ :: os) L N ds H Q :=
  SL_bin hd hx hy rfl (by
    show evalP P (Op.intDiv .quo .i64 a b) = _
    unfold Op.intDiv
    rw [if_neg (by omega)]
    show some (Value.int .i64 (IntKind.i64.wrap (a.tdiv b))) = _
    rw [IntWalk.i64_quo a b ⟨h0, h1, hb⟩]) k
theorem SL_rem {t yt : TypeId} {x y : Operand} {kk : IntKind} {a b : Int} (hd : d < N) (hx : evL G L x = some (.s (.int kk a))) (hy : evL G L y = some (.s (.int kk b))) (h0 : 0 ≤ a) (hb : 1 ≤ b) (k : SL P G B W ops os ((d, .s (.int kk (a % b))) :: L) N ds H Q) :
    SL P G B W ops (⟨some d, .binOp .rem t x y yt, ty, pos, af, none⟩ :: os) L N ds H Q :=
  SL_bin hd hx hy (by simp [fastBin]) (by
    show evalP P (if kk ≠ kk then _ else Op.intDiv .rem kk a b) = _
    rw [if_neg (by simp)]
    unfold Op.intDiv
    rw [if_neg (by omega)]
    show some (Value.int kk (a.tmod b)) = _
    rw [Int.tmod_eq_emod_of_nonneg h0]) k
theorem SL_subu {t yt : TypeId} {x y : Operand} {a b : Int} (hd : d < N) (hx : evL G L x = some (.s (.int .u64 a))) (hy : evL G L y = some (.s (.int .u64 b))) (h1 : 0 ≤ a - b) (h2 : a - b ≤ 18446744073709551615) (k : SL P G B W ops os ((d, .s (.int .u64 (a - b))) :: L) N ds H Q) :
    SL P G B W ops (⟨some d, .binOp .sub t x y yt, ty, pos, af, none⟩ :: os) L N ds H Q :=
  SL_fast hd hx hy (by simp only [fastBin, if_true, IntWalk.u64_in _ ⟨h1, h2⟩]) k
theorem SL_xorE {t yt : TypeId} {x y : Operand} {kk : IntKind} {a b : Int} (hd : d < N) (hx : evL G L x = some (.s (.int kk a))) (hy : evL G L y = some (.s (.int kk b))) (k : ∀ z : Int, SL P G B W ops os ((d, .s (.int kk z)) :: L) N ds H Q) :
    SL P G B W ops (⟨some d, .binOp .xor t x y yt, ty, pos, af, none⟩ :: os) L N ds H Q :=
  SL_bin hd hx hy (by simp [fastBin]) (by
    show evalP P (if kk ≠ kk then _ else Op.intBits .xor kk a b) = _
    rw [if_neg (by simp)]; rfl) (k _)
theorem SL_shlE {t yt : TypeId} {x y : Operand} {kk yk : IntKind} {a b : Int} (hd : d < N) (hx : evL G L x = some (.s (.int kk a))) (hy : evL G L y = some (.s (.int yk b))) (hb : 0 ≤ b) (k : SL P G B W ops os ((d, .s (.int kk (kk.wrap (a * 2 ^ (min b.toNat kk.bits))))) :: L) N ds H Q) :
    SL P G B W ops (⟨some d, .binOp .shl t x y yt, ty, pos, af, none⟩ :: os) L N ds H Q :=
  SL_bin hd hx hy (by unfold fastBin; simp) (by
    show evalP P (Op.shift .shl kk a yk b) = _
    unfold Op.shift
    rw [if_neg (by omega)]; rfl) k
theorem SL_shrE {t yt : TypeId} {x y : Operand} {kk yk : IntKind} {a b : Int} (hd : d < N) (hx : evL G L x = some (.s (.int kk a))) (hy : evL G L y = some (.s (.int yk b))) (hb : 0 ≤ b) (k : SL P G B W ops os ((d, .s (.int kk (a.fdiv (2 ^ (min b.toNat kk.bits))))) :: L) N ds H Q) :
    SL P G B W ops (⟨some d, .binOp .shr t x y yt, ty, pos, af, none⟩ :: os) L N ds H Q :=
  SL_bin hd hx hy (by unfold fastBin; simp) (by
    show evalP P (Op.shift .shr kk a yk b) = _
    unfold Op.shift
    rw [if_neg (by omega)]; rfl) k
theorem SL_andLe {t yt : TypeId} {x y : Operand} {a b : Int} (hd : d < N) (hx : evL G L x = some (.s (.int .u64 a))) (hy : evL G L y = some (.s (.int .u64 b))) (hb : 0 ≤ b) (hb2 : b < 2 ^ 64) (k : ∀ z : Nat, (z : Int) ≤ b → SL P G B W ops os ((d, .s (.int .u64 z)) :: L) N ds H Q) :
    SL P G B W ops (⟨some d, .binOp .and t x y yt, ty, pos, af, none⟩ :: os) L N ds H Q := by
  have hw : IntKind.u64.wrap ((BitVec.ofInt IntKind.u64.bits a &&& BitVec.ofInt IntKind.u64.bits b).toNat : Int) = ((BitVec.ofInt IntKind.u64.bits a &&& BitVec.ofInt IntKind.u64.bits b).toNat : Int) := IntWalk.u64_in _ ⟨by omega, by
    have := (BitVec.ofInt IntKind.u64.bits a &&& BitVec.ofInt IntKind.u64.bits b).isLt
    have e : IntKind.u64.bits = 64 := rfl
    rw [e] at this ⊢
    omega⟩
  refine SL_bin (r := .int .u64 ((BitVec.ofInt IntKind.u64.bits a &&& BitVec.ofInt IntKind.u64.bits b).toNat : Int)) hd hx hy (by simp [fastBin]) (by
    show evalP P (Op.intBits .and .u64 a b) = _
    show some (Value.int .u64 (IntKind.u64.wrap _)) = _
    rw [hw]) (k _ ?_)
  rw [BitVec.toNat_and]
  have h1 : (BitVec.ofInt IntKind.u64.bits b).toNat = b.toNat := by
    have e : IntKind.u64.bits = 64 := rfl
    rw [e, BitVec.toNat_ofInt]
    omega
  have h2 := Nat.and_le_right (n := (BitVec.ofInt IntKind.u64.bits a).toNat) (m := (BitVec.ofInt IntKind.u64.bits b).toNat)
  omega
structure Cmp (P : Program) (G : Gl) (cv : AV) (Hx : List (Nat × AObj)) (S : Int → Prop) (lt : Int → Int → Prop) : Prop where
  body : bodyless P cv = false
  call : ∀ x y, S x → S y → ∃ g gas, target cv [.s (.int .i64 x), .s (.int .i64 y)] = some (.enter g gas) ∧ FnC P G g gas Hx (fun v Hn => (∃ c : Int, v = .s (.int .i64 c) ∧ (c < 0 ↔ lt x y)) ∧ Hn = [])
  irr : ∀ x, S x → ¬ lt x x
  tr : ∀ x y z, S x → S y → S z → lt x y → lt y z → lt x z
  tot : ∀ x y, S x → S y → x ≠ y → lt x y ∨ lt y x
theorem SL_cmp {cv : AV} {Hx : List (Nat × AObj)} {S : Int → Prop} {lt : Int → Int → Prop} {f a b : Operand} {ats : Array TypeId} {x y : Int} (hcmp : Cmp P G cv Hx S lt) (hd : d < N) (hf : evL G L f = some cv) (ha : evL G L a = some (.s (.int .i64 x))) (hb : evL G L b = some (.s (.int .i64 y))) (sx : S x) (sy : S y)
    (hs : SubH Hx H) (hn : (Hx.map (·.1)).Nodup) (k1 : ∀ c : Int, c < 0 → lt x y → SL P G B W ops os ((d, .s (.int .i64 c)) :: L) N ds H Q) (k2 : ∀ c : Int, 0 ≤ c → ¬ lt x y → SL P G B W ops os ((d, .s (.int .i64 c)) :: L) N ds H Q) :
    SL P G B W ops (⟨some d, .call ⟨.value f, #[a, b], ats⟩, ty, pos, af, none⟩ :: os) L N ds H Q := by
  obtain ⟨g, gas, ht, hc⟩ := hcmp.call x y sx sy
  refine SL_callv (xs := [a, b]) hd hf hcmp.body (by unfold evsL; rw [ha]; unfold evsL; rw [hb]; rfl) ht hc hs hn ?_
  rintro v Hn _ ⟨⟨c, rfl, hlt⟩, rfl⟩
  rw [List.nil_append]
  by_cases h : lt x y
  · exact k1 c (hlt.2 h) h
  · exact k2 c (Int.not_lt.1 fun h' => h (hlt.1 h')) h
end rules
theorem SC_seq_cut {B : AS} {W : List Nat} {rd : Option Nat} {L : List (Nat × AV)} {N : Nat} {ds : List Nat} {H : List (Nat × AObj)} {Q : AEx → Cfg → Prop} {a b : Code} {α : Type} (Lf : α → List (Nat × AV)) (Hf : α → List (Nat × AObj)) (dsf : α → List Nat) (Inv : α → Prop)
    (h1 : SC P G B W rd a L N ds H (Nxt (fun s => ∃ x, Inv x ∧ St B W s (Lf x) N (dsf x) (Hf x)) Q)) (h2 : ∀ x, Inv x → SC P G B W rd b (Lf x) N (dsf x) (Hf x) Q) : SC P G B W rd (.seq a b) L N ds H Q :=
  SC_seq fun tm σ hE hH => wpc_mono (h1 tm σ hE hH) fun e s hs => by
    cases e with
    | normal =>
      obtain ⟨x, hi, tm', σ', rfl, h3, h4⟩ := hs
      exact h2 x hi tm' σ' h3 h4
    | exit _ => exact hs
    | ret => exact hs
theorem SC_loop_cut {B : AS} {W : List Nat} {rd : Option Nat} {L : List (Nat × AV)} {N : Nat} {H : List (Nat × AObj)} {Q : AEx → Cfg → Prop} {id : Nat} {b : Code} {α β : Type} (Lf : α → List (Nat × AV)) (Hf : α → List (Nat × AObj)) (Inv : α → Prop) (μ : α → Nat) (Lo : β → List (Nat × AV)) (Ho : β → List (Nat × AObj)) (Out : β → Prop) (a0 : α) (hI : Inv a0) (hL : Sub (Lf a0) L) (hH : SubH (Hf a0) H) (hn : ((Hf a0).map (·.1)).Nodup)
    (step : ∀ a, Inv a → SC P G B W rd b (Lf a) N [] (Hf a) (Nxt (fun s => ∃ a', μ a' < μ a ∧ Inv a' ∧ St B W s (Lf a') N [] (Hf a')) (fun e s => e = .exit id ∧ ∃ x, Out x ∧ St B W s (Lo x) N [] (Ho x))))
    (out : ∀ x, Out x → ∀ tm σ, En tm N (Lo x) → He B W σ (Ho x) [] → Q .normal ⟨tm, [], σ⟩) : SC P G B W rd (.loop b) L N [] H (InB id Q) := by
  refine SC_loop Lf Hf (fun _ => []) Inv μ a0 hI hL hH hn rfl fun a ha tm σ hE hHe => wpc_mono (step a ha tm σ hE hHe) fun e s hs => ?_
  cases e with
  | normal => exact hs
  | ret => exact absurd hs.1 (by simp)
  | exit id' =>
    obtain ⟨h1, x, hx, tm', σ', rfl, h3, h4⟩ := hs
    cases h1
    show (if id = id then _ else _)
    rw [if_pos rfl]
    exact out x hx tm' σ' h3 h4
theorem FnW.monoW {f : FuncId} {xs : List AV} {M : List Nat} {H : List (Nat × AObj)} {R R' : AV → List (Nat × AObj) → Prop} (h : FnW P G f xs M H R) (hr : ∀ v Hn, R v Hn → R' v Hn) : FnW P G f xs M H R' := fun σ hs => wpf_mono (h σ hs) fun v _σ' ⟨Hn, h1, h2, h3⟩ => ⟨Hn, h1, h2, hr v Hn h3⟩
theorem FnC.on {f : FuncId} {xs : List AV} {H0 H : List (Nat × AObj)} {R : AV → List (Nat × AObj) → Prop} (h : FnC P G f xs H0 R) (hs : H0.Sublist H) : FnC P G f xs H R := fun σ hσ => h σ (hσ.sub (.of_mem fun _ hp => hs.subset hp) (hσ.nodup.sublist (hs.map _)))
end Go.Ab
namespace Go.Ab
variable {P : Program} {G : Gl}
def kinds2 (P : Program) (s d : TypeId) : Option (IntKind × IntKind) := match P.underlying s, P.underlying d with
  | some (.int a), some (.int b) => some (a, b)
  | _, _ => none
theorem SL_conv {B : AS} {W : List Nat} {ops : Array Oper} {os : List Oper} {L : List (Nat × AV)} {N : Nat} {ds : List Nat} {H : List (Nat × AObj)} {Q : Cfg → Prop} {ty : TypeId} {pos : String} {af : Array Edge} {d : Nat} {s t : TypeId} {x : Operand} {kk k1 k2 : IntKind} {a : Int} (hd : d < N) (hx : evL G L x = some (.s (.int kk a))) (hk : kinds2 P s t = some (k1, k2)) (hw : k2.wrap a = a)
    (k : SL P G B W ops os ((d, .s (.int k2 a)) :: L) N ds H Q) : SL P G B W ops (⟨some d, .convert s t x, ty, pos, af, none⟩ :: os) L N ds H Q := by
  have hu : P.underlying s = some (.int k1) ∧ P.underlying t = some (.int k2) := by
    unfold kinds2 at hk
    split at hk
    · rename_i a b h1 h2
      cases hk; exact ⟨h1, h2⟩
    · cases hk
  refine SL_val (.s (.int k2 a)) hd (fun tm σ h1 h2 => ?_) k
  have he : effPure P ⟨some d, .convert s t x, ty, pos, af, none⟩ (evT G tm) = some (.s (.int k2 a)) := by
    unfold effPure
    simp only [Op.operands, h1.ev hx, isRef, List.all_cons, List.all_nil, Bool.not_false, Bool.and_self, if_true, execOp, sOf, Option.getD_some]
    have hc : evalP P (convert s t (.int kk a)) = some (.int k2 a) := by
      unfold convert
      rw [evalP_bind, evalP_under s hu.1]
      simp only [Option.bind_some]
      rw [evalP_bind, evalP_under t hu.2]
      show some (Value.int k2 (k2.wrap a)) = _
      rw [hw]
    rw [evalP_bind, hc]
    rfl
  unfold eff
  simp only [effConv, h1.ev hx, isRef, Bool.false_eq_true, if_false, he]
  rfl
end Go.Ab
namespace Go.Ab
variable {P : Program} {G : Gl}
section rules
variable {B : AS} {W : List Nat} {ops : Array Oper} {os : List Oper} {L : List (Nat × AV)} {N : Nat} {ds : List Nat} {H : List (Nat × AObj)} {Q : Cfg → Prop} {ty : TypeId} {pos : String} {af : Array Edge} {d : Nat}
theorem SL_slice_r {t e : TypeId} {x y : Operand} {a : Addr} {es cap i : Nat} {rows : List (List AV)} {kk : IntKind} {n : Int} (hd : d < N) (hx : evL G L x = some (.rsl a es cap rows)) (hy : evL G L y = some (.s (.int kk n))) (ht : sliceOf P t = some (e, es)) (hn : n = i) (hi : i ≤ rows.length) (hc : rows.length ≤ cap)
    (k : SL P G B W ops os ((d, .rsl a es cap (rows.take i)) :: L) N ds H Q) : SL P G B W ops (⟨some d, .slice t x none (some y) none, ty, pos, af, none⟩ :: os) L N ds H Q :=
  SL_val (.rsl a es cap (rows.take i)) hd (fun tm σ h1 h2 => by
    obtain ⟨hu, hs⟩ := sliceOf_spec ht
    subst hn
    have hb1 : bound (none : Option AV) cap cap = some cap := rfl
    have hb2 : bound (some (AV.s (.int kk (i : Int)))) rows.length cap = some i := by
      unfold bound
      simp only
      rw [if_pos ⟨by omega, by omega⟩]; rfl
    have hb3 : bound (none : Option AV) 0 i = some 0 := rfl
    unfold eff
    simp only [effSliceTop, effSliceOp, h1.ev hx, isRef, if_true, effSlice, Option.map_none, Option.map_some, h1.ev hy, Option.isSome_none, Bool.false_and, Bool.false_eq_true, if_false, hu, hs, slBounds, hb1, hb2, hb3, Option.bind_some, hi, withSt]) k
theorem SL_append1_grow {t tx e e' ee : TypeId} {s x : Operand} {es b id0 o len : Nat} {cap : Option Nat} {ex : Bool} {z row : List AV} {old : List (List AV)} (hd : d < N) (hs : evL G L s = some (.sl o 0 len none)) (hx : evL G L x = some (.sl id0 0 1 cap)) (hmo : (o, AObj.cells e es true old) ∈ H)
    (hlen : len = old.length) (hm : (id0, AObj.cells ee es ex [row]) ∈ H) (ht : elOf P t = some (e, es, b, z)) (htx : P.underlying tx = some (.slice e')) (hc : row.all isCell = true) (hb1 : (2 * (len + 1) + 192) * b ≤ 2 ^ 48) (hb2 : len + 1 < 2 ^ 62)
    (k : ∀ id, B.next ≤ id → SL P G B W ops os ((d, .sl id 0 (len + 1) none) :: L) N ds ((id, .cells e es false (old ++ [row])) :: H) Q) :
    SL P G B W ops (⟨some d, .call ⟨.builtin .append, #[s, x], #[t, tx]⟩, ty, pos, af, none⟩ :: os) L N ds H Q :=
  SL_new _ (fun id => .sl id 0 (len + 1) none) hd (fun tm σ h1 h2 => by
    obtain ⟨hu, hsz0, info, zv, hi, hz, hsz, hnn, hbb, hzz⟩ := elOf_spec ht
    subst hnn hzz hbb hlen
    have hsrc : appRows info (.sl id0 0 1 cap) σ = some [row] := by
      simp only [appRows, srcRows, h2.get _ hm]
      rw [if_pos ⟨trivial, by simp⟩]; rfl
    have hall : ([row].all fun r => r.all isCell) = true := by simp [hc]
    unfold eff
    simp only [effCall, effBuiltin, List.map_cons, List.map_nil, h1.ev hs, h1.ev hx, effAppend, srcOk, htx, hu, hi, hz, hsrc, if_true, h2.get _ hmo]
    rw [if_pos ⟨hsz, hall⟩, if_pos ⟨trivial, by omega⟩, if_neg (by simp), if_pos ⟨by simpa using hb1, by simpa using hb2⟩]
    simp) k
end rules
end Go.Ab
namespace Go.Ab
theorem He.subl {B σ : AS} {W : List Nat} {H H' : List (Nat × AObj)} {ds : List Nat} (h : He B W σ H ds) (hs : H'.Sublist H) : He B W σ H' ds := h.sub (.of_mem fun _ hp => hs.subset hp) (h.nodup.sublist (hs.map _))
end Go.Ab
/- Symbolic steps: drawn regions that look at what is only read. -/
namespace Go.Ab
variable {P : Program} {G : Gl}
section
variable {B : AS} {W : List Nat} {base : Nat} {ops : Array Oper} {rest : List (Nat × List Nat)} {L : List (Nat × AV)} {N : Nat} {H : List (Nat × AObj)} {RC : List (Nat × Nat)} {Q : Cfg → Prop}
theorem SD_opN {i : Nat} {fl : List Nat} {o : Oper} (W' : List Nat) (RC' : List (Nat × Nat)) (hi : ops[i]? = some o) (hc : (cls o == 3) = false) (hw : ∀ id ∈ W, id ∈ W') (hRC : ∀ p ∈ RC, p.1 ≠ i) (hfl : ∀ k ∈ fl, ∃ id, (k, id) ∈ RC ∧ id ∉ W' ∧ id < B.next)
    (hrc : ∃ a v id, lookAt o = some a ∧ evL G L a = some v ∧ idOf v = none ∧ RC' = (i, id) :: RC)
    (h : SL P G B W' ops [o] L N [] H (fun s => ∃ tm' σ' L' H', s = ⟨tm', [], σ'⟩ ∧ En tm' N L' ∧ He B W' σ' H' [] ∧ SD P G B W' base ops rest L' N H' RC' Q)) : SD P G B W base ops ((i, fl) :: rest) L N H RC Q := by
  have hlt : LateL G L o := by
    obtain ⟨a, v, id, ha, hv, hid, _⟩ := hrc
    exact .inr ⟨a, v, ha, hv, hid⟩
  intro tm σ rc h1 h2 h3
  obtain ⟨n, s', hr, tm', σ', L', H', rfl, h4, h5, h6⟩ := h tm σ h1 (h2.wide hw)
  have hc3 : cls o ≠ 3 := by simpa using hc
  simp only [runL, stepO] at hr
  cases hres : resO P G (exec P G n) ops o tm σ with
  | none => rw [hres] at hr; simp [stepVal] at hr
  | some y =>
    obtain ⟨v, σ₁⟩ := y
    rw [hres] at hr
    simp only [stepVal, Option.some.injEq, Cfg.mk.injEq] at hr
    obtain ⟨rfl, -, rfl⟩ := hr
    have hx : resX P G (exec P G n) base ops i o tm σ = some (v, σ₁) := by
      obtain ⟨a, b, c⟩ := σ
      have hs := h2.slot
      simp only at hs; subst hs
      rw [resX_plain hc3, hres]
      obtain ⟨a1, b1, c1⟩ := σ₁
      have hs1 := h5.slot
      simp only at hs1; subst hs1
      rfl
    have hst : stands rc σ₁ fl = true := by
      unfold stands
      rw [List.all_eq_true]
      intro k hk
      obtain ⟨id, hm, hnw, hlt⟩ := hfl k hk
      cases hrk : rc k with
      | none => rfl
      | some x =>
        obtain ⟨rfl, hb⟩ := h3 _ hm x hrk
        exact stands_of hb (h5.keep _ hlt hnw)
    have hok : RcSt B RC' (rc.upd i (if Region.wanted o (ayielded ops tm) then readOf o (evT G tm) σ else none)) := by
      obtain ⟨a, v, id, ha, hv, hid, rfl⟩ := hrc
      intro p hp x hx
      rcases List.mem_cons.1 hp with rfl | hp
      · unfold Rec.upd at hx
        simp only [if_true] at hx
        split at hx
        · obtain ⟨hs, a', ha', hid'⟩ := readOf_stands hx
          rw [ha] at ha'; cases ha'
          rw [h1.ev hv, hid] at hid'
          cases hid'
        · cases hx
      · exact h3.upd hRC _ p hp x hx
    obtain ⟨m, s'', h7, h8⟩ := h6 _ _ _ h4 h5 hok
    refine ⟨max n m, s'', ?_, h8⟩
    simp only [runD, stepD, hi]
    rw [resX_le (exec_le (Nat.le_max_left n m)) hx]
    simp only [hst, hlt.ok h1 σ, Bool.and_self, if_true]
    exact runD_le (exec_le (Nat.le_max_right n m)) _ _ _ _ h7
end
end Go.Ab
/- Contracts by runs: calls that a run with another table answers; contracts on data of one's own, which is read only. -/
namespace Go.Ab
variable {P : Program} {G0 : Gl}
open Classical in
noncomputable def runF (P : Program) (G0 : Gl) (f : FuncId) (as : List AV) (σ : AS) : Option (AV × AS) :=
  if h : ∃ n x, callWith P G0 (exec P G0 n) f as σ = some x then callWith P G0 (exec P G0 h.choose) f as σ else none
theorem runF_some {f : FuncId} {as : List AV} {σ : AS} {x : AV × AS} (h : runF P G0 f as σ = some x) : ∃ n, callWith P G0 (exec P G0 n) f as σ = some x := by
  unfold runF at h
  split at h
  · exact ⟨_, h⟩
  · cases h
theorem runF_of {f : FuncId} {as : List AV} {σ : AS} {x : AV × AS} {n : Nat} (h : callWith P G0 (exec P G0 n) f as σ = some x) : runF P G0 f as σ = some x := by
  unfold runF
  have hh : ∃ n x, callWith P G0 (exec P G0 n) f as σ = some x := ⟨n, x, h⟩
  rw [dif_pos hh]
  obtain ⟨y, hy⟩ := hh.choose_spec
  have h1 := callWith_le (exec_le (P := P) (G := G0) (Nat.le_max_left n hh.choose)) h
  have h2 := callWith_le (exec_le (P := P) (G := G0) (Nat.le_max_right n hh.choose)) hy
  rw [hy]
  rw [h1] at h2
  exact h2.symm

def Bodied (P : Program) (f : FuncId) : Prop := ∃ fn, P.funcs[f]? = some fn ∧ fn.body.isNone = false
structure Ctr (P : Program) (G0 : Gl) (f : FuncId) (as : List AV) (h : AS → Option (AV × AS)) : Prop where
  body : Bodied P f
  ok : ∀ (σ : AS) v σ', h σ = some (v, σ') → ∀ (B : World) (ρ : Rho) (w : World) (vs : Array Value), GlOk (memOf B) ρ G0 → Rep B ρ σ w → Concs (memOf B) ρ as vs.toList → ∀ n,
    CallsIn Fence.wide n P f vs w fun e w' => ∃ ρ' y, e = .returned y ∧ ρ.le ρ' ∧ Conc (memOf B) ρ' v y ∧ Rep B ρ' σ' w'
  acts : ∀ (σ : AS) v σ', h σ = some (v, σ') → ∀ N, N ≤ σ.next → Acts N h σ v σ'
theorem runF_ctr (hP : Fit P) (hg : Given P G0) {f : FuncId} {as : List AV} (hb : Bodied P f) : Ctr P G0 f as (runF P G0 f as) where
  body := hb
  ok := fun σ v σ' h B ρ w vs hG hrep hc k => by
    obtain ⟨n, hn⟩ := runF_some h
    exact call_sound (exec_sound hP hg n) hG hrep hc hn k fun ρ' y w' hle hcy hrep' => ⟨ρ', y, rfl, hle, hcy, hrep'⟩
  acts := fun σ v σ' h N hN => by
    obtain ⟨n, hn⟩ := runF_some h
    obtain ⟨cs, h1, h2, h3⟩ := call_acts hg.acts (exec_acts hg.acts n) hn hN
    exact ⟨cs, h1, h2, fun σ₂ hl => runF_of (h3 σ₂ hl)⟩

open Classical in
noncomputable def overGl (P : Program) (G0 : Gl) (own : FuncId → List AV → Option (AS → Option (AV × AS))) (top : FuncId) : Gl :=
  ⟨G0.rows, fun f as => if f = top then none else match own f as with
    | some h => some h
    | none => if Bodied P f then some (runF P G0 f as) else none⟩
theorem overGl_given (hP : Fit P) (hg : Given P G0) {own : FuncId → List AV → Option (AS → Option (AV × AS))} {top : FuncId} (ho : ∀ f as h, own f as = some h → Ctr P G0 f as h) : Given P (overGl P G0 own top) := by
  have key : ∀ f as h, (overGl P G0 own top).orc f as = some h → Ctr P G0 f as h := fun f as h e => by
    unfold overGl at e
    simp only at e
    split at e
    · cases e
    · split at e
      · rename_i h' hh
        cases e
        exact ho f as _ hh
      · split at e
        · rename_i hb
          cases e
          exact runF_ctr hP hg hb
        · cases e
  exact ⟨fun f as h e => ⟨(key f as h e).body, fun σ v σ' hh B ρ w vs hG => (key f as h e).ok σ v σ' hh B ρ w vs hG⟩, fun f as h e => (key f as h e).acts⟩
theorem overGl_top {own : FuncId → List AV → Option (AS → Option (AV × AS))} {top : FuncId} (as : List AV) : (overGl P G0 own top).orc top as = none := by
  unfold overGl
  simp only [if_true]
theorem FnC.over (hg : Given P G0) {own : FuncId → List AV → Option (AS → Option (AV × AS))} {top f : FuncId} {as : List AV} {H : List (Nat × AObj)} {R : AV → List (Nat × AObj) → Prop} (h : FnC P G0 f as H R) (hf : f ≠ top) (ho : own f as = none) : FnC P (overGl P G0 own top) f as H R := fun σ hs => by
  obtain ⟨n, v, σ', h1, h2⟩ := h σ hs
  have hb : Bodied P f := callWith_body hg.ok h1
  refine wpf_orc (g := runF P G0 f as) ?_ (runF_of h1) h2
  unfold overGl
  simp only [if_neg hf, ho, if_pos hb]
theorem FnC.own {own : FuncId → List AV → Option (AS → Option (AV × AS))} {top f : FuncId} {as : List AV} {H : List (Nat × AObj)} {v : AV} {g : AS → Option (AV × AS)} (hf : f ≠ top) (ho : own f as = some g) (_hn : (H.map (·.1)).Nodup) (hv : ∀ σ, He σ [] σ H [] → g σ = some (v, σ)) :
    FnC P (overGl P G0 own top) f as H (fun x Hn => x = v ∧ Hn = []) := fun σ hs => by
  refine wpf_orc (g := g) ?_ (hv σ hs) ⟨[], hs.sub trivial List.nodup_nil, (fun p hp => by cases hp), rfl, rfl⟩
  unfold overGl
  simp only [if_neg hf, ho]

theorem own_ctr (hP : Fit P) (hg : Given P G0) (hrows : ∀ g, G0.rows g = none) {f : FuncId} {as : List AV} {h : AS → Option (AV × AS)} (hb : Bodied P f)
    (hok : ∀ σ v σ', h σ = some (v, σ') → σ' = σ ∧ ∃ c, v = .s c ∧ ∀ (B : World) (ρ : Rho) (w : World) (vs : List Value), Rep B ρ σ w → Concs (memOf B) ρ as vs →
      ∃ as' n σk, Concs (memOf w) (fun _ => none) as' vs ∧ runCall P G0 n f as' = some (.s c, σk))
    (hacts : ∀ σ v σ', h σ = some (v, σ') → ∀ N σ₂, Le N σ σ₂ → h σ₂ = some (v, σ₂)) : Ctr P G0 f as h where
  body := hb
  ok := fun σ v σ' hh B ρ w vs hG hrep hc k => by
    obtain ⟨rfl, c, rfl, hx⟩ := hok σ v σ' hh
    obtain ⟨as', n, σk, h1, h2⟩ := hx B ρ w vs.toList hrep hc
    refine call_sound (exec_sound hP hg n) (fun g row hr => by rw [hrows] at hr; cases hr) (start_rep w) h1 h2 k fun ρ' y w' _ hcy hrep' => ?_
    cases hcy
    exact ⟨ρ, _, rfl, Rho.le_refl ρ, .s _, hrep.after hrep'⟩
  acts := fun σ v σ' hh N hN => by
    obtain ⟨rfl, c, rfl, _⟩ := hok σ v σ' hh
    exact Acts.none fun σ₂ hl => hacts _ _ _ hh N σ₂ hl
theorem own_ctr2 (hP : Fit P) (hg : Given P G0) (hrows : ∀ g, G0.rows g = none) {f : FuncId} {as : List AV} {h : AS → Option (AV × AS)} (hb : Bodied P f)
    (hok : ∀ σ v σ', h σ = some (v, σ') → ∀ (B : World) (ρ : Rho) (w : World) (vs : List Value), Rep B ρ σ w → Concs (memOf B) ρ as vs →
      ∃ as' n vk σk, Concs (memOf w) (fun _ => none) as' vs ∧ runCall P G0 n f as' = some (vk, σk) ∧ ∀ ρk y w', Conc (memOf w) ρk vk y → Rep w ρk σk w' → ∃ ρ', ρ.le ρ' ∧ Conc (memOf B) ρ' v y ∧ Rep B ρ' σ' w')
    (hacts : ∀ σ v σ', h σ = some (v, σ') → ∀ N, N ≤ σ.next → Acts N h σ v σ') : Ctr P G0 f as h where
  body := hb
  ok := fun σ v σ' hh B ρ w vs hG hrep hc k => by
    obtain ⟨as', n, vk, σk, h1, h2, h3⟩ := hok σ v σ' hh B ρ w vs.toList hrep hc
    refine call_sound (exec_sound hP hg n) (fun g row hr => by rw [hrows] at hr; cases hr) (start_rep w) h1 h2 k fun ρk y w' _ hcy hrep' => ?_
    obtain ⟨ρ', h4, h5, h6⟩ := h3 ρk y w' hcy hrep'
    exact ⟨ρ', y, rfl, h4, h5, h6⟩
  acts := hacts
inductive OwnS (σ : AS) (es : Nat) : AV → List (List AV) → Prop
  | nil : OwnS σ es (.s (.slice none 0 0)) []
  | sl {o : Nat} {e : TypeId} {x : Bool} {rows : List (List AV)} (h : σ.get o = some (.cells e es x rows)) : OwnS σ es (.sl o 0 rows.length none) rows
theorem OwnS.le {σ σ₂ : AS} {N es : Nat} {a : AV} {rows : List (List AV)} (h : OwnS σ es a rows) (hl : Le N σ σ₂) : OwnS σ₂ es a rows := by
  cases h with
  | nil => exact .nil
  | sl h => exact .sl (hl.get _ _ h)
theorem OwnS.uniq {σ : AS} {es : Nat} {a : AV} {r r' : List (List AV)} (h : OwnS σ es a r) (h' : OwnS σ es a r') : r = r' := by
  cases h with
  | nil => cases h'; rfl
  | sl h =>
    generalize hn : r.length = n at h'
    cases h' with | sl h' => rw [h] at h'; cases h'; rfl
theorem OwnS.laid {σ : AS} {es : Nat} {a : AV} {rows : List (List AV)} (h : OwnS σ es a rows) {B w : World} {ρ : Rho} {v : Value} (hrep : Rep B ρ σ w) (hc : Conc (memOf B) ρ a v) :
    (a = .s (.slice none 0 0) ∧ rows = [] ∧ v = .slice none 0 0) ∨ ∃ b cap, rows.length ≤ cap ∧ v = .slice (some ⟨b, 0, none⟩) rows.length cap ∧
      ∃ (c : Array Value) (e : TypeId), memOf w b = some (.cells c e) ∧ (∀ r ∈ rows, r.length = es) ∧ Concs (memOf B) ρ rows.flatten (c.toList.take (rows.length * es)) := by
  cases h with
  | nil => cases hc; exact .inl ⟨rfl, rfl, rfl⟩
  | sl h =>
    cases hc with
    | sl hl =>
      obtain ⟨h1, h2, h3, h4, c, h5, h6, h7⟩ := hrep.obj _ _ _ h hl
      exact .inr ⟨_, _, by simpa using h2, by simp, c, _, h5, h4, h7⟩
theorem Concs.plain {M M' : Mem} {ρ ρ' : Rho} : ∀ {as : List AV} {vs : List Value}, (∀ a ∈ as, ∃ v, a = .s v) → Concs M ρ as vs → Concs M' ρ' as vs
  | [], _, _, h => by cases h; exact .nil
  | a :: as, _, hp, h => by
    cases h with
    | cons h t =>
      obtain ⟨v, rfl⟩ := hp a (by simp)
      cases h
      exact .cons (.s _) (t.plain fun b hb => hp b (List.mem_cons_of_mem _ hb))
theorem Rep.memW {B w : World} {ρ : Rho} {σ : AS} (h : Rep B ρ σ w) {b : Nat} {x : Obj} (hx : memOf B b = some x) : memOf w b = some x := by
  have hlt := (Array.getElem?_eq_some_iff.1 hx).1
  show w.heap[b]? = some x
  rw [h.keep b hlt]; exact hx
theorem SlV.later {es : Nat} {a : AV} {rows : List (List AV)} (h : SlV es a rows) {B w : World} {ρ ρ' : Rho} {σ : AS} {v : Value} (hrep : Rep B ρ σ w) (hc : Conc (memOf B) ρ a v)
    {Q : List (List AV) → Prop} (f : ∀ vs, Concs (memOf B) ρ rows.flatten vs → ∃ rows', rows'.length = rows.length ∧ (∀ r ∈ rows', r.length = es) ∧ Q rows' ∧ Concs (memOf w) ρ' rows'.flatten vs) : ∃ a' rows', Q rows' ∧ SlV es a' rows' ∧ Conc (memOf w) ρ' a' v := by
  cases h with
  | nil =>
    cases hc
    obtain ⟨rows', h1, h2, h3, h4⟩ := f [] .nil
    obtain rfl := List.eq_nil_of_length_eq_zero h1
    exact ⟨_, [], h3, .nil, .s _⟩
  | rsl hp =>
    cases hc with
    | rsl hm hcap =>
      cases hm with
      | mk hm hl hcs =>
        obtain ⟨rows', h1, h2, h3, h4⟩ := f _ hcs
        rw [← h1] at hcap hcs h4 hp ⊢
        exact ⟨.rsl ⟨_, _, none⟩ es _ rows', rows', h3, .rsl hp, .rsl (.mk (hrep.memW hm) h2 h4) hcap⟩
theorem Rep.adopt {B w w' : World} {ρ ρk : Rho} {σ σk : AS} (h : Rep B ρ σ w') (hk : Rep w ρk σk w') (hBw : B.heap.size ≤ w.heap.size) {id : Nat} {l : Loc} {e : TypeId} {es : Nat} {x : Bool} {rows : List (List AV)} (hg : σk.get id = some (.cells e es x rows)) (hl : ρk id = some l) (hw : ∀ j l', ρ j = some l' → l'.blk ≠ l.blk) (hp : ∀ a ∈ rows.flatten, ∃ v, a = .s v) :
    Rep B (ρ.ext σ.newId l) (σ.push (.cells e es x rows)) w' := by
  obtain ⟨h1, h2⟩ := hk.new id l hl
  refine h.name ⟨by omega, h2⟩ (fun j p l' _ _ hr => hw j l' hr) ?_
  obtain ⟨a1, a2, a3, a4, c, a5, a6, a7⟩ := hk.obj id _ l hg hl
  exact ⟨a1, a2, a3, a4, c, a5, a6, a7.plain hp⟩
#print axioms overGl_given
end Go.Ab
/- Code that may go one way or another (a range over a map draws its order): what holds whichever way it goes. -/
namespace Go.Ab
variable {P : Program} {G : Gl}
open Go.ChangeMaps (setBlock)

def CW (P : Program) (G : Gl) (c : Code) (s : Cfg) (Φ : AEx → Cfg → Prop) : Prop :=
  ∀ (B : World) (ρ : Rho) (a : Act) (w : World) (m : Nat) (Q : Exit → Act → World → Prop), GlOk (memOf B) ρ G → CfgRel B ρ s a w →
    (∀ e s' ρ' a' w', Φ e s' → ρ.le ρ' → CfgRel B ρ' s' a' w' → Q (exOf e) a' w') → c.wpIn (fenceOf none) m P Q a w

section
variable {s : Cfg} {Φ Φ' : AEx → Cfg → Prop}
theorem CW.mono {c : Code} (h : CW P G c s Φ) (hq : ∀ e s', Φ e s' → Φ' e s') : CW P G c s Φ' :=
  fun B ρ a w m Q hG hrel hQ => h B ρ a w m Q hG hrel fun e s' ρ' a' w' hφ => hQ e s' ρ' a' w' (hq e s' hφ)
theorem CW.run (hP : Fit P) (hg : Given P G) {c : Code} (h : wpc P G none c s Φ) : CW P G c s Φ := fun B ρ a w m Q hG hrel hQ => by
  obtain ⟨n, e, s', h1, h2⟩ := h
  exact (exec_sound hP hg n).code none c s e s' h1 B ρ a w none m Q hG trivial hrel fun ρ' a' w' hle hr => hQ e s' ρ' a' w' h2 hle hr
theorem CW.seq {x y : Code} (h : CW P G x s (Nxt (fun s' => CW P G y s' Φ) Φ)) : CW P G (.seq x y) s Φ := fun B ρ a w m Q hG hrel hQ => by
  refine wpIn_seq (h B ρ a w m _ hG hrel fun e s' ρ' a' w' hφ hle hr => ?_)
  cases e with
  | normal => exact hφ B ρ' a' w' m Q (hG.mono hle) hr fun e s'' ρ₂ a₂ w₂ h2 hle2 hr2 => hQ e s'' ρ₂ a₂ w₂ h2 (Rho.le_trans hle hle2) hr2
  | exit id => exact hQ (.exit id) s' ρ' a' w' hφ hle hr
  | ret => exact hQ .ret s' ρ' a' w' hφ hle hr
theorem CW.cond {x : Operand} {c d : Code} {t : Bool} (hx : evT G s.tmps x = .s (.bool t)) (h : CW P G (if t then c else d) s Φ) : CW P G (.cond x c d) s Φ := fun B ρ a w m Q hG hrel hQ => by
  refine wpIn_cond (t := t) ?_ (h B ρ a w m Q hG hrel hQ)
  have := hrel.tmps.ev hG x
  rw [hx] at this
  exact this.s_eq
theorem CW.block {id : Nat} {c : Code} (h : CW P G c s (InB id Φ)) : CW P G (.block id c) s Φ := fun B ρ a w m Q hG hrel hQ => by
  refine wpIn_block (h B ρ a w m _ hG hrel fun e s' ρ' a' w' hφ hle hr => ?_)
  cases e with
  | normal => exact hQ .normal s' ρ' a' w' hφ hle hr
  | ret => exact hQ .ret s' ρ' a' w' hφ hle hr
  | exit id' =>
    show if id' = id then _ else _
    by_cases hid : id' = id
    · simp only [InB] at hφ; rw [if_pos hid] at hφ; rw [if_pos hid]; exact hQ .normal s' ρ' a' w' hφ hle hr
    · simp only [InB] at hφ; rw [if_neg hid] at hφ; rw [if_neg hid]; exact hQ (.exit id') s' ρ' a' w' hφ hle hr
theorem CW.loop {c : Code} (I : Nat → Cfg → Prop) (hr : ∀ n s, I n s → CW P G c s (Nxt (fun s' => ∃ k, n = k + 1 ∧ I k s') Φ)) {n : Nat} (h0 : I n s) : CW P G (.loop c) s Φ := fun B ρ a w m Q hG hrel hQ => by
  refine wpIn_loop_rounds (n + 1) ?_
  have key : ∀ (n : Nat) (s : Cfg) (ρ₁ : Rho) (a : Act) (w : World), ρ.le ρ₁ → I n s → CfgRel B ρ₁ s a w → Code.roundsIn (fenceOf none) m P c Q (n + 1) a w := by
    intro n
    induction n with
    | zero =>
      intro s ρ₁ a w hle hI hrel
      refine hr 0 s hI B ρ₁ a w m _ (hG.mono hle) hrel fun e s' ρ' a' w' hφ hle' hr' => ?_
      cases e with
      | normal => obtain ⟨k, hk, _⟩ := hφ; cases hk
      | exit id => exact hQ (.exit id) s' ρ' a' w' hφ (Rho.le_trans hle hle') hr'
      | ret => exact hQ .ret s' ρ' a' w' hφ (Rho.le_trans hle hle') hr'
    | succ n ih =>
      intro s ρ₁ a w hle hI hrel
      refine hr (n + 1) s hI B ρ₁ a w m _ (hG.mono hle) hrel fun e s' ρ' a' w' hφ hle' hr' => ?_
      cases e with
      | normal =>
        obtain ⟨k, hk, hI'⟩ := hφ
        obtain rfl : n = k := by omega
        exact ih s' ρ' a' w' (Rho.le_trans hle hle') hI' hr'
      | exit id => exact hQ (.exit id) s' ρ' a' w' hφ (Rho.le_trans hle hle') hr'
      | ret => exact hQ .ret s' ρ' a' w' hφ (Rho.le_trans hle hle') hr'
  exact key n s ρ a w (Rho.le_refl ρ) h0 hrel
end

theorem CW.next (hP : Fit P) (hg : Given P G) {id : Nat} {d : Tmp} {it : Operand} {ty : TypeId} {pos : String} {af : Array Edge} {os : List Oper} {tm : Tm} {defs : List Nat} {σ : AS} {i o since last clock : Nat} {seen : List Nat} {es : List (Value × AV × Nat)} {Φ : AEx → Cfg → Prop}
    (hit : evT G tm it = .ptr i 0 0) (hi : σ.get i = some (.iter o since seen last)) (ho : σ.get o = some (.map es clock)) (hold : ∀ e ∈ es, e.2.2 < since) (hsl : since ≤ last)
    (hdone : (∀ e ∈ es, e.2.2 ∈ seen) → wpl P G (⟨some d, .next it false, ty, pos, af, none⟩ :: os).toArray os ⟨tm.set d (.s (.tuple #[.bool false])), defs, σ⟩ (Φ .normal))
    (hmore : ∀ k v b, (k, v, b) ∈ es → b ∉ seen → wpl P G (⟨some d, .next it false, ty, pos, af, none⟩ :: os).toArray os ⟨tm.set d (mkTup [.s (.bool true), .s k, v]), defs, σ.set i (.iter o since (seen ++ [b]) clock)⟩ (Φ .normal)) :
    CW P G (.region id (⟨some d, .next it false, ty, pos, af, none⟩ :: os).toArray false) ⟨tm, defs, σ⟩ Φ := fun B ρ a w m Q hG hrel hQ => by
  refine wpIn_region ?_
  have hsz : (⟨some d, .next it false, ty, pos, af, none⟩ :: os).toArray.size = os.length + 1 := by simp
  rw [List.range_eq_range', hsz, List.range'_succ]
  have h0 : (⟨some d, .next it false, ty, pos, af, none⟩ :: os).toArray[0]? = some (⟨some d, .next it false, ty, pos, af, none⟩ : Oper) := by simp
  simp only [wpOpsIn, h0]
  rw [if_pos (show Region.wanted (⟨some d, .next it false, ty, pos, af, none⟩ : Oper) _ = true from rfl)]
  refine ⟨fun f _ => fenceOf_fn none f, ?_⟩
  rw [Oper.semAt_eq _ _ _ (fun c h => by cases h)]
  have hc := hrel.tmps.ev hG it
  rw [hit] at hc
  have hrep : Rep B ρ σ w := hrel.rep
  have rest : ∀ (s₁ : Cfg) (ρ₁ : Rho) (a₁ : Act) (w₁ : World), ρ.le ρ₁ → CfgRel B ρ₁ s₁ a₁ w₁ → wpl P G (⟨some d, .next it false, ty, pos, af, none⟩ :: os).toArray os s₁ (Φ .normal) →
      wpOpsIn (fenceOf none) m P (⟨some d, .next it false, ty, pos, af, none⟩ :: os).toArray Q (List.range' (0 + 1) os.length) a₁ w₁ := by
    intro s₁ ρ₁ a₁ w₁ hle hr₁ ⟨n, s', h1, h2⟩
    have := runL_sound (exec_sound hP hg n) hP.names none m (Q := Q) os 1 s₁ s' ρ₁ a₁ w₁ (by simp) h1 (hG.mono hle) hr₁ fun ρ' a' w' hle' hr' => hQ .normal s' ρ' a' w' h2 (Rho.le_trans hle hle') hr'
    rw [hsz] at this
    simpa using this
  generalize hax : a.eval it = ax at hc
  cases hc with
  | ptr hri =>
    rename_i l
    obtain ⟨dl, hd, hheap⟩ := hrep.obj i _ l hi hri
    obtain ⟨xs, hes, hheap2, _⟩ := hrep.map (P := P) ho hd
    have e0 : 0 * l.es + 0 = 0 := by simp
    rw [e0] at hax
    have hkeys := hes.keys
    have hborn : ∀ x ∈ xs.toArray.toList, x.born < since := by
      intro x hx
      have hm : (x.key, x.born) ∈ xs.map (fun e => (e.key, e.born)) := List.mem_map.2 ⟨x, by simpa using hx, rfl⟩
      rw [hkeys] at hm
      obtain ⟨p, hp, hpe⟩ := List.mem_map.1 hm
      have := hold p hp
      simp only [Prod.mk.injEq] at hpe
      omega
    have hrun0 : (execOp a.eval (⟨some d, .next it false, ty, pos, af, none⟩ : Oper)).run P w = ((Instr.next (.pointer (some ⟨l.blk, 0, none⟩)) false ty).run P w).andThen fun v w' => .ok (.value v) w' := by
      simp only [execOp, hax, Sem.run_bind]
      rfl
    rcases run_next_at (P := P) w ty l.blk dl.blk since last seen.toArray xs.toArray clock hheap hheap2 hborn hsl with ⟨hz, hrun⟩ | ⟨e, he, w1, hw1, hrun⟩
    · rw [hrun0, hrun]
      simp only [Result.andThen, Oper.uponIn_value]
      refine rest _ ρ _ w (Rho.le_refl ρ) (hrel.put (Rho.le_refl ρ) hrep (.s _) (some d)) (hdone fun p hp => ?_)
      have hm : (p.1, p.2.2) ∈ es.map (fun p => (p.1, p.2.2)) := List.mem_map.2 ⟨p, hp, rfl⟩
      rw [← hkeys] at hm
      obtain ⟨x, hx, hxe⟩ := List.mem_map.1 hm
      simp only [Prod.mk.injEq] at hxe
      have hemp : leftOf xs.toArray seen.toArray = #[] := Array.eq_empty_of_size_eq_zero hz
      unfold leftOf at hemp
      rw [Array.filter_eq_empty_iff] at hemp
      have := hemp x (by simpa using hx)
      rw [← hxe.2]
      simpa using this
    · rw [hrun0, hrun]
      simp only [Result.andThen, Oper.uponIn_value]
      have hel : e ∈ xs ∧ e.born ∉ seen := by
        unfold leftOf at he
        simpa using he
      obtain ⟨j, hj⟩ := List.getElem?_of_mem hel.1
      obtain ⟨v, hv, hcv⟩ := hes.back hj
      have hrep1 : Rep B ρ σ w1 := hw1.elim (fun h => h ▸ hrep) (fun h => h ▸ hrep.drew)
      have hrep2 : Rep B ρ (σ.set i (.iter o since (seen ++ [e.born]) clock)) (setBlock w1 l.blk (.mapIter (some dl.blk) since (seen.toArray.push e.born) clock)) :=
        hrep1.setObj' (o' := .iter o since (seen ++ [e.born]) clock) hi rfl hri (fun w' hw' => ⟨dl, hd, by rw [hw']; simp⟩) trivial
      exact rest _ ρ _ _ (Rho.le_refl ρ) (hrel.put (Rho.le_refl ρ) hrep2 (conc_mkTup (vs := [.bool true, e.key, e.val]) (.cons (.s _) (.cons (.s _) (.cons hcv .nil)))) (some d))
        (hmore e.key v e.born (List.mem_of_getElem? hv) hel.2)

theorem CW.call {f : FuncId} {fn : Func} {c : Code} {as : List AV} {r : Value} (hf : P.funcs[f]? = some fn) (hb : fn.body = some c)
    (h : CW P G c ⟨Tm.fill ⟨max as.length fn.ntmps, .e⟩ 0 as, [], ⟨.e, 0, none⟩⟩ fun e s => (e = .normal ∨ e = .ret) ∧ ∃ σ', dropDefs s.st s.defs = some σ' ∧ aresults P fn s.tmps σ' = some (.s r))
    {w : World} {vs : Array Value} (hG : GlOk (memOf w) (fun _ => none) G) (hc : Concs (memOf w) (fun _ => none) as vs.toList) (n : Nat) :
    CallsIn Fence.wide n P f vs w fun e w' => e = .returned r ∧ ∃ ρ σ', Rep w ρ σ' w' := by
  refine callsIn_of_wp_marks hf hb trivial (h w (fun _ => none) _ w n _ hG ⟨TmRel.args hc _, trivial, start_rep w⟩ fun e s ρ' a' w' hφ _ hrel => ?_)
  obtain ⟨he, σ', hd, hv⟩ := hφ
  have := leaves s.defs a'.defers s.st σ' ρ' w' hrel.defs hrel.rep hd (R := fun e w' => e = .returned r ∧ ∃ ρ σ', Rep w ρ σ' w') (fn := fn) (arr := a'.tmps) (P := P) (fun w₂ hrep₂ => by
    obtain ⟨y, hy, hcy⟩ := results_run (P := P) hrep₂ hrel.tmps hv
    cases hcy
    exact ⟨_, hy, rfl, ρ', σ', hrep₂⟩) n
  rcases he with rfl | rfl <;> exact this
end Go.Ab
/- Contracts off the library's shelf: calls of the library that leave what was there as it was. -/
namespace Go.Ab
open Go.RowKit
variable {P : Program} {G : Gl}
theorem Rep.below {B w w' : World} {ρ : Rho} {σ : AS} (h : Rep B ρ σ w) (hb : Below w.heap.size w w') : Rep B ρ σ w' where
  dom := h.dom
  free := h.free
  low := h.low
  obj := fun id o l hg hr => (h.obj id o l hg hr).congr fun _ => hb.block _ (h.new id l hr).2
  new := fun id l hr => ⟨(h.new id l hr).1, Nat.lt_of_lt_of_le (h.new id l hr).2 hb.size⟩
  inj := h.inj
  keep := fun b hb' => (hb.block b (Nat.lt_of_lt_of_le hb' h.size)).trans (h.keep b hb')
  size := Nat.le_trans h.size hb.size
  tape := hb.tape.trans h.tape
  os := hb.os.trans h.os
  out := hb.output.trans h.out
  has := h.has
  thaw := fun _ _ _ _ => trivial
theorem Rep.pushDead {B w w' : World} {ρ : Rho} {σ : AS} (h : Rep B ρ σ w) (hb : Below w.heap.size w w') {N : Nat} (hN : w.heap.size ≤ N) (hlt : N < w'.heap.size) : Rep B (ρ.ext σ.newId ⟨N, 0, 1, fun _ => by decide⟩) (σ.push .dead) w' :=
  (h.below hb).name (o := .dead) (l := ⟨N, 0, 1, fun _ => by decide⟩) ⟨Nat.le_trans h.size hN, hlt⟩ (fun id p l' _ _ hr => by have h1 := (h.new id l' hr).2; show l'.blk ≠ N; omega) trivial
theorem Ctr.look {f : FuncId} {as : List AV} {h : AS → Option (AV × AS)} (hb : Bodied P f)
    (hh : ∀ σ v σ', h σ = some (v, σ') → σ' = σ ∧ ∃ r, v = .s r ∧ ∀ (B : World) (ρ : Rho) (w : World) (vs : Array Value), GlOk (memOf B) ρ G → Rep B ρ σ w → Concs (memOf B) ρ as vs.toList → Calls P f vs w fun e w' => e = .returned r ∧ Below w.heap.size w w')
    (hle : ∀ σ v σ', h σ = some (v, σ') → ∀ N σ₂, Le N σ σ₂ → h σ₂ = some (v, σ₂)) : Ctr P G f as h where
  body := hb
  ok := fun σ v σ' ho B ρ w vs hG hrep hc n => by
    obtain ⟨rfl, r, rfl, hx⟩ := hh σ v σ' ho
    exact callsIn_wide.2 ((hx B ρ w vs hG hrep hc).mono fun e w' ⟨he, hw⟩ => ⟨ρ, r, he, Rho.le_refl ρ, .s _, hrep.below hw⟩)
  acts := fun σ v σ' ho N hN => by
    obtain ⟨rfl, r, rfl, _⟩ := hh σ v σ' ho
    exact Acts.none fun σ₂ hl => hle _ _ _ ho N σ₂ hl
theorem Ctr.plain {f : FuncId} {as : List AV} {r : Value} (hb : Bodied P f)
    (hh : ∀ (B : World) (ρ : Rho) (w : World) (vs : Array Value), GlOk (memOf B) ρ G → (∀ b, b < B.heap.size → w.heap[b]? = B.heap[b]?) → Concs (memOf B) ρ as vs.toList → Calls P f vs w fun e w' => e = .returned r ∧ Below w.heap.size w w') : Ctr P G f as (fun σ => some (.s r, σ)) :=
  Ctr.look hb (fun σ v σ' h => by cases h; exact ⟨rfl, r, rfl, fun B ρ w vs hG hrep hc => hh B ρ w vs hG hrep.keep hc⟩) fun σ v σ' h N σ₂ _ => by cases h; rfl
theorem GlOk.cell {B w : World} {ρ : Rho} (hG : GlOk (memOf B) ρ G) (hk : ∀ b, b < B.heap.size → w.heap[b]? = B.heap[b]?) {g : Nat} {v : Value} (h : G.rows g = some [.s v]) : w.cell? ⟨g, 0, none⟩ = some v := by
  have h1 := (hG g _ h).1
  cases h1 with
  | mk hm hl hc =>
    rename_i c e fz
    have hlt : g < B.heap.size := (Array.getElem?_eq_some_iff.1 hm).1
    have h2 : w.heap[g]? = some (.cells c e fz) := (hk g hlt).trans hm
    simp only [List.flatten_cons, List.flatten_nil, List.append_nil, List.drop_zero, List.length_singleton, Nat.one_mul] at hc
    obtain ⟨u, hu, hcu⟩ := hc.get (i := 0) (a := .s v) rfl
    cases hcu
    rw [List.getElem?_take_of_lt (by omega)] at hu
    simp only [World.cell?, h2]
    rw [if_neg (by simp)]
    rw [← Array.getElem?_toList]; exact hu
theorem GlOk.cells {B w : World} {ρ : Rho} (hG : GlOk (memOf B) ρ G) (hk : ∀ b, b < B.heap.size → w.heap[b]? = B.heap[b]?) {g : Nat} {vs : List Value} (h : G.rows g = some (vs.map .s)) : ∃ c e fz, w.heap[g]? = some (.cells c e fz) ∧ c.toList = vs := by
  obtain ⟨h1, c, e, fz, h2, h3⟩ := hG g _ h
  have hlt : g < B.heap.size := (Array.getElem?_eq_some_iff.1 h2).1
  refine ⟨c, e, fz, (hk g hlt).trans h2, ?_⟩
  cases h1 with
  | mk hm hl hc =>
    rw [h2] at hm
    cases hm
    simp only [List.flatten_cons, List.flatten_nil, List.append_nil, List.drop_zero, List.length_singleton, Nat.one_mul] at hc
    rw [List.take_of_length_le (by rw [Array.length_toList, h3]; exact Nat.le_refl _)] at hc
    exact hc.s_eq
noncomputable def byF : List (FuncId × (List AV → Option (AS → Option (AV × AS)))) → FuncId → List AV → Option (AS → Option (AV × AS))
  | [], _, _ => none
  | (g, c) :: r, f, as => bif Nat.beq g f then c as else byF r f as
theorem byF_ok {Q : FuncId → List AV → (AS → Option (AV × AS)) → Prop} : ∀ {l : List (FuncId × (List AV → Option (AS → Option (AV × AS))))}, (∀ p ∈ l, ∀ as h, p.2 as = some h → Q p.1 as h) → ∀ {f as h}, byF l f as = some h → Q f as h
  | [], _, _, _, _, h => by cases h
  | (g, c) :: r, hl, f, as, hh, h => by
    unfold byF at h
    cases hb : Nat.beq g f with
    | true =>
      rw [hb] at h
      have := Nat.eq_of_beq_eq_true hb
      subst this
      exact hl _ List.mem_cons_self as hh h
    | false =>
      rw [hb] at h
      exact byF_ok (fun p hp => hl p (List.mem_cons_of_mem _ hp)) h
theorem given_of {rows : Nat → Option (List AV)} {l : List (FuncId × (List AV → Option (AS → Option (AV × AS))))} (h : ∀ p ∈ l, ∀ as c, p.2 as = some c → Ctr P ⟨rows, byF l⟩ p.1 as c) : Given P ⟨rows, byF l⟩ where
  ok := fun f as c ho => by
    have := byF_ok (Q := fun f as c => Ctr P ⟨rows, byF l⟩ f as c) h ho
    exact ⟨this.body, fun σ v σ' hh B ρ w vs hG hrep hc n => this.ok σ v σ' hh B ρ w vs hG hrep hc n⟩
  acts := fun f as c ho σ v σ' hh N hN => (byF_ok (Q := fun f as c => Ctr P ⟨rows, byF l⟩ f as c) h ho).acts σ v σ' hh N hN
theorem Fn_orc2 {f : FuncId} {as : List AV} {c : AS → Option (AV × AS)} {v : AV} {H : List (Nat × AObj)} {R : AV → List (Nat × AObj) → Prop} (ho : G.orc f as = some c) (hc : ∀ σ, He σ [] σ H [] → c σ = some (v, σ)) (hR : R v []) : FnC P G f as H R := fun σ hs =>
  wpf_orc ho (hc σ hs) ⟨[], hs.sub trivial List.nodup_nil, (fun p hp => by cases hp), hR⟩
end Go.Ab
/- Symbolic steps on strings, and on bytes that are turned to strings. -/
namespace Go.Ab
variable {P : Program} {G : Gl}
theorem toList_inj {a b : ByteArray} (h : a.toList = b.toList) : a = b := WideShapes.bytes_inj (by rwa [ByteArray.toList_eq, ByteArray.toList_eq] at h)
theorem strAdd {t : TypeId} {x y : Operand} {a b : ByteArray} (h : a.size + b.size ≤ 9223372036854775807) : evalP P (do eqGuard .add t x y (.string a) (.string b); binOp .add t (.string a) (.string b)) = some (.string (a ++ b)) := by
  have h1 : ¬ ((a.size + b.size : Nat) : Int) > IntKind.i64.max := by
    have : IntKind.i64.max = 9223372036854775807 := rfl
    omega
  show evalP P (if ((a.size + b.size : Nat) : Int) > IntKind.i64.max then _ else _) = _
  rw [if_neg h1]; rfl
theorem strEql {t : TypeId} {x y : Operand} {a b : ByteArray} : evalP P (do eqGuard .eql t x y (.string a) (.string b); binOp .eql t (.string a) (.string b)) = some (.bool (a.toList == b.toList)) := rfl
theorem strNeq {t : TypeId} {x y : Operand} {a b : ByteArray} : evalP P (do eqGuard .neq t x y (.string a) (.string b); binOp .neq t (.string a) (.string b)) = some (.bool !(a.toList == b.toList)) := rfl
section rules
variable {B : AS} {W : List Nat} {ops : Array Oper} {os : List Oper} {L : List (Nat × AV)} {N : Nat} {ds : List Nat} {H : List (Nat × AObj)} {Q : Cfg → Prop} {ty : TypeId} {pos : String} {af : Array Edge} {d : Nat}
theorem SL_cat {t yt : TypeId} {x y : Operand} {a b : ByteArray} (hd : d < N) (hx : evL G L x = some (.s (.string a))) (hy : evL G L y = some (.s (.string b))) (h : a.size + b.size ≤ 9223372036854775807) (k : SL P G B W ops os ((d, .s (.string (a ++ b))) :: L) N ds H Q) :
    SL P G B W ops (⟨some d, .binOp .add t x y yt, ty, pos, af, none⟩ :: os) L N ds H Q := SL_bin hd hx hy rfl (strAdd h) k
theorem SL_seql {t yt : TypeId} {x y : Operand} {a b : ByteArray} (hd : d < N) (hx : evL G L x = some (.s (.string a))) (hy : evL G L y = some (.s (.string b))) (ht : a = b → SL P G B W ops os ((d, .s (.bool true)) :: L) N ds H Q) (hf : a ≠ b → SL P G B W ops os ((d, .s (.bool false)) :: L) N ds H Q) :
    SL P G B W ops (⟨some d, .binOp .eql t x y yt, ty, pos, af, none⟩ :: os) L N ds H Q := by
  by_cases h : a = b
  · refine SL_bin hd hx hy rfl strEql ?_
    rw [show (a.toList == b.toList) = true by rw [h]; exact beq_self_eq_true _]
    exact ht h
  · refine SL_bin hd hx hy rfl strEql ?_
    rw [show (a.toList == b.toList) = false from beq_false_of_ne fun e => h (toList_inj e)]
    exact hf h
theorem SL_sneq {t yt : TypeId} {x y : Operand} {a b : ByteArray} (hd : d < N) (hx : evL G L x = some (.s (.string a))) (hy : evL G L y = some (.s (.string b))) (ht : a ≠ b → SL P G B W ops os ((d, .s (.bool true)) :: L) N ds H Q) (hf : a = b → SL P G B W ops os ((d, .s (.bool false)) :: L) N ds H Q) :
    SL P G B W ops (⟨some d, .binOp .neq t x y yt, ty, pos, af, none⟩ :: os) L N ds H Q := by
  by_cases h : a = b
  · refine SL_bin hd hx hy rfl strNeq ?_
    rw [show (a.toList == b.toList) = true by rw [h]; exact beq_self_eq_true _]
    exact hf h
  · refine SL_bin hd hx hy rfl strNeq ?_
    rw [show (a.toList == b.toList) = false from beq_false_of_ne fun e => h (toList_inj e)]
    exact ht h
theorem SL_bytes {s t e : TypeId} {x : Operand} {id i n : Nat} {cap : Option Nat} {ex : Bool} {rows : List (List AV)} {el : TypeId} {bs : List UInt8} (hd : d < N) (hx : evL G L x = some (.sl id i n cap)) (hm : (id, AObj.cells el 1 ex rows) ∈ H)
    (hs : P.underlying s = some (.slice e)) (ht : P.underlying t = some .string) (he : P.underlying e = some (.int .u8)) (hn : i + n ≤ rows.length) (hb : bytesOf ((rows.drop i).take n) = some bs) (k : SL P G B W ops os ((d, .s (.string ⟨bs.toArray⟩)) :: L) N ds H Q) :
    SL P G B W ops (⟨some d, .convert s t x, ty, pos, af, none⟩ :: os) L N ds H Q :=
  SL_val _ hd (fun tm σ h1 h2 => by
    unfold eff
    simp only [effConv, h1.ev hx, isRef, if_true, effBytes, hs, ht, he, h2.get _ hm]
    rw [if_pos ⟨trivial, hn⟩, hb]; rfl) k
end rules
section
variable {B : AS} {W : List Nat} {base : Nat} {ops : Array Oper} {rest : List (Nat × List Nat)} {L : List (Nat × AV)} {N : Nat} {H : List (Nat × AObj)} {RC : List (Nat × Nat)} {Q : Cfg → Prop}
theorem SD_mkstr {i j d d2 : Nat} {t t2 e : TypeId} {x : Operand} {c : Int} {b : Nat} {z : List AV} {ty ty2 : TypeId} {pos pos2 : String} {af af2 : Array Edge} (hi : ops[i]? = some ⟨some d, .buildSlice t 1 #[(0, x)], ty, pos, af, none⟩) (hj : ops[j]? = some ⟨some d2, .convert t t2 (.tmp d), ty2, pos2, af2, none⟩)
    (hbind : (bindsOf ⟨some d2, .convert t t2 (.tmp d), ty2, pos2, af2, none⟩).any (fun k => k == i) = true) (his : i < ops.size) (hd : d < N) (hd2 : d2 < N) (hx : evL G L x = some (.s (.int .u8 c))) (hel : elOf P t = some (e, 1, b, z)) (he : P.underlying e = some (.int .u8)) (ht2 : P.underlying t2 = some .string)
    (hRC : ∀ p ∈ RC, p.1 ≠ i) (hRC2 : ∀ p ∈ RC, p.1 ≠ j) (hnW : base + i ∉ W) (hnH : base + i ∉ H.map (·.1)) (hlt : base + i < B.next) (hfree : B.objs.get (base + i) = none)
    (h : SD P G B ((base + i) :: W) base ops rest ((d2, .s (.string ⟨#[UInt8.ofNat c.toNat]⟩)) :: (d, .sl (base + i) 0 1 none) :: L) N ((base + i, .cells e 1 true [[.s (.int .u8 c)]]) :: H) RC Q) : SD P G B W base ops ((i, []) :: (j, []) :: rest) L N H RC Q := by
  obtain ⟨hu, hs, info, zv, hif, hz, hsz, hn, hbb, hzz⟩ := elOf_spec hel
  refine SD_newS (.cells e 1 true [[.s (.int .u8 c)]]) (fun id => .sl id 0 1 none) hi rfl hd hRC hnW hnH hlt hfree (fun tm σ h1 => ?_) fun tm σ rc h1 h2 h3 h4 => ?_
  · unfold eff
    have hp : partsL G L (#[(0, x)] : Array (Nat × Operand)).toList = some [(0, .s (.int .u8 c))] := by simp only [partsL, hx]
    simp only [effBuildSlice, h1.parts hp, hu, hif, hz]
    rw [if_pos ⟨hsz, by rw [hn]; decide⟩, hn]
    simp [setRows, cellsOf]
    rw [if_pos (show (Value.int IntKind.u8 c).cells.size = 1 from rfl)]; rfl
  · have hev : evT G tm (.tmp d) = .sl (base + i) 0 1 none := h1.ev (v := .sl (base + i) 0 1 none) (by simp [evL, lk])
    have hget : σ.get (base + i) = some (.cells e 1 true [[.s (.int .u8 c)]]) := h2.get _ List.mem_cons_self
    have heff : eff P ⟨some d2, .convert t t2 (.tmp d), ty2, pos2, af2, none⟩ (evT G tm) σ = some (.val (.s (.string ⟨#[UInt8.ofNat c.toNat]⟩)), σ) := by
      unfold eff
      simp only [effConv, hev, isRef, if_true, effBytes, hu, ht2, he, hget]
      rw [if_pos ⟨trivial, by simp⟩]
      simp [bytesOf, withSt]
    have hslot := h2.slot
    have hw : Region.wanted ⟨some d2, .convert t t2 (.tmp d), ty2, pos2, af2, none⟩ (ayielded ops tm) = true := rfl
    have hres : resO P G (exec P G 0) ops ⟨some d2, .convert t t2 (.tmp d), ty2, pos2, af2, none⟩ tm σ = some (.s (.string ⟨#[UInt8.ofNat c.toNat]⟩), σ) := by
      unfold resO
      rw [hw, if_pos rfl, heff]; rfl
    have hx2 : resX P G (exec P G 0) base ops j ⟨some d2, .convert t t2 (.tmp d), ty2, pos2, af2, none⟩ tm σ = some (.s (.string ⟨#[UInt8.ofNat c.toNat]⟩), σ) := by
      obtain ⟨a, b, c⟩ := σ
      simp only at hslot; subst hslot
      rw [resX_plain (by show (1 : Nat) ≠ 3; decide), hres]
    have hread : readOf ⟨some d2, .convert t t2 (.tmp d), ty2, pos2, af2, none⟩ (evT G tm) σ = some (.all (base + i) 0) := by
      simp only [readOf, hev, seenAll, idOf, h4]
    have hlate : lateOk false base ops j ⟨some d2, .convert t t2 (.tmp d), ty2, pos2, af2, none⟩ (some (.all (base + i) 0)) = true := by
      have : (bindsOf ⟨some d2, .convert t t2 (.tmp d), ty2, pos2, af2, none⟩).any (fun k => base + i == base + k) = true := by
        rw [List.any_eq_true] at hbind ⊢
        obtain ⟨k, hk, hki⟩ := hbind
        have : k = i := by simpa using hki
        exact ⟨k, hk, by rw [this]; exact beq_self_eq_true _⟩
      simp only [lateOk, isConv, if_true, this, Bool.and_true]
      simp [his]
    obtain ⟨m, s'', h7, h8⟩ := h _ _ (rc.upd j (some (.all (base + i) 0))) (h1.set hd2 (.s (.string ⟨#[UInt8.ofNat c.toNat]⟩))) h2 (h3.upd hRC2 _)
    refine ⟨m, s'', ?_, h8⟩
    simp only [runD, stepD, hj]
    rw [resX_le (exec_le (Nat.zero_le m)) hx2]
    have hst : ∀ (σ' : AS), stands rc σ' [] = true := fun _ => rfl
    simp only [hw, if_true, hread, hst, hlate, Bool.and_self]
    exact h7
end
end Go.Ab
/- Tables that package-level variables hold, whatever their make: arrays, structs, numbers, strings; and one cell that holds an error. -/
namespace Go.Ab
open Go.WideShapes Go.ChangeShapes Go.ChangeAt
variable {P : Program}
def datAll (g : TypeId → DataW Unit → Option (List Value)) (P : Program) : List (TypeId × Nat) → Nat → List (DataW Unit) → Option (List Value)
  | [], _, [] => some []
  | (t, o) :: r, p, d :: ds =>
    if o = p then match g t d with
      | some vs => if vs.length = P.cellsOf t then (datAll g P r (p + P.cellsOf t) ds).map (vs ++ ·) else none
      | none => none
    else none
  | _, _, _ => none
def datCells (P : Program) : Nat → TypeId → DataW Unit → Option (List Value)
  | 0, _, _ => none
  | n + 1, t, d => match P.underlying t, d with
    | some (.int k), .lit (.int k' x) => if k' = k then some [.int k x] else none
    | some .string, .lit (.string s) => some [.string ⟨s.toArray⟩]
    | some (.struct fs), .agg ds => match datAll (datCells P n) P (fs.toList.map fun f => (f.type, f.offset)) 0 ds with
      | some vs => if vs.length = P.cellsOf t then some vs else none
      | none => none
    | some (.array m e), .agg ds => match datAll (datCells P n) P ((List.range m).map fun i => (e, i * P.cellsOf e)) 0 ds with
      | some vs => if vs.length = P.cellsOf t then some vs else none
      | none => none
    | _, _ => none
section
variable {enc : TypeId × Value → Unit} {w : World} {spare : Nat → Bool} {held : Bool}
theorem datAll_ok {g : TypeId → DataW Unit → Option (List Value)} {m : Nat} (hg : ∀ t d vs, g t d = some vs → ∀ sub ps, DataW.trod enc P w 0 spare held m t sub = some (d, ps) → sub = vs) (cs : List Value) :
    ∀ (qs : List (TypeId × Nat)) (p : Nat) (xs : List (DataW Unit × List MemPlace)) (vs : List Value), datAll g P qs p (xs.map (·.1)) = some vs → (∀ (i : Nat) (q : TypeId × Nat), qs[i]? = some q → DataW.trod enc P w 0 spare held m q.1 ((cs.drop q.2).take (P.cellsOf q.1)) = xs[i]?) → cs.drop p = vs ++ cs.drop (p + vs.length)
  | [], p, [], vs, h, _ => by
    simp only [datAll, List.map_nil, Option.some.injEq] at h
    subst h; simp
  | [], p, x :: xs, vs, h, _ => by simp [datAll] at h
  | (t, o) :: r, p, [], vs, h, _ => by simp [datAll] at h
  | (t, o) :: r, p, x :: xs, vs, h, hx => by
    simp only [datAll, List.map_cons] at h
    split at h
    · rename_i ho
      subst ho
      split at h
      · rename_i us hus
        split at h
        · rename_i hl
          simp only [Option.map_eq_some_iff] at h
          obtain ⟨ws, hws, rfl⟩ := h
          have h0 := hx 0 (t, o) rfl
          simp only [List.getElem?_cons_zero] at h0
          have e := hg t x.1 us hus _ x.2 h0
          have ih := datAll_ok hg cs r (o + P.cellsOf t) xs ws hws fun i q hq => hx (i + 1) q hq
          have hs : cs.drop o = us ++ cs.drop (o + P.cellsOf t) := by
            have := List.take_append_drop (P.cellsOf t) (cs.drop o)
            rw [List.drop_drop] at this
            rw [← this, e]
          rw [hs, ih, List.append_assoc, List.length_append, ← hl, Nat.add_assoc]
        · cases h
      · cases h
    · cases h
theorem datCells_ok : ∀ (n : Nat) (t : TypeId) (d : DataW Unit) (vs : List Value), datCells P n t d = some vs → ∀ (fuel : Nat) (cs : List Value) (ps : List MemPlace), DataW.trod enc P w 0 spare held fuel t cs = some (d, ps) → cs = vs
  | 0, _, _, _, h, _, _, _, _ => by cases h
  | n + 1, t, d, vs, h, fuel, cs, ps, hd => by
    unfold datCells at h
    split at h
    · rename_i k k' x ht
      split at h
      · rename_i hk
        cases h
        obtain ⟨y, rfl, hy, _⟩ := DataW.trod_int ht hd
        simp only [Prod.mk.injEq, DataW.lit.injEq, Lit.int.injEq] at hy
        obtain ⟨⟨_, rfl⟩, _⟩ := hy
        rfl
      · cases h
    · rename_i s ht
      cases h
      obtain ⟨y, rfl, hy, _⟩ := DataW.trod_string ht hd
      simp only [Prod.mk.injEq, DataW.lit.injEq, Lit.string.injEq] at hy
      obtain ⟨rfl, _⟩ := hy
      rfl
    · rename_i fs ds ht
      split at h
      · rename_i us hus
        split at h
        · rename_i hl
          cases h
          obtain ⟨xs, m, _, hx, hlen, hxl, hel⟩ := DataW.trod_struct ht hd
          simp only [Prod.mk.injEq, DataW.agg.injEq] at hx
          obtain ⟨rfl, _⟩ := hx
          have := datAll_ok (m := m) (fun t d vs h sub ps => datCells_ok n t d vs h m sub ps) cs _ 0 xs vs hus fun i q hq => by
            rw [List.getElem?_map, Option.map_eq_some_iff] at hq
            obtain ⟨f, hf, rfl⟩ := hq
            exact hel i f (by simpa using hf)
          rw [List.drop_zero, Nat.zero_add, List.drop_eq_nil_of_le (by omega), List.append_nil] at this
          exact this
        · cases h
      · cases h
    · rename_i m' e ds ht
      split at h
      · rename_i us hus
        split at h
        · rename_i hl
          cases h
          obtain ⟨xs, m, _, hx, hlen, hxl, hel⟩ := DataW.trod_array ht hd
          simp only [Prod.mk.injEq, DataW.agg.injEq] at hx
          obtain ⟨rfl, _⟩ := hx
          have := datAll_ok (m := m) (fun t d vs h sub ps => datCells_ok n t d vs h m sub ps) cs _ 0 xs vs hus fun i q hq => by
            rw [List.getElem?_map, Option.map_eq_some_iff] at hq
            obtain ⟨j, hj, rfl⟩ := hq
            obtain ⟨hlt, rfl⟩ := List.getElem?_eq_some_iff.1 hj
            simp only [List.length_range] at hlt
            rw [List.getElem_range]
            exact hel i hlt
          rw [List.drop_zero, Nat.zero_add, List.drop_eq_nil_of_le (by omega), List.append_nil] at this
          exact this
        · cases h
      · cases h
    · cases h
def Held (w : World) (g : Nat) (row : List AV) : Prop := ∃ vs : List Value, row = vs.map .s ∧ ∃ cs e fz, w.heap[g]? = some (.cells cs e fz) ∧ cs.toList = vs
theorem Held.mem {w : World} {g : Nat} {row : List AV} (h : Held w g row) {ρ : Rho} : ConcMem (memOf w) ρ g 0 row.length [row] ∧ ∃ c e fz, memOf w g = some (.cells c e fz) ∧ c.size = row.length := by
  obtain ⟨vs, rfl, cs, e, fz, h1, h2⟩ := h
  have hl : cs.size = vs.length := by rw [← h2, Array.length_toList]
  refine ⟨.mk h1 (by simp) ?_, cs, e, fz, h1, by simpa using hl⟩
  have : (cs.toList.drop 0).take ([vs.map AV.s].length * (vs.map AV.s).length) = vs := by
    rw [List.drop_zero, h2, List.take_of_length_le (by simp)]
  rw [this]
  simpa using Concs.ofS vs
theorem var_heap {nm : String} {g : Nat} {cs : Array Value} (hg : P.globalNamed nm = some g) (hv : w.var? P nm = some cs) : ∃ e fz, w.heap[g]? = some (.cells cs e fz) := by
  unfold World.var? at hv
  rw [hg] at hv
  simp only [Option.bind_some] at hv
  split at hv
  · cases Option.some.inj hv
    exact ⟨_, _, by assumption⟩
  · cases hv
theorem Held.of_dat {nm : String} {g : Nat} {t : TypeId} {cs : Array Value} {fuel n : Nat} {d : DataW Unit} {vs : List Value} {ps : List MemPlace} {row : List AV} (hg : P.globalNamed nm = some g) (hv : w.var? P nm = some cs) (hd : DataW.trod enc P w 0 spare held fuel t cs.toList = some (d, ps)) (hc : datCells P n t d = some vs) (hrow : row = vs.map .s) : Held w g row := by
  obtain ⟨e, fz, hh⟩ := var_heap hg hv
  exact ⟨vs, hrow, cs, e, fz, hh, datCells_ok n t d vs hc fuel _ ps hd⟩
theorem Held.of_err {nm nt : String} {g : Nat} {t : TypeId} {cs : Array Value} {fuel : Nat} {d : DataW Unit} {ps : List MemPlace} {ms : Array (String × TypeId)} (hg : P.globalNamed nm = some g) (hv : w.var? P nm = some cs) (ht : P.underlying t = some (.interface ms)) (hd : DataW.trod enc P w 0 spare held fuel t cs.toList = some (.iface nt d, ps)) : ∃ v, Held w g [.s v] ∧ (v = .nilIface ∨ ∃ te pe, v = .iface te pe) := by
  obtain ⟨e, fz, hh⟩ := var_heap hg hv
  have : ∃ u v, cs.toList = [.iface u v] := by
    cases fuel with
    | zero => cases hd
    | succ m =>
      unfold DataW.trod at hd
      rw [ht] at hd
      split at hd <;> first | (cases hd; done) | exact ⟨_, _, by assumption⟩ | skip
      all_goals simp_all
  obtain ⟨u, v, hc⟩ := this
  exact ⟨.iface u v, ⟨[.iface u v], rfl, cs, e, fz, hh, hc⟩, .inr ⟨u, v, rfl⟩⟩
end
theorem returns_shaped {H : Type} {enc : TypeId × Value → H} {a : Assume} {C : Checked} {os : Os} {f : FuncId} {fn : Func} {s : ChangeSpec} {conds : List PathCond} {apart fresh handsOn again : Bool} {X : World → Array Value → Prop}
    (hX : ∀ (w w' : World) (args : Array Value), w.heap = w'.heap → X w args → X w' args)
    (own : ownKnob C.prog.godebug = none) (started : os.Started) (noInit : C.prog.inits.idxOf? f = none) (hfn : C.prog.funcs[f]? = some fn)
    (witness : ∃ (w : World) (tape : Tape) (i : Input), w.os = os ∧ (w.forCall tape i).Shaped C.prog ∧ i.vars = [] ∧ Input.okWide C.prog (w.forCall tape i) .any w.heap.size f i ∧
      ((s.pre enc C.prog fn conds apart (w.forCall tape i).memory i.args ∧ X (w.forCall tape i).memory i.args) ∧ sizedMet enc C.prog fn (OpenSpec.ofChange s) apart (w.forCall tape i).memory i.args) ∧ a.holds C.prog (lone (Frame.enter C.prog f i.args .normal) [] (w.forCall tape i)))
    (contract : ∀ (W : World) (base : Nat) (args : Array Value) (ds gs : List (DataW H)) (before : List MemPlace),
      (∀ (j : Nat) t v, fn.params[j]? = some t → args[j]? = some v → Value.okWide C.prog W .any base t v) →
      DataW.Whole enc C.prog fn.params.toList s.vars apart W args.toList ds gs before →
      W.ShapedOpen C.prog → X W args →
      Calls C.prog f args W fun e W' => ∃ v, e = .returned v ∧ s.post enc C.prog fn apart fresh handsOn again W args v W') :
    ReturnsInHanded a C os f .any (fun w args => (s.pre enc C.prog fn conds apart w args ∧ X w args) ∧ sizedMet enc C.prog fn (OpenSpec.ofChange s) apart w args) (s.post enc C.prog fn apart fresh handsOn again) := by
  refine returnsInHanded_of_calls own started noInit witness ?_
  intro w tape i _ hsh _ hok hpre hholds
  obtain ⟨_, _, _, fn', hfn', _, _, _, _, hval⟩ := hok
  have e : fn' = fn := Option.some.inj (hfn'.symm.trans hfn)
  subst e
  obtain ⟨⟨⟨ds, gs, before, hw, hc⟩, hx⟩, hz⟩ := hpre
  have hw' := DataW.Whole.of_heap (w' := w.forCall tape i) (by rfl) hw
  refine (contract (w.forCall tape i) w.heap.size i.args ds gs before hval hw' hsh (hX _ _ _ (by rfl) hx)).mono fun e W' ⟨v, he, hp⟩ => ?_
  subst he
  exact ChangeSpec.post_blind hp
end Go.Ab
/- Symbolic steps: a part of a slice that is only read. -/
namespace Go.Ab
variable {P : Program} {G : Gl}
inductive SlK (es : Nat) : AV → List (List AV) → Prop
  | nil {a : Option Addr} {cap : Nat} : SlK es (.s (.slice a 0 cap)) []
  | rsl {a : Addr} {cap : Nat} {rows : List (List AV)} (h : 0 < rows.length) (hc : rows.length ≤ cap) : SlK es (.rsl a es cap rows) rows
theorem SlK.v {es : Nat} {a : AV} {rows : List (List AV)} (h : SlK es a rows) : SlV es a rows := by
  cases h with
  | nil => exact .nil
  | rsl h hc => exact .rsl h
theorem Fn_orcN {f : FuncId} {al : List AV} {o : AObj} {v : Nat → AV} {H : List (Nat × AObj)} {R : AV → List (Nat × AObj) → Prop} (ho : G.orc f al = some (fun σ => some (v σ.newId, σ.push o))) (hR : ∀ id, R (v id) [(id, o)]) : FnC P G f al H R := fun σ hs =>
  wpf_orc ho rfl ⟨[(σ.newId, o)], (hs.push o).sub ⟨.head _, trivial⟩ (by simp), fun p hp => by
    cases List.mem_singleton.1 hp
    rw [AS.newId_none hs.slot]
    exact Nat.le_refl _, hR _⟩
section
variable {B : AS} {W : List Nat} {ops : Array Oper} {os : List Oper} {L : List (Nat × AV)} {N : Nat} {ds : List Nat} {H : List (Nat × AObj)} {Q : Cfg → Prop} {ty : TypeId} {pos : String} {af : Array Edge} {d : Nat}
theorem SL_slice_rr {t e : TypeId} {x y z : Operand} {a : AV} {es l h : Nat} {rows : List (List AV)} {kk kk' : IntKind} {n m : Int} (hd : d < N) (hx : evL G L x = some a) (hv : SlK es a rows) (hz : evL G L z = some (.s (.int kk' m))) (hy : evL G L y = some (.s (.int kk n))) (ht : sliceOf P t = some (e, es)) (hm : m = l) (hn : n = h) (hlh : l < h) (hi : h ≤ rows.length)
    (k : ∀ v, SlK es v ((rows.take h).drop l) → SL P G B W ops os ((d, v) :: L) N ds H Q) : SL P G B W ops (⟨some d, .slice t x (some z) (some y) none, ty, pos, af, none⟩ :: os) L N ds H Q := by
  cases hv with
  | nil => exact absurd hi (by simp; omega)
  | @rsl a cap _ h0 hc =>
    have hlen : 0 < ((rows.take h).drop l).length := by rw [List.length_drop, List.length_take]; omega
    refine SL_val (if l = 0 then .rsl a es cap (rows.take h) else .rsl (a.add (l * es)) es (cap - l) ((rows.take h).drop l)) hd (fun tm σ h1 h2 => ?_) (k _ ?_)
    · obtain ⟨hu, hs⟩ := sliceOf_spec ht
      subst hn hm
      have hb1 : bound (none : Option AV) cap cap = some cap := rfl
      have hb2 : bound (some (AV.s (.int kk (h : Int)))) rows.length cap = some h := by
        unfold bound
        simp only
        rw [if_pos ⟨by omega, by omega⟩]; rfl
      have hb3 : bound (some (AV.s (.int kk' (l : Int)))) 0 h = some l := by
        unfold bound
        simp only
        rw [if_pos ⟨by omega, by omega⟩]; rfl
      have hcl : ¬ cap = l := by omega
      unfold eff
      simp only [effSliceTop, effSliceOp, h1.ev hx, isRef, if_true, effSlice, Option.map_none, Option.map_some, h1.ev hy, h1.ev hz, Option.isSome_none, Bool.false_and, Bool.false_eq_true, if_false, hu, hs, slBounds, hb1, hb2, hb3, Option.bind_some, hi, withSt, hcl]
      split <;> rfl
    · split
      · rename_i hl
        subst hl
        rw [List.drop_zero]
        rw [List.drop_zero] at hlen
        exact .rsl hlen (by rw [List.length_take]; omega)
      · exact .rsl hlen (by rw [List.length_drop, List.length_take]; omega)
theorem SL_len_s {t : TypeId} {x : Operand} {s : ByteArray} {ats : Array TypeId} (hd : d < N) (hx : evL G L x = some (.s (.string s))) (ha : ats[0]? = some t) (ht : P.underlying t = some .string) (k : SL P G B W ops os ((d, .s (.int .i64 s.size)) :: L) N ds H Q) :
    SL P G B W ops (⟨some d, .call ⟨.builtin .len, #[x], ats⟩, ty, pos, af, none⟩ :: os) L N ds H Q :=
  SL_val _ hd (fun tm σ h1 h2 => by
    unfold eff
    have he : effPure P ⟨some d, .call ⟨.builtin .len, #[x], ats⟩, ty, pos, af, none⟩ (evT G tm) = some (.s (.int .i64 s.size)) := by
      unfold effPure
      simp only [Op.operands, Call.operands, h1.ev hx, isRef, List.all_cons, List.all_nil, Bool.not_false, Bool.and_self, List.nil_append, Array.toList_append, if_true]
      have hl : evalP P (Builtin.len_ ats ty #[.string s]) = some (.int .i64 s.size) := by
        unfold Builtin.len_
        rw [ha]
        show evalP P (underlying t >>= _) = _
        rw [evalP_bind, evalP_under t ht]
        rfl
      have hx2 : evalP P (execOp (fun x => (sOf (evT G tm x)).getD undef) ⟨some d, .call ⟨.builtin .len, #[x], ats⟩, ty, pos, af, none⟩) = some (.value (.int .i64 s.size)) := by
        have e1 : execOp (fun x => (sOf (evT G tm x)).getD undef) ⟨some d, .call ⟨.builtin .len, #[x], ats⟩, ty, pos, af, none⟩ = (do pure (Next.value (← Builtin.len_ ats ty #[(sOf (evT G tm x)).getD undef]))) :=
          builtin_v (o := ⟨some d, .call ⟨.builtin .len, #[x], ats⟩, ty, pos, af, none⟩) (c := ⟨.builtin .len, #[x], ats⟩) rfl rfl (by simp [builtin])
        rw [e1, h1.ev hx]
        simp only [sOf, Option.getD_some]
        rw [evalP_bind, hl]
        rfl
      rw [hx2]
    simp only [effCall, effBuiltin, List.map_cons, List.map_nil, h1.ev hx, effLenOp, isRef, he]
    rfl) k
theorem SL_index_s {t : TypeId} {x ix : Operand} {s : ByteArray} {kk : IntKind} {n : Int} {i : Nat} {b : UInt8} (hd : d < N) (hx : evL G L x = some (.s (.string s))) (hi : evL G L ix = some (.s (.int kk n))) (ht : P.underlying t = some .string) (hn : n = i) (hb : s.data.toList[i]? = some b)
    (k : SL P G B W ops os ((d, .s (.int .u8 b.toNat)) :: L) N ds H Q) : SL P G B W ops (⟨some d, .index t x ix, ty, pos, af, none⟩ :: os) L N ds H Q := by
  refine SL_val (.s (.int .u8 b.toNat)) hd (fun tm σ h1 h2 => ?_) k
  have he : effPure P ⟨some d, .index t x ix, ty, pos, af, none⟩ (evT G tm) = some (.s (.int .u8 b.toNat)) := by
    unfold effPure
    simp only [Op.operands, h1.ev hx, h1.ev hi, isRef, List.all_cons, List.all_nil, Bool.not_false, Bool.and_self, if_true, execOp, sOf, Option.getD_some]
    have hc : evalP P (Instr.index t (.string s) (.int kk n)) = some (.int .u8 b.toNat) := by
      unfold Instr.index
      rw [evalP_bind]
      show evalP P (underlying t >>= _) = _
      rw [evalP_bind, evalP_under t ht]
      simp only [Option.bind_some]
      subst hn
      have hs : s[i]? = some b := by
        have h0 := (List.getElem?_eq_some_iff.1 hb).1
        have h1 : i < s.size := by simpa using h0
        rw [getElem?_pos s i h1]
        rw [List.getElem?_eq_getElem h0] at hb
        rw [← Option.some.inj hb]
        rfl
      rw [if_pos (by omega), Int.toNat_natCast, hs]
      rfl
    rw [evalP_bind, hc]
    rfl
  unfold eff
  simp only [effIndexOp, h1.ev hx, he]
  rfl
end
end Go.Ab
/- What an argument's cells are, by their type. -/
namespace Go.Ab
variable {P : Program}
def isOffs (fs : Option TypeDesc) (l : List (TypeId × Nat)) : Bool := match fs with
  | some (.struct fs) => (fs.toList.map fun f => (f.type, f.offset)) == l
  | _ => false
theorem le_maxI {n : Nat} (h : n ≤ maxLen) : n ≤ 9223372036854775807 := by unfold maxLen at h; omega
theorem Ty.int_inv {t : TypeId} {k : IntKind} (ht : P.underlying t = some (.int k)) {al : List AV} (h : Ty P t al) : ∃ n, al = [.s (.int k n)] ∧ (Lit.int k n).wf = true := by
  cases h with
  | int h hw => rw [ht] at h; cases h; exact ⟨_, rfl, hw⟩
  | bool h => rw [ht] at h; cases h
  | str h => rw [ht] at h; cases h
  | empty h => rw [ht] at h; cases h
  | rsl h => rw [ht] at h; cases h
  | struct h => rw [ht] at h; cases h
  | array h => rw [ht] at h; cases h
theorem Ty.bool_inv {t : TypeId} (ht : P.underlying t = some .bool) {al : List AV} (h : Ty P t al) : ∃ b, al = [.s (.bool b)] := by
  cases h with
  | bool h => exact ⟨_, rfl⟩
  | int h hw => rw [ht] at h; cases h
  | str h => rw [ht] at h; cases h
  | empty h => rw [ht] at h; cases h
  | rsl h => rw [ht] at h; cases h
  | struct h => rw [ht] at h; cases h
  | array h => rw [ht] at h; cases h
theorem Ty.str_inv {t : TypeId} (ht : P.underlying t = some .string) {al : List AV} (h : Ty P t al) : ∃ s, al = [.s (.string s)] ∧ s.size ≤ 9223372036854775807 := by
  cases h with
  | str h hs => exact ⟨_, rfl, le_maxI hs⟩
  | bool h => rw [ht] at h; cases h
  | int h hw => rw [ht] at h; cases h
  | empty h => rw [ht] at h; cases h
  | rsl h => rw [ht] at h; cases h
  | struct h => rw [ht] at h; cases h
  | array h => rw [ht] at h; cases h
theorem Ty.slice_inv {t e : TypeId} (ht : P.underlying t = some (.slice e)) {al : List AV} (h : Ty P t al) : ∃ a rows, al = [a] ∧ SlK (P.cellsOf e) a rows ∧ (∀ r ∈ rows, r.length = P.cellsOf e ∧ Ty P e r) ∧ rows.length ≤ 9223372036854775807 := by
  cases h with
  | empty h hc => exact ⟨_, [], rfl, .nil, fun r hr => (by cases hr), by simp⟩
  | rsl h hp hn hc hl hr =>
    rw [ht] at h; cases h
    exact ⟨_, _, rfl, .rsl hp hn, fun r hr' => ⟨hl r hr', hr r hr'⟩, Nat.le_trans hn (le_maxI hc)⟩
  | str h hs => rw [ht] at h; cases h
  | bool h => rw [ht] at h; cases h
  | int h hw => rw [ht] at h; cases h
  | struct h => rw [ht] at h; cases h
  | array h => rw [ht] at h; cases h
theorem Ty.struct_inv {t : TypeId} {l : List (TypeId × Nat)} (ho : isOffs (P.underlying t) l = true) {al : List AV} (h : Ty P t al) : al.length = P.cellsOf t ∧ ∀ p ∈ l, Ty P p.1 ((al.drop p.2).take (P.cellsOf p.1)) := by
  unfold isOffs at ho
  cases h with
  | struct h hl hf =>
    rw [h] at ho
    simp only [beq_iff_eq] at ho
    refine ⟨hl, fun p hp => ?_⟩
    rw [← ho] at hp
    obtain ⟨f, hfm, rfl⟩ := List.mem_map.1 hp
    exact hf f hfm
  | int h hw => rw [h] at ho; cases ho
  | bool h => rw [h] at ho; cases ho
  | str h => rw [h] at ho; cases ho
  | empty h => rw [h] at ho; cases ho
  | rsl h => rw [h] at ho; cases ho
  | array h => rw [h] at ho; cases ho
theorem Ty.array_inv {t e : TypeId} {n : Nat} (ht : P.underlying t = some (.array n e)) {al : List AV} (h : Ty P t al) : al.length = n * P.cellsOf e ∧ ∀ i, i < n → Ty P e ((al.drop (i * P.cellsOf e)).take (P.cellsOf e)) := by
  cases h with
  | array h hl hf => rw [ht] at h; cases h; exact ⟨hl, hf⟩
  | struct h hl hf => rw [ht] at h; cases h
  | int h hw => rw [ht] at h; cases h
  | bool h => rw [ht] at h; cases h
  | str h => rw [ht] at h; cases h
  | empty h => rw [ht] at h; cases h
  | rsl h => rw [ht] at h; cases h
theorem rows_form {α : Type} {Q : List AV → Prop} {F : α → List AV} (hq : ∀ r, Q r → ∃ a, r = F a) : ∀ (rows : List (List AV)), (∀ r ∈ rows, Q r) → ∃ l : List α, rows = l.map F
  | [], _ => ⟨[], rfl⟩
  | r :: rows, h => by
    obtain ⟨a, rfl⟩ := hq r (h r List.mem_cons_self)
    obtain ⟨l, rfl⟩ := rows_form hq rows fun r hr => h r (List.mem_cons_of_mem _ hr)
    exact ⟨a :: l, rfl⟩
theorem open_one {H : Type} {enc : TypeId × Value → H} {w : World} {r : Reach} {b0 : Nat} {spare : Nat → Bool} {held : Bool} {n : Nat} {t e : TypeId} {v : Value} {d : DataW H} {ps : List MemPlace} (ht : P.underlying t = some (.slice e)) (hp : plainTy P n t = true) (hval : Value.okWide P w r b0 t v) (hd : DataW.Trod enc P w 0 spare held t v d ps) :
    ∃ a, Conc (memOf w) (fun _ => none) a v ∧ Ty P t [a] := by
  obtain ⟨a, hc, hty⟩ := open_value hp hval hd
  obtain ⟨x, len, cap, rfl⟩ := Go.WideShapes.okWide_slice ht hval
  cases a with
  | agg l => cases hc
  | s v => cases hc; exact ⟨_, .s _, hty⟩
  | _ => exact ⟨_, hc, hty⟩
theorem open_agg {H : Type} {enc : TypeId × Value → H} {w : World} {r : Reach} {b0 : Nat} {spare : Nat → Bool} {held : Bool} {n : Nat} {t : TypeId} {v : Value} {d : DataW H} {ps : List MemPlace} {l : List (TypeId × Nat)} (ht : isOffs (P.underlying t) l = true) (hp : plainTy P n t = true) (hval : Value.okWide P w r b0 t v) (hd : DataW.Trod enc P w 0 spare held t v d ps) :
    ∃ al, Conc (memOf w) (fun _ => none) (mkAgg al) v ∧ Ty P t al := by
  obtain ⟨a, hc, hty⟩ := open_value hp hval hd
  have hv : ∃ cs, v = .agg cs := by
    unfold isOffs at ht
    split at ht
    · rename_i fs hfs
      obtain ⟨cs, rfl, _⟩ := Go.WideShapes.okWide_struct hfs hval
      exact ⟨cs, rfl⟩
    · cases ht
  obtain ⟨cs, rfl⟩ := hv
  cases hc with
  | s => exact ⟨cs.toList.map .s, by simpa using conc_mkAgg (M := memOf w) (ρ := fun _ => none) (Concs.ofS cs.toList), by simpa [cellsOf, Value.cells] using hty⟩
  | @agg al _ h => exact ⟨al, by simpa using conc_mkAgg h, hty⟩
end Go.Ab
/- Symbolic steps: regions that draw their order, walked in the order of the text: the same rules as elsewhere. -/
namespace Go.Ab
variable {P : Program} {G : Gl}
def idPl (k n : Nat) : List (Nat × List Nat) := (List.range' k n).map fun i => (i, [])
structure DC (B0 : AS) (B : AS) (base n : Nat) : Prop where
  lo : B0.next ≤ base
  hi : base + n ≤ B.next
  free : ∀ j, base ≤ j → B.objs.get j = none
theorem DC.le {B0 B : AS} {base n : Nat} (h : DC B0 B base n) : B0.next ≤ B.next := Nat.le_trans h.lo (Nat.le_trans (Nat.le_add_right _ _) h.hi)
def DFin (P : Program) (G : Gl) (B0 : AS) (W0 : List Nat) (B : AS) (N : Nat) (Q : AEx → Cfg → Prop) (s : Cfg) : Prop :=
  ∃ W' tm' σ' L' H', s = ⟨tm', [], σ'⟩ ∧ En tm' N L' ∧ He B W' σ' H' [] ∧ (∀ id ∈ W', B0.next ≤ id ∨ id ∈ W0) ∧ ∀ tm σ, En tm N L' → He B0 W0 σ H' [] → Q .normal ⟨tm, [], σ⟩
def SI (P : Program) (G : Gl) (B0 : AS) (W0 : List Nat) (B : AS) (base : Nat) (l : List Oper) (k : Nat) (os : List Oper) (W : List Nat) (L : List (Nat × AV)) (N : Nat) (H : List (Nat × AObj)) (Q : AEx → Cfg → Prop) : Prop :=
  DC B0 B base l.length → l.drop k = os → (∀ id ∈ W, (B0.next ≤ id ∨ id ∈ W0) ∧ (id < base + k ∨ B.next ≤ id)) → SD P G B W base l.toArray (idPl k os.length) L N H [] (DFin P G B0 W0 B N Q)
section
variable {B0 B : AS} {W0 W : List Nat} {base k : Nat} {l os : List Oper} {L : List (Nat × AV)} {N : Nat} {H : List (Nat × AObj)} {Q : AEx → Cfg → Prop}
theorem SC_drawI {rd : Option Nat} {id : Nat} (hok : drawnOk l.toArray = true) (hpl : plan l.toArray = idPl 0 l.length) (h : ∀ B base, B0.next ≤ B.next → SI P G B0 W0 B base l 0 l [] L N H Q) : SC P G B0 W0 rd (.region id l.toArray true) L N [] H Q :=
  SC_drawn hok hpl fun B' base h1 h2 h3 _ => h B' base (DC.le ⟨h1, h2, h3⟩) ⟨h1, h2, h3⟩ (List.drop_zero ..) (fun id hid => by cases hid)
theorem SI_nil (h : ∀ tm σ, En tm N L → He B0 W0 σ H [] → Q .normal ⟨tm, [], σ⟩) : SI P G B0 W0 B base l k [] W L N H Q := fun _ _ hW =>
  SD_nil fun tm σ h1 h2 => ⟨W, tm, σ, L, H, rfl, h1, h2, fun id hid => (hW id hid).1, h⟩
theorem SI_get {o : Oper} (hd : l.drop k = o :: os) : l.toArray[k]? = some o ∧ l.drop (k + 1) = os ∧ k < l.length := by
  have h1 : (l.drop k)[0]? = some o := by rw [hd]; rfl
  rw [List.getElem?_drop, Nat.add_zero] at h1
  refine ⟨by simpa using h1, ?_, (List.getElem?_eq_some_iff.1 h1).1⟩
  have := congrArg (List.drop 1) hd
  rwa [List.drop_drop, List.drop_succ_cons, List.drop_zero] at this
theorem idPl_cons (k n : Nat) : idPl k (n + 1) = (k, []) :: idPl (k + 1) n := rfl
def INext (P : Program) (G : Gl) (B0 : AS) (W0 : List Nat) (B : AS) (base : Nat) (l : List Oper) (k : Nat) (os : List Oper) (W : List Nat) (N : Nat) (Q : AEx → Cfg → Prop) (s : Cfg) : Prop :=
  ∃ tm' σ' L' H', s = ⟨tm', [], σ'⟩ ∧ En tm' N L' ∧ He B W σ' H' [] ∧ SI P G B0 W0 B base l (k + 1) os W L' N H' Q
theorem SL_mono {B : AS} {W : List Nat} {ops : Array Oper} {os : List Oper} {ds : List Nat} {Q Q' : Cfg → Prop} (h : SL P G B W ops os L N ds H Q) (hq : ∀ s, Q s → Q' s) : SL P G B W ops os L N ds H Q' := fun tm σ h1 h2 => wpl_mono (h tm σ h1 h2) hq
theorem SI_op {o : Oper} (hc : (cls o == 3) = false) (h : SL P G B W l.toArray [o] L N [] H (INext P G B0 W0 B base l k os W N Q)) (hlt : LateL G L o := by first | exact .inl rfl | exact .inr ⟨_, _, rfl, rfl, rfl⟩) : SI P G B0 W0 B base l k (o :: os) W L N H Q := fun hd hk hW => by
  obtain ⟨h1, h2, h3⟩ := SI_get hk
  rw [List.length_cons, idPl_cons]
  refine SD_op W [] h1 hc (fun _ h => h) (fun p hp => by cases hp) (fun k hk => by cases hk) (.inl rfl) (SL_mono h fun s ⟨tm, σ, L', H', e, a, b, c⟩ => ⟨tm, σ, L', H', e, a, b, c hd h2 fun id hid => ⟨(hW id hid).1, ?_⟩⟩) hlt
  have := (hW id hid).2
  omega
theorem no_obj {σ : AS} {p : Nat × AObj} {j : Nat} (h : σ.get p.1 = some p.2) (hj : p.1 = j) (hn : σ.objs.get j = none) : False := by
  unfold AS.get at h
  rw [hj, hn] at h
  simp at h
theorem SI_opW {o : Oper} (j : Nat) {ob : AObj} (hj : (j, ob) ∈ H) (hj0 : B0.next ≤ j ∨ j ∈ W0) (hc : (cls o == 3) = false) (h : SL P G B (j :: W) l.toArray [o] L N [] H (INext P G B0 W0 B base l k os (j :: W) N Q)) (hlt : LateL G L o := by first | exact .inl rfl | exact .inr ⟨_, _, rfl, rfl, rfl⟩) :
    SI P G B0 W0 B base l k (o :: os) W L N H Q := fun hd hk hW => by
  obtain ⟨h1, h2, h3⟩ := SI_get hk
  rw [List.length_cons, idPl_cons]
  intro tm σ rc hE hH hR
  have hlt2 : j < base + k ∨ B.next ≤ j := by
    by_cases hx : j < B.next
    · left
      apply Classical.byContradiction
      intro hn
      have hfr := hd.free j (by omega)
      have hnW : j ∉ W := fun hm => by have := (hW j hm).2; omega
      have := hH.keep j hx hnW
      rw [hfr] at this
      exact no_obj (hH.get _ hj) rfl this
    · right; omega
  refine SD_op (j :: W) [] h1 hc (fun _ h => List.mem_cons_of_mem _ h) (fun p hp => by cases hp) (fun k hk => by cases hk) (.inl rfl) (SL_mono h fun s ⟨tm, σ, L', H', e, a, b, c⟩ => ⟨tm, σ, L', H', e, a, b, c hd h2 fun id hid => ?_⟩) hlt tm σ rc hE hH hR
  rcases List.mem_cons.1 hid with rfl | hid
  · exact ⟨hj0, by omega⟩
  · have := hW id hid
    exact ⟨this.1, by omega⟩
theorem SI_new {d : Nat} {op : Op} {ty : TypeId} {pos : String} {af : Array Edge} (ob : AObj) (v : Nat → AV) (hc : (cls ⟨some d, op, ty, pos, af, none⟩ == 3) = true) (hd : d < N)
    (he : ∀ tm σ, En tm N L → eff P ⟨some d, op, ty, pos, af, none⟩ (evT G tm) σ = some (.val (v σ.newId), σ.push ob))
    (h : ∀ id, B0.next ≤ id → SI P G B0 W0 B base l (k + 1) os (id :: W) ((d, v id) :: L) N ((id, ob) :: H) Q) : SI P G B0 W0 B base l k (⟨some d, op, ty, pos, af, none⟩ :: os) W L N H Q := fun hdc hk hW => by
  obtain ⟨h1, h2, h3⟩ := SI_get hk
  rw [List.length_cons, idPl_cons]
  have hlt : base + k < B.next := by have := hdc.hi; omega
  have hnW : base + k ∉ W := fun hm => by have := (hW _ hm).2; omega
  have hfree := hdc.free (base + k) (Nat.le_add_right _ _)
  intro tm σ rc hE hH hR
  have hnH : base + k ∉ H.map (·.1) := fun hm => by
    obtain ⟨p, hp, hpe⟩ := List.mem_map.1 hm
    have := hH.keep (base + k) hlt hnW
    rw [hfree] at this
    exact no_obj (hH.get _ hp) hpe this
  exact SD_new ob v h1 hc hd (fun p hp => by cases hp) hnW hnH hlt hfree he (h (base + k) (Nat.le_trans hdc.lo (Nat.le_add_right _ _)) hdc h2 fun id hid => by
    rcases List.mem_cons.1 hid with rfl | hid
    · exact ⟨.inl (Nat.le_trans hdc.lo (Nat.le_add_right _ _)), by omega⟩
    · have := hW id hid
      exact ⟨this.1, by omega⟩) tm σ rc hE hH hR
theorem SI_alloc {d : Nat} {t : TypeId} {cs : List AV} {ty : TypeId} {pos : String} {af : Array Edge} (hd : d < N) (ht : zeroOf P t = some cs) (h : ∀ id, B0.next ≤ id → SI P G B0 W0 B base l (k + 1) os (id :: W) ((d, .ptr id 0 0) :: L) N ((id, .cells t cs.length true [cs]) :: H) Q) :
    SI P G B0 W0 B base l k (⟨some d, .alloc t, ty, pos, af, none⟩ :: os) W L N H Q :=
  SI_new _ (fun id => .ptr id 0 0) rfl hd (fun tm σ h1 => by
    unfold zeroOf at ht
    simp only [Option.map_eq_some_iff] at ht
    obtain ⟨z, hz, rfl⟩ := ht
    unfold eff
    simp only [effAlloc, hz, Option.map_some, effBox]) h
theorem SI_box {d : Nat} {t : TypeId} {x : Operand} {v : AV} {cs : List AV} {ty : TypeId} {pos : String} {af : Array Edge} (hd : d < N) (hx : evL G L x = some v) (hc : cellsOf v = cs) (h : ∀ id, B0.next ≤ id → SI P G B0 W0 B base l (k + 1) os (id :: W) ((d, .ptr id 0 0) :: L) N ((id, .cells t cs.length true [cs]) :: H) Q) :
    SI P G B0 W0 B base l k (⟨some d, .box t x, ty, pos, af, none⟩ :: os) W L N H Q :=
  SI_new _ (fun id => .ptr id 0 0) rfl hd (fun tm σ h1 => by
    unfold eff
    simp only [effBox, h1.ev hx, hc]) h
theorem SI_makeSlice {d : Nat} {t e : TypeId} {lo c : Operand} {es b : Nat} {z : List AV} {kk kk' : IntKind} {n m : Int} {ty : TypeId} {pos : String} {af : Array Edge} (hd : d < N) (hl : evL G L lo = some (.s (.int kk n))) (hc : evL G L c = some (.s (.int kk' m))) (ht : elOf P t = some (e, es, b, z)) (h0 : 0 ≤ n) (hnm : n ≤ m) (hm : m < 2 ^ 47) (hb : b * m ≤ 2 ^ 48)
    (h : ∀ id, B0.next ≤ id → SI P G B0 W0 B base l (k + 1) os (id :: W) ((d, .sl id 0 n.toNat none) :: L) N ((id, .cells e es true (List.replicate m.toNat z)) :: H) Q) : SI P G B0 W0 B base l k (⟨some d, .makeSlice t lo c, ty, pos, af, none⟩ :: os) W L N H Q :=
  SI_new _ (fun id => .sl id 0 n.toNat none) rfl hd (fun tm σ h1 => by
    obtain ⟨hu, hs, info, zv, hi, hz, hsz, hn, hbb, hzz⟩ := elOf_spec ht
    unfold eff
    simp only [effMakeSlice, h1.ev hl, h1.ev hc, hu, hi, hz]
    rw [if_pos ⟨hsz, h0, hnm, hm, by rw [hbb]; exact hb⟩, hn, hzz]) h
theorem SI_buildSlice {d : Nat} {t e : TypeId} {len es b : Nat} {z : List AV} {ps : Array (Nat × Operand)} {vs : List (Nat × AV)} {rows : List (List AV)} {ty : TypeId} {pos : String} {af : Array Edge} (hd : d < N) (hx : partsL G L ps.toList = some vs) (ht : elOf P t = some (e, es, b, z)) (hb : len * es ≤ 2 ^ 24) (hr : setRows es (List.replicate len z) vs = some rows)
    (h : ∀ id, B0.next ≤ id → SI P G B0 W0 B base l (k + 1) os (id :: W) ((d, .sl id 0 len none) :: L) N ((id, .cells e es true rows) :: H) Q) : SI P G B0 W0 B base l k (⟨some d, .buildSlice t len ps, ty, pos, af, none⟩ :: os) W L N H Q :=
  SI_new _ (fun id => .sl id 0 len none) rfl hd (fun tm σ h1 => by
    obtain ⟨hu, hs, info, zv, hi, hz, hsz, hn, hbb, hzz⟩ := elOf_spec ht
    subst hn hzz
    unfold eff
    simp only [effBuildSlice, h1.parts hx, hu, hi, hz]
    rw [if_pos ⟨hsz, hb⟩, hr]) h
theorem SI_build1 {d : Nat} {t e : TypeId} {es b : Nat} {z : List AV} {x : Operand} {v : AV} {ty : TypeId} {pos : String} {af : Array Edge} (hd : d < N) (hx : evL G L x = some v) (ht : elOf P t = some (e, es, b, z)) (hc : cellsOf v = [v]) (he : es = 1)
    (h : ∀ id, B0.next ≤ id → SI P G B0 W0 B base l (k + 1) os (id :: W) ((d, .sl id 0 1 none) :: L) N ((id, .cells e es true [[v]]) :: H) Q) : SI P G B0 W0 B base l k (⟨some d, .buildSlice t 1 #[(0, x)], ty, pos, af, none⟩ :: os) W L N H Q := by
  subst he
  refine SI_buildSlice (vs := [(0, v)]) hd (by simp only [partsL, hx]) ht (by decide) ?_ h
  simp [setRows, hc]
end
inductive SlH (H0 : List (Nat × AObj)) (es : Nat) : AV → List (List AV) → Prop
  | v {a : AV} {rows : List (List AV)} (h : SlV es a rows) : SlH H0 es a rows
  | o {id n : Nat} {e : TypeId} {x : Bool} {rows : List (List AV)} (h : (id, AObj.cells e es x rows) ∈ H0) (hn : rows.length = n) : SlH H0 es (.sl id 0 n none) rows
theorem SlH.mono {H0 H1 : List (Nat × AObj)} {es : Nat} {a : AV} {rows : List (List AV)} (h : SlH H0 es a rows) (hs : ∀ p ∈ H0, p ∈ H1) : SlH H1 es a rows := by
  cases h with
  | v h => exact .v h
  | o h hn => exact .o (hs _ h) hn
inductive AdH (H0 : List (Nat × AObj)) (es : Nat) (rows : List (List AV)) (i f : Nat) : AV → Prop
  | r {ad : Addr} : AdH H0 es rows i f (.rptr ad es rows i f)
  | o {id : Nat} {e : TypeId} {x : Bool} (h : (id, AObj.cells e es x rows) ∈ H0) : AdH H0 es rows i f (.ptr id i f)
section
variable {B : AS} {W : List Nat} {ops : Array Oper} {os : List Oper} {L : List (Nat × AV)} {N : Nat} {ds : List Nat} {H H0 : List (Nat × AObj)} {Q : Cfg → Prop} {ty : TypeId} {pos : String} {af : Array Edge} {d : Nat}
theorem SL_len_h {t e : TypeId} {x : Operand} {es n : Nat} {a : AV} {rows : List (List AV)} {ats : Array TypeId} (hd : d < N) (hx : evL G L x = some a) (hv : SlH H0 es a rows) (ha : ats[0]? = some t) (ht : sliceOf P t = some (e, es)) (hn : rows.length = n)
    (k : SL P G B W ops os ((d, .s (.int .i64 n)) :: L) N ds H Q) : SL P G B W ops (⟨some d, .call ⟨.builtin .len, #[x], ats⟩, ty, pos, af, none⟩ :: os) L N ds H Q := by
  cases hv with
  | v h => exact SL_len_v hd hx h ha ht hn k
  | o h hn' => subst hn'; subst hn; exact SL_len_sl hd hx ha (sliceOf_spec ht).1 k
theorem SL_indexAddr_h {t e : TypeId} {x ix : Operand} {a : AV} {es : Nat} {rows : List (List AV)} {kk : IntKind} {n : Int} (hd : d < N) (hx : evL G L x = some a) (hi : evL G L ix = some (.s (.int kk n))) (hv : SlH H0 es a rows) (hs : ∀ p ∈ H0, p ∈ H) (ht : sliceOf P t = some (e, es)) (i : Nat) (hn : n = i) (hlt : i < rows.length)
    (k : ∀ p, AdH H0 es rows i 0 p → SL P G B W ops os ((d, p) :: L) N ds H Q) : SL P G B W ops (⟨some d, .indexAddr t x ix, ty, pos, af, none⟩ :: os) L N ds H Q := by
  cases hv with
  | v h => exact SL_indexAddr_v hd hx hi h ht i hn hlt fun ad => k _ .r
  | o h hn' => exact SL_indexAddr_0 hd hx hi (hs _ h) ht i hn (by omega) (k _ (.o h))
theorem SL_load_h {t : TypeId} {x : Operand} {p : AV} {es i f : Nat} {rows : List (List AV)} {row : List AV} {v : AV} (hd : d < N) (hx : evL G L x = some p) (hp : AdH H0 es rows i f p) (hs : ∀ p ∈ H0, p ∈ H) (ht : rowN P t = some none) (hr : rows[i]? = some row) (hv : row[f]? = some v)
    (k : SL P G B W ops os ((d, v) :: L) N ds H Q) : SL P G B W ops (⟨some d, .load t x, ty, pos, af, none⟩ :: os) L N ds H Q := by
  cases hp with
  | r => exact SL_load_r hd hx ht hr hv k
  | o h => exact SL_load_o hd hx (hs _ h) ht hr hv k
theorem SL_append_own_nil {t tx e e' : TypeId} {s x : Operand} {es b o len cap : Nat} {ad : Option Addr} {z : List AV} {old : List (List AV)} (hd : d < N) (hs : evL G L s = some (.sl o 0 len none)) (hx : evL G L x = some (.s (.slice ad 0 cap))) (hm : (o, AObj.cells e es false old) ∈ H) (hlen : len = old.length)
    (ht : elOf P t = some (e, es, b, z)) (htx : P.underlying tx = some (.slice e')) (k : SL P G B W ops os ((d, .sl o 0 len none) :: L) N ds H Q) : SL P G B W ops (⟨some d, .call ⟨.builtin .append, #[s, x], #[t, tx]⟩, ty, pos, af, none⟩ :: os) L N ds H Q :=
  SL_val _ hd (fun tm σ h1 h2 => by
    obtain ⟨hu, hsz0, info, zv, hi, hz, hsz, hnn, hbb, hzz⟩ := elOf_spec ht
    subst hnn hzz hbb hlen
    have hsrc : appRows info (.s (.slice ad 0 cap)) σ = some [] := by
      cases ad <;> simp [appRows, srcRows]
    have hg := h2.get _ hm
    unfold eff
    simp only [effCall, effBuiltin, List.map_cons, List.map_nil, h1.ev hs, h1.ev hx, effAppend, srcOk, htx, hu, hi, hz, hsrc, if_true, hg, List.length_nil, List.all_nil, Nat.zero_add, Nat.le_refl, and_self, hsz]) k
theorem SL_beql {t yt : TypeId} {x y : Operand} {a b : Bool} (hd : d < N) (hx : evL G L x = some (.s (.bool a))) (hy : evL G L y = some (.s (.bool b))) (he : evalP P (do eqGuard .eql t x y (.bool a) (.bool b); binOp .eql t (.bool a) (.bool b)) = some (.bool (a == b)))
    (k : SL P G B W ops os ((d, .s (.bool (a == b))) :: L) N ds H Q) : SL P G B W ops (⟨some d, .binOp .eql t x y yt, ty, pos, af, none⟩ :: os) L N ds H Q :=
  SL_bin hd hx hy rfl he k
end
end Go.Ab
/- Walks with maps: rules for the operations; the step of a range over a map in a walk. -/
namespace Go.Ab
variable {P : Program} {G : Gl} {B : AS} {W : List Nat} {ops : Array Oper} {os : List Oper} {L : List (Nat × AV)} {N : Nat} {ds : List Nat} {H H' : List (Nat × AObj)} {Q : Cfg → Prop} {d : Nat} {ty : TypeId} {pos : String} {af : Array Edge}
theorem SL_makeMap {t : TypeId} (hd : d < N) (k : ∀ id, B.next ≤ id → SL P G B W ops os ((d, .mp id) :: L) N ds ((id, .map [] 0) :: H) Q) :
    SL P G B W ops (⟨some d, .makeMap t none, ty, pos, af, none⟩ :: os) L N ds H Q :=
  SL_new _ (fun id => .mp id) hd (fun tm σ h1 h2 => by
    unfold eff
    simp only [effMakeMap, Option.map_none]) k
theorem SL_mapNew {t kt et : TypeId} {m k v : Operand} {o clock : Nat} {kv : Value} {val : AV} {es : List (Value × AV × Nat)} (ht : P.underlying t = some (.map kt et)) (hm : evL G L m = some (.mp o)) (hk : evL G L k = some (.s kv)) (hv : evL G L v = some val)
    (hf : findAt P kt kv es false = some none) (hu : Upd H o (.map es clock) (.map (es ++ [(kv, val, clock)]) (clock + 1)) H') (hw : B.next ≤ o ∨ o ∈ W) (K : SL P G B W ops os L N ds H' Q) :
    SL P G B W ops (⟨none, .mapUpdate t m k v, ty, pos, af, none⟩ :: os) L N ds H Q := fun tm σ h1 h2 => by
  refine wpl_op rfl ?_
  have he : eff P ⟨none, .mapUpdate t m k v, ty, pos, af, none⟩ (evT G tm) σ = some (.val uv, σ.set o (.map (es ++ [(kv, val, clock)]) (clock + 1))) := by
    unfold eff
    simp only [effMapUpdate, ht, h1.ev hm, h1.ev hk, h1.ev hv, h2.get _ hu.mem, hf]
  rw [he]
  exact wpn_val (K _ _ h1 (h2.set hu hw))
theorem SL_range {t kt et : TypeId} {m : Operand} {o clock : Nat} {es : List (Value × AV × Nat)} (hd : d < N) (ht : P.underlying t = some (.map kt et)) (hm : evL G L m = some (.mp o)) (hmem : (o, AObj.map es clock) ∈ H)
    (k : ∀ id, B.next ≤ id → SL P G B W ops os ((d, .ptr id 0 0) :: L) N ds ((id, .iter o clock [] clock) :: H) Q) :
    SL P G B W ops (⟨some d, .range t m, ty, pos, af, none⟩ :: os) L N ds H Q :=
  SL_new _ (fun id => .ptr id 0 0) hd (fun tm σ h1 h2 => by
    unfold eff
    simp only [effRange, ht, h1.ev hm, h2.get _ hmem]) k
theorem SL_entry {it : Operand} {i o since last clock st : Nat} {seen : List Nat} {es : List (Value × AV × Nat)} {kv : Value} {v : AV} {b : Nat} (hd : d < N) (hi : evL G L it = some (.ptr i 0 0)) (him : (i, AObj.iter o since seen last) ∈ H) (hom : (o, AObj.map es clock) ∈ H)
    (hst : seen.getLast? = some st) (hcl : clock = last) (hf : es.find? (fun e => e.2.2 == st) = some (kv, v, b)) (k : SL P G B W ops os ((d, mkTup [.s kv, v]) :: L) N ds H Q) :
    SL P G B W ops (⟨some d, .entry it, ty, pos, af, none⟩ :: os) L N ds H Q :=
  SL_val _ hd (fun tm σ h1 h2 => by
    unfold eff
    simp only [effEntry, h1.ev hi, h2.get _ him, h2.get _ hom, hst, hf]
    rw [if_pos hcl]) k
theorem SL_lookup {t kt et : TypeId} {m k : Operand} {o clock : Nat} {es : List (Value × AV × Nat)} {kv : Value} {i b : Nat} {k0 : Value} {v : AV} (hd : d < N) (ht : P.underlying t = some (.map kt et)) (hm : evL G L m = some (.mp o)) (hk : evL G L k = some (.s kv)) (hmem : (o, AObj.map es clock) ∈ H)
    (hf : findAt P kt kv es es.isEmpty = some (some (i, k0, v, b))) (K : SL P G B W ops os ((d, v) :: L) N ds H Q) :
    SL P G B W ops (⟨some d, .lookup t m k false, ty, pos, af, none⟩ :: os) L N ds H Q :=
  SL_val _ hd (fun tm σ h1 h2 => by
    unfold eff
    simp only [effLookup, h1.ev hm, ht, h1.ev hk, h2.get _ hmem, hf]
    rfl) K
theorem SL_lookupNo {t kt et : TypeId} {m k : Operand} {o clock : Nat} {es : List (Value × AV × Nat)} {kv z : Value} (hd : d < N) (ht : P.underlying t = some (.map kt et)) (hm : evL G L m = some (.mp o)) (hk : evL G L k = some (.s kv)) (hmem : (o, AObj.map es clock) ∈ H)
    (hf : findAt P kt kv es es.isEmpty = some none) (hz : (P.info? et).bind (·.zero) = some z) (K : SL P G B W ops os ((d, .s z) :: L) N ds H Q) :
    SL P G B W ops (⟨some d, .lookup t m k false, ty, pos, af, none⟩ :: os) L N ds H Q :=
  SL_val _ hd (fun tm σ h1 h2 => by
    unfold eff
    simp only [effLookup, h1.ev hm, ht, h1.ev hk, h2.get _ hmem, hf, hz]
    rfl) K
theorem CW.walk (hP : Fit P) (hg : Given P G) {c : Code} {tm : Tm} {σ : AS} {Φ : AEx → Cfg → Prop} (h : SC P G B W none c L N ds H Φ) (h1 : En tm N L) (h2 : He B W σ H ds) : CW P G c ⟨tm, ds, σ⟩ Φ := .run hP hg (h tm σ h1 h2)
theorem CW.nextL (hP : Fit P) (hg : Given P G) {id : Nat} {it : Operand} {i o since last clock : Nat} {seen : List Nat} {es : List (Value × AV × Nat)} {Φ : AEx → Cfg → Prop} {tm : Tm} {σ : AS} (hd : d < N)
    (hi : evL G L it = some (.ptr i 0 0)) (him : (i, AObj.iter o since seen last) ∈ H) (hom : (o, AObj.map es clock) ∈ H) (hold : ∀ e ∈ es, e.2.2 < since) (hsl : since ≤ last) (hw : B.next ≤ i ∨ i ∈ W)
    (hdone : (∀ e ∈ es, e.2.2 ∈ seen) → SL P G B W (⟨some d, .next it false, ty, pos, af, none⟩ :: os).toArray os ((d, .s (.tuple #[.bool false])) :: L) N ds H (Φ .normal))
    (hmore : ∀ k v b, (k, v, b) ∈ es → b ∉ seen → ∃ H', Upd H i (.iter o since seen last) (.iter o since (seen ++ [b]) clock) H' ∧
      SL P G B W (⟨some d, .next it false, ty, pos, af, none⟩ :: os).toArray os ((d, mkTup [.s (.bool true), .s k, v]) :: L) N ds H' (Φ .normal))
    (h1 : En tm N L) (h2 : He B W σ H ds) : CW P G (.region id (⟨some d, .next it false, ty, pos, af, none⟩ :: os).toArray false) ⟨tm, ds, σ⟩ Φ :=
  CW.next hP hg (h1.ev hi) (h2.get _ him) (h2.get _ hom) hold hsl (fun hall => hdone hall _ _ (h1.set hd _) h2) (fun k v b hm hb => by
    obtain ⟨H', hu, h⟩ := hmore k v b hm hb
    exact h _ _ (h1.set hd _) (h2.set hu hw))
def StL (B : AS) (W : List Nat) (L : List (Nat × AV)) (N : Nat) (ds : List Nat) (H : List (Nat × AObj)) (s : Cfg) : Prop := ∃ tm σ, s = ⟨tm, ds, σ⟩ ∧ En tm N L ∧ He B W σ H ds
theorem CW.walkL (hP : Fit P) (hg : Given P G) {c : Code} {s : Cfg} {Φ : AEx → Cfg → Prop} (h : SC P G B W none c L N ds H Φ) (hs : StL B W L N ds H s) : CW P G c s Φ := by
  obtain ⟨tm, σ, rfl, h1, h2⟩ := hs
  exact .walk hP hg h h1 h2
theorem CW.seqL (hP : Fit P) (hg : Given P G) {x y : Code} {s : Cfg} {Φ : AEx → Cfg → Prop} {J : Cfg → Prop} (h : SC P G B W none x L N ds H (Nxt J Φ)) (hs : StL B W L N ds H s) (k : ∀ s', J s' → CW P G y s' Φ) : CW P G (.seq x y) s Φ :=
  .seq ((CW.walkL hP hg h hs).mono fun e s' hq => by
    cases e with
    | normal => exact k s' hq
    | exit id => exact hq
    | ret => exact hq)
theorem StL.intro {tm : Tm} {σ : AS} (h1 : En tm N L) (h2 : He B W σ H ds) : StL B W L N ds H ⟨tm, ds, σ⟩ := ⟨tm, σ, rfl, h1, h2⟩
def PostC (P : Program) (fn : Func) (r : Value) : AEx → Cfg → Prop := fun e s => (e = .normal ∨ e = .ret) ∧ ∃ σ', dropDefs s.st s.defs = some σ' ∧ aresults P fn s.tmps σ' = some (.s r)
theorem Post.plain {fn : Func} {r : Value} {e : AEx} {s : Cfg} (h : Post P B fn (fun v _ => v = .s r) e s) : PostC P fn r e s := by
  obtain ⟨h1, σ', v, h2, h3, _, _, _, rfl⟩ := h
  exact ⟨h1, σ', h2, h3⟩
theorem CW.body {f : FuncId} {fn : Func} {c : Code} {as : List AV} {r : Value} (hf : P.funcs[f]? = some fn) (hb : fn.body = some c) (hN : max as.length fn.ntmps = N)
    (h : ∀ s, StL ⟨.e, 0, none⟩ [] (argsL as 0) N [] [] s → CW P G c s (PostC P fn r))
    {w : World} {vs : Array Value} (hG : GlOk (memOf w) (fun _ => none) G) (hc : Concs (memOf w) (fun _ => none) as vs.toList) (n : Nat) :
    CallsIn Fence.wide n P f vs w fun e w' => e = .returned r ∧ ∃ ρ σ', Rep w ρ σ' w' :=
  CW.call hf hb (h _ (.intro (by rw [hN]; exact hN ▸ En.args as fn.ntmps) (He.start rfl (fun _ _ => Tr.get_e _) List.nodup_nil (fun p hp => by cases hp)))) hG hc n
end Go.Ab
/- Calls whose answer is a boolean: either way. -/
namespace Go.Ab
variable {P : Program} {G : Gl}
section
variable {B : AS} {W : List Nat} {ops : Array Oper} {os : List Oper} {L : List (Nat × AV)} {N : Nat} {ds : List Nat} {H : List (Nat × AObj)} {Q : Cfg → Prop} {ty : TypeId} {pos : String} {af : Array Edge} {d : Nat}
theorem SL_callB {f : Operand} {xs : List Operand} {ats : Array TypeId} {g : FuncId} {first cap : Array Value} {vs as : List AV} {p : Prop} [Decidable p] (hd : d < N) (hf : evL G L f = some (.s (.func (.func g) first cap))) (hb : (P.funcs[g]?).map (·.body.isNone) = some false) (hx : evsL G L xs = some vs)
    (has : first.toList.map .s ++ vs ++ cap.toList.map .s = as) (hc : FnC P G g as [] (fun v Hn => v = .s (.bool (decide p)) ∧ Hn = [])) (kt : p → SL P G B W ops os ((d, .s (.bool true)) :: L) N ds H Q) (kf : ¬ p → SL P G B W ops os ((d, .s (.bool false)) :: L) N ds H Q) :
    SL P G B W ops (⟨some d, .call ⟨.value f, xs.toArray, ats⟩, ty, pos, af, none⟩ :: os) L N ds H Q := by
  refine SL_call hd hf hb hx has hc trivial List.nodup_nil ?_
  rintro _ _ _ ⟨rfl, rfl⟩
  rw [List.nil_append]
  by_cases hp : p
  · rw [decide_eq_true hp]; exact kt hp
  · rw [decide_eq_false hp]; exact kf hp
theorem SL_callb {f : Operand} {xs : List Operand} {ats : Array TypeId} {g : FuncId} {first cap : Array Value} {vs as : List AV} {b : Bool} (hd : d < N) (hf : evL G L f = some (.s (.func (.func g) first cap))) (hb : (P.funcs[g]?).map (·.body.isNone) = some false) (hx : evsL G L xs = some vs)
    (has : first.toList.map .s ++ vs ++ cap.toList.map .s = as) (hc : FnC P G g as [] (fun v Hn => v = .s (.bool b) ∧ Hn = [])) (kt : b = true → SL P G B W ops os ((d, .s (.bool true)) :: L) N ds H Q) (kf : b = false → SL P G B W ops os ((d, .s (.bool false)) :: L) N ds H Q) :
    SL P G B W ops (⟨some d, .call ⟨.value f, xs.toArray, ats⟩, ty, pos, af, none⟩ :: os) L N ds H Q := by
  refine SL_call hd hf hb hx has hc trivial List.nodup_nil ?_
  rintro _ _ _ ⟨rfl, rfl⟩
  rw [List.nil_append]
  cases hp : b with
  | true => exact kt hp
  | false => exact kf hp
end
end Go.Ab
/- Symbolic steps: a drawn region in the order of the text, told by one test. -/
namespace Go.Ab
variable {P : Program} {G : Gl}
def drawJ (l : List Oper) : Bool := drawnOk l.toArray && (plan l.toArray == idPl 0 l.length)
theorem SC_drawJ {B0 : AS} {W0 : List Nat} {l : List Oper} {L : List (Nat × AV)} {N : Nat} {H : List (Nat × AObj)} {Q : AEx → Cfg → Prop} {rd : Option Nat} {id : Nat} (hok : drawJ l = true) (h : ∀ B base, B0.next ≤ B.next → SI P G B0 W0 B base l 0 l [] L N H Q) : SC P G B0 W0 rd (.region id l.toArray true) L N [] H Q := by
  unfold drawJ at hok
  rw [Bool.and_eq_true, beq_iff_eq] at hok
  exact SC_drawI hok.1 hok.2 h
theorem SC_drawK {B0 : AS} {W0 : List Nat} {l : List Oper} {L : List (Nat × AV)} {N : Nat} {H : List (Nat × AObj)} {Q : AEx → Cfg → Prop} {rd : Option Nat} {id : Nat} (hok : drawJ l = true) (h : ∀ B base, B0.next ≤ B.next → (∀ p ∈ H, p.1 < base) → SI P G B0 W0 B base l 0 l [] L N H Q) : SC P G B0 W0 rd (.region id l.toArray true) L N [] H Q := by
  unfold drawJ at hok
  rw [Bool.and_eq_true, beq_iff_eq] at hok
  exact SC_drawn hok.1 hok.2 fun B' base h1 h2 h3 h4 => h B' base (DC.le ⟨h1, h2, h3⟩) h4 ⟨h1, h2, h3⟩ (List.drop_zero ..) (fun id hid => by cases hid)
theorem SI_opX {B0 B : AS} {W0 W : List Nat} {base k : Nat} {l os : List Oper} {L : List (Nat × AV)} {N : Nat} {H : List (Nat × AObj)} {Q : AEx → Cfg → Prop} {o : Oper} (j : Nat) (hj0 : B0.next ≤ j ∨ j ∈ W0) (hjb : j < base) (hc : (cls o == 3) = false) (h : SL P G B (j :: W) l.toArray [o] L N [] H (INext P G B0 W0 B base l k os (j :: W) N Q)) (hlt : LateL G L o := by first | exact .inl rfl | exact .inr ⟨_, _, rfl, rfl, rfl⟩) :
    SI P G B0 W0 B base l k (o :: os) W L N H Q := fun hd hk hW => by
  obtain ⟨h1, h2, h3⟩ := SI_get hk
  rw [List.length_cons, idPl_cons]
  refine SD_op (j :: W) [] h1 hc (fun _ h => List.mem_cons_of_mem _ h) (fun p hp => by cases hp) (fun k hk => by cases hk) (.inl rfl) (SL_mono h fun s ⟨tm, σ, L', H', e, a, b, c⟩ => ⟨tm, σ, L', H', e, a, b, c hd h2 fun id hid => ?_⟩) hlt
  rcases List.mem_cons.1 hid with rfl | hid
  · exact ⟨hj0, by omega⟩
  · have := hW id hid
    exact ⟨this.1, by omega⟩
end Go.Ab
/- Symbolic steps: copies between own lists; parts of own lists of known room. -/
namespace Go.Ab
variable {P : Program} {G : Gl}
section
variable {B : AS} {W : List Nat} {ops : Array Oper} {os : List Oper} {L : List (Nat × AV)} {N : Nat} {ds : List Nat} {H : List (Nat × AObj)} {Q : Cfg → Prop} {ty : TypeId} {pos : String} {af : Array Edge} {d : Nat}
theorem SL_slice_from {t e e' : TypeId} {x y : Operand} {id n es l : Nat} {rows : List (List AV)} {kk : IntKind} {m : Int} (hd : d < N) (hx : evL G L x = some (.sl id 0 n none)) (hm : (id, AObj.cells e' es true rows) ∈ H) (ht : sliceOf P t = some (e, es)) (hlen : rows.length = n) (hy : evL G L y = some (.s (.int kk m))) (hl : m = l) (hln : l < n)
    (k : SL P G B W ops os ((d, .sl id l (n - l) none) :: L) N ds H Q) : SL P G B W ops (⟨some d, .slice t x (some y) none none, ty, pos, af, none⟩ :: os) L N ds H Q :=
  SL_val _ hd (fun tm σ h1 h2 => by
    obtain ⟨hu, hs⟩ := sliceOf_spec ht
    subst hl hlen
    have hb1 : bound (none : Option AV) rows.length rows.length = some rows.length := rfl
    have hb3 : bound (some (AV.s (.int kk (l : Int)))) 0 rows.length = some l := by
      unfold bound
      simp only
      rw [if_pos ⟨by omega, by omega⟩]; rfl
    have hne : ¬ rows.length = l := by omega
    unfold eff
    simp only [effSliceTop, effSliceOp, h1.ev hx, isRef, if_true, effSlice, Option.map_none, Option.map_some, h1.ev hy, Option.isSome_none, Bool.false_and, Bool.false_eq_true, if_false, hu, hs, h2.get _ hm, Nat.zero_add, Nat.le_refl, and_self, Nat.sub_zero, slBounds, hb1, hb3, Option.bind_some, hne, withSt]) k
theorem SL_slice_to {t e e' : TypeId} {x y : Operand} {id n es h : Nat} {rows : List (List AV)} {kk : IntKind} {m : Int} (hd : d < N) (hx : evL G L x = some (.sl id 0 n none)) (hm : (id, AObj.cells e' es true rows) ∈ H) (ht : sliceOf P t = some (e, es)) (hlen : rows.length = n) (hy : evL G L y = some (.s (.int kk m))) (hl : m = h) (hln : h ≤ n) (h0 : 0 < n)
    (k : SL P G B W ops os ((d, .sl id 0 h none) :: L) N ds H Q) : SL P G B W ops (⟨some d, .slice t x none (some y) none, ty, pos, af, none⟩ :: os) L N ds H Q :=
  SL_val _ hd (fun tm σ h1 h2 => by
    obtain ⟨hu, hs⟩ := sliceOf_spec ht
    subst hl hlen
    have hb1 : bound (none : Option AV) rows.length rows.length = some rows.length := rfl
    have hb2 : bound (some (AV.s (.int kk (h : Int)))) rows.length rows.length = some h := by
      unfold bound
      simp only
      rw [if_pos ⟨by omega, by omega⟩]; rfl
    have hb3 : bound (none : Option AV) 0 h = some 0 := rfl
    have hne : ¬ rows.length = 0 := by omega
    unfold eff
    simp only [effSliceTop, effSliceOp, h1.ev hx, isRef, if_true, effSlice, Option.map_none, Option.map_some, h1.ev hy, Option.isSome_none, Bool.false_and, Bool.false_eq_true, if_false, hu, hs, h2.get _ hm, Nat.zero_add, Nat.le_refl, and_self, Nat.sub_zero, slBounds, hb1, hb2, hb3, Option.bind_some, hne, withSt]) k
theorem SL_copy {t tx e e1 e2 : TypeId} {s x : Operand} {es o i n id0 i0 n0 : Nat} {c c0 : Option Nat} {ex ex0 : Bool} {rows rows0 rows' : List (List AV)} {H' : List (Nat × AObj)} (hd : d < N) (hs : evL G L s = some (.sl o i n c)) (hx : evL G L x = some (.sl id0 i0 n0 c0)) (hm0 : (id0, AObj.cells e2 es ex0 rows0) ∈ H) (hm : (o, AObj.cells e1 es ex rows) ∈ H)
    (ht : sliceOf P t = some (e, es)) (hle0 : i0 + n0 ≤ rows0.length) (hle : i + n ≤ rows.length) (hc : ((rows0.drop i0).take n0).all (·.all isCell) = true) (m : Nat) (hmn : min n0 n = m) (hr : rows.take i ++ ((rows0.drop i0).take n0).take m ++ rows.drop (i + m) = rows')
    (hu : Upd H o (.cells e1 es ex rows) (.cells e1 es ex rows') H') (ho : B.next ≤ o ∨ o ∈ W)
    (k : SL P G B W ops os ((d, .s (.int .i64 m)) :: L) N ds H' Q) : SL P G B W ops (⟨some d, .call ⟨.builtin .copy, #[s, x], #[t, tx]⟩, ty, pos, af, none⟩ :: os) L N ds H Q := fun tm σ h1 h2 => by
  refine wpl_op rfl ?_
  have hnl : ((rows0.drop i0).take n0).length = n0 := by rw [List.length_take, List.length_drop]; omega
  have he : eff P ⟨some d, .call ⟨.builtin .copy, #[s, x], #[t, tx]⟩, ty, pos, af, none⟩ (evT G tm) σ = some (.val (.s (.int .i64 m)), σ.set o (.cells e1 es ex rows')) := by
    obtain ⟨hu1, hs1⟩ := sliceOf_spec ht
    have hsrc : srcRows es (.sl id0 i0 n0 c0) σ = some ((rows0.drop i0).take n0) := by
      simp only [srcRows, h2.get _ hm0]
      rw [if_pos ⟨trivial, hle0⟩]
    have h0 : (#[t, tx] : Array TypeId)[0]? = some t := rfl
    unfold eff
    simp only [effCall, effBuiltin, List.map_cons, List.map_nil, h1.ev hs, h1.ev hx, effCopy, h0, hu1, hs1, hsrc, h2.get _ hm]
    rw [if_pos ⟨trivial, hle, hc, .inl rfl⟩, hnl, hmn, hr]
  rw [he]
  exact wpn_val (k _ _ (h1.set hd _) (h2.set hu ho))
end
end Go.Ab
/- Symbolic steps: drawn regions in any planned order, with looks that must stand. -/
namespace Go.Ab
variable {P : Program} {G : Gl}
def SJ (P : Program) (G : Gl) (B0 : AS) (W0 : List Nat) (B : AS) (base : Nat) (l : List Oper) (r : List (Nat × List Nat)) (W : List Nat) (RC : List (Nat × Nat)) (L : List (Nat × AV)) (N : Nat) (H : List (Nat × AObj)) (Q : AEx → Cfg → Prop) : Prop :=
  DC B0 B base l.length → (∀ id ∈ W, (B0.next ≤ id ∨ id ∈ W0) ∧ ∀ p ∈ r, id ≠ base + p.1) → SD P G B W base l.toArray r L N H RC (DFin P G B0 W0 B N Q)
section
variable {B0 B : AS} {W0 W : List Nat} {base : Nat} {l : List Oper} {r : List (Nat × List Nat)} {RC : List (Nat × Nat)} {L : List (Nat × AV)} {N : Nat} {H : List (Nat × AObj)} {Q : AEx → Cfg → Prop}
theorem SC_drawP {rd : Option Nat} {id : Nat} (pl : List (Nat × List Nat)) (hok : (drawnOk l.toArray && (plan l.toArray == pl)) = true) (h : ∀ B base, B0.next ≤ B.next → (∀ p ∈ H, p.1 < base) → base ≤ B.next → SJ P G B0 W0 B base l pl [] [] L N H Q) : SC P G B0 W0 rd (.region id l.toArray true) L N [] H Q := by
  rw [Bool.and_eq_true, beq_iff_eq] at hok
  exact SC_drawn hok.1 hok.2 fun B' base h1 h2 h3 h4 => h B' base (DC.le ⟨h1, h2, h3⟩) h4 (by omega) ⟨h1, h2, h3⟩ (fun id hid => by cases hid)
theorem SJ_nil (h : ∀ tm σ, En tm N L → He B0 W0 σ H [] → Q .normal ⟨tm, [], σ⟩) : SJ P G B0 W0 B base l [] W RC L N H Q := fun _ hW =>
  SD_nil fun tm σ h1 h2 => ⟨W, tm, σ, L, H, rfl, h1, h2, fun id hid => (hW id hid).1, h⟩
def JNext (P : Program) (G : Gl) (B0 : AS) (W0 : List Nat) (B : AS) (base : Nat) (l : List Oper) (r : List (Nat × List Nat)) (W : List Nat) (RC : List (Nat × Nat)) (N : Nat) (Q : AEx → Cfg → Prop) (s : Cfg) : Prop :=
  ∃ tm' σ' L' H', s = ⟨tm', [], σ'⟩ ∧ En tm' N L' ∧ He B W σ' H' [] ∧ SJ P G B0 W0 B base l r W RC L' N H' Q
theorem SJ_op {i : Nat} {o : Oper} (hi : l[i]? = some o) (hc : (cls o == 3) = false) (hrc : (RC.all fun p => p.1 != i) = true) (h : SL P G B W l.toArray [o] L N [] H (JNext P G B0 W0 B base l r W RC N Q)) (hlt : LateL G L o := by first | exact .inl rfl | exact .inr ⟨_, _, rfl, rfl, rfl⟩) : SJ P G B0 W0 B base l ((i, []) :: r) W RC L N H Q := fun hd hW =>
  SD_op W RC (by simpa using hi) hc (fun _ h => h) (fun p hp => by simpa using List.all_eq_true.1 hrc p hp) (fun k hk => by cases hk) (.inl rfl) (SL_mono h fun s ⟨tm, σ, L', H', e, a, b, c⟩ => ⟨tm, σ, L', H', e, a, b, c hd fun id hid => ⟨(hW id hid).1, fun p hp => (hW id hid).2 p (List.mem_cons_of_mem _ hp)⟩⟩) hlt
theorem SJ_look {i : Nat} {o : Oper} {a : Operand} {v : AV} (id : Nat) (hi : l[i]? = some o) (ha : lookAt o = some a) (hv : evL G L a = some v) (hid : idOf v = some id) (hnW : id ∉ W) (hlB : id < base) (hbB : base ≤ B.next) (hc : (cls o == 3) = false) (hrc : (RC.all fun p => p.1 != i) = true) (h : SL P G B W l.toArray [o] L N [] H (JNext P G B0 W0 B base l r W ((i, id) :: RC) N Q)) (hlt : LateL G L o := by first | exact .inl rfl | exact .inr ⟨_, _, rfl, rfl, rfl⟩) :
    SJ P G B0 W0 B base l ((i, []) :: r) W RC L N H Q := fun hd hW =>
  SD_op W ((i, id) :: RC) (by simpa using hi) hc (fun _ h => h) (fun p hp => by simpa using List.all_eq_true.1 hrc p hp) (fun k hk => by cases hk) (.inr ⟨a, v, id, ha, hv, hid, hnW, by omega, rfl⟩) (SL_mono h fun s ⟨tm, σ, L', H', e, a, b, c⟩ => ⟨tm, σ, L', H', e, a, b, c hd fun id hid => ⟨(hW id hid).1, fun p hp => (hW id hid).2 p (List.mem_cons_of_mem _ hp)⟩⟩) hlt
theorem SJ_turn {i : Nat} {fl : List Nat} {o : Oper} (js : List Nat) (hj0 : ∀ j ∈ js, B0.next ≤ j ∨ j ∈ W0) (hjb : ∀ j ∈ js, j < base) (hbB : base ≤ B.next) (hi : l[i]? = some o) (hc : (cls o == 3) = false) (hrc : (RC.all fun p => p.1 != i) = true) (hfl : ∀ k ∈ fl, ∃ id, (k, id) ∈ RC ∧ id ∉ js ++ W ∧ id < base)
    (h : SL P G B (js ++ W) l.toArray [o] L N [] H (JNext P G B0 W0 B base l r (js ++ W) RC N Q)) (hlt : LateL G L o := by first | exact .inl rfl | exact .inr ⟨_, _, rfl, rfl, rfl⟩) : SJ P G B0 W0 B base l ((i, fl) :: r) W RC L N H Q := fun hd hW =>
  SD_op (js ++ W) RC (by simpa using hi) hc (fun _ h => List.mem_append_right _ h) (fun p hp => by simpa using List.all_eq_true.1 hrc p hp) (fun k hk => by
    obtain ⟨id, h1, h2, h3⟩ := hfl k hk
    exact ⟨id, h1, h2, by omega⟩) (.inl rfl) (SL_mono h fun s ⟨tm, σ, L', H', e, a, b, c⟩ => ⟨tm, σ, L', H', e, a, b, c hd fun id hid => by
      rcases List.mem_append.1 hid with hid | hid
      · exact ⟨hj0 id hid, fun p hp e => by have := hjb id hid; omega⟩
      · exact ⟨(hW id hid).1, fun p hp => (hW id hid).2 p (List.mem_cons_of_mem _ hp)⟩⟩) hlt
theorem SJ_new {i d : Nat} {op : Op} {ty : TypeId} {pos : String} {af : Array Edge} (ob : AObj) (v : Nat → AV) (hi : l[i]? = some ⟨some d, op, ty, pos, af, none⟩) (hc : (cls ⟨some d, op, ty, pos, af, none⟩ == 3) = true) (hd : d < N) (hrc : (RC.all fun p => p.1 != i) = true) (hr : (r.all fun p => p.1 != i) = true)
    (he : ∀ tm σ, En tm N L → eff P ⟨some d, op, ty, pos, af, none⟩ (evT G tm) σ = some (.val (v σ.newId), σ.push ob))
    (h : ∀ id, B0.next ≤ id → SJ P G B0 W0 B base l r (id :: W) RC ((d, v id) :: L) N ((id, ob) :: H) Q) : SJ P G B0 W0 B base l ((i, []) :: r) W RC L N H Q := fun hdc hW => by
  have hil : i < l.length := (List.getElem?_eq_some_iff.1 hi).1
  have hlt : base + i < B.next := by have := hdc.hi; omega
  have hnW : base + i ∉ W := fun hm => (hW _ hm).2 (i, []) List.mem_cons_self rfl
  have hfree := hdc.free (base + i) (Nat.le_add_right _ _)
  intro tm σ rc hE hH hR
  have hnH : base + i ∉ H.map (·.1) := fun hm => by
    obtain ⟨p, hp, hpe⟩ := List.mem_map.1 hm
    have := hH.keep (base + i) hlt hnW
    rw [hfree] at this
    exact no_obj (hH.get _ hp) hpe this
  exact SD_new ob v (by simpa using hi) hc hd (fun p hp => by simpa using List.all_eq_true.1 hrc p hp) hnW hnH hlt hfree he (h (base + i) (Nat.le_trans hdc.lo (Nat.le_add_right _ _)) hdc fun id hid => by
    rcases List.mem_cons.1 hid with rfl | hid
    · refine ⟨.inl (Nat.le_trans hdc.lo (Nat.le_add_right _ _)), fun p hp e => ?_⟩
      have := List.all_eq_true.1 hr p hp
      simp at this
      omega
    · exact ⟨(hW id hid).1, fun p hp => (hW id hid).2 p (List.mem_cons_of_mem _ hp)⟩) tm σ rc hE hH hR
theorem SJ_alloc {i d : Nat} {t : TypeId} {cs : List AV} {ty : TypeId} {pos : String} {af : Array Edge} (hi : l[i]? = some ⟨some d, .alloc t, ty, pos, af, none⟩) (hd : d < N) (hrc : (RC.all fun p => p.1 != i) = true) (hr : (r.all fun p => p.1 != i) = true) (ht : zeroOf P t = some cs)
    (h : ∀ id, B0.next ≤ id → SJ P G B0 W0 B base l r (id :: W) RC ((d, .ptr id 0 0) :: L) N ((id, .cells t cs.length true [cs]) :: H) Q) : SJ P G B0 W0 B base l ((i, []) :: r) W RC L N H Q :=
  SJ_new _ (fun id => .ptr id 0 0) hi rfl hd hrc hr (fun tm σ h1 => by
    unfold zeroOf at ht
    simp only [Option.map_eq_some_iff] at ht
    obtain ⟨z, hz, rfl⟩ := ht
    unfold eff
    simp only [effAlloc, hz, Option.map_some, effBox]) h
theorem SJ_makeSlice {i d : Nat} {t e : TypeId} {lo c : Operand} {es b : Nat} {z : List AV} {kk kk' : IntKind} {n m : Int} {ty : TypeId} {pos : String} {af : Array Edge} (hi : l[i]? = some ⟨some d, .makeSlice t lo c, ty, pos, af, none⟩) (hd : d < N) (hrc : (RC.all fun p => p.1 != i) = true) (hr : (r.all fun p => p.1 != i) = true)
    (hl : evL G L lo = some (.s (.int kk n))) (hc : evL G L c = some (.s (.int kk' m))) (ht : elOf P t = some (e, es, b, z)) (h0 : 0 ≤ n) (hnm : n ≤ m) (hm : m < 2 ^ 47) (hb : b * m ≤ 2 ^ 48)
    (h : ∀ id, B0.next ≤ id → SJ P G B0 W0 B base l r (id :: W) RC ((d, .sl id 0 n.toNat none) :: L) N ((id, .cells e es true (List.replicate m.toNat z)) :: H) Q) : SJ P G B0 W0 B base l ((i, []) :: r) W RC L N H Q :=
  SJ_new _ (fun id => .sl id 0 n.toNat none) hi rfl hd hrc hr (fun tm σ h1 => by
    obtain ⟨hu, hs, info, zv, hif, hz, hsz, hn, hbb, hzz⟩ := elOf_spec ht
    unfold eff
    simp only [effMakeSlice, h1.ev hl, h1.ev hc, hu, hif, hz]
    rw [if_pos ⟨hsz, h0, hnm, hm, by rw [hbb]; exact hb⟩, hn, hzz]) h
theorem SJ_buildSlice {i d : Nat} {t e : TypeId} {len es b : Nat} {z : List AV} {ps : Array (Nat × Operand)} {vs : List (Nat × AV)} {rows : List (List AV)} {ty : TypeId} {pos : String} {af : Array Edge} (hi : l[i]? = some ⟨some d, .buildSlice t len ps, ty, pos, af, none⟩) (hd : d < N) (hrc : (RC.all fun p => p.1 != i) = true) (hr : (r.all fun p => p.1 != i) = true)
    (hx : partsL G L ps.toList = some vs) (ht : elOf P t = some (e, es, b, z)) (hb : len * es ≤ 2 ^ 24) (hrow : setRows es (List.replicate len z) vs = some rows)
    (h : ∀ id, B0.next ≤ id → SJ P G B0 W0 B base l r (id :: W) RC ((d, .sl id 0 len none) :: L) N ((id, .cells e es true rows) :: H) Q) : SJ P G B0 W0 B base l ((i, []) :: r) W RC L N H Q :=
  SJ_new _ (fun id => .sl id 0 len none) hi rfl hd hrc hr (fun tm σ h1 => by
    obtain ⟨hu, hs, info, zv, hif, hz, hsz, hn, hbb, hzz⟩ := elOf_spec ht
    subst hn hzz
    unfold eff
    simp only [effBuildSlice, h1.parts hx, hu, hif, hz]
    rw [if_pos ⟨hsz, hb⟩, hrow]) h
end
end Go.Ab
/- Drawn regions where blocks are deferred: the marks stand. -/
namespace Go.Ab
variable {P : Program} {G : Gl}
section
variable {ex : Option Nat → Code → Cfg → Option (AEx × Cfg)}
theorem stepD_ds {st : Bool} {base : Nat} {ops : Array Oper} {i : Nat} {fl : List Nat} {tm : Tm} {ds ds' : List Nat} {σ : AS} {rc : Rec} {s : Cfg} {rc' : Rec} (h : stepD P G ex st base ops i fl ⟨tm, ds, σ⟩ rc = some (s, rc')) :
    s.defs = ds ∧ stepD P G ex st base ops i fl ⟨tm, ds', σ⟩ rc = some (⟨s.tmps, ds', s.st⟩, rc') := by
  unfold stepD at h ⊢
  split at h
  · cases h
  · rename_i o ho
    simp only at h ⊢
    split at h
    · rename_i v σ' hr
      by_cases hc : (stands rc σ' fl && lateOk st base ops i o (if Region.wanted o (ayielded ops tm) then readOf o (evT G tm) σ else none)) = true
      · rw [if_pos hc] at h
        cases h
        refine ⟨rfl, ?_⟩
        simp only [hr]
        rw [if_pos hc]
      · rw [if_neg hc] at h
        cases h
    · cases h
theorem runD_ds {st : Bool} {base : Nat} {ops : Array Oper} {ds ds' : List Nat} : ∀ {r : List (Nat × List Nat)} {tm : Tm} {σ : AS} {rc : Rec} {s : Cfg}, runD P G ex st base ops r ⟨tm, ds, σ⟩ rc = some s →
    s.defs = ds ∧ runD P G ex st base ops r ⟨tm, ds', σ⟩ rc = some ⟨s.tmps, ds', s.st⟩
  | [], tm, σ, rc, s, h => by
    cases h; exact ⟨rfl, rfl⟩
  | (i, fl) :: r, tm, σ, rc, s, h => by
    unfold runD at h ⊢
    split at h
    · rename_i s1 rc1 h1
      obtain ⟨h2, h3⟩ := stepD_ds (ds' := ds') h1
      obtain ⟨tm1, d1, σ1⟩ := s1
      simp only at h2 h3
      subst h2
      rw [h3]
      exact runD_ds h
    · cases h
theorem stDraw_ds {ops : Array Oper} {tm : Tm} {ds ds' : List Nat} {σ : AS} {e : AEx} {s : Cfg} (h : stDraw P G ex ops ⟨tm, ds, σ⟩ = some (e, s)) : e = .normal ∧ s.defs = ds ∧ stDraw P G ex ops ⟨tm, ds', σ⟩ = some (e, ⟨s.tmps, ds', s.st⟩) := by
  have key : ∀ st, stDrawS P G ex st ops ⟨tm, ds, σ⟩ = some (e, s) → e = .normal ∧ s.defs = ds ∧ stDrawS P G ex st ops ⟨tm, ds', σ⟩ = some (e, ⟨s.tmps, ds', s.st⟩) := fun st h => by
    obtain ⟨objs, next, slot⟩ := σ
    unfold stDrawS at h ⊢
    simp only at h ⊢
    split at h
    · rename_i s' h1
      cases h
      obtain ⟨h2, h3⟩ := runD_ds (ds' := ds') h1
      rw [h3]
      exact ⟨rfl, h2, rfl⟩
    · cases h
  unfold stDraw at h ⊢
  split at h
  · rename_i hc; rw [if_pos hc]; exact key _ h
  · rename_i hc
    rw [if_neg hc]
    split at h
    · rename_i hc2; rw [if_pos hc2]; exact key _ h
    · cases h
end
def marks (ds : List Nat) : List (Nat × AObj) := ds.map fun d => (d, .defr)
theorem marks_keys (ds : List Nat) : (marks ds).map (·.1) = ds := by
  unfold marks; rw [List.map_map]; exact List.map_id _
theorem He.toMarks {B : AS} {W : List Nat} {σ : AS} {H : List (Nat × AObj)} {ds : List Nat} (h : He B W σ H ds) : He B W σ (marks ds ++ H) [] :=
  ⟨h.slot, h.fresh, h.le, by
    rw [List.map_append, marks_keys, List.nodup_append]
    exact ⟨h.dnodup, h.nodup, fun a ha b hb e => h.dH a ha (e ▸ hb)⟩, fun p hp => by
    rcases List.mem_append.1 hp with hp | hp
    · obtain ⟨d, hd, rfl⟩ := List.mem_map.1 hp
      exact h.dget d hd
    · exact h.get p hp, h.keep, (fun d hd => by cases hd), (fun d hd => by cases hd), List.nodup_nil, (fun d hd => by cases hd)⟩
theorem He.ofMarks {B : AS} {W : List Nat} {σ : AS} {H : List (Nat × AObj)} {ds : List Nat} (h : He B W σ (marks ds ++ H) []) (hd : ∀ d ∈ ds, B.next ≤ d) : He B W σ H ds := by
  have hn := h.nodup
  rw [List.map_append, marks_keys, List.nodup_append] at hn
  exact ⟨h.slot, h.fresh, h.le, hn.2.1, fun p hp => h.get p (List.mem_append_right _ hp), h.keep, hd, fun d hdd => h.get (d, .defr) (List.mem_append_left _ (List.mem_map.2 ⟨d, hdd, rfl⟩)), hn.1, fun d hdd hm => hn.2.2 d hdd d hm rfl⟩
theorem SC_ds {B : AS} {W : List Nat} {rd : Option Nat} {L : List (Nat × AV)} {N : Nat} {H : List (Nat × AObj)} {ds : List Nat} {Q : AEx → Cfg → Prop} {id : Nat} {ops : Array Oper}
    (h : SC P G B W rd (.region id ops true) L N [] (marks ds ++ H) (Nxt (fun s => ∃ tm σ L' H', s = ⟨tm, [], σ⟩ ∧ En tm N L' ∧ He B W σ (marks ds ++ H') [] ∧ ∀ tm σ, En tm N L' → He B W σ H' ds → Q .normal ⟨tm, ds, σ⟩) (fun _ _ => False))) :
    SC P G B W rd (.region id ops true) L N ds H Q := by
  intro tm σ h1 h2
  obtain ⟨n, e, s, h3, h4⟩ := h tm σ h1 h2.toMarks
  cases n with
  | zero => cases h3
  | succ n =>
    have h3' : stDraw P G (exec P G n) ops ⟨tm, [], σ⟩ = some (e, s) := h3
    obtain ⟨rfl, h5, h6⟩ := stDraw_ds (ds' := ds) h3'
    obtain ⟨tm', σ', L', H', rfl, h7, h8, h9⟩ := h4
    exact ⟨n + 1, .normal, _, h6, h9 _ _ h7 (h8.ofMarks h2.dle)⟩
theorem SJ_nd {B0 B : AS} {W0 W : List Nat} {base : Nat} {l : List Oper} {r : List (Nat × List Nat)} {RC : List (Nat × Nat)} {L : List (Nat × AV)} {N : Nat} {H : List (Nat × AObj)} {Q : AEx → Cfg → Prop} (k : (H.map (·.1)).Nodup → SJ P G B0 W0 B base l r W RC L N H Q) : SJ P G B0 W0 B base l r W RC L N H Q :=
  fun hd hW tm σ rc h1 h2 => k h2.nodup hd hW tm σ rc h1 h2
end Go.Ab
