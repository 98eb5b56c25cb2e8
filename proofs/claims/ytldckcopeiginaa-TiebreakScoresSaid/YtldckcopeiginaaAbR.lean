/- What is turned about in a region that draws its order: the parts that do not see one another. -/
import Derived.Test.YtldckcopeiginaaAbQ
namespace Go.Ab
variable {P : Program} {G : Gl} {N : Nat} {σ σ' : AS}

section tree
variable {α : Type}
theorem setW_comm : ∀ (p q : List Bool) (t : Tr α) (u v : α), p ≠ q → (t.setW p u).setW q v = (t.setW q v).setW p u
  | [], [], _, _, _, h => absurd rfl h
  | [], c :: q, t, u, v, _ => by cases t <;> cases c <;> rfl
  | b :: p, [], t, u, v, _ => by cases t <;> cases b <;> rfl
  | b :: p, c :: q, t, u, v, h => by
    by_cases e : p = q
    · subst e
      have hbc : b ≠ c := fun e => h (by rw [e])
      cases t <;> cases b <;> cases c <;> first | exact absurd rfl hbc | rfl
    · have ih := fun t => setW_comm p q t u v e
      simp only [Tr.setW] at ih
      cases t <;> cases b <;> cases c <;> simp only [Tr.setW] <;> first | rfl | (congr 1; exact ih _)
theorem Tr.set_comm (t : Tr α) {i j : Nat} (u v : α) (h : i ≠ j) : (t.set i u).set j v = (t.set j v).set i u :=
  setW_comm _ _ t u v fun e => h (way_inj e)
end tree

def upStamp : Option (Nat × AObj) → Nat
  | some (n, _) => n + 1
  | none => 0
theorem putObj_eq (t : Tr (Nat × AObj)) (j : Nat) (x : AObj) : putObj t j x = t.set j (upStamp (t.get j), x) := by
  unfold putObj upStamp
  cases t.get j <;> rfl
theorem putObj_comm (t : Tr (Nat × AObj)) {j k : Nat} (x y : AObj) (h : j ≠ k) : putObj (putObj t j x) k y = putObj (putObj t k y) j x := by
  have h1 : (putObj t j x).get k = t.get k := by rw [putObj_get, if_neg h]
  have h2 : (putObj t k y).get j = t.get j := by rw [putObj_get, if_neg (fun e => h e.symm)]
  rw [putObj_eq (putObj t j x) k y, h1, putObj_eq (putObj t k y) j x, h2, putObj_eq t j x, putObj_eq t k y, Tr.set_comm _ _ _ h]

theorem Tm.set_comm (tm : Tm) {i j : Nat} (u v : AV) (h : i ≠ j) : (tm.set i u).set j v = (tm.set j v).set i u := by
  obtain ⟨n, t⟩ := tm
  unfold Tm.set
  by_cases hi : i < n <;> by_cases hj : j < n <;> simp [hi, hj]
  exact Tr.set_comm t u v h
theorem put_comm (tm : Tm) {x y : Option Tmp} (u v : AV) (h : ∀ d, x = some d → y ≠ some d) : put (put tm x u) y v = put (put tm y v) x u := by
  cases x with
  | none => rfl
  | some d => cases y with
    | none => rfl
    | some e => exact Tm.set_comm tm u v fun he => h d rfl (by rw [he])

theorem all_congr' {α : Type} {f g : α → Bool} : ∀ {l : List α}, (∀ x ∈ l, f x = g x) → l.all f = l.all g
  | [], _ => rfl
  | x :: l, h => by
    simp only [List.all_cons]
    rw [h x (by simp), all_congr' fun y hy => h y (by simp [hy])]

section congr
variable {o : Oper} {ev ev' : Operand → AV}
theorem effPure_congr (hsel : ∀ cs b, o.op ≠ .select cs b) (h : ∀ z ∈ o.op.operands, ev z = ev' z) : effPure P o ev = effPure P o ev' := by
  unfold effPure
  have h1 : o.op.operands.toList.all (fun x => !isRef (ev x)) = o.op.operands.toList.all (fun x => !isRef (ev' x)) := all_congr' fun x hx => by rw [h x (by simpa using hx)]
  have h2 : execOp (fun x => (sOf (ev x)).getD undef) o = execOp (fun x => (sOf (ev' x)).getD undef) o := execOp_congr o hsel fun x hx => by rw [h x hx]
  rw [h1, h2]

theorem map_ev {xs : List Operand} (h : ∀ z ∈ xs, ev z = ev' z) : xs.map ev = xs.map ev' := List.map_congr_left h
theorem opt_ev {x : Option Operand} (h : ∀ z ∈ x.toArray, ev z = ev' z) : x.map ev = x.map ev' := by
  cases x with
  | none => rfl
  | some x => simp [h x (by simp)]

theorem eff_congr (σ : AS) (h : ∀ z ∈ o.op.operands, ev z = ev' z) : eff P o ev σ = eff P o ev' σ := by
  cases ho : o.op <;> (have h' := h; rw [ho] at h'; simp only [Op.operands] at h')
  case move x => unfold eff; rw [ho]; simp only [h' x (by simp)]
  case assign x => unfold eff; rw [ho]; simp only [h' x (by simp)]
  case pick c a b => unfold eff; rw [ho]; simp only [effPick, h' a (by simp), h' b (by simp), h' c (by simp)]
  case alloc e => unfold eff; rw [ho]
  case box e v => unfold eff; rw [ho]; simp only [h' v (by simp)]
  case build t ps =>
    unfold eff; rw [ho]
    simp only
    congr 2
    exact List.map_congr_left fun p hp => by rw [h' p.2 (by simp; exact ⟨p.1, by simpa using hp⟩)]
  case buildSlice t n ps =>
    unfold eff; rw [ho]
    simp only
    congr 1
    exact List.map_congr_left fun p hp => by rw [h' p.2 (by simp; exact ⟨p.1, by simpa using hp⟩)]
  case load t a => unfold eff; rw [ho]; simp only [h' a (by simp)]
  case store t a v => unfold eff; rw [ho]; simp only [h' a (by simp), h' v (by simp)]
  case nilCheck x => unfold eff; rw [ho]; simp only [effNil, h' x (by simp), effPure_congr (P := P) (fun cs b => by rw [ho]; simp) h]
  case binOp op t x y yt => unfold eff; rw [ho]; simp only [h' x (by simp), h' y (by simp)]
  case unOp op t x => unfold eff; rw [ho]; simp only [effPure_congr (P := P) (fun cs b => by rw [ho]; simp) h]
  case convert s d x => unfold eff; rw [ho]; simp only [effPure_congr (P := P) (fun cs b => by rw [ho]; simp) h]
  case makeInterface t x => unfold eff; rw [ho]; simp only [h' x (by simp)]
  case makeFunc fn first cap =>
    unfold eff; rw [ho]
    simp only
    rw [map_ev (xs := first.toList) fun z hz => h' z (by simp; left; simpa using hz), map_ev (xs := cap.toList) fun z hz => h' z (by simp; right; simpa using hz)]
  case makeMap t r => unfold eff; rw [ho]; simp only [opt_ev h']
  case makeSlice t l c => unfold eff; rw [ho]; simp only [h' l (by simp), h' c (by simp)]
  case slice t x lo hi mx =>
    unfold eff; rw [ho]
    simp only [effSliceOp, h' x (by simp), effPure_congr (P := P) (fun cs b => by rw [ho]; simp) h, opt_ev (x := lo) (fun z hz => h' z (by simp at hz ⊢; simp [hz])), opt_ev (x := hi) (fun z hz => h' z (by simp at hz ⊢; simp [hz])),
      opt_ev (x := mx) (fun z hz => h' z (by simp at hz ⊢; simp [hz]))]
  case fieldAddr t x f => unfold eff; rw [ho]; simp only [h' x (by simp)]
  case field t x f => unfold eff; rw [ho]; simp only [effFieldOp, h' x (by simp), effPure_congr (P := P) (fun cs b => by rw [ho]; simp) h]
  case indexAddr t x ix => unfold eff; rw [ho]; simp only [h' x (by simp), h' ix (by simp)]
  case index t x ix => unfold eff; rw [ho]; simp only [effIndexOp, h' x (by simp), h' ix (by simp), effPure_congr (P := P) (fun cs b => by rw [ho]; simp) h]
  case range t x => unfold eff; rw [ho]; simp only [h' x (by simp)]
  case next it b => unfold eff; rw [ho]; simp only [h' it (by simp)]
  case typeAssert x xt a ok => unfold eff; rw [ho]; simp only [effAssertOp, h' x (by simp), effPure_congr (P := P) (fun cs b => by rw [ho]; simp) h]
  case extract t i => unfold eff; rw [ho]; simp only [effExtract, h' t (by simp), effPure_congr (P := P) (fun cs b => by rw [ho]; simp) h]
  case call c =>
    have hargs : c.args.toList.map ev = c.args.toList.map ev' := map_ev fun z hz => h' z (by simp [Call.operands]; right; simpa using hz)
    have hp := effPure_congr (P := P) (ev := ev) (ev' := ev') (fun cs b => by rw [ho]; simp) h
    unfold eff; rw [ho]
    simp only [effCall]
    cases hc : c.callee with
    | value f => simp only [hargs, h' f (by simp [Call.operands, hc]), hp]
    | invoke rv m => simp only [hargs, h' rv (by simp [Call.operands, hc])]
    | builtin b => simp only [hargs, effBuiltin, effLenOp, effCapOp, hp]
  all_goals (unfold eff; rw [ho])

theorem ev_put {tm : Tm} {dst : Option Tmp} {v : AV} {x : Operand} (h : ∀ d, dst = some d → x ≠ .tmp d) : evT G (put tm dst v) x = evT G tm x := by
  cases dst with
  | none => rfl
  | some d =>
    cases x with
    | tmp t =>
      have hne : d ≠ t := fun e => h d rfl (by rw [e])
      simp only [evT, put, Tm.get_set]
      rw [if_neg (fun e => hne e.1)]
    | _ => rfl

theorem wanted_puts {ops : Array Oper} {tm : Tm} {dst : Option Tmp} {v : AV} (h : ∀ d, dst = some d → d ∉ o.looksAt ops) : Region.wanted o (ayielded ops (put tm dst v)) = Region.wanted o (ayielded ops tm) := by
  cases dst with
  | none => rfl
  | some d =>
    unfold Region.wanted
    cases hg : o.guard with
    | none => rfl
    | some gw =>
      obtain ⟨g, want⟩ := gw
      have hy : ayielded ops (put tm (some d) v) g = ayielded ops tm g := by
        unfold ayielded
        cases ht : (ops[g]?).bind (·.dst) with
        | none => rfl
        | some t =>
          have hne : d ≠ t := fun e => h d rfl (by subst e; simp [Oper.looksAt, hg, ht])
          simp only [put, Tm.get_set]
          rw [if_neg (fun e => hne e.1)]
      simp only [hy]

theorem evs_put {ops : Array Oper} {tm : Tm} {dst : Option Tmp} {v : AV} (h : ∀ d, dst = some d → d ∉ o.looksAt ops) : ∀ z ∈ o.op.operands, evT G (put tm dst v) z = evT G tm z := fun z hz =>
  ev_put fun d hd hzd => h d hd (by
    subst hzd
    exact List.mem_append_left _ (List.mem_filterMap.2 ⟨.tmp d, by simpa using hz, rfl⟩))

theorem resO_put {ex : Runner} {ops : Array Oper} {tm : Tm} {dst : Option Tmp} {v : AV} (h : ∀ d, dst = some d → d ∉ o.looksAt ops) (σ : AS) : resO P G ex ops o (put tm dst v) σ = resO P G ex ops o tm σ := by
  unfold resO
  rw [wanted_puts h, eff_congr (P := P) (ev' := evT G tm) σ (evs_put h)]
theorem resX_put {ex : Runner} {base i : Nat} {ops : Array Oper} {tm : Tm} {dst : Option Tmp} {v : AV} (h : ∀ d, dst = some d → d ∉ o.looksAt ops) (σ : AS) : resX P G ex base ops i o (put tm dst v) σ = resX P G ex base ops i o tm σ := by
  unfold resX
  obtain ⟨objs, next, slot⟩ := σ
  simp only [resA, resO_put h]
theorem noted_put {ops : Array Oper} {tm : Tm} {dst : Option Tmp} {v : AV} (h : ∀ d, dst = some d → d ∉ o.looksAt ops) (σ : AS) : noted G ops o (put tm dst v) σ = noted G ops o tm σ := by
  unfold noted
  rw [wanted_puts h]
  have he := evs_put (G := G) (tm := tm) (v := v) h
  congr 1
  unfold readOf
  cases ho : o.op <;> simp only <;> rw [ho] at he <;> simp only [Op.operands] at he
  case load t a => rw [he a (by simp)]
  case indexAddr t x ix => rw [he x (by simp)]
  case slice t x lo hi mx => rw [he x (by simp)]
end congr

end Go.Ab
