/- copy; calls; plain values; all operations together. -/
import Derived.Test.YtldckcopeiginaaAbI
namespace Go.Ab
variable {P : Program} {B : World} {ρ : Rho} {σ : AS} {w : World}

theorem src_first (hrep : Rep B ρ σ w) {size : Nat} {x : AV} {c : Value} {news : List (List AV)} (hx : Conc (memOf B) ρ x c) (hr : srcRows size x σ = some news) {m : Nat} (hm : m ≤ news.length)
    (hmm : isRef x = true ∨ m = news.length) : (∀ r ∈ news, r.length = size) ∧ (∀ w' : World, (Builtin.lenOf c).run P w' = .ok news.length w') ∧ ∃ vs, Concs (memOf B) ρ (news.take m).flatten vs ∧
      (Builtin.firstCells size m c).run P w = .ok vs.toArray w := by
  unfold srcRows at hr
  split at hr
  · rename_i o i n cap
    split at hr
    · rename_i e es ex rows hg
      split at hr
      · rename_i hcond
        obtain ⟨rfl, hle⟩ := hcond
        cases hr
        have hml : ((rows.drop i).take n).length = n := by rw [List.length_take, List.length_drop]; omega
        have htt : ((rows.drop i).take n).take m = (rows.drop i).take m := by rw [List.take_take, Nat.min_eq_left (by omega)]
        cases hx <;> rename_i l hr'
        all_goals
          have hes : l.es = es := (hrep.obj o _ l hg hr').1
          obtain ⟨h1, _, _⟩ := own_cells hrep hg hr' hle
          obtain ⟨g1, g2, vs, h3, h4, h5⟩ := own_cells hrep hg hr' (i := i) (n := m) (by omega)
          refine ⟨h1, fun w' => by rw [hml]; rfl, vs, by rw [htt]; exact h3, ?_⟩
          exact run_firstCells_some w es m _ _ _ vs h4 (fun j u hj => by rw [Addr.add_mid, hes]; exact h5 j u hj)
      · cases hr
    · cases hr
  · rename_i a es cap rows
    split at hr
    · rename_i hes
      cases hr
      subst hes
      cases hx with
      | rsl hm' hc =>
        obtain ⟨h1, _⟩ := mem_cells hrep hm'
        obtain ⟨g1, vs, h3, h4, h5⟩ := mem_cells hrep (hm'.take m)
        refine ⟨h1, fun w' => rfl, vs, h3, ?_⟩
        have hlen : (news.take m).length = m := by rw [List.length_take]; omega
        rw [hlen] at h4
        exact run_firstCells_some w es m _ _ _ vs h4 (fun j u hj => by rw [Addr.add_mid]; exact h5 j u hj)
    · cases hr
  · rename_i cap
    cases hr; cases hx
    refine ⟨by simp, fun w' => rfl, [], by simpa using Concs.nil, ?_⟩
    have : m = 0 := by simpa using hm
    subst this
    exact run_firstCells_none w size 0 0 cap
  · rename_i b
    split at hr
    · rename_i hs
      cases hr; cases hx; subst hs
      have e : (b.data.toList.map fun x => [AV.s (.int .u8 x.toNat)]).length = b.size := by
        rw [List.length_map, Array.length_toList]; rfl
      rcases hmm with h | h
      · cases h
      · subst h
        refine ⟨by simp, fun w' => by rw [e]; rfl, byteCells b, ?_, ?_⟩
        · rw [List.take_of_length_le (Nat.le_refl _)]
          have : (b.data.toList.map fun x => [AV.s (.int .u8 x.toNat)]).flatten = (byteCells b).map .s := by
            unfold byteCells
            rw [List.map_map]
            induction b.data.toList with
            | nil => rfl
            | cons y ys ih => simp [ih]
          rw [this]; exact Concs.ofS _
        · rw [e]; exact firstCells_string b w
    · cases hr
  · cases hr

theorem copy_run (hrep : Rep B ρ σ w) {ats : Array TypeId} {ty : TypeId} {d x : AV} {cd cx : Value} {r : ANext} {σ' : AS} (hd : Conc (memOf B) ρ d cd) (hx : Conc (memOf B) ρ x cx) (he : effCopy P ats d x σ = some (r, σ')) :
    ∃ v w' y, r = .val v ∧ (Builtin.copy_ ats ty #[cd, cx]).run P w = .ok y w' ∧ Rep B ρ σ' w' ∧ Conc (memOf B) ρ v y := by
  unfold effCopy at he
  split at he
  · rename_i t ht
    split at he
    · rename_i elem hu
      split at he
      · rename_i size hs
        split at he
        · rename_i news o i n cap hsrc
          split at he
          · rename_i e es ex rows hg
            split at he
            · rename_i hc
              obtain ⟨hes, hle, hcell, href⟩ := hc
              subst hes
              simp only [Option.some.injEq, Prod.mk.injEq] at he
              obtain ⟨rfl, rfl⟩ := he
              have hmle : min news.length n ≤ news.length := Nat.min_le_left _ _
              obtain ⟨hnl, hlen, vs, hvs, hfirst⟩ := src_first (P := P) hrep hx hsrc hmle (by
                rcases href with h | h
                · exact .inl h
                · exact .inr (Nat.min_eq_left h))
              have hnt : ∀ r ∈ news.take (min news.length n), r.length = es := fun r h => hnl r (List.mem_of_mem_take h)
              have hlt : (news.take (min news.length n)).length = min news.length n := by rw [List.length_take]; omega
              have hone : ∀ u ∈ vs, u.oneCell' = true := oneCells_of hvs (by
                rw [List.all_eq_true]
                intro q hq
                have := all_flat hcell
                rw [List.all_eq_true] at this
                obtain ⟨r, hr1, hr2⟩ := List.mem_flatten.1 hq
                exact this q (List.mem_flatten.2 ⟨r, List.mem_of_mem_take hr1, hr2⟩))
              have fin : ∀ {l : Loc} {cp : Nat}, ρ o = some l → ∃ w', (Builtin.copy_ ats ty #[.slice (some ⟨l.blk, i * l.es, none⟩) n cp, cx]).run P w = .ok (.int .i64 ((min news.length n : Nat) : Int)) w' ∧
                  Rep B ρ (σ.set o (.cells e es ex (rows.take i ++ news.take (min news.length n) ++ rows.drop (i + min news.length n)))) w' := by
                intro l cp hr
                obtain ⟨q1, q2, q3, q4, cc, q5, q6, q7⟩ := hrep.obj o _ l hg hr
                have hin : i + (news.take (min news.length n)).length ≤ rows.length := by rw [hlt]; omega
                have hmul : (i + min news.length n) * es ≤ rows.length * es := Nat.mul_le_mul_right _ (by omega)
                rw [Nat.add_mul] at hmul
                obtain ⟨w1, w2⟩ := hrep.write (P := P) hg hr (rows' := wr rows i (news.take (min news.length n))) (fun r h => by
                    unfold wr at h
                    rcases List.mem_append.1 h with h | h
                    · rcases List.mem_append.1 h with h | h
                      · exact q4 r (List.mem_of_mem_take h)
                      · exact hnt r h
                    · exact q4 r (List.mem_of_mem_drop h)) (wr_len _ _ _ hin) (flat_wr q4 hnt i) (by rw [flat_len hnt, hlt]; omega) hvs hone
                refine ⟨w.setCells l.blk (i * es) vs, ?_, ?_⟩
                · have hmin : Nat.min news.length n = min news.length n := rfl
                  simp [Builtin.copy_, ht, Sem.run_bind, run_underlying hu w, hlen, run_sizeOf hs w, hmin, hfirst, q1, w1, goInt]
                · have e2 : wr rows i (news.take (min news.length n)) = rows.take i ++ news.take (min news.length n) ++ rows.drop (i + min news.length n) := by unfold wr; rw [hlt]
                  rw [← e2]; exact w2
              cases hd with
              | sl hr =>
                obtain ⟨w', h1, h2⟩ := fin hr
                exact ⟨_, w', _, rfl, h1, h2, .s _⟩
              | slc hr =>
                obtain ⟨w', h1, h2⟩ := fin hr
                exact ⟨_, w', _, rfl, h1, h2, .s _⟩
            · cases he
          · cases he
        · cases he
      · cases he
    · cases he
  · cases he

theorem evalP_run {α : Type} : ∀ (s : Sem α) (x : α), evalP P s = some x → ∀ w, s.run P w = .ok x w
  | .pure a, x, h, w => by simp [evalP] at h; subst h; rfl
  | .program k, x, h, w => by simp only [evalP] at h; exact evalP_run (k P) x h w
  | .mark m k, x, h, w => by simp only [evalP] at h; exact evalP_run k x h w
  | .load .., _, h, _ | .store .., _, h, _ | .new .., _, h, _ | .shape .., _, h, _ | .freeze .., _, h, _ | .frozen .., _, h, _ | .getObj .., _, h, _ | .setObj .., _, h, _ | .choose .., _, h, _
  | .sys .., _, h, _ | .halt _, _, h, _ => by simp [evalP] at h

theorem pure_run {M : Mem} {o : Oper} {ev : Operand → AV} {av : Operand → Value} (hev : ∀ x, Conc M ρ (ev x) (av x)) (hsel : ∀ cs b, o.op ≠ .select cs b) {v : AV} (h : effPure P o ev = some v) (w : World) :
    ∃ y, (execOp av o).run P w = .ok (.value y) w ∧ Conc M ρ v y := by
  unfold effPure at h
  split at h
  · rename_i hall
    split at h
    · rename_i y hy
      cases h
      refine ⟨y, ?_, .s y⟩
      have hc : execOp (fun x => (sOf (ev x)).getD undef) o = execOp av o := execOp_congr o hsel fun x hx => by
        rw [List.all_eq_true] at hall
        have := hall x (by simpa using hx)
        have hcx := hev x
        show (sOf (ev x)).getD undef = av x
        generalize ev x = e at this hcx ⊢
        generalize av x = ax at hcx ⊢
        cases hcx <;> first | rfl | simp [isRef] at this
      rw [← hc]
      exact evalP_run _ _ hy w
    · cases h
  · cases h

theorem concs_map {M : Mem} {ev : Operand → AV} {av : Operand → Value} (hev : ∀ x, Conc M ρ (ev x) (av x)) (xs : List Operand) : Concs M ρ (xs.map ev) (xs.map av) := by
  induction xs with
  | nil => exact .nil
  | cons x xs ih => exact .cons (hev x) ih

/-- A call of a function value: what it comes to. -/
theorem target_enter {M : Mem} {f : AV} {cf : Value} {args : List AV} {cargs : Array Value} {g : FuncId} {as : List AV} (hf : Conc M ρ f cf) (ha : Concs M ρ args cargs.toList) (h : target f args = some (.enter g as)) :
    ∃ vs : Array Value, Concs M ρ as vs.toList ∧ ∀ w, (do let d ← Deferred.ofValue cf cargs; invoke d.target d.args : Sem Next).run P w = (callFunc g vs).run P w := by
  unfold target at h
  split at h
  · rename_i g' first cap
    cases h
    cases hf
    exact ⟨first ++ cargs ++ cap, by simp only [Array.toList_append]; exact ((Concs.ofS _).append ha).append (Concs.ofS _), fun w => rfl⟩
  · rename_i g' first cap
    cases h
    cases hf with
    | fn h1 h2 =>
      rename_i vs ws
      exact ⟨vs ++ cargs ++ ws, by simp only [Array.toList_append]; exact (h1.append ha).append h2, fun w => rfl⟩
  · cases h
  · cases h

theorem target_round {M : Mem} {f : AV} {cf : Value} {args : List AV} {cargs : Array Value} {l : Nat} {as : List AV} (hf : Conc M ρ f cf) (h : target f args = some (.round l as)) :
    as = args ∧ ∃ loc, ρ l = some loc ∧ ∀ w, (do let d ← Deferred.ofValue cf cargs; invoke d.target d.args : Sem Next).run P w = (Instr.yield loc.blk cargs).run P w := by
  unfold target at h
  split at h
  · cases h
  · cases h
  · rename_i o
    cases h
    cases hf with
    | yld hr =>
      refine ⟨rfl, _, hr, fun w => ?_⟩
      show (Instr.yield _ (#[] ++ cargs)).run P w = _
      rw [Array.empty_append]
  · cases h

theorem target_val {f : AV} {args : List AV} {v : AV} (h : target f args = some (.val v)) : False := by
  unfold target at h
  split at h <;> cases h

theorem targetM_enter {M : Mem} {recv : AV} {cr : Value} {name : String} {args : List AV} {cargs : Array Value} {r : ANext} (hr : Conc M ρ recv cr) (ha : Concs M ρ args cargs.toList) (h : targetM P recv name args = some r) :
    ∃ g as, r = .enter g as ∧ ∃ vs : Array Value, Concs M ρ as vs.toList ∧ ∀ w, (invoke (.fn (.method name) #[]) (#[cr] ++ cargs)).run P w = (callFunc g vs).run P w := by
  have key : ∀ {t : TypeId} {v : AV} {c : Value}, Conc M ρ v c → cr = .iface t c → (match P.info? t with
      | some info => match info.methods.toList.find? (·.name == name) with
        | some m => if m.path.isEmpty then
            match m.func, P.underlying t with
            | some (g, true), some (.pointer _) => some (ANext.enter g (v :: args))
            | some (g, false), some (.pointer _) => none
            | some (g, false), some _ => some (.enter g (v :: args))
            | _, _ => none
          else none
        | none => none
      | none => none) = some r → ∃ g as, r = .enter g as ∧ ∃ vs : Array Value, Concs M ρ as vs.toList ∧ ∀ w, (invoke (.fn (.method name) #[]) (#[cr] ++ cargs)).run P w = (callFunc g vs).run P w := by
    intro t v c hv hcr h
    split at h
    · rename_i info hi
      split at h
      · rename_i m hm
        split at h
        · rename_i hp
          have hp' : m.path = #[] := by simpa using hp
          have hfind : info.methods.find? (·.name == name) = some m := by rw [← Array.find?_toList]; exact hm
          have fin : ∀ {g : FuncId} {ptr : Bool}, m.func = some (g, ptr) → (∀ (wr : Option String) (w : World), (receiverAt t (.val c) ptr wr).run P w = .ok c w) → r = .enter g (v :: args) →
              ∃ g as, r = .enter g as ∧ ∃ vs : Array Value, Concs M ρ as vs.toList ∧ ∀ w, (invoke (.fn (.method name) #[]) (#[cr] ++ cargs)).run P w = (callFunc g vs).run P w := by
            intro g ptr hfn hrecv hr
            refine ⟨g, v :: args, hr, #[c] ++ cargs, by simpa using Concs.cons hv ha, fun w => ?_⟩
            subst hcr
            have h0 : (#[Value.iface t c] ++ cargs)[0]? = some (.iface t c) := by rw [Array.getElem?_append_left (by simp)]; rfl
            have h1 : (#[Value.iface t c] ++ cargs).extract 1 (#[Value.iface t c] ++ cargs).size = cargs := by
              apply Array.ext'; simp
            have hmeth : (method (P.types.size + Made.depth) t c name).run P w = .ok (g, c) w := by
              show (method ((P.types.size + 99) + 1) t c name).run P w = _
              unfold method
              simp [Sem.run_bind, typeInfo, hi, hfind, hp', follow, hfn, hrecv]
            have hi1 : invoke (.fn (.method name) #[]) (#[Value.iface t c] ++ cargs) = callMethod (.iface t c) name ((#[Value.iface t c] ++ cargs).extract 1 (#[Value.iface t c] ++ cargs).size) := by
              unfold invoke
              simp only [h0]
            rw [hi1, h1]
            show (do let (f, receiver) ← method ((← program).types.size + Made.depth) t c name; callFunc f (#[receiver] ++ cargs) : Sem Next).run P w = _
            simp only [Sem.run_bind, run_program, Result.andThen_ok, hmeth]
          split at h
          · rename_i g e hfn hu
            cases h
            exact fin hfn (fun wr w => by simp [receiverAt, Sem.run_bind, run_underlying hu w, Place.get]) rfl
          · cases h
          · rename_i g d hnot hfn hu
            cases h
            refine fin hfn (fun wr w => ?_) rfl
            cases d <;> first | (exact absurd rfl (hnot _)) | (simp [receiverAt, Sem.run_bind, run_underlying hu w, Place.get])
          · cases h
        · cases h
      · cases h
    · cases h
  unfold targetM at h
  split at h
  · rename_i t v
    cases hr with
    | ifc hv => exact key hv rfl h
  · rename_i t v
    cases hr
    exact key (.s v) rfl h
  · cases h

end Go.Ab
