/- append and copy. -/
import Derived.Test.YtldckcopeiginaaAbH
import Derived.Deep.Upon
namespace Go.Ab
variable {P : Program} {B : World} {ρ : Rho} {σ : AS} {w : World}

theorem cell_of_take {b off n : Nat} {c : Array Value} {e : TypeId} {fz : Nat × Nat} (hh : w.heap[b]? = some (.cells c e fz)) {j : Nat} {u : Value} (h : ((c.toList.drop off).take n)[j]? = some u) :
    w.cell? ⟨b, off + j, none⟩ = some u := by
  simp only [List.getElem?_take, List.getElem?_drop] at h
  split at h
  · simp only [World.cell?, hh]
    simp only [Option.isSome_none, Bool.false_eq_true, if_false]
    rw [← Array.getElem?_toList, ← h]
  · cases h

theorem all_flat {news : List (List AV)} (h : news.all (·.all isCell) = true) : news.flatten.all isCell = true := by
  induction news with
  | nil => rfl
  | cons r rs ih =>
    simp only [List.all_cons, Bool.and_eq_true] at h
    simp only [List.flatten_cons, List.all_append, Bool.and_eq_true]
    exact ⟨h.1, ih h.2⟩

theorem own_cells (hrep : Rep B ρ σ w) {o : Nat} {e : TypeId} {es : Nat} {ex : Bool} {rows : List (List AV)} {l : Loc} (hg : σ.get o = some (.cells e es ex rows)) (hr : ρ o = some l) {i n : Nat} (hle : i + n ≤ rows.length) :
    (∀ r ∈ (rows.drop i).take n, r.length = es) ∧ ((rows.drop i).take n).length = n ∧ ∃ vs, Concs (memOf B) ρ ((rows.drop i).take n).flatten vs ∧ vs.length = n * es ∧ ∀ j u, vs[j]? = some u → w.cell? ⟨l.blk, i * es + j, none⟩ = some u := by
  obtain ⟨q1, q2, q3, q4, c, q5, q6, q7⟩ := hrep.obj o _ l hg hr
  have hl : ∀ r ∈ (rows.drop i).take n, r.length = es := fun r h => q4 r (List.mem_of_mem_drop (List.mem_of_mem_take h))
  have hlen : ((rows.drop i).take n).length = n := by rw [List.length_take, List.length_drop]; omega
  refine ⟨hl, hlen, (c.toList.drop (i * es)).take (n * es), ?_, ?_, ?_⟩
  · rw [flat_take (fun r h => q4 r (List.mem_of_mem_drop h)), flat_drop q4]
    have h := (q7.drop (i * es)).take (n * es)
    have hmul : (i + n) * es ≤ rows.length * es := Nat.mul_le_mul_right _ hle
    rw [Nat.add_mul] at hmul
    rw [List.drop_take, List.take_take, Nat.min_eq_left (by omega)] at h
    exact h
  · have hmul : (i + n) * es ≤ rows.length * es := Nat.mul_le_mul_right _ hle
    have hmul2 : rows.length * es ≤ l.cap * es := Nat.mul_le_mul_right _ q2
    rw [Nat.add_mul] at hmul
    have hcs : c.toList.length = c.size := Array.length_toList
    rw [List.length_take, List.length_drop]; omega
  · intro j u hj
    exact cell_of_take q5 hj

theorem mem_cells (hrep : Rep B ρ σ w) {b off es : Nat} {rows : List (List AV)} (hm : ConcMem (memOf B) ρ b off es rows) :
    (∀ r ∈ rows, r.length = es) ∧ ∃ vs, Concs (memOf B) ρ rows.flatten vs ∧ vs.length = rows.length * es ∧ ∀ j u, vs[j]? = some u → w.cell? ⟨b, off + j, none⟩ = some u := by
  cases hm with
  | mk hm hl hc =>
    refine ⟨hl, _, hc, ?_, fun j u hj => cell_of_take (hrep.mem hm) hj⟩
    rw [← hc.len, flat_len hl]

theorem src_of (hrep : Rep B ρ σ w) {size : Nat} {tx : TypeId} {x : AV} {c : Value} {news : List (List AV)} (hx : Conc (memOf B) ρ x c) (hok : srcOk P tx x = true) (hr : srcRows size x σ = some news)
    (hcell : news.all (·.all isCell) = true) : (∀ r ∈ news, r.length = size) ∧ ∃ vs, Concs (memOf B) ρ news.flatten vs ∧ Src P size tx c news.length vs w := by
  unfold srcRows at hr
  split at hr
  · rename_i o i n cap
    have hk : ∃ e', P.underlying tx = some (.slice e') := by
      unfold srcOk at hok
      cases hu : P.underlying tx with
      | none => simp [hu] at hok
      | some d => cases d <;> simp [hu] at hok; exact ⟨_, rfl⟩
    obtain ⟨e', hk⟩ := hk
    split at hr
    · rename_i e es ex rows hg
      split at hr
      · rename_i hcond
        obtain ⟨rfl, hle⟩ := hcond
        cases hr
        cases hx <;> rename_i l hr'
        all_goals
          have hes : l.es = es := (hrep.obj o _ l hg hr').1
          obtain ⟨h1, h2, vs, h3, h4, h5⟩ := own_cells hrep hg hr' hle
          refine ⟨h1, vs, h3, ?_⟩
          rw [h2]
          exact Src.ofSlice w hk _ n _ vs h4 (fun j u hj => by rw [Addr.add_mid, hes]; exact h5 j u hj) (oneCells_of h3 (all_flat hcell))
      · cases hr
    · cases hr
  · rename_i a es cap rows
    have hk : ∃ e', P.underlying tx = some (.slice e') := by
      unfold srcOk at hok
      cases hu : P.underlying tx with
      | none => simp [hu] at hok
      | some d => cases d <;> simp [hu] at hok; exact ⟨_, rfl⟩
    obtain ⟨e', hk⟩ := hk
    split at hr
    · rename_i hes
      cases hr
      subst hes
      cases hx with
      | rsl hm hc =>
        obtain ⟨h1, vs, h3, h4, h5⟩ := mem_cells hrep hm
        refine ⟨h1, vs, h3, Src.ofSlice w hk _ _ _ vs h4 (fun j u hj => by rw [Addr.add_mid]; exact h5 j u hj) (oneCells_of h3 (all_flat hcell))⟩
    · cases hr
  · rename_i cap
    have hk : ∃ e', P.underlying tx = some (.slice e') := by
      unfold srcOk at hok
      cases hu : P.underlying tx with
      | none => simp [hu] at hok
      | some d => cases d <;> simp [hu] at hok; exact ⟨_, rfl⟩
    obtain ⟨e', hk⟩ := hk
    cases hr; cases hx
    exact ⟨by simp, [], .nil, Src.ofNil w hk cap⟩
  · rename_i b
    have hk : P.underlying tx = some .string := by
      unfold srcOk at hok
      cases hu : P.underlying tx with
      | none => simp [hu] at hok
      | some d => cases d <;> simp [hu] at hok; rfl
    split at hr
    · rename_i hs
      cases hr; cases hx; subst hs
      refine ⟨by simp, byteCells b, ?_, ?_⟩
      · have : (b.data.toList.map fun x => [AV.s (.int .u8 x.toNat)]).flatten = (byteCells b).map .s := by
          unfold byteCells
          rw [List.map_map]
          induction b.data.toList with
          | nil => rfl
          | cons y ys ih => simp [ih]
        rw [this]; exact Concs.ofS _
      · have := Src.ofString (P := P) w hk b
        have e : (b.data.toList.map fun x => [AV.s (.int .u8 x.toNat)]).length = b.size := by
          rw [List.length_map, Array.length_toList]; rfl
        rw [e]; exact this
    · cases hr
  · cases hr

theorem growBy_le (n : Nat) : ∀ (r c X : Nat), c ≤ X → n + (n + 768) / 4 ≤ X → Builtin.growBy n r c ≤ X
  | 0, c, X, h, _ => h
  | r + 1, c, X, h, hX => by
    unfold Builtin.growBy
    split
    · exact h
    · rename_i hc
      exact growBy_le n r _ X (by omega) hX
theorem nextcap_le {need old : Nat} (h : old < need) : Builtin.nextslicecap need old ≤ 2 * need + 192 := by
  unfold Builtin.nextslicecap
  split
  · omega
  · split
    · omega
    · exact growBy_le need 4 old _ (by omega) (by omega)
theorem le_grownCap (w : World) (need old : Nat) (e : TypeId) : need ≤ grownCap w need old e := by
  unfold grownCap Question.cut
  exact Nat.le_add_right _ _

/-- The arm that grows: a new row, of unknown room. -/
theorem grow_run (hrep : Rep B ρ σ w) {t tx ty elem : TypeId} {info : TypeInfo} {z : Value} (ht : P.underlying t = some (.slice elem)) (hi : P.info? elem = some info) (hz : info.zero = some z) (hzs : z.cells.size = info.size)
    {base : Option Addr} {sLen sCap : Nat} {old news : List (List AV)} {ovs nvs : List Value} {c : Value} (hol : ∀ r ∈ old, r.length = info.size) (hon : old.length = sLen) (hoc : Concs (memOf B) ρ old.flatten ovs)
    (hov : (Builtin.firstCells info.size sLen (.slice base sLen sCap)).run P w.drew = .ok ovs.toArray w.drew) (hnl : ∀ r ∈ news, r.length = info.size) (hnc : Concs (memOf B) ρ news.flatten nvs)
    (hs : Src P info.size tx c news.length nvs w) (hg : sCap < sLen + news.length) (hfit : (2 * (sLen + news.length) + 192) * info.bytes ≤ 2 ^ 48) (h62 : sLen + news.length < 2 ^ 62) :
    ∃ ρ' w' y, (Builtin.append_ #[t, tx] ty #[.slice base sLen sCap, c]).run P w = .ok y w' ∧ Rep B ρ' (σ.push (.cells elem info.size false (old ++ news))) w' ∧ ρ.le ρ' ∧
      Conc (memOf B) ρ' (.sl σ.newId 0 (sLen + news.length) none) y := by
  have hb : Builtin.nextslicecap (sLen + news.length) sCap * info.bytes ≤ 281474976710656 :=
    Nat.le_trans (Nat.mul_le_mul_right _ (nextcap_le hg)) (by omega)
  have hrun := run_append_grow_src (P := P) w t tx ty elem info z ht hi hz base sLen sCap ovs hov c news.length nvs hs hg (by omega) hb
  have hcap := le_grownCap w (sLen + news.length) sCap elem
  generalize hcp : grownCap w (sLen + news.length) sCap elem = cap at hrun hcap
  have hfl : ∀ r ∈ old ++ news, r.length = info.size := fun r hr => by
    rcases List.mem_append.1 hr with h | h
    · exact hol r h
    · exact hnl r h
  have hcc : Concs (memOf B) ρ (old ++ news).flatten (ovs ++ nvs) := by rw [List.flatten_append]; exact hoc.append hnc
  have hlen := hcc.len
  rw [flat_len hfl, List.length_append, hon] at hlen
  have hzc : (Builtin.zeroCells z.cells (cap - (sLen + news.length))).size = (cap - (sLen + news.length)) * info.size := by
    simp [Builtin.zeroCells, hzs]
  refine ⟨ρ.ext σ.newId ⟨w.heap.size, cap, info.size⟩, _, _, hrun, ?_, hrep.le_ext _, ?_⟩
  · refine hrep.drew.push rfl rfl rfl rfl rfl ⟨rfl, by rw [List.length_append, hon]; exact hcap, by simp, hfl, _, Array.getElem?_push_size, ?_, ?_⟩
    · rw [Array.size_append, hzc]
      show (ovs ++ nvs).length + _ = cap * info.size
      rw [← hlen, ← Nat.add_mul]
      congr 1; omega
    · rw [Array.toList_append]
      show Concs _ _ _ (List.take _ ((ovs ++ nvs) ++ _))
      have e3 : (old ++ news).length * info.size = (ovs ++ nvs).length := by
        rw [← hlen, List.length_append (as := old), hon]
      rw [List.take_append_of_le_length (by omega), List.take_of_length_le (by omega)]
      exact hcc.mono (hrep.le_ext _)
  · have := Conc.sl (M := memOf B) (i := 0) (n := sLen + news.length) (Rho.ext_self ρ σ.newId ⟨w.heap.size, cap, info.size⟩)
    simpa using this

theorem firstCells_own (hrep : Rep B ρ σ w) {o : Nat} {e : TypeId} {es : Nat} {ex : Bool} {rows : List (List AV)} {l : Loc} (hg : σ.get o = some (.cells e es ex rows)) (hr : ρ o = some l) {i n cap : Nat} (hle : i + n ≤ rows.length) :
    ∃ vs, Concs (memOf B) ρ ((rows.drop i).take n).flatten vs ∧ (Builtin.firstCells es n (.slice (some ⟨l.blk, i * es, none⟩) n cap)).run P w.drew = .ok vs.toArray w.drew := by
  obtain ⟨h1, h2, vs, h3, h4, h5⟩ := own_cells hrep hg hr hle
  exact ⟨vs, h3, run_firstCells_some w.drew es n _ n cap vs h4 (fun j u hj => by rw [Addr.add_mid]; exact h5 j u hj)⟩

/-- The arm with room, in rows that are known. -/
theorem room_run (hrep : Rep B ρ σ w) {t tx ty elem : TypeId} {info : TypeInfo} (ht : P.underlying t = some (.slice elem)) (hi : P.info? elem = some info) {o : Nat} {e : TypeId} {ex : Bool} {rows news : List (List AV)} {l : Loc}
    (hg : σ.get o = some (.cells e info.size ex rows)) (hr : ρ o = some l) {i len cap : Nat} {c : Value} {nvs : List Value} (hnl : ∀ r ∈ news, r.length = info.size) (hnc : Concs (memOf B) ρ news.flatten nvs)
    (hs : Src P info.size tx c news.length nvs w) (hroom : len + news.length ≤ cap) (hle : i + len + news.length ≤ rows.length) :
    ∃ w', (Builtin.append_ #[t, tx] ty #[.slice (some ⟨l.blk, i * l.es, none⟩) len cap, c]).run P w = .ok (.slice (some ⟨l.blk, i * l.es, none⟩) (len + news.length) cap) w' ∧
      Rep B ρ (σ.set o (.cells e info.size ex (rows.take (i + len) ++ news ++ rows.drop (i + len + news.length)))) w' := by
  obtain ⟨q1, q2, q3, q4, cc, q5, q6, q7⟩ := hrep.obj o _ l hg hr
  have hnlen : nvs.length = news.length * info.size := by rw [← hnc.len, flat_len hnl]
  have hmul : (i + len + news.length) * info.size ≤ rows.length * info.size := Nat.mul_le_mul_right _ hle
  have hmul2 : rows.length * info.size ≤ l.cap * info.size := Nat.mul_le_mul_right _ q2
  rw [Nat.add_mul, Nat.add_mul] at hmul
  have hrow := wr_len rows (i + len) news hle
  obtain ⟨w1, w2⟩ := hrep.write (P := P) hg hr (rows' := wr rows (i + len) news) (fun r h => by
      unfold wr at h
      rcases List.mem_append.1 h with h | h
      · rcases List.mem_append.1 h with h | h
        · exact q4 r (List.mem_of_mem_take h)
        · exact hnl r h
      · exact q4 r (List.mem_of_mem_drop h)) hrow (flat_wr q4 hnl (i + len)) (by rw [flat_len hnl, Nat.add_mul]; omega) hnc hs.one
  refine ⟨_, ?_, w2⟩
  have := run_append_room_src (P := P) w t tx ty elem info ht hi l.blk (i * info.size) len cap c news.length nvs hs hroom
    (fun j hj => by simp only [World.cell?, q5]; rw [if_neg (by simp), Array.getElem?_eq_getElem (by omega)]; rfl) (fun j hj => by simp [World.frozen?, q5])
  rw [q1, this, Nat.add_mul]

/-- The block's room is not known: whatever happens, the old name is let go, and a new one names what there is. -/
theorem blind_run (hrep : Rep B ρ σ w) {t tx ty elem : TypeId} {info : TypeInfo} {z : Value} (ht : P.underlying t = some (.slice elem)) (hi : P.info? elem = some info) (hz : info.zero = some z) (hzs : z.cells.size = info.size)
    {o : Nat} {rows news : List (List AV)} {l : Loc} (hg : σ.get o = some (.cells elem info.size false rows)) (hr : ρ o = some l) {c : Value} {nvs : List Value} (hnl : ∀ r ∈ news, r.length = info.size)
    (hnc : Concs (memOf B) ρ news.flatten nvs) (hs : Src P info.size tx c news.length nvs w) (hfit : (2 * (rows.length + news.length) + 192) * info.bytes ≤ 2 ^ 48) (h62 : rows.length + news.length < 2 ^ 62) :
    ∃ ρ' w' y, (Builtin.append_ #[t, tx] ty #[.slice (some ⟨l.blk, 0 * l.es, none⟩) rows.length (l.cap - 0), c]).run P w = .ok y w' ∧
      Rep B ρ' ((σ.set o .dead).push (.cells elem info.size false (rows ++ news))) w' ∧ ρ.le ρ' ∧ Conc (memOf B) ρ' (.sl σ.newId 0 (rows.length + news.length) none) y := by
  obtain ⟨q1, q2, q3, q4, cc, q5, q6, q7⟩ := hrep.obj o _ l hg hr
  have hnlen : nvs.length = news.length * info.size := by rw [← hnc.len, flat_len hnl]
  by_cases hroom : rows.length + news.length ≤ l.cap
  · -- there is room
    have hmul : (rows.length + news.length) * info.size ≤ l.cap * info.size := Nat.mul_le_mul_right _ hroom
    rw [Nat.add_mul] at hmul
    have hcs : cc.toList.length = cc.size := Array.length_toList
    have hfl : ∀ r ∈ rows ++ news, r.length = info.size := fun r hr => by
      rcases List.mem_append.1 hr with h | h
      · exact q4 r h
      · exact hnl r h
    have hrun := run_append_room_src (P := P) w t tx ty elem info ht hi l.blk 0 rows.length l.cap c news.length nvs hs hroom
      (fun j hj => by simp only [World.cell?, q5]; rw [if_neg (by simp), Array.getElem?_eq_getElem (by omega)]; rfl) (fun j hj => by simp [World.frozen?, q5])
    obtain ⟨s1, s2, s3, s4⟩ := setCells_rest l.blk nvs (0 + rows.length * info.size) w
    obtain ⟨c', hc', hcl'⟩ := setCells_heap l.blk nvs (0 + rows.length * info.size) w cc _ _ q5 (by omega)
    have hdead := hrep.mod hg rfl hr (o' := .dead) s1 (fun b hb => setCells_other l.blk nvs _ w b hb) s2 s3 s4 trivial (setCells_thaw _ _ _ _ fun x hx => hrep.thaw _ x (hrep.new o l hr).1 hx)
    have hnew := hrep.new o l hr
    have hname := hdead.name (o := .cells elem info.size false (rows ++ news)) (l := l) (by rw [s1]; exact hnew) (fun id p l' hp hlive hr' => by
        rw [AS.get_set, if_pos (hrep.dom id l' hr')] at hp
        by_cases e : o = id
        · simp [e] at hp; subst hp; cases hlive
        · simp only [e, if_false] at hp
          intro hb
          exact e (hrep.inj o id _ p l l' hg hp rfl hlive hr hr' hb.symm)) ⟨q1, by rw [List.length_append]; exact hroom, by simp, hfl, c', hc', by
        have := congrArg List.length hcl'
        rw [wr_len _ _ _ (by omega)] at this
        have h' : c'.toList.length = c'.size := Array.length_toList
        omega, by
        rw [hcl', List.length_append, List.flatten_append]
        have e1 : (wr cc.toList (0 + rows.length * info.size) nvs).take ((rows.length + news.length) * info.size) = cc.toList.take (rows.length * info.size) ++ nvs := by
          unfold wr
          rw [Nat.zero_add, List.take_append_of_le_length (by rw [List.length_append, List.length_take, Nat.add_mul]; omega), List.take_of_length_le (by rw [List.length_append, List.length_take, Nat.add_mul]; omega)]
        rw [e1]
        exact (q7.append hnc).mono (hdead.le_ext _)⟩
    refine ⟨_, _, .slice (some ⟨l.blk, 0, none⟩) (rows.length + news.length) l.cap, ?_, hname, hdead.le_ext _, ?_⟩
    · simpa using hrun
    · have := Conc.sl (M := memOf B) (i := 0) (n := rows.length + news.length) (Rho.ext_self ρ (σ.set o .dead).newId l)
      simp only [AS.newId_set] at this ⊢
      simpa using this
  · -- there is none
    obtain ⟨ovs, ho1, ho2⟩ := firstCells_own (P := P) hrep hg hr (i := 0) (n := rows.length) (cap := l.cap) (by omega)
    have hall : (rows.drop 0).take rows.length = rows := by simp
    rw [hall] at ho1
    obtain ⟨ρ', w', y, h1, h2, h3, h4⟩ := grow_run (hrep.kill o) ht hi hz hzs (base := some ⟨l.blk, 0 * info.size, none⟩) (sLen := rows.length) (sCap := l.cap) (ty := ty) q4 rfl ho1 ho2 hnl hnc hs (by omega) hfit h62
    rw [← q1] at h1
    rw [AS.newId_set] at h4
    exact ⟨ρ', w', y, h1, h2, h3, h4⟩

theorem list_two {ats : Array TypeId} {t tx : TypeId} (h : ats.toList = [t, tx]) : ats = #[t, tx] := Array.ext' (by simpa using h)

set_option maxHeartbeats 2000000 in
theorem append_run (hrep : Rep B ρ σ w) {ats : Array TypeId} {ty : TypeId} {s x : AV} {cs cx : Value} {r : ANext} {σ' : AS} (hs : Conc (memOf B) ρ s cs) (hx : Conc (memOf B) ρ x cx) (he : effAppend P ats s x σ = some (r, σ')) :
    ∃ v ρ' w' y, r = .val v ∧ (Builtin.append_ ats ty #[cs, cx]).run P w = .ok y w' ∧ Rep B ρ' σ' w' ∧ ρ.le ρ' ∧ Conc (memOf B) ρ' v y := by
  unfold effAppend at he
  split at he
  · rename_i t tx hats
    have hats := list_two hats
    subst hats
    split at he
    · rename_i hok
      split at he
      · rename_i elem ht
        split at he
        · rename_i info hi
          split at he
          · rename_i z news hz hsrc
            simp only at he
            split at he
            · rename_i hcond
              obtain ⟨hzs, hcell⟩ := hcond
              obtain ⟨hnl, nvs, hnc, hS⟩ := src_of hrep hx hok hsrc hcell
              have nothing : ∀ {base : Option Addr} {sLen sCap : Nat}, sLen ≤ sCap → news.length = 0 → (Builtin.append_ #[t, tx] ty #[.slice base sLen sCap, cx]).run P w = .ok (.slice base sLen sCap) w := by
                intro base sLen sCap hle h0
                have h1 : nvs = [] := List.eq_nil_of_length_eq_zero (by rw [← hnc.len, flat_len hnl, h0, Nat.zero_mul])
                rw [h0, h1] at hS
                exact run_append_nothing w t tx ty elem info ht hi base sLen sCap hle cx hS
              split at he
              · -- nil
                cases hs
                split at he
                · rename_i h0
                  cases he
                  exact ⟨_, ρ, w, _, rfl, nothing (Nat.le_refl _) h0, hrep, Rho.le_refl ρ, .s _⟩
                · rename_i h0
                  split at he
                  · rename_i hc
                    cases he
                    obtain ⟨ρ', w', y, h1, h2, h3, h4⟩ := grow_run hrep ht hi hz hzs (base := none) (sLen := 0) (sCap := 0) (old := []) (ovs := []) (ty := ty) (by simp) rfl .nil (run_firstCells_none w.drew info.size 0 0 0) hnl hnc hS (by omega) (by simpa using hc.1) (by simpa using hc.2)
                    refine ⟨_, ρ', w', y, rfl, h1, h2, h3, ?_⟩
                    simpa using h4
                  · cases he
              · rename_i o i len cap
                split at he
                · rename_i e es exact_ rows hg
                  split at he
                  · rename_i hc0
                    obtain ⟨hes, hle⟩ := hc0
                    subst hes
                    have grown : ∀ {l : Loc} {sCap : Nat}, ρ o = some l → sCap < len + news.length → (2 * (((rows.drop i).take len).length + news.length) + 192) * info.bytes ≤ 2 ^ 48 → ((rows.drop i).take len).length + news.length < 2 ^ 62 →
                        ∃ ρ' w' y, (Builtin.append_ #[t, tx] ty #[.slice (some ⟨l.blk, i * l.es, none⟩) len sCap, cx]).run P w = .ok y w' ∧ Rep B ρ' (σ.push (.cells elem info.size false ((rows.drop i).take len ++ news))) w' ∧ ρ.le ρ' ∧
                          Conc (memOf B) ρ' (.sl σ.newId 0 (((rows.drop i).take len).length + news.length) none) y := by
                      intro l sCap hr hlt h1 h2
                      obtain ⟨k1, k2, vs, k3, k4, k5⟩ := own_cells hrep hg hr hle
                      obtain ⟨ovs, g1, g2⟩ := firstCells_own (P := P) hrep hg hr (cap := sCap) hle
                      have hes := (hrep.obj o _ l hg hr).1
                      rw [k2] at h1 h2 ⊢
                      rw [hes]
                      exact grow_run hrep ht hi hz hzs k1 k2 g1 g2 hnl hnc hS hlt h1 h2
                    split at he
                    · -- a room that is told
                      rename_i c
                      split at he
                      · rename_i hroom
                        split at he
                        · rename_i hin
                          cases he
                          cases hs with
                          | slc hr =>
                            obtain ⟨w', h1, h2⟩ := room_run (ty := ty) hrep ht hi hg hr (i := i) hnl hnc hS hroom hin
                            exact ⟨_, ρ, w', _, rfl, h1, h2, Rho.le_refl ρ, .slc hr⟩
                        · cases he
                      · rename_i hroom
                        split at he
                        · split at he
                          · rename_i hc
                            cases he
                            cases hs with
                            | slc hr =>
                              obtain ⟨ρ', w', y, h1, h2, h3, h4⟩ := grown (sCap := c) hr (by omega) hc.1 hc.2
                              exact ⟨_, ρ', w', y, rfl, h1, h2, h3, h4⟩
                          · cases he
                        · cases he
                    · -- exact
                      cases hs with
                      | sl hr =>
                        rename_i l
                        obtain ⟨q1, q2, q3, q4, _⟩ := hrep.obj o _ l hg hr
                        have hcap := q3 rfl
                        split at he
                        · rename_i hin
                          cases he
                          obtain ⟨w', h1, h2⟩ := room_run (ty := ty) (cap := l.cap - i) hrep ht hi hg hr (i := i) hnl hnc hS (by omega) hin
                          exact ⟨_, ρ, w', _, rfl, h1, h2, Rho.le_refl ρ, .sl hr⟩
                        · split at he
                          · rename_i hc
                            cases he
                            obtain ⟨ρ', w', y, h1, h2, h3, h4⟩ := grown (sCap := l.cap - i) hr (by omega) hc.1 hc.2
                            exact ⟨_, ρ', w', y, rfl, h1, h2, h3, h4⟩
                          · cases he
                    · -- not known
                      cases hs with
                      | sl hr =>
                        rename_i l
                        obtain ⟨q1, q2, q3, q4, _⟩ := hrep.obj o _ l hg hr
                        split at he
                        · rename_i h0
                          cases he
                          exact ⟨_, ρ, w, _, rfl, nothing (by omega) h0, hrep, Rho.le_refl ρ, .sl hr⟩
                        · split at he
                          · rename_i hc
                            obtain ⟨c1, c2, c3, c4, c5⟩ := hc
                            cases he
                            subst c1 c2 c3
                            obtain ⟨ρ', w', y, h1, h2, h3, h4⟩ := blind_run (ty := ty) hrep ht hi hz hzs hg hr hnl hnc hS c4 c5
                            exact ⟨_, ρ', w', y, rfl, h1, h2, h3, h4⟩
                          · cases he
                  · cases he
                · cases he
              · rename_i a es cap rows
                split at he
                · rename_i hes
                  subst hes
                  cases hs with
                  | rsl hm hc =>
                    rename_i b off
                    split at he
                    · rename_i h0
                      cases he
                      exact ⟨_, ρ, w, _, rfl, nothing hc h0, hrep, Rho.le_refl ρ, .rsl hm hc⟩
                    · split at he
                      · cases he
                      · rename_i hcap
                        split at he
                        · rename_i hfit
                          cases he
                          obtain ⟨k1, vs, k2, k3, k4⟩ := mem_cells hrep hm
                          obtain ⟨ρ', w', y, h1, h2, h3, h4⟩ := grow_run hrep ht hi hz hzs (base := some ⟨b, off, none⟩) (sLen := rows.length) (sCap := cap) (ty := ty) k1 rfl k2
                            (run_firstCells_some w.drew info.size rows.length _ _ _ vs k3 (fun j u hj => by rw [Addr.add_mid]; exact k4 j u hj)) hnl hnc hS (by omega) hfit.1 hfit.2
                          exact ⟨_, ρ', w', y, rfl, h1, h2, h3, h4⟩
                        · cases he
                · cases he
              · cases he
            · cases he
          · cases he
        · cases he
      · cases he
    · cases he
  · cases he

end Go.Ab
