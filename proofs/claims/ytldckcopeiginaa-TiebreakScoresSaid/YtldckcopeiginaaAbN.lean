/- What an operation does to the abstract heap, as a list of acts; it does the same to any heap that holds more. -/
import Derived.Test.YtldckcopeiginaaAbM
namespace Go.Ab
variable {P : Program}

inductive Ac where
  | set (id : Nat) (o : AObj)
  | push (o : AObj)
  | bump (n : Nat)
  | slot (k : Option Nat)
noncomputable def Ac.on : Ac → AS → AS
  | .set id o, σ => σ.set id o
  | .push o, σ => σ.push o
  | .bump n, σ => ⟨σ.objs, σ.next + n, none⟩
  | .slot k, σ => ⟨σ.objs, σ.next, k⟩
noncomputable def runA : List Ac → AS → AS
  | [], σ => σ
  | c :: r, σ => runA r (c.on σ)
def Ac.ok (N : Nat) : Ac → AS → Prop
  | .set id _, σ => ∃ o, σ.get id = some o
  | .slot (some k), _ => N ≤ k
  | _, _ => True
def okA (N : Nat) : List Ac → AS → Prop
  | [], _ => True
  | c :: r, σ => c.ok N σ ∧ okA N r (c.on σ)
variable {N : Nat}
theorem runA_append (xs ys : List Ac) (σ : AS) : runA (xs ++ ys) σ = runA ys (runA xs σ) := by
  induction xs generalizing σ with
  | nil => rfl
  | cons x xs ih => exact ih _
theorem okA_append {xs ys : List Ac} {σ : AS} (h : okA N xs σ) (h' : okA N ys (runA xs σ)) : okA N (xs ++ ys) σ := by
  induction xs generalizing σ with
  | nil => exact h'
  | cons x xs ih => exact ⟨h.1, ih h.2 h'⟩

theorem AS.objs_of_get {σ : AS} {id : Nat} {o : AObj} (h : σ.get id = some o) : ∃ n, σ.objs.get id = some (n, o) := by
  unfold AS.get at h
  split at h
  · split at h
    · rename_i n p hg
      cases h; exact ⟨n, hg⟩
    · cases h
  · cases h
theorem AS.get_of_objs {σ : AS} {id n : Nat} {o : AObj} (hl : id < σ.next) (h : σ.objs.get id = some (n, o)) : σ.get id = some o := by
  unfold AS.get; rw [if_pos hl, h]

/-- Holds more below N, and would name a new object alike. -/
structure Le (N : Nat) (σ σ₂ : AS) : Prop where
  next : σ₂.next = σ.next
  slot : σ₂.slot = σ.slot
  objs : ∀ id p, σ.objs.get id = some p → σ₂.objs.get id = some p
  above : ∀ id, N ≤ id → σ₂.objs.get id = σ.objs.get id
  low : N ≤ σ.next
  slow : ∀ k, σ.slot = some k → N ≤ k
theorem Le.newId {σ σ₂ : AS} (h : Le N σ σ₂) : σ₂.newId = σ.newId := by rw [AS.newId_eq, AS.newId_eq, h.next, h.slot]
theorem Le.get {σ σ₂ : AS} (h : Le N σ σ₂) (id : Nat) (o : AObj) (hg : σ.get id = some o) : σ₂.get id = some o := by
  obtain ⟨n, hn⟩ := AS.objs_of_get hg
  exact AS.get_of_objs (by rw [h.next]; exact AS.lt_of_get hg) (h.objs _ _ hn)

theorem Le.put {σ σ₂ : AS} (h : Le N σ σ₂) (k : Nat) (o : AObj) (hk : σ₂.objs.get k = σ.objs.get k) (next : Nat) (slot : Option Nat) (hn : N ≤ next) (hs : ∀ j, slot = some j → N ≤ j) :
    Le N ⟨putObj σ.objs k o, next, slot⟩ ⟨putObj σ₂.objs k o, next, slot⟩ :=
  ⟨rfl, rfl, fun id q hq => by
    simp only [putObj_get] at hq ⊢
    split at hq
    · rename_i e; rw [if_pos e, hk]; exact hq
    · rename_i e; rw [if_neg e]; exact h.objs id q hq, fun id hid => by
    simp only [putObj_get, h.above id hid, hk], hn, hs⟩

theorem Le.on {σ σ₂ : AS} (h : Le N σ σ₂) (c : Ac) (hc : c.ok N σ) : Le N (c.on σ) (c.on σ₂) := by
  have h1 := h.next
  have h2 := h.slot
  have h3 := h.low
  have h4 := h.slow
  obtain ⟨t, n, s⟩ := σ
  obtain ⟨t', n', s'⟩ := σ₂
  simp only at h1 h2 h3 h4
  subst h1 h2
  cases c with
  | set id o =>
    obtain ⟨p, hp⟩ := hc
    obtain ⟨k, hk⟩ := AS.objs_of_get hp
    exact h.put id o ((h.objs _ _ hk).trans hk.symm) n' s' h3 h4
  | push o =>
    cases s' with
    | none => exact h.put n' o (h.above _ h3) (n' + 1) none (by omega) (fun j hj => by cases hj)
    | some k => exact h.put k o (h.above _ (h4 k rfl)) n' none h3 (fun j hj => by cases hj)
  | bump m => exact ⟨rfl, rfl, h.objs, h.above, Nat.le_trans h3 (Nat.le_add_right _ _), fun j hj => by cases hj⟩
  | slot k => exact ⟨rfl, rfl, h.objs, h.above, h3, fun j hj => by
      simp only [Ac.on] at hj
      subst hj
      exact hc⟩
theorem Le.run {σ σ₂ : AS} (h : Le N σ σ₂) (cs : List Ac) (hc : okA N cs σ) : Le N (runA cs σ) (runA cs σ₂) := by
  induction cs generalizing σ σ₂ with
  | nil => exact h
  | cons c cs ih => exact ih (h.on c hc.1) hc.2
theorem next_on (σ : AS) (c : Ac) : σ.next ≤ (c.on σ).next := by
  cases c with
  | set id o => simp [Ac.on, AS.next_set]
  | push o => exact AS.next_push_le σ o
  | bump n => exact Nat.le_add_right _ _
  | slot k => exact Nat.le_refl _
theorem next_run (σ : AS) (cs : List Ac) : σ.next ≤ (runA cs σ).next := by
  induction cs generalizing σ with
  | nil => exact Nat.le_refl _
  | cons c cs ih => exact Nat.le_trans (next_on σ c) (ih _)

/-- It acts, and acts alike on all that holds more. -/
def Acts (N : Nat) {α : Type} (f : AS → Option (α × AS)) (σ : AS) (x : α) (σ' : AS) : Prop :=
  ∃ cs, okA N cs σ ∧ σ' = runA cs σ ∧ ∀ σ₂, Le N σ σ₂ → f σ₂ = some (x, runA cs σ₂)

theorem Acts.none {α : Type} {f : AS → Option (α × AS)} {σ : AS} {x : α} (h : ∀ σ₂, Le N σ σ₂ → f σ₂ = some (x, σ₂)) : Acts N f σ x σ := ⟨[], trivial, rfl, h⟩

variable {σ σ' : AS} {r : ANext}

theorem rows_le {σ₂ : AS} (hle : Le N σ σ₂) {o : Nat} {rows : List (List AV)} (h : σ.rows o = some rows) : σ₂.rows o = some rows := by
  unfold AS.rows at h ⊢
  split at h
  · rename_i e es x rws hg
    rw [hle.get _ _ hg]; exact h
  · cases h

theorem load_le {σ₂ : AS} (hle : Le N σ σ₂) {t : TypeId} {a v : AV} (h : effLoad P t a σ = some v) : effLoad P t a σ₂ = some v := by
  cases a <;> simp only [effLoad] at h ⊢ <;> try (cases h; done)
  · simp only [Option.bind_eq_some_iff] at h ⊢
    obtain ⟨rows, h1, h2⟩ := h
    exact ⟨rows, rows_le hle h1, h2⟩
  · exact h

theorem indexAddr_le {σ₂ : AS} (hle : Le N σ σ₂) {t : TypeId} {x ix v : AV} (h : effIndexAddr P t x ix σ = some v) : effIndexAddr P t x ix σ₂ = some v := by
  unfold effIndexAddr at h ⊢
  split at h
  · split at h
    · split at h
      · split at h
        · rename_i hg
          simp only [hle.get _ _ hg]
          exact h
        · cases h
      · exact h
      · cases h
    · cases h
  · exact h
  · cases h

theorem slice_le {σ₂ : AS} (hle : Le N σ σ₂) {t : TypeId} {x v : AV} {lo hi mx : Option AV} (h : effSlice P t x lo hi mx σ = some v) : effSlice P t x lo hi mx σ₂ = some v := by
  unfold effSlice at h ⊢
  split at h
  · cases h
  · rename_i hc
    rw [if_neg hc]
    split at h
    · split at h
      · split at h
        · split at h
          · rename_i hg
            simp only [hle.get _ _ hg]
            exact h
          · cases h
        · exact h
        · cases h
      · cases h
    · cases h

theorem cap_le {σ₂ : AS} (hle : Le N σ σ₂) {ats : Array TypeId} {x v : AV} (h : effCap P ats x σ = some v) : effCap P ats x σ₂ = some v := by
  unfold effCap at h ⊢
  split at h
  · exact h
  · split at h
    · rename_i hg
      simp only [hle.get _ _ hg]
      exact h
    · cases h
  · exact h
  · cases h

theorem src_le {σ₂ : AS} (hle : Le N σ σ₂) {size : Nat} {x : AV} {rows : List (List AV)} (h : srcRows size x σ = some rows) : srcRows size x σ₂ = some rows := by
  unfold srcRows at h ⊢
  split at h
  · split at h
    · rename_i hg
      simp only [hle.get _ _ hg]
      exact h
    · cases h
  · exact h
  · exact h
  · exact h
  · cases h

theorem withSt_acts {f : AS → Option AV} {v : AV} (h : f σ = some v) (hle : ∀ σ₂, Le N σ σ₂ → f σ₂ = some v) : Acts N (fun σ => withSt σ (f σ)) σ (.val v) σ :=
  .none fun σ₂ hl => by simp [withSt, hle σ₂ hl]

theorem store_acts {t : TypeId} {a v : AV} (h : effStore P t a v σ = some σ') : Acts N (fun σ => (effStore P t a v σ).map fun σ' => (ANext.val uv, σ')) σ (.val uv) σ' := by
  cases a <;> simp only [effStore] at h <;> try (cases h; done)
  rename_i o i f
  split at h
  · rename_i e es x rows hg
    split at h
    · rename_i row hrow
      split at h
      · rename_i hc
        cases h
        exact ⟨[.set o (.cells e es x (rows.set i (writeRow row f (cellsOf v))))], ⟨⟨_, hg⟩, trivial⟩, rfl, fun σ₂ hl => by
          simp only [effStore, hl.get _ _ hg, hrow]
          rw [if_pos hc]; rfl⟩
      · cases h
    · cases h
  · cases h

theorem push_acts {g : Nat → ANext} {o : AObj} : Acts N (fun σ => some (g σ.newId, σ.push o)) σ (g σ.newId) (σ.push o) :=
  ⟨[.push o], ⟨trivial, trivial⟩, rfl, fun σ₂ hl => by show some (g σ₂.newId, σ₂.push o) = _; rw [hl.newId]; rfl⟩

theorem buildSlice_acts {t : TypeId} {len : Nat} {ps : List (Nat × AV)} (h : effBuildSlice P t len ps σ = some (r, σ')) : Acts N (effBuildSlice P t len ps) σ r σ' := by
  unfold effBuildSlice at h
  split at h
  · rename_i elem hu
    split at h
    · rename_i info hi
      split at h
      · rename_i z hz
        split at h
        · rename_i hc
          split at h
          · rename_i rows hr
            cases h
            exact ⟨[.push (.cells elem info.size true rows)], ⟨trivial, trivial⟩, rfl, fun σ₂ hl => by simp only [effBuildSlice, hu, hi, hz]; rw [if_pos hc]; simp only [hr, hl.newId]; rfl⟩
          · cases h
        · cases h
      · cases h
    · cases h
  · cases h

theorem makeSlice_acts {t : TypeId} {l c : AV} (h : effMakeSlice P t l c σ = some (r, σ')) : Acts N (effMakeSlice P t l c) σ r σ' := by
  unfold effMakeSlice at h
  split at h
  · rename_i elem kl len kc cap hu
    split at h
    · rename_i info hi
      split at h
      · rename_i z hz
        split at h
        · rename_i hc
          cases h
          exact ⟨[.push (.cells elem info.size true (List.replicate cap.toNat (z.cells.toList.map .s)))], ⟨trivial, trivial⟩, rfl, fun σ₂ hl => by simp only [effMakeSlice, hu, hi, hz]; rw [if_pos hc]; simp only [hl.newId]; rfl⟩
        · cases h
      · cases h
    · cases h
  · cases h

theorem copy_acts {ats : Array TypeId} {d x : AV} (h : effCopy P ats d x σ = some (r, σ')) : Acts N (effCopy P ats d x) σ r σ' := by
  unfold effCopy at h
  split at h
  · rename_i t ht
    split at h
    · rename_i elem hu
      split at h
      · rename_i size hs
        split at h
        · rename_i news o i n cap hsrc
          split at h
          · rename_i e es ex rows hg
            split at h
            · rename_i hc
              simp only [Option.some.injEq, Prod.mk.injEq] at h
              obtain ⟨rfl, rfl⟩ := h
              exact ⟨[.set o (.cells e es ex (rows.take i ++ news.take (min news.length n) ++ rows.drop (i + min news.length n)))], ⟨⟨_, hg⟩, trivial⟩, rfl, fun σ₂ hl => by
                simp only [effCopy, ht, hu, hs, src_le hl hsrc, hl.get _ _ hg]
                rw [if_pos hc]; rfl⟩
            · cases h
          · cases h
        · cases h
      · cases h
    · cases h
  · cases h

theorem makeMap_acts {t : TypeId} {x : Option AV} (h : effMakeMap P t x σ = some (r, σ')) : Acts N (effMakeMap P t x) σ r σ' := by
  unfold effMakeMap at h
  split at h
  · cases h
    exact ⟨[.push .emap], ⟨trivial, trivial⟩, rfl, fun σ₂ hl => by simp only [effMakeMap, hl.newId]; rfl⟩
  · split at h
    · rename_i hu
      cases h
      exact ⟨[.push .emap], ⟨trivial, trivial⟩, rfl, fun σ₂ hl => by simp only [effMakeMap, hu, hl.newId]; rfl⟩
    · cases h
  · cases h

theorem range_acts {t : TypeId} {x : AV} (h : effRange P t x σ = some (r, σ')) : Acts N (effRange P t x) σ r σ' := by
  unfold effRange at h
  split at h
  · rename_i kt et o hu
    split at h
    · rename_i hg
      cases h
      exact ⟨[.push (.iter o)], ⟨trivial, trivial⟩, rfl, fun σ₂ hl => by simp only [effRange, hu, hl.get _ _ hg, hl.newId]; rfl⟩
    · cases h
  · cases h

theorem next_acts {it : AV} {b : Bool} (h : effNext it b σ = some (r, σ')) : Acts N (effNext it b) σ r σ' := by
  unfold effNext at h
  split at h
  · split at h
    · rename_i hg
      split at h
      · rename_i hg2
        cases h
        exact .none fun σ₂ hl => by simp only [effNext, hl.get _ _ hg, hl.get _ _ hg2]
      · cases h
    · cases h
  · cases h

set_option maxHeartbeats 2000000 in
theorem append_acts {ats : Array TypeId} {s x : AV} (h : effAppend P ats s x σ = some (r, σ')) : Acts N (effAppend P ats s x) σ r σ' := by
  unfold effAppend at h
  split at h
  · rename_i t tx hats
    split at h
    · rename_i hok
      split at h
      · rename_i elem ht
        split at h
        · rename_i info hi
          split at h
          · rename_i z news hz hsrc
            simp only at h
            split at h
            · rename_i hcond
              split at h
              · split at h
                · rename_i h0
                  cases h
                  exact .none fun σ₂ hl => by
                    simp only [effAppend, hats, ht, hi, hz, src_le hl hsrc]
                    rw [if_pos hok, if_pos hcond, if_pos h0]
                · rename_i h0
                  split at h
                  · rename_i hc
                    cases h
                    exact ⟨[.push (.cells elem info.size false ([] ++ news))], ⟨trivial, trivial⟩, rfl, fun σ₂ hl => by
                      simp only [effAppend, hats, ht, hi, hz, src_le hl hsrc]
                      rw [if_pos hok, if_pos hcond, if_neg h0, if_pos hc, hl.newId]; rfl⟩
                  · cases h
              · rename_i o i len cap
                split at h
                · rename_i e es exact_ rows hg
                  split at h
                  · rename_i hc0
                    split at h
                    · rename_i c
                      split at h
                      · rename_i hroom
                        split at h
                        · rename_i hin
                          cases h
                          exact ⟨[.set o (.cells e es exact_ (rows.take (i + len) ++ news ++ rows.drop (i + len + news.length)))], ⟨⟨_, hg⟩, trivial⟩, rfl, fun σ₂ hl => by
                            simp only [effAppend, hats, ht, hi, hz, src_le hl hsrc, hl.get _ _ hg]
                            rw [if_pos hok, if_pos hcond, if_pos hc0, if_pos hroom, if_pos hin]; rfl⟩
                        · cases h
                      · rename_i hroom
                        split at h
                        · rename_i hlc
                          split at h
                          · rename_i hc
                            cases h
                            exact ⟨[.push (.cells elem info.size false ((rows.drop i).take len ++ news))], ⟨trivial, trivial⟩, rfl, fun σ₂ hl => by
                              simp only [effAppend, hats, ht, hi, hz, src_le hl hsrc, hl.get _ _ hg]
                              rw [if_pos hok, if_pos hcond, if_pos hc0, if_neg hroom, if_pos hlc, if_pos hc, hl.newId]; rfl⟩
                          · cases h
                        · cases h
                    · split at h
                      · rename_i hin
                        cases h
                        exact ⟨[.set o (.cells e es true (rows.take (i + len) ++ news ++ rows.drop (i + len + news.length)))], ⟨⟨_, hg⟩, trivial⟩, rfl, fun σ₂ hl => by
                          simp only [effAppend, hats, ht, hi, hz, src_le hl hsrc, hl.get _ _ hg]
                          rw [if_pos hok, if_pos hcond, if_pos hc0, if_pos hin]; rfl⟩
                      · rename_i hin
                        split at h
                        · rename_i hc
                          cases h
                          exact ⟨[.push (.cells elem info.size false ((rows.drop i).take len ++ news))], ⟨trivial, trivial⟩, rfl, fun σ₂ hl => by
                            simp only [effAppend, hats, ht, hi, hz, src_le hl hsrc, hl.get _ _ hg]
                            rw [if_pos hok, if_pos hcond, if_pos hc0, if_neg hin, if_pos hc, hl.newId]; rfl⟩
                        · cases h
                    · split at h
                      · rename_i h0
                        cases h
                        exact .none fun σ₂ hl => by
                          simp only [effAppend, hats, ht, hi, hz, src_le hl hsrc, hl.get _ _ hg]
                          rw [if_pos hok, if_pos hcond, if_pos hc0, if_pos h0]
                      · rename_i h0
                        split at h
                        · rename_i hc
                          cases h
                          exact ⟨[.set o .dead, .push (.cells elem info.size false (rows ++ news))], ⟨⟨_, hg⟩, trivial, trivial⟩, rfl, fun σ₂ hl => by
                            simp only [effAppend, hats, ht, hi, hz, src_le hl hsrc, hl.get _ _ hg]
                            rw [if_pos hok, if_pos hcond, if_pos hc0, if_neg h0, if_pos hc, hl.newId]; rfl⟩
                        · cases h
                  · cases h
                · cases h
              · rename_i a es cap rows
                split at h
                · rename_i hes
                  split at h
                  · rename_i h0
                    cases h
                    exact .none fun σ₂ hl => by
                      simp only [effAppend, hats, ht, hi, hz, src_le hl hsrc]
                      rw [if_pos hok, if_pos hcond, if_pos hes, if_pos h0]
                  · rename_i h0
                    split at h
                    · cases h
                    · rename_i hcap
                      split at h
                      · rename_i hc
                        cases h
                        exact ⟨[.push (.cells elem info.size false (rows ++ news))], ⟨trivial, trivial⟩, rfl, fun σ₂ hl => by
                          simp only [effAppend, hats, ht, hi, hz, src_le hl hsrc]
                          rw [if_pos hok, if_pos hcond, if_pos hes, if_neg h0, if_neg hcap, if_pos hc, hl.newId]; rfl⟩
                      · cases h
                · cases h
              · cases h
            · cases h
          · cases h
        · cases h
      · cases h
    · cases h
  · cases h

end Go.Ab
