/- A region that draws its order: whatever order is drawn, the run is the same (the whole region). -/
import Derived.Test.YtldckcopeiginaaAbW
namespace Go.Ab
variable {P : Program} {G : Gl} {ex : Runner} {base : Nat} {ops : Array Oper} {B : World}

/-! ### The masks -/
theorem fold_bit (acc : List Nat) (k : Nat) : ∀ (l : List Nat) (s : Nat), (l.foldl (fun s e => s ||| (2 ^ e ||| acc.getD e 0)) s).testBit k = true ↔ s.testBit k = true ∨ ∃ e ∈ l, e = k ∨ (acc.getD e 0).testBit k = true
  | [], s => by simp
  | e :: l, s => by
    rw [List.foldl_cons, fold_bit acc k l]
    simp only [Nat.testBit_or, Bool.or_eq_true, Nat.testBit_two_pow, decide_eq_true_eq, List.mem_cons]
    constructor
    · rintro ((h | h | h) | ⟨e', h1, h2⟩)
      · exact .inl h
      · exact .inr ⟨e, .inl rfl, .inl h⟩
      · exact .inr ⟨e, .inl rfl, .inr h⟩
      · exact .inr ⟨e', .inr h1, h2⟩
    · rintro (h | ⟨e', rfl | h1, h2⟩)
      · exact .inl (.inl h)
      · rcases h2 with h2 | h2
        · exact .inl (.inr (.inl h2))
        · exact .inl (.inr (.inr h2))
      · exact .inr ⟨e', h1, h2⟩
theorem mask_bit (acc : List Nat) (o : Oper) (k : Nat) : (mask acc o).testBit k = true ↔ ∃ e ∈ bindsOf o, e = k ∨ (acc.getD e 0).testBit k = true := by
  unfold mask
  rw [fold_bit]
  simp

theorem masks_front : ∀ (l : List Oper) (acc : List Nat) (i : Nat), i < acc.length → (masks l acc).getD i 0 = acc.getD i 0
  | [], acc, i, h => rfl
  | o :: l, acc, i, h => by
    rw [masks, masks_front l _ i (by simp; omega)]
    simp only [List.getD_eq_getElem?_getD, List.getElem?_append_left h]
theorem masks_at : ∀ (l : List Oper) (acc : List Nat) (j : Nat) (o : Oper), l[j]? = some o → ∃ acc' : List Nat, (∀ i, i < acc.length + j → acc'.getD i 0 = (masks l acc).getD i 0) ∧ (masks l acc).getD (acc.length + j) 0 = mask acc' o
  | [], acc, j, o, h => by simp at h
  | x :: l, acc, 0, o, h => by
    simp at h; subst h
    refine ⟨acc, fun i hi => ?_, ?_⟩
    · rw [masks, masks_front l _ i (by simp; omega)]
      simp only [List.getD_eq_getElem?_getD, List.getElem?_append_left (show i < acc.length by omega)]
    · rw [masks, masks_front l _ _ (by simp)]
      simp
  | x :: l, acc, j + 1, o, h => by
    obtain ⟨acc', h1, h2⟩ := masks_at l (acc ++ [mask acc x]) j o (by simpa using h)
    refine ⟨acc', fun i hi => ?_, ?_⟩
    · exact h1 i (by simp; omega)
    · rw [masks]
      have : (acc ++ [mask acc x]).length + j = acc.length + (j + 1) := by simp; omega
      rw [this] at h2; exact h2

theorem edges_lt : ∀ (l : List Oper) (j : Nat), edgesOk l j = true → ∀ (i : Nat) (o : Oper), l[i]? = some o → ∀ e ∈ bindsOf o, e < j + i
  | [], j, h, i, o, ho => by simp at ho
  | x :: l, j, h, 0, o, ho => by
    simp at ho; subst ho
    simp only [edgesOk, Bool.and_eq_true, List.all_eq_true, decide_eq_true_eq] at h
    exact fun e he => by have := h.1 e he; omega
  | x :: l, j, h, i + 1, o, ho => by
    simp only [edgesOk, Bool.and_eq_true] at h
    intro e he
    have := edges_lt l (j + 1) h.2 i o (by simpa using ho) e he
    omega

theorem mem_binds {o : Oper} {e : Nat} : e ∈ bindsOf o ↔ ∃ x ∈ o.after, Region.binds .any x = true ∧ x.on = e := by
  unfold bindsOf
  simp only [List.mem_map, List.mem_filter, Array.mem_toList_iff]
  constructor
  · rintro ⟨x, ⟨h1, h2⟩, h3⟩; exact ⟨x, h1, h2, h3⟩
  · rintro ⟨x, h1, h2, h3⟩; exact ⟨x, ⟨h1, h2⟩, h3⟩

def Closed (ops : Array Oper) (listed : Array Bool) : Prop := ∀ (j : Nat) (o : Oper), listed.getD j false = true → ops[j]? = some o → ∀ e ∈ bindsOf o, listed.getD e false = true

theorem mask_listed (hedge : edgesOk ops.toList 0 = true) {listed : Array Bool} (hc : Closed ops listed) : ∀ (n i : Nat) (o : Oper), i ≤ n → ops[i]? = some o → (∀ e ∈ bindsOf o, listed.getD e false = true) →
    ∀ k, ((masks ops.toList []).getD i 0).testBit k = true → listed.getD k false = true
  | n, i, o, hn, ho, hl, k, hk => by
    have ho' : ops.toList[i]? = some o := by simpa using ho
    obtain ⟨acc', h1, h2⟩ := masks_at ops.toList [] i o ho'
    simp only [List.length_nil, Nat.zero_add] at h1 h2
    rw [h2, mask_bit] at hk
    obtain ⟨e, he, hk⟩ := hk
    have hlt := edges_lt ops.toList 0 hedge i o ho' e he
    rcases hk with rfl | hk
    · exact hl e he
    · rw [h1 e (by omega)] at hk
      cases hoe : ops[e]? with
      | none =>
        have hsz := (Array.getElem?_eq_some_iff.1 ho).1
        rw [Array.getElem?_eq_none_iff] at hoe
        omega
      | some oe =>
        cases n with
        | zero => omega
        | succ n => exact mask_listed hedge hc n e oe (by omega) hoe (hc e oe (hl e he) hoe) k hk

/-! ### The plan -/
def Ahead (ops : Array Oper) (ms : List Nat) (i : Nat) (q : Nat × List Nat) : Prop :=
  ∃ x y, ops[i]? = some x ∧ ops[q.1]? = some y ∧ i ≠ q.1 ∧ q.1 ∉ bindsOf x ∧ ((ms.getD q.1 0).testBit i = true ∨ (pairOk ops x y = true ∧ (cls x = 1 → cls y = 2 → i ∈ q.2)))
def Each (ops : Array Oper) (p : Nat × List Nat) : Prop := ∃ x, ops[p.1]? = some x ∧ (cls x ≠ 2 → p.2 = []) ∧ p.1 ∉ bindsOf x
structure PlanOk (ops : Array Oper) (ms : List Nat) (L : List (Nat × List Nat)) : Prop where
  pair : L.Pairwise fun p q => Ahead ops ms p.1 q
  each : ∀ p ∈ L, Each ops p

theorem plan_ok {ms : List Nat} : ∀ (r seen : List Nat), (∀ i ∈ seen, ∃ x, ops[i]? = some x ∧ ∀ e ∈ bindsOf x, e ∈ seen) → checkFrom ops ms r seen = true →
    PlanOk ops ms (planFrom ops ms r seen) ∧ ∀ i ∈ seen, ∀ q ∈ planFrom ops ms r seen, Ahead ops ms i q
  | [], seen, hs, h => ⟨⟨List.Pairwise.nil, fun p hp => by cases hp⟩, fun i _ q hq => by cases hq⟩
  | j :: r, seen, hs, h => by
    simp only [checkFrom] at h
    cases hj : ops[j]? with
    | none => rw [hj] at h; cases h
    | some y =>
      rw [hj] at h
      simp only [Bool.and_eq_true, Bool.not_eq_true', List.all_eq_true] at h
      obtain ⟨⟨⟨h1, h2⟩, h3⟩, h4⟩ := h
      have hnot : j ∉ seen := fun hm => by rw [List.contains_iff_mem.2 hm] at h1; cases h1
      have hbind : ∀ e ∈ bindsOf y, e ∈ seen := fun e he => List.contains_iff_mem.1 (h2 e he)
      have hs' : ∀ i ∈ j :: seen, ∃ x, ops[i]? = some x ∧ ∀ e ∈ bindsOf x, e ∈ j :: seen := fun i hi => by
        rcases List.mem_cons.1 hi with rfl | hi
        · exact ⟨y, hj, fun e he => List.mem_cons_of_mem _ (hbind e he)⟩
        · obtain ⟨x, hx, hb⟩ := hs i hi
          exact ⟨x, hx, fun e he => List.mem_cons_of_mem _ (hb e he)⟩
      obtain ⟨hp, hr⟩ := plan_ok r (j :: seen) hs' h4
      have hpl : planFrom ops ms (j :: r) seen = (j, flagsAt ops (ms.getD j 0) y seen) :: planFrom ops ms r (j :: seen) := by simp only [planFrom, hj]
      rw [hpl]
      have hhead : ∀ i ∈ seen, Ahead ops ms i (j, flagsAt ops (ms.getD j 0) y seen) := fun i hi => by
        obtain ⟨x, hx, hb⟩ := hs i hi
        refine ⟨x, y, hx, hj, fun e => hnot ((show i = j from e) ▸ hi), fun e => hnot (hb _ e), ?_⟩
        have hpa := h3 i hi
        unfold pairAt at hpa
        simp only [Bool.or_eq_true, hx] at hpa
        by_cases hbit : (ms.getD j 0).testBit i = true
        · exact .inl hbit
        · refine .inr ⟨hpa.resolve_left hbit, fun c1 c2 => ?_⟩
          unfold flagsAt
          simp only [c2, beq_self_eq_true, if_true, List.mem_filter]
          refine ⟨hi, ?_⟩
          have hbf : (ms.getD j 0).testBit i = false := by simpa only [Bool.not_eq_true] using hbit
          simp only [hbf, hx, c1]
          rfl
      refine ⟨⟨List.Pairwise.cons (fun q hq => hr j (by simp) q hq) hp.pair, ?_⟩, ?_⟩
      · intro p hpm
        rcases List.mem_cons.1 hpm with rfl | hpm
        · refine ⟨y, hj, fun hc => ?_, fun hm => hnot (hbind _ hm)⟩
          unfold flagsAt
          rw [if_neg (by simpa using hc)]
        · exact hp.each p hpm
      · intro i hi q hq
        rcases List.mem_cons.1 hq with rfl | hq
        · exact hhead i hi
        · exact hr i (List.mem_cons_of_mem _ hi) q hq

theorem plan_fst {ms : List Nat} : ∀ (r seen : List Nat), checkFrom ops ms r seen = true → (planFrom ops ms r seen).map (·.1) = r
  | [], seen, h => rfl
  | j :: r, seen, h => by
    simp only [checkFrom] at h
    cases hj : ops[j]? with
    | none => rw [hj] at h; cases h
    | some y =>
      rw [hj] at h
      simp only [Bool.and_eq_true] at h
      simp only [planFrom, hj, List.map_cons, plan_fst r _ h.2]

theorem mem_part {ms : List Nat} {wm : Nat} {want : Bool} : ∀ (l : List Oper) (k j : Nat), j ∈ ordPart ms wm want l k ↔ ∃ i o, l[i]? = some o ∧ j = k + i ∧ isEarly ms wm o j = want
  | [], k, j => by simp [ordPart]
  | o :: l, k, j => by
    have ih := mem_part (ms := ms) (wm := wm) (want := want) l (k + 1) j
    have tailmem : (∃ i o, l[i]? = some o ∧ j = k + 1 + i ∧ isEarly ms wm o j = want) → ∃ i o', (o :: l)[i]? = some o' ∧ j = k + i ∧ isEarly ms wm o' j = want := by
      rintro ⟨i, o', h1, h2, h3⟩
      exact ⟨i + 1, o', by simpa using h1, by omega, h3⟩
    have fromTail : ∀ i o', (o :: l)[i + 1]? = some o' → j = k + (i + 1) → isEarly ms wm o' j = want → j ∈ ordPart ms wm want l (k + 1) := fun i o' h1 h2 h3 => ih.2 ⟨i, o', by simpa using h1, by omega, h3⟩
    simp only [ordPart]
    split
    · rename_i he
      simp only [beq_iff_eq] at he
      rw [List.mem_cons]
      constructor
      · rintro (rfl | h)
        · exact ⟨0, o, rfl, rfl, he⟩
        · exact tailmem (ih.1 h)
      · rintro ⟨i, o', h1, h2, h3⟩
        cases i with
        | zero => exact .inl (by omega)
        | succ i => exact .inr (fromTail i o' h1 h2 h3)
    · rename_i he
      simp only [beq_iff_eq] at he
      constructor
      · intro h; exact tailmem (ih.1 h)
      · rintro ⟨i, o', h1, h2, h3⟩
        cases i with
        | zero =>
          simp at h1; subst h1
          have : j = k := by omega
          subst this
          exact absurd h3 he
        | succ i => exact fromTail i o' h1 h2 h3

theorem drawOrd_all (ms : List Nat) (j : Nat) (h : j < ops.size) : j ∈ drawOrd ops ms := by
  unfold drawOrd
  rw [List.mem_append, mem_part, mem_part]
  have ho : ops.toList[j]? = some ops[j] := by simp
  cases he : isEarly ms (wbits ops.toList 0) ops[j] j with
  | true => exact .inl ⟨j, _, ho, by omega, he⟩
  | false => exact .inr ⟨j, _, ho, by omega, he⟩

/-! ### What may come next is brought to the front -/
def Swap (ops : Array Oper) (p q : Nat × List Nat) : Prop := ∃ x y, ops[p.1]? = some x ∧ ops[q.1]? = some y ∧ p.1 ≠ q.1 ∧ pairOk ops x y = true ∧ (cls x = 1 → cls y = 2 → p.1 ∈ q.2) ∧ (cls x ≠ 2 → p.2 = []) ∧ (cls y ≠ 2 → q.2 = [])

theorem resX_next (hx : Acting G ex) {i : Nat} {o : Oper} {tm : Tm} {σ σ' : AS} {v : AV} (h : resX P G ex base ops i o tm σ = some (v, σ')) : σ.next ≤ σ'.next := by
  obtain ⟨cs, _, h2, _⟩ := resX_acts (N := 0) hx h (Nat.zero_le _) (fun _ => Nat.zero_le _)
  rw [h2]; exact next_run σ cs

theorem front (hx : Acting G ex) {q : Nat × List Nat} {post : List (Nat × List Nat)} {s' : Cfg} : ∀ (pre : List (Nat × List Nat)) (tm : Tm) (defs : List Nat) (σ : AS) (rc : Rec), (∀ p ∈ pre, Swap ops p q) → (pre.Pairwise fun p p' => p.1 ≠ p'.1) → (∀ p ∈ pre, rc p.1 = none) →
    base + ops.size ≤ σ.next → σ.slot = none → runD P G ex base ops (pre ++ q :: post) ⟨tm, defs, σ⟩ rc = some s' → runD P G ex base ops (q :: (pre ++ post)) ⟨tm, defs, σ⟩ rc = some s'
  | [], tm, defs, σ, rc, _, _, _, _, _, h => h
  | p :: pre, tm, defs, σ, rc, hsw, hne, hrc, hb, hs, h => by
    obtain ⟨x, y, hp, hq, hpq, hpair, hin, hflp, hfl⟩ := hsw p (by simp)
    rw [List.pairwise_cons] at hne
    have hrun : runD P G ex base ops (p :: q :: (pre ++ post)) ⟨tm, defs, σ⟩ rc = some s' := by
      obtain ⟨p1, flp⟩ := p
      simp only [List.cons_append, runD, stepD] at h ⊢
      simp only at hp
      rw [hp] at h ⊢
      simp only at h ⊢
      cases hr : resX P G ex base ops p1 x tm σ with
      | none => rw [hr] at h; cases h
      | some r =>
        obtain ⟨v, σ1⟩ := r
        rw [hr] at h
        simp only at h ⊢
        by_cases hst : stands rc σ1 flp = true
        · rw [if_pos hst] at h ⊢
          simp only at h ⊢
          exact front hx pre _ _ _ _ (fun p' hp' => hsw p' (List.mem_cons_of_mem _ hp')) hne.2 (fun p' hp' => by
            unfold Rec.upd
            rw [if_neg (fun e => hne.1 p' hp' e.symm)]
            exact hrc p' (List.mem_cons_of_mem _ hp')) (Nat.le_trans hb (resX_next hx hr)) (resX_slot hr) h
        · rw [if_neg hst] at h; cases h
    obtain ⟨p1, flp⟩ := p
    obtain ⟨q1, fl⟩ := q
    exact swapD hx hp hq hpq hb hs hpair hflp hfl hin (hrc (p1, flp) (by simp)) hrun

/-! ### A step of a drawn region is the machine's -/
theorem Rep.reslot {ρ : Rho} {w : World} {objs : Tr (Nat × AObj)} {next : Nat} {slot : Option Nat} (h : Rep B ρ ⟨objs, next, slot⟩ w) (k : Option Nat) (hk : ∀ j, k = some j → j < next ∧ objs.get j = none) : Rep B ρ ⟨objs, next, k⟩ w where
  dom := h.dom
  free := by
    cases k with
    | none =>
      show ρ next = none
      cases hr : ρ next with
      | none => rfl
      | some l => exact absurd (h.dom _ _ hr) (Nat.lt_irrefl _)
    | some j =>
      show ρ j = none
      cases hr : ρ j with
      | none => rfl
      | some l =>
        obtain ⟨p, hp⟩ := h.has _ _ hr
        rw [(hk j rfl).2] at hp; cases hp
  low := fun j hj => (hk j hj).1
  obj := h.obj
  new := h.new
  inj := h.inj
  keep := h.keep
  size := h.size
  tape := h.tape
  os := h.os
  out := h.out
  has := h.has
  thaw := h.thaw
theorem AS.get_bump {objs : Tr (Nat × AObj)} {next m : Nat} {slot slot' : Option Nat} {id : Nat} (hl : id < next) : (⟨objs, next + m, slot'⟩ : AS).get id = (⟨objs, next, slot⟩ : AS).get id := by
  unfold AS.get
  simp only
  rw [if_pos hl, if_pos (by omega)]
theorem Rep.bump {ρ : Rho} {w : World} {objs : Tr (Nat × AObj)} {next : Nat} {slot : Option Nat} (h : Rep B ρ ⟨objs, next, slot⟩ w) (m : Nat) : Rep B ρ ⟨objs, next + m, none⟩ w where
  dom := fun id l hr => Nat.lt_of_lt_of_le (h.dom id l hr) (Nat.le_add_right _ _)
  free := by
    show ρ (next + m) = none
    cases hr : ρ (next + m) with
    | none => rfl
    | some l => exact absurd (h.dom _ _ hr) (by simp)
  low := fun j hj => by cases hj
  obj := fun id o l hg hr => h.obj id o l (by rw [← hg]; exact (AS.get_bump (h.dom id l hr)).symm) hr
  new := h.new
  inj := fun id id' o o' l l' hg hg' v v' hr hr' => h.inj id id' o o' l l' (by rw [← hg]; exact (AS.get_bump (h.dom id l hr)).symm) (by rw [← hg']; exact (AS.get_bump (h.dom id' l' hr')).symm) v v' hr hr'
  keep := h.keep
  size := h.size
  tape := h.tape
  os := h.os
  out := h.out
  has := h.has
  thaw := h.thaw

theorem resX_sound (hs : Sound P G ex) (hN : NamesOk P) {i : Nat} {o : Oper} {tm : Tm} {σ σ' : AS} {v : AV} (h : resX P G ex base ops i o tm σ = some (v, σ')) (hi : base + i < σ.next) {defs : List Nat} {ρ : Rho} {a : Act} {w : World} (rb : Option Nat) (n : Nat)
    (hG : GlOk (memOf B) ρ G) (hrel : CfgRel B ρ ⟨tm, defs, σ⟩ a w) {K : Act → World → Prop} {Q : Exit → Act → World → Prop} (hK : ∀ ρ' a' w', ρ.le ρ' → CfgRel B ρ' ⟨put tm o.dst v, defs, σ'⟩ a' w' → K a' w') :
    if Region.wanted o (yielded ops a.tmps) then o.wpIn (fenceOf rb) n P a w K Q else (∀ f, o.about P w a.eval = some f → (fenceOf rb).fn f) ∧ K (a.put o.dst undef) w := by
  obtain ⟨objs, next, slot⟩ := σ
  simp only [resX, resA] at h
  split at h
  · split at h
    · cases h
    · rename_i hg
      split at h
      · rename_i u objs' next' slot' hr
        cases h
        refine resO_sound hs hN hr (defs := defs) (ρ := ρ) rb n hG ⟨hrel.tmps, hrel.defs, hrel.rep.reslot _ (fun j hj => by cases hj; exact ⟨hi, hg⟩)⟩ (fun ρ' a' w' hle hr' => hK ρ' a' w' hle ⟨hr'.tmps, hr'.defs, hr'.rep.reslot none (fun j hj => by cases hj)⟩)
      · cases h
  · split at h
    · rename_i u objs' next' slot' hr
      cases h
      refine resO_sound hs hN hr (defs := defs) (ρ := ρ) rb n hG ⟨hrel.tmps, hrel.defs, hrel.rep.reslot _ (fun j hj => by cases hj)⟩ (fun ρ' a' w' hle hr' => hK ρ' a' w' hle ⟨hr'.tmps, hr'.defs, hr'.rep.reslot none (fun j hj => by cases hj)⟩)
    · cases h

/-! ### The whole region -/
theorem getD_both {listed : Array Bool} {j : Nat} (h : j < listed.size) (d e : Bool) : listed.getD j d = listed.getD j e := by
  simp [h]

theorem drawn_sound (hs : Sound P G ex) (hx : Acting G ex) (hN : NamesOk P) (hedge : edgesOk ops.toList 0 = true) {s' : Cfg} {Q : Exit → Act → World → Prop} (rb : Option Nat) (n : Nat) : ∀ (fuel : Nat) (L : List (Nat × List Nat)) (tm : Tm) (defs : List Nat) (σ : AS) (rc : Rec) (listed : Array Bool) (ρ : Rho) (a : Act) (w : World),
    L.length = fuel → PlanOk ops (masks ops.toList []) L → (∀ p ∈ L, rc p.1 = none) → listed.size = ops.size → (∀ j, j < ops.size → (listed.getD j false = false ↔ j ∈ L.map (·.1))) → Closed ops listed → σ.slot = none → base + ops.size ≤ σ.next →
    GlOk (memOf B) ρ G → CfgRel B ρ ⟨tm, defs, σ⟩ a w → runD P G ex base ops L ⟨tm, defs, σ⟩ rc = some s' → (∀ ρ' a' w', ρ.le ρ' → CfgRel B ρ' s' a' w' → Q .normal a' w') → wpAnyIn (fenceOf rb) n P .any ops Q fuel listed a w
  | 0, L, tm, defs, σ, rc, listed, ρ, a, w, hlen, hplan, hrc, hsz, hlist, hcl, hslot, hb, hG, hrel, h, hQ => by
    obtain rfl := List.length_eq_zero_iff.1 hlen
    cases h
    refine ⟨?_, hQ ρ a w (Rho.le_refl ρ) hrel⟩
    rw [List.eq_nil_iff_forall_not_mem]
    intro j hj
    obtain ⟨h1, o, ho, _⟩ := mem_ready.1 hj
    have hlt := (Array.getElem?_eq_some_iff.1 ho).1
    have := (hlist j hlt).1 (by rw [getD_both (by omega) false true]; exact h1)
    cases this
  | fuel + 1, L, tm, defs, σ, rc, listed, ρ, a, w, hlen, hplan, hrc, hsz, hlist, hcl, hslot, hb, hG, hrel, h, hQ => by
    constructor
    · intro hnil
      exfalso
      cases L with
      | nil => simp at hlen
      | cons p L =>
        obtain ⟨x, hpx, _, hself⟩ := hplan.each p (by simp)
        have hlt := (Array.getElem?_eq_some_iff.1 hpx).1
        have hmem : p.1 ∈ Region.ready .any ops listed := by
          refine mem_ready.2 ⟨?_, x, hpx, fun e he hbd => ?_⟩
          · rw [getD_both (by omega) true false]
            exact (hlist p.1 hlt).2 (by simp)
          · have heb : e.on ∈ bindsOf x := mem_binds.2 ⟨e, he, hbd, rfl⟩
            have hel := edges_lt ops.toList 0 hedge p.1 x (by simpa using hpx) e.on heb
            cases hv : listed.getD e.on false with
            | true => rfl
            | false =>
              exfalso
              have := (hlist e.on (by omega)).1 hv
              simp only [List.map_cons, List.mem_cons] at this
              rcases this with hh | hh
              · exact hself (hh ▸ heb)
              · obtain ⟨q, hq, hqe⟩ := List.mem_map.1 hh
                have hpw := hplan.pair
                rw [List.pairwise_cons] at hpw
                obtain ⟨x', y', hx', _, _, hnb, _⟩ := hpw.1 q hq
                rw [hpx] at hx'; cases hx'
                exact hnb (hqe ▸ heb)
        rw [hnil] at hmem; cases hmem
    · intro i hi
      obtain ⟨h1, o, ho, hall⟩ := mem_ready.1 hi
      have hlt := (Array.getElem?_eq_some_iff.1 ho).1
      have hiL := (hlist i hlt).1 (by rw [getD_both (by omega) false true]; exact h1)
      obtain ⟨q, hqL, hqi⟩ := List.mem_map.1 hiL
      obtain ⟨pre, post, rfl⟩ := List.append_of_mem hqL
      obtain ⟨i', fl⟩ := q
      simp only at hqi
      subst hqi
      have hbl : ∀ e ∈ bindsOf o, listed.getD e false = true := fun e he => by
        obtain ⟨x, hx1, hx2, hx3⟩ := mem_binds.1 he
        subst hx3
        exact hall x hx1 hx2
      have hpw := hplan.pair
      rw [List.pairwise_append] at hpw
      obtain ⟨pw1, pw2, pw3⟩ := hpw
      rw [List.pairwise_cons] at pw2
      have hlistedOf : ∀ p ∈ pre ++ (i', fl) :: post, ∃ x, ops[p.1]? = some x ∧ listed.getD p.1 false = false := fun p hp => by
        obtain ⟨x, hpx, _⟩ := hplan.each p hp
        exact ⟨x, hpx, (hlist p.1 (Array.getElem?_eq_some_iff.1 hpx).1).2 (List.mem_map.2 ⟨p, hp, rfl⟩)⟩
      obtain ⟨yq, hyq, hflq, _⟩ := hplan.each (i', fl) hqL
      have hsw : ∀ p ∈ pre, Swap ops p (i', fl) := fun p hp => by
        obtain ⟨x, y, hpx, hqy, hne, _, hor⟩ := pw3 p hp (i', fl) (by simp)
        obtain ⟨x', hpx', hflp, _⟩ := hplan.each p (List.mem_append_left _ hp)
        rw [hpx] at hpx'; cases hpx'
        have hqy' := hqy
        rw [hyq] at hqy'; cases hqy'
        rcases hor with hbit | ⟨hpair, hin⟩
        · exfalso
          have := mask_listed hedge hcl i' i' o (Nat.le_refl _) ho hbl p.1 hbit
          obtain ⟨_, _, hf⟩ := hlistedOf p (List.mem_append_left _ hp)
          rw [hf] at this; cases this
        · exact ⟨x, yq, hpx, hqy, hne, hpair, hin, hflp, hflq⟩
      have hnePre : pre.Pairwise fun p p' => p.1 ≠ p'.1 := pw1.imp fun {p p'} ⟨_, _, _, _, hne, _⟩ => hne
      have hfront := front hx pre tm defs σ rc hsw hnePre (fun p hp => hrc p (List.mem_append_left _ hp)) hb hslot h
      simp only [runD, stepD, ho] at hfront
      cases hr : resX P G ex base ops i' o tm σ with
      | none => rw [hr] at hfront; cases hfront
      | some r =>
        obtain ⟨v, σ1⟩ := r
        rw [hr] at hfront
        simp only at hfront
        by_cases hst : stands rc σ1 fl = true
        · rw [if_pos hst] at hfront
          simp only at hfront
          refine wpOpIn_step ho fun K' hK' => ?_
          refine resX_sound hs hN hr (by omega) (defs := defs) rb n hG hrel (fun ρ' a' w' hle hrel' => hK' a' w' ?_)
          have hneI : ∀ p ∈ pre ++ post, p.1 ≠ i' := fun p hp => by
            rcases List.mem_append.1 hp with hp | hp
            · obtain ⟨_, _, _, _, hne, _⟩ := pw3 p hp (i', fl) (by simp)
              exact hne
            · obtain ⟨_, _, _, _, hne, _⟩ := pw2.1 p hp
              exact fun e => hne e.symm
          have hsub : ∀ p ∈ pre ++ post, p ∈ pre ++ (i', fl) :: post := fun p hp => by
            rcases List.mem_append.1 hp with hp | hp
            · exact List.mem_append_left _ hp
            · exact List.mem_append_right _ (List.mem_cons_of_mem _ hp)
          refine drawn_sound hs hx hN hedge rb n fuel (pre ++ post) _ _ _ _ _ ρ' a' w' ?_ ⟨?_, fun p hp => hplan.each p (hsub p hp)⟩ ?_ ?_ ?_ ?_ (resX_slot hr) (Nat.le_trans hb (resX_next hx hr)) (hG.mono hle) hrel' hfront (fun ρ₂ a₂ w₂ hle₂ hr₂ => hQ ρ₂ a₂ w₂ (Rho.le_trans hle hle₂) hr₂)
          · simp at hlen ⊢; omega
          · rw [List.pairwise_append]
            exact ⟨pw1, pw2.2, fun p hp q hq => pw3 p hp q (List.mem_cons_of_mem _ hq)⟩
          · intro p hp
            unfold Rec.upd
            rw [if_neg (hneI p hp)]
            exact hrc p (hsub p hp)
          · simp [hsz]
          · intro j hj
            by_cases e : j = i'
            · subst e
              have : (listed.setIfInBounds j true).getD j false = true := by simp [hsz, hj]
              rw [this]
              constructor
              · intro hh; cases hh
              · intro hh
                obtain ⟨p, hp, hpe⟩ := List.mem_map.1 hh
                exact absurd hpe (hneI p hp)
            · have : (listed.setIfInBounds i' true).getD j false = listed.getD j false := by
                have hne : i' ≠ j := fun h => e h.symm
                simp [Array.getElem?_setIfInBounds_ne hne]
              rw [this, hlist j hj]
              simp only [List.map_append, List.map_cons, List.mem_append, List.mem_cons]
              constructor
              · rintro (h | h | h)
                · exact .inl h
                · exact absurd h e
                · exact .inr h
              · rintro (h | h)
                · exact .inl h
                · exact .inr (.inr h)
          · have hmono : ∀ e, listed.getD e false = true → (listed.setIfInBounds i' true).getD e false = true := fun e he => by
              by_cases hei : e = i'
              · subst hei; simp [hsz, hlt]
              · have hne : i' ≠ e := fun h => hei h.symm
                simpa [Array.getElem?_setIfInBounds_ne hne] using he
            intro j oj hj hoj e he
            by_cases hji : j = i'
            · subst hji
              rw [ho] at hoj; cases hoj
              exact hmono e (hbl e he)
            · have hne : i' ≠ j := fun h => hji h.symm
              exact hmono e (hcl j oj (by simpa [Array.getElem?_setIfInBounds_ne hne] using hj) hoj e he)
        · rw [if_neg hst] at hfront; cases hfront

theorem draw_wp (hs : Sound P G ex) (hx : Acting G ex) (hN : NamesOk P) (hm : P.follows .mixedOrders = true) {id : Nat} {tm : Tm} {defs : List Nat} {σ : AS} {e : AEx} {s' : Cfg} (h : stDraw P G ex ops ⟨tm, defs, σ⟩ = some (e, s')) {ρ : Rho} {a : Act} {w : World} (rb : Option Nat) (n : Nat)
    (hG : GlOk (memOf B) ρ G) (hrel : CfgRel B ρ ⟨tm, defs, σ⟩ a w) {Q : Exit → Act → World → Prop} (hQ : ∀ ρ' a' w', ρ.le ρ' → CfgRel B ρ' s' a' w' → Q (exOf e) a' w') : (Code.region id ops true).wpIn (fenceOf rb) n P Q a w := by
  obtain ⟨objs, next, slot⟩ := σ
  simp only [stDraw] at h
  split at h
  · rename_i hok
    cases hr : runD P G ex next ops (plan ops) ⟨tm, defs, ⟨objs, next + ops.size, none⟩⟩ (fun _ => none) with
    | none => rw [hr] at h; cases h
    | some s₁ =>
      rw [hr] at h
      cases h
      unfold drawnOk at hok
      simp only [Bool.and_eq_true, beq_iff_eq] at hok
      obtain ⟨⟨hedge, hlen⟩, hcheck⟩ := hok
      refine wpIn_region_any hm ?_
      have hplan : plan ops = planFrom ops (masks ops.toList []) (drawOrd ops (masks ops.toList [])) [] := rfl
      have hfst := plan_fst _ _ hcheck
      have hlenp : (plan ops).length = ops.size := by
        rw [hplan, ← hlen]
        have := congrArg List.length hfst
        simpa using this
      refine drawn_sound hs hx hN hedge rb n ops.size (plan ops) tm defs ⟨objs, next + ops.size, none⟩ _ _ ρ a _ hlenp (plan_ok _ _ (fun i hi => by cases hi) hcheck).1 (fun _ _ => rfl) (by simp) ?_ ?_ rfl (Nat.le_refl _) hG ⟨hrel.tmps, hrel.defs, (hrel.rep.bump ops.size).drew⟩ hr hQ
      · intro j hj
        have : (Array.replicate ops.size false).getD j false = false := by simp [hj]
        rw [this, hplan, hfst]
        simp only [true_iff]
        exact drawOrd_all _ j hj
      · intro j o hj ho e he
        have hlt := (Array.getElem?_eq_some_iff.1 ho).1
        simp [hlt] at hj
  · cases h

end Go.Ab
