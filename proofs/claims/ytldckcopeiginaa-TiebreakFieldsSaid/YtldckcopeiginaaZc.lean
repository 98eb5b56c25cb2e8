/- A region that draws its order: whatever order is drawn, the run is the same (the whole region). -/
import Derived.Test.YtldckcopeiginaaZb
import Derived.WideKeyArgs
import Derived.ProofKit
import Derived.OpenShut
import Derived.WalkKit
namespace Go.Ab
variable {P : Program} {G : Gl} {ex : Runner} {base : Nat} {ops : Array Oper} {B : World}

theorem fold_bit (acc : List Nat) (k : Nat) : ∀ (l : List Nat) (s : Nat), (l.foldl (fun s e => s ||| (2 ^ e ||| acc.getD e 0)) s).testBit k = true ↔ s.testBit k = true ∨ ∃ e ∈ l, e = k ∨ (acc.getD e 0).testBit k = true
  | [], s => by simp
  | e :: l, s => by
    rw [List.foldl_cons, fold_bit acc k l]
    simp only [Nat.testBit_or, Bool.or_eq_true, Nat.testBit_two_pow, decide_eq_true_eq, List.mem_cons]
    constructor
    · rintro ((h | h | h) | ⟨e', h1, h2⟩)
      · exact .inl h
      · exact .inr ⟨e, .inl rfl, .inl h⟩
      · exact .inr ⟨e, .inl rfl, .inr h⟩
      · exact .inr ⟨e', .inr h1, h2⟩
    · rintro (h | ⟨e', rfl | h1, h2⟩)
      · exact .inl (.inl h)
      · rcases h2 with h2 | h2
        · exact .inl (.inr (.inl h2))
        · exact .inl (.inr (.inr h2))
      · exact .inr ⟨e', h1, h2⟩
theorem mask_bit (acc : List Nat) (o : Oper) (k : Nat) : (mask acc o).testBit k = true ↔ ∃ e ∈ bindsOf o, e = k ∨ (acc.getD e 0).testBit k = true := by
  unfold mask
  rw [fold_bit]
  simp

theorem masks_front : ∀ (l : List Oper) (acc : List Nat) (i : Nat), i < acc.length → (masks l acc).getD i 0 = acc.getD i 0
  | [], acc, i, h => rfl
  | o :: l, acc, i, h => by
    rw [masks, masks_front l _ i (by simp; omega)]
    simp only [List.getD_eq_getElem?_getD, List.getElem?_append_left h]
theorem masks_at : ∀ (l : List Oper) (acc : List Nat) (j : Nat) (o : Oper), l[j]? = some o → ∃ acc' : List Nat, (∀ i, i < acc.length + j → acc'.getD i 0 = (masks l acc).getD i 0) ∧ (masks l acc).getD (acc.length + j) 0 = mask acc' o
  | [], acc, j, o, h => by simp at h
  | x :: l, acc, 0, o, h => by
    simp at h; subst h
    refine ⟨acc, fun i hi => ?_, ?_⟩
    · rw [masks, masks_front l _ i (by simp; omega)]
      simp only [List.getD_eq_getElem?_getD, List.getElem?_append_left (show i < acc.length by omega)]
    · rw [masks, masks_front l _ _ (by simp)]
      simp
  | x :: l, acc, j + 1, o, h => by
    obtain ⟨acc', h1, h2⟩ := masks_at l (acc ++ [mask acc x]) j o (by simpa using h)
    refine ⟨acc', fun i hi => ?_, ?_⟩
    · exact h1 i (by simp; omega)
    · rw [masks]
      have : (acc ++ [mask acc x]).length + j = acc.length + (j + 1) := by simp; omega
      rw [this] at h2; exact h2

theorem edges_lt : ∀ (l : List Oper) (j : Nat), edgesOk l j = true → ∀ (i : Nat) (o : Oper), l[i]? = some o → ∀ e ∈ bindsOf o, e < j + i
  | [], j, h, i, o, ho => by simp at ho
  | x :: l, j, h, 0, o, ho => by
    simp at ho; subst ho
    simp only [edgesOk, Bool.and_eq_true, List.all_eq_true, decide_eq_true_eq] at h
    exact fun e he => by have := h.1 e he; omega
  | x :: l, j, h, i + 1, o, ho => by
    simp only [edgesOk, Bool.and_eq_true] at h
    intro e he
    have := edges_lt l (j + 1) h.2 i o (by simpa using ho) e he
    omega

theorem mem_binds {o : Oper} {e : Nat} : e ∈ bindsOf o ↔ ∃ x ∈ o.after, Region.binds .any x = true ∧ x.on = e := by
  unfold bindsOf
  simp only [List.mem_map, List.mem_filter, Array.mem_toList_iff]
  constructor
  · rintro ⟨x, ⟨h1, h2⟩, h3⟩; exact ⟨x, h1, h2, h3⟩
  · rintro ⟨x, h1, h2, h3⟩; exact ⟨x, ⟨h1, h2⟩, h3⟩

def Closed (ops : Array Oper) (listed : Array Bool) : Prop := ∀ (j : Nat) (o : Oper), listed.getD j false = true → ops[j]? = some o → ∀ e ∈ bindsOf o, listed.getD e false = true

theorem mask_listed (hedge : edgesOk ops.toList 0 = true) {listed : Array Bool} (hc : Closed ops listed) : ∀ (n i : Nat) (o : Oper), i ≤ n → ops[i]? = some o → (∀ e ∈ bindsOf o, listed.getD e false = true) →
    ∀ k, ((masks ops.toList []).getD i 0).testBit k = true → listed.getD k false = true
  | n, i, o, hn, ho, hl, k, hk => by
    have ho' : ops.toList[i]? = some o := by simpa using ho
    obtain ⟨acc', h1, h2⟩ := masks_at ops.toList [] i o ho'
    simp only [List.length_nil, Nat.zero_add] at h1 h2
    rw [h2, mask_bit] at hk
    obtain ⟨e, he, hk⟩ := hk
    have hlt := edges_lt ops.toList 0 hedge i o ho' e he
    rcases hk with rfl | hk
    · exact hl e he
    · rw [h1 e (by omega)] at hk
      cases hoe : ops[e]? with
      | none =>
        have hsz := (Array.getElem?_eq_some_iff.1 ho).1
        rw [Array.getElem?_eq_none_iff] at hoe
        omega
      | some oe =>
        cases n with
        | zero => omega
        | succ n => exact mask_listed hedge hc n e oe (by omega) hoe (hc e oe (hl e he) hoe) k hk

def Ahead (st : Bool) (ops : Array Oper) (ms : List Nat) (i : Nat) (q : Nat × List Nat) : Prop :=
  ∃ x y, ops[i]? = some x ∧ ops[q.1]? = some y ∧ i ≠ q.1 ∧ q.1 ∉ bindsOf x ∧ ((ms.getD q.1 0).testBit i = true ∨ (pairOk st ops x y = true ∧ (cls x = 1 → cls y = 2 → i ∈ q.2)))
def Each (ops : Array Oper) (p : Nat × List Nat) : Prop := ∃ x, ops[p.1]? = some x ∧ (cls x ≠ 2 → p.2 = []) ∧ p.1 ∉ bindsOf x
structure PlanOk (st : Bool) (ops : Array Oper) (ms : List Nat) (L : List (Nat × List Nat)) : Prop where
  pair : L.Pairwise fun p q => Ahead st ops ms p.1 q
  each : ∀ p ∈ L, Each ops p

theorem plan_ok {st : Bool} {ms : List Nat} : ∀ (r seen : List Nat), (∀ i ∈ seen, ∃ x, ops[i]? = some x ∧ ∀ e ∈ bindsOf x, e ∈ seen) → checkFrom st ops ms r seen = true →
    PlanOk st ops ms (planFrom ops ms r seen) ∧ ∀ i ∈ seen, ∀ q ∈ planFrom ops ms r seen, Ahead st ops ms i q
  | [], seen, hs, h => ⟨⟨List.Pairwise.nil, fun p hp => by cases hp⟩, fun i _ q hq => by cases hq⟩
  | j :: r, seen, hs, h => by
    simp only [checkFrom] at h
    cases hj : ops[j]? with
    | none => rw [hj] at h; cases h
    | some y =>
      rw [hj] at h
      simp only [Bool.and_eq_true, Bool.not_eq_true', List.all_eq_true] at h
      obtain ⟨⟨⟨h1, h2⟩, h3⟩, h4⟩ := h
      have hnot : j ∉ seen := fun hm => by rw [List.contains_iff_mem.2 hm] at h1; cases h1
      have hbind : ∀ e ∈ bindsOf y, e ∈ seen := fun e he => List.contains_iff_mem.1 (h2 e he)
      have hs' : ∀ i ∈ j :: seen, ∃ x, ops[i]? = some x ∧ ∀ e ∈ bindsOf x, e ∈ j :: seen := fun i hi => by
        rcases List.mem_cons.1 hi with rfl | hi
        · exact ⟨y, hj, fun e he => List.mem_cons_of_mem _ (hbind e he)⟩
        · obtain ⟨x, hx, hb⟩ := hs i hi
          exact ⟨x, hx, fun e he => List.mem_cons_of_mem _ (hb e he)⟩
      obtain ⟨hp, hr⟩ := plan_ok r (j :: seen) hs' h4
      have hpl : planFrom ops ms (j :: r) seen = (j, flagsAt ops (ms.getD j 0) y seen) :: planFrom ops ms r (j :: seen) := by simp only [planFrom, hj]
      rw [hpl]
      have hhead : ∀ i ∈ seen, Ahead st ops ms i (j, flagsAt ops (ms.getD j 0) y seen) := fun i hi => by
        obtain ⟨x, hx, hb⟩ := hs i hi
        refine ⟨x, y, hx, hj, fun e => hnot ((show i = j from e) ▸ hi), fun e => hnot (hb _ e), ?_⟩
        have hpa := h3 i hi
        unfold pairAt at hpa
        simp only [Bool.or_eq_true, hx] at hpa
        by_cases hbit : (ms.getD j 0).testBit i = true
        · exact .inl hbit
        · refine .inr ⟨hpa.resolve_left hbit, fun c1 c2 => ?_⟩
          unfold flagsAt
          simp only [c2, beq_self_eq_true, if_true, List.mem_filter]
          refine ⟨hi, ?_⟩
          have hbf : (ms.getD j 0).testBit i = false := by simpa only [Bool.not_eq_true] using hbit
          simp only [hbf, hx, c1]
          rfl
      refine ⟨⟨List.Pairwise.cons (fun q hq => hr j (by simp) q hq) hp.pair, ?_⟩, ?_⟩
      · intro p hpm
        rcases List.mem_cons.1 hpm with rfl | hpm
        · refine ⟨y, hj, fun hc => ?_, fun hm => hnot (hbind _ hm)⟩
          unfold flagsAt
          rw [if_neg (by simpa using hc)]
        · exact hp.each p hpm
      · intro i hi q hq
        rcases List.mem_cons.1 hq with rfl | hq
        · exact hhead i hi
        · exact hr i (List.mem_cons_of_mem _ hi) q hq

theorem plan_fst {st : Bool} {ms : List Nat} : ∀ (r seen : List Nat), checkFrom st ops ms r seen = true → (planFrom ops ms r seen).map (·.1) = r
  | [], seen, h => rfl
  | j :: r, seen, h => by
    simp only [checkFrom] at h
    cases hj : ops[j]? with
    | none => rw [hj] at h; cases h
    | some y =>
      rw [hj] at h
      simp only [Bool.and_eq_true] at h
      simp only [planFrom, hj, List.map_cons, plan_fst r _ h.2]

theorem check_nodup {st : Bool} {ms : List Nat} : ∀ (r seen : List Nat), checkFrom st ops ms r seen = true → r.Nodup ∧ (∀ j ∈ r, j < ops.size) ∧ ∀ j ∈ r, j ∉ seen
  | [], seen, _ => ⟨List.nodup_nil, fun j hj => (by cases hj), fun j hj => (by cases hj)⟩
  | k :: r, seen, h => by
    simp only [checkFrom] at h
    cases hj : ops[k]? with
    | none => rw [hj] at h; cases h
    | some y =>
      rw [hj] at h
      simp only [Bool.and_eq_true, Bool.not_eq_true'] at h
      obtain ⟨⟨⟨h1, _⟩, _⟩, h4⟩ := h
      obtain ⟨a, b, c⟩ := check_nodup r (k :: seen) h4
      refine ⟨List.nodup_cons.2 ⟨fun hm => c k hm List.mem_cons_self, a⟩, fun j hm => ?_, fun j hm => ?_⟩
      · rcases List.mem_cons.1 hm with rfl | hm
        · exact (Array.getElem?_eq_some_iff.1 hj).1
        · exact b j hm
      · rcases List.mem_cons.1 hm with rfl | hm
        · intro hs; rw [List.contains_iff_mem.2 hs] at h1; cases h1
        · exact fun hs => c j hm (List.mem_cons_of_mem _ hs)
theorem nodup_short : ∀ (n : Nat) (l : List Nat), l.Nodup → (∀ x ∈ l, x < n) → l.length ≤ n
  | 0, l, _, h => by
    cases l with
    | nil => exact Nat.le_refl _
    | cons x l => exact absurd (h x List.mem_cons_self) (Nat.not_lt_zero _)
  | n + 1, l, hn, h => by
    by_cases hm : n ∈ l
    · have := nodup_short n (l.erase n) (hn.erase n) fun x hx => by
        have h1 := h x (List.mem_of_mem_erase hx)
        have h2 : x ≠ n := fun e => by subst e; exact (hn.mem_erase_iff.1 hx).1 rfl
        omega
      rw [List.length_erase_of_mem hm] at this
      omega
    · have := nodup_short n l hn fun x hx => by
        have h1 := h x hx
        have h2 : x ≠ n := fun e => hm (e ▸ hx)
        omega
      omega
theorem drawOrd_all {st : Bool} (ms : List Nat) {l : List Nat} (hc : checkFrom st ops ms l [] = true) (hl : l.length = ops.size) (j : Nat) (h : j < ops.size) : j ∈ l := by
  obtain ⟨a, b, _⟩ := check_nodup l [] hc
  apply Classical.byContradiction
  intro hm
  have := nodup_short ops.size (j :: l) (List.nodup_cons.2 ⟨hm, a⟩) fun x hx => by
    rcases List.mem_cons.1 hx with rfl | hx
    · exact h
    · exact b x hx
  rw [List.length_cons] at this
  omega

def Swap (st : Bool) (ops : Array Oper) (p q : Nat × List Nat) : Prop := ∃ x y, ops[p.1]? = some x ∧ ops[q.1]? = some y ∧ p.1 ≠ q.1 ∧ (pairOk st ops x y = true ∧ ((masks ops.toList []).getD q.1 0).testBit p.1 = false) ∧ (cls x = 1 → cls y = 2 → p.1 ∈ q.2) ∧ (cls x ≠ 2 → p.2 = []) ∧ (cls y ≠ 2 → q.2 = []) ∧ p.1 ∉ bindsOf y

theorem resX_next (hx : Acting G ex) {i : Nat} {o : Oper} {tm : Tm} {σ σ' : AS} {v : AV} (h : resX P G ex base ops i o tm σ = some (v, σ')) : σ.next ≤ σ'.next := by
  obtain ⟨cs, _, h2, _⟩ := resX_acts (N := 0) hx h (Nat.zero_le _) (fun _ => Nat.zero_le _)
  rw [h2]; exact next_run σ cs

theorem front {st : Bool} (hx : Acting G ex) {q : Nat × List Nat} {post : List (Nat × List Nat)} {s' : Cfg} : ∀ (pre : List (Nat × List Nat)) (tm : Tm) (defs : List Nat) (σ : AS) (rc : Rec), (∀ p ∈ pre, Swap st ops p q) → (pre.Pairwise fun p p' => p.1 ≠ p'.1) → (∀ p ∈ pre, rc p.1 = none) →
    base + ops.size ≤ σ.next → σ.slot = none → runD P G ex st base ops (pre ++ q :: post) ⟨tm, defs, σ⟩ rc = some s' → runD P G ex st base ops (q :: (pre ++ post)) ⟨tm, defs, σ⟩ rc = some s'
  | [], tm, defs, σ, rc, _, _, _, _, _, h => h
  | p :: pre, tm, defs, σ, rc, hsw, hne, hrc, hb, hs, h => by
    obtain ⟨x, y, hp, hq, hpq, ⟨hpair, hmask⟩, hin, hflp, hfl, hpb⟩ := hsw p (by simp)
    rw [List.pairwise_cons] at hne
    have hrun : runD P G ex st base ops (p :: q :: (pre ++ post)) ⟨tm, defs, σ⟩ rc = some s' := by
      obtain ⟨p1, flp⟩ := p
      simp only [List.cons_append, runD, stepD] at h ⊢
      simp only at hp
      rw [hp] at h ⊢
      simp only at h ⊢
      cases hr : resX P G ex base ops p1 x tm σ with
      | none => rw [hr] at h; cases h
      | some r =>
        obtain ⟨v, σ1⟩ := r
        rw [hr] at h
        simp only at h ⊢
        by_cases hst : (stands rc σ1 flp && lateOk st base ops p1 x (noted G ops x tm σ)) = true
        · rw [show (if Region.wanted x (ayielded ops tm) = true then readOf x (evT G tm) σ else none) = noted G ops x tm σ from rfl, if_pos hst] at h ⊢
          simp only at h ⊢
          exact front hx pre _ _ _ _ (fun p' hp' => hsw p' (List.mem_cons_of_mem _ hp')) hne.2 (fun p' hp' => by
            unfold Rec.upd
            rw [if_neg (fun e => hne.1 p' hp' e.symm)]
            exact hrc p' (List.mem_cons_of_mem _ hp')) (Nat.le_trans hb (resX_next hx hr)) (resX_slot hr) h
        · rw [show (if Region.wanted x (ayielded ops tm) = true then readOf x (evT G tm) σ else none) = noted G ops x tm σ from rfl, if_neg hst] at h; cases h
    obtain ⟨p1, flp⟩ := p
    obtain ⟨q1, fl⟩ := q
    exact swapD hx hp hq hpq hb hs hpair hmask hflp hfl hin (hrc (p1, flp) (by simp)) hpb hrun

theorem Rep.reslot {ρ : Rho} {w : World} {objs : Tr (Nat × AObj)} {next : Nat} {slot : Option Nat} (h : Rep B ρ ⟨objs, next, slot⟩ w) (k : Option Nat) (hk : ∀ j, k = some j → j < next ∧ objs.get j = none) : Rep B ρ ⟨objs, next, k⟩ w where
  dom := h.dom
  free := by
    cases k with
    | none =>
      show ρ next = none
      cases hr : ρ next with
      | none => rfl
      | some l => exact absurd (h.dom _ _ hr) (Nat.lt_irrefl _)
    | some j =>
      show ρ j = none
      cases hr : ρ j with
      | none => rfl
      | some l =>
        obtain ⟨p, hp⟩ := h.has _ _ hr
        rw [(hk j rfl).2] at hp; cases hp
  low := fun j hj => (hk j hj).1
  obj := h.obj
  new := h.new
  inj := h.inj
  keep := h.keep
  size := h.size
  tape := h.tape
  os := h.os
  out := h.out
  has := h.has
  thaw := h.thaw
theorem AS.get_bump {objs : Tr (Nat × AObj)} {next m : Nat} {slot slot' : Option Nat} {id : Nat} (hl : id < next) : (⟨objs, next + m, slot'⟩ : AS).get id = (⟨objs, next, slot⟩ : AS).get id := by
  unfold AS.get
  simp only
  rw [if_pos hl, if_pos (by omega)]
theorem Rep.bump {ρ : Rho} {w : World} {objs : Tr (Nat × AObj)} {next : Nat} {slot : Option Nat} (h : Rep B ρ ⟨objs, next, slot⟩ w) (m : Nat) : Rep B ρ ⟨objs, next + m, none⟩ w where
  dom := fun id l hr => Nat.lt_of_lt_of_le (h.dom id l hr) (Nat.le_add_right _ _)
  free := by
    show ρ (next + m) = none
    cases hr : ρ (next + m) with
    | none => rfl
    | some l => exact absurd (h.dom _ _ hr) (by simp)
  low := fun j hj => by cases hj
  obj := fun id o l hg hr => h.obj id o l (by rw [← hg]; exact (AS.get_bump (h.dom id l hr)).symm) hr
  new := h.new
  inj := fun id id' o o' l l' hg hg' v v' hr hr' => h.inj id id' o o' l l' (by rw [← hg]; exact (AS.get_bump (h.dom id l hr)).symm) (by rw [← hg']; exact (AS.get_bump (h.dom id' l' hr')).symm) v v' hr hr'
  keep := h.keep
  size := h.size
  tape := h.tape
  os := h.os
  out := h.out
  has := h.has
  thaw := h.thaw

theorem resX_sound (hs : Sound P G ex) (hN : NamesOk P) {i : Nat} {o : Oper} {tm : Tm} {σ σ' : AS} {v : AV} (h : resX P G ex base ops i o tm σ = some (v, σ')) (hi : base + i < σ.next) {defs : List Nat} {ρ : Rho} {a : Act} {w : World} (rb : Option Nat) (n : Nat)
    (hG : GlOk (memOf B) ρ G) (hrel : CfgRel B ρ ⟨tm, defs, σ⟩ a w) {K : Act → World → Prop} {Q : Exit → Act → World → Prop} (hK : ∀ ρ' a' w', ρ.le ρ' → CfgRel B ρ' ⟨put tm o.dst v, defs, σ'⟩ a' w' → K a' w') :
    if Region.wanted o (yielded ops a.tmps) then o.wpIn (fenceOf rb) n P a w K Q else (∀ f, o.about P w a.eval = some f → (fenceOf rb).fn f) ∧ K (a.put o.dst undef) w := by
  obtain ⟨objs, next, slot⟩ := σ
  simp only [resX, resA] at h
  split at h
  · split at h
    · cases h
    · rename_i hg
      split at h
      · rename_i u objs' next' slot' hr
        cases h
        refine resO_sound hs hN hr (defs := defs) (ρ := ρ) rb n hG ⟨hrel.tmps, hrel.defs, hrel.rep.reslot _ (fun j hj => by cases hj; exact ⟨hi, hg⟩)⟩ (fun ρ' a' w' hle hr' => hK ρ' a' w' hle ⟨hr'.tmps, hr'.defs, hr'.rep.reslot none (fun j hj => by cases hj)⟩)
      · cases h
  · split at h
    · rename_i u objs' next' slot' hr
      cases h
      refine resO_sound hs hN hr (defs := defs) (ρ := ρ) rb n hG ⟨hrel.tmps, hrel.defs, hrel.rep.reslot _ (fun j hj => by cases hj)⟩ (fun ρ' a' w' hle hr' => hK ρ' a' w' hle ⟨hr'.tmps, hr'.defs, hr'.rep.reslot none (fun j hj => by cases hj)⟩)
    · cases h

theorem getD_both {listed : Array Bool} {j : Nat} (h : j < listed.size) (d e : Bool) : listed.getD j d = listed.getD j e := by
  simp [h]

theorem drawn_sound {st : Bool} (hs : Sound P G ex) (hx : Acting G ex) (hN : NamesOk P) (hedge : edgesOk ops.toList 0 = true) {s' : Cfg} {Q : Exit → Act → World → Prop} (rb : Option Nat) (n : Nat) : ∀ (fuel : Nat) (L : List (Nat × List Nat)) (tm : Tm) (defs : List Nat) (σ : AS) (rc : Rec) (listed : Array Bool) (ρ : Rho) (a : Act) (w : World),
    L.length = fuel → PlanOk st ops (masks ops.toList []) L → (∀ p ∈ L, rc p.1 = none) → listed.size = ops.size → (∀ j, j < ops.size → (listed.getD j false = false ↔ j ∈ L.map (·.1))) → Closed ops listed → σ.slot = none → base + ops.size ≤ σ.next →
    GlOk (memOf B) ρ G → CfgRel B ρ ⟨tm, defs, σ⟩ a w → runD P G ex st base ops L ⟨tm, defs, σ⟩ rc = some s' → (∀ ρ' a' w', ρ.le ρ' → CfgRel B ρ' s' a' w' → Q .normal a' w') → wpAnyIn (fenceOf rb) n P .any ops Q fuel listed a w
  | 0, L, tm, defs, σ, rc, listed, ρ, a, w, hlen, hplan, hrc, hsz, hlist, hcl, hslot, hb, hG, hrel, h, hQ => by
    obtain rfl := List.length_eq_zero_iff.1 hlen
    cases h
    refine ⟨?_, hQ ρ a w (Rho.le_refl ρ) hrel⟩
    rw [List.eq_nil_iff_forall_not_mem]
    intro j hj
    obtain ⟨h1, o, ho, _⟩ := mem_ready.1 hj
    have hlt := (Array.getElem?_eq_some_iff.1 ho).1
    have := (hlist j hlt).1 (by rw [getD_both (by omega) false true]; exact h1)
    cases this
  | fuel + 1, L, tm, defs, σ, rc, listed, ρ, a, w, hlen, hplan, hrc, hsz, hlist, hcl, hslot, hb, hG, hrel, h, hQ => by
    constructor
    · intro hnil
      exfalso
      cases L with
      | nil => simp at hlen
      | cons p L =>
        obtain ⟨x, hpx, _, hself⟩ := hplan.each p (by simp)
        have hlt := (Array.getElem?_eq_some_iff.1 hpx).1
        have hmem : p.1 ∈ Region.ready .any ops listed := by
          refine mem_ready.2 ⟨?_, x, hpx, fun e he hbd => ?_⟩
          · rw [getD_both (by omega) true false]
            exact (hlist p.1 hlt).2 (by simp)
          · have heb : e.on ∈ bindsOf x := mem_binds.2 ⟨e, he, hbd, rfl⟩
            have hel := edges_lt ops.toList 0 hedge p.1 x (by simpa using hpx) e.on heb
            cases hv : listed.getD e.on false with
            | true => rfl
            | false =>
              exfalso
              have := (hlist e.on (by omega)).1 hv
              simp only [List.map_cons, List.mem_cons] at this
              rcases this with hh | hh
              · exact hself (hh ▸ heb)
              · obtain ⟨q, hq, hqe⟩ := List.mem_map.1 hh
                have hpw := hplan.pair
                rw [List.pairwise_cons] at hpw
                obtain ⟨x', y', hx', _, _, hnb, _⟩ := hpw.1 q hq
                rw [hpx] at hx'; cases hx'
                exact hnb (hqe ▸ heb)
        rw [hnil] at hmem; cases hmem
    · intro i hi
      obtain ⟨h1, o, ho, hall⟩ := mem_ready.1 hi
      have hlt := (Array.getElem?_eq_some_iff.1 ho).1
      have hiL := (hlist i hlt).1 (by rw [getD_both (by omega) false true]; exact h1)
      obtain ⟨q, hqL, hqi⟩ := List.mem_map.1 hiL
      obtain ⟨pre, post, rfl⟩ := List.append_of_mem hqL
      obtain ⟨i', fl⟩ := q
      simp only at hqi
      subst hqi
      have hbl : ∀ e ∈ bindsOf o, listed.getD e false = true := fun e he => by
        obtain ⟨x, hx1, hx2, hx3⟩ := mem_binds.1 he
        subst hx3
        exact hall x hx1 hx2
      have hpw := hplan.pair
      rw [List.pairwise_append] at hpw
      obtain ⟨pw1, pw2, pw3⟩ := hpw
      rw [List.pairwise_cons] at pw2
      have hlistedOf : ∀ p ∈ pre ++ (i', fl) :: post, ∃ x, ops[p.1]? = some x ∧ listed.getD p.1 false = false := fun p hp => by
        obtain ⟨x, hpx, _⟩ := hplan.each p hp
        exact ⟨x, hpx, (hlist p.1 (Array.getElem?_eq_some_iff.1 hpx).1).2 (List.mem_map.2 ⟨p, hp, rfl⟩)⟩
      obtain ⟨yq, hyq, hflq, _⟩ := hplan.each (i', fl) hqL
      have hsw : ∀ p ∈ pre, Swap st ops p (i', fl) := fun p hp => by
        obtain ⟨x, y, hpx, hqy, hne, _, hor⟩ := pw3 p hp (i', fl) (by simp)
        obtain ⟨x', hpx', hflp, _⟩ := hplan.each p (List.mem_append_left _ hp)
        rw [hpx] at hpx'; cases hpx'
        have hqy' := hqy
        rw [hyq] at hqy'; cases hqy'
        have hbit : ((masks ops.toList []).getD i' 0).testBit p.1 = false := by
          cases hbit : ((masks ops.toList []).getD i' 0).testBit p.1 with
          | false => rfl
          | true =>
            have := mask_listed hedge hcl i' i' o (Nat.le_refl _) ho hbl p.1 hbit
            obtain ⟨_, _, hf⟩ := hlistedOf p (List.mem_append_left _ hp)
            rw [hf] at this; cases this
        rcases hor with hbit' | ⟨hpair, hin⟩
        · exfalso
          simp only at hbit'
          rw [hbit] at hbit'; cases hbit'
        · refine ⟨x, yq, hpx, hqy, hne, ⟨hpair, hbit⟩, hin, hflp, hflq, fun hm => ?_⟩
          rw [ho] at hyq; cases hyq
          have := hbl _ hm
          obtain ⟨_, _, hf⟩ := hlistedOf p (List.mem_append_left _ hp)
          rw [hf] at this; cases this
      have hnePre : pre.Pairwise fun p p' => p.1 ≠ p'.1 := pw1.imp fun {p p'} ⟨_, _, _, _, hne, _⟩ => hne
      have hfront := front hx pre tm defs σ rc hsw hnePre (fun p hp => hrc p (List.mem_append_left _ hp)) hb hslot h
      simp only [runD, stepD, ho] at hfront
      cases hr : resX P G ex base ops i' o tm σ with
      | none => rw [hr] at hfront; cases hfront
      | some r =>
        obtain ⟨v, σ1⟩ := r
        rw [hr] at hfront
        simp only at hfront
        by_cases hst : (stands rc σ1 fl && lateOk st base ops i' o (noted G ops o tm σ)) = true
        · rw [show (if Region.wanted o (ayielded ops tm) = true then readOf o (evT G tm) σ else none) = noted G ops o tm σ from rfl, if_pos hst] at hfront
          simp only at hfront
          refine wpOpIn_step ho fun K' hK' => ?_
          refine resX_sound hs hN hr (by omega) (defs := defs) rb n hG hrel (fun ρ' a' w' hle hrel' => hK' a' w' ?_)
          have hneI : ∀ p ∈ pre ++ post, p.1 ≠ i' := fun p hp => by
            rcases List.mem_append.1 hp with hp | hp
            · obtain ⟨_, _, _, _, hne, _⟩ := pw3 p hp (i', fl) (by simp)
              exact hne
            · obtain ⟨_, _, _, _, hne, _⟩ := pw2.1 p hp
              exact fun e => hne e.symm
          have hsub : ∀ p ∈ pre ++ post, p ∈ pre ++ (i', fl) :: post := fun p hp => by
            rcases List.mem_append.1 hp with hp | hp
            · exact List.mem_append_left _ hp
            · exact List.mem_append_right _ (List.mem_cons_of_mem _ hp)
          refine drawn_sound hs hx hN hedge rb n fuel (pre ++ post) _ _ _ _ _ ρ' a' w' ?_ ⟨?_, fun p hp => hplan.each p (hsub p hp)⟩ ?_ ?_ ?_ ?_ (resX_slot hr) (Nat.le_trans hb (resX_next hx hr)) (hG.mono hle) hrel' hfront (fun ρ₂ a₂ w₂ hle₂ hr₂ => hQ ρ₂ a₂ w₂ (Rho.le_trans hle hle₂) hr₂)
          · simp at hlen ⊢; omega
          · rw [List.pairwise_append]
            exact ⟨pw1, pw2.2, fun p hp q hq => pw3 p hp q (List.mem_cons_of_mem _ hq)⟩
          · intro p hp
            unfold Rec.upd
            rw [if_neg (hneI p hp)]
            exact hrc p (hsub p hp)
          · simp [hsz]
          · intro j hj
            by_cases e : j = i'
            · subst e
              have : (listed.setIfInBounds j true).getD j false = true := by simp [hsz, hj]
              rw [this]
              constructor
              · intro hh; cases hh
              · intro hh
                obtain ⟨p, hp, hpe⟩ := List.mem_map.1 hh
                exact absurd hpe (hneI p hp)
            · have : (listed.setIfInBounds i' true).getD j false = listed.getD j false := by
                have hne : i' ≠ j := fun h => e h.symm
                simp [Array.getElem?_setIfInBounds_ne hne]
              rw [this, hlist j hj]
              simp only [List.map_append, List.map_cons, List.mem_append, List.mem_cons]
              constructor
              · rintro (h | h | h)
                · exact .inl h
                · exact absurd h e
                · exact .inr h
              · rintro (h | h)
                · exact .inl h
                · exact .inr (.inr h)
          · have hmono : ∀ e, listed.getD e false = true → (listed.setIfInBounds i' true).getD e false = true := fun e he => by
              by_cases hei : e = i'
              · subst hei; simp [hsz, hlt]
              · have hne : i' ≠ e := fun h => hei h.symm
                simpa [Array.getElem?_setIfInBounds_ne hne] using he
            intro j oj hj hoj e he
            by_cases hji : j = i'
            · subst hji
              rw [ho] at hoj; cases hoj
              exact hmono e (hbl e he)
            · have hne : i' ≠ j := fun h => hji h.symm
              exact hmono e (hcl j oj (by simpa [Array.getElem?_setIfInBounds_ne hne] using hj) hoj e he)
        · rw [show (if Region.wanted o (ayielded ops tm) = true then readOf o (evT G tm) σ else none) = noted G ops o tm σ from rfl, if_neg hst] at hfront; cases hfront

theorem drawS_wp {st : Bool} (hs : Sound P G ex) (hx : Acting G ex) (hN : NamesOk P) (hm : P.follows .mixedOrders = true) {id : Nat} {tm : Tm} {defs : List Nat} {σ : AS} {e : AEx} {s' : Cfg} (hok : drawnOkS st ops = true) (h : stDrawS P G ex st ops ⟨tm, defs, σ⟩ = some (e, s')) {ρ : Rho} {a : Act} {w : World} (rb : Option Nat) (n : Nat)
    (hG : GlOk (memOf B) ρ G) (hrel : CfgRel B ρ ⟨tm, defs, σ⟩ a w) {Q : Exit → Act → World → Prop} (hQ : ∀ ρ' a' w', ρ.le ρ' → CfgRel B ρ' s' a' w' → Q (exOf e) a' w') : (Code.region id ops true).wpIn (fenceOf rb) n P Q a w := by
  obtain ⟨objs, next, slot⟩ := σ
  simp only [stDrawS] at h
  cases hr : runD P G ex st next ops (planS st ops) ⟨tm, defs, ⟨objs, next + ops.size, none⟩⟩ (fun _ => none) with
  | none => rw [hr] at h; cases h
  | some s₁ =>
    rw [hr] at h
    cases h
    unfold drawnOkS at hok
    simp only [Bool.and_eq_true, beq_iff_eq] at hok
    obtain ⟨⟨hedge, hlen⟩, hcheck⟩ := hok
    refine wpIn_region_any hm ?_
    have hplan : planS st ops = planFrom ops (masks ops.toList []) (drawOrd st ops (masks ops.toList [])) [] := rfl
    have hfst := plan_fst _ _ hcheck
    have hlenp : (planS st ops).length = ops.size := by
      rw [hplan, ← hlen]
      have := congrArg List.length hfst
      simpa using this
    refine drawn_sound hs hx hN hedge rb n ops.size (planS st ops) tm defs ⟨objs, next + ops.size, none⟩ _ _ ρ a _ hlenp (plan_ok _ _ (fun i hi => by cases hi) hcheck).1 (fun _ _ => rfl) (by simp) ?_ ?_ rfl (Nat.le_refl _) hG ⟨hrel.tmps, hrel.defs, (hrel.rep.bump ops.size).drew⟩ hr hQ
    · intro j hj
      have : (Array.replicate ops.size false).getD j false = false := by simp [hj]
      rw [this, hplan, hfst]
      simp only [true_iff]
      exact drawOrd_all _ hcheck hlen j hj
    · intro j o hj ho e he
      have hlt := (Array.getElem?_eq_some_iff.1 ho).1
      simp [hlt] at hj
theorem draw_wp (hs : Sound P G ex) (hx : Acting G ex) (hN : NamesOk P) (hm : P.follows .mixedOrders = true) {id : Nat} {tm : Tm} {defs : List Nat} {σ : AS} {e : AEx} {s' : Cfg} (h : stDraw P G ex ops ⟨tm, defs, σ⟩ = some (e, s')) {ρ : Rho} {a : Act} {w : World} (rb : Option Nat) (n : Nat)
    (hG : GlOk (memOf B) ρ G) (hrel : CfgRel B ρ ⟨tm, defs, σ⟩ a w) {Q : Exit → Act → World → Prop} (hQ : ∀ ρ' a' w', ρ.le ρ' → CfgRel B ρ' s' a' w' → Q (exOf e) a' w') : (Code.region id ops true).wpIn (fenceOf rb) n P Q a w := by
  simp only [stDraw] at h
  split at h
  · rename_i hok
    exact drawS_wp hs hx hN hm hok h rb n hG hrel hQ
  · split at h
    · rename_i hok
      exact drawS_wp hs hx hN hm hok h rb n hG hrel hQ
    · cases h

end Go.Ab
/- All code, by fuel: the abstract run is the machine's. -/
namespace Go.Ab
variable {P : Program} {G : Gl} {ex : Runner} {B : World}

theorem target_split {M : Mem} {ρ : Rho} {f : AV} {cf : Value} {args : List AV} {cargs : Array Value} {g : FuncId} {as : List AV} (hf : Conc M ρ f cf) (ha : Concs M ρ args cargs.toList) (h : target f args = some (.enter g as)) :
    ∃ (d : Deferred) (vs : Array Value), Concs M ρ as vs.toList ∧ (∀ w, (Deferred.ofValue cf cargs).run P w = .ok d w) ∧ (∀ w, (invoke d.target d.args).run P w = (callFunc g vs).run P w) := by
  unfold target at h
  split at h
  · rename_i g' first cap
    cases h
    cases hf
    exact ⟨_, first ++ cargs ++ cap, by simp only [Array.toList_append]; exact ((Concs.ofS _).append ha).append (Concs.ofS _), fun w => rfl, fun w => rfl⟩
  · rename_i g' first cap
    cases h
    cases hf with
    | fn h1 h2 =>
      rename_i vs ws
      exact ⟨_, vs ++ cargs ++ ws, by simp only [Array.toList_append]; exact (h1.append ha).append h2, fun w => rfl, fun w => rfl⟩
  · cases h
  · cases h

theorem run_enterOuter (fn : FuncId) (tmps : Array Value) (ps : Array Tmp) (assign body : Code) (w : World) :
    (Instr.enterLoop fn tmps ps assign body none).run P w = .ok (w.heap.size + 1, [{ target := .collected w.heap.size, args := #[] }])
        ((w.alloc (.deferred (some []))).alloc (.loop { state := .ready, pending := none, fn, tmps, params := ps, assign, body, defers := w.heap.size })) := by
  unfold Instr.enterLoop
  simp only [Sem.run_bind, run_newObj_alloc, Result.andThen, Sem.run_pure, World.size_alloc]
theorem run_enterInner {w : World} {l₀ : Nat} {r₀ : Loop} (h : w.heap[l₀]? = some (.loop r₀)) (fn : FuncId) (tmps : Array Value) (ps : Array Tmp) (assign body : Code) :
    (Instr.enterLoop fn tmps ps assign body (some l₀)).run P w = .ok (w.heap.size, []) (w.alloc (.loop { state := .ready, pending := none, fn, tmps, params := ps, assign, body, defers := r₀.defers })) := by
  unfold Instr.enterLoop
  simp only [Sem.run_bind, run_getLoop h, run_newObj_alloc, Result.andThen, Sem.run_pure]
theorem run_endLoop' {w : World} {b : Nat} {r : Loop} (h : w.heap[b]? = some (.loop r)) (hb : r.state ≠ .busy) :
    (Instr.endLoop b).run P w = .ok r.pending { w with heap := w.heap.setIfInBounds b (.loop { r with state := .exhausted }) } := by
  unfold Instr.endLoop
  rw [Sem.run_bind, run_getLoop h]
  simp only [Result.andThen_ok]
  have : (r.state == .busy) = false := by simpa using hb
  simp only [this, Bool.false_eq_true, if_false, Sem.run_bind, run_setObj h (by simp), Result.andThen_ok, Sem.run_pure]

theorem DefsRel.append {ρ : Rho} : ∀ {ds : List Nat} {xs : List Deferred} {es : List Nat} {ys : List Deferred}, DefsRel ρ ds xs → DefsRel ρ es ys → DefsRel ρ (ds ++ es) (xs ++ ys)
  | [], [], _, _, _, h => h
  | [], _ :: _, _, _, h, _ => h.elim
  | _ :: _, [], _, _, h, _ => h.elim
  | _ :: _, _ :: _, _, _, ⟨h1, h2⟩, h => ⟨h1, h2.append h⟩

theorem range_sound (hs : Sound P G ex) (hN : NamesOk P) {rd : Option Nat} {f : Operand} {params : Array Tmp} {assign body : Code} {s : Cfg} {e : AEx} {s' : Cfg} (h : stRange P G ex rd f params assign body s = some (e, s')) {ρ : Rho} {a : Act} {w : World} (rb : Option Nat) (n : Nat)
    (hG : GlOk (memOf B) ρ G) (hrd : RdOk ρ rd rb) (hrel : CfgRel B ρ s a w) {Q : Exit → Act → World → Prop} (hQ : ∀ ρ' a' w', ρ.le ρ' → CfgRel B ρ' s' a' w' → Q (exOf e) a' w') : (Code.rangeFunc f params assign body).wpIn (fenceOf rb) n P Q a w := by
  simp only [stRange] at h
  refine wpIn_rangeFunc fun fn _ => ?_
  rw [fenceOf_round]
  -- what is common: the record has been laid
  have main : ∀ (d : Nat) (mark : List Nat) (σ₁ : AS) (ρ₁ : Rho) (w₁ : World) (dl : Loc) (marks : List Deferred), ρ.le ρ₁ → Rep B ρ₁ σ₁ w₁ → ρ₁ d = some dl → DefsRel ρ₁ mark marks →
      (match (match target (evT G s.tmps f) [.yld σ₁.newId] with
        | some (.enter g args) => match callWith P G ex g args (σ₁.push (.loop { state := .ready, pending := none, tmps := s.tmps, params, assign, body, defers := d })) with
          | some (_, σ₃) => match σ₃.get σ₁.newId with
            | some (.loop r) => if r.state = .busy then none else some (r.pending, ({ tmps := s.tmps, defs := mark ++ s.defs, st := σ₃.set σ₁.newId (.loop { r with state := .exhausted }) } : Cfg))
            | _ => none
          | none => none
        | _ => none) with
      | some (none, s') => some (AEx.normal, s')
      | some (some c, s') => ex rd c s'
      | none => none) = some (e, s') →
      ∃ (dd : Deferred) (w₁' : World) (g : FuncId) (args : Array Value) (w₂ : World),
        (resolve a.eval (rangeCall f w₁.heap.size) 0).run P (w₁.alloc (.loop { state := .ready, pending := none, fn, tmps := a.tmps, params, assign, body, defers := dl.blk })) = .ok dd w₁' ∧
        (∀ f', Target.leads P w₁' dd.target dd.args = some f' → (fenceOf rb).fn f') ∧ (invoke dd.target dd.args).run P w₁' = .ok (.enter g args) w₂ ∧ ((fenceOf rb).depth.isSome = true → 1 ≤ n) ∧
        CallsIn (fenceOf rb) (n - 1) P g args w₂ (rangePost (fenceOf rb) n P w₁.heap.size Q { a with defers := marks ++ a.defers }) := by
    intro d mark σ₁ ρ₁ w₁ dl marks hle₁ hrep₁ hd hmarks hh
    have hloc : (⟨w₁.heap.size, 0, 0, fun _ => by decide⟩ : Loc).blk = w₁.heap.size := rfl
    have hrep₂ : Rep B (ρ₁.ext σ₁.newId ⟨w₁.heap.size, 0, 0, fun _ => by decide⟩) (σ₁.push (.loop { state := .ready, pending := none, tmps := s.tmps, params, assign, body, defers := d }))
        (w₁.alloc (.loop { state := .ready, pending := none, fn, tmps := a.tmps, params, assign, body, defers := dl.blk })) := by
      refine hrep₁.push rfl rfl rfl rfl rfl ⟨fn, a.tmps, dl, ?_, hrep₁.le_ext _ _ _ hd, Array.getElem?_push_size⟩
      exact (hrel.tmps.mono hle₁).mono (hrep₁.le_ext _)
    have hle₂ := hrep₁.le_ext ⟨w₁.heap.size, 0, 0, fun _ => by decide⟩
    have hl₂ := Rho.ext_self ρ₁ σ₁.newId ⟨w₁.heap.size, 0, 0, fun _ => by decide⟩
    generalize ρ₁.ext σ₁.newId ⟨w₁.heap.size, 0, 0, fun _ => by decide⟩ = ρ₂ at hrep₂ hle₂ hl₂
    have hle := Rho.le_trans hle₁ hle₂
    have hev : Conc (memOf B) ρ₂ (evT G s.tmps f) (a.eval f) := (hrel.tmps.mono hle).ev (hG.mono hle) f
    have hyl : Concs (memOf B) ρ₂ [.yld σ₁.newId] (#[Value.func (.yield w₁.heap.size) #[] #[]]).toList := .cons (.yld hl₂) .nil
    have hres : ∀ (dd : Deferred) (W : World), (∀ w, (Deferred.ofValue (a.eval f) #[Value.func (.yield w₁.heap.size) #[] #[]]).run P w = .ok dd w) → (resolve a.eval (rangeCall f w₁.heap.size) 0).run P W = .ok dd W := fun dd W h1 => by
      have : resolve a.eval (rangeCall f w₁.heap.size) 0 = Deferred.ofValue (a.eval f) #[Value.func (.yield w₁.heap.size) #[] #[]] := by simp [resolve, Act.eval]
      rw [this]; exact h1 W
    split at hh
    case h_3 => cases hh
    case h_1 s'' hi =>
      split at hi
      · rename_i g as ht
        split at hi
        · rename_i u σ₃ hcw
          split at hi
          · rename_i r hg
            split at hi
            · cases hi
            · rename_i hb
              simp only [Option.some.injEq, Prod.mk.injEq] at hi hh
              obtain ⟨hpend, rfl⟩ := hi
              obtain ⟨rfl, rfl⟩ := hh
              obtain ⟨dd, vs, hvs, h1, h2⟩ := target_split (P := P) hev hyl ht
              obtain ⟨fnn, hf, hbd⟩ := callWith_body hs.orc hcw
              refine ⟨dd, _, g, vs, w₁.alloc (.loop { state := .ready, pending := none, fn, tmps := a.tmps, params, assign, body, defers := dl.blk }), hres _ _ h1, fun f' _ => fenceOf_fn rb f', ?_, fenceOf_depth rb, ?_⟩
              · rw [h2]; exact callFunc_run hN hf hbd vs _
              · refine callsIn_fence (call_sound hs (hG.mono hle) hrep₂ hvs hcw n ?_)
                intro ρ₃ y w₃ hle₃ _ hrep₃
                have hl₃ := hle₃ _ _ hl₂
                obtain ⟨fn₃, arr₃, d₃, ht₃, hd₃, hheap₃⟩ := hrep₃.obj _ _ _ hg hl₃
                have hlt₃ := (hrep₃.new _ _ hl₃).2
                refine ⟨none, _, by rw [← hpend]; exact run_endLoop' hheap₃ hb, ?_⟩
                refine hQ ρ₃ _ _ (Rho.le_trans hle hle₃) ⟨(hrel.tmps.mono hle).mono hle₃, ((hmarks.mono hle₂).mono hle₃).append ((hrel.defs.mono hle).mono hle₃), ?_⟩
                exact hrep₃.setObj (o' := .loop { r with state := .exhausted }) hg rfl hl₃ ⟨fn₃, arr₃, d₃, ht₃, hd₃, heap_set hlt₃⟩
          · cases hi
        · cases hi
      · cases hi
    case h_2 c s'' hi =>
      split at hi
      · rename_i g as ht
        split at hi
        · rename_i u σ₃ hcw
          split at hi
          · rename_i r hg
            split at hi
            · cases hi
            · rename_i hb
              simp only [Option.some.injEq, Prod.mk.injEq] at hi
              obtain ⟨hpend, rfl⟩ := hi
              obtain ⟨dd, vs, hvs, h1, h2⟩ := target_split (P := P) hev hyl ht
              obtain ⟨fnn, hf, hbd⟩ := callWith_body hs.orc hcw
              refine ⟨dd, _, g, vs, w₁.alloc (.loop { state := .ready, pending := none, fn, tmps := a.tmps, params, assign, body, defers := dl.blk }), hres _ _ h1, fun f' _ => fenceOf_fn rb f', ?_, fenceOf_depth rb, ?_⟩
              · rw [h2]; exact callFunc_run hN hf hbd vs _
              · refine callsIn_fence (call_sound hs (hG.mono hle) hrep₂ hvs hcw n ?_)
                intro ρ₃ y w₃ hle₃ _ hrep₃
                have hl₃ := hle₃ _ _ hl₂
                obtain ⟨fn₃, arr₃, d₃, ht₃, hd₃, hheap₃⟩ := hrep₃.obj _ _ _ hg hl₃
                have hlt₃ := (hrep₃.new _ _ hl₃).2
                refine ⟨some c, _, by rw [← hpend]; exact run_endLoop' hheap₃ hb, ?_⟩
                have hle4 := Rho.le_trans hle hle₃
                refine hs.code rd c _ e s' hh B ρ₃ _ _ rb n Q (hG.mono hle4) (hrd.mono hle4) ⟨(hrel.tmps.mono hle).mono hle₃, ((hmarks.mono hle₂).mono hle₃).append ((hrel.defs.mono hle).mono hle₃), ?_⟩ (fun ρ' a' w' hle' hrel' => hQ ρ' a' w' (Rho.le_trans hle4 hle') hrel')
                exact hrep₃.setObj (o' := .loop { r with state := .exhausted }) hg rfl hl₃ ⟨fn₃, arr₃, d₃, ht₃, hd₃, heap_set hlt₃⟩
          · cases hi
        · cases hi
      · cases hi
  cases rd with
  | none =>
    cases rb with
    | some b => exact hrd.elim
    | none =>
      have hrep₁ : Rep B (ρ.ext s.st.newId ⟨w.heap.size, 0, 0, fun _ => by decide⟩) (s.st.push .defr) (w.alloc (.deferred (some []))) := hrel.rep.push rfl rfl rfl rfl rfl Array.getElem?_push_size
      have hself := Rho.ext_self ρ s.st.newId ⟨w.heap.size, 0, 0, fun _ => by decide⟩
      obtain ⟨dd, w₁', g, args, w₂, k1, k2, k3, k4, k5⟩ := main s.st.newId [s.st.newId] (s.st.push .defr) _ _ _ [{ target := .collected w.heap.size, args := #[] }] (hrel.rep.le_ext _) hrep₁ hself ⟨⟨_, hself, rfl⟩, trivial⟩ h
      have hsz : (w.alloc (.deferred (some []))).heap.size = w.heap.size + 1 := World.size_alloc _ _
      rw [hsz] at k1 k5
      exact ⟨_, _, _, dd, w₁', g, args, w₂, run_enterOuter fn a.tmps params assign body w, k1, k2, k3, k4, k5⟩
  | some l =>
    cases rb with
    | none => exact hrd.elim
    | some b =>
      obtain ⟨loc, hl, rfl⟩ := hrd
      simp only [rangeWith] at h
      cases hg : s.st.get l with
      | none => rw [hg] at h; cases h
      | some o =>
        rw [hg] at h
        cases o with
        | loop r =>
          obtain ⟨fn₀, arr, d, ht, hd, hheap⟩ := hrel.rep.obj _ _ _ hg hl
          obtain ⟨dd, w₁', g, args, w₂, k1, k2, k3, k4, k5⟩ := main r.defers [] s.st ρ w d [] (Rho.le_refl ρ) hrel.rep hd trivial h
          exact ⟨_, _, _, dd, w₁', g, args, w₂, run_enterInner hheap fn a.tmps params assign body, k1, k2, k3, k4, k5⟩
        | _ => cases h

theorem loop_wp {F : Fence} {n : Nat} {c : Code} {Q : Exit → Act → World → Prop} {a : Act} {w : World} (h : LoopWp F n P c Q a w) : (Code.loop c).wpIn F n P Q a w := fun b k cs hro hb hr =>
  let ⟨e, a', w', hq, harr⟩ := h b k cs hro hb hr
  ⟨e, a', w', hq, .of_steps (.one (fenced_calm hb hr rfl) stepR_loop) harr⟩

theorem round_wp {F : Fence} {n : Nat} {c : Code} {Q : Exit → Act → World → Prop} {a : Act} {w : World} (h : c.wpIn F n P (Exit.then (LoopWp F n P c Q) Q) a w) : LoopWp F n P c Q a w := by
  intro b k cs hro hb hr
  obtain ⟨e, a₁, w₁, hq, harr⟩ := h b (.inLoop c :: k) cs hro hb hr
  cases e with
  | normal =>
    obtain ⟨e₂, a₂, w₂, hq₂, harr₂⟩ := hq b k cs hro hb hr
    exact ⟨e₂, a₂, w₂, hq₂, .of_steps (StepsIn.trans harr (.one (fenced_calm hb hr rfl) stepR_inLoop)) harr₂⟩
  | exit id => exact ⟨_, a₁, w₁, hq, .pass (x := .inLoop c) rfl (fun _ _ => .inl (by simp)) harr⟩
  | goto l => exact ⟨_, a₁, w₁, hq, .pass (x := .inLoop c) rfl (fun _ _ => .inl (by simp)) harr⟩
  | ret => exact ⟨_, a₁, w₁, hq, .pass (x := .inLoop c) rfl (fun _ _ => .inl (by simp)) harr⟩
  | panic ch => exact ⟨_, a₁, w₁, hq, .pass (x := .inLoop c) rfl (fun _ _ => .inl (by simp)) harr⟩
  | outgrown => exact ⟨_, a₁, w₁, hq, .pass (x := .inLoop c) rfl (fun _ _ => .inl (by simp)) harr⟩

theorem stepR_scope' {b : Frame} {a : Act} {k : List Item} {cs : List Frame} {w : World} {c : Code} : step P (lone (b.atR a (.code (.scope c) :: k)) cs w) = .next (lone (b.atR a (.code c :: .inScope c :: k)) cs w) :=
  step_lone_go (by simp [stepG, stepG.exec, Frame.atR])
theorem stepR_inScope' {b : Frame} {a : Act} {k : List Item} {cs : List Frame} {w : World} {c : Code} : step P (lone (b.atR a (.inScope c :: k)) cs w) = .next (lone (b.atR a k) cs w) :=
  step_lone_go (by simp [stepG, stepG.exec, Frame.atR])
theorem wpIn_scope' {F : Fence} {n : Nat} {c : Code} {Q : Exit → Act → World → Prop} {a : Act} {w : World} (h : c.wpIn F n P (fun e a w => (∀ l, e ≠ .goto l) ∧ Q e a w) a w) : (Code.scope c).wpIn F n P Q a w := by
  intro b k cs hro hb hr
  have h0 : (lone (b.atR a (.code (.scope c) :: k)) cs w).fenced P F := fenced_calm hb hr rfl
  obtain ⟨e, a₁, w₁, ⟨hne, hq⟩, harr⟩ := h b (.inScope c :: k) cs hro hb hr
  cases e with
  | normal => exact ⟨.normal, a₁, w₁, hq, .head h0 stepR_scope' (StepsIn.trans harr (.one (fenced_calm hb hr rfl) stepR_inScope'))⟩
  | exit id' =>
    have hx : exitTo id' (.inScope c :: k) = exitTo id' k := by simp [exitTo]
    exact ⟨.exit id', a₁, w₁, hq, fun k' hk => .head h0 stepR_scope' (harr.1 k' (by rw [hx]; exact hk)),
      fun hr' hk => let ⟨k₁, h1, h2⟩ := harr.2 hr' (by rw [hx]; exact hk); ⟨k₁, h1, .head h0 stepR_scope' h2⟩⟩
  | goto l => exact absurd rfl (hne l)
  | ret => exact ⟨_, a₁, w₁, hq, .of_steps (.one h0 stepR_scope') harr⟩
  | panic ch => exact ⟨_, a₁, w₁, hq, .of_steps (.one h0 stepR_scope') harr⟩
  | outgrown => exact ⟨_, a₁, w₁, hq, .of_steps (.one h0 stepR_scope') harr⟩

structure Fit (P : Program) : Prop where
  names : NamesOk P
  mixed : P.follows .mixedOrders = true

theorem stLoop_some {rd : Option Nat} {b : Code} {s : Cfg} {e : AEx} {s' : Cfg} (h : stLoop ex rd b s = some (e, s')) :
    (∃ s₁, ex rd b s = some (.normal, s₁) ∧ ex rd (.loop b) s₁ = some (e, s')) ∨ (e ≠ .normal ∧ ex rd b s = some (e, s')) := by
  unfold stLoop at h
  split at h
  · rename_i s₁ h1; exact .inl ⟨s₁, h1, h⟩
  · rename_i h1
    refine .inr ⟨fun he => ?_, h⟩
    subst he
    exact h1 _ h

theorem loop_sound (hs : Sound P G ex) {rd : Option Nat} {c : Code} {s : Cfg} {e : AEx} {s' : Cfg} (h : stLoop ex rd c s = some (e, s')) {ρ : Rho} {a : Act} {w : World} (rb : Option Nat) (m : Nat) {Q : Exit → Act → World → Prop} (hG : GlOk (memOf B) ρ G) (hrd : RdOk ρ rd rb)
    (hrel : CfgRel B ρ s a w) (hQ : ∀ ρ' a' w', ρ.le ρ' → CfgRel B ρ' s' a' w' → Q (exOf e) a' w') : LoopWp (fenceOf rb) m P c Q a w := by
  refine round_wp ?_
  rcases stLoop_some h with ⟨s₁, h1, h2⟩ | ⟨hne, h1⟩
  · refine hs.code rd c s .normal s₁ h1 B ρ a w rb m _ hG hrd hrel fun ρ₁ a₁ w₁ hle₁ hrel₁ => ?_
    exact hs.loop rd c s₁ e s' h2 B ρ₁ a₁ w₁ rb m Q (hG.mono hle₁) (hrd.mono hle₁) hrel₁ fun ρ₂ a₂ w₂ hle₂ hrel₂ => hQ ρ₂ a₂ w₂ (Rho.le_trans hle₁ hle₂) hrel₂
  · refine hs.code rd c s e s' h1 B ρ a w rb m _ hG hrd hrel fun ρ₁ a₁ w₁ hle₁ hrel₁ => ?_
    have := hQ ρ₁ a₁ w₁ hle₁ hrel₁
    cases e with
    | normal => exact absurd rfl hne
    | exit id => exact this
    | ret => exact this

theorem step_sound (hP : Fit P) (hs : Sound P G ex) (hx : Acting G ex) : Sound P G (fun rd c s => execStep P G ex rd c s) where
  orc := hs.orc
  loop := fun rd c s e s' h B ρ a w rb m Q hG hrd hrel hQ => loop_sound hs h rb m hG hrd hrel hQ
  code := by
    intro rd c s e s' h B ρ a w rb m Q hG hrd hrel hQ
    cases c with
    | skip => cases h; exact wpIn_skip (hQ ρ a w (Rho.le_refl ρ) hrel)
    | label l => cases h; exact wpIn_label (hQ ρ a w (Rho.le_refl ρ) hrel)
    | exit id => cases h; exact wpIn_exit (hQ ρ a w (Rho.le_refl ρ) hrel)
    | ret => cases h; exact wpIn_ret (hQ ρ a w (Rho.le_refl ρ) hrel)
    | goto l => cases h
    | refuse r => cases h
    | scope b => exact wpIn_scope' (hs.code rd b s e s' h B ρ a w rb m _ hG hrd hrel fun ρ' a' w' hle hr => ⟨(fun l he => by cases e <;> cases he), hQ ρ' a' w' hle hr⟩)
    | cond x y z =>
      simp only [execStep, stCond] at h
      split at h
      · rename_i t ht
        have hev := hrel.tmps.ev hG x
        rw [ht] at hev
        exact wpIn_cond (Concs.s_eq (vs := [.bool t]) (.cons hev .nil) |> fun h => (List.cons.inj h).1) (hs.code rd _ s e s' h B ρ a w rb m Q hG hrd hrel hQ)
      · cases h
    | seq x y =>
      simp only [execStep, stSeq] at h
      refine wpIn_seq ?_
      split at h
      · rename_i s₁ h1
        exact hs.code rd x s .normal s₁ h1 B ρ a w rb m _ hG hrd hrel fun ρ₁ a₁ w₁ hle₁ hrel₁ =>
          hs.code rd y s₁ e s' h B ρ₁ a₁ w₁ rb m Q (hG.mono hle₁) (hrd.mono hle₁) hrel₁ fun ρ₂ a₂ w₂ hle₂ hrel₂ => hQ ρ₂ a₂ w₂ (Rho.le_trans hle₁ hle₂) hrel₂
      · rename_i hne
        refine hs.code rd x s e s' h B ρ a w rb m _ hG hrd hrel fun ρ₁ a₁ w₁ hle₁ hrel₁ => ?_
        have := hQ ρ₁ a₁ w₁ hle₁ hrel₁
        cases e with
        | normal => exact absurd h (hne _)
        | exit id => exact this
        | ret => exact this
    | block id b =>
      simp only [execStep, stBlock] at h
      refine wpIn_block ?_
      split at h
      · rename_i id' s₁ h1
        simp only [Option.some.injEq, Prod.mk.injEq] at h
        obtain ⟨rfl, rfl⟩ := h
        refine hs.code rd b s (.exit id') s₁ h1 B ρ a w rb m _ hG hrd hrel fun ρ₁ a₁ w₁ hle₁ hrel₁ => ?_
        have := hQ ρ₁ a₁ w₁ hle₁ hrel₁
        simp only [exOf, Exit.inBlock]
        by_cases hid : id' = id
        · rw [if_pos hid] at this ⊢; exact this
        · rw [if_neg hid] at this ⊢; exact this
      · rename_i hne
        refine hs.code rd b s e s' h B ρ a w rb m _ hG hrd hrel fun ρ₁ a₁ w₁ hle₁ hrel₁ => ?_
        have := hQ ρ₁ a₁ w₁ hle₁ hrel₁
        cases e with
        | normal => exact this
        | exit id' => exact absurd h (hne _ _)
        | ret => exact this
    | loop b => exact loop_wp (loop_sound hs h rb m hG hrd hrel hQ)
    | region id ops draw =>
      cases draw with
      | true => exact draw_wp hs hx hP.names hP.mixed h rb m hG hrel hQ
      | false =>
        simp only [execStep, stRegion, Bool.false_eq_true, if_false] at h
        split at h
        · rename_i s₁ h1
          simp only [Option.some.injEq, Prod.mk.injEq] at h
          obtain ⟨rfl, rfl⟩ := h
          refine wpIn_region ?_
          have := runL_sound hs hP.names (ops := ops) rb m (Q := Q) ops.toList 0 s _ ρ a w rfl h1 hG hrel hQ
          rw [List.range_eq_range']
          exact this
        · cases h
    | rangeFunc f ps x y => exact range_sound hs hP.names h rb m hG hrd hrel hQ

structure Given (P : Program) (G : Gl) : Prop where
  ok : OrcOk P G
  acts : OrcActs G
theorem Given.none (rows : Nat → Option (List AV)) : Given P ⟨rows, fun _ _ => .none⟩ := ⟨fun _ _ _ h => (by cases h), fun _ _ _ h => (by cases h)⟩

theorem exec_sound (hP : Fit P) {G : Gl} (hG : Given P G) (n : Nat) : Sound P G (exec P G n) := by
  induction n with
  | zero => exact ⟨hG.ok, (by intro rd c s e s' h; cases h), (by intro rd c s e s' h; cases h)⟩
  | succ n ih => exact step_sound hP ih ⟨hG.acts, exec_acts hG.acts n⟩

theorem start_rep (B : World) : Rep B (fun _ => none) ⟨.e, 0, none⟩ B where
  dom := fun id l h => by cases h
  free := rfl
  low := fun k h => by cases h
  obj := fun id o l hg hr => by cases hr
  new := fun id l h => by cases h
  inj := fun id id' o o' l l' hg hg' v v' hr hr' => by cases hr
  keep := fun b hb => rfl
  size := Nat.le_refl _
  tape := rfl
  os := rfl
  out := rfl
  has := fun id l h => by cases h
  thaw := fun b x hb hx => by
    have := (Array.getElem?_eq_some_iff.1 hx).1
    omega

theorem run_calls (hP : Fit P) {G : Gl} (hg : Given P G) {n : Nat} {f : FuncId} {as : List AV} {v : AV} {σ : AS} (h : runCall P G n f as = some (v, σ)) {B : World} {vs : Array Value} (hG : GlOk (memOf B) (fun _ => none) G) (hc : Concs (memOf B) (fun _ => none) as vs.toList) :
    Calls P f vs B fun e w => ∃ ρ y, e = .returned y ∧ Conc (memOf B) ρ v y ∧ Rep B ρ σ w := by
  have := call_sound (exec_sound hP hg n) hG (start_rep B) hc h 0 (R := fun e w => ∃ ρ y, e = .returned y ∧ Conc (memOf B) ρ v y ∧ Rep B ρ σ w) (fun ρ' y w' _ hcy hrep => ⟨ρ', y, rfl, hcy, hrep⟩)
  exact this.calls fun k => room_wide k
#print axioms run_calls
end Go.Ab
/- More fuel gives no less; what a run comes to, without fuel. -/
namespace Go.Ab
variable {P : Program} {G : Gl} {ex ex' : Runner}

def ExLe (ex ex' : Runner) : Prop := ∀ rd c s r, ex rd c s = some r → ex' rd c s = some r

theorem callBody_le (hx : ExLe ex ex') {f : FuncId} {as : List AV} {σ : AS} {x : AV × AS} (h : callBody P ex f as σ = some x) : callBody P ex' f as σ = some x := by
  unfold callBody at h ⊢
  split at h
  · split at h
    · rename_i fn hf _ c hb
      cases hex : ex none c { tmps := Tm.fill ⟨max as.length fn.ntmps, .e⟩ 0 as, defs := [], st := σ } with
      | none => rw [hex] at h; cases h
      | some r => rw [hex] at h; rw [hx _ _ _ _ hex]; exact h
    · cases h
  · cases h
theorem callWith_le (hx : ExLe ex ex') {f : FuncId} {as : List AV} {σ : AS} {x : AV × AS} (h : callWith P G ex f as σ = some x) : callWith P G ex' f as σ = some x := by
  unfold callWith at h ⊢
  split at h
  · exact h
  · exact callBody_le hx h
theorem roundWith_le (hx : ExLe ex ex') {l : Nat} {as : List AV} {σ : AS} {x : AV × AS} (h : roundWith ex l as σ = some x) : roundWith ex' l as σ = some x := by
  unfold roundWith at h ⊢
  split at h
  · rename_i r hg
    split at h
    · rename_i hc
      rw [if_pos hc]
      try simp only at h ⊢
      cases h1 : ex (some l) r.assign { tmps := (r.params.toList.zip as).foldl (fun (ts : Tm) (p : Tmp × AV) => ts.set p.1 p.2) r.tmps, defs := [], st := σ } with
      | none => rw [h1] at h; cases h
      | some q =>
        rw [h1] at h; rw [hx _ _ _ _ h1]
        obtain ⟨e, s₁⟩ := q
        cases e with
        | normal =>
          try simp only at h ⊢
          split at h
          · rename_i r₁ hg₁
            split at h
            · rename_i hr
              try simp only
              rw [if_pos hr]
              cases h2 : ex (some l) r.body { s₁ with st := s₁.st.set l (.loop { r₁ with state := .busy }) } with
              | none => rw [h2] at h; cases h
              | some q => rw [h2] at h; rw [hx _ _ _ _ h2]; exact h
            · cases h
          · cases h
        | exit id => cases h
        | ret => cases h
    · cases h
  · cases h
theorem resNext_le (hx : ExLe ex ex') {r : Option (ANext × AS)} {x : AV × AS} (h : resNext P G ex r = some x) : resNext P G ex' r = some x := by
  cases r with
  | none => cases h
  | some q =>
    obtain ⟨n, σ⟩ := q
    cases n with
    | val v => exact h
    | enter f as => exact callWith_le hx h
    | round l as => exact roundWith_le hx h
theorem resO_le (hx : ExLe ex ex') {ops : Array Oper} {o : Oper} {tm : Tm} {σ : AS} {x : AV × AS} (h : resO P G ex ops o tm σ = some x) : resO P G ex' ops o tm σ = some x := by
  unfold resO at h ⊢
  split at h
  · rename_i hw; rw [if_pos hw]; exact resNext_le hx h
  · rename_i hw; rw [if_neg hw]; exact h
theorem stepO_le (hx : ExLe ex ex') {ops : Array Oper} {o : Oper} {s s' : Cfg} (h : stepO P G ex ops o s = some s') : stepO P G ex' ops o s = some s' := by
  obtain ⟨tm, defs, σ⟩ := s
  simp only [stepO] at h ⊢
  cases hr : resO P G ex ops o tm σ with
  | none => rw [hr] at h; cases h
  | some x => rw [hr] at h; rw [resO_le hx hr]; exact h
theorem runL_le (hx : ExLe ex ex') {ops : Array Oper} : ∀ (os : List Oper) (s s' : Cfg), runL P G ex ops os s = some s' → runL P G ex' ops os s = some s'
  | [], s, s', h => h
  | o :: os, s, s', h => by
    simp only [runL] at h ⊢
    cases hr : stepO P G ex ops o s with
    | none => rw [hr] at h; cases h
    | some x => rw [hr] at h; rw [stepO_le hx hr]; exact runL_le hx os _ _ h
theorem resX_le (hx : ExLe ex ex') {base i : Nat} {ops : Array Oper} {o : Oper} {tm : Tm} {σ : AS} {x : AV × AS} (h : resX P G ex base ops i o tm σ = some x) : resX P G ex' base ops i o tm σ = some x := by
  obtain ⟨objs, next, slot⟩ := σ
  simp only [resX, resA] at h ⊢
  split at h
  · rename_i hc
    rw [if_pos hc]
    split at h
    · cases h
    · rename_i hg
      cases hr : resO P G ex ops o tm ⟨objs, next, some (base + i)⟩ with
      | none => rw [hr] at h; cases h
      | some q => rw [hr] at h; rw [resO_le hx hr]; exact h
  · rename_i hc
    rw [if_neg hc]
    cases hr : resO P G ex ops o tm ⟨objs, next, none⟩ with
    | none => rw [hr] at h; cases h
    | some q => rw [hr] at h; rw [resO_le hx hr]; exact h
theorem runD_le {st : Bool} (hx : ExLe ex ex') {base : Nat} {ops : Array Oper} : ∀ (pl : List (Nat × List Nat)) (s : Cfg) (rc : Rec) (s' : Cfg), runD P G ex st base ops pl s rc = some s' → runD P G ex' st base ops pl s rc = some s'
  | [], s, rc, s', h => h
  | (i, fl) :: pl, s, rc, s', h => by
    obtain ⟨tm, defs, σ⟩ := s
    simp only [runD, stepD] at h ⊢
    cases ho : ops[i]? with
    | none => rw [ho] at h; cases h
    | some o =>
      rw [ho] at h
      simp only at h ⊢
      cases hr : resX P G ex base ops i o tm σ with
      | none => rw [hr] at h; cases h
      | some q =>
        rw [hr] at h; rw [resX_le hx hr]
        simp only at h ⊢
        by_cases hst : (stands rc q.2 fl && lateOk st base ops i o (if Region.wanted o (ayielded ops tm) = true then readOf o (evT G tm) σ else none)) = true
        · rw [if_pos hst] at h ⊢
          exact runD_le hx pl _ _ _ h
        · rw [if_neg hst] at h
          cases h
theorem rangeWith_le (hx : ExLe ex ex') {rd : Option Nat} {f : Operand} {ps : Array Tmp} {a b : Code} {s : Cfg} {x : Option Code × Cfg} (h : rangeWith P G ex rd f ps a b s = some x) : rangeWith P G ex' rd f ps a b s = some x := by
  have main : ∀ (d : Nat) (mark : List Nat) (σ₁ : AS), (match target (evT G s.tmps f) [.yld σ₁.newId] with
      | some (.enter g args) => match callWith P G ex g args (σ₁.push (.loop { state := .ready, pending := none, tmps := s.tmps, params := ps, assign := a, body := b, defers := d })) with
        | some (_, σ₃) => match σ₃.get σ₁.newId with
          | some (.loop r) => if r.state = .busy then none else some (r.pending, ({ tmps := s.tmps, defs := mark ++ s.defs, st := σ₃.set σ₁.newId (.loop { r with state := .exhausted }) } : Cfg))
          | _ => none
        | none => none
      | _ => none) = some x → (match target (evT G s.tmps f) [.yld σ₁.newId] with
      | some (.enter g args) => match callWith P G ex' g args (σ₁.push (.loop { state := .ready, pending := none, tmps := s.tmps, params := ps, assign := a, body := b, defers := d })) with
        | some (_, σ₃) => match σ₃.get σ₁.newId with
          | some (.loop r) => if r.state = .busy then none else some (r.pending, ({ tmps := s.tmps, defs := mark ++ s.defs, st := σ₃.set σ₁.newId (.loop { r with state := .exhausted }) } : Cfg))
          | _ => none
        | none => none
      | _ => none) = some x := by
    intro d mark σ₁ h
    split at h
    · rename_i g args ht
      cases hc : callWith P G ex g args (σ₁.push (.loop { state := .ready, pending := none, tmps := s.tmps, params := ps, assign := a, body := b, defers := d })) with
      | none => rw [hc] at h; cases h
      | some q => rw [hc] at h; simp only [callWith_le hx hc]; exact h
    · cases h
  unfold rangeWith at h ⊢
  cases rd with
  | none => exact main _ _ _ h
  | some l =>
    simp only at h ⊢
    cases hg : s.st.get l with
    | none => rw [hg] at h; cases h
    | some o =>
      rw [hg] at h
      cases o with
      | loop r => exact main _ _ _ h
      | _ => cases h
theorem step_le (hx : ExLe ex ex') : ExLe (fun rd c s => execStep P G ex rd c s) (fun rd c s => execStep P G ex' rd c s) := by
  intro rd c s r h
  simp only at h ⊢
  cases c with
  | skip => exact h
  | label l => exact h
  | exit id => exact h
  | ret => exact h
  | goto l => cases h
  | refuse w => cases h
  | scope b => exact hx _ _ _ _ h
  | cond x a b =>
    simp only [execStep, stCond] at h ⊢
    split at h
    · exact hx _ _ _ _ h
    · cases h
  | seq a b =>
    simp only [execStep, stSeq] at h ⊢
    cases h1 : ex rd a s with
    | none => rw [h1] at h; cases h
    | some q =>
      rw [h1] at h; rw [hx _ _ _ _ h1]
      obtain ⟨e, s₁⟩ := q
      cases e with
      | normal => exact hx _ _ _ _ h
      | exit id => exact h
      | ret => exact h
  | block id b =>
    simp only [execStep, stBlock] at h ⊢
    cases h1 : ex rd b s with
    | none => rw [h1] at h; cases h
    | some q => rw [h1] at h; rw [hx _ _ _ _ h1]; exact h
  | loop b =>
    simp only [execStep, stLoop] at h ⊢
    cases h1 : ex rd b s with
    | none => rw [h1] at h; cases h
    | some q =>
      rw [h1] at h; rw [hx _ _ _ _ h1]
      obtain ⟨e, s₁⟩ := q
      cases e with
      | normal => exact hx _ _ _ _ h
      | exit id => exact h
      | ret => exact h
  | region id ops draw =>
    cases draw with
    | false =>
      simp only [execStep, stRegion, Bool.false_eq_true, if_false] at h ⊢
      cases h1 : runL P G ex ops ops.toList s with
      | none => rw [h1] at h; cases h
      | some q => rw [h1] at h; rw [runL_le hx _ _ _ h1]; exact h
    | true =>
      simp only [execStep, stDraw, if_true] at h ⊢
      have key : ∀ {st : Bool} {r}, stDrawS P G ex st ops s = some r → stDrawS P G ex' st ops s = some r := fun {st r} h => by
        obtain ⟨tm, defs, ⟨objs, next, slot⟩⟩ := s
        simp only [stDrawS] at h ⊢
        cases h1 : runD P G ex st next ops (planS st ops) ⟨tm, defs, ⟨objs, next + ops.size, none⟩⟩ (fun _ => none) with
        | none => rw [h1] at h; cases h
        | some q => rw [h1] at h; rw [runD_le hx _ _ _ _ h1]; exact h
      split at h
      · rename_i hok
        rw [if_pos hok]
        exact key h
      · rename_i hok
        rw [if_neg hok]
        split at h
        · rename_i hok2
          rw [if_pos hok2]
          exact key h
        · cases h
  | rangeFunc f ps a b =>
    simp only [execStep, stRange] at h ⊢
    cases h1 : rangeWith P G ex rd f ps a b s with
    | none => rw [h1] at h; cases h
    | some q =>
      rw [h1] at h; rw [rangeWith_le hx h1]
      obtain ⟨c, s₁⟩ := q
      cases c with
      | none => exact h
      | some c => exact hx _ _ _ _ h

theorem exec_le_succ (n : Nat) : ExLe (exec P G n) (exec P G (n + 1)) := by
  induction n with
  | zero => intro rd c s r h; cases h
  | succ n ih => exact step_le ih
theorem exec_le {n m : Nat} (h : n ≤ m) : ExLe (exec P G n) (exec P G m) := by
  obtain ⟨k, rfl⟩ := Nat.le.dest h
  clear h
  induction k with
  | zero => exact fun _ _ _ _ h => h
  | succ k ih => exact fun rd c s r h => exec_le_succ (n + k) rd c s r (ih rd c s r h)

variable (P G)
def wpc (rd : Option Nat) (c : Code) (s : Cfg) (Q : AEx → Cfg → Prop) : Prop := ∃ n e s', exec P G n rd c s = some (e, s') ∧ Q e s'
def wpl (ops : Array Oper) (os : List Oper) (s : Cfg) (Q : Cfg → Prop) : Prop := ∃ n s', runL P G (exec P G n) ops os s = some s' ∧ Q s'
def wpd (base : Nat) (ops : Array Oper) (pl : List (Nat × List Nat)) (s : Cfg) (rc : Rec) (Q : Cfg → Prop) : Prop := ∃ n s', runD P G (exec P G n) false base ops pl s rc = some s' ∧ Q s'
def wpf (f : FuncId) (as : List AV) (σ : AS) (Q : AV → AS → Prop) : Prop := ∃ n v σ', callWith P G (exec P G n) f as σ = some (v, σ') ∧ Q v σ'
def wpy (l : Nat) (as : List AV) (σ : AS) (Q : AV → AS → Prop) : Prop := ∃ n v σ', roundWith (exec P G n) l as σ = some (v, σ') ∧ Q v σ'
def wpn (r : Option (ANext × AS)) (Q : AV → AS → Prop) : Prop := ∃ n v σ', resNext P G (exec P G n) r = some (v, σ') ∧ Q v σ'
variable {P G}

def Nxt (K : Cfg → Prop) (Q : AEx → Cfg → Prop) : AEx → Cfg → Prop
  | .normal, s => K s
  | e, s => Q e s
def InB (id : Nat) (Q : AEx → Cfg → Prop) : AEx → Cfg → Prop
  | .exit id', s => if id' = id then Q .normal s else Q (.exit id') s
  | e, s => Q e s

section
variable {rd : Option Nat} {s : Cfg} {Q Q' : AEx → Cfg → Prop}
theorem wpc_mono {c : Code} (h : wpc P G rd c s Q) (hq : ∀ e s', Q e s' → Q' e s') : wpc P G rd c s Q' := let ⟨n, e, s', h1, h2⟩ := h; ⟨n, e, s', h1, hq _ _ h2⟩
theorem wpl_mono {ops : Array Oper} {os : List Oper} {K K' : Cfg → Prop} (h : wpl P G ops os s K) (hq : ∀ s', K s' → K' s') : wpl P G ops os s K' := let ⟨n, s', h1, h2⟩ := h; ⟨n, s', h1, hq _ h2⟩
theorem wpf_mono {f : FuncId} {as : List AV} {σ : AS} {K K' : AV → AS → Prop} (h : wpf P G f as σ K) (hq : ∀ v σ', K v σ' → K' v σ') : wpf P G f as σ K' := let ⟨n, v, s', h1, h2⟩ := h; ⟨n, v, s', h1, hq _ _ h2⟩
theorem wpy_mono {l : Nat} {as : List AV} {σ : AS} {K K' : AV → AS → Prop} (h : wpy P G l as σ K) (hq : ∀ v σ', K v σ' → K' v σ') : wpy P G l as σ K' := let ⟨n, v, s', h1, h2⟩ := h; ⟨n, v, s', h1, hq _ _ h2⟩

theorem wpc_skip (h : Q .normal s) : wpc P G rd .skip s Q := ⟨1, _, _, rfl, h⟩
theorem wpc_exit {id : Nat} (h : Q (.exit id) s) : wpc P G rd (.exit id) s Q := ⟨1, _, _, rfl, h⟩
theorem wpc_ret (h : Q .ret s) : wpc P G rd .ret s Q := ⟨1, _, _, rfl, h⟩
theorem wpc_seq {a b : Code} (h : wpc P G rd a s (Nxt (fun s' => wpc P G rd b s' Q) Q)) : wpc P G rd (.seq a b) s Q := by
  obtain ⟨n, e, s', h1, h2⟩ := h
  cases e with
  | normal =>
    obtain ⟨m, e, s'', h3, h4⟩ := h2
    exact ⟨max n m + 1, e, s'', by
      show stSeq (exec P G (max n m)) rd a b s = _
      simp only [stSeq]
      rw [exec_le (Nat.le_max_left n m) _ _ _ _ h1]
      exact exec_le (Nat.le_max_right n m) _ _ _ _ h3, h4⟩
  | exit id => exact ⟨n + 1, _, s', by show stSeq (exec P G n) rd a b s = _; simp only [stSeq]; rw [h1], h2⟩
  | ret => exact ⟨n + 1, _, s', by show stSeq (exec P G n) rd a b s = _; simp only [stSeq]; rw [h1], h2⟩
theorem wpc_block {id : Nat} {b : Code} (h : wpc P G rd b s (InB id Q)) : wpc P G rd (.block id b) s Q := by
  obtain ⟨n, e, s', h1, h2⟩ := h
  cases e with
  | normal => exact ⟨n + 1, _, s', by show stBlock (exec P G n) rd id b s = _; simp only [stBlock]; rw [h1], h2⟩
  | ret => exact ⟨n + 1, _, s', by show stBlock (exec P G n) rd id b s = _; simp only [stBlock]; rw [h1], h2⟩
  | exit id' =>
    by_cases hid : id' = id
    · simp only [InB] at h2; rw [if_pos hid] at h2
      exact ⟨n + 1, _, s', by show stBlock (exec P G n) rd id b s = _; simp only [stBlock]; rw [h1]; simp only [hid, if_true], h2⟩
    · simp only [InB] at h2; rw [if_neg hid] at h2
      exact ⟨n + 1, _, s', by show stBlock (exec P G n) rd id b s = _; simp only [stBlock]; rw [h1]; simp only [hid, if_false], h2⟩
theorem wpc_scope {b : Code} (h : wpc P G rd b s Q) : wpc P G rd (.scope b) s Q := let ⟨n, e, s', h1, h2⟩ := h; ⟨n + 1, e, s', h1, h2⟩
theorem wpc_cond {x : Operand} {a b : Code} {t : Bool} (hx : evT G s.tmps x = .s (.bool t)) (h : wpc P G rd (if t then a else b) s Q) : wpc P G rd (.cond x a b) s Q := by
  obtain ⟨n, e, s', h1, h2⟩ := h
  exact ⟨n + 1, e, s', by show stCond G (exec P G n) rd x a b s = _; simp only [stCond, hx]; exact h1, h2⟩
theorem wpc_loop {b : Code} (h : wpc P G rd b s (Nxt (fun s' => wpc P G rd (.loop b) s' Q) Q)) : wpc P G rd (.loop b) s Q := by
  obtain ⟨n, e, s', h1, h2⟩ := h
  cases e with
  | normal =>
    obtain ⟨m, e, s'', h3, h4⟩ := h2
    exact ⟨max n m + 1, e, s'', by
      show stLoop (exec P G (max n m)) rd b s = _
      simp only [stLoop]
      rw [exec_le (Nat.le_max_left n m) _ _ _ _ h1]
      exact exec_le (Nat.le_max_right n m) _ _ _ _ h3, h4⟩
  | exit id => exact ⟨n + 1, _, s', by show stLoop (exec P G n) rd b s = _; simp only [stLoop]; rw [h1], h2⟩
  | ret => exact ⟨n + 1, _, s', by show stLoop (exec P G n) rd b s = _; simp only [stLoop]; rw [h1], h2⟩
theorem wpc_inv {b : Code} (I : Nat → Cfg → Prop) (m : Nat) (h : I m s) (step : ∀ m s, I m s → wpc P G rd b s (Nxt (fun s' => ∃ m', m' < m ∧ I m' s') Q)) : wpc P G rd (.loop b) s Q := by
  induction m using Nat.strongRecOn generalizing s with
  | _ m ih =>
    refine wpc_loop (wpc_mono (step m s h) fun e s' hq => ?_)
    cases e with
    | normal => obtain ⟨m', hlt, hI⟩ := hq; exact ih m' hlt hI
    | exit id => exact hq
    | ret => exact hq

theorem wpc_region {id : Nat} {l : List Oper} (h : wpl P G l.toArray l s (Q .normal)) : wpc P G rd (.region id l.toArray false) s Q := by
  obtain ⟨n, s', h1, h2⟩ := h
  exact ⟨n + 1, _, s', by
    show stRegion P G (exec P G n) l.toArray s = _
    simp only [stRegion]
    rw [h1], h2⟩
theorem wpc_draw {id : Nat} {ops : Array Oper} {pl : List (Nat × List Nat)} {tm : Tm} {defs : List Nat} {σ : AS} (hok : drawnOk ops = true) (hpl : plan ops = pl)
    (h : wpd P G σ.next ops pl ⟨tm, defs, ⟨σ.objs, σ.next + ops.size, none⟩⟩ (fun _ => none) (Q .normal)) : wpc P G rd (.region id ops true) ⟨tm, defs, σ⟩ Q := by
  obtain ⟨n, s', h1, h2⟩ := h
  exact ⟨n + 1, _, s', by
    show stDraw P G (exec P G n) ops ⟨tm, defs, σ⟩ = _
    obtain ⟨objs, next, slot⟩ := σ
    simp only [stDraw]
    rw [if_pos hok]
    simp only [stDrawS]
    rw [show planS false ops = pl from hpl, h1], h2⟩
end

section
variable {ops : Array Oper} {o : Oper} {os : List Oper} {tm : Tm} {defs : List Nat} {σ : AS} {Q : Cfg → Prop}
theorem wpl_nil {s : Cfg} (h : Q s) : wpl P G ops [] s Q := ⟨0, s, rfl, h⟩
theorem wpn_val {v : AV} {K : AV → AS → Prop} (h : K v σ) : wpn P G (some (.val v, σ)) K := ⟨0, v, σ, rfl, h⟩
theorem wpn_enter {f : FuncId} {as : List AV} {K : AV → AS → Prop} (h : wpf P G f as σ K) : wpn P G (some (.enter f as, σ)) K := h
theorem wpn_round {l : Nat} {as : List AV} {K : AV → AS → Prop} (h : wpy P G l as σ K) : wpn P G (some (.round l as, σ)) K := h
theorem wpl_op (hw : Region.wanted o (ayielded ops tm) = true) (h : wpn P G (eff P o (evT G tm) σ) fun v σ' => wpl P G ops os ⟨put tm o.dst v, defs, σ'⟩ Q) : wpl P G ops (o :: os) ⟨tm, defs, σ⟩ Q := by
  obtain ⟨n, v, σ', h1, m, s', h3, h4⟩ := h
  refine ⟨max n m, s', ?_, h4⟩
  simp only [runL, stepO, resO]
  rw [if_pos hw, resNext_le (exec_le (Nat.le_max_left n m)) h1]
  exact runL_le (exec_le (Nat.le_max_right n m)) _ _ _ h3
theorem wpl_not (hw : Region.wanted o (ayielded ops tm) = false) (h : wpl P G ops os ⟨put tm o.dst uv, defs, σ⟩ Q) : wpl P G ops (o :: os) ⟨tm, defs, σ⟩ Q := by
  obtain ⟨n, s', h3, h4⟩ := h
  refine ⟨n, s', ?_, h4⟩
  simp only [runL, stepO, resO]
  rw [if_neg (by rw [hw]; simp)]
  exact h3

theorem wpf_body {f : FuncId} {as : List AV} {fn : Func} {c : Code} {K : AV → AS → Prop} (ho : G.orc f as = none) (hf : P.funcs[f]? = some fn) (hb : fn.body = some c)
    (h : wpc P G none c ⟨Tm.fill ⟨max as.length fn.ntmps, .e⟩ 0 as, [], σ⟩ fun e s => (e = .normal ∨ e = .ret) ∧ ∃ σ' v, dropDefs s.st s.defs = some σ' ∧ aresults P fn s.tmps σ' = some v ∧ K v σ') : wpf P G f as σ K := by
  obtain ⟨n, e, s, h1, he, σ', v, h2, h3, h4⟩ := h
  refine ⟨n, v, σ', ?_, h4⟩
  unfold callWith
  rw [ho]
  simp only [callBody, hf, hb, h1]
  rcases he with rfl | rfl <;> simp only [h2, h3]
theorem wpf_orc {f : FuncId} {as : List AV} {g : AS → Option (AV × AS)} {v : AV} {σ' : AS} {K : AV → AS → Prop} (ho : G.orc f as = some g) (hg : g σ = some (v, σ')) (h : K v σ') : wpf P G f as σ K :=
  ⟨0, v, σ', by unfold callWith; rw [ho]; exact hg, h⟩
theorem wpf_run {f : FuncId} {as : List AV} {K : AV → AS → Prop} (h : wpf P G f as ⟨.e, 0, none⟩ K) : ∃ n v σ', runCall P G n f as = some (v, σ') ∧ K v σ' := h
end
end Go.Ab
/- What comes in: arguments that can be read as plain data, as abstract values; and the frame of a law. -/
namespace Go.Ab
open Go.ChangeShapes Go.WideShapes Go.ChangeAt Go.RowKit Go.WideElems
variable {P : Program} {H : Type} {enc : TypeId × Value → H}

inductive Ty (P : Program) : TypeId → List AV → Prop
  | bool {t : TypeId} {b : Bool} (h : P.underlying t = some .bool) : Ty P t [.s (.bool b)]
  | int {t : TypeId} {k : IntKind} {n : Int} (h : P.underlying t = some (.int k)) (hw : (Lit.int k n).wf = true) : Ty P t [.s (.int k n)]
  | str {t : TypeId} {s : ByteArray} (h : P.underlying t = some .string) (hs : s.size ≤ maxLen) : Ty P t [.s (.string s)]
  | empty {t e : TypeId} {a : Option Addr} {cap : Nat} (h : P.underlying t = some (.slice e)) (hc : cap ≤ maxLen) : Ty P t [.s (.slice a 0 cap)]
  | rsl {t e : TypeId} {a : Addr} {cap : Nat} {rows : List (List AV)} (h : P.underlying t = some (.slice e)) (hp : 0 < rows.length) (hn : rows.length ≤ cap) (hc : cap ≤ maxLen) (hl : ∀ r ∈ rows, r.length = P.cellsOf e) (hr : ∀ r ∈ rows, Ty P e r) :
      Ty P t [.rsl a (P.cellsOf e) cap rows]
  | struct {t : TypeId} {fs : Array Field} {as : List AV} (h : P.underlying t = some (.struct fs)) (hl : as.length = P.cellsOf t) (hf : ∀ f ∈ fs.toList, Ty P f.type ((as.drop f.offset).take (P.cellsOf f.type))) : Ty P t as
  | array {t e : TypeId} {n : Nat} {as : List AV} (h : P.underlying t = some (.array n e)) (hl : as.length = n * P.cellsOf e) (hf : ∀ i, i < n → Ty P e ((as.drop (i * P.cellsOf e)).take (P.cellsOf e))) : Ty P t as

def contig (P : Program) : List Field → Nat → Option Nat
  | [], o => some o
  | f :: fs, o => if f.offset = o then contig P fs (o + P.cellsOf f.type) else none
def plainTy (P : Program) : Nat → TypeId → Bool
  | 0, _ => false
  | n + 1, t =>
    match P.underlying t with
    | some .bool | some (.int _) | some .string => true
    | some (.slice e) => decide (0 < P.cellsOf e) && plainTy P n e
    | some (.struct fs) => contig P fs.toList 0 == some (P.cellsOf t) && fs.toList.all fun f => plainTy P n f.type
    | some (.array k e) => k * P.cellsOf e == P.cellsOf t && plainTy P n e
    | _ => false

theorem contig_le : ∀ (fs : List Field) (o m : Nat), contig P fs o = some m → o ≤ m
  | [], o, m, h => by cases h; exact Nat.le_refl _
  | f :: fs, o, m, h => by
    simp only [contig] at h
    split at h
    · have := contig_le fs _ m h; omega
    · cases h

section
variable {M : Mem} {ρ : Rho}
theorem fields_open {cs : List Value} : ∀ (fs : List Field) (o m : Nat), contig P fs o = some m → m ≤ cs.length →
    (∀ f ∈ fs, ∃ af, Concs M ρ af ((cs.drop f.offset).take (P.cellsOf f.type)) ∧ Ty P f.type af) →
    ∃ as, Concs M ρ as ((cs.drop o).take (m - o)) ∧ ∀ f ∈ fs, o ≤ f.offset ∧ Ty P f.type ((as.drop (f.offset - o)).take (P.cellsOf f.type))
  | [], o, m, h, hm, hf => by
    cases h
    exact ⟨[], by simp; exact .nil, fun f hf => by cases hf⟩
  | f :: fs, o, m, h, hm, hf => by
    simp only [contig] at h
    split at h
    · rename_i hoff
      have hle := contig_le fs _ m h
      obtain ⟨af, h1, h2⟩ := hf f (by simp)
      obtain ⟨as, h3, h4⟩ := fields_open fs _ m h hm (fun g hg => hf g (List.mem_cons_of_mem _ hg))
      have hlen : af.length = P.cellsOf f.type := by rw [h1.len, List.length_take, List.length_drop]; omega
      refine ⟨af ++ as, ?_, ?_⟩
      · have e : (cs.drop o).take (m - o) = (cs.drop f.offset).take (P.cellsOf f.type) ++ (cs.drop (o + P.cellsOf f.type)).take (m - (o + P.cellsOf f.type)) := by
          rw [hoff, show m - o = P.cellsOf f.type + (m - (o + P.cellsOf f.type)) by omega, List.take_add, List.drop_drop]
        rw [e]
        exact h1.append h3
      · intro g hg
        rcases List.mem_cons.1 hg with rfl | hg
        · refine ⟨by omega, ?_⟩
          rw [hoff, Nat.sub_self, List.drop_zero, ← hlen, List.take_left]
          exact h2
        · obtain ⟨h5, h6⟩ := h4 g hg
          refine ⟨by omega, ?_⟩
          rw [show g.offset - o = af.length + (g.offset - (o + P.cellsOf f.type)) by omega, List.drop_length_add_append]
          exact h6
    · cases h

theorem exists_list {α : Type} {p : Nat → α → Prop} : ∀ (n : Nat), (∀ i, i < n → ∃ a, p i a) → ∃ l : List α, l.length = n ∧ ∀ i a, l[i]? = some a → p i a
  | 0, _ => ⟨[], rfl, fun i a h => by simp at h⟩
  | n + 1, h => by
    obtain ⟨l, h1, h2⟩ := exists_list n (fun i hi => h i (by omega))
    obtain ⟨a, ha⟩ := h n (by omega)
    refine ⟨l ++ [a], by simp [h1], fun i b hb => ?_⟩
    rw [List.getElem?_append] at hb
    split at hb
    · exact h2 i b hb
    · rename_i hi
      have : i - l.length = 0 := by
        have := (List.getElem?_eq_some_iff.1 hb).1
        simp at this; omega
      rw [this] at hb
      simp at hb
      have hin : i = n := by omega
      subst hb hin; exact ha

theorem rows_concs {c : Nat} {vs : List Value} : ∀ (rows : List (List AV)), (∀ r ∈ rows, r.length = c) → rows.length * c ≤ vs.length → (∀ i r, rows[i]? = some r → Concs M ρ r ((vs.drop (i * c)).take c)) →
    Concs M ρ rows.flatten (vs.take (rows.length * c))
  | [], _, _, _ => by simp; exact .nil
  | r :: rows, hl, hle, h => by
    have h0 := h 0 r rfl
    simp only [Nat.zero_mul, List.drop_zero] at h0
    have hle' : c + rows.length * c ≤ vs.length := by simpa [Nat.add_mul, Nat.add_comm] using hle
    have ih := rows_concs (vs := vs.drop c) rows (fun q hq => hl q (List.mem_cons_of_mem _ hq)) (by rw [List.length_drop]; omega) (fun i q hq => by
      have := h (i + 1) q (by simpa using hq)
      rw [List.drop_drop]
      rwa [Nat.add_mul, Nat.one_mul, Nat.add_comm] at this)
    have e : vs.take ((r :: rows).length * c) = vs.take c ++ (vs.drop c).take (rows.length * c) := by
      rw [List.length_cons, Nat.add_mul, Nat.one_mul, Nat.add_comm, List.take_add]
    rw [e, List.flatten_cons]
    exact h0.append ih
end

theorem cells_get {w : World} {base : Nat} {a : Addr} {n : Nat} {cs : List Value} (h : w.cells? base a n = some cs) : cs.length = n ∧ ∀ i, i < n → w.cell? (a.add i) = cs[i]? := by
  unfold World.cells? at h
  split at h
  · refine ⟨by have := mapM_some_length h; simpa using this, fun i hi => ?_⟩
    exact mapM_some_get h i i (by simp [hi])
  · cases h

theorem add_spot {a : Addr} {n : Nat} {w : World} {v : Value} (h : w.cell? (a.add n) = some v) : ∃ c e fz, w.heap[a.block]? = some (.cells c e fz) ∧ c[a.off + n]? = some v ∧ (n = 0 → a.spot = none) := by
  unfold World.cell? at h
  have hb : (a.add n).block = a.block := by unfold Addr.add; split <;> rfl
  have ho : (a.add n).off = a.off + n := by unfold Addr.add; split <;> simp_all
  rw [hb, ho] at h
  split at h
  · rename_i c e fz hm
    refine ⟨c, e, fz, hm, ?_, ?_⟩
    · split at h
      · cases h
      · exact h
    · intro h0
      subst h0
      split at h
      · cases h
      · rename_i hs
        simpa [Addr.add] using hs
  · cases h

theorem open_cells {w : World} {spare : Nat → Bool} {held : Bool} : ∀ (n fuel : Nat) (t : TypeId) (cs : List Value) (x : DataW H × List MemPlace), plainTy P n t = true → DataW.trod enc P w 0 spare held fuel t cs = some x →
    ∃ as, Concs (memOf w) (fun _ => none) as cs ∧ Ty P t as
  | 0, _, _, _, _, h, _ => by cases h
  | n + 1, fuel, t, cs, x, hp, h => by
    simp only [plainTy] at hp
    split at hp
    · rename_i ht
      obtain ⟨b, rfl, _⟩ := DataW.trod_bool ht h
      exact ⟨_, .one (.s _), .bool ht⟩
    · rename_i k ht
      obtain ⟨m, rfl, _, hw⟩ := DataW.trod_int ht h
      exact ⟨_, .one (.s _), .int ht hw⟩
    · rename_i ht
      obtain ⟨s, rfl, _, hs⟩ := DataW.trod_string ht h
      exact ⟨_, .one (.s _), .str ht hs⟩
    · rename_i e ht
      simp only [Bool.and_eq_true, decide_eq_true_eq] at hp
      obtain ⟨hc, hpe⟩ := hp
      rcases DataW.trod_slice ht h with ⟨rfl, _⟩ | ⟨a, len, cap, elems, rest, m, _, rfl, _, _, hl, hm, hlen, hel, _⟩
      · exact ⟨_, .one (.s _), .empty ht (Nat.zero_le _)⟩
      · cases len with
        | zero => exact ⟨_, .one (.s _), .empty ht hm⟩
        | succ len =>
          have hrow : ∀ i, i < len + 1 → ∃ r, ∃ cs', w.cells? 0 (a.add (i * P.cellsOf e)) (P.cellsOf e) = some cs' ∧ Concs (memOf w) (fun _ => none) r cs' ∧ Ty P e r := fun i hi => by
            have := hel i hi
            rw [List.getElem?_eq_getElem (by omega)] at this
            simp only [Option.bind_eq_some_iff] at this
            obtain ⟨cs', h1, h2⟩ := this
            obtain ⟨r, h3, h4⟩ := open_cells n m e cs' _ hpe h2
            exact ⟨r, cs', h1, h3, h4⟩
          obtain ⟨rows, hrl, hrows⟩ := exists_list _ hrow
          -- the first cell tells the block
          obtain ⟨r0, hr0⟩ : ∃ r0, rows[0]? = some r0 := ⟨rows[0], List.getElem?_eq_getElem (by omega)⟩
          obtain ⟨cs0, h1, _, _⟩ := hrows 0 r0 hr0
          obtain ⟨h2, h3⟩ := cells_get h1
          have h4 := h3 0 hc
          rw [List.getElem?_eq_getElem (by omega)] at h4
          have e0 : (a.add (0 * P.cellsOf e)).add 0 = a.add 0 := by simp [Addr.add]
          rw [e0] at h4
          obtain ⟨c, ce, fz, hm0, _, hspot⟩ := add_spot h4
          have hsp := hspot rfl
          obtain ⟨blk, off, spot⟩ := a
          simp only at hsp hm0
          subst hsp
          have hcell : ∀ i r, rows[i]? = some r → ∀ j, j < P.cellsOf e → ∃ cs', Concs (memOf w) (fun _ => none) r cs' ∧ cs'.length = P.cellsOf e ∧ c[off + (i * P.cellsOf e + j)]? = cs'[j]? := fun i r hi j hj => by
            obtain ⟨cs', k1, k2, _⟩ := hrows i r hi
            obtain ⟨k3, k4⟩ := cells_get k1
            refine ⟨cs', k2, k3, ?_⟩
            have k5 := k4 j hj
            rw [List.getElem?_eq_getElem (by omega)] at k5
            have e1 : (Addr.add ⟨blk, off, none⟩ (i * P.cellsOf e)).add j = Addr.add ⟨blk, off, none⟩ (i * P.cellsOf e + j) := by
              simp only [Addr.add]
              by_cases h0 : i * P.cellsOf e = 0 <;> by_cases h1 : j = 0 <;> simp [h0, h1, Nat.add_assoc]
            rw [e1] at k5
            obtain ⟨c', _, _, hm', hv, _⟩ := add_spot k5
            simp only at hm' hv
            rw [hm0] at hm'; cases hm'
            rw [hv, List.getElem?_eq_getElem (by omega)]
          have hrlen : ∀ r ∈ rows, r.length = P.cellsOf e := fun r hr => by
            obtain ⟨i, hi, hie⟩ := List.getElem_of_mem hr
            obtain ⟨cs', k1, k2, _⟩ := hcell i r (by rw [← hie]; exact List.getElem?_eq_getElem hi) 0 hc
            rw [k1.len, k2]
          have hdrop : ∀ i r, rows[i]? = some r → ∃ cs', Concs (memOf w) (fun _ => none) r cs' ∧ ((c.toList.drop off).drop (i * P.cellsOf e)).take (P.cellsOf e) = cs' ∧ off + (i * P.cellsOf e) + P.cellsOf e ≤ c.size := fun i r hi => by
            obtain ⟨cs', k1, k2, _⟩ := hrows i r hi
            obtain ⟨k3, k4⟩ := cells_get k1
            have hall : ∀ j, j < P.cellsOf e → c[off + (i * P.cellsOf e + j)]? = cs'[j]? := fun j hj => by
              have k5 := k4 j hj
              rw [List.getElem?_eq_getElem (by omega)] at k5
              have e1 : (Addr.add ⟨blk, off, none⟩ (i * P.cellsOf e)).add j = Addr.add ⟨blk, off, none⟩ (i * P.cellsOf e + j) := by
                simp only [Addr.add]
                by_cases h0 : i * P.cellsOf e = 0 <;> by_cases h1 : j = 0 <;> simp [h0, h1, Nat.add_assoc]
              rw [e1] at k5
              obtain ⟨c', _, _, hm', hv, _⟩ := add_spot k5
              simp only at hm' hv
              rw [hm0] at hm'; cases hm'
              rw [hv, List.getElem?_eq_getElem (by omega)]
            have hin : off + (i * P.cellsOf e) + P.cellsOf e ≤ c.size := by
              have := hall (P.cellsOf e - 1) (by omega)
              rw [List.getElem?_eq_getElem (by omega)] at this
              have := (Array.getElem?_eq_some_iff.1 this).1
              omega
            refine ⟨cs', k2, ?_, hin⟩
            apply List.ext_getElem?
            intro j
            by_cases hj : j < P.cellsOf e
            · rw [List.getElem?_take_of_lt hj, List.getElem?_drop, List.getElem?_drop, Array.getElem?_toList, ← hall j hj]
            · rw [List.getElem?_eq_none (by rw [List.length_take]; omega), List.getElem?_eq_none (by omega)]
          have hlast : off + rows.length * P.cellsOf e ≤ c.size := by
            obtain ⟨r1, hr1⟩ : ∃ r1, rows[len]? = some r1 := ⟨rows[len], List.getElem?_eq_getElem (by omega)⟩
            obtain ⟨_, _, _, h5⟩ := hdrop len r1 hr1
            rw [hrl, Nat.add_mul, Nat.one_mul]; omega
          refine ⟨[.rsl ⟨blk, off, none⟩ (P.cellsOf e) cap rows], .one ?_, .rsl ht (by omega) (by omega) hm hrlen (fun r hr => ?_)⟩
          · have hmem : ConcMem (memOf w) (fun _ => none) blk off (P.cellsOf e) rows := by
              refine .mk hm0 hrlen ?_
              refine rows_concs rows hrlen (by have hcz : c.toList.length = c.size := Array.length_toList
                                               rw [List.length_drop]; omega) (fun i r hi => ?_)
              obtain ⟨cs', k1, k2, _⟩ := hdrop i r hi
              rw [k2]; exact k1
            have := Conc.rsl hmem (cap := cap) (by omega)
            rw [hrl] at this
            exact this
          · obtain ⟨i, hi, hie⟩ := List.getElem_of_mem hr
            obtain ⟨cs', _, _, k⟩ := hrows i r (by rw [← hie]; exact List.getElem?_eq_getElem hi)
            exact k
    · rename_i fs ht
      simp only [Bool.and_eq_true, beq_iff_eq, List.all_eq_true] at hp
      obtain ⟨hcon, hpf⟩ := hp
      obtain ⟨xs, m, _, _, hlen, hxl, hx⟩ := DataW.trod_struct ht h
      have hf : ∀ f ∈ fs.toList, ∃ af, Concs (memOf w) (fun _ => none) af ((cs.drop f.offset).take (P.cellsOf f.type)) ∧ Ty P f.type af := fun f hf => by
        obtain ⟨i, hi, hie⟩ := List.getElem_of_mem hf
        rw [Array.length_toList] at hi
        have h1 := hx i f (by rw [← hie]; simp [hi])
        rw [List.getElem?_eq_getElem (by omega)] at h1
        exact open_cells n m f.type _ _ (hpf f hf) h1
      obtain ⟨as, h1, h2⟩ := fields_open fs.toList 0 _ hcon (by omega) hf
      rw [List.drop_zero, Nat.sub_zero, List.take_of_length_le (by omega)] at h1
      refine ⟨as, h1, .struct ht (by rw [h1.len, hlen]) (fun f hf => ?_)⟩
      have := (h2 f hf).2
      rwa [Nat.sub_zero] at this
    · rename_i k e ht
      simp only [Bool.and_eq_true, beq_iff_eq] at hp
      obtain ⟨hcon, hpe⟩ := hp
      obtain ⟨xs, m, _, _, hlen, hxl, hx⟩ := DataW.trod_array ht h
      have hrow : ∀ i, i < k → ∃ r, Concs (memOf w) (fun _ => none) r ((cs.drop (i * P.cellsOf e)).take (P.cellsOf e)) ∧ Ty P e r := fun i hi => by
        have h1 := hx i hi
        rw [List.getElem?_eq_getElem (by omega)] at h1
        exact open_cells n m e _ _ hpe h1
      obtain ⟨rows, hrl, hrows⟩ := exists_list _ hrow
      have hcl : cs.length = k * P.cellsOf e := by rw [hlen, hcon]
      have hrlen : ∀ r ∈ rows, r.length = P.cellsOf e := fun r hr => by
        obtain ⟨i, hi, hie⟩ := List.getElem_of_mem hr
        have := (hrows i r (by rw [← hie]; exact List.getElem?_eq_getElem hi)).1.len
        rw [this, List.length_take, List.length_drop]
        have : (i + 1) * P.cellsOf e ≤ k * P.cellsOf e := Nat.mul_le_mul_right _ (by omega)
        rw [Nat.add_mul] at this; omega
      have h1 := rows_concs (M := memOf w) (ρ := fun _ => none) (vs := cs) rows hrlen (by rw [hrl]; omega) (fun i r hi => (hrows i r hi).1)
      rw [hrl, ← hcl, List.take_length] at h1
      refine ⟨rows.flatten, h1, .array ht (by rw [h1.len, hcl]) (fun i hi => ?_)⟩
      have hi' : i < rows.length := by omega
      have hfl := flat_row hrlen (List.getElem?_eq_getElem hi')
      rw [hfl]
      exact (hrows i rows[i] (List.getElem?_eq_getElem hi')).2
    · cases hp
theorem open_value {w : World} {r : Reach} {b0 : Nat} {spare : Nat → Bool} {held : Bool} {n : Nat} {t : TypeId} {v : Value} {d : DataW H} {ps : List MemPlace} (hp : plainTy P n t = true) (hval : Value.okWide P w r b0 t v) (hd : DataW.Trod enc P w 0 spare held t v d ps) :
    ∃ a, Conc (memOf w) (fun _ => none) a v ∧ Ty P t (cellsOf a) := by
  obtain ⟨fuel, hf⟩ := hd
  obtain ⟨as, h1, h2⟩ := open_cells n fuel t _ _ hp hf
  cases n with
  | zero => cases hp
  | succ n =>
    simp only [plainTy] at hp
    split at hp
    · rename_i ht
      obtain ⟨b, rfl⟩ := okWide_bool ht hval
      exact ⟨.s _, .s _, .bool ht⟩
    · rename_i k ht
      obtain ⟨m, rfl⟩ := okWide_int ht hval
      cases h2 with
      | int h hw =>
        have := h1.s_eq (vs := [.int _ _])
        simp [Value.cells] at this
        obtain ⟨rfl, rfl⟩ := this
        exact ⟨.s _, .s _, .int h hw⟩
      | _ => simp_all
    · rename_i ht
      obtain ⟨s, rfl⟩ := okWide_string ht hval
      obtain ⟨s', hs', _, hsz⟩ := DataW.trod_string ht hf
      simp [Value.cells] at hs'
      subst hs'
      exact ⟨.s _, .s _, .str ht hsz⟩
    · rename_i e ht
      obtain ⟨a, len, cap, rfl⟩ := okWide_slice ht hval
      simp only [Value.cells, List.toList_toArray] at h1
      cases h2 with
      | empty h hc =>
        cases h1 with
        | cons h1 _ => exact ⟨_, h1, .empty h hc⟩
      | rsl h hp hn hc hl hr =>
        cases h1 with
        | cons h1 _ => exact ⟨_, h1, .rsl h hp hn hc hl hr⟩
      | _ => simp_all
    · rename_i fs ht
      unfold Value.okWide at hval
      rw [ht] at hval
      obtain ⟨cs, rfl, _, _⟩ := hval
      exact ⟨.agg as, .agg h1, h2⟩
    · rename_i k e ht
      unfold Value.okWide at hval
      rw [ht] at hval
      obtain ⟨cs, rfl, _, _⟩ := hval
      exact ⟨.agg as, .agg h1, h2⟩
    · cases hp

def TyAll (P : Program) : List TypeId → List AV → Prop
  | [], [] => True
  | t :: ts, a :: as => Ty P t (cellsOf a) ∧ TyAll P ts as
  | _, _ => False

theorem open_values {w : World} {r : Reach} {b0 : Nat} {spare : Nat → Bool} {held : Bool} {n : Nat} : ∀ {ts : List TypeId} {vs : List Value} {ds : List (DataW H)} {ps : List MemPlace}, (∀ t ∈ ts, plainTy P n t = true) →
    (∀ (j : Nat) (t : TypeId) (v : Value), ts[j]? = some t → vs[j]? = some v → Value.okWide P w r b0 t v) → DataW.TrodAll enc P w 0 spare held ts vs ds ps → ∃ as, Concs (memOf w) (fun _ => none) as vs ∧ TyAll P ts as
  | [], [], [], _, _, _, _ => ⟨[], .nil, trivial⟩
  | t :: ts, v :: vs, d :: ds, _, hp, hv, ⟨p, q, h1, h2, _⟩ => by
    obtain ⟨a, h3, h4⟩ := open_value (hp t (by simp)) (hv 0 t v rfl rfl) h1
    obtain ⟨as, h5, h6⟩ := open_values (fun u hu => hp u (List.mem_cons_of_mem _ hu)) (fun j u x hu hx => hv (j + 1) u x (by simpa using hu) (by simpa using hx)) h2
    exact ⟨a :: as, .cons h3 h5, h4, h6⟩
  | [], _ :: _, _, _, _, _, h => (by simp [DataW.TrodAll] at h)
  | _ :: _, [], _, _, _, _, h => (by simp [DataW.TrodAll] at h)
  | [], [], _ :: _, _, _, _, h => (by simp [DataW.TrodAll] at h)
  | _ :: _, _ :: _, [], _, _, _, h => (by simp [DataW.TrodAll] at h)

theorem Rep.kept_of {B w : World} {ρ : Rho} {σ : AS} (h : Rep B ρ σ w) (may : MemPlace → Prop) : B.keptBut w may := by
  refine World.keptBut_mono (may := fun _ => False) (fun p hp => hp.elim) ⟨h.os, h.out, fun i hi => ?_⟩
  rw [h.keep i hi]
  split <;> first | exact ⟨by simp_all, by simp_all, by simp_all, fun j _ => by simp_all⟩ | (right; simp_all; done) | simp_all
theorem post_of_same0 {f : Func} {s : ChangeSpec} {apart fresh handsOn : Bool} {W W' : World} {args : Array Value} {v : Value} {ds gs : List (DataW H)} {before pa pv : List MemPlace}
    (hW : DataW.Whole enc P f.params.toList s.vars apart W args.toList ds gs before)
    (hres : ∀ (b : Nat) (sp : Nat → Bool) (hd : Bool), DataW.TrodAll enc P W' b sp hd f.resultTypes.toList (v.resultList f.resultTypes.size) (s.fn H (ds ++ gs)).results [])
    (hargs : ∀ sp : Nat → Bool, (∀ p ∈ before, sp p.block = true) → DataW.TrodAll enc P W' 0 sp true f.params.toList args.toList (s.fn H (ds ++ gs)).args pa)
    (hvars : ∀ sp : Nat → Bool, (∀ p ∈ before, sp p.block = true) → DataW.TrodVars enc P W' sp s.vars (s.fn H (ds ++ gs)).vars pv)
    (hps : before = pa ++ pv) (hk : W.keptBut W' (· ∈ before)) : s.post enc P f apart fresh handsOn false W args v W' := by
  have hold : ∀ p ∈ before, (fun b => decide (b < W.heap.size)) p.block = true := fun p hp => by simpa using hW.lt p hp
  refine ⟨ds, gs, before, [], pa, pv, hW, hres _ _ _, hargs _ hold, hvars _ hold, World.keptBut_mono (fun p hp => ⟨hp, ?_⟩) hk, fun h => by cases h⟩
  rw [hps, List.mem_append] at hp
  exact Or.inr hp

theorem all_stays {W W' : World} {sp' : Nat → Bool} (hl : laidOutB P = true) : ∀ {ts : List TypeId} {vs : List Value} {ds : List (DataW H)} {ps : List MemPlace}, (∀ t ∈ ts, P.readableRec t = true ∧ t < P.types.size) →
    DataW.TrodAll enc P W 0 (fun _ => true) true ts vs ds ps → (∀ p ∈ ps, W.sameAt W' p) → (∀ p ∈ ps, sp' p.block = true) → DataW.TrodAll enc P W' 0 sp' true ts vs ds ps
  | [], [], [], _, _, h, _, _ => h
  | t :: ts, v :: vs, d :: ds, ps, hr, ⟨p, q, h1, h2, e⟩, hsame, hsp => by
    subst e
    exact ⟨p, q, Trod_stays hl (hr t (by simp)).1 (hr t (by simp)).2 h1 (fun x hx => hsame x (List.mem_append_left _ hx)) (fun x hx => hsp x (List.mem_append_left _ hx)),
      all_stays hl (fun u hu => hr u (List.mem_cons_of_mem _ hu)) h2 (fun x hx => hsame x (List.mem_append_right _ hx)) (fun x hx => hsp x (List.mem_append_right _ hx)), rfl⟩
  | [], _ :: _, _, _, _, h, _, _ => (by simp [DataW.TrodAll] at h)
  | _ :: _, [], _, _, _, h, _, _ => (by simp [DataW.TrodAll] at h)
  | [], [], _ :: _, _, _, h, _, _ => (by simp [DataW.TrodAll] at h)
  | _ :: _, _ :: _, [], _, _, h, _, _ => (by simp [DataW.TrodAll] at h)

structure LawSpec (s : ChangeSpec) (n : Nat) : Prop where
  vars : s.vars = []
  fn : ∀ (H : Type) (ds : List (DataW H)), ds.length = n → (s.fn H ds).results = [.lit (.bool true)] ∧ (s.fn H ds).args = ds ∧ (s.fn H ds).vars = []

theorem trodAll_length {w : World} {spare : Nat → Bool} {held : Bool} : ∀ {ts : List TypeId} {vs : List Value} {ds : List (DataW H)} {ps : List MemPlace}, DataW.TrodAll enc P w 0 spare held ts vs ds ps → ds.length = ts.length
  | [], [], [], _, _ => rfl
  | _ :: _, _ :: _, _ :: _, _, ⟨_, _, _, h, _⟩ => by simp [trodAll_length h]
  | [], _ :: _, _, _, h => (by simp [DataW.TrodAll] at h)
  | _ :: _, [], _, _, h => (by simp [DataW.TrodAll] at h)
  | [], [], _ :: _, _, h => (by simp [DataW.TrodAll] at h)
  | _ :: _, _ :: _, [], _, h => (by simp [DataW.TrodAll] at h)

theorem law_post {f : Func} {s : ChangeSpec} (hs : LawSpec s f.params.size) (hl : laidOutB P = true) (hr : ∀ t ∈ f.params.toList, P.readableRec t = true ∧ t < P.types.size) {bt : TypeId} (hrt : f.resultTypes = #[bt]) (hbt : P.underlying bt = some .bool)
    {W W' : World} {args : Array Value} {ds gs : List (DataW H)} {before : List MemPlace} (hW : DataW.Whole enc P f.params.toList s.vars false W args.toList ds gs before) {ρ : Rho} {σ : AS} (hg : Rep W ρ σ W') :
    s.post enc P f false true false false W args (.bool true) W' := by
  have hW' := hW
  obtain ⟨p, q, hA, hV, rfl, hfz, _⟩ := hW
  rw [hs.vars] at hV
  cases gs with
  | cons g gs => simp [DataW.TrodVars] at hV
  | nil =>
    have hq : q = [] := hV
    subst hq
    obtain ⟨h1, h2, h3⟩ := hs.fn H ds (by rw [trodAll_length hA]; simp)
    refine post_of_same0 (pa := p) (pv := []) hW' (fun b sp hd => ?_) (fun sp hsp => ?_) (fun sp hsp => ?_) rfl (hg.kept_of _)
    · rw [List.append_nil, h1, hrt]
      exact trodAll_mk1 (shut_bool hbt _)
    · rw [List.append_nil, h2]
      refine all_stays hl hr hA (fun x hx => ?_) (fun x hx => hsp x (List.mem_append_left _ hx))
      have hlt := hW'.lt x (List.mem_append_left _ hx)
      have hk := hg.keep x.block hlt
      cases x with
      | cell b off =>
        simp only [MemPlace.block] at hk
        simp only [World.sameAt, World.cell?, hk]
      | map b => exact hk
    · rw [List.append_nil, h3, hs.vars]
      rfl
theorem table_cells {w : World} {spare : Nat → Bool} {held : Bool} {fuel : Nat} {t e : TypeId} {k : IntKind} {ns : List Int} {cs : List Value} {ps : List MemPlace} (ht : P.underlying t = some (.array ns.length e)) (he : P.underlying e = some (.int k)) (ce : P.cellsOf e = 1) (ct : P.cellsOf t = ns.length)
    (h : DataW.trod enc P w 0 spare held fuel t cs = some (.agg (ns.map fun n => .lit (.int k n)), ps)) : cs = ns.map (.int k) := by
  obtain ⟨xs, m, _, hx, hlen, hxl, hel⟩ := DataW.trod_array ht h
  simp only [Prod.mk.injEq, DataW.agg.injEq] at hx
  obtain ⟨hx, _⟩ := hx
  apply List.ext_getElem?
  intro i
  by_cases hi : i < ns.length
  · have h1 := hel i hi
    rw [ce, Nat.mul_one] at h1
    have hi' : i < cs.length := by omega
    rw [List.drop_eq_getElem_cons hi', List.take_succ_cons, List.take_zero, List.getElem?_eq_getElem (by omega)] at h1
    obtain ⟨n, h2, h3, _⟩ := DataW.trod_int he h1
    have h4 := congrArg (·[i]?) hx
    simp only [List.getElem?_map, List.getElem?_eq_getElem hi, List.getElem?_eq_getElem (show i < xs.length by omega), Option.map_some, h3, Option.some.injEq, DataW.lit.injEq, Lit.int.injEq, true_and] at h4
    simp only [List.cons.injEq, and_true] at h2
    rw [List.getElem?_eq_getElem hi', List.getElem?_map, List.getElem?_eq_getElem hi, h2, h4]
    rfl
  · rw [List.getElem?_eq_none (by omega), List.getElem?_eq_none (by simp; omega)]
theorem table_mem {w : World} {spare : Nat → Bool} {held : Bool} {fuel : Nat} {nm : String} {g : Nat} {t e : TypeId} {k : IntKind} {ns : List Int} {cs : Array Value} {ps : List MemPlace} (hg : P.globalNamed nm = some g) (hv : w.var? P nm = some cs) (ht : P.underlying t = some (.array ns.length e))
    (he : P.underlying e = some (.int k)) (ce : P.cellsOf e = 1) (ct : P.cellsOf t = ns.length) (h : DataW.trod enc P w 0 spare held fuel t cs.toList = some (.agg (ns.map fun n => .lit (.int k n)), ps)) {ρ : Rho} {row : List AV} (hrow : row = ns.map fun n => .s (.int k n)) :
    ConcMem (memOf w) ρ g 0 row.length [row] := by
  have hcs := table_cells ht he ce ct h
  have hm : ∃ cs' e' fz, w.heap[g]? = some (.cells cs' e' fz) ∧ cs' = cs := by
    unfold World.var? at hv
    rw [hg] at hv
    simp only [Option.bind_some] at hv
    split at hv
    · exact ⟨_, _, _, by assumption, Option.some.inj hv⟩
    · cases hv
  obtain ⟨_, e', fz, hh, hcc⟩ := hm
  subst hcc
  refine .mk hh (fun r hr => by simp at hr; rw [hr]) ?_
  rw [hcs, hrow]
  simp only [List.flatten_cons, List.flatten_nil, List.append_nil, List.drop_zero, List.length_cons, List.length_nil, Nat.zero_add, Nat.one_mul, List.length_map]
  rw [List.take_of_length_le (by simp)]
  have : (ns.map fun n => AV.s (.int k n)) = (ns.map (Value.int k)).map .s := by simp
  rw [this]
  exact Concs.ofS _

def isArr (P : Program) (n : Nat) (k : IntKind) (t : TypeId) : Bool :=
  match P.underlying t with
  | some (.array m e) => m == n && P.cellsOf e == 1 && P.cellsOf t == n && (match P.underlying e with
    | some (.int q) => q == k
    | _ => false)
  | _ => false
theorem isArr_spec {P : Program} {n : Nat} {k : IntKind} {t : TypeId} (h : isArr P n k t = true) : ∃ e, P.underlying t = some (.array n e) ∧ P.underlying e = some (.int k) ∧ P.cellsOf e = 1 ∧ P.cellsOf t = n := by
  unfold isArr at h
  split at h
  · rename_i m e ht
    simp only [Bool.and_eq_true, beq_iff_eq] at h
    obtain ⟨⟨⟨h1, h2⟩, h3⟩, h4⟩ := h
    split at h4
    · rename_i q he
      have := beq_iff_eq.1 h4
      subst h1 this
      exact ⟨e, ht, he, h2, h3⟩
    · cases h4
  · cases h
def typeOf (P : Program) (g : Nat) : TypeId := ((P.globals[g]?).map (·.type)).getD 0
theorem typeOf_eq {P : Program} {g : Nat} {t : TypeId} (h : (P.globals[g]?).map (·.type) = some t) : typeOf P g = t := by unfold typeOf; rw [h]; rfl

theorem run_law {G : Gl} {n : Nat} {f : FuncId} {as : List AV} (hP : Fit P) (hg : Given P G) {σ : AS} (h : runCall P G n f as = some (.s (.bool true), σ)) {B : World} {vs : Array Value} (hG : GlOk (memOf B) (fun _ => none) G) (hc : Concs (memOf B) (fun _ => none) as vs.toList) :
    Calls P f vs B fun e w => ∃ ρ σ, e = .returned (.bool true) ∧ Rep B ρ σ w :=
  (run_calls hP hg h hG hc).mono fun e w ⟨ρ, y, he, hy, hr⟩ => by
    cases hy
    exact ⟨ρ, σ, he, hr⟩
end Go.Ab
/- Symbolic steps: temporaries and own objects as lists; one rule an operation. -/
namespace Go.Ab
variable {P : Program} {G : Gl}

def lk : List (Nat × AV) → Nat → Option AV
  | [], _ => none
  | (k, v) :: r, j => bif Nat.beq k j then some v else lk r j
structure En (tm : Tm) (N : Nat) (L : List (Nat × AV)) : Prop where
  n : tm.n = N
  get : ∀ j v, lk L j = some v → tm.get j = v
theorem En.set {tm : Tm} {N : Nat} {L : List (Nat × AV)} (h : En tm N L) {d : Nat} (hd : d < N) (v : AV) : En (tm.set d v) N ((d, v) :: L) := by
  refine ⟨by rw [Tm.n_set]; exact h.n, fun j u hj => ?_⟩
  rw [Tm.get_set, h.n]
  unfold lk at hj
  by_cases e : d = j
  · subst e
    have : Nat.beq d d = true := Nat.beq_refl d
    rw [this] at hj
    simp only [cond_true, Option.some.injEq] at hj
    rw [if_pos ⟨rfl, hd⟩, hj]
  · have : Nat.beq d j = false := by
      cases hb : Nat.beq d j with
      | false => rfl
      | true => exact absurd (Nat.eq_of_beq_eq_true hb) e
    rw [this] at hj
    simp only [cond_false] at hj
    rw [if_neg (fun x => e x.1)]
    exact h.get j u hj
def Sub : List (Nat × AV) → List (Nat × AV) → Prop
  | [], _ => True
  | p :: r, L => lk L p.1 = some p.2 ∧ Sub r L
theorem Sub.lk : ∀ {L' L : List (Nat × AV)}, Sub L' L → ∀ j v, lk L' j = some v → Go.Ab.lk L j = some v
  | [], _, _, j, v, h => by cases h
  | (k, u) :: r, L, ⟨h1, h2⟩, j, v, h => by
    unfold Go.Ab.lk at h
    cases hb : Nat.beq k j with
    | true =>
      rw [hb] at h
      simp only [cond_true, Option.some.injEq] at h
      have := Nat.eq_of_beq_eq_true hb
      subst this h
      exact h1
    | false =>
      rw [hb] at h
      exact h2.lk j v h
theorem En.sub {tm : Tm} {N : Nat} {L L' : List (Nat × AV)} (h : En tm N L) (hs : Sub L' L) : En tm N L' := ⟨h.n, fun j v hj => h.get j v (hs.lk j v hj)⟩

def evL (G : Gl) (L : List (Nat × AV)) : Operand → Option AV
  | .tmp t => lk L t
  | .const v => some (.s v)
  | .global g => some (evG G g)
  | .func f => some (.s (.func (.func f) #[] #[]))
theorem En.ev {tm : Tm} {N : Nat} {L : List (Nat × AV)} (h : En tm N L) {x : Operand} {v : AV} (hx : evL G L x = some v) : evT G tm x = v := by
  cases x with
  | tmp t => exact h.get t v hx
  | const c => cases hx; rfl
  | global g => cases hx; rfl
  | func f => cases hx; rfl
def evsL (G : Gl) (L : List (Nat × AV)) : List Operand → Option (List AV)
  | [] => some []
  | x :: r => match evL G L x, evsL G L r with
    | some v, some vs => some (v :: vs)
    | _, _ => none
theorem En.evs {tm : Tm} {N : Nat} {L : List (Nat × AV)} (h : En tm N L) : ∀ {xs : List Operand} {vs : List AV}, evsL G L xs = some vs → xs.map (evT G tm) = vs
  | [], vs, hx => by cases hx; rfl
  | x :: r, vs, hx => by
    unfold evsL at hx
    split at hx
    · rename_i v us hv hus
      cases hx
      rw [List.map_cons, h.ev hv, h.evs hus]
    · cases hx

structure He (B : AS) (W : List Nat) (σ : AS) (H : List (Nat × AObj)) (ds : List Nat) : Prop where
  slot : σ.slot = none
  fresh : ∀ id, σ.next ≤ id → σ.objs.get id = none
  le : B.next ≤ σ.next
  nodup : (H.map (·.1)).Nodup
  get : ∀ p ∈ H, σ.get p.1 = some p.2
  keep : ∀ id, id < B.next → id ∉ W → σ.objs.get id = B.objs.get id
  dle : ∀ d ∈ ds, B.next ≤ d
  dget : ∀ d ∈ ds, σ.get d = some .defr
  dnodup : ds.Nodup
  dH : ∀ d ∈ ds, d ∉ H.map (·.1)

theorem AS.newId_none {σ : AS} (h : σ.slot = none) : σ.newId = σ.next := by rw [AS.newId_eq, h]; rfl
theorem AS.push_none {σ : AS} (h : σ.slot = none) (o : AObj) : σ.push o = ⟨putObj σ.objs σ.next o, σ.next + 1, none⟩ := by
  obtain ⟨a, b, c⟩ := σ
  simp only at h; subst h; rfl
theorem AS.get_none_le {σ : AS} {id : Nat} (h : σ.next ≤ id) : σ.get id = none := by
  unfold AS.get; rw [if_neg (by omega)]
theorem He.lt {B σ : AS} {W : List Nat} {H : List (Nat × AObj)} {ds : List Nat} (h : He B W σ H ds) {p : Nat × AObj} (hp : p ∈ H) : p.1 < σ.next := AS.lt_of_get (h.get p hp)

theorem He.push {B σ : AS} {W : List Nat} {H : List (Nat × AObj)} {ds : List Nat} (h : He B W σ H ds) (o : AObj) : He B W (σ.push o) ((σ.newId, o) :: H) ds := by
  have hlow : ∀ k, σ.slot = some k → k < σ.next := fun k hk => by rw [h.slot] at hk; cases hk
  have hnid := AS.newId_none h.slot
  have hgetn : ∀ j, j < σ.next → (σ.push o).get j = σ.get j := fun j hj => by
    rw [AS.get_push σ j o hlow, hnid, if_neg (by omega)]
  have hlt : ∀ d ∈ ds, d < σ.next := fun d hd => AS.lt_of_get (h.dget d hd)
  refine ⟨AS.slot_push σ o, fun id hid => ?_, Nat.le_trans h.le (AS.next_push_le σ o), ?_, ?_, fun id hid hw => ?_, h.dle, fun d hd => ?_, h.dnodup, ?_⟩
  · rw [AS.push_none h.slot] at hid ⊢
    simp only at hid ⊢
    rw [putObj_get, if_neg (by omega)]
    exact h.fresh id (by omega)
  · rw [List.map_cons, List.nodup_cons]
    refine ⟨fun hm => ?_, h.nodup⟩
    obtain ⟨p, hp, hpe⟩ := List.mem_map.1 hm
    have := h.lt hp
    rw [hnid] at hpe; omega
  · intro p hp
    rcases List.mem_cons.1 hp with rfl | hp
    · rw [AS.get_push σ _ o hlow, if_pos rfl]
    · rw [hgetn _ (h.lt hp)]; exact h.get p hp
  · rw [AS.push_none h.slot]
    simp only
    rw [putObj_get, if_neg (by have := h.le; omega)]
    exact h.keep id hid hw
  · rw [hgetn d (hlt d hd)]; exact h.dget d hd
  · intro d hd
    rw [List.map_cons, List.mem_cons]
    rintro (e | hm)
    · have := hlt d hd
      rw [e, hnid] at this; omega
    · exact h.dH d hd hm

inductive Upd : List (Nat × AObj) → Nat → AObj → AObj → List (Nat × AObj) → Prop
  | head {id : Nat} {o o' : AObj} {H : List (Nat × AObj)} : Upd ((id, o) :: H) id o o' ((id, o') :: H)
  | tail {p : Nat × AObj} {id : Nat} {o o' : AObj} {H H' : List (Nat × AObj)} (h : Upd H id o o' H') : Upd (p :: H) id o o' (p :: H')
theorem Upd.mem {H H' : List (Nat × AObj)} {id : Nat} {o o' : AObj} (h : Upd H id o o' H') : (id, o) ∈ H := by
  induction h with
  | head => simp
  | tail _ ih => exact List.mem_cons_of_mem _ ih
theorem Upd.keys {H H' : List (Nat × AObj)} {id : Nat} {o o' : AObj} (h : Upd H id o o' H') : H'.map (·.1) = H.map (·.1) := by
  induction h with
  | head => rfl
  | tail _ ih => simp [ih]
theorem Upd.cases_mem {H H' : List (Nat × AObj)} {id : Nat} {o o' : AObj} (h : Upd H id o o' H') (hn : (H.map (·.1)).Nodup) : ∀ p ∈ H', (p = (id, o')) ∨ (p ∈ H ∧ p.1 ≠ id) := by
  induction h with
  | head =>
    rw [List.map_cons, List.nodup_cons] at hn
    intro p hp
    rcases List.mem_cons.1 hp with rfl | hp
    · exact .inl rfl
    · exact .inr ⟨List.mem_cons_of_mem _ hp, fun e => hn.1 (List.mem_map.2 ⟨p, hp, e⟩)⟩
  | tail h ih =>
    rw [List.map_cons, List.nodup_cons] at hn
    intro p hp
    rcases List.mem_cons.1 hp with rfl | hp
    · refine .inr ⟨List.mem_cons_self, fun e => hn.1 ?_⟩
      rw [e]; exact List.mem_map.2 ⟨_, h.mem, rfl⟩
    · rcases ih hn.2 p hp with e | ⟨h1, h2⟩
      · exact .inl e
      · exact .inr ⟨List.mem_cons_of_mem _ h1, h2⟩

theorem He.set {B σ : AS} {W : List Nat} {H H' : List (Nat × AObj)} {ds : List Nat} (h : He B W σ H ds) {id : Nat} {o o' : AObj} (hu : Upd H id o o' H') (hw : B.next ≤ id ∨ id ∈ W) : He B W (σ.set id o') H' ds := by
  have hlt := h.lt hu.mem
  have hmem := h.get _ hu.mem
  refine ⟨h.slot, fun j hj => ?_, h.le, by rw [hu.keys]; exact h.nodup, fun p hp => ?_, fun j hj hjw => ?_, h.dle, fun d hd => ?_, h.dnodup, by rw [hu.keys]; exact h.dH⟩
  · rw [AS.next_set] at hj
    have : (σ.set id o').objs = putObj σ.objs id o' := rfl
    rw [this, putObj_get, if_neg (by simp only at hlt; omega)]
    exact h.fresh j hj
  · rcases hu.cases_mem h.nodup p hp with rfl | ⟨h1, h2⟩
    · rw [AS.get_set, if_pos hlt, if_pos rfl]
    · rw [AS.get_set, if_pos (h.lt h1), if_neg (fun e => h2 e.symm)]
      exact h.get p h1
  · have : (σ.set id o').objs = putObj σ.objs id o' := rfl
    rw [this, putObj_get, if_neg (fun e => by subst e; rcases hw with hw | hw
                                              · omega
                                              · exact hjw hw)]
    exact h.keep j hj hjw
  · have hne : ¬ id = d := fun e => by subst e; exact h.dH id hd (List.mem_map.2 ⟨_, hu.mem, rfl⟩)
    rw [AS.get_set, if_pos (AS.lt_of_get (h.dget d hd)), if_neg hne]
    exact h.dget d hd

def SubH : List (Nat × AObj) → List (Nat × AObj) → Prop
  | [], _ => True
  | p :: r, H => p ∈ H ∧ SubH r H
theorem SubH.mem : ∀ {H' H : List (Nat × AObj)}, SubH H' H → ∀ p ∈ H', p ∈ H
  | [], _, _, p, hp => by cases hp
  | q :: r, H, ⟨h1, h2⟩, p, hp => by
    rcases List.mem_cons.1 hp with rfl | hp
    · exact h1
    · exact h2.mem p hp
theorem He.sub {B σ : AS} {W : List Nat} {H H' : List (Nat × AObj)} {ds : List Nat} (h : He B W σ H ds) (hs : SubH H' H) (hn : (H'.map (·.1)).Nodup) : He B W σ H' ds :=
  ⟨h.slot, h.fresh, h.le, hn, fun p hp => h.get p (hs.mem p hp), h.keep, h.dle, h.dget, h.dnodup, fun d hd hm => h.dH d hd (by
    obtain ⟨p, hp, hpe⟩ := List.mem_map.1 hm
    exact List.mem_map.2 ⟨p, hs.mem p hp, hpe⟩)⟩

theorem He.trans {B σ σ' : AS} {W : List Nat} {H Hn : List (Nat × AObj)} {ds : List Nat} (h : He B W σ H ds) (h' : He σ [] σ' Hn []) (hn : ∀ p ∈ Hn, σ.next ≤ p.1) : He B W σ' (Hn ++ H) ds := by
  have keep : ∀ id, id < σ.next → σ'.get id = σ.get id := fun id hid => by
    have hk := h'.keep id hid (by simp)
    unfold AS.get
    rw [if_pos hid, if_pos (Nat.lt_of_lt_of_le hid h'.le), hk]
  refine ⟨h'.slot, h'.fresh, Nat.le_trans h.le h'.le, ?_, ?_, fun id hid hw => ?_, h.dle, fun d hd => ?_, h.dnodup, ?_⟩
  · rw [List.map_append, List.nodup_append]
    refine ⟨h'.nodup, h.nodup, fun a ha b hb => ?_⟩
    obtain ⟨p, hp, hpe⟩ := List.mem_map.1 ha
    obtain ⟨q, hq, hqe⟩ := List.mem_map.1 hb
    have h1 := hn p hp
    have h2 := h.lt hq
    omega
  · intro p hp
    rcases List.mem_append.1 hp with hp | hp
    · exact h'.get p hp
    · rw [keep _ (h.lt hp)]; exact h.get p hp
  · rw [h'.keep id (Nat.lt_of_lt_of_le hid h.le) (by simp)]
    exact h.keep id hid hw
  · rw [keep d (AS.lt_of_get (h.dget d hd))]; exact h.dget d hd
  · intro d hd hm
    rw [List.map_append, List.mem_append] at hm
    rcases hm with hm | hm
    · obtain ⟨p, hp, hpe⟩ := List.mem_map.1 hm
      have h1 := hn p hp
      have h2 := AS.lt_of_get (h.dget d hd)
      omega
    · exact h.dH d hd hm
theorem He.start {σ : AS} (h1 : σ.slot = none) (h2 : ∀ id, σ.next ≤ id → σ.objs.get id = none) {H : List (Nat × AObj)} (hn : (H.map (·.1)).Nodup) (hg : ∀ p ∈ H, σ.get p.1 = some p.2) : He σ [] σ H [] :=
  ⟨h1, h2, Nat.le_refl _, hn, hg, fun _ _ _ => rfl, (fun d hd => by cases hd), (fun d hd => by cases hd), List.nodup_nil, (fun d hd => by cases hd)⟩
theorem He.here {B σ : AS} {W : List Nat} {H : List (Nat × AObj)} {ds : List Nat} (h : He B W σ H ds) : He σ [] σ H [] := .start h.slot h.fresh h.nodup h.get

variable (P G)
def SC (B : AS) (W : List Nat) (rd : Option Nat) (c : Code) (L : List (Nat × AV)) (N : Nat) (ds : List Nat) (H : List (Nat × AObj)) (Q : AEx → Cfg → Prop) : Prop :=
  ∀ tm σ, En tm N L → He B W σ H ds → wpc P G rd c ⟨tm, ds, σ⟩ Q
def SL (B : AS) (W : List Nat) (ops : Array Oper) (os : List Oper) (L : List (Nat × AV)) (N : Nat) (ds : List Nat) (H : List (Nat × AObj)) (Q : Cfg → Prop) : Prop :=
  ∀ tm σ, En tm N L → He B W σ H ds → wpl P G ops os ⟨tm, ds, σ⟩ Q
variable {P G}

section code
variable {B : AS} {W : List Nat} {rd : Option Nat} {L : List (Nat × AV)} {N : Nat} {ds : List Nat} {H : List (Nat × AObj)} {Q : AEx → Cfg → Prop}
theorem SC.app {c : Code} {tm : Tm} {σ : AS} (h : SC P G B W rd c L N ds H Q) (h1 : En tm N L) (h2 : He B W σ H ds) : wpc P G rd c ⟨tm, ds, σ⟩ Q := h tm σ h1 h2
theorem SC.sub {c : Code} {L' : List (Nat × AV)} (h : SC P G B W rd c L' N ds H Q) (hs : Sub L' L) : SC P G B W rd c L N ds H Q := fun tm σ h1 h2 => h tm σ (h1.sub hs) h2
theorem SC_seq {a b : Code} (h : SC P G B W rd a L N ds H (Nxt (fun s => wpc P G rd b s Q) Q)) : SC P G B W rd (.seq a b) L N ds H Q := fun tm σ h1 h2 => wpc_seq (h tm σ h1 h2)
theorem SC_block {id : Nat} {b : Code} (h : SC P G B W rd b L N ds H (InB id Q)) : SC P G B W rd (.block id b) L N ds H Q := fun tm σ h1 h2 => wpc_block (h tm σ h1 h2)
theorem SC_scope {b : Code} (h : SC P G B W rd b L N ds H Q) : SC P G B W rd (.scope b) L N ds H Q := fun tm σ h1 h2 => wpc_scope (h tm σ h1 h2)
theorem SC_cond_t {x : Operand} {a b : Code} (hx : evL G L x = some (.s (.bool true))) (h : SC P G B W rd a L N ds H Q) : SC P G B W rd (.cond x a b) L N ds H Q := fun tm σ h1 h2 => wpc_cond (t := true) (h1.ev hx) (h tm σ h1 h2)
theorem SC_cond_f {x : Operand} {a b : Code} (hx : evL G L x = some (.s (.bool false))) (h : SC P G B W rd b L N ds H Q) : SC P G B W rd (.cond x a b) L N ds H Q := fun tm σ h1 h2 => wpc_cond (t := false) (h1.ev hx) (h tm σ h1 h2)
theorem SC_skip {K : Cfg → Prop} {Q' : AEx → Cfg → Prop} (h : ∀ tm σ, En tm N L → He B W σ H ds → K ⟨tm, ds, σ⟩) : SC P G B W rd .skip L N ds H (Nxt K Q') := fun tm σ h1 h2 => wpc_skip (h tm σ h1 h2)
theorem SC_skip' (h : ∀ tm σ, En tm N L → He B W σ H ds → Q .normal ⟨tm, ds, σ⟩) : SC P G B W rd .skip L N ds H Q := fun tm σ h1 h2 => wpc_skip (h tm σ h1 h2)
theorem SC_exit {id : Nat} (h : ∀ tm σ, En tm N L → He B W σ H ds → Q (.exit id) ⟨tm, ds, σ⟩) : SC P G B W rd (.exit id) L N ds H Q := fun tm σ h1 h2 => wpc_exit (h tm σ h1 h2)
theorem SC_ret (h : ∀ tm σ, En tm N L → He B W σ H ds → Q .ret ⟨tm, ds, σ⟩) : SC P G B W rd .ret L N ds H Q := fun tm σ h1 h2 => wpc_ret (h tm σ h1 h2)
theorem SC_region {id : Nat} {l : List Oper} (h : SL P G B W l.toArray l L N ds H (fun s => Q .normal s)) : SC P G B W rd (.region id l.toArray false) L N ds H Q := fun tm σ h1 h2 => wpc_region (h tm σ h1 h2)

def St (B : AS) (W : List Nat) (s : Cfg) (L : List (Nat × AV)) (N : Nat) (ds : List Nat) (H : List (Nat × AObj)) : Prop := ∃ tm σ, s = ⟨tm, ds, σ⟩ ∧ En tm N L ∧ He B W σ H ds
theorem SC_loop {b : Code} {α : Type} (Lf : α → List (Nat × AV)) (Hf : α → List (Nat × AObj)) (dsf : α → List Nat) (Inv : α → Prop) (μ : α → Nat) (a0 : α) (hI : Inv a0) (hL : Sub (Lf a0) L) (hH : SubH (Hf a0) H) (hn : ((Hf a0).map (·.1)).Nodup) (hd : dsf a0 = ds)
    (step : ∀ a, Inv a → SC P G B W rd b (Lf a) N (dsf a) (Hf a) (Nxt (fun s => ∃ a', μ a' < μ a ∧ Inv a' ∧ St B W s (Lf a') N (dsf a') (Hf a')) Q)) : SC P G B W rd (.loop b) L N ds H Q := by
  intro tm σ h1 h2
  refine wpc_inv (fun m s => ∃ a, μ a = m ∧ Inv a ∧ St B W s (Lf a) N (dsf a) (Hf a)) (μ a0) ⟨a0, rfl, hI, tm, σ, by rw [hd], h1.sub hL, by rw [hd]; exact h2.sub hH hn⟩ ?_
  rintro m s ⟨a, rfl, hIa, tm', σ', rfl, h3, h4⟩
  refine wpc_mono (step a hIa tm' σ' h3 h4) fun e s' hq => ?_
  cases e with
  | normal =>
    obtain ⟨a', h5, h6, h7⟩ := hq
    exact ⟨μ a', h5, a', rfl, h6, h7⟩
  | exit id => exact hq
  | ret => exact hq
end code
end Go.Ab
/- Symbolic steps: the rules of the operations. -/
namespace Go.Ab
variable {P : Program} {G : Gl}

def rowN (P : Program) (t : TypeId) : Option (Option Nat) :=
  match P.underlying t with
  | some d => if d.isRow then (sz P t).map some else some none
  | none => none
def sliceOf (P : Program) (t : TypeId) : Option (TypeId × Nat) :=
  match P.underlying t with
  | some (.slice e) => (sz P e).map fun n => (e, n)
  | _ => none
def arrOf (P : Program) (t : TypeId) : Option (Nat × TypeId × Nat) :=
  match P.underlying t with
  | some (.array n e) => (sz P e).map fun s => (n, e, s)
  | _ => none
def fldOf (P : Program) (t : TypeId) (f : Nat) : Option Nat :=
  match P.underlying t with
  | some (.struct fields) =>
    match fields[f]? with
    | some fd => match sz P fd.type with
      | some (_ + 1) => some fd.offset
      | _ => none
    | none => none
  | _ => none
def zeroOf (P : Program) (t : TypeId) : Option (List AV) := ((P.info? t).bind (·.zero)).map fun z => z.cells.toList.map .s
def elOf (P : Program) (t : TypeId) : Option (TypeId × Nat × Nat × List AV) :=
  match P.underlying t with
  | some (.slice e) =>
    match P.info? e with
    | some info =>
      match info.zero with
      | some z => if z.cells.size = info.size then some (e, info.size, info.bytes, z.cells.toList.map .s) else none
      | none => none
    | none => none
  | _ => none

theorem readAt_cell {t : TypeId} (h : rowN P t = some none) (row : List AV) (f : Nat) : readAt P t row f = row[f]? := by
  unfold rowN at h
  unfold readAt
  split at h
  · rename_i d hd
    rw [hd]
    simp only
    split at h
    · cases hs : sz P t with
      | none => rw [hs] at h; cases h
      | some n => rw [hs] at h; cases h
    · rename_i hr
      rw [if_neg hr]
  · cases h
theorem readAt_row {t : TypeId} {n : Nat} (h : rowN P t = some (some n)) (row : List AV) (f : Nat) (hf : f + n ≤ row.length) : readAt P t row f = some (mkAgg ((row.drop f).take n)) := by
  unfold rowN at h
  unfold readAt
  split at h
  · rename_i d hd
    rw [hd]
    simp only
    split at h
    · rename_i hr
      rw [if_pos hr]
      cases hs : sz P t with
      | none => rw [hs] at h; cases h
      | some m =>
        rw [hs] at h
        cases h
        simp only
        rw [if_pos hf]
    · cases h
  · cases h
theorem sliceOf_spec {t e : TypeId} {n : Nat} (h : sliceOf P t = some (e, n)) : P.underlying t = some (.slice e) ∧ sz P e = some n := by
  unfold sliceOf at h
  split at h
  · rename_i e' he
    cases hs : sz P e' with
    | none => rw [hs] at h; cases h
    | some m => rw [hs] at h; cases h; exact ⟨he, hs⟩
  · cases h
theorem arrOf_spec {t e : TypeId} {n k : Nat} (h : arrOf P t = some (k, e, n)) : P.underlying t = some (.array k e) ∧ sz P e = some n := by
  unfold arrOf at h
  split at h
  · rename_i k' e' he
    cases hs : sz P e' with
    | none => rw [hs] at h; cases h
    | some m => rw [hs] at h; cases h; exact ⟨he, hs⟩
  · cases h
theorem elOf_spec {t e : TypeId} {n b : Nat} {z : List AV} (h : elOf P t = some (e, n, b, z)) : P.underlying t = some (.slice e) ∧ sz P e = some n ∧ ∃ info zv, P.info? e = some info ∧ info.zero = some zv ∧ zv.cells.size = info.size ∧ info.size = n ∧ info.bytes = b ∧ z = zv.cells.toList.map .s := by
  unfold elOf at h
  split at h
  · rename_i e' he
    split at h
    · rename_i info hi
      split at h
      · rename_i zv hz
        split at h
        · rename_i hsz
          cases h
          exact ⟨he, by unfold sz; rw [hi]; rfl, info, zv, hi, hz, hsz, rfl, rfl, rfl⟩
        · cases h
      · cases h
    · cases h
  · cases h

theorem evalP_bind {α β : Type} (s : Sem α) (f : α → Sem β) : evalP P (s >>= f) = (evalP P s).bind fun a => evalP P (f a) := by
  show evalP P (s.bind f) = _
  induction s with
  | pure a => rfl
  | program k ih => exact ih P
  | mark m k ih => exact ih
  | _ => rfl
theorem evalP_map {α β : Type} (s : Sem α) (f : α → β) : evalP P (f <$> s) = (evalP P s).map f := by
  show evalP P (s >>= fun a => pure (f a)) = _
  rw [evalP_bind]
  cases evalP P s <;> rfl
theorem evalP_under (t : TypeId) {d : TypeDesc} (h : P.underlying t = some d) : evalP P (underlying t) = some d := by
  unfold underlying
  show evalP P (Go.program >>= _) = _
  rw [evalP_bind]
  show evalP P (match P.underlying t with | some d => pure d | none => _) = _
  rw [h]
  rfl

section rules
variable {B : AS} {W : List Nat} {ops : Array Oper} {os : List Oper} {L : List (Nat × AV)} {N : Nat} {ds : List Nat} {H : List (Nat × AObj)} {Q : Cfg → Prop} {ty : TypeId} {pos : String} {af : Array Edge} {d : Nat}

theorem SL_nil (h : ∀ tm σ, En tm N L → He B W σ H ds → Q ⟨tm, ds, σ⟩) : SL P G B W ops [] L N ds H Q := fun tm σ h1 h2 => wpl_nil (h tm σ h1 h2)
theorem SL_seq {rd : Option Nat} {b : Code} {Q Q' : AEx → Cfg → Prop} (h : SC P G B W rd b L N ds H Q) : SL P G B W ops [] L N ds H (fun s => Nxt (fun s => wpc P G rd b s Q) Q' .normal s) := fun tm σ h1 h2 => wpl_nil (h tm σ h1 h2)

theorem SL_val {op : Op} (v : AV) (hd : d < N) (h : ∀ tm σ, En tm N L → He B W σ H ds → eff P ⟨some d, op, ty, pos, af, none⟩ (evT G tm) σ = some (.val v, σ)) (k : SL P G B W ops os ((d, v) :: L) N ds H Q) :
    SL P G B W ops (⟨some d, op, ty, pos, af, none⟩ :: os) L N ds H Q := fun tm σ h1 h2 => by
  refine wpl_op rfl ?_
  rw [h tm σ h1 h2]
  exact wpn_val (k _ σ (h1.set hd v) h2)

theorem SL_run {dst : Option Tmp} {op : Op} {j t : Nat} {want : Bool} (hj : (ops[j]?).bind (·.dst) = some t) (ht : lk L t = some (.s (.bool want))) (k : SL P G B W ops (⟨dst, op, ty, pos, af, none⟩ :: os) L N ds H Q) :
    SL P G B W ops (⟨dst, op, ty, pos, af, some (j, want)⟩ :: os) L N ds H Q := fun tm σ h1 h2 => by
  obtain ⟨n, s', h3, h4⟩ := k tm σ h1 h2
  refine ⟨n, s', ?_, h4⟩
  simp only [runL, stepO, resO] at h3 ⊢
  have hw : Region.wanted ⟨dst, op, ty, pos, af, some (j, want)⟩ (ayielded ops tm) = true := by
    simp only [Region.wanted, ayielded, hj, h1.get _ _ ht, beq_self_eq_true]
  have hw' : Region.wanted ⟨dst, op, ty, pos, af, none⟩ (ayielded ops tm) = true := rfl
  rw [if_pos hw]
  rw [if_pos hw'] at h3
  exact h3
theorem SL_not {op : Op} {j t : Nat} {want b : Bool} (hj : (ops[j]?).bind (·.dst) = some t) (ht : lk L t = some (.s (.bool b))) (hb : b = !want) (hd : d < N) (k : SL P G B W ops os ((d, uv) :: L) N ds H Q) :
    SL P G B W ops (⟨some d, op, ty, pos, af, some (j, want)⟩ :: os) L N ds H Q := fun tm σ h1 h2 => by
  refine wpl_not ?_ (k _ σ (h1.set hd uv) h2)
  simp only [Region.wanted, ayielded, hj, h1.get _ _ ht, hb]
  cases want <;> rfl

theorem SL_move {x : Operand} {v : AV} (hd : d < N) (hx : evL G L x = some v) (k : SL P G B W ops os ((d, v) :: L) N ds H Q) : SL P G B W ops (⟨some d, .move x, ty, pos, af, none⟩ :: os) L N ds H Q :=
  SL_val v hd (fun tm σ h1 h2 => by unfold eff; simp only [h1.ev hx]) k
theorem SL_assign {x : Operand} {v : AV} (hd : d < N) (hx : evL G L x = some v) (k : SL P G B W ops os ((d, v) :: L) N ds H Q) : SL P G B W ops (⟨some d, .assign x, ty, pos, af, none⟩ :: os) L N ds H Q :=
  SL_val v hd (fun tm σ h1 h2 => by unfold eff; simp only [h1.ev hx]) k
theorem SL_pick_t {c x y : Operand} {v : AV} (hd : d < N) (hc : evL G L c = some (.s (.bool true))) (hx : evL G L x = some v) (k : SL P G B W ops os ((d, v) :: L) N ds H Q) : SL P G B W ops (⟨some d, .pick c x y, ty, pos, af, none⟩ :: os) L N ds H Q :=
  SL_val v hd (fun tm σ h1 h2 => by unfold eff; simp only [effPick, h1.ev hc, h1.ev hx]; rfl) k
theorem SL_pick_f {c x y : Operand} {v : AV} (hd : d < N) (hc : evL G L c = some (.s (.bool false))) (hy : evL G L y = some v) (k : SL P G B W ops os ((d, v) :: L) N ds H Q) : SL P G B W ops (⟨some d, .pick c x y, ty, pos, af, none⟩ :: os) L N ds H Q :=
  SL_val v hd (fun tm σ h1 h2 => by unfold eff; simp only [effPick, h1.ev hc, h1.ev hy]; rfl) k

theorem SL_fast {o : BinOp} {t yt : TypeId} {x y : Operand} {u v r : Value} (hd : d < N) (hx : evL G L x = some (.s u)) (hy : evL G L y = some (.s v)) (hr : fastBin o u v = some r) (k : SL P G B W ops os ((d, .s r) :: L) N ds H Q) :
    SL P G B W ops (⟨some d, .binOp o t x y yt, ty, pos, af, none⟩ :: os) L N ds H Q :=
  SL_val (.s r) hd (fun tm σ h1 h2 => by unfold eff; simp only [effBin, h1.ev hx, h1.ev hy, hr]) k
theorem SL_add {t yt : TypeId} {x y : Operand} {a b : Int} (hd : d < N) (hx : evL G L x = some (.s (.int .i64 a))) (hy : evL G L y = some (.s (.int .i64 b))) (h1 : -9223372036854775808 ≤ a + b) (h2 : a + b ≤ 9223372036854775807) (k : SL P G B W ops os ((d, .s (.int .i64 (a + b))) :: L) N ds H Q) :
    SL P G B W ops (⟨some d, .binOp .add t x y yt, ty, pos, af, none⟩ :: os) L N ds H Q :=
  SL_fast hd hx hy (by simp only [fastBin, if_true, IntWalk.i64_in _ ⟨h1, h2⟩]) k
theorem SL_sub {t yt : TypeId} {x y : Operand} {a b : Int} (hd : d < N) (hx : evL G L x = some (.s (.int .i64 a))) (hy : evL G L y = some (.s (.int .i64 b))) (h1 : -9223372036854775808 ≤ a - b) (h2 : a - b ≤ 9223372036854775807) (k : SL P G B W ops os ((d, .s (.int .i64 (a - b))) :: L) N ds H Q) :
    SL P G B W ops (⟨some d, .binOp .sub t x y yt, ty, pos, af, none⟩ :: os) L N ds H Q :=
  SL_fast hd hx hy (by simp only [fastBin, if_true, IntWalk.i64_in _ ⟨h1, h2⟩]) k
theorem SL_mul {t yt : TypeId} {x y : Operand} {a b : Int} (hd : d < N) (hx : evL G L x = some (.s (.int .i64 a))) (hy : evL G L y = some (.s (.int .i64 b))) (h1 : -9223372036854775808 ≤ a * b) (h2 : a * b ≤ 9223372036854775807) (k : SL P G B W ops os ((d, .s (.int .i64 (a * b))) :: L) N ds H Q) :
    SL P G B W ops (⟨some d, .binOp .mul t x y yt, ty, pos, af, none⟩ :: os) L N ds H Q :=
  SL_fast hd hx hy (by simp only [fastBin, if_true, IntWalk.i64_in _ ⟨h1, h2⟩]) k

theorem SL_test {o : BinOp} {t yt : TypeId} {x y : Operand} {kk : IntKind} {a b : Int} {c : Bool} (hd : d < N) (hx : evL G L x = some (.s (.int kk a))) (hy : evL G L y = some (.s (.int kk b))) (hr : fastBin o (.int kk a) (.int kk b) = some (.bool c))
    (ht : c = true → SL P G B W ops os ((d, .s (.bool true)) :: L) N ds H Q) (hf : c = false → SL P G B W ops os ((d, .s (.bool false)) :: L) N ds H Q) : SL P G B W ops (⟨some d, .binOp o t x y yt, ty, pos, af, none⟩ :: os) L N ds H Q := by
  cases c with
  | true => exact SL_fast hd hx hy hr (ht rfl)
  | false => exact SL_fast hd hx hy hr (hf rfl)
theorem SL_lss {t yt : TypeId} {x y : Operand} {kk : IntKind} {a b : Int} (hd : d < N) (hx : evL G L x = some (.s (.int kk a))) (hy : evL G L y = some (.s (.int kk b))) (ht : a < b → SL P G B W ops os ((d, .s (.bool true)) :: L) N ds H Q) (hf : b ≤ a → SL P G B W ops os ((d, .s (.bool false)) :: L) N ds H Q) :
    SL P G B W ops (⟨some d, .binOp .lss t x y yt, ty, pos, af, none⟩ :: os) L N ds H Q :=
  SL_test (c := decide (a < b)) hd hx hy (by simp only [fastBin, if_true]) (fun h => ht (by simpa using h)) (fun h => hf (by simpa using h))
theorem SL_leq {t yt : TypeId} {x y : Operand} {kk : IntKind} {a b : Int} (hd : d < N) (hx : evL G L x = some (.s (.int kk a))) (hy : evL G L y = some (.s (.int kk b))) (ht : a ≤ b → SL P G B W ops os ((d, .s (.bool true)) :: L) N ds H Q) (hf : b < a → SL P G B W ops os ((d, .s (.bool false)) :: L) N ds H Q) :
    SL P G B W ops (⟨some d, .binOp .leq t x y yt, ty, pos, af, none⟩ :: os) L N ds H Q :=
  SL_test (c := decide (a ≤ b)) hd hx hy (by simp only [fastBin, if_true]) (fun h => ht (by simpa using h)) (fun h => hf (by simpa using h))
theorem SL_gtr {t yt : TypeId} {x y : Operand} {kk : IntKind} {a b : Int} (hd : d < N) (hx : evL G L x = some (.s (.int kk a))) (hy : evL G L y = some (.s (.int kk b))) (ht : b < a → SL P G B W ops os ((d, .s (.bool true)) :: L) N ds H Q) (hf : a ≤ b → SL P G B W ops os ((d, .s (.bool false)) :: L) N ds H Q) :
    SL P G B W ops (⟨some d, .binOp .gtr t x y yt, ty, pos, af, none⟩ :: os) L N ds H Q :=
  SL_test (c := decide (a > b)) hd hx hy (by simp only [fastBin, if_true]) (fun h => ht (by simpa using h)) (fun h => hf (by simpa using h))
theorem SL_geq {t yt : TypeId} {x y : Operand} {kk : IntKind} {a b : Int} (hd : d < N) (hx : evL G L x = some (.s (.int kk a))) (hy : evL G L y = some (.s (.int kk b))) (ht : b ≤ a → SL P G B W ops os ((d, .s (.bool true)) :: L) N ds H Q) (hf : a < b → SL P G B W ops os ((d, .s (.bool false)) :: L) N ds H Q) :
    SL P G B W ops (⟨some d, .binOp .geq t x y yt, ty, pos, af, none⟩ :: os) L N ds H Q :=
  SL_test (c := decide (a ≥ b)) hd hx hy (by simp only [fastBin, if_true]) (fun h => ht (by simpa using h)) (fun h => hf (by simpa using h))
theorem SL_eql {t yt : TypeId} {x y : Operand} {kk : IntKind} {a b : Int} (hd : d < N) (hx : evL G L x = some (.s (.int kk a))) (hy : evL G L y = some (.s (.int kk b))) (ht : a = b → SL P G B W ops os ((d, .s (.bool true)) :: L) N ds H Q) (hf : a ≠ b → SL P G B W ops os ((d, .s (.bool false)) :: L) N ds H Q) :
    SL P G B W ops (⟨some d, .binOp .eql t x y yt, ty, pos, af, none⟩ :: os) L N ds H Q :=
  SL_test (c := a == b) hd hx hy (by simp only [fastBin, if_true]) (fun h => ht (by simpa using h)) (fun h => hf (by simpa using h))
theorem SL_neq {t yt : TypeId} {x y : Operand} {kk : IntKind} {a b : Int} (hd : d < N) (hx : evL G L x = some (.s (.int kk a))) (hy : evL G L y = some (.s (.int kk b))) (ht : a ≠ b → SL P G B W ops os ((d, .s (.bool true)) :: L) N ds H Q) (hf : a = b → SL P G B W ops os ((d, .s (.bool false)) :: L) N ds H Q) :
    SL P G B W ops (⟨some d, .binOp .neq t x y yt, ty, pos, af, none⟩ :: os) L N ds H Q :=
  SL_test (c := a != b) hd hx hy (by simp only [fastBin, if_true]) (fun h => ht (by simpa using h)) (fun h => hf (by simpa using h))

theorem SL_bool {b : Bool} {i : Nat} (hb : lk L i = some (.s (.bool b))) (ht : b = true → SL P G B W ops os ((i, .s (.bool true)) :: L) N ds H Q) (hf : b = false → SL P G B W ops os ((i, .s (.bool false)) :: L) N ds H Q) : SL P G B W ops os L N ds H Q := by
  have key : ∀ {c : Bool}, b = c → (∀ j v, lk ((i, .s (.bool c)) :: L) j = some v → lk L j = some v) := by
    intro c hc j v hv
    unfold lk at hv
    cases he : Nat.beq i j with
    | true =>
      have := Nat.eq_of_beq_eq_true he
      subst this
      rw [he] at hv
      simp only [cond_true] at hv
      rw [hb, hc]; exact hv
    | false => rw [he] at hv; exact hv
  intro tm σ h1 h2
  cases b with
  | true => exact ht rfl tm σ ⟨h1.n, fun j v hj => h1.get j v (key rfl j v hj)⟩ h2
  | false => exact hf rfl tm σ ⟨h1.n, fun j v hj => h1.get j v (key rfl j v hj)⟩ h2

theorem SL_not_op {t : TypeId} {x : Operand} {b : Bool} (hd : d < N) (hx : evL G L x = some (.s (.bool b))) (k : SL P G B W ops os ((d, .s (.bool (!b))) :: L) N ds H Q) :
    SL P G B W ops (⟨some d, .unOp .not t x, ty, pos, af, none⟩ :: os) L N ds H Q :=
  SL_val (.s (.bool (!b))) hd (fun tm σ h1 h2 => by
    unfold eff
    have he : effPure P ⟨some d, .unOp .not t x, ty, pos, af, none⟩ (evT G tm) = some (.s (.bool (!b))) := by
      unfold effPure
      simp only [Op.operands, h1.ev hx, isRef, List.all_cons, List.all_nil, Bool.not_false, Bool.and_self, if_true, execOp, sOf, Option.getD_some]
      rfl
    simp only [he]
    rfl) k
theorem SL_len_rsl {t : TypeId} {x : Operand} {a : Addr} {es cap : Nat} {rows : List (List AV)} {e : TypeId} {ats : Array TypeId} (hd : d < N) (hx : evL G L x = some (.rsl a es cap rows)) (ha : ats[0]? = some t) (ht : P.underlying t = some (.slice e)) (k : SL P G B W ops os ((d, .s (.int .i64 rows.length)) :: L) N ds H Q) :
    SL P G B W ops (⟨some d, .call ⟨.builtin .len, #[x], ats⟩, ty, pos, af, none⟩ :: os) L N ds H Q :=
  SL_val _ hd (fun tm σ h1 h2 => by
    unfold eff
    simp only [effCall, effBuiltin, List.map_cons, List.map_nil, h1.ev hx, effLenOp, isRef, if_true, effLen, ha, Option.bind_some, ht]
    rfl) k
theorem SL_len_sl {t : TypeId} {x : Operand} {o i n : Nat} {cap : Option Nat} {e : TypeId} {ats : Array TypeId} (hd : d < N) (hx : evL G L x = some (.sl o i n cap)) (ha : ats[0]? = some t) (ht : P.underlying t = some (.slice e)) (k : SL P G B W ops os ((d, .s (.int .i64 n)) :: L) N ds H Q) :
    SL P G B W ops (⟨some d, .call ⟨.builtin .len, #[x], ats⟩, ty, pos, af, none⟩ :: os) L N ds H Q :=
  SL_val _ hd (fun tm σ h1 h2 => by
    unfold eff
    simp only [effCall, effBuiltin, List.map_cons, List.map_nil, h1.ev hx, effLenOp, isRef, if_true, effLen, ha, Option.bind_some, ht]
    rfl) k
theorem SL_len_0 {t : TypeId} {x : Operand} {a : Option Addr} {n cap : Nat} {e : TypeId} {ats : Array TypeId} (hd : d < N) (hx : evL G L x = some (.s (.slice a n cap))) (ha : ats[0]? = some t) (ht : P.underlying t = some (.slice e)) (k : SL P G B W ops os ((d, .s (.int .i64 n)) :: L) N ds H Q) :
    SL P G B W ops (⟨some d, .call ⟨.builtin .len, #[x], ats⟩, ty, pos, af, none⟩ :: os) L N ds H Q :=
  SL_val _ hd (fun tm σ h1 h2 => by
    unfold eff
    have he : effPure P ⟨some d, .call ⟨.builtin .len, #[x], ats⟩, ty, pos, af, none⟩ (evT G tm) = some (.s (.int .i64 n)) := by
      unfold effPure
      simp only [Op.operands, Call.operands, h1.ev hx, isRef, List.all_cons, List.all_nil, Bool.not_false, Bool.and_self, List.nil_append, Array.toList_append, if_true]
      have hl : evalP P (Builtin.len_ ats ty #[.slice a n cap]) = some (.int .i64 n) := by
        unfold Builtin.len_
        rw [ha]
        show evalP P (underlying t >>= _) = _
        rw [evalP_bind, evalP_under t ht]
        rfl
      have hx2 : evalP P (execOp (fun x => (sOf (evT G tm x)).getD undef) ⟨some d, .call ⟨.builtin .len, #[x], ats⟩, ty, pos, af, none⟩) = some (.value (.int .i64 n)) := by
        have e1 : execOp (fun x => (sOf (evT G tm x)).getD undef) ⟨some d, .call ⟨.builtin .len, #[x], ats⟩, ty, pos, af, none⟩ = (do pure (Next.value (← Builtin.len_ ats ty #[(sOf (evT G tm x)).getD undef]))) :=
          builtin_v (o := ⟨some d, .call ⟨.builtin .len, #[x], ats⟩, ty, pos, af, none⟩) (c := ⟨.builtin .len, #[x], ats⟩) rfl rfl (by simp [builtin])
        rw [e1, h1.ev hx]
        simp only [sOf, Option.getD_some]
        rw [evalP_bind, hl]
        rfl
      rw [hx2]
    simp only [effCall, effBuiltin, List.map_cons, List.map_nil, h1.ev hx, effLenOp, isRef, he]
    rfl) k

theorem SL_extract_tup {x : Operand} {l : List AV} {i : Nat} {v : AV} (hd : d < N) (hx : evL G L x = some (.tup l)) (hv : l[i]? = some v) (k : SL P G B W ops os ((d, v) :: L) N ds H Q) : SL P G B W ops (⟨some d, .extract x i, ty, pos, af, none⟩ :: os) L N ds H Q :=
  SL_val v hd (fun tm σ h1 h2 => by unfold eff; simp only [effExtract, h1.ev hx, withSt, hv]; rfl) k
theorem SL_extract_s {x : Operand} {vs : Array Value} {i : Nat} {v : Value} (hd : d < N) (hx : evL G L x = some (.s (.tuple vs))) (hv : vs.toList[i]? = some v) (k : SL P G B W ops os ((d, .s v) :: L) N ds H Q) : SL P G B W ops (⟨some d, .extract x i, ty, pos, af, none⟩ :: os) L N ds H Q :=
  SL_val (.s v) hd (fun tm σ h1 h2 => by unfold eff; simp only [effExtract, h1.ev hx, withSt, hv]; rfl) k
theorem fieldAddr_spec {t : TypeId} {f off : Nat} (h : fldOf P t f = some off) (o i g : Nat) : effFieldAddr P t (.ptr o i g) f = some (.ptr o i (g + off)) := by
  unfold fldOf at h
  unfold effFieldAddr
  split at h
  · rename_i fields hu
    rw [hu]
    simp only
    split at h
    · rename_i fd hf
      rw [hf]
      simp only
      split at h
      · rename_i n hs
        cases h
        rw [hs]
      · cases h
    · cases h
  · cases h
theorem fieldAddr_spec' {t : TypeId} {f off : Nat} (h : fldOf P t f = some off) (a : Addr) (es : Nat) (rows : List (List AV)) (i g : Nat) : effFieldAddr P t (.rptr a es rows i g) f = some (.rptr a es rows i (g + off)) := by
  unfold fldOf at h
  unfold effFieldAddr
  split at h
  · rename_i fields hu
    rw [hu]
    simp only
    split at h
    · rename_i fd hf
      rw [hf]
      simp only
      split at h
      · rename_i n hs
        cases h
        rw [hs]
      · cases h
    · cases h
  · cases h
theorem SL_fieldAddr {t : TypeId} {x : Operand} {f off o i g : Nat} (hd : d < N) (hx : evL G L x = some (.ptr o i g)) (ht : fldOf P t f = some off) (k : SL P G B W ops os ((d, .ptr o i (g + off)) :: L) N ds H Q) : SL P G B W ops (⟨some d, .fieldAddr t x f, ty, pos, af, none⟩ :: os) L N ds H Q :=
  SL_val _ hd (fun tm σ h1 h2 => by unfold eff; simp only [withSt, h1.ev hx, fieldAddr_spec ht]; rfl) k
theorem SL_fieldAddr_r {t : TypeId} {x : Operand} {f off i g es : Nat} {a : Addr} {rows : List (List AV)} (hd : d < N) (hx : evL G L x = some (.rptr a es rows i g)) (ht : fldOf P t f = some off) (k : SL P G B W ops os ((d, .rptr a es rows i (g + off)) :: L) N ds H Q) :
    SL P G B W ops (⟨some d, .fieldAddr t x f, ty, pos, af, none⟩ :: os) L N ds H Q :=
  SL_val _ hd (fun tm σ h1 h2 => by unfold eff; simp only [withSt, h1.ev hx, fieldAddr_spec' ht]; rfl) k
theorem SL_indexAddr_r {t e : TypeId} {x ix : Operand} {a : Addr} {es cap : Nat} {rows : List (List AV)} {kk : IntKind} {n : Int} (hd : d < N) (hx : evL G L x = some (.rsl a es cap rows)) (hi : evL G L ix = some (.s (.int kk n))) (ht : sliceOf P t = some (e, es)) (i : Nat) (hn : n = i) (hlt : i < rows.length)
    (k : SL P G B W ops os ((d, .rptr a es rows i 0) :: L) N ds H Q) : SL P G B W ops (⟨some d, .indexAddr t x ix, ty, pos, af, none⟩ :: os) L N ds H Q :=
  SL_val _ hd (fun tm σ h1 h2 => by
    obtain ⟨hu, hs⟩ := sliceOf_spec ht
    unfold eff
    simp only [effIndexAddr, h1.ev hx, h1.ev hi, hu, hs, withSt]
    subst hn
    rw [if_pos ⟨trivial, by omega, by omega⟩]
    simp) k
theorem SL_indexAddr_o {t e e' : TypeId} {x ix : Operand} {id j len : Nat} {cap : Option Nat} {es : Nat} {ex : Bool} {rows : List (List AV)} {kk : IntKind} {n : Int} (hd : d < N) (hx : evL G L x = some (.sl id j len cap)) (hi : evL G L ix = some (.s (.int kk n))) (hm : (id, AObj.cells e' es ex rows) ∈ H) (ht : sliceOf P t = some (e, es))
    (i : Nat) (hn : n = i) (hlt : i < len) (k : SL P G B W ops os ((d, .ptr id (j + i) 0) :: L) N ds H Q) : SL P G B W ops (⟨some d, .indexAddr t x ix, ty, pos, af, none⟩ :: os) L N ds H Q :=
  SL_val _ hd (fun tm σ h1 h2 => by
    obtain ⟨hu, hs⟩ := sliceOf_spec ht
    unfold eff
    simp only [effIndexAddr, h1.ev hx, h1.ev hi, hu, hs, withSt, h2.get _ hm]
    subst hn
    rw [if_pos ⟨trivial, by omega, by omega⟩]
    simp) k

theorem SL_load_r {t : TypeId} {x : Operand} {a : Addr} {es i f : Nat} {rows : List (List AV)} {row : List AV} {v : AV} (hd : d < N) (hx : evL G L x = some (.rptr a es rows i f)) (ht : rowN P t = some none) (hr : rows[i]? = some row) (hv : row[f]? = some v)
    (k : SL P G B W ops os ((d, v) :: L) N ds H Q) : SL P G B W ops (⟨some d, .load t x, ty, pos, af, none⟩ :: os) L N ds H Q :=
  SL_val v hd (fun tm σ h1 h2 => by unfold eff; simp only [effLoad, h1.ev hx, hr, Option.bind_some, readAt_cell ht, hv, withSt]; rfl) k
theorem SL_load_rr {t : TypeId} {x : Operand} {a : Addr} {es i f n : Nat} {rows : List (List AV)} {row : List AV} {v : AV} (hd : d < N) (hx : evL G L x = some (.rptr a es rows i f)) (ht : rowN P t = some (some n)) (hr : rows[i]? = some row) (hf : f + n ≤ row.length) (hv : mkAgg ((row.drop f).take n) = v)
    (k : SL P G B W ops os ((d, v) :: L) N ds H Q) : SL P G B W ops (⟨some d, .load t x, ty, pos, af, none⟩ :: os) L N ds H Q :=
  SL_val v hd (fun tm σ h1 h2 => by unfold eff; simp only [effLoad, h1.ev hx, hr, Option.bind_some, readAt_row ht row f hf, hv, withSt]; rfl) k
theorem rows_of {σ : AS} {id : Nat} {e : TypeId} {es : Nat} {ex : Bool} {rows : List (List AV)} (h : σ.get id = some (.cells e es ex rows)) : σ.rows id = some rows := by unfold AS.rows; rw [h]
theorem SL_load_o {t e : TypeId} {x : Operand} {id es i f : Nat} {ex : Bool} {rows : List (List AV)} {row : List AV} {v : AV} (hd : d < N) (hx : evL G L x = some (.ptr id i f)) (hm : (id, AObj.cells e es ex rows) ∈ H) (ht : rowN P t = some none) (hr : rows[i]? = some row) (hv : row[f]? = some v)
    (k : SL P G B W ops os ((d, v) :: L) N ds H Q) : SL P G B W ops (⟨some d, .load t x, ty, pos, af, none⟩ :: os) L N ds H Q :=
  SL_val v hd (fun tm σ h1 h2 => by unfold eff; simp only [effLoad, h1.ev hx, rows_of (h2.get _ hm), hr, Option.bind_some, readAt_cell ht, hv, withSt]; rfl) k
theorem SL_load_or {t e : TypeId} {x : Operand} {id es i f n : Nat} {ex : Bool} {rows : List (List AV)} {row : List AV} {v : AV} (hd : d < N) (hx : evL G L x = some (.ptr id i f)) (hm : (id, AObj.cells e es ex rows) ∈ H) (ht : rowN P t = some (some n)) (hr : rows[i]? = some row) (hf : f + n ≤ row.length)
    (hv : mkAgg ((row.drop f).take n) = v) (k : SL P G B W ops os ((d, v) :: L) N ds H Q) : SL P G B W ops (⟨some d, .load t x, ty, pos, af, none⟩ :: os) L N ds H Q :=
  SL_val v hd (fun tm σ h1 h2 => by unfold eff; simp only [effLoad, h1.ev hx, rows_of (h2.get _ hm), hr, Option.bind_some, readAt_row ht row f hf, hv, withSt]; rfl) k

theorem SL_store {dst : Option Tmp} {t e : TypeId} {x y : Operand} {id es i f : Nat} {ex : Bool} {rows : List (List AV)} {row cs : List AV} {v : AV} {H' : List (Nat × AObj)} (hd : dst = none) (hx : evL G L x = some (.ptr id i f)) (hy : evL G L y = some v) (hu : Upd H id (.cells e es ex rows) (.cells e es ex (rows.set i (writeRow row f cs))) H')
    (hw : B.next ≤ id ∨ id ∈ W) (hr : rows[i]? = some row) (hc : cellsOf v = cs) (hs : sz P t = some cs.length) (hf : f + cs.length ≤ row.length) (h1c : cs.all isCell = true) (k : SL P G B W ops os L N ds H' Q) :
    SL P G B W ops (⟨dst, .store t x y, ty, pos, af, none⟩ :: os) L N ds H Q := fun tm σ h1 h2 => by
  refine wpl_op rfl ?_
  have he : eff P ⟨dst, .store t x y, ty, pos, af, none⟩ (evT G tm) σ = some (.val uv, σ.set id (.cells e es ex (rows.set i (writeRow row f cs)))) := by
    unfold eff
    simp only [effStore, h1.ev hx, h1.ev hy, h2.get _ hu.mem, hr, hc]
    rw [if_pos (by simp [hs, hf, h1c])]
    rfl
  rw [he]
  subst hd
  exact wpn_val (k _ _ h1 (h2.set hu hw))

theorem SL_new {op : Op} (o : AObj) (v : Nat → AV) (hd : d < N) (he : ∀ tm σ, En tm N L → He B W σ H ds → eff P ⟨some d, op, ty, pos, af, none⟩ (evT G tm) σ = some (.val (v σ.newId), σ.push o)) (k : ∀ id, B.next ≤ id → SL P G B W ops os ((d, v id) :: L) N ds ((id, o) :: H) Q) :
    SL P G B W ops (⟨some d, op, ty, pos, af, none⟩ :: os) L N ds H Q := fun tm σ h1 h2 => by
  refine wpl_op rfl ?_
  rw [he tm σ h1 h2]
  refine wpn_val (k σ.newId ?_ _ _ (h1.set hd _) (h2.push o))
  rw [AS.newId_none h2.slot]; exact h2.le
theorem SL_alloc {t : TypeId} {cs : List AV} (hd : d < N) (ht : zeroOf P t = some cs) (k : ∀ id, B.next ≤ id → SL P G B W ops os ((d, .ptr id 0 0) :: L) N ds ((id, .cells t cs.length true [cs]) :: H) Q) : SL P G B W ops (⟨some d, .alloc t, ty, pos, af, none⟩ :: os) L N ds H Q :=
  SL_new _ (fun id => .ptr id 0 0) hd (fun tm σ h1 h2 => by
    unfold zeroOf at ht
    simp only [Option.map_eq_some_iff] at ht
    obtain ⟨z, hz, rfl⟩ := ht
    unfold eff
    simp only [effAlloc, hz, Option.map_some, effBox]) k
theorem SL_box {t : TypeId} {x : Operand} {v : AV} {cs : List AV} (hd : d < N) (hx : evL G L x = some v) (hc : cellsOf v = cs) (k : ∀ id, B.next ≤ id → SL P G B W ops os ((d, .ptr id 0 0) :: L) N ds ((id, .cells t cs.length true [cs]) :: H) Q) :
    SL P G B W ops (⟨some d, .box t x, ty, pos, af, none⟩ :: os) L N ds H Q :=
  SL_new _ (fun id => .ptr id 0 0) hd (fun tm σ h1 h2 => by
    unfold eff
    simp only [effBox, h1.ev hx, hc]) k
theorem SL_makeSlice {t e : TypeId} {l c : Operand} {es b : Nat} {z : List AV} {kk kk' : IntKind} {n m : Int} (hd : d < N) (hl : evL G L l = some (.s (.int kk n))) (hc : evL G L c = some (.s (.int kk' m))) (ht : elOf P t = some (e, es, b, z)) (h0 : 0 ≤ n) (hnm : n ≤ m) (hm : m < 2 ^ 47) (hb : b * m ≤ 2 ^ 48)
    (k : ∀ id, B.next ≤ id → SL P G B W ops os ((d, .sl id 0 n.toNat none) :: L) N ds ((id, .cells e es true (List.replicate m.toNat z)) :: H) Q) : SL P G B W ops (⟨some d, .makeSlice t l c, ty, pos, af, none⟩ :: os) L N ds H Q :=
  SL_new _ (fun id => .sl id 0 n.toNat none) hd (fun tm σ h1 h2 => by
    obtain ⟨hu, hs, info, zv, hi, hz, hsz, hn, hbb, hzz⟩ := elOf_spec ht
    unfold eff
    simp only [effMakeSlice, h1.ev hl, h1.ev hc, hu, hi, hz]
    rw [if_pos ⟨hsz, h0, hnm, hm, by rw [hbb]; exact hb⟩, hn, hzz]) k

def FnC (P : Program) (G : Gl) (f : FuncId) (as : List AV) (H : List (Nat × AObj)) (R : AV → List (Nat × AObj) → Prop) : Prop :=
  ∀ σ, He σ [] σ H [] → wpf P G f as σ fun v σ' => ∃ Hn, He σ [] σ' Hn [] ∧ (∀ p ∈ Hn, σ.next ≤ p.1) ∧ R v Hn
theorem FnC.mono {f : FuncId} {as : List AV} {H' : List (Nat × AObj)} {R R' : AV → List (Nat × AObj) → Prop} (h : FnC P G f as H' R) (hr : ∀ v Hn, R v Hn → R' v Hn) : FnC P G f as H' R' := fun σ hs => wpf_mono (h σ hs) fun v _σ' ⟨Hn, h1, h2, h3⟩ => ⟨Hn, h1, h2, hr v Hn h3⟩
theorem SL_call {f : Operand} {xs : List Operand} {ats : Array TypeId} {g : FuncId} {first cap : Array Value} {vs as : List AV} {R : AV → List (Nat × AObj) → Prop} {H0 : List (Nat × AObj)} (hd : d < N) (hf : evL G L f = some (.s (.func (.func g) first cap))) (hb : (P.funcs[g]?).map (·.body.isNone) = some false) (hx : evsL G L xs = some vs)
    (has : first.toList.map .s ++ vs ++ cap.toList.map .s = as) (hc : FnC P G g as H0 R) (hs : SubH H0 H) (hn : (H0.map (·.1)).Nodup) (k : ∀ v Hn, (∀ p ∈ Hn, B.next ≤ p.1) → R v Hn → SL P G B W ops os ((d, v) :: L) N ds (Hn ++ H) Q) :
    SL P G B W ops (⟨some d, .call ⟨.value f, xs.toArray, ats⟩, ty, pos, af, none⟩ :: os) L N ds H Q := fun tm σ h1 h2 => by
  refine wpl_op rfl ?_
  have he : eff P ⟨some d, .call ⟨.value f, xs.toArray, ats⟩, ty, pos, af, none⟩ (evT G tm) σ = some (.enter g as, σ) := by
    unfold eff
    have hbl : bodyless P (.s (.func (.func g) first cap)) = false := by
      cases hp : P.funcs[g]? with
      | none => simp only [bodyless, hp]
      | some fn => rw [hp] at hb; simp at hb; simp [bodyless, hp, hb]
    simp only [effCall, h1.ev hf, hbl, Bool.false_eq_true, if_false, h1.evs hx, target, Option.map_some, has]
  rw [he]
  refine wpn_enter (wpf_mono (hc σ (h2.here.sub hs hn)) fun v σ' ⟨Hn, h3, h4, h5⟩ => ?_)
  exact k v Hn (fun p hp => Nat.le_trans h2.le (h4 p hp)) h5 _ _ (h1.set hd v) (h2.trans h3 h4)
end rules

theorem fill_get : ∀ (as : List AV) (tm : Tm) (i : Nat), i + as.length ≤ tm.n → (Tm.fill tm i as).n = tm.n ∧ ∀ j, (Tm.fill tm i as).get j = if i ≤ j then (match as[j - i]? with | some v => v | none => tm.get j) else tm.get j
  | [], tm, i, h => ⟨rfl, fun j => by simp [Tm.fill]⟩
  | a :: as, tm, i, h => by
    simp only [List.length_cons] at h
    obtain ⟨h1, h2⟩ := fill_get as (tm.set i a) (i + 1) (by rw [Tm.n_set]; omega)
    refine ⟨by rw [Tm.fill, h1, Tm.n_set], fun j => ?_⟩
    rw [Tm.fill, h2, Tm.get_set]
    by_cases hj : i + 1 ≤ j
    · have e : j - i = (j - (i + 1)) + 1 := by omega
      have hi : i ≤ j := by omega
      have hne : ¬ (i = j ∧ i < tm.n) := by omega
      simp only [if_pos hj, if_pos hi, if_neg hne]
      rw [e, List.getElem?_cons_succ]
    · simp only [if_neg hj]
      by_cases hij : i = j
      · subst hij
        have hc : i = i ∧ i < tm.n := ⟨rfl, by omega⟩
        rw [if_pos hc, if_pos (Nat.le_refl i), Nat.sub_self]
        rfl
      · have hne : ¬ (i = j ∧ i < tm.n) := fun e => hij e.1
        have hle : ¬ i ≤ j := by omega
        simp only [if_neg hne, if_neg hle]
def argsL : List AV → Nat → List (Nat × AV)
  | [], _ => []
  | a :: r, i => (i, a) :: argsL r (i + 1)
theorem argsL_lk : ∀ (as : List AV) (i j : Nat) (v : AV), lk (argsL as i) j = some v → i ≤ j ∧ as[j - i]? = some v
  | [], i, j, v, h => by cases h
  | a :: as, i, j, v, h => by
    unfold argsL lk at h
    cases hb : Nat.beq i j with
    | true =>
      rw [hb] at h
      cases h
      have := Nat.eq_of_beq_eq_true hb
      subst this
      simp
    | false =>
      rw [hb] at h
      obtain ⟨h1, h2⟩ := argsL_lk as (i + 1) j v h
      refine ⟨by omega, ?_⟩
      have e : j - i = (j - (i + 1)) + 1 := by omega
      rw [e]
      simpa using h2
theorem En.args (as : List AV) (n : Nat) : En (Tm.fill ⟨max as.length n, .e⟩ 0 as) (max as.length n) (argsL as 0) := by
  obtain ⟨h1, h2⟩ := fill_get as ⟨max as.length n, .e⟩ 0 (by simp; omega)
  refine ⟨h1, fun j v hj => ?_⟩
  obtain ⟨_, h3⟩ := argsL_lk as 0 j v hj
  rw [h2, if_pos (Nat.zero_le _)]
  rw [h3]
def resL (L : List (Nat × AV)) : List ResultVar → Option (List AV)
  | [] => some []
  | .tmp t :: r => match lk L t, resL L r with
    | some v, some vs => some (v :: vs)
    | _, _ => none
  | _ :: _ => none
theorem En.res {tm : Tm} {N : Nat} {L : List (Nat × AV)} (h : En tm N L) (σ : AS) : ∀ {rs : List ResultVar} {vs : List AV}, resL L rs = some vs → aresultL P tm σ rs = some vs
  | [], vs, hx => by cases hx; rfl
  | .cell a t :: r, vs, hx => by cases hx
  | .tmp t :: r, vs, hx => by
    unfold resL at hx
    split at hx
    · rename_i v us hv hus
      cases hx
      simp only [aresultL, aresult, h.get _ _ hv, h.res σ hus]
    · cases hx
def Post (P : Program) (B : AS) (fn : Func) (R : AV → List (Nat × AObj) → Prop) (e : AEx) (s : Cfg) : Prop :=
  (e = .normal ∨ e = .ret) ∧ ∃ σ' v, dropDefs s.st s.defs = some σ' ∧ aresults P fn s.tmps σ' = some v ∧ ∃ Hn, He B [] σ' Hn [] ∧ (∀ p ∈ Hn, B.next ≤ p.1) ∧ R v Hn
theorem He.drop {B : AS} {W : List Nat} : ∀ {ds : List Nat} {σ : AS} {H : List (Nat × AObj)}, He B W σ H ds → ∃ σ', dropDefs σ ds = some σ' ∧ He B W σ' H []
  | [], σ, H, h => ⟨σ, rfl, h⟩
  | d :: ds, σ, H, h => by
    have hg := h.dget d (by simp)
    have hlt := AS.lt_of_get hg
    have hdn := h.dnodup
    rw [List.nodup_cons] at hdn
    have h' : He B W (σ.set d .dead) H ds := by
      have hobj : (σ.set d .dead).objs = putObj σ.objs d .dead := rfl
      refine ⟨h.slot, fun j hj => ?_, h.le, h.nodup, fun p hp => ?_, fun j hj hjw => ?_, fun x hx => h.dle x (List.mem_cons_of_mem _ hx), fun x hx => ?_, hdn.2, fun x hx => h.dH x (List.mem_cons_of_mem _ hx)⟩
      · rw [AS.next_set] at hj
        rw [hobj, putObj_get, if_neg (by omega)]
        exact h.fresh j hj
      · have hne : ¬ d = p.1 := fun e => h.dH d (by simp) (List.mem_map.2 ⟨p, hp, e.symm⟩)
        rw [AS.get_set, if_pos (h.lt hp), if_neg hne]
        exact h.get p hp
      · have := h.dle d (by simp)
        rw [hobj, putObj_get, if_neg (by omega)]
        exact h.keep j hj hjw
      · have hne : ¬ d = x := fun e => hdn.1 (e ▸ hx)
        have hgx := h.dget x (List.mem_cons_of_mem _ hx)
        rw [AS.get_set, if_pos (AS.lt_of_get hgx), if_neg hne]
        exact hgx
    obtain ⟨σ', h1, h2⟩ := h'.drop
    exact ⟨σ', by simp only [dropDefs, hg]; exact h1, h2⟩
theorem Post.intro {B : AS} {fn : Func} {R : AV → List (Nat × AObj) → Prop} {e : AEx} {tm : Tm} {N : Nat} {L : List (Nat × AV)} {σ : AS} {H Hn : List (Nat × AObj)} {ds : List Nat} {vs : List AV} (he : e = .normal ∨ e = .ret) (h1 : En tm N L) (h2 : He B [] σ H ds) (hr : resL L fn.results.toList = some vs)
    (hs : SubH Hn H) (hn : (Hn.map (·.1)).Nodup) (hB : ∀ p ∈ Hn, B.next ≤ p.1) (hR : R (tupled vs) Hn) : Post P B fn R e ⟨tm, ds, σ⟩ := by
  obtain ⟨σ', h3, h4⟩ := h2.drop
  exact ⟨he, σ', tupled vs, h3, by unfold aresults; rw [h1.res σ' hr]; rfl, Hn, h4.sub hs hn, hB, hR⟩
theorem Fn_body {f : FuncId} {as : List AV} {fn : Func} {c : Code} {H : List (Nat × AObj)} {R : AV → List (Nat × AObj) → Prop} (ho : G.orc f as = none) (hf : P.funcs[f]? = some fn) (hb : fn.body = some c) {N : Nat} (hN : max as.length fn.ntmps = N)
    (h : ∀ B, SC P G B [] none c (argsL as 0) N [] H (Post P B fn R)) : FnC P G f as H R := fun σ hs => by
  refine wpf_body ho hf hb ?_
  rw [hN]
  refine wpc_mono (h σ _ σ (hN ▸ En.args as fn.ntmps) hs) fun e s ⟨h1, σ', v, h2, h3, Hn, h4, h5, h6⟩ => ?_
  exact ⟨h1, σ', v, h2, h3, Hn, h4, h5, h6⟩
theorem Fn_orc {f : FuncId} {as : List AV} {v : AV} {H : List (Nat × AObj)} {R : AV → List (Nat × AObj) → Prop} (ho : G.orc f as = some (fun σ => some (v, σ))) (hR : R v []) : FnC P G f as H R := fun σ hs =>
  wpf_orc ho rfl ⟨[], hs.sub trivial List.nodup_nil, (fun p hp => by cases hp), hR⟩
end Go.Ab
/- Symbolic steps: slices that came in, seen as lists. -/
namespace Go.Ab
variable {P : Program} {G : Gl}

inductive SlV (es : Nat) : AV → List (List AV) → Prop
  | nil {a : Option Addr} {cap : Nat} : SlV es (.s (.slice a 0 cap)) []
  | rsl {a : Addr} {cap : Nat} {rows : List (List AV)} (h : 0 < rows.length) : SlV es (.rsl a es cap rows) rows

section rules
variable {B : AS} {W : List Nat} {ops : Array Oper} {os : List Oper} {L : List (Nat × AV)} {N : Nat} {ds : List Nat} {H : List (Nat × AObj)} {Q : Cfg → Prop} {ty : TypeId} {pos : String} {af : Array Edge} {d : Nat}
theorem SL_len_v {t e : TypeId} {x : Operand} {es n : Nat} {a : AV} {rows : List (List AV)} {ats : Array TypeId} (hd : d < N) (hx : evL G L x = some a) (hv : SlV es a rows) (ha : ats[0]? = some t) (ht : sliceOf P t = some (e, es)) (hn : rows.length = n) (k : SL P G B W ops os ((d, .s (.int .i64 n)) :: L) N ds H Q) :
    SL P G B W ops (⟨some d, .call ⟨.builtin .len, #[x], ats⟩, ty, pos, af, none⟩ :: os) L N ds H Q := by
  subst hn
  cases hv with
  | nil => exact SL_len_0 hd hx ha (sliceOf_spec ht).1 k
  | rsl h => exact SL_len_rsl hd hx ha (sliceOf_spec ht).1 k
theorem SL_indexAddr_v {t e : TypeId} {x ix : Operand} {a : AV} {es : Nat} {rows : List (List AV)} {kk : IntKind} {n : Int} (hd : d < N) (hx : evL G L x = some a) (hi : evL G L ix = some (.s (.int kk n))) (hv : SlV es a rows) (ht : sliceOf P t = some (e, es)) (i : Nat) (hn : n = i) (hlt : i < rows.length)
    (k : ∀ ad, SL P G B W ops os ((d, .rptr ad es rows i 0) :: L) N ds H Q) : SL P G B W ops (⟨some d, .indexAddr t x ix, ty, pos, af, none⟩ :: os) L N ds H Q := by
  cases hv with
  | nil => cases hlt
  | rsl h => exact SL_indexAddr_r hd hx hi ht i hn hlt (k _)
end rules


end Go.Ab
/- Symbolic steps: regions that draw their order but read only (and store); calls that turn old objects; ranges over functions; appends. -/
namespace Go.Ab
variable {P : Program} {G : Gl}

def isStore (o : Oper) : Bool := match o.op with
  | .store .. => true
  | _ => false
def plainDraw (l : List Oper) : Bool := drawnOk l.toArray && (plan l.toArray == (List.range l.length).map fun i => (i, [])) && l.all fun o => (cls o == 0 || cls o == 1 || isStore o) && !isConv o

theorem resO_slot {ex : Runner} {ops : Array Oper} {o : Oper} {tm : Tm} {σ σ' : AS} {v : AV} (hc : cls o = 0 ∨ cls o = 1 ∨ isStore o = true) (hs : σ.slot = none) (h : resO P G ex ops o tm σ = some (v, σ')) : σ'.slot = none := by
  unfold resO at h
  split at h
  · cases he : eff P o (evT G tm) σ with
    | none => rw [he] at h; cases h
    | some x =>
      obtain ⟨r, σ₁⟩ := x
      rw [he] at h
      rcases hc with hc | hc | hc
      · obtain ⟨rfl, ⟨u, rfl⟩, _⟩ := eff0 hc he
        simp only [resNext, Option.some.injEq, Prod.mk.injEq] at h
        rw [← h.2]; exact hs
      · obtain ⟨rfl, ⟨u, rfl⟩, _⟩ := eff1 hc he
        simp only [resNext, Option.some.injEq, Prod.mk.injEq] at h
        rw [← h.2]; exact hs
      · unfold isStore at hc
        split at hc
        · rename_i t a b ho
          unfold eff at he
          rw [ho] at he
          simp only [Option.map_eq_some_iff, Prod.mk.injEq] at he
          obtain ⟨σ₂, h1, rfl, rfl⟩ := he
          simp only [resNext, Option.some.injEq, Prod.mk.injEq] at h
          rw [← h.2]
          cases ha : evT G tm a <;> rw [ha] at h1 <;> simp only [effStore] at h1 <;> try (cases h1; done)
          split at h1
          · split at h1
            · split at h1
              · cases h1; exact hs
              · cases h1
            · cases h1
          · cases h1
        · cases hc
  · cases h; exact hs

theorem lateOk_not {o : Oper} {base i : Nat} {ops : Array Oper} {sn : Option Seen} (h : isConv o = false) : lateOk false base ops i o sn = true := by
  unfold lateOk; rw [if_neg (by simp [h]), if_neg (by simp)]
theorem runL_runD {ex : Runner} {base : Nat} {l : List Oper} (hnc : ∀ o ∈ l, isConv o = false) (hall : ∀ o ∈ l, cls o = 0 ∨ cls o = 1 ∨ isStore o = true) : ∀ (rest : List Oper) (k : Nat) (tm : Tm) (defs : List Nat) (σ : AS) (s' : Cfg) (rc : Rec), l.drop k = rest → σ.slot = none → runL P G ex l.toArray rest ⟨tm, defs, σ⟩ = some s' →
    runD P G ex false base l.toArray ((List.range' k rest.length).map fun i => (i, [])) ⟨tm, defs, σ⟩ rc = some s'
  | [], k, tm, defs, σ, s', rc, hd, hs, h => h
  | o :: rest, k, tm, defs, σ, s', rc, hd, hs, h => by
    have hget : l[k]? = some o := by
      have := congrArg (·[0]?) hd
      simpa using this
    have hrest : l.drop (k + 1) = rest := by
      have := congrArg List.tail hd
      simpa using this
    have hmem : o ∈ l := List.mem_of_getElem? hget
    have hc3 : cls o ≠ 3 := by
      rcases hall o hmem with h1 | h1 | h1
      · omega
      · omega
      · unfold isStore at h1
        split at h1
        · rename_i ho; unfold cls; rw [ho]; simp
        · cases h1
    simp only [runL, stepO] at h
    rw [List.length_cons, List.range'_succ, List.map_cons]
    simp only [runD, stepD]
    have hg' : l.toArray[k]? = some o := by simpa using hget
    rw [hg']
    simp only
    cases hr : resO P G ex l.toArray o tm σ with
    | none => rw [hr] at h; cases h
    | some x =>
      obtain ⟨v, σ₁⟩ := x
      rw [hr] at h
      simp only [stepVal] at h
      have hs1 := resO_slot (hall o hmem) hs hr
      have hx : resX P G ex base l.toArray k o tm σ = some (v, σ₁) := by
        obtain ⟨a, b, c⟩ := σ
        simp only at hs; subst hs
        rw [resX_plain hc3, hr]
        obtain ⟨a1, b1, c1⟩ := σ₁
        simp only at hs1; subst hs1
        rfl
      rw [hx]
      have hst : stands rc σ₁ [] = true := rfl
      simp only [hst, lateOk_not (hnc o hmem), Bool.and_self, if_true]
      exact runL_runD hnc hall rest (k + 1) _ _ _ _ _ hrest hs1 h

theorem He.bump {B σ : AS} {W : List Nat} {H : List (Nat × AObj)} {ds : List Nat} (h : He B W σ H ds) (m : Nat) : He B W ⟨σ.objs, σ.next + m, none⟩ H ds := by
  have hget : ∀ id, id < σ.next → (⟨σ.objs, σ.next + m, none⟩ : AS).get id = σ.get id := fun id hid => by
    obtain ⟨a, b, c⟩ := σ
    exact AS.get_bump hid
  exact ⟨rfl, fun id hid => h.fresh id (Nat.le_trans (Nat.le_add_right _ _) hid), Nat.le_trans h.le (Nat.le_add_right _ _), h.nodup, fun p hp => by rw [hget _ (h.lt hp)]; exact h.get p hp, h.keep, h.dle,
    fun d hd => by rw [hget _ (AS.lt_of_get (h.dget d hd))]; exact h.dget d hd, h.dnodup, h.dH⟩

section
variable {B : AS} {W : List Nat} {rd : Option Nat} {L : List (Nat × AV)} {N : Nat} {ds : List Nat} {H : List (Nat × AObj)} {Q : AEx → Cfg → Prop}
theorem SC_draw {id : Nat} {l : List Oper} (hp : plainDraw l = true) (h : SL P G B W l.toArray l L N ds H (fun s => Q .normal s)) : SC P G B W rd (.region id l.toArray true) L N ds H Q := by
  unfold plainDraw at hp
  simp only [Bool.and_eq_true, beq_iff_eq, List.all_eq_true, Bool.or_eq_true, Bool.not_eq_true'] at hp
  obtain ⟨⟨hok, hpl⟩, hall⟩ := hp
  intro tm σ h1 h2
  refine wpc_draw hok hpl ?_
  have hsz : l.toArray.size = l.length := by simp
  obtain ⟨n, s', h3, h4⟩ := h tm _ h1 (h2.bump l.toArray.size)
  refine ⟨n, s', ?_, h4⟩
  have hall2 : ∀ o ∈ l, cls o = 0 ∨ cls o = 1 ∨ isStore o = true := fun o ho => (hall o ho).1.elim (fun h => h.elim .inl (fun h => .inr (.inl h))) (fun h => .inr (.inr h))
  have := runL_runD (base := σ.next) (fun o ho => (hall o ho).2) hall2 l 0 tm ds ⟨σ.objs, σ.next + l.toArray.size, none⟩ s' (fun _ => none) rfl rfl h3
  rw [List.range_eq_range']
  exact this
end

theorem He.transW {B σ σ' : AS} {W M : List Nat} {H Hr Hn : List (Nat × AObj)} {ds : List Nat} (h : He B W σ H ds) (h' : He σ M σ' Hn []) (hM : ∀ id ∈ M, (B.next ≤ id ∨ id ∈ W) ∧ id ∈ H.map (·.1)) (hn : ∀ p ∈ Hn, p.1 ∈ M ∨ σ.next ≤ p.1) (hs : SubH Hr H) (hrn : (Hr.map (·.1)).Nodup) (hr : ∀ p ∈ Hr, p.1 ∉ M) :
    He B W σ' (Hn ++ Hr) ds := by
  have keep : ∀ id, id < σ.next → id ∉ M → σ'.get id = σ.get id := fun id hid hm => by
    have hk := h'.keep id hid hm
    unfold AS.get
    rw [if_pos hid, if_pos (Nat.lt_of_lt_of_le hid h'.le), hk]
  have hsub := hs.mem
  refine ⟨h'.slot, h'.fresh, Nat.le_trans h.le h'.le, ?_, ?_, fun id hid hw => ?_, h.dle, fun d hd => ?_, h.dnodup, ?_⟩
  · rw [List.map_append, List.nodup_append]
    refine ⟨h'.nodup, hrn, fun a ha b hb e => ?_⟩
    obtain ⟨p, hp, hpe⟩ := List.mem_map.1 ha
    obtain ⟨q, hq, hqe⟩ := List.mem_map.1 hb
    have h1 := hn p hp
    have h2 := h.lt (hsub q hq)
    have h3 := hr q hq
    rcases h1 with h1 | h1
    · exact h3 (by rw [hqe, ← e, ← hpe]; exact h1)
    · omega
  · intro p hp
    rcases List.mem_append.1 hp with hp | hp
    · exact h'.get p hp
    · rw [keep _ (h.lt (hsub p hp)) (hr p hp)]; exact h.get p (hsub p hp)
  · rw [h'.keep id (Nat.lt_of_lt_of_le hid h.le) (fun hm => by
      rcases (hM id hm).1 with h1 | h1
      · omega
      · exact hw h1)]
    exact h.keep id hid hw
  · rw [keep d (AS.lt_of_get (h.dget d hd)) (fun hm => h.dH d hd (hM d hm).2)]; exact h.dget d hd
  · intro d hd hm
    rw [List.map_append, List.mem_append] at hm
    rcases hm with hm | hm
    · obtain ⟨p, hp, hpe⟩ := List.mem_map.1 hm
      have h2 := AS.lt_of_get (h.dget d hd)
      rcases hn p hp with h1 | h1
      · exact h.dH d hd (by rw [← hpe]; exact (hM _ h1).2)
      · omega
    · obtain ⟨p, hp, hpe⟩ := List.mem_map.1 hm
      exact h.dH d hd (List.mem_map.2 ⟨p, hsub p hp, hpe⟩)
theorem He.startW {σ : AS} {B : AS} {W M : List Nat} {H H0 : List (Nat × AObj)} {ds : List Nat} (h : He B W σ H ds) (hs : SubH H0 H) (hn : (H0.map (·.1)).Nodup) : He σ M σ H0 [] :=
  ⟨h.slot, h.fresh, Nat.le_refl _, hn, fun p hp => h.get p (hs.mem p hp), fun _ _ _ => rfl, (fun d hd => by cases hd), (fun d hd => by cases hd), List.nodup_nil, (fun d hd => by cases hd)⟩

def FnW (P : Program) (G : Gl) (f : FuncId) (xs : List AV) (M : List Nat) (H : List (Nat × AObj)) (R : AV → List (Nat × AObj) → Prop) : Prop :=
  ∀ σ, He σ M σ H [] → wpf P G f xs σ fun v σ' => ∃ Hn, He σ M σ' Hn [] ∧ (∀ p ∈ Hn, p.1 ∈ M ∨ σ.next ≤ p.1) ∧ R v Hn
def RdW (P : Program) (G : Gl) (l : Nat) (xs : List AV) (M : List Nat) (H : List (Nat × AObj)) (R : AV → List (Nat × AObj) → Prop) : Prop :=
  ∀ σ, He σ M σ H [] → wpy P G l xs σ fun v σ' => ∃ Hn, He σ M σ' Hn [] ∧ (∀ p ∈ Hn, p.1 ∈ M ∨ σ.next ≤ p.1) ∧ R v Hn
def MOk (B : AS) (W M : List Nat) (H : List (Nat × AObj)) : Prop := ∀ id ∈ M, (B.next ≤ id ∨ id ∈ W) ∧ id ∈ H.map (·.1)

section rules
variable {B : AS} {W : List Nat} {ops : Array Oper} {os : List Oper} {L : List (Nat × AV)} {N : Nat} {ds : List Nat} {H : List (Nat × AObj)} {Q : Cfg → Prop} {ty : TypeId} {pos : String} {af : Array Edge} {d : Nat}
theorem SL_yield {f : Operand} {xs : List Operand} {ats : Array TypeId} {l : Nat} {vs : List AV} {M : List Nat} {R : AV → List (Nat × AObj) → Prop} {H0 Hr : List (Nat × AObj)} (hd : d < N) (hf : evL G L f = some (.yld l)) (hx : evsL G L xs = some vs) (hc : RdW P G l vs M H0 R)
    (hs : SubH H0 H) (hn : (H0.map (·.1)).Nodup) (hM : MOk B W M H) (hr : SubH Hr H) (hrn : (Hr.map (·.1)).Nodup) (hrm : ∀ p ∈ Hr, p.1 ∉ M) (k : ∀ v Hn, R v Hn → SL P G B W ops os ((d, v) :: L) N ds (Hn ++ Hr) Q) :
    SL P G B W ops (⟨some d, .call ⟨.value f, xs.toArray, ats⟩, ty, pos, af, none⟩ :: os) L N ds H Q := fun tm σ h1 h2 => by
  refine wpl_op rfl ?_
  have he : eff P ⟨some d, .call ⟨.value f, xs.toArray, ats⟩, ty, pos, af, none⟩ (evT G tm) σ = some (.round l vs, σ) := by
    unfold eff
    simp only [effCall, h1.ev hf, bodyless, Bool.false_eq_true, if_false, h1.evs hx, target, Option.map_some]
  rw [he]
  refine wpn_round (wpy_mono (hc σ (h2.startW hs hn)) fun v σ' ⟨Hn, h3, h4, h5⟩ => ?_)
  exact k v Hn h5 _ _ (h1.set hd v) (h2.transW h3 hM h4 hr hrn hrm)
theorem SL_load_ob {t e : TypeId} {x : Operand} {id es i f : Nat} {ex : Bool} {rows : List (List AV)} {row : List AV} {b : Bool} (hd : d < N) (hx : evL G L x = some (.ptr id i f)) (hm : (id, AObj.cells e es ex rows) ∈ H) (ht : rowN P t = some none) (hr : rows[i]? = some row) (hv : row[f]? = some (.s (.bool b)))
    (kt : b = true → SL P G B W ops os ((d, .s (.bool true)) :: L) N ds H Q) (kf : b = false → SL P G B W ops os ((d, .s (.bool false)) :: L) N ds H Q) : SL P G B W ops (⟨some d, .load t x, ty, pos, af, none⟩ :: os) L N ds H Q := by
  cases b with
  | true => exact SL_load_o hd hx hm ht hr hv (kt rfl)
  | false => exact SL_load_o hd hx hm ht hr hv (kf rfl)
theorem SL_store_box {t e : TypeId} {x y : Operand} {id es : Nat} {ex : Bool} {row cs : List AV} {v : AV} {H' : List (Nat × AObj)} (hx : evL G L x = some (.ptr id 0 0)) (hy : evL G L y = some v) (hc : cellsOf v = cs) (hu : Upd H id (.cells e es ex [row]) (.cells e es ex [cs]) H')
    (hw : B.next ≤ id ∨ id ∈ W) (hl : cs.length = row.length) (hs : sz P t = some cs.length) (h1c : cs.all isCell = true) (k : SL P G B W ops os L N ds H' Q) : SL P G B W ops (⟨none, .store t x y, ty, pos, af, none⟩ :: os) L N ds H Q := by
  have hwr : writeRow row 0 cs = cs := by simp [writeRow, hl]
  refine SL_store (i := 0) (f := 0) rfl hx hy (rows := [row]) (row := row) (cs := cs) (by simpa [hwr] using hu) hw rfl hc hs (by omega) h1c k
theorem SL_indexAddr_0 {t e e' : TypeId} {x ix : Operand} {id len : Nat} {cap : Option Nat} {es : Nat} {ex : Bool} {rows : List (List AV)} {kk : IntKind} {n : Int} (hd : d < N) (hx : evL G L x = some (.sl id 0 len cap)) (hi : evL G L ix = some (.s (.int kk n))) (hm : (id, AObj.cells e' es ex rows) ∈ H) (ht : sliceOf P t = some (e, es))
    (i : Nat) (hn : n = i) (hlt : i < len) (k : SL P G B W ops os ((d, .ptr id i 0) :: L) N ds H Q) : SL P G B W ops (⟨some d, .indexAddr t x ix, ty, pos, af, none⟩ :: os) L N ds H Q :=
  SL_indexAddr_o hd hx hi hm ht i hn hlt (by rw [Nat.zero_add]; exact k)
theorem SL_notu {op : Op} {j t : Nat} {want : Bool} (hj : (ops[j]?).bind (·.dst) = some t) (ht : lk L t = some uv) (hd : d < N) (k : SL P G B W ops os ((d, uv) :: L) N ds H Q) :
    SL P G B W ops (⟨some d, op, ty, pos, af, some (j, want)⟩ :: os) L N ds H Q := fun tm σ h1 h2 => by
  refine wpl_not ?_ (k _ σ (h1.set hd uv) h2)
  simp only [Region.wanted, ayielded, hj, h1.get _ _ ht]
  cases want <;> rfl
theorem SL_store_n {t e : TypeId} {x y : Operand} {id es i f : Nat} {ex : Bool} {rows rows' : List (List AV)} {row cs : List AV} {v : AV} {H' : List (Nat × AObj)} (hx : evL G L x = some (.ptr id i f)) (hy : evL G L y = some v) (_hm : (id, AObj.cells e es ex rows) ∈ H) (hr : rows[i]? = some row) (hc : cellsOf v = cs)
    (hset : rows.set i (writeRow row f cs) = rows') (hu : Upd H id (.cells e es ex rows) (.cells e es ex rows') H') (hw : B.next ≤ id ∨ id ∈ W) (hs : sz P t = some cs.length) (hf : f + cs.length ≤ row.length) (h1c : cs.all isCell = true) (k : SL P G B W ops os L N ds H' Q) :
    SL P G B W ops (⟨none, .store t x y, ty, pos, af, none⟩ :: os) L N ds H Q := by
  subst hset
  exact SL_store rfl hx hy hu hw hr hc hs hf h1c k
theorem SL_makeFunc {fn : Fn} {first cap : Array Operand} {vs ws : List AV} (hd : d < N) (hx : evsL G L first.toList = some vs) (hy : evsL G L cap.toList = some ws) (k : SL P G B W ops os ((d, mkFn fn vs ws) :: L) N ds H Q) : SL P G B W ops (⟨some d, .makeFunc fn first cap, ty, pos, af, none⟩ :: os) L N ds H Q :=
  SL_val _ hd (fun tm σ h1 h2 => by unfold eff; simp only [h1.evs hx, h1.evs hy]) k
def partsL (G : Gl) (L : List (Nat × AV)) : List (Nat × Operand) → Option (List (Nat × AV))
  | [] => some []
  | p :: r => match evL G L p.2, partsL G L r with
    | some v, some vs => some ((p.1, v) :: vs)
    | _, _ => none
theorem En.parts {tm : Tm} (h : En tm N L) : ∀ {xs : List (Nat × Operand)} {vs : List (Nat × AV)}, partsL G L xs = some vs → xs.map (fun p => (p.1, evT G tm p.2)) = vs
  | [], vs, hx => by cases hx; rfl
  | p :: r, vs, hx => by
    unfold partsL at hx
    split at hx
    · rename_i v us hv hus
      cases hx
      rw [List.map_cons, h.ev hv, h.parts hus]
    · cases hx
theorem SL_build {t : TypeId} {ps : Array (Nat × Operand)} {vs : List (Nat × AV)} {v : AV} (hd : d < N) (hx : partsL G L ps.toList = some vs) (hv : effBuild P t vs = some v) (k : SL P G B W ops os ((d, v) :: L) N ds H Q) : SL P G B W ops (⟨some d, .build t ps, ty, pos, af, none⟩ :: os) L N ds H Q :=
  SL_val v hd (fun tm σ h1 h2 => by unfold eff; simp only [h1.parts hx, hv]; rfl) k
theorem SL_buildSlice {t e : TypeId} {len es b : Nat} {z : List AV} {ps : Array (Nat × Operand)} {vs : List (Nat × AV)} {rows : List (List AV)} (hd : d < N) (hx : partsL G L ps.toList = some vs) (ht : elOf P t = some (e, es, b, z)) (hb : len * es ≤ 2 ^ 24) (hr : setRows es (List.replicate len z) vs = some rows)
    (k : ∀ id, B.next ≤ id → SL P G B W ops os ((d, .sl id 0 len none) :: L) N ds ((id, .cells e es true rows) :: H) Q) : SL P G B W ops (⟨some d, .buildSlice t len ps, ty, pos, af, none⟩ :: os) L N ds H Q :=
  SL_new _ (fun id => .sl id 0 len none) hd (fun tm σ h1 h2 => by
    obtain ⟨hu, hs, info, zv, hi, hz, hsz, hn, hbb, hzz⟩ := elOf_spec ht
    subst hn hzz
    unfold eff
    simp only [effBuildSlice, h1.parts hx, hu, hi, hz]
    rw [if_pos ⟨hsz, hb⟩, hr]) k

theorem append_src {t _tx e : TypeId} {es b : Nat} {z : List AV} (_ht : elOf P t = some (e, es, b, z)) {tx : TypeId} {e' : TypeId} (_htx : P.underlying tx = some (.slice e')) : True := trivial
theorem SL_append_nil {t tx e e' ee : TypeId} {s x : Operand} {es b i n id0 : Nat} {cap : Option Nat} {ex : Bool} {z : List AV} {rows news : List (List AV)} (hd : d < N) (hs : evL G L s = some (.s (.slice none 0 0))) (hx : evL G L x = some (.sl id0 i n cap)) (hm : (id0, AObj.cells ee es ex rows) ∈ H)
    (ht : elOf P t = some (e, es, b, z)) (htx : P.underlying tx = some (.slice e')) (hle : i + n ≤ rows.length) (hnews : (rows.drop i).take n = news) (hc : news.all (·.all isCell) = true) (hn : news.length ≠ 0) (hb1 : (2 * news.length + 192) * b ≤ 2 ^ 48) (hb2 : news.length < 2 ^ 62)
    (k : ∀ id, B.next ≤ id → SL P G B W ops os ((d, .sl id 0 news.length none) :: L) N ds ((id, .cells e es false news) :: H) Q) :
    SL P G B W ops (⟨some d, .call ⟨.builtin .append, #[s, x], #[t, tx]⟩, ty, pos, af, none⟩ :: os) L N ds H Q :=
  SL_new _ (fun id => .sl id 0 news.length none) hd (fun tm σ h1 h2 => by
    obtain ⟨hu, hsz0, info, zv, hi, hz, hsz, hnn, hbb, hzz⟩ := elOf_spec ht
    subst hnn hzz hbb
    have hsrc : appRows info (.sl id0 i n cap) σ = some news := by
      simp only [appRows, srcRows, h2.get _ hm]
      rw [if_pos ⟨trivial, hle⟩, hnews]
    unfold eff
    simp only [effCall, effBuiltin, List.map_cons, List.map_nil, h1.ev hs, h1.ev hx, effAppend, srcOk, htx, hu, hi, hz, hsrc, if_true]
    rw [if_pos ⟨hsz, hc⟩, if_neg hn, if_pos (by simp only [List.length_nil, Nat.zero_add]; exact ⟨hb1, hb2⟩)]
    simp only [List.length_nil, Nat.zero_add, List.nil_append]) k
theorem SL_append_nil_r {t tx e e' : TypeId} {s x : Operand} {es b cap : Nat} {ad : Addr} {z : List AV} {news : List (List AV)} (hd : d < N) (hs : evL G L s = some (.s (.slice none 0 0))) (hx : evL G L x = some (.rsl ad es cap news))
    (ht : elOf P t = some (e, es, b, z)) (htx : P.underlying tx = some (.slice e')) (hc : news.all (·.all isCell) = true) (hn : news.length ≠ 0) (hb1 : (2 * news.length + 192) * b ≤ 2 ^ 48) (hb2 : news.length < 2 ^ 62)
    (k : ∀ id, B.next ≤ id → SL P G B W ops os ((d, .sl id 0 news.length none) :: L) N ds ((id, .cells e es false news) :: H) Q) :
    SL P G B W ops (⟨some d, .call ⟨.builtin .append, #[s, x], #[t, tx]⟩, ty, pos, af, none⟩ :: os) L N ds H Q :=
  SL_new _ (fun id => .sl id 0 news.length none) hd (fun tm σ h1 h2 => by
    obtain ⟨hu, hsz0, info, zv, hi, hz, hsz, hnn, hbb, hzz⟩ := elOf_spec ht
    subst hnn hzz hbb
    have hsrc : appRows info (.rsl ad info.size cap news) σ = some news := by
      simp only [appRows, srcRows, if_true]
    unfold eff
    simp only [effCall, effBuiltin, List.map_cons, List.map_nil, h1.ev hs, h1.ev hx, effAppend, srcOk, htx, hu, hi, hz, hsrc, if_true]
    rw [if_pos ⟨hsz, hc⟩, if_neg hn, if_pos (by simp only [List.length_nil, Nat.zero_add]; exact ⟨hb1, hb2⟩)]
    simp only [List.length_nil, Nat.zero_add, List.nil_append]) k
theorem SL_append_nil_nil {t tx e e' : TypeId} {s x : Operand} {es b cap : Nat} {ad : Option Addr} {z : List AV} (hd : d < N) (hs : evL G L s = some (.s (.slice none 0 0))) (hx : evL G L x = some (.s (.slice ad 0 cap)))
    (ht : elOf P t = some (e, es, b, z)) (htx : P.underlying tx = some (.slice e'))
    (k : SL P G B W ops os ((d, .s (.slice none 0 0)) :: L) N ds H Q) :
    SL P G B W ops (⟨some d, .call ⟨.builtin .append, #[s, x], #[t, tx]⟩, ty, pos, af, none⟩ :: os) L N ds H Q :=
  SL_val _ hd (fun tm σ h1 h2 => by
    obtain ⟨hu, hsz0, info, zv, hi, hz, hsz, hnn, hbb, hzz⟩ := elOf_spec ht
    subst hnn hzz hbb
    have hsrc : appRows info (.s (.slice ad 0 cap)) σ = some [] := by
      cases ad <;> simp only [appRows, srcRows]
    unfold eff
    simp only [effCall, effBuiltin, List.map_cons, List.map_nil, h1.ev hs, h1.ev hx, effAppend, srcOk, htx, hu, hi, hz, hsrc, if_true]
    rw [if_pos ⟨hsz, by simp⟩, if_pos (by simp)]) k
theorem SL_append_own {t tx e e' ee : TypeId} {s x : Operand} {es b i n id0 o len : Nat} {cap : Option Nat} {ex : Bool} {z : List AV} {rows news old : List (List AV)} {H' : List (Nat × AObj)} (hd : d < N) (hs : evL G L s = some (.sl o 0 len none)) (hx : evL G L x = some (.sl id0 i n cap)) (hu : Upd H o (.cells e es false old) .dead H')
    (hlen : len = old.length) (ho : B.next ≤ o ∨ o ∈ W) (hm : (id0, AObj.cells ee es ex rows) ∈ H)
    (ht : elOf P t = some (e, es, b, z)) (htx : P.underlying tx = some (.slice e')) (hle : i + n ≤ rows.length) (hnews : (rows.drop i).take n = news) (hc : news.all (·.all isCell) = true) (hn : news.length ≠ 0) (hb1 : (2 * (len + news.length) + 192) * b ≤ 2 ^ 48) (hb2 : len + news.length < 2 ^ 62)
    (k : ∀ id, B.next ≤ id → SL P G B W ops os ((d, .sl id 0 (len + news.length) none) :: L) N ds ((id, .cells e es false (old ++ news)) :: H') Q) :
    SL P G B W ops (⟨some d, .call ⟨.builtin .append, #[s, x], #[t, tx]⟩, ty, pos, af, none⟩ :: os) L N ds H Q := fun tm σ h1 h2 => by
  refine wpl_op rfl ?_
  have he : eff P ⟨some d, .call ⟨.builtin .append, #[s, x], #[t, tx]⟩, ty, pos, af, none⟩ (evT G tm) σ = some (.val (.sl σ.newId 0 (len + news.length) none), (σ.set o .dead).push (.cells e es false (old ++ news))) := by
    obtain ⟨hun, hsz0, info, zv, hi, hz, hsz, hnn, hbb, hzz⟩ := elOf_spec ht
    subst hnn hzz hbb
    have hsrc : appRows info (.sl id0 i n cap) σ = some news := by
      simp only [appRows, srcRows, h2.get _ hm]
      rw [if_pos ⟨trivial, hle⟩, hnews]
    unfold eff
    simp only [effCall, effBuiltin, List.map_cons, List.map_nil, h1.ev hs, h1.ev hx, effAppend, srcOk, htx, hun, hi, hz, hsrc, if_true, h2.get _ hu.mem]
    rw [if_pos ⟨hsz, hc⟩, if_pos ⟨trivial, by omega⟩, if_neg hn, if_neg (by omega), if_pos ⟨trivial, hlen, trivial, hb1, hb2⟩]
  rw [he]
  have h3 := (h2.set hu ho).push (.cells e es false (old ++ news))
  rw [AS.newId_set] at h3
  refine wpn_val (k σ.newId ?_ _ _ (h1.set hd _) h3)
  rw [AS.newId_none h2.slot]; exact h2.le
theorem SL_build1 {t e : TypeId} {es b : Nat} {z : List AV} {x : Operand} {v : AV} (hd : d < N) (hx : evL G L x = some v) (ht : elOf P t = some (e, es, b, z)) (hc : cellsOf v = [v]) (he : es = 1) (k : ∀ id, B.next ≤ id → SL P G B W ops os ((d, .sl id 0 1 none) :: L) N ds ((id, .cells e es true [[v]]) :: H) Q) :
    SL P G B W ops (⟨some d, .buildSlice t 1 #[(0, x)], ty, pos, af, none⟩ :: os) L N ds H Q := by
  subst he
  refine SL_buildSlice (vs := [(0, v)]) hd (by simp only [partsL, hx]) ht (by decide) ?_ k
  simp [setRows, hc]
theorem SL_append1_nil {t tx e e' ee : TypeId} {s x : Operand} {es b id0 : Nat} {cap : Option Nat} {ex : Bool} {z : List AV} {row : List AV} (hd : d < N) (hs : evL G L s = some (.s (.slice none 0 0))) (hx : evL G L x = some (.sl id0 0 1 cap)) (hm : (id0, AObj.cells ee es ex [row]) ∈ H)
    (ht : elOf P t = some (e, es, b, z)) (htx : P.underlying tx = some (.slice e')) (hc : row.all isCell = true) (hb1 : 194 * b ≤ 2 ^ 48)
    (k : ∀ id, B.next ≤ id → SL P G B W ops os ((d, .sl id 0 1 none) :: L) N ds ((id, .cells e es false [row]) :: H) Q) :
    SL P G B W ops (⟨some d, .call ⟨.builtin .append, #[s, x], #[t, tx]⟩, ty, pos, af, none⟩ :: os) L N ds H Q :=
  SL_append_nil (news := [row]) hd hs hx hm ht htx (by simp) rfl (by simp [hc]) (by simp) (by simpa using hb1) (show 1 < 2 ^ 62 by decide) k
theorem SL_append1_own {t tx e e' ee : TypeId} {s x : Operand} {es b id0 o len : Nat} {cap : Option Nat} {ex : Bool} {z row : List AV} {old : List (List AV)} {H' : List (Nat × AObj)} (hd : d < N) (hs : evL G L s = some (.sl o 0 len none)) (hx : evL G L x = some (.sl id0 0 1 cap)) (hu : Upd H o (.cells e es false old) .dead H')
    (hlen : len = old.length) (ho : B.next ≤ o ∨ o ∈ W) (hm : (id0, AObj.cells ee es ex [row]) ∈ H)
    (ht : elOf P t = some (e, es, b, z)) (htx : P.underlying tx = some (.slice e')) (hc : row.all isCell = true) (hb1 : (2 * (len + 1) + 192) * b ≤ 2 ^ 48) (hb2 : len + 1 < 2 ^ 62)
    (k : ∀ id, B.next ≤ id → SL P G B W ops os ((d, .sl id 0 (len + 1) none) :: L) N ds ((id, .cells e es false (old ++ [row])) :: H') Q) :
    SL P G B W ops (⟨some d, .call ⟨.builtin .append, #[s, x], #[t, tx]⟩, ty, pos, af, none⟩ :: os) L N ds H Q :=
  SL_append_own (news := [row]) hd hs hx hu hlen ho hm ht htx (by simp) rfl (by simp [hc]) (by simp) hb1 hb2 k
end rules

theorem Upd.append {H H' : List (Nat × AObj)} {id : Nat} {o o' : AObj} (h : Upd H id o o' H') (K : List (Nat × AObj)) : Upd (H ++ K) id o o' (H' ++ K) := by
  induction h with
  | head => exact .head
  | tail _ ih => exact .tail ih

def zipL : List Nat → List AV → List (Nat × AV) → List (Nat × AV)
  | p :: ps, a :: xs, L => zipL ps xs ((p, a) :: L)
  | _, _, L => L
theorem En.zip {N : Nat} : ∀ (ps : List Nat) (xs : List AV) (tm : Tm) (L : List (Nat × AV)), En tm N L → (∀ p ∈ ps, p < N) → En ((ps.zip xs).foldl (fun (ts : Tm) (p : Tmp × AV) => ts.set p.1 p.2) tm) N (zipL ps xs L)
  | [], _, tm, L, h, _ => by simpa [zipL] using h
  | _ :: _, [], tm, L, h, _ => by simpa [zipL] using h
  | p :: ps, a :: xs, tm, L, h, hp => by
    simp only [List.zip_cons_cons, List.foldl_cons, zipL]
    exact En.zip ps xs _ _ (h.set (hp p (by simp)) a) (fun q hq => hp q (List.mem_cons_of_mem _ hq))

def RPost (B : AS) (M : List Nat) (l : Nat) (R : AV → List (Nat × AObj) → Prop) (e : AEx) (s : Cfg) : Prop :=
  e = .normal ∧ ∃ lp, s.st.get l = some (.loop lp) ∧ ∃ Hn, He B M (s.st.set l (.loop { lp with state := .ready, pending := none })) Hn [] ∧ (∀ p ∈ Hn, p.1 ∈ M ∨ B.next ≤ p.1) ∧ R (.s (.bool true)) Hn
theorem RPost.intro {B : AS} {M : List Nat} {l : Nat} {R : AV → List (Nat × AObj) → Prop} {tm : Tm} {σ : AS} {H H' Hn : List (Nat × AObj)} {lp : ALoop} (h2 : He B M σ H []) (hl : l ∈ M) (hu : Upd H l (.loop lp) (.loop { lp with state := .ready, pending := none }) H') (hs : SubH Hn H') (hn : (Hn.map (·.1)).Nodup)
    (hB : ∀ p ∈ Hn, p.1 ∈ M ∨ B.next ≤ p.1) (hR : R (.s (.bool true)) Hn) : RPost B M l R .normal ⟨tm, [], σ⟩ :=
  ⟨rfl, lp, h2.get _ hu.mem, Hn, (h2.set hu (.inr hl)).sub hs hn, hB, hR⟩
theorem Rd_body {l : Nat} {xs : List AV} {M : List Nat} {H : List (Nat × AObj)} {R : AV → List (Nat × AObj) → Prop} {lp : ALoop} {N : Nat} {L : List (Nat × AV)} (hE : En lp.tmps N L) (hl : (l, AObj.loop lp) ∈ H) (hst : lp.state = .ready) (hlen : xs.length = lp.params.size) (hp : ∀ p ∈ lp.params.toList, p < N)
    (h : ∀ B : AS, SC P G B M (some l) lp.assign (zipL lp.params.toList xs L) N [] H (Nxt (fun s => ∃ r : ALoop, s.st.get l = some (.loop r) ∧ r.state = .ready ∧ wpc P G (some l) lp.body ⟨s.tmps, s.defs, s.st.set l (.loop { r with state := .busy })⟩ (RPost B M l R)) (fun _ _ => False))) : RdW P G l xs M H R := fun σ hs => by
  obtain ⟨n, e, s₁, h1, h2⟩ := h σ _ σ (En.zip lp.params.toList xs lp.tmps L hE hp) hs
  cases e with
  | exit id => exact h2.elim
  | ret => exact h2.elim
  | normal =>
    obtain ⟨r, hr1, hr2, m, e, s₂, h3, he, lp', hlp, Hn, hHe, hB, hR⟩ := h2
    subst he
    refine ⟨max n m, _, _, ?_, Hn, hHe, hB, hR⟩
    unfold roundWith
    rw [hs.get _ hl]
    simp only
    rw [if_pos ⟨hst, hlen⟩]
    simp only [exec_le (Nat.le_max_left n m) _ _ _ _ h1, hr1]
    rw [if_pos hr2]
    obtain ⟨tm1, df1, st1⟩ := s₁
    simp only at h3
    simp only [exec_le (Nat.le_max_right n m) _ _ _ _ h3, hlp]
    rfl

theorem SC_range {B : AS} {W : List Nat} {L : List (Nat × AV)} {N : Nat} {ds : List Nat} {H H0 Hr : List (Nat × AObj)} {Q : AEx → Cfg → Prop} {g : Operand} {params : Array Tmp} {assign body : Code} {gv : AV} {f : FuncId} {xs : Nat → List AV} {M0 : List Nat} {R : Tm → Nat → Nat → List (Nat × AObj) → Prop}
    (hg : evL G L g = some gv) (ht : ∀ l, target gv [.yld l] = some (.enter f (xs l))) (hs : SubH H0 H) (hn : (H0.map (·.1)).Nodup) (hM : ∀ id ∈ M0, (B.next ≤ id ∨ id ∈ W) ∧ id ∈ H.map (·.1)) (hr : SubH Hr H) (hrn : (Hr.map (·.1)).Nodup) (hrm : ∀ p ∈ Hr, p.1 ∉ M0)
    (hc : ∀ tm d l, En tm N L → B.next ≤ d → B.next ≤ l → l ∉ H.map (·.1) → FnW P G f (xs l) (l :: M0) ((l, .loop { state := .ready, pending := none, tmps := tm, params, assign, body, defers := d }) :: H0) (fun _ Hn => R tm d l Hn))
    (hR : ∀ tm d l Hn, B.next ≤ l → R tm d l Hn → ∃ r Hn', Upd Hn l (.loop r) (.loop { r with state := .exhausted }) Hn' ∧ r.state ≠ .busy ∧ r.pending = none ∧ ∀ tm' σ', En tm' N L → He B W σ' (Hn' ++ Hr) (d :: ds) → Q .normal ⟨tm', d :: ds, σ'⟩) :
    SC P G B W none (.rangeFunc g params assign body) L N ds H Q := by
  intro tm σ h1 h2
  -- the block for deferred calls, the record
  have p1 := h2.push .defr
  have hd1 : σ.newId = σ.next := AS.newId_none h2.slot
  have hd : B.next ≤ σ.newId := by rw [hd1]; exact h2.le
  have hdnot : σ.newId ∉ H.map (·.1) := fun hm => by
    obtain ⟨p, hp, hpe⟩ := List.mem_map.1 hm
    have := h2.lt hp; omega
  have p1' : He B W (σ.push .defr) H (σ.newId :: ds) := by
    refine ⟨p1.slot, p1.fresh, p1.le, h2.nodup, fun p hp => p1.get p (List.mem_cons_of_mem _ hp), p1.keep, fun x hx => ?_, fun x hx => ?_, ?_, fun x hx => ?_⟩
    · rcases List.mem_cons.1 hx with rfl | hx
      · exact hd
      · exact h2.dle x hx
    · rcases List.mem_cons.1 hx with rfl | hx
      · exact p1.get (σ.newId, .defr) (by simp)
      · exact p1.dget x hx
    · rw [List.nodup_cons]
      refine ⟨fun hm => ?_, h2.dnodup⟩
      have := AS.lt_of_get (h2.dget _ hm)
      omega
    · rcases List.mem_cons.1 hx with rfl | hx
      · exact hdnot
      · exact h2.dH x hx
  have p2 := p1'.push (.loop { state := .ready, pending := none, tmps := tm, params, assign, body, defers := σ.newId })
  have hl1 : (σ.push .defr).newId = (σ.push .defr).next := AS.newId_none p1.slot
  have hlB : B.next ≤ (σ.push .defr).newId := by rw [hl1]; exact p1.le
  have hlnot : (σ.push .defr).newId ∉ H.map (·.1) := fun hm => by
    obtain ⟨p, hp, hpe⟩ := List.mem_map.1 hm
    have := p1'.lt hp; omega
  have hnd : (((σ.push .defr).newId, AObj.loop { state := .ready, pending := none, tmps := tm, params, assign, body, defers := σ.newId }) :: H0).map (·.1) |>.Nodup := by
    rw [List.map_cons, List.nodup_cons]
    refine ⟨fun hm => hlnot ?_, hn⟩
    obtain ⟨p, hp, hpe⟩ := List.mem_map.1 hm
    exact List.mem_map.2 ⟨p, hs.mem p hp, hpe⟩
  have hsub : ∀ {A : List (Nat × AObj)} (q : Nat × AObj), SubH A H → SubH A (q :: H) := by
    intro A q hA
    induction A with
    | nil => trivial
    | cons a A ih => exact ⟨List.mem_cons_of_mem _ hA.1, ih hA.2⟩
  have hcall := hc tm σ.newId (σ.push .defr).newId h1 hd hlB hlnot _ (p2.startW (M := (σ.push .defr).newId :: M0) (H0 := ((σ.push .defr).newId, _) :: H0) ⟨by simp, hsub _ hs⟩ hnd)
  obtain ⟨n, v, σ₃, hrun, Hn, h3, h4, h5⟩ := hcall
  obtain ⟨r, Hn', hu, hb, hpend, hk⟩ := hR _ _ _ _ hlB h5
  have h6 : He B W σ₃ (Hn ++ Hr) (σ.newId :: ds) := p2.transW h3 (fun id hid => by
      rcases List.mem_cons.1 hid with rfl | hid
      · exact ⟨.inl hlB, by simp⟩
      · exact ⟨(hM id hid).1, by simp only [List.map_cons, List.mem_cons]; exact .inr (hM id hid).2⟩) h4 (hsub _ hr) hrn (fun p hp hm => by
      rcases List.mem_cons.1 hm with e | hm
      · exact hlnot (by rw [← e]; exact List.mem_map.2 ⟨p, hr.mem p hp, rfl⟩)
      · exact hrm p hp hm)
  have hu' : Upd (Hn ++ Hr) (σ.push .defr).newId (.loop r) (.loop { r with state := .exhausted }) (Hn' ++ Hr) := hu.append Hr
  have h7 := h6.set hu' (.inl hlB)
  have hQ := hk tm _ h1 h7
  refine ⟨n + 1, .normal, _, ?_, hQ⟩
  show stRange P G (exec P G n) none g params assign body ⟨tm, ds, σ⟩ = _
  have hg2 : evT G tm g = gv := h1.ev hg
  have hgl : σ₃.get (σ.push .defr).newId = some (.loop r) := h6.get _ hu'.mem
  simp only [stRange, rangeWith, hg2, ht, hrun, hgl]
  rw [if_neg hb, hpend]
  rfl
end Go.Ab
/- Tables looked up. -/
namespace Go.Ab
def fnd {β : Type} : List (Nat × β) → Nat → Option β
  | [], _ => none
  | (k, v) :: r, j => bif Nat.beq k j then some v else fnd r j
theorem fndF {β : Type} {f : Nat → Option β} : ∀ {L : List (Nat × β)}, (∀ p ∈ L, f p.1 = some p.2) → ∀ {t : Nat} {v : β}, fnd L t = some v → f t = some v
  | [], _, _, _, h => by cases h
  | (k, u) :: r, hl, t, v, h => by
    unfold fnd at h
    cases hb : Nat.beq k t with
    | true =>
      rw [hb] at h
      simp only [cond_true, Option.some.injEq] at h
      have := Nat.eq_of_beq_eq_true hb
      subst this h
      exact hl _ List.mem_cons_self
    | false =>
      rw [hb] at h
      exact fndF (fun p hp => hl p (List.mem_cons_of_mem _ hp)) h
def fnd2 : List (Nat × List (Nat × Nat)) → Nat → Nat → Option Nat
  | [], _, _ => none
  | (k, l) :: r, j, i => bif Nat.beq k j then fnd l i else fnd2 r j i
theorem fnd2F {f : Nat → Nat → Option Nat} : ∀ {L : List (Nat × List (Nat × Nat))}, (∀ p ∈ L, ∀ q ∈ p.2, f p.1 q.1 = some q.2) → ∀ {t i v : Nat}, fnd2 L t i = some v → f t i = some v
  | [], _, _, _, _, h => by cases h
  | (k, u) :: r, hl, t, i, v, h => by
    unfold fnd2 at h
    cases hb : Nat.beq k t with
    | true =>
      rw [hb] at h
      simp only [cond_true] at h
      have := Nat.eq_of_beq_eq_true hb
      subst this
      exact fndF (f := f k) (hl _ List.mem_cons_self) h
    | false =>
      rw [hb] at h
      exact fnd2F (fun p hp => hl p (List.mem_cons_of_mem _ hp)) h
end Go.Ab
/- Symbolic steps: names that differ, heaps in another order, functions and rounds that turn old objects. -/
namespace Go.Ab
variable {P : Program} {G : Gl}

theorem SubH.of_mem : ∀ {H' H : List (Nat × AObj)}, (∀ p ∈ H', p ∈ H) → SubH H' H
  | [], _, _ => trivial
  | p :: _, _, h => ⟨h p List.mem_cons_self, SubH.of_mem fun q hq => h q (List.mem_cons_of_mem _ hq)⟩
theorem SubH.refl (H : List (Nat × AObj)) : SubH H H := .of_mem fun _ h => h
theorem He.perm {B σ : AS} {W : List Nat} {H H' : List (Nat × AObj)} {ds : List Nat} (h : He B W σ H ds) (hp : H.Perm H') : He B W σ H' ds :=
  h.sub (.of_mem fun _ hm => hp.symm.subset hm) ((hp.map (·.1)).nodup h.nodup)

section
variable {B : AS} {W : List Nat} {rd : Option Nat} {L : List (Nat × AV)} {N : Nat} {ds : List Nat} {H : List (Nat × AObj)}
theorem SC_nd {c : Code} {Q : AEx → Cfg → Prop} (k : (H.map (·.1)).Nodup → SC P G B W rd c L N ds H Q) : SC P G B W rd c L N ds H Q := fun tm σ h1 h2 => k h2.nodup tm σ h1 h2
theorem SC_perm {c : Code} {H' : List (Nat × AObj)} {Q : AEx → Cfg → Prop} (hp : H.Perm H') (k : SC P G B W rd c L N ds H' Q) : SC P G B W rd c L N ds H Q := fun tm σ h1 h2 => k tm σ h1 (h2.perm hp)
theorem SC_drop {c : Code} {H' : List (Nat × AObj)} {Q : AEx → Cfg → Prop} (hs : SubH H' H) (hn : (H'.map (·.1)).Nodup) (k : SC P G B W rd c L N ds H' Q) : SC P G B W rd c L N ds H Q := fun tm σ h1 h2 => k tm σ h1 (h2.sub hs hn)
end

section rules
variable {B : AS} {W : List Nat} {ops : Array Oper} {os : List Oper} {L : List (Nat × AV)} {N : Nat} {ds : List Nat} {H : List (Nat × AObj)} {Q : Cfg → Prop} {ty : TypeId} {pos : String} {af : Array Edge} {d : Nat}
theorem SL_nd (k : (H.map (·.1)).Nodup → SL P G B W ops os L N ds H Q) : SL P G B W ops os L N ds H Q := fun tm σ h1 h2 => k h2.nodup tm σ h1 h2
theorem SL_perm {H' : List (Nat × AObj)} (hp : H.Perm H') (k : SL P G B W ops os L N ds H' Q) : SL P G B W ops os L N ds H Q := fun tm σ h1 h2 => k tm σ h1 (h2.perm hp)
theorem SL_drop {H' : List (Nat × AObj)} (hs : SubH H' H) (hn : (H'.map (·.1)).Nodup) (k : SL P G B W ops os L N ds H' Q) : SL P G B W ops os L N ds H Q := fun tm σ h1 h2 => k tm σ h1 (h2.sub hs hn)
theorem keys_apart {Hr H0 : List (Nat × AObj)} (h : ((Hr ++ H0).map (·.1)).Nodup) {M : List Nat} (hM : ∀ id ∈ M, id ∈ H0.map (·.1)) : ∀ p ∈ Hr, p.1 ∉ M := fun p hp hm => by
  rw [List.map_append, List.nodup_append] at h
  exact h.2.2 _ (List.mem_map.2 ⟨p, hp, rfl⟩) _ (hM _ hm) rfl
theorem SL_yield' {f : Operand} {xs : List Operand} {ats : Array TypeId} {l : Nat} {vs : List AV} {M : List Nat} {R : AV → List (Nat × AObj) → Prop} {H0 Hr : List (Nat × AObj)} (hd : d < N) (hf : evL G L f = some (.yld l)) (hx : evsL G L xs = some vs) (hc : RdW P G l vs M H0 R)
    (hM : ∀ id ∈ M, (B.next ≤ id ∨ id ∈ W) ∧ id ∈ H0.map (·.1)) (k : ∀ v Hn, R v Hn → SL P G B W ops os ((d, v) :: L) N ds (Hr ++ Hn) Q) :
    SL P G B W ops (⟨some d, .call ⟨.value f, xs.toArray, ats⟩, ty, pos, af, none⟩ :: os) L N ds (Hr ++ H0) Q := by
  refine SL_nd fun hnd => ?_
  have hap := keys_apart hnd (fun id hid => (hM id hid).2)
  rw [List.map_append, List.nodup_append] at hnd
  refine SL_yield hd hf hx hc (.of_mem fun p hp => List.mem_append_right _ hp) hnd.2.1 (fun id hid => ⟨(hM id hid).1, ?_⟩) (.of_mem fun p hp => List.mem_append_left _ hp) hnd.1 hap fun v Hn hR => ?_
  · rw [List.map_append]; exact List.mem_append_right _ (hM id hid).2
  · exact SL_perm List.perm_append_comm (k v Hn hR)
theorem SL_bneq {t yt : TypeId} {x y : Operand} {a b : Bool} (hd : d < N) (hx : evL G L x = some (.s (.bool a))) (hy : evL G L y = some (.s (.bool b)))
    (he : evalP P (do eqGuard .neq t x y (.bool a) (.bool b); binOp .neq t (.bool a) (.bool b)) = some (.bool (a != b))) (k : SL P G B W ops os ((d, .s (.bool (a != b))) :: L) N ds H Q) :
    SL P G B W ops (⟨some d, .binOp .neq t x y yt, ty, pos, af, none⟩ :: os) L N ds H Q :=
  SL_val (.s (.bool (a != b))) hd (fun tm σ h1 h2 => by
    unfold eff
    simp only [effBin, h1.ev hx, h1.ev hy, fastBin, he]) k
end rules

def PostW (P : Program) (B : AS) (M : List Nat) (fn : Func) (R : AV → List (Nat × AObj) → Prop) (e : AEx) (s : Cfg) : Prop :=
  (e = .normal ∨ e = .ret) ∧ ∃ σ' v, dropDefs s.st s.defs = some σ' ∧ aresults P fn s.tmps σ' = some v ∧ ∃ Hn, He B M σ' Hn [] ∧ (∀ p ∈ Hn, p.1 ∈ M ∨ B.next ≤ p.1) ∧ R v Hn
theorem PostW.intro {B : AS} {M : List Nat} {fn : Func} {R : AV → List (Nat × AObj) → Prop} {e : AEx} {tm : Tm} {N : Nat} {L : List (Nat × AV)} {σ : AS} {H Hn : List (Nat × AObj)} {ds : List Nat} {vs : List AV} (he : e = .normal ∨ e = .ret) (h1 : En tm N L) (h2 : He B M σ H ds) (hr : resL L fn.results.toList = some vs)
    (hs : SubH Hn H) (hn : (Hn.map (·.1)).Nodup) (hB : ∀ p ∈ Hn, p.1 ∈ M ∨ B.next ≤ p.1) (hR : R (tupled vs) Hn) : PostW P B M fn R e ⟨tm, ds, σ⟩ := by
  obtain ⟨σ', h3, h4⟩ := h2.drop
  exact ⟨he, σ', tupled vs, h3, by unfold aresults; rw [h1.res σ' hr]; rfl, Hn, h4.sub hs hn, hB, hR⟩
theorem FnW_body {f : FuncId} {as : List AV} {M : List Nat} {fn : Func} {c : Code} {H : List (Nat × AObj)} {R : AV → List (Nat × AObj) → Prop} (ho : G.orc f as = none) (hf : P.funcs[f]? = some fn) (hb : fn.body = some c) {N : Nat} (hN : max as.length fn.ntmps = N)
    (h : ∀ B, SC P G B M none c (argsL as 0) N [] H (PostW P B M fn R)) : FnW P G f as M H R := fun σ hs => by
  refine wpf_body ho hf hb ?_
  rw [hN]
  refine wpc_mono (h σ _ σ (hN ▸ En.args as fn.ntmps) hs) fun e s ⟨h1, σ', v, h2, h3, Hn, h4, h5, h6⟩ => ?_
  exact ⟨h1, σ', v, h2, h3, Hn, h4, h5, h6⟩

theorem SC_range' {B : AS} {W : List Nat} {L : List (Nat × AV)} {N : Nat} {ds : List Nat} {H0 Hr Hfin : List (Nat × AObj)} {Q : AEx → Cfg → Prop} {g : Operand} {params : Array Tmp} {assign body : Code} {gv : AV} {f : FuncId} {xs : Nat → List AV} {M0 : List Nat}
    (hg : evL G L g = some gv) (ht : ∀ l, target gv [.yld l] = some (.enter f (xs l))) (hM : ∀ id ∈ M0, (B.next ≤ id ∨ id ∈ W) ∧ id ∈ H0.map (·.1))
    (hc : ∀ tm d l, En tm N L → B.next ≤ l → l ∉ (Hr ++ H0).map (·.1) → FnW P G f (xs l) (l :: M0) ((l, .loop { state := .ready, pending := none, tmps := tm, params, assign, body, defers := d }) :: H0) (fun _ Hn => Hn = (l, .loop { state := .ready, pending := none, tmps := tm, params, assign, body, defers := d }) :: Hfin))
    (hk : ∀ d tm' σ', En tm' N L → He B W σ' (Hr ++ Hfin) (d :: ds) → Q .normal ⟨tm', d :: ds, σ'⟩) :
    SC P G B W none (.rangeFunc g params assign body) L N ds (Hr ++ H0) Q := by
  refine SC_nd fun hnd => ?_
  have hap := keys_apart hnd (fun id hid => (hM id hid).2)
  rw [List.map_append, List.nodup_append] at hnd
  refine SC_range (H0 := H0) (Hr := Hr) (M0 := M0) (R := fun tm d l Hn => l ∉ (Hr ++ H0).map (·.1) ∧ Hn = (l, .loop { state := .ready, pending := none, tmps := tm, params, assign, body, defers := d }) :: Hfin) hg ht (.of_mem fun p hp => List.mem_append_right _ hp) hnd.2.1 (fun id hid => ⟨(hM id hid).1, ?_⟩) (.of_mem fun p hp => List.mem_append_left _ hp) hnd.1 hap
    (fun tm d l h1 _ h3 h4 => ?_) fun tm d l Hn hl hR => ?_
  · rw [List.map_append]; exact List.mem_append_right _ (hM id hid).2
  · intro σ hs
    exact wpf_mono (hc tm d l h1 h3 h4 σ hs) fun v σ' ⟨Hn, a, b, c⟩ => ⟨Hn, a, b, h4, c⟩
  · obtain ⟨_, rfl⟩ := hR
    refine ⟨_, _, .head, by simp, rfl, fun tm' σ' hE hH => ?_⟩
    have h5 := hH.sub (H' := Hfin ++ Hr) (.of_mem fun p hp => List.mem_cons_of_mem _ hp) (by
      have := hH.nodup
      rw [List.cons_append, List.map_cons, List.nodup_cons] at this
      exact this.2)
    exact hk d tm' σ' hE (h5.perm List.perm_append_comm)

theorem Rd_body' {l : Nat} {xs : List AV} {M : List Nat} {H : List (Nat × AObj)} {R : AV → List (Nat × AObj) → Prop} {tm : Tm} {params : Array Tmp} {assign body : Code} {d : Nat} {N : Nat} {L : List (Nat × AV)} (hE : En tm N L) (hlen : xs.length = params.size) (hp : ∀ p ∈ params.toList, p < N) (hl : l ∈ M)
    (h : ∀ B : AS, SC P G B M (some l) assign (zipL params.toList xs L) N [] ((l, .loop { state := .ready, pending := none, tmps := tm, params, assign, body, defers := d }) :: H)
      (Nxt (fun s => ∃ tm1 σ1 L1 H1, s = ⟨tm1, [], σ1⟩ ∧ En tm1 N L1 ∧ He B M σ1 ((l, .loop { state := .ready, pending := none, tmps := tm, params, assign, body, defers := d }) :: H1) [] ∧
        SC P G B M (some l) body L1 N [] ((l, .loop { state := .busy, pending := none, tmps := tm, params, assign, body, defers := d }) :: H1) (RPost B M l R)) (fun _ _ => False))) :
    RdW P G l xs M ((l, .loop { state := .ready, pending := none, tmps := tm, params, assign, body, defers := d }) :: H) R := by
  refine Rd_body (lp := { state := .ready, pending := none, tmps := tm, params, assign, body, defers := d }) hE (by simp) rfl hlen hp fun B => ?_
  intro tm0 σ0 h1 h2
  refine wpc_mono (h B tm0 σ0 h1 h2) fun e s hs => ?_
  cases e with
  | exit _ => exact hs.elim
  | ret => exact hs.elim
  | normal =>
    obtain ⟨tm1, σ1, L1, H1, rfl, h3, h4, h5⟩ := hs
    exact ⟨_, h4.get _ List.mem_cons_self, rfl, h5 tm1 _ h3 (h4.set .head (.inr hl))⟩
end Go.Ab
/- A closed call's outcome, given as a contract. -/
namespace Go.Ab
variable {P : Program}

theorem Rep.after {B w w' : World} {ρ ρ' : Rho} {σ σ' : AS} (h : Rep B ρ σ w) (h' : Rep w ρ' σ' w') : Rep B ρ σ w' where
  dom := h.dom
  free := h.free
  low := h.low
  obj := fun id o l hg hr => by
    have ho := h.obj id o l hg hr
    have hk := h'.keep l.blk (h.new id l hr).2
    cases o with
    | dead => trivial
    | cells e es x rows =>
      obtain ⟨h1, h2, h3, h4, c, h5, h6, h7⟩ := ho
      exact ⟨h1, h2, h3, h4, c, by rw [hk]; exact h5, h6, h7⟩
    | loop lp =>
      obtain ⟨fn, arr, d, h1, h2, h3⟩ := ho
      exact ⟨fn, arr, d, h1, h2, by rw [hk]; exact h3⟩
    | defr => show w'.heap[l.blk]? = _; rw [hk]; exact ho
    | map es clock => obtain ⟨xs, h1, h2⟩ := ho; exact ⟨xs, h1, by rw [hk]; exact h2⟩
    | siter s pos => show w'.heap[l.blk]? = _; rw [hk]; exact ho
    | iter m since seen last =>
      obtain ⟨d, h1, h2⟩ := ho
      exact ⟨d, h1, by rw [hk]; exact h2⟩
  new := fun id l hr => ⟨(h.new id l hr).1, Nat.lt_of_lt_of_le (h.new id l hr).2 h'.size⟩
  inj := h.inj
  keep := fun b hb => (h'.keep b (Nat.lt_of_lt_of_le hb h.size)).trans (h.keep b hb)
  size := Nat.le_trans h.size h'.size
  tape := h'.tape.trans h.tape
  os := h'.os.trans h.os
  out := h'.out.trans h.out
  has := h.has
  thaw := fun b x hb hx => by
    by_cases hw : b < w.heap.size
    · exact h.thaw b x hb (by rw [← h'.keep b hw]; exact hx)
    · exact h'.thaw b x (by omega) hx

def oneOrc (f : FuncId) (v : Value) : Gl := ⟨fun _ => none, fun g as => if g = f ∧ as = [] then some (fun σ => some (.s v, σ)) else none⟩
theorem oneOrc_at (f : FuncId) (v : Value) : (oneOrc f v).orc f [] = some (fun σ => some (.s v, σ)) := by simp [oneOrc]
theorem oneOrc_off {f g : FuncId} {v : Value} {as : List AV} (h : as ≠ []) : (oneOrc f v).orc g as = none := by simp [oneOrc, h]
theorem oneOrc_given (hP : Fit P) {n : Nat} {f : FuncId} {v : Value} {σk : AS} {fn : Func} (hf : P.funcs[f]? = some fn) (hb : fn.body.isNone = false) (h : runCall P ⟨fun _ => none, fun _ _ => none⟩ n f [] = some (.s v, σk)) : Given P (oneOrc f v) where
  ok := fun g as hh ho => by
    unfold oneOrc at ho
    simp only at ho
    split at ho
    · rename_i hc
      obtain ⟨rfl, rfl⟩ := hc
      cases ho
      refine ⟨⟨fn, hf, hb⟩, fun σ v' σ' hv B ρ w vs hG hrep hc k => ?_⟩
      cases hv
      refine call_sound (exec_sound hP (Given.none _) n) (G := ⟨fun _ => none, fun _ _ => none⟩) (fun _ _ hr => by cases hr) (start_rep w) (as := []) ?_ h k (R := fun e w' => ∃ ρ' y, e = .returned y ∧ ρ.le ρ' ∧ Conc (memOf B) ρ' (.s v) y ∧ Rep B ρ' σ w') (fun ρ' y w' _ hcy hrep' => ?_)
      · cases hvs : vs.toList with
        | nil => exact .nil
        | cons a b => rw [hvs] at hc; cases hc
      · cases hcy
        exact ⟨ρ, _, rfl, Rho.le_refl ρ, .s _, hrep.after hrep'⟩
    · cases ho
  acts := fun g as hh ho => by
    unfold oneOrc at ho
    simp only at ho
    split at ho
    · cases ho
      intro σ v' σ' hv N hN
      cases hv
      exact ⟨[], trivial, rfl, fun σ₂ _ => rfl⟩
    · cases ho
end Go.Ab
/- Symbolic steps: drawn regions that act: one operation after the other, in the order of the plan. -/
namespace Go.Ab
variable {P : Program} {G : Gl}

def Seen.id : Seen → Nat
  | .all id _ => id
  | .size id _ => id
theorem seenAll_stands {σ : AS} {v : AV} {x : Seen} (h : seenAll σ v = some x) : x.stands σ = true ∧ idOf v = some x.id := by
  unfold seenAll at h
  split at h
  · rename_i id hid
    split at h
    · rename_i n o hg
      cases h
      exact ⟨by simp [Seen.stands, hg], hid⟩
    · cases h
  · cases h
theorem seenSl_stands {σ : AS} {v : AV} {x : Seen} (h : seenSl σ v = some x) : x.stands σ = true ∧ idOf v = some x.id := by
  unfold seenSl at h
  split at h
  · split at h
    · rename_i hg
      cases h
      exact ⟨by simp [Seen.stands, hg], rfl⟩
    · cases h
  · cases h
def lookAt (o : Oper) : Option Operand := match o.op with
  | .load _ a => some a
  | .indexAddr _ x _ => some x
  | .slice _ x _ _ _ => some x
  | .convert _ _ x => some x
  | .lookup _ x _ _ => some x
  | _ => none
theorem readOf_stands {o : Oper} {ev : Operand → AV} {σ : AS} {x : Seen} (h : readOf o ev σ = some x) : x.stands σ = true ∧ ∃ a, lookAt o = some a ∧ idOf (ev a) = some x.id := by
  unfold readOf at h
  unfold lookAt
  split at h
  · rename_i a ha
    have := seenAll_stands h
    rw [ha]; exact ⟨this.1, _, rfl, this.2⟩
  · rename_i ha
    have := seenSl_stands h
    rw [ha]; exact ⟨this.1, _, rfl, this.2⟩
  · rename_i ha
    have := seenAll_stands h
    rw [ha]; exact ⟨this.1, _, rfl, this.2⟩
  · rename_i ha
    have := seenAll_stands h
    rw [ha]; exact ⟨this.1, _, rfl, this.2⟩
  · rename_i ha
    have := seenAll_stands h
    rw [ha]; exact ⟨this.1, _, rfl, this.2⟩
  · cases h
theorem readOf_none {o : Oper} {ev : Operand → AV} {σ : AS} {a : Operand} (ha : lookAt o = some a) (hv : idOf (ev a) = none) : readOf o ev σ = none := by
  unfold lookAt at ha
  unfold readOf
  have h2 : ∀ x : AV, idOf x = none → seenAll σ x = none := fun x hx => by simp only [seenAll, hx]
  have h3 : ∀ x : AV, idOf x = none → seenSl σ x = none := fun x hx => by cases x <;> first | rfl | cases hx
  cases ho : o.op <;> rw [ho] at ha <;> simp only [Option.some.injEq] at ha ⊢ <;> try (cases ha; done)
  all_goals subst ha
  all_goals first | exact h2 _ hv | exact h3 _ hv
def LateL (G : Gl) (L : List (Nat × AV)) (o : Oper) : Prop := isConv o = false ∨ ∃ a v, lookAt o = some a ∧ evL G L a = some v ∧ idOf v = none
theorem LateL.ok {L : List (Nat × AV)} {o : Oper} (h : LateL G L o) {tm : Tm} {N base i : Nat} (h1 : En tm N L) {ops : Array Oper} (σ : AS) : lateOk false base ops i o (if Region.wanted o (ayielded ops tm) then readOf o (evT G tm) σ else none) = true := by
  rcases h with h | ⟨a, v, ha, hv, hid⟩
  · exact lateOk_not h
  · rw [readOf_none ha (by rw [h1.ev hv]; exact hid)]
    unfold lateOk
    split <;> first | rfl | (split <;> simp_all)
theorem stands_of {σ σ' : AS} {x : Seen} (h : x.stands σ = true) (he : σ'.objs.get x.id = σ.objs.get x.id) : x.stands σ' = true := by
  cases x <;> simp only [Seen.stands, Seen.id] at h he ⊢ <;> rw [he] <;> exact h

def RcSt (B : AS) (RC : List (Nat × Nat)) (rc : Rec) : Prop := ∀ p ∈ RC, ∀ x, rc p.1 = some x → x.id = p.2 ∧ x.stands B = true
theorem RcSt.upd {B : AS} {RC : List (Nat × Nat)} {rc : Rec} (h : RcSt B RC rc) {i : Nat} (hi : ∀ p ∈ RC, p.1 ≠ i) (v : Option Seen) : RcSt B RC (rc.upd i v) := fun p hp x hx => by
  unfold Rec.upd at hx
  rw [if_neg (hi p hp)] at hx
  exact h p hp x hx

def SD (P : Program) (G : Gl) (B : AS) (W : List Nat) (base : Nat) (ops : Array Oper) (pl : List (Nat × List Nat)) (L : List (Nat × AV)) (N : Nat) (H : List (Nat × AObj)) (RC : List (Nat × Nat)) (Q : Cfg → Prop) : Prop :=
  ∀ tm σ rc, En tm N L → He B W σ H [] → RcSt B RC rc → wpd P G base ops pl ⟨tm, [], σ⟩ rc Q

theorem He.wide {B σ : AS} {W W' : List Nat} {H : List (Nat × AObj)} {ds : List Nat} (h : He B W σ H ds) (hw : ∀ id ∈ W, id ∈ W') : He B W' σ H ds :=
  ⟨h.slot, h.fresh, h.le, h.nodup, h.get, fun id h1 h2 => h.keep id h1 (fun h3 => h2 (hw id h3)), h.dle, h.dget, h.dnodup, h.dH⟩

section
variable {B : AS} {W : List Nat} {base : Nat} {ops : Array Oper} {rest : List (Nat × List Nat)} {L : List (Nat × AV)} {N : Nat} {H : List (Nat × AObj)} {RC : List (Nat × Nat)} {Q : Cfg → Prop}
theorem SD_nil (h : ∀ tm σ, En tm N L → He B W σ H [] → Q ⟨tm, [], σ⟩) : SD P G B W base ops [] L N H RC Q := fun tm σ _ h1 h2 _ => ⟨0, _, rfl, h tm σ h1 h2⟩
theorem SD_op {i : Nat} {fl : List Nat} {o : Oper} (W' : List Nat) (RC' : List (Nat × Nat)) (hi : ops[i]? = some o) (hc : (cls o == 3) = false) (hw : ∀ id ∈ W, id ∈ W') (hRC : ∀ p ∈ RC, p.1 ≠ i) (hfl : ∀ k ∈ fl, ∃ id, (k, id) ∈ RC ∧ id ∉ W' ∧ id < B.next)
    (hrc : RC' = RC ∨ ∃ a v id, lookAt o = some a ∧ evL G L a = some v ∧ idOf v = some id ∧ id ∉ W ∧ id < B.next ∧ RC' = (i, id) :: RC)
    (h : SL P G B W' ops [o] L N [] H (fun s => ∃ tm' σ' L' H', s = ⟨tm', [], σ'⟩ ∧ En tm' N L' ∧ He B W' σ' H' [] ∧ SD P G B W' base ops rest L' N H' RC' Q)) (hlt : LateL G L o := by first | exact .inl rfl | exact .inr ⟨_, _, rfl, rfl, rfl⟩) : SD P G B W base ops ((i, fl) :: rest) L N H RC Q := by
  intro tm σ rc h1 h2 h3
  obtain ⟨n, s', hr, tm', σ', L', H', rfl, h4, h5, h6⟩ := h tm σ h1 (h2.wide hw)
  have hc3 : cls o ≠ 3 := by simpa using hc
  simp only [runL, stepO] at hr
  cases hres : resO P G (exec P G n) ops o tm σ with
  | none => rw [hres] at hr; simp [stepVal] at hr
  | some y =>
    obtain ⟨v, σ₁⟩ := y
    rw [hres] at hr
    simp only [stepVal, Option.some.injEq, Cfg.mk.injEq] at hr
    obtain ⟨rfl, -, rfl⟩ := hr
    have hx : resX P G (exec P G n) base ops i o tm σ = some (v, σ₁) := by
      obtain ⟨a, b, c⟩ := σ
      have hs := h2.slot
      simp only at hs; subst hs
      rw [resX_plain hc3, hres]
      obtain ⟨a1, b1, c1⟩ := σ₁
      have hs1 := h5.slot
      simp only at hs1; subst hs1
      rfl
    have hst : stands rc σ₁ fl = true := by
      unfold stands
      rw [List.all_eq_true]
      intro k hk
      obtain ⟨id, hm, hnw, hlt⟩ := hfl k hk
      cases hrk : rc k with
      | none => rfl
      | some x =>
        obtain ⟨rfl, hb⟩ := h3 _ hm x hrk
        exact stands_of hb (h5.keep _ hlt hnw)
    have hok : RcSt B RC' (rc.upd i (if Region.wanted o (ayielded ops tm) then readOf o (evT G tm) σ else none)) := by
      rcases hrc with rfl | ⟨a, v, id, ha, hv, hid, hnw, hlt, rfl⟩
      · exact h3.upd hRC _
      · intro p hp x hx
        rcases List.mem_cons.1 hp with rfl | hp
        · unfold Rec.upd at hx
          simp only [if_true] at hx
          split at hx
          · obtain ⟨hs, a', ha', hid'⟩ := readOf_stands hx
            rw [ha] at ha'; cases ha'
            rw [h1.ev hv, hid] at hid'
            cases hid'
            exact ⟨rfl, stands_of hs (h2.keep _ hlt hnw).symm⟩
          · cases hx
        · exact h3.upd hRC _ p hp x hx
    obtain ⟨m, s'', h7, h8⟩ := h6 _ _ _ h4 h5 hok
    refine ⟨max n m, s'', ?_, h8⟩
    simp only [runD, stepD, hi]
    rw [resX_le (exec_le (Nat.le_max_left n m)) hx]
    simp only [hst, hlt.ok h1 σ, Bool.and_self, if_true]
    exact runD_le (exec_le (Nat.le_max_right n m)) _ _ _ _ h7
theorem SD_newS {i d : Nat} {op : Op} {ty : TypeId} {pos : String} {af : Array Edge} (ob : AObj) (v : Nat → AV) (hi : ops[i]? = some ⟨some d, op, ty, pos, af, none⟩) (hc : (cls ⟨some d, op, ty, pos, af, none⟩ == 3) = true) (hd : d < N) (hRC : ∀ p ∈ RC, p.1 ≠ i)
    (hnW : base + i ∉ W) (hnH : base + i ∉ H.map (·.1)) (hlt : base + i < B.next) (hfree : B.objs.get (base + i) = none)
    (he : ∀ tm σ, En tm N L → eff P ⟨some d, op, ty, pos, af, none⟩ (evT G tm) σ = some (.val (v σ.newId), σ.push ob))
    (h : ∀ tm σ rc, En tm N ((d, v (base + i)) :: L) → He B ((base + i) :: W) σ ((base + i, ob) :: H) [] → RcSt B RC rc → σ.objs.get (base + i) = some (0, ob) → wpd P G base ops rest ⟨tm, [], σ⟩ rc Q) : SD P G B W base ops ((i, []) :: rest) L N H RC Q := by
  intro tm σ rc h1 h2 h3
  have hslot := h2.slot
  have hfr : σ.objs.get (base + i) = none := by rw [h2.keep _ hlt hnW]; exact hfree
  have hres : resO P G (exec P G 0) ops ⟨some d, op, ty, pos, af, none⟩ tm ⟨σ.objs, σ.next, some (base + i)⟩ = some (v (base + i), ⟨putObj σ.objs (base + i) ob, σ.next, none⟩) := by
    unfold resO
    have hw : Region.wanted ⟨some d, op, ty, pos, af, none⟩ (ayielded ops tm) = true := rfl
    rw [hw, if_pos rfl, he tm _ h1]
    rfl
  have hx : resX P G (exec P G 0) base ops i ⟨some d, op, ty, pos, af, none⟩ tm σ = some (v (base + i), ⟨putObj σ.objs (base + i) ob, σ.next, none⟩) := by
    unfold resX
    rw [hc]
    simp only [if_true]
    obtain ⟨a, b, c⟩ := σ
    simp only at hfr hres
    simp only [resA, hfr, hres]
  have hget : ∀ j, (⟨putObj σ.objs (base + i) ob, σ.next, none⟩ : AS).get j = if j = base + i then some ob else σ.get j := fun j => by
    have hb : base + i < σ.next := Nat.lt_of_lt_of_le hlt h2.le
    unfold AS.get
    simp only [putObj_get, hfr]
    by_cases e : j = base + i
    · subst e; simp [hb]
    · rw [if_neg e]; simp only [if_neg (fun x : base + i = j => e x.symm)]
  have h4 : He B ((base + i) :: W) ⟨putObj σ.objs (base + i) ob, σ.next, none⟩ ((base + i, ob) :: H) [] := by
    refine ⟨rfl, fun id hid => ?_, h2.le, ?_, fun p hp => ?_, fun id h5 h6 => ?_, (fun d hd => by cases hd), (fun d hd => by cases hd), List.nodup_nil, (fun d hd => by cases hd)⟩
    · simp only at hid
      simp only [putObj_get]
      have hb : base + i < σ.next := Nat.lt_of_lt_of_le hlt h2.le
      rw [if_neg (by omega)]
      exact h2.fresh id hid
    · rw [List.map_cons, List.nodup_cons]; exact ⟨hnH, h2.nodup⟩
    · rw [hget]
      rcases List.mem_cons.1 hp with rfl | hp
      · rw [if_pos rfl]
      · rw [if_neg (fun e => hnH (List.mem_map.2 ⟨p, hp, e⟩))]; exact h2.get p hp
    · simp only [putObj_get]
      rw [if_neg (fun e => h6 (by rw [e]; exact List.mem_cons_self))]
      exact h2.keep id h5 (fun h7 => h6 (List.mem_cons_of_mem _ h7))
  obtain ⟨m, s'', h7, h8⟩ := h _ _ (rc.upd i (if Region.wanted ⟨some d, op, ty, pos, af, none⟩ (ayielded ops tm) then readOf ⟨some d, op, ty, pos, af, none⟩ (evT G tm) σ else none)) (h1.set hd (v (base + i))) h4 (h3.upd hRC _) (by simp only [putObj_get, hfr, if_true])
  refine ⟨m, s'', ?_, h8⟩
  simp only [runD, stepD, hi]
  rw [resX_le (exec_le (Nat.zero_le m)) hx]
  have hst : ∀ (σ' : AS), stands rc σ' [] = true := fun _ => rfl
  have hnc : isConv ⟨some d, op, ty, pos, af, none⟩ = false := by
    cases hh : isConv ⟨some d, op, ty, pos, af, none⟩ with
    | false => rfl
    | true => rw [isConv_cls hh] at hc; cases hc
  simp only [hst, lateOk_not hnc, Bool.and_self, if_true]
  exact h7
theorem SD_new {i d : Nat} {op : Op} {ty : TypeId} {pos : String} {af : Array Edge} (ob : AObj) (v : Nat → AV) (hi : ops[i]? = some ⟨some d, op, ty, pos, af, none⟩) (hc : (cls ⟨some d, op, ty, pos, af, none⟩ == 3) = true) (hd : d < N) (hRC : ∀ p ∈ RC, p.1 ≠ i)
    (hnW : base + i ∉ W) (hnH : base + i ∉ H.map (·.1)) (hlt : base + i < B.next) (hfree : B.objs.get (base + i) = none)
    (he : ∀ tm σ, En tm N L → eff P ⟨some d, op, ty, pos, af, none⟩ (evT G tm) σ = some (.val (v σ.newId), σ.push ob))
    (h : SD P G B ((base + i) :: W) base ops rest ((d, v (base + i)) :: L) N ((base + i, ob) :: H) RC Q) : SD P G B W base ops ((i, []) :: rest) L N H RC Q :=
  SD_newS ob v hi hc hd hRC hnW hnH hlt hfree he fun tm σ rc h1 h2 h3 _ => h tm σ rc h1 h2 h3
end

theorem SC_drawn {B : AS} {W : List Nat} {rd : Option Nat} {L : List (Nat × AV)} {N : Nat} {H : List (Nat × AObj)} {Q : AEx → Cfg → Prop} {id : Nat} {l : List Oper} {pl : List (Nat × List Nat)} (hok : drawnOk l.toArray = true) (hpl : plan l.toArray = pl)
    (h : ∀ B' base, B.next ≤ base → base + l.length ≤ B'.next → (∀ j, base ≤ j → B'.objs.get j = none) → (∀ p ∈ H, p.1 < base) →
      SD P G B' [] base l.toArray pl L N H [] (fun s => ∃ W' tm' σ' L' H', s = ⟨tm', [], σ'⟩ ∧ En tm' N L' ∧ He B' W' σ' H' [] ∧ (∀ id ∈ W', B.next ≤ id ∨ id ∈ W) ∧ ∀ tm σ, En tm N L' → He B W σ H' [] → Q .normal ⟨tm, [], σ⟩)) :
    SC P G B W rd (.region id l.toArray true) L N [] H Q := by
  intro tm σ h1 h2
  refine wpc_draw hok hpl ?_
  have hsz : l.toArray.size = l.length := by simp
  have h3 := h2.bump l.toArray.size
  have hfree : ∀ j, σ.next ≤ j → σ.objs.get j = none := h2.fresh
  have h4 : He (⟨σ.objs, σ.next + l.toArray.size, none⟩ : AS) [] ⟨σ.objs, σ.next + l.toArray.size, none⟩ H [] :=
    ⟨rfl, h3.fresh, Nat.le_refl _, h2.nodup, h3.get, fun _ _ _ => rfl, (fun d hd => by cases hd), (fun d hd => by cases hd), List.nodup_nil, (fun d hd => by cases hd)⟩
  obtain ⟨n, s', h5, W', tm', σ', L', H', rfl, h6, h7, h8, h9⟩ := h ⟨σ.objs, σ.next + l.toArray.size, none⟩ σ.next h2.le (by simp) hfree (fun p hp => h2.lt hp) tm _ (fun _ => none) h1 h4 (fun p hp => by cases hp)
  refine ⟨n, _, h5, h9 tm' σ' h6 ⟨h7.slot, h7.fresh, ?_, h7.nodup, h7.get, fun j hj hw => ?_, (fun d hd => by cases hd), (fun d hd => by cases hd), List.nodup_nil, (fun d hd => by cases hd)⟩⟩
  · have := h7.le
    have := h2.le
    simp only at *
    omega
  · have hlt : j < σ.next + l.toArray.size := by have := h2.le; omega
    rw [h7.keep j hlt (fun hm => by
      rcases h8 j hm with h | h
      · omega
      · exact hw h)]
    exact h2.keep j hj hw
end Go.Ab
/- Symbolic steps: closures, calls that turn old objects, pure operations on known values, slices of own slices, tables in objects. -/
namespace Go.Ab
variable {P : Program} {G : Gl}
section rules
variable {B : AS} {W : List Nat} {ops : Array Oper} {os : List Oper} {L : List (Nat × AV)} {N : Nat} {ds : List Nat} {H : List (Nat × AObj)} {Q : Cfg → Prop} {ty : TypeId} {pos : String} {af : Array Edge} {d : Nat}
theorem He.calls {f : Operand} {xs : List Operand} {ats : Array TypeId} {dst : Option Tmp} {g : FuncId} {fv : AV} {vs args : List AV} {tm : Tm} {σ : AS} (h1 : En tm N L) (hf : evL G L f = some fv) (hb : bodyless P fv = false) (ht : target fv vs = some (.enter g args)) (hx : evsL G L xs = some vs) :
    eff P ⟨dst, .call ⟨.value f, xs.toArray, ats⟩, ty, pos, af, none⟩ (evT G tm) σ = some (.enter g args, σ) := by
  unfold eff
  simp only [effCall, h1.ev hf, hb, Bool.false_eq_true, if_false, h1.evs hx, ht, Option.map_some]
theorem SL_callv {f : Operand} {xs : List Operand} {ats : Array TypeId} {g : FuncId} {fv : AV} {vs args : List AV} {R : AV → List (Nat × AObj) → Prop} {H0 : List (Nat × AObj)} (hd : d < N) (hf : evL G L f = some fv) (hb : bodyless P fv = false) (hx : evsL G L xs = some vs) (ht : target fv vs = some (.enter g args))
    (hc : FnC P G g args H0 R) (hs : SubH H0 H) (hn : (H0.map (·.1)).Nodup) (k : ∀ v Hn, (∀ p ∈ Hn, B.next ≤ p.1) → R v Hn → SL P G B W ops os ((d, v) :: L) N ds (Hn ++ H) Q) :
    SL P G B W ops (⟨some d, .call ⟨.value f, xs.toArray, ats⟩, ty, pos, af, none⟩ :: os) L N ds H Q := fun tm σ h1 h2 => by
  refine wpl_op rfl ?_
  rw [He.calls h1 hf hb ht hx]
  refine wpn_enter (wpf_mono (hc σ (h2.here.sub hs hn)) fun v σ' ⟨Hn, h3, h4, h5⟩ => ?_)
  exact k v Hn (fun p hp => Nat.le_trans h2.le (h4 p hp)) h5 _ _ (h1.set hd v) (h2.trans h3 h4)
theorem SL_callW {f : Operand} {xs : List Operand} {ats : Array TypeId} {g : FuncId} {fv : AV} {vs args : List AV} {M : List Nat} {R : AV → List (Nat × AObj) → Prop} {H0 Hr : List (Nat × AObj)} (hd : d < N) (hf : evL G L f = some fv) (hb : bodyless P fv = false) (hx : evsL G L xs = some vs) (ht : target fv vs = some (.enter g args))
    (hc : FnW P G g args M H0 R) (hM : ∀ id ∈ M, (B.next ≤ id ∨ id ∈ W) ∧ id ∈ H0.map (·.1)) (k : ∀ v Hn, R v Hn → SL P G B W ops os ((d, v) :: L) N ds (Hr ++ Hn) Q) :
    SL P G B W ops (⟨some d, .call ⟨.value f, xs.toArray, ats⟩, ty, pos, af, none⟩ :: os) L N ds (Hr ++ H0) Q := by
  refine SL_nd fun hnd => ?_
  have hap := keys_apart hnd (fun id hid => (hM id hid).2)
  rw [List.map_append, List.nodup_append] at hnd
  intro tm σ h1 h2
  refine wpl_op rfl ?_
  rw [He.calls h1 hf hb ht hx]
  refine wpn_enter (wpf_mono (hc σ (h2.startW (.of_mem fun p hp => List.mem_append_right _ hp) hnd.2.1)) fun v σ' ⟨Hn, h3, h4, h5⟩ => ?_)
  have h6 := h2.transW h3 (fun id hid => ⟨(hM id hid).1, by rw [List.map_append]; exact List.mem_append_right _ (hM id hid).2⟩) h4 (Hr := Hr) (.of_mem fun p hp => List.mem_append_left _ hp) hnd.1 hap
  exact k v Hn h5 _ _ (h1.set hd v) (h6.perm List.perm_append_comm)
def evC (L : List (Nat × AV)) (y : Operand) : AV := (evL ⟨fun _ => none, fun _ _ => none⟩ L y).getD uv
def hasV (L : List (Nat × AV)) : Operand → Bool
  | .tmp t => (lk L t).isSome
  | .const _ => true
  | .func _ => true
  | .global _ => false
theorem evC_eq {L' : List (Nat × AV)} {tm : Tm} (h : En tm N L) (hs : Sub L' L) {y : Operand} (hy : hasV L' y = true) : evT G tm y = evC L' y := by
  cases y with
  | tmp t =>
    simp only [hasV, Option.isSome_iff_exists] at hy
    obtain ⟨v, hv⟩ := hy
    show tm.get t = (lk L' t).getD uv
    rw [hv, h.get t v (hs.lk t v hv)]; rfl
  | const c => rfl
  | func f => rfl
  | global g => cases hy
theorem SL_pure {op : Op} (L' : List (Nat × AV)) {v : AV} (hd : d < N) (hs : Sub L' L) (hall : op.operands.toList.all (hasV L') = true) (hk : ∀ tm σ, En tm N L → eff P ⟨some d, op, ty, pos, af, none⟩ (evT G tm) σ = withSt σ (effPure P ⟨some d, op, ty, pos, af, none⟩ (evT G tm)))
    (hsel : ∀ cs b, op ≠ .select cs b) (hr : effPure P ⟨some d, op, ty, pos, af, none⟩ (evC L') = some v) (k : SL P G B W ops os ((d, v) :: L) N ds H Q) :
    SL P G B W ops (⟨some d, op, ty, pos, af, none⟩ :: os) L N ds H Q :=
  SL_val v hd (fun tm σ h1 h2 => by
    rw [hk tm σ h1, effPure_congr (ev' := evC L') hsel (fun z hz => evC_eq h1 hs (List.all_eq_true.1 hall z (by simpa using hz))), hr]
    rfl) k
theorem SL_slice {t e e' : TypeId} {x : Operand} {lo hi : Option Operand} {id n l h es : Nat} {ex : Bool} {rows : List (List AV)} {v : AV} (hd : d < N) (hx : evL G L x = some (.sl id 0 n none)) (hm : (id, AObj.cells e' es ex rows) ∈ H) (ht : sliceOf P t = some (e, es)) (hex : ex = false) (hlen : rows.length = n)
    (hlo : ∀ tm, En tm N L → bound (lo.map (evT G tm)) 0 h = some l) (hhi : ∀ tm, En tm N L → bound (hi.map (evT G tm)) n n = some h) (hlh : l ≤ h) (hv : v = if l = 0 ∨ l < n then .sl id l (h - l) none else if h = l then .sle else uv) (hok : l = 0 ∨ l < n ∨ h = l)
    (k : SL P G B W ops os ((d, v) :: L) N ds H Q) : SL P G B W ops (⟨some d, .slice t x lo hi none, ty, pos, af, none⟩ :: os) L N ds H Q :=
  SL_val v hd (fun tm σ h1 h2 => by
    obtain ⟨hu, hs⟩ := sliceOf_spec ht
    subst hex hlen
    have hb1 : bound (none : Option AV) rows.length rows.length = some rows.length := rfl
    unfold eff
    simp only [effSliceTop, effSliceOp, h1.ev hx, isRef, if_true, effSlice, Option.map_none, Option.isSome_none, Bool.false_and, Bool.false_eq_true, if_false, hu, hs, h2.get _ hm, Nat.zero_add, Nat.le_refl, and_self, Nat.sub_zero, slBounds, hb1, Option.bind_some, hhi tm h1, hlo tm h1, withSt]
    rw [hv]
    by_cases c : l = 0 ∨ l < rows.length
    · simp only [c, if_true, Option.map_some]
    · have hh : h = l := by omega
      simp only [c, if_false, hh, if_true, Option.map_some]) k
theorem SL_indexAddr_a {t e : TypeId} {x ix : Operand} {o i f es len : Nat} {kk : IntKind} {n : Int} (hd : d < N) (hx : evL G L x = some (.ptr o i f)) (hi : evL G L ix = some (.s (.int kk n))) (ht : arrOf P t = some (len, e, es)) (j : Nat) (hn : n = j) (hlt : j < len)
    (k : SL P G B W ops os ((d, .ptr o i (f + j * es)) :: L) N ds H Q) : SL P G B W ops (⟨some d, .indexAddr t x ix, ty, pos, af, none⟩ :: os) L N ds H Q :=
  SL_val _ hd (fun tm σ h1 h2 => by
    obtain ⟨hu, hs⟩ := arrOf_spec ht
    unfold eff
    simp only [effIndexAddr, h1.ev hx, h1.ev hi, hu, hs, withSt]
    subst hn
    rw [if_pos ⟨by omega, by omega⟩]
    simp) k
theorem SL_len_e {t e : TypeId} {es : Nat} {x : Operand} {ats : Array TypeId} (hd : d < N) (hx : evL G L x = some .sle) (ha : ats[0]? = some t) (ht : sliceOf P t = some (e, es)) (k : SL P G B W ops os ((d, .s (.int .i64 0)) :: L) N ds H Q) :
    SL P G B W ops (⟨some d, .call ⟨.builtin .len, #[x], ats⟩, ty, pos, af, none⟩ :: os) L N ds H Q :=
  SL_val _ hd (fun tm σ h1 h2 => by
    unfold eff
    simp only [effCall, effBuiltin, List.map_cons, List.map_nil, h1.ev hx, effLenOp, isRef, if_true, effLen, ha, Option.bind_some, (sliceOf_spec ht).1]
    rfl) k
theorem SL_bin {o : BinOp} {t yt : TypeId} {x y : Operand} {u v r : Value} (hd : d < N) (hx : evL G L x = some (.s u)) (hy : evL G L y = some (.s v)) (hf : fastBin o u v = none) (hr : evalP P (do eqGuard o t x y u v; binOp o t u v) = some r) (k : SL P G B W ops os ((d, .s r) :: L) N ds H Q) :
    SL P G B W ops (⟨some d, .binOp o t x y yt, ty, pos, af, none⟩ :: os) L N ds H Q :=
  SL_val (.s r) hd (fun tm σ h1 h2 => by unfold eff; simp only [effBin, h1.ev hx, h1.ev hy, hf, hr]) k
end rules
end Go.Ab
/- Symbolic steps: rounds whose heap is told by a predicate. -/
namespace Go.Ab
variable {P : Program} {G : Gl}
section rules
variable {B : AS} {W : List Nat} {ops : Array Oper} {os : List Oper} {L : List (Nat × AV)} {N : Nat} {ds : List Nat} {H : List (Nat × AObj)} {Q : Cfg → Prop} {ty : TypeId} {pos : String} {af : Array Edge} {d : Nat}
theorem nodup_with {Hr H0 Hx : List (Nat × AObj)} (_h1 : (Hr.map (·.1)).Nodup) (h2 : (H0.map (·.1)).Nodup) (h3 : ∀ a ∈ Hr.map (·.1), ∀ b ∈ H0.map (·.1), a ≠ b) (hx : ∀ p ∈ Hx, p ∈ Hr) (hn : (Hx.map (·.1)).Nodup) : ((H0 ++ Hx).map (·.1)).Nodup := by
  rw [List.map_append, List.nodup_append]
  refine ⟨h2, hn, fun a ha b hb e => ?_⟩
  obtain ⟨p, hp, rfl⟩ := List.mem_map.1 hb
  exact h3 p.1 (List.mem_map.2 ⟨p, hx p hp, rfl⟩) a ha e.symm
theorem SL_yield2 {f : Operand} {xs : List Operand} {ats : Array TypeId} {l : Nat} {vs : List AV} {M : List Nat} {R : AV → List (Nat × AObj) → Prop} {H0 Hr Hx : List (Nat × AObj)} (hd : d < N) (hf : evL G L f = some (.yld l)) (hx : evsL G L xs = some vs) (hc : RdW P G l vs M (H0 ++ Hx) R) (hxr : ∀ p ∈ Hx, p ∈ Hr) (hxn : (Hx.map (·.1)).Nodup)
    (hM : ∀ id ∈ M, (B.next ≤ id ∨ id ∈ W) ∧ id ∈ H0.map (·.1)) (k : ∀ v Hn, (∀ p ∈ Hn, B.next ≤ p.1 ∨ p.1 ∈ W) → R v Hn → SL P G B W ops os ((d, v) :: L) N ds (Hr ++ Hn) Q) :
    SL P G B W ops (⟨some d, .call ⟨.value f, xs.toArray, ats⟩, ty, pos, af, none⟩ :: os) L N ds (Hr ++ H0) Q := by
  refine SL_nd fun hnd => ?_
  have hap := keys_apart hnd (fun id hid => (hM id hid).2)
  rw [List.map_append, List.nodup_append] at hnd
  have hnx := nodup_with hnd.1 hnd.2.1 hnd.2.2 hxr hxn
  intro tm σ h1 h2
  refine wpl_op rfl ?_
  have he : eff P ⟨some d, .call ⟨.value f, xs.toArray, ats⟩, ty, pos, af, none⟩ (evT G tm) σ = some (.round l vs, σ) := by
    unfold eff
    simp only [effCall, h1.ev hf, bodyless, Bool.false_eq_true, if_false, h1.evs hx, target, Option.map_some]
  rw [he]
  refine wpn_round (wpy_mono (hc σ (h2.startW (.of_mem fun p hp => (List.mem_append.1 hp).elim (fun h => List.mem_append_right _ h) (fun h => List.mem_append_left _ (hxr p h))) hnx)) fun v σ' ⟨Hn, h3, h4, h5⟩ => ?_)
  have h6 := h2.transW h3 (fun id hid => ⟨(hM id hid).1, by rw [List.map_append]; exact List.mem_append_right _ (hM id hid).2⟩) h4 (Hr := Hr) (.of_mem fun p hp => List.mem_append_left _ hp) hnd.1 hap
  refine k v Hn (fun p hp => ?_) h5 _ _ (h1.set hd v) (h6.perm List.perm_append_comm)
  rcases h4 p hp with h7 | h7
  · exact (hM _ h7).1
  · exact .inl (Nat.le_trans h2.le h7)
end rules

theorem SC_range2 {B : AS} {W : List Nat} {L : List (Nat × AV)} {N : Nat} {ds : List Nat} {H0 Hr Hx : List (Nat × AObj)} {Fin : List (Nat × AObj) → Prop} {Q : AEx → Cfg → Prop} {g : Operand} {params : Array Tmp} {assign body : Code} {gv : AV} {f : FuncId} {xs : Nat → List AV} {M0 : List Nat}
    (hg : evL G L g = some gv) (ht : ∀ l, target gv [.yld l] = some (.enter f (xs l))) (hM : ∀ id ∈ M0, (B.next ≤ id ∨ id ∈ W) ∧ id ∈ H0.map (·.1)) (hxr : ∀ p ∈ Hx, p ∈ Hr) (hxn : (Hx.map (·.1)).Nodup)
    (hc : ∀ tm d l, En tm N L → B.next ≤ l → l ∉ (Hr ++ H0).map (·.1) → FnW P G f (xs l) (l :: M0) ((l, .loop { state := .ready, pending := none, tmps := tm, params, assign, body, defers := d }) :: (H0 ++ Hx)) (fun _ Hn => ∃ H', Hn = (l, .loop { state := .ready, pending := none, tmps := tm, params, assign, body, defers := d }) :: H' ∧ Fin H'))
    (hk : ∀ d H' tm' σ', (∀ p ∈ H', B.next ≤ p.1 ∨ p.1 ∈ W) → Fin H' → En tm' N L → He B W σ' (Hr ++ H') (d :: ds) → Q .normal ⟨tm', d :: ds, σ'⟩) :
    SC P G B W none (.rangeFunc g params assign body) L N ds (Hr ++ H0) Q := by
  refine SC_nd fun hnd => ?_
  have hap := keys_apart hnd (fun id hid => (hM id hid).2)
  rw [List.map_append, List.nodup_append] at hnd
  have hnx := nodup_with hnd.1 hnd.2.1 hnd.2.2 hxr hxn
  refine SC_range (H0 := H0 ++ Hx) (Hr := Hr) (M0 := M0) (R := fun tm d l Hn => (l ∉ (Hr ++ H0).map (·.1) ∧ ∀ p ∈ Hn, B.next ≤ p.1 ∨ p.1 ∈ W) ∧ ∃ H', Hn = (l, .loop { state := .ready, pending := none, tmps := tm, params, assign, body, defers := d }) :: H' ∧ Fin H') hg ht (.of_mem fun p hp => (List.mem_append.1 hp).elim (fun h => List.mem_append_right _ h) (fun h => List.mem_append_left _ (hxr p h))) hnx (fun id hid => ⟨(hM id hid).1, ?_⟩) (.of_mem fun p hp => List.mem_append_left _ hp) hnd.1 hap
    (fun tm d l h1 _ h3 h4 => ?_) fun tm d l Hn hl hR => ?_
  · rw [List.map_append]; exact List.mem_append_right _ (hM id hid).2
  · intro σ hs
    have hlt : l < σ.next := hs.lt (p := (l, _)) List.mem_cons_self
    exact wpf_mono (hc tm d l h1 h3 h4 σ hs) fun v σ' ⟨Hn, a, b, c⟩ => ⟨Hn, a, b, ⟨h4, fun p hp => by
      rcases b p hp with hb | hb
      · rcases List.mem_cons.1 hb with e | hb
        · rw [e]; exact .inl h3
        · exact (hM _ hb).1
      · exact .inl (by omega)⟩, c⟩
  · obtain ⟨⟨_, hpl⟩, H', rfl, hF⟩ := hR
    refine ⟨_, _, .head, by simp, rfl, fun tm' σ' hE hH => ?_⟩
    have h5 := hH.sub (H' := H' ++ Hr) (.of_mem fun p hp => List.mem_cons_of_mem _ hp) (by
      have := hH.nodup
      rw [List.cons_append, List.map_cons, List.nodup_cons] at this
      exact this.2)
    exact hk d H' tm' σ' (fun p hp => hpl p (List.mem_cons_of_mem _ hp)) hF hE (h5.perm List.perm_append_comm)
end Go.Ab
