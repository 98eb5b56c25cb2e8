/- What comes in as rounds is a list of lists of games. -/
import Derived.Test.YtldckcopeiginaaData
import Derived.Test.YtldckcopeiginaaKnown
import Derived.Test.YtldckcopeiginaaAbSf
namespace Go.Proofs.Ytldckcopeiginaa
open Go Go.Ab Go.ChangeShapes Go.WideShapes Go.WideElems Go.RowKit
theorem plain22 : plainTy Try.prog 8 22 = true := by kernel_rfl
theorem cells44 : Try.prog.cellsOf 44 = 1 := by kernel_rfl
theorem cells46 : Try.prog.cellsOf 46 = 3 := by kernel_rfl
theorem cells3i : Try.prog.cellsOf 3 = 1 := by kernel_rfl
theorem desc3 : Try.prog.underlying 3 = some (.int .i64) := by kernel_rfl
theorem desc22 : Try.prog.underlying 22 = some (.slice 44) := by kernel_rfl
theorem desc44 : Try.prog.underlying 44 = some (.slice 46) := by kernel_rfl
def isOffs (fs : Option TypeDesc) (l : List (TypeId × Nat)) : Bool := match fs with
  | some (.struct fs) => (fs.toList.map fun f => (f.type, f.offset)) == l
  | _ => false
theorem offs46 : isOffs (Try.prog.underlying 46) [(3, 0), (3, 1), (3, 2)] = true := by kernel_rfl
/-- A value of a slice's type, that comes in, is one cell. -/
theorem open_one {P : Program} {H : Type} {enc : TypeId × Value → H} {w : World} {r : Reach} {b0 : Nat} {spare : Nat → Bool} {held : Bool} {n : Nat} {t e : TypeId} {v : Value} {d : DataW H} {ps : List MemPlace} (ht : P.underlying t = some (.slice e)) (hp : plainTy P n t = true) (hval : Value.okWide P w r b0 t v) (hd : DataW.Trod enc P w 0 spare held t v d ps) :
    ∃ a, Conc (memOf w) (fun _ => none) a v ∧ Ty P t [a] := by
  obtain ⟨a, hc, hty⟩ := open_value hp hval hd
  obtain ⟨x, len, cap, rfl⟩ := okWide_slice ht hval
  cases a with
  | agg l => cases hc
  | s v => cases hc; exact ⟨_, .s _, hty⟩
  | _ => exact ⟨_, hc, hty⟩
theorem ty_int {t : TypeId} (ht : Try.prog.underlying t = some (.int .i64)) {args : List AV} (h : Ty Try.prog t args) : ∃ n, args = [.s (.int .i64 n)] := by
  cases h with
  | int h hw => rw [ht] at h; cases h; exact ⟨_, rfl⟩
  | bool h => rw [ht] at h; cases h
  | str h => rw [ht] at h; cases h
  | empty h => rw [ht] at h; cases h
  | rsl h => rw [ht] at h; cases h
  | struct h => rw [ht] at h; cases h
  | array h => rw [ht] at h; cases h
theorem len3 {α : Type} : ∀ {l : List α}, l.length = 3 → ∃ a b c, l = [a, b, c]
  | [a, b, c], _ => ⟨a, b, c, rfl⟩
  | [], h => by cases h
  | [_], h => by cases h
  | [_, _], h => by cases h
  | _ :: _ :: _ :: _ :: _, h => by simp at h
theorem ty_game {args : List AV} (h : Ty Try.prog 46 args) : ∃ g, args = cells3 g := by
  have ho := offs46
  unfold isOffs at ho
  cases h with
  | struct h hl hf =>
    rw [h] at ho
    rw [cells46] at hl
    simp only [beq_iff_eq] at ho
    obtain ⟨a, b, c, rfl⟩ := len3 hl
    have hm : ∀ p ∈ [((3 : TypeId), 0), (3, 1), (3, 2)], Ty Try.prog p.1 (([a, b, c].drop p.2).take (Try.prog.cellsOf p.1)) := fun p hp => by
      rw [← ho] at hp
      obtain ⟨f, hfm, rfl⟩ := List.mem_map.1 hp
      exact hf f hfm
    have h0 := hm (3, 0) (by simp)
    have h1 := hm (3, 1) (by simp)
    have h2 := hm (3, 2) (by simp)
    simp only [cells3i] at h0 h1 h2
    obtain ⟨x, hx⟩ := ty_int desc3 h0
    obtain ⟨y, hy⟩ := ty_int desc3 h1
    obtain ⟨z, hz⟩ := ty_int desc3 h2
    simp at hx hy hz
    subst hx hy hz
    exact ⟨⟨x, y, z⟩, rfl⟩
  | int h hw => rw [h] at ho; cases ho
  | bool h => rw [h] at ho; cases ho
  | str h => rw [h] at ho; cases ho
  | empty h => rw [h] at ho; cases ho
  | rsl h => rw [h] at ho; cases ho
  | array h => rw [h] at ho; cases ho
theorem le_max {n : Nat} (h : n ≤ maxLen) : n ≤ 9223372036854775807 := by unfold maxLen at h; omega
theorem games_of : ∀ (rows : List (List AV)), (∀ r ∈ rows, Ty Try.prog 46 r) → ∃ gs : List Sc, rows = gs.map cells3
  | [], _ => ⟨[], rfl⟩
  | r :: rows, h => by
    obtain ⟨g, rfl⟩ := ty_game (h r List.mem_cons_self)
    obtain ⟨gs, rfl⟩ := games_of rows fun r hr => h r (List.mem_cons_of_mem _ hr)
    exact ⟨g :: gs, rfl⟩
theorem ty_round {x : AV} (h : Ty Try.prog 44 [x]) : ∃ gs, GV gs x ∧ gs.length ≤ 9223372036854775807 := by
  cases h with
  | empty h hc => exact ⟨[], .nil, by simp⟩
  | rsl h hp hn hc hl hr =>
    rw [desc44] at h; cases h
    obtain ⟨gs, rfl⟩ := games_of _ hr
    rw [cells46]
    refine ⟨gs, .rsl hp, ?_⟩
    rw [List.length_map] at hn
    exact Nat.le_trans hn (le_max hc)
  | int h hw => rw [desc44] at h; cases h
  | bool h => rw [desc44] at h; cases h
  | str h => rw [desc44] at h; cases h
  | struct h => rw [desc44] at h; cases h
  | array h => rw [desc44] at h; cases h
theorem rounds_of : ∀ (rows : List (List AV)), (∀ r ∈ rows, r.length = 1 ∧ Ty Try.prog 44 r) → ∃ (xs : List AV) (rs : List (List Sc)), rows = (xs.map fun x => [x]) ∧ xs.length = rs.length ∧ (∀ (i : Nat) (h : i < rs.length) (h' : i < xs.length), GV rs[i] xs[i]) ∧ ∀ gs ∈ rs, gs.length ≤ 9223372036854775807
  | [], _ => ⟨[], [], rfl, rfl, fun i h => (by cases h), fun gs h => (by cases h)⟩
  | r :: rows, h => by
    obtain ⟨h1, h2⟩ := h r List.mem_cons_self
    obtain ⟨xs, rs, rfl, hlen, hat, heach⟩ := rounds_of rows fun r hr => h r (List.mem_cons_of_mem _ hr)
    match r, h1 with
    | [x], _ =>
      obtain ⟨gs, hg, hb⟩ := ty_round h2
      refine ⟨x :: xs, gs :: rs, rfl, by simp [hlen], fun i hi hi' => ?_, fun g hg' => ?_⟩
      · cases i with
        | zero => exact hg
        | succ i => exact hat i (by simpa using hi) (by simpa using hi')
      · rcases List.mem_cons.1 hg' with rfl | hg'
        · exact hb
        · exact heach g hg'
theorem ty_rounds {a : AV} (h : Ty Try.prog 22 [a]) : ∃ rs xs, RV rs a xs := by
  cases h with
  | empty h hc => exact ⟨[], [], ⟨.nil, rfl, fun i hi => (by cases hi), by simp, fun gs hg => (by cases hg)⟩⟩
  | rsl h hp hn hc hl hr =>
    rw [desc22] at h; cases h
    rw [cells44] at hl ⊢
    obtain ⟨xs, rs, rfl, hlen, hat, heach⟩ := rounds_of _ fun r hr' => ⟨hl r hr', hr r hr'⟩
    refine ⟨rs, xs, ⟨.rsl hp, hlen, hat, ?_, heach⟩⟩
    rw [List.length_map, hlen] at hn
    exact Nat.le_trans hn (le_max hc)
  | int h hw => rw [desc22] at h; cases h
  | bool h => rw [desc22] at h; cases h
  | str h => rw [desc22] at h; cases h
  | struct h => rw [desc22] at h; cases h
  | array h => rw [desc22] at h; cases h

/-- The law's frame: from a contract to a run. -/
theorem given9 : Given Try.prog (oneOrc 9 (.bool true)) := by
  obtain ⟨σ, h⟩ := known_some
  exact oneOrc_given fit Try.func9 (by rfl) h
theorem run_of {f : FuncId} {args : List AV} (h : FnC Try.prog (oneOrc 9 (.bool true)) f args [] (fun v Hn => v = .s (.bool true) ∧ Hn = [])) : ∃ n σ, runCall Try.prog (oneOrc 9 (.bool true)) n f args = some (.s (.bool true), σ) := by
  obtain ⟨n, v, σ, h1, Hn, _, _, rfl, _⟩ := wpf_run (h ⟨.e, 0, none⟩ (.start rfl (fun id _ => by simp [Tr.get_e]) List.nodup_nil (fun p hp => by cases hp)))
  exact ⟨n, σ, h1⟩
theorem laidOut : laidOutB Try.prog = true := by kernel_rfl
theorem own : ownKnob Try.prog.godebug = none := by kernel_rfl
end Go.Proofs.Ytldckcopeiginaa
