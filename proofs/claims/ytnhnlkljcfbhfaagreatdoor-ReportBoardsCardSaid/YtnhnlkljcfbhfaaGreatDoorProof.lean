/- The law ReportBoards holds: whatever the board and the lines, called with the listed tables as the program's text lays them, it returns true, and its arguments read as before. -/
import Derived.Test.YtnhnlkljcfbhfaaGreatDoorZe
import Derived.Test.YtnhnlkljcfbhfaaGreatDoorZc
import Derived.ChangeMaps5
namespace Go.Proofs.YtnhnlkljcfbhfaaGreatDoor
open Go Go.Ab Go.ChangeShapes Go.WideShapes Go.ChangeAt Go.WideElems Go.RowKit
theorem spec3 : LawSpec Rows.reportBoardsSpec 2 := ⟨rfl, fun H ds hl => by
  match ds, hl with
  | [d1, d2], _ => exact ⟨rfl, rfl, rfl⟩⟩
theorem readable3 : ([26, 27].all fun t => Tryz.prog.readableRec t && decide (t < Tryz.prog.types.size)) = true := by kernel_rfl
theorem co3 : Tryz.prog.cellsOf 3 = 1 := by kernel_rfl
theorem co9 : Tryz.prog.cellsOf 9 = 1 := by kernel_rfl
theorem co81 : Tryz.prog.cellsOf 81 = 1 := by kernel_rfl
theorem co23 : Tryz.prog.cellsOf 23 = 2 := by kernel_rfl
theorem co24 : Tryz.prog.cellsOf 24 = 1 := by kernel_rfl
theorem co26 : Tryz.prog.cellsOf 26 = 3 := by kernel_rfl
theorem offs26 : isOffs (Tryz.prog.underlying 26) [(23, 0), (24, 2)] = true := by kernel_rfl
theorem offs23 : isOffs (Tryz.prog.underlying 23) [(3, 0), (3, 1)] = true := by kernel_rfl
theorem plain26 : plainTy Tryz.prog 8 26 = true := by kernel_rfl
theorem plain27 : plainTy Tryz.prog 8 27 = true := by kernel_rfl
theorem und81 : Tryz.prog.underlying 81 = some (.int .i8) := by kernel_rfl
theorem und24 : Tryz.prog.underlying 24 = some (.slice 81) := by kernel_rfl
theorem und27 : Tryz.prog.underlying 27 = some (.slice 9) := by kernel_rfl
theorem und9 : Tryz.prog.underlying 9 = some .string := by kernel_rfl
theorem und3 : Tryz.prog.underlying 3 = some (.int .i64) := by kernel_rfl
set_option maxRecDepth 100000 in
/-- A board that comes in. -/
theorem ty_board {al : List AV} (h : Ty Tryz.prog 26 al) : ∃ f r l, ∃ ps : List Int, al = [.s (.int .i64 f), .s (.int .i64 r), l] ∧ SlK 1 l (ps.map fun p => [AV.s (.int .i8 p)]) ∧ ps.length ≤ 9223372036854775807 := by
  obtain ⟨hl, hm⟩ := h.struct_inv offs26
  rw [co26] at hl
  match al, hl with
  | [a, b, c], _ =>
    have h0 := hm (23, 0) (by simp)
    have h1 := hm (24, 2) (by simp)
    simp only [co23, co24] at h0 h1
    obtain ⟨-, hm2⟩ := h0.struct_inv offs23
    have h2 := hm2 (3, 0) (by simp)
    have h3 := hm2 (3, 1) (by simp)
    simp only [co3] at h2 h3
    obtain ⟨f, hf, -⟩ := h2.int_inv und3
    obtain ⟨r, hr, -⟩ := h3.int_inv und3
    obtain ⟨l, rows, hl2, hsl, hrows, hbig⟩ := h1.slice_inv und24
    simp at hf hr hl2
    subst hf hr hl2
    rw [co81] at hsl hrows
    obtain ⟨ps, rfl⟩ := rows_form (Q := fun r => r.length = 1 ∧ Ty Tryz.prog 81 r) (F := fun p : Int => [AV.s (.int .i8 p)]) (fun r hr => by
      obtain ⟨n, hn, -⟩ := hr.2.int_inv und81
      exact ⟨n, hn⟩) rows hrows
    exact ⟨f, r, c, ps, rfl, hsl, by rwa [List.length_map] at hbig⟩
set_option maxRecDepth 100000 in
/-- A list of strings that comes in. -/
theorem ty_strs {a : AV} (h : Ty Tryz.prog 27 [a]) : ∃ xs : List ByteArray, SlK 1 a (xs.map fun x => [AV.s (.string x)]) ∧ xs.length ≤ 9223372036854775807 ∧ ∀ x ∈ xs, x.size ≤ 9223372036854775807 := by
  obtain ⟨l, rows, hl2, hsl, hrows, hbig⟩ := h.slice_inv und27
  cases hl2
  rw [co9] at hsl hrows
  obtain ⟨xs, rfl⟩ := rows_form (Q := fun r => r.length = 1 ∧ Ty Tryz.prog 9 r) (F := fun p : ByteArray => [AV.s (.string p)]) (fun r hr => by
    obtain ⟨n, hn, -⟩ := hr.2.str_inv und9
    exact ⟨n, hn⟩) rows hrows
  refine ⟨xs, hsl, by rwa [List.length_map] at hbig, fun x hx => ?_⟩
  obtain ⟨n, hn, hle⟩ := (hrows [AV.s (.string x)] (List.mem_map.2 ⟨x, hx, rfl⟩)).2.str_inv und9
  cases hn
  exact hle
theorem run_ofB {m : Int} {e2 e3 : Value} {f : FuncId} {args : List AV} (h : FnC Tryz.prog (glB m e2 e3) f args [] (fun v Hn => v = .s (.bool true) ∧ Hn = [])) : ∃ n σ, runCall Tryz.prog (glB m e2 e3) n f args = some (.s (.bool true), σ) := by
  obtain ⟨n, v, σ, h1, Hn, _, _, rfl, _⟩ := wpf_run (h ⟨.e, 0, none⟩ (.start rfl (fun id _ => by simp [Tr.get_e]) List.nodup_nil (fun p hp => by cases hp)))
  exact ⟨n, σ, h1⟩
set_option maxRecDepth 100000 in
theorem lifted3 (os : Os) (started : os.Started) (H : Type) (enc : TypeId × Value → H) :
    ReturnsInHanded {} Tryz.checked os 3 .any (fun w args => (Rows.reportBoardsSpec.pre enc Tryz.prog Tryz.f3 [] false w args ∧ laidMetH Tryz.prog laidT w) ∧ sizedMet enc Tryz.prog Tryz.f3 (OpenSpec.ofChange Rows.reportBoardsSpec) false w args)
      (Rows.reportBoardsSpec.post enc Tryz.prog Tryz.f3 false true false false) := by
  refine returns_shaped (C := Tryz.checked) (X := fun w _ => laidMetH Tryz.prog laidT w) (fun _ _ _ hh h => h.of_heap hh) own started (by kernel_rfl) Tryz.func3
    (ChangeSpec.witness_shaped (enc := enc) (C := Tryz.checked) (os := os) (X := fun w _ => laidMetH Tryz.prog laidT w) false (World.laidAll Tryz.prog os laidT) #[.agg #[.int .i64 0, .int .i64 0, .slice none 0 0], .slice none 0 0] 8 (World.laidAll_os _ _ _)
      (shaped_wit os) (by kernel_rfl) (by kernel_rfl) (by kernel_rfl) (met_wit os _)) ?_
  intro W base args ds gs before hval0 hW hsh hL
  have hval : ∀ (j : Nat) t v, Tryz.f3.params[j]? = some t → args[j]? = some v → Value.okWide Tryz.prog W .any base t v := hval0
  have hW' := hW
  obtain ⟨p, q, hA0, hV, rfl, hfz, hnd⟩ := hW
  have hA : DataW.TrodAll enc Tryz.prog W 0 (fun _ => true) true Tryz.f3.params.toList args.toList ds p := hA0
  rw [Tryz.params3] at hA hval
  obtain ⟨v0, vs0, d0, ds0, p0, q0, ha0, rfl, rfl, h0, hA1⟩ := trodAll_cons hA
  obtain ⟨v1, vs1, d1, ds1, p1, q1, rfl, rfl, rfl, h1, hA2⟩ := trodAll_cons hA1
  obtain ⟨rfl, rfl, rfl⟩ := trodAll_nil hA2
  obtain rfl : args = #[v0, v1] := by cases args; simp_all
  obtain ⟨al, hc0, ht0⟩ := open_agg offs26 plain26 (hval 0 26 v0 rfl rfl) h0
  obtain ⟨f, r, l, ps, rfl, hsl, hbig⟩ := ty_board ht0
  obtain ⟨a, hc1, ht1⟩ := open_one und27 plain27 (hval 1 27 v1 rfl rfl) h1
  obtain ⟨xs, hxs, hbig2, -⟩ := ty_strs ht1
  obtain ⟨m, e2, e3, hG, q2, q3⟩ := of_laid hL hsh
  obtain ⟨k, σ, hrun⟩ := run_ofB (law3_fn (m := m) (e2 := e2) (e3 := e3) (f := f) (r := r) hsl hxs.v hbig hbig2)
  have hr3 := readable3
  refine (run_law fit (givenB q2 q3) hrun (fun g row h => hG g row h) (.cons hc0 (.cons hc1 .nil))).mono fun e W' ⟨ρ, σ, he, hrep⟩ => ⟨_, he, ?_⟩
  refine law_post (f := Tryz.f3) (by rw [Tryz.params3]; exact spec3) laidOut (fun t ht => ?_) (bt := 4) rfl Tryz.underlying4 hW' hrep
  rw [Tryz.params3] at ht
  have := List.all_eq_true.1 hr3 t (by simpa using ht)
  simpa only [Bool.and_eq_true, decide_eq_true_eq] using this

theorem boards_row : Rows.ReportBoardsSaid :=
  OpenClaim.holds_of_wide 3 Tryz.f3 rfl rfl rfl rfl rfl rfl rfl ⟨rfl, rfl, rfl, rfl, rfl⟩ rfl rfl rfl rfl rfl (by kernel_rfl) Tryz.func3 (by kernel_rfl)
    (of_decide_eq_true (by kernel_rfl)) (by unfold Func.isWrapper; first | (rw [if_pos (by decide +kernel)]; kernel_rfl) | (rw [if_neg (by decide +kernel)]; exact ⟨rfl, rfl⟩))
    (fun os started H enc _ => lifted3 os started H enc)

/-- The card. -/
theorem reportBoards_holds : Rows.ReportBoardsCardSaid :=
  Claim7.holds_tied_plain_at .later [] [.data, .data, .data, .data, .data, .widerDeep, .widerDeep, .widerDeep, .sentinel, .sentinel, .data, .pinned] true (true, "de3af33bbd5bc3dadab467df505a4007a52dc8bd201a7ea136a2c8724fe373c9") true
    boards_row (fun _ h => by cases h) (by kernel_rfl) (fun _ h => by cases h) reportBoards_row_tie rfl ⟨rfl, rfl⟩ (by kernel_rfl) rfl
    (fun f fn hf hfn => by
      obtain rfl : f = 3 := Option.some.inj ((show Tryz.prog.funcNamed "caissa/caissalaw52.ReportBoards" = some 3 by kernel_rfl).symm.trans hf) |>.symm
      obtain rfl : fn = Tryz.f3 := (Option.some.inj (Tryz.func3.symm.trans hfn)).symm
      exact ⟨by kernel_rfl, fun j t ht => by
        rw [Tryz.params3] at ht
        have hm : t ∈ [26, 27] := by simpa using Array.mem_of_getElem? ht
        have hall : ([26, 27].all fun u => !Tryz.prog.wantsStandIn u) = true := by kernel_rfl
        exact (show Tryz.prog.wantsStandIn t = false by simpa using List.all_eq_true.1 hall t hm)⟩)
    (by kernel_rfl)
#print axioms reportBoards_holds
end Go.Proofs.YtnhnlkljcfbhfaaGreatDoor
