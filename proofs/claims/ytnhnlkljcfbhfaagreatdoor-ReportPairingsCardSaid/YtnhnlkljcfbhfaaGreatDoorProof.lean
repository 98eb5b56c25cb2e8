/- The law ReportPairings holds: whatever the names, the pairing and the lines, called with the listed tables as the program's text lays them, it returns true, and its arguments read as before. -/
import Derived.Test.YtnhnlkljcfbhfaaGreatDoorZh
import Derived.Test.YtnhnlkljcfbhfaaGreatDoorZc
import Derived.ChangeMaps5
namespace Go.Proofs.YtnhnlkljcfbhfaaGreatDoor
open Go Go.Ab Go.ChangeShapes Go.WideShapes Go.ChangeAt Go.WideElems Go.RowKit
theorem spec5 : LawSpec Rows.reportPairingsSpec 3 := ⟨rfl, fun H ds hl => by
  match ds, hl with
  | [d1, d2, d3], _ => exact ⟨rfl, rfl, rfl⟩⟩
theorem readable5 : ([27, 55, 27].all fun t => Tryz.prog.readableRec t && decide (t < Tryz.prog.types.size)) = true := by kernel_rfl
theorem co3 : Tryz.prog.cellsOf 3 = 1 := by kernel_rfl
theorem co4 : Tryz.prog.cellsOf 4 = 1 := by kernel_rfl
theorem co9 : Tryz.prog.cellsOf 9 = 1 := by kernel_rfl
theorem co52 : Tryz.prog.cellsOf 52 = 1 := by kernel_rfl
theorem co53 : Tryz.prog.cellsOf 53 = 1 := by kernel_rfl
theorem co55 : Tryz.prog.cellsOf 55 = 2 := by kernel_rfl
theorem offs55 : isOffs (Tryz.prog.underlying 55) [(52, 0), (53, 1)] = true := by kernel_rfl
theorem plain55 : plainTy Tryz.prog 8 55 = true := by kernel_rfl
theorem plain27 : plainTy Tryz.prog 8 27 = true := by kernel_rfl
theorem und52 : Tryz.prog.underlying 52 = some (.slice 3) := by kernel_rfl
theorem und53 : Tryz.prog.underlying 53 = some (.slice 4) := by kernel_rfl
theorem und27 : Tryz.prog.underlying 27 = some (.slice 9) := by kernel_rfl
theorem und9 : Tryz.prog.underlying 9 = some .string := by kernel_rfl
theorem und3 : Tryz.prog.underlying 3 = some (.int .i64) := by kernel_rfl
theorem und4 : Tryz.prog.underlying 4 = some .bool := by kernel_rfl
set_option maxRecDepth 100000 in
/-- A pairing that comes in. -/
theorem ty_round {al : List AV} (h : Ty Tryz.prog 55 al) : ∃ ov wv, ∃ op : List Int, ∃ wh : List Bool, al = [ov, wv] ∧ SlK 1 ov (op.map fun x => [AV.s (.int .i64 x)]) ∧ SlK 1 wv (wh.map fun x => [AV.s (.bool x)]) := by
  obtain ⟨hl, hm⟩ := h.struct_inv offs55
  rw [co55] at hl
  match al, hl with
  | [a, b], _ =>
    have h0 := hm (52, 0) (by simp)
    have h1 := hm (53, 1) (by simp)
    simp only [co52, co53] at h0 h1
    obtain ⟨l, rows, hl2, hsl, hrows, -⟩ := h0.slice_inv und52
    obtain ⟨l', rows', hl2', hsl', hrows', -⟩ := h1.slice_inv und53
    simp at hl2 hl2'
    subst hl2 hl2'
    rw [co3] at hsl hrows
    rw [co4] at hsl' hrows'
    obtain ⟨op, rfl⟩ := rows_form (Q := fun r => r.length = 1 ∧ Ty Tryz.prog 3 r) (F := fun p : Int => [AV.s (.int .i64 p)]) (fun r hr => by
      obtain ⟨n, hn, -⟩ := hr.2.int_inv und3
      exact ⟨n, hn⟩) rows hrows
    obtain ⟨wh, rfl⟩ := rows_form (Q := fun r => r.length = 1 ∧ Ty Tryz.prog 4 r) (F := fun p : Bool => [AV.s (.bool p)]) (fun r hr => by
      obtain ⟨n, hn⟩ := hr.2.bool_inv und4
      exact ⟨n, hn⟩) rows' hrows'
    exact ⟨a, b, op, wh, rfl, hsl, hsl'⟩
set_option maxRecDepth 100000 in
/-- A list of strings that comes in. -/
theorem ty_strs {a : AV} (h : Ty Tryz.prog 27 [a]) : ∃ xs : List ByteArray, SlK 1 a (xs.map fun x => [AV.s (.string x)]) ∧ xs.length ≤ 9223372036854775807 ∧ ∀ x ∈ xs, x.size ≤ 9223372036854775807 := by
  obtain ⟨l, rows, hl2, hsl, hrows, hbig⟩ := h.slice_inv und27
  cases hl2
  rw [co9] at hsl hrows
  obtain ⟨xs, rfl⟩ := rows_form (Q := fun r => r.length = 1 ∧ Ty Tryz.prog 9 r) (F := fun p : ByteArray => [AV.s (.string p)]) (fun r hr => by
    obtain ⟨n, hn, -⟩ := hr.2.str_inv und9
    exact ⟨n, hn⟩) rows hrows
  refine ⟨xs, hsl, by rwa [List.length_map] at hbig, fun x hx => ?_⟩
  obtain ⟨n, hn, hle⟩ := (hrows [AV.s (.string x)] (List.mem_map.2 ⟨x, hx, rfl⟩)).2.str_inv und9
  cases hn
  exact hle
theorem run_ofP {m : Int} {e2 e3 : Value} {f : FuncId} {args : List AV} (h : FnC Tryz.prog (glP m e2 e3) f args [] (fun v Hn => v = .s (.bool true) ∧ Hn = [])) : ∃ n σ, runCall Tryz.prog (glP m e2 e3) n f args = some (.s (.bool true), σ) := by
  obtain ⟨n, v, σ, h1, Hn, _, _, rfl, _⟩ := wpf_run (h ⟨.e, 0, none⟩ (.start rfl (fun id _ => by simp [Tr.get_e]) List.nodup_nil (fun p hp => by cases hp)))
  exact ⟨n, σ, h1⟩
set_option maxRecDepth 100000 in
theorem lifted5 (os : Os) (started : os.Started) (H : Type) (enc : TypeId × Value → H) :
    ReturnsInHanded {} Tryz.checked os 5 .any (fun w args => (Rows.reportPairingsSpec.pre enc Tryz.prog Tryz.f5 [] false w args ∧ laidMetH Tryz.prog laidT w) ∧ sizedMet enc Tryz.prog Tryz.f5 (OpenSpec.ofChange Rows.reportPairingsSpec) false w args)
      (Rows.reportPairingsSpec.post enc Tryz.prog Tryz.f5 false true false false) := by
  refine returns_shaped (C := Tryz.checked) (X := fun w _ => laidMetH Tryz.prog laidT w) (fun _ _ _ hh h => h.of_heap hh) own started (by kernel_rfl) Tryz.func5
    (ChangeSpec.witness_shaped (enc := enc) (C := Tryz.checked) (os := os) (X := fun w _ => laidMetH Tryz.prog laidT w) false (World.laidAll Tryz.prog os laidT) #[.slice none 0 0, .agg #[.slice none 0 0, .slice none 0 0], .slice none 0 0] 8 (World.laidAll_os _ _ _)
      (shaped_wit os) (by kernel_rfl) (by kernel_rfl) (by kernel_rfl) (met_wit os _)) ?_
  intro W base args ds gs before hval0 hW hsh hL
  have hval : ∀ (j : Nat) t v, Tryz.f5.params[j]? = some t → args[j]? = some v → Value.okWide Tryz.prog W .any base t v := hval0
  have hW' := hW
  obtain ⟨p, q, hA0, hV, rfl, hfz, hnd⟩ := hW
  have hA : DataW.TrodAll enc Tryz.prog W 0 (fun _ => true) true Tryz.f5.params.toList args.toList ds p := hA0
  rw [Tryz.params5] at hA hval
  obtain ⟨v0, vs0, d0, ds0, p0, q0, ha0, rfl, rfl, h0, hA1⟩ := trodAll_cons hA
  obtain ⟨v1, vs1, d1, ds1, p1, q1, ha1, rfl, rfl, h1, hA2⟩ := trodAll_cons hA1
  obtain ⟨v2, vs2, d2, ds2, p2, q2', rfl, rfl, rfl, h2, hA3⟩ := trodAll_cons hA2
  obtain ⟨rfl, rfl, rfl⟩ := trodAll_nil hA3
  subst ha1
  obtain rfl : args = #[v0, v1, v2] := by cases args; simp_all
  obtain ⟨na, hc0, ht0⟩ := open_one und27 plain27 (hval 0 27 v0 rfl rfl) h0
  obtain ⟨xs, hxs, hb, hz⟩ := ty_strs ht0
  obtain ⟨al, hc1, ht1⟩ := open_agg offs55 plain55 (hval 1 55 v1 rfl rfl) h1
  obtain ⟨ov, wv, op, wh, rfl, hso, hsw⟩ := ty_round ht1
  obtain ⟨la, hc2, ht2⟩ := open_one und27 plain27 (hval 2 27 v2 rfl rfl) h2
  obtain ⟨ys, hys, hb2, -⟩ := ty_strs ht2
  obtain ⟨m, e2, e3, hG, q2, q3⟩ := of_laid hL hsh
  obtain ⟨k, σ, hrun⟩ := run_ofP (law5_fn (m := m) (e2 := e2) (e3 := e3) hxs hys.v hso.v hsw.v hb hz hb2)
  have hr3 := readable5
  refine (run_law fit (givenP q2 q3) hrun (fun g row h => hG g row h) (.cons hc0 (.cons hc1 (.cons hc2 .nil)))).mono fun e W' ⟨ρ, σ, he, hrep⟩ => ⟨_, he, ?_⟩
  refine law_post (f := Tryz.f5) (by rw [Tryz.params5]; exact spec5) laidOut (fun t ht => ?_) (bt := 4) rfl Tryz.underlying4 hW' hrep
  rw [Tryz.params5] at ht
  have := List.all_eq_true.1 hr3 t (by simpa using ht)
  simpa only [Bool.and_eq_true, decide_eq_true_eq] using this

theorem pairings_row : Rows.ReportPairingsSaid :=
  OpenClaim.holds_of_wide 5 Tryz.f5 rfl rfl rfl rfl rfl rfl rfl ⟨rfl, rfl, rfl, rfl, rfl⟩ rfl rfl rfl rfl rfl (by kernel_rfl) Tryz.func5 (by kernel_rfl)
    (of_decide_eq_true (by kernel_rfl)) (by unfold Func.isWrapper; first | (rw [if_pos (by decide +kernel)]; kernel_rfl) | (rw [if_neg (by decide +kernel)]; exact ⟨rfl, rfl⟩))
    (fun os started H enc _ => lifted5 os started H enc)

/-- The card. -/
theorem reportPairings_holds : Rows.ReportPairingsCardSaid :=
  Claim7.holds_tied_plain_at .later [] [.data, .data, .data, .data, .data, .widerDeep, .widerDeep, .widerDeep, .sentinel, .sentinel, .data, .pinned] true (true, "de3af33bbd5bc3dadab467df505a4007a52dc8bd201a7ea136a2c8724fe373c9") true
    pairings_row (fun _ h => by cases h) (by kernel_rfl) (fun _ h => by cases h) reportPairings_row_tie rfl ⟨rfl, rfl⟩ (by kernel_rfl) rfl
    (fun f fn hf hfn => by
      obtain rfl : f = 5 := Option.some.inj ((show Tryz.prog.funcNamed "caissa/caissalaw52.ReportPairings" = some 5 by kernel_rfl).symm.trans hf) |>.symm
      obtain rfl : fn = Tryz.f5 := (Option.some.inj (Tryz.func5.symm.trans hfn)).symm
      exact ⟨by kernel_rfl, fun j t ht => by
        rw [Tryz.params5] at ht
        have hm : t ∈ [27, 55, 27] := by simpa using Array.mem_of_getElem? ht
        have hall : ([27, 55, 27].all fun u => !Tryz.prog.wantsStandIn u) = true := by kernel_rfl
        exact (show Tryz.prog.wantsStandIn t = false by simpa using List.all_eq_true.1 hall t hm)⟩)
    (by kernel_rfl)
#print axioms reportPairings_holds
end Go.Proofs.YtnhnlkljcfbhfaaGreatDoor
