/- The law ReportTexts holds: whatever the points, the value and the string, called with the listed tables as the program's text lays them, it returns true, and its arguments read as before. -/
import Derived.Test.YtnhnlkljcfbhfaaGreatDoorZd
import Derived.Test.YtnhnlkljcfbhfaaGreatDoorZe
import Derived.ChangeMaps5
namespace Go.Proofs.YtnhnlkljcfbhfaaGreatDoor
open Go Go.Ab Go.ChangeShapes Go.WideShapes Go.ChangeAt Go.WideElems Go.RowKit
theorem spec4 : LawSpec Rows.reportTextsSpec 3 := ⟨rfl, fun H ds hl => by
  match ds, hl with
  | [d1, d2, d3], _ => exact ⟨rfl, rfl, rfl⟩⟩
theorem readable4 : ([3, 40, 9].all fun t => Tryz.prog.readableRec t && decide (t < Tryz.prog.types.size)) = true := by kernel_rfl
theorem co3 : Tryz.prog.cellsOf 3 = 1 := by kernel_rfl
theorem co40 : Tryz.prog.cellsOf 40 = 2 := by kernel_rfl
set_option maxRecDepth 100000 in
/-- A value that comes in: two numbers. -/
theorem open_vv {H : Type} {enc : TypeId × Value → H} {w : World} {r : Reach} {b0 base : Nat} {spare : Nat → Bool} {held : Bool} {v : Value} {d : DataW H} {ps : List MemPlace} (hval : Value.okWide Tryz.prog w r b0 40 v) (hd : DataW.Trod enc Tryz.prog w base spare held 40 v d ps) :
    ∃ a b : Int, v = .agg #[.int .i64 a, .int .i64 b] := by
  obtain ⟨cs, rfl, hs⟩ := okWide_struct Tryz.underlying40 hval
  obtain ⟨fuel, hf⟩ := hd
  obtain ⟨xs, n, _, _, hl, hxl, hel⟩ := DataW.trod_struct Tryz.underlying40 hf
  rw [co40] at hs
  obtain ⟨l⟩ := cs
  match l, hs with
  | [x, y], _ =>
    have h0 := hel 0 _ rfl
    have h1 := hel 1 _ rfl
    have hx2 : xs.length = 2 := hxl
    rw [List.getElem?_eq_getElem (by omega)] at h0 h1
    obtain ⟨a, ha, _⟩ := DataW.trod_int Tryz.underlying3 h0
    obtain ⟨b, hb, _⟩ := DataW.trod_int Tryz.underlying3 h1
    have ha1 : ([x, y].drop 0).take (Tryz.prog.cellsOf 3) = [Value.int .i64 a] := ha
    have hb1 : ([x, y].drop 1).take (Tryz.prog.cellsOf 3) = [Value.int .i64 b] := hb
    rw [co3] at ha1 hb1
    have ha' : [x] = [Value.int .i64 a] := ha1
    have hb' : [y] = [Value.int .i64 b] := hb1
    cases ha'; cases hb'
    exact ⟨a, b, rfl⟩
set_option maxRecDepth 100000 in
theorem lifted4 (os : Os) (started : os.Started) (H : Type) (enc : TypeId × Value → H) :
    ReturnsInHanded {} Tryz.checked os 4 .any (fun w args => (Rows.reportTextsSpec.pre enc Tryz.prog Tryz.f4 [] false w args ∧ laidMetH Tryz.prog laidT w) ∧ sizedMet enc Tryz.prog Tryz.f4 (OpenSpec.ofChange Rows.reportTextsSpec) false w args)
      (Rows.reportTextsSpec.post enc Tryz.prog Tryz.f4 false true false false) := by
  refine returns_shaped (C := Tryz.checked) (X := fun w _ => laidMetH Tryz.prog laidT w) (fun _ _ _ hh h => h.of_heap hh) own started (by kernel_rfl) Tryz.func4
    (ChangeSpec.witness_shaped (enc := enc) (C := Tryz.checked) (os := os) (X := fun w _ => laidMetH Tryz.prog laidT w) false (World.laidAll Tryz.prog os laidT) #[.int .i64 0, .agg #[.int .i64 0, .int .i64 0], .string ⟨#[]⟩] 8 (World.laidAll_os _ _ _)
      (shaped_wit os) (by kernel_rfl) (by kernel_rfl) (by kernel_rfl) (met_wit os _)) ?_
  intro W base args ds gs before hval0 hW hsh hL
  have hval : ∀ (j : Nat) t v, Tryz.f4.params[j]? = some t → args[j]? = some v → Value.okWide Tryz.prog W .any base t v := hval0
  have hW' := hW
  obtain ⟨p, q, hA0, hV, rfl, hfz, hnd⟩ := hW
  have hA : DataW.TrodAll enc Tryz.prog W 0 (fun _ => true) true Tryz.f4.params.toList args.toList ds p := hA0
  rw [Tryz.params4] at hA hval
  obtain ⟨v0, v1, v2, d0, d1, d2, p0, p1, p2, rfl, rfl, rfl, h0, h1, h2⟩ := trodAll_three hA
  obtain ⟨n, rfl, rfl, rfl, w0⟩ := open_int Tryz.underlying3 (hval 0 3 v0 rfl rfl) h0
  obtain ⟨r, p, rfl⟩ := open_vv (hval 1 40 v1 rfl rfl) h1
  obtain ⟨s, rfl, rfl, rfl, w2⟩ := Go.ChangeMaps.open_string Tryz.underlying9 (hval 2 9 v2 rfl rfl) h2
  obtain ⟨m, e2, e3, hG, q2, q3⟩ := of_laid hL hsh
  obtain ⟨k, σ, hrun⟩ := run_of (law4_fn (m := m) (e2 := e2) (e3 := e3) n r p s)
  have hr4 := readable4
  refine (run_law fit (givenK q2 q3) hrun hG (.cons (.s _) (.cons (.s _) (.cons (.s _) .nil)))).mono fun e W' ⟨ρ, σ, he, hrep⟩ => ⟨_, he, ?_⟩
  refine law_post (f := Tryz.f4) (by rw [Tryz.params4]; exact spec4) laidOut (fun t ht => ?_) (bt := 4) rfl Tryz.underlying4 hW' hrep
  rw [Tryz.params4] at ht
  have := List.all_eq_true.1 hr4 t (by simpa using ht)
  simpa only [Bool.and_eq_true, decide_eq_true_eq] using this

theorem texts_row : Rows.ReportTextsSaid :=
  OpenClaim.holds_of_wide 4 Tryz.f4 rfl rfl rfl rfl rfl rfl rfl ⟨rfl, rfl, rfl, rfl, rfl⟩ rfl rfl rfl rfl rfl (by kernel_rfl) Tryz.func4 (by kernel_rfl)
    (of_decide_eq_true (by kernel_rfl)) (by unfold Func.isWrapper; first | (rw [if_pos (by decide +kernel)]; kernel_rfl) | (rw [if_neg (by decide +kernel)]; exact ⟨rfl, rfl⟩))
    (fun os started H enc _ => lifted4 os started H enc)

/-- The card. -/
theorem reportTexts_holds : Rows.ReportTextsCardSaid :=
  Claim7.holds_tied_plain_at .later [] [.data, .data, .data, .data, .data, .widerDeep, .widerDeep, .widerDeep, .sentinel, .sentinel, .data, .pinned] true (true, "de3af33bbd5bc3dadab467df505a4007a52dc8bd201a7ea136a2c8724fe373c9") true
    texts_row (fun _ h => by cases h) (by kernel_rfl) (fun _ h => by cases h) reportTexts_row_tie rfl ⟨rfl, rfl⟩ (by kernel_rfl) rfl
    (fun f fn hf hfn => by
      obtain rfl : f = 4 := Option.some.inj ((show Tryz.prog.funcNamed "caissa/caissalaw52.ReportTexts" = some 4 by kernel_rfl).symm.trans hf) |>.symm
      obtain rfl : fn = Tryz.f4 := (Option.some.inj (Tryz.func4.symm.trans hfn)).symm
      exact ⟨by kernel_rfl, fun j t ht => by
        rw [Tryz.params4] at ht
        have hm : t ∈ [3, 40, 9] := by simpa using Array.mem_of_getElem? ht
        have hall : ([3, 40, 9].all fun u => !Tryz.prog.wantsStandIn u) = true := by kernel_rfl
        exact (show Tryz.prog.wantsStandIn t = false by simpa using List.all_eq_true.1 hall t hm)⟩)
    (by kernel_rfl)
#print axioms reportTexts_holds
end Go.Proofs.YtnhnlkljcfbhfaaGreatDoor
