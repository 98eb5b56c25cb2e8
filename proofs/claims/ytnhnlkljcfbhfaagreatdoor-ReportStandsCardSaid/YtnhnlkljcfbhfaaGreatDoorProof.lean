/- The law ReportStands holds: whatever the names, the rounds and the kinds, called with the listed tables as the program's text lays them, it returns true, and its arguments read as before. -/
import Derived.Test.YtnhnlkljcfbhfaaGreatDoorZh
import Derived.Test.YtnhnlkljcfbhfaaGreatDoorZc
import Derived.ChangeMaps5
namespace Go.Proofs.YtnhnlkljcfbhfaaGreatDoor
open Go Go.Ab Go.ChangeShapes Go.WideShapes Go.ChangeAt Go.WideElems Go.RowKit
theorem spec6 : LawSpec Rows.reportStandsSpec 3 := ⟨rfl, fun H ds hl => by
  match ds, hl with
  | [d1, d2, d3], _ => exact ⟨rfl, rfl, rfl⟩⟩
theorem readable6 : ([27, 63, 64].all fun t => Tryz.prog.readableRec t && decide (t < Tryz.prog.types.size)) = true := by kernel_rfl
theorem co3 : Tryz.prog.cellsOf 3 = 1 := by kernel_rfl
theorem co9 : Tryz.prog.cellsOf 9 = 1 := by kernel_rfl
theorem co65 : Tryz.prog.cellsOf 65 = 1 := by kernel_rfl
theorem co73 : Tryz.prog.cellsOf 73 = 1 := by kernel_rfl
theorem co122 : Tryz.prog.cellsOf 122 = 3 := by kernel_rfl
theorem offs122 : isOffs (Tryz.prog.underlying 122) [(3, 0), (3, 1), (3, 2)] = true := by kernel_rfl
theorem plain27 : plainTy Tryz.prog 8 27 = true := by kernel_rfl
theorem plain63 : plainTy Tryz.prog 8 63 = true := by kernel_rfl
theorem plain64 : plainTy Tryz.prog 8 64 = true := by kernel_rfl
theorem und63 : Tryz.prog.underlying 63 = some (.slice 65) := by kernel_rfl
theorem und65 : Tryz.prog.underlying 65 = some (.slice 122) := by kernel_rfl
theorem und64 : Tryz.prog.underlying 64 = some (.slice 73) := by kernel_rfl
theorem und73 : Tryz.prog.underlying 73 = some (.int .i64) := by kernel_rfl
theorem und27 : Tryz.prog.underlying 27 = some (.slice 9) := by kernel_rfl
theorem und9 : Tryz.prog.underlying 9 = some .string := by kernel_rfl
theorem und3 : Tryz.prog.underlying 3 = some (.int .i64) := by kernel_rfl
set_option maxRecDepth 100000 in
theorem ty_score {al : List AV} (h : Ty Tryz.prog 122 al) : ∃ g : Tb.Sc, al = Tb.cells3 g := by
  obtain ⟨hl, hm⟩ := h.struct_inv offs122
  rw [co122] at hl
  match al, hl with
  | [a, b, c], _ =>
    have h0 := hm (3, 0) (by simp)
    have h1 := hm (3, 1) (by simp)
    have h2 := hm (3, 2) (by simp)
    simp only [co3] at h0 h1 h2
    obtain ⟨x, hx, -⟩ := h0.int_inv und3
    obtain ⟨y, hy, -⟩ := h1.int_inv und3
    obtain ⟨z, hz, -⟩ := h2.int_inv und3
    simp at hx hy hz
    subst hx hy hz
    exact ⟨⟨x, y, z⟩, rfl⟩
set_option maxRecDepth 100000 in
theorem ty_games {a : AV} (h : Ty Tryz.prog 65 [a]) : ∃ gs : List Tb.Sc, Tb.GV gs a ∧ gs.length ≤ 9223372036854775807 := by
  obtain ⟨l, rows, hl2, hsl, hrows, hbig⟩ := h.slice_inv und65
  cases hl2
  rw [co122] at hsl hrows
  obtain ⟨gs, rfl⟩ := rows_form (Q := fun r => r.length = 3 ∧ Ty Tryz.prog 122 r) (F := Tb.cells3) (fun r hr => ty_score hr.2) rows hrows
  exact ⟨gs, hsl.v, by rwa [List.length_map] at hbig⟩
theorem games_all : ∀ axs : List AV, (∀ x ∈ axs, ∃ gs : List Tb.Sc, Tb.GV gs x ∧ gs.length ≤ 9223372036854775807) → ∃ rs : List (List Tb.Sc), axs.length = rs.length ∧ (∀ (i : Nat) (h : i < rs.length) (h' : i < axs.length), Tb.GV rs[i] axs[i]) ∧ ∀ gs ∈ rs, gs.length ≤ 9223372036854775807
  | [], _ => ⟨[], rfl, fun i h => (by cases h), fun gs h => (by cases h)⟩
  | x :: axs, h => by
    obtain ⟨gs, h1, h2⟩ := h x List.mem_cons_self
    obtain ⟨rs, h3, h4, h5⟩ := games_all axs fun y hy => h y (List.mem_cons_of_mem _ hy)
    refine ⟨gs :: rs, by simp [h3], fun i hi hi' => ?_, fun g hg => ?_⟩
    · cases i with
      | zero => exact h1
      | succ i => exact h4 i (by simpa using hi) (by simpa using hi')
    · rcases List.mem_cons.1 hg with rfl | hg
      · exact h2
      · exact h5 g hg
set_option maxRecDepth 100000 in
theorem ty_rounds {a : AV} (h : Ty Tryz.prog 63 [a]) : ∃ rs axs, Tb.RV rs a axs := by
  obtain ⟨l, rows, hl2, hsl, hrows, hbig⟩ := h.slice_inv und63
  cases hl2
  rw [co65] at hsl hrows
  obtain ⟨axs, rfl⟩ := rows_form (Q := fun r => r.length = 1 ∧ Ty Tryz.prog 65 r) (F := fun x : AV => [x]) (fun r hr => by
    obtain ⟨h1, h2⟩ := hr
    match r, h1 with
    | [x], _ => exact ⟨x, rfl⟩) rows hrows
  obtain ⟨rs, h1, h2, h3⟩ := games_all axs fun x hx => ty_games (hrows [x] (List.mem_map.2 ⟨x, hx, rfl⟩)).2
  exact ⟨rs, axs, hsl.v, h1, h2, by rw [List.length_map] at hbig; omega, h3⟩
set_option maxRecDepth 100000 in
theorem ty_kinds {a : AV} (h : Ty Tryz.prog 64 [a]) : ∃ ks : List Int, SlK 1 a (Tb.ints ks) ∧ ks.length ≤ 9223372036854775807 := by
  obtain ⟨l, rows, hl2, hsl, hrows, hbig⟩ := h.slice_inv und64
  cases hl2
  rw [co73] at hsl hrows
  obtain ⟨ks, rfl⟩ := rows_form (Q := fun r => r.length = 1 ∧ Ty Tryz.prog 73 r) (F := fun p : Int => [AV.s (.int .i64 p)]) (fun r hr => by
    obtain ⟨n, hn, -⟩ := hr.2.int_inv und73
    exact ⟨n, hn⟩) rows hrows
  exact ⟨ks, hsl, by rwa [List.length_map] at hbig⟩
set_option maxRecDepth 100000 in
theorem ty_strs {a : AV} (h : Ty Tryz.prog 27 [a]) : ∃ xs : List ByteArray, SlK 1 a (xs.map fun x => [AV.s (.string x)]) ∧ xs.length ≤ 9223372036854775807 ∧ ∀ x ∈ xs, x.size ≤ 9223372036854775807 := by
  obtain ⟨l, rows, hl2, hsl, hrows, hbig⟩ := h.slice_inv und27
  cases hl2
  rw [co9] at hsl hrows
  obtain ⟨xs, rfl⟩ := rows_form (Q := fun r => r.length = 1 ∧ Ty Tryz.prog 9 r) (F := fun p : ByteArray => [AV.s (.string p)]) (fun r hr => by
    obtain ⟨n, hn, -⟩ := hr.2.str_inv und9
    exact ⟨n, hn⟩) rows hrows
  refine ⟨xs, hsl, by rwa [List.length_map] at hbig, fun x hx => ?_⟩
  obtain ⟨n, hn, hle⟩ := (hrows [AV.s (.string x)] (List.mem_map.2 ⟨x, hx, rfl⟩)).2.str_inv und9
  cases hn
  exact hle
set_option maxRecDepth 100000 in
theorem lifted6 (os : Os) (started : os.Started) (H : Type) (enc : TypeId × Value → H) :
    ReturnsInHanded {} Tryz.checked os 6 .any (fun w args => (Rows.reportStandsSpec.pre enc Tryz.prog Tryz.f6 [] false w args ∧ laidMetH Tryz.prog laidT w) ∧ sizedMet enc Tryz.prog Tryz.f6 (OpenSpec.ofChange Rows.reportStandsSpec) false w args)
      (Rows.reportStandsSpec.post enc Tryz.prog Tryz.f6 false true false false) := by
  refine returns_shaped (C := Tryz.checked) (X := fun w _ => laidMetH Tryz.prog laidT w) (fun _ _ _ hh h => h.of_heap hh) own started (by kernel_rfl) Tryz.func6
    (ChangeSpec.witness_shaped (enc := enc) (C := Tryz.checked) (os := os) (X := fun w _ => laidMetH Tryz.prog laidT w) false (World.laidAll Tryz.prog os laidT) #[.slice none 0 0, .slice none 0 0, .slice none 0 0] 8 (World.laidAll_os _ _ _)
      (shaped_wit os) (by kernel_rfl) (by kernel_rfl) (by kernel_rfl) (met_wit os _)) ?_
  intro W base args ds gs before hval0 hW hsh hL
  have hval : ∀ (j : Nat) t v, Tryz.f6.params[j]? = some t → args[j]? = some v → Value.okWide Tryz.prog W .any base t v := hval0
  have hW' := hW
  obtain ⟨p, q, hA0, hV, rfl, hfz, hnd⟩ := hW
  have hA : DataW.TrodAll enc Tryz.prog W 0 (fun _ => true) true Tryz.f6.params.toList args.toList ds p := hA0
  rw [Tryz.params6] at hA hval
  obtain ⟨v0, vs0, d0, ds0, p0, q0, ha0, rfl, rfl, h0, hA1⟩ := trodAll_cons hA
  obtain ⟨v1, vs1, d1, ds1, p1, q1, ha1, rfl, rfl, h1, hA2⟩ := trodAll_cons hA1
  obtain ⟨v2, vs2, d2, ds2, p2, q2', rfl, rfl, rfl, h2, hA3⟩ := trodAll_cons hA2
  obtain ⟨rfl, rfl, rfl⟩ := trodAll_nil hA3
  subst ha1
  obtain rfl : args = #[v0, v1, v2] := by cases args; simp_all
  obtain ⟨na, hc0, ht0⟩ := open_one und27 plain27 (hval 0 27 v0 rfl rfl) h0
  obtain ⟨xs, hxs, hb, hz⟩ := ty_strs ht0
  obtain ⟨ra, hc1, ht1⟩ := open_one und63 plain63 (hval 1 63 v1 rfl rfl) h1
  obtain ⟨rs, axs, hrv⟩ := ty_rounds ht1
  obtain ⟨ka, hc2, ht2⟩ := open_one und64 plain64 (hval 2 64 v2 rfl rfl) h2
  obtain ⟨ks, hks, hkb⟩ := ty_kinds ht2
  obtain ⟨m, e2, e3, hG, q2, q3⟩ := of_laid hL hsh
  obtain ⟨k, σ, hrun⟩ := run_of (Tb.law6_fn (m := m) (e2 := e2) (e3 := e3) hrv hxs hks hb hz hkb)
  have hr3 := readable6
  refine (run_law fit (givenK q2 q3) hrun (fun g row h => hG g row h) (.cons hc0 (.cons hc1 (.cons hc2 .nil)))).mono fun e W' ⟨ρ, σ, he, hrep⟩ => ⟨_, he, ?_⟩
  refine law_post (f := Tryz.f6) (by rw [Tryz.params6]; exact spec6) laidOut (fun t ht => ?_) (bt := 4) rfl Tryz.underlying4 hW' hrep
  rw [Tryz.params6] at ht
  have := List.all_eq_true.1 hr3 t (by simpa using ht)
  simpa only [Bool.and_eq_true, decide_eq_true_eq] using this

theorem stands_row : Rows.ReportStandsSaid :=
  OpenClaim.holds_of_wide 6 Tryz.f6 rfl rfl rfl rfl rfl rfl rfl ⟨rfl, rfl, rfl, rfl, rfl⟩ rfl rfl rfl rfl rfl (by kernel_rfl) Tryz.func6 (by kernel_rfl)
    (of_decide_eq_true (by kernel_rfl)) (by unfold Func.isWrapper; first | (rw [if_pos (by decide +kernel)]; kernel_rfl) | (rw [if_neg (by decide +kernel)]; exact ⟨rfl, rfl⟩))
    (fun os started H enc _ => lifted6 os started H enc)

theorem reportStands_holds : Rows.ReportStandsCardSaid :=
  Claim7.holds_tied_plain_at .later [] [.data, .data, .data, .data, .data, .widerDeep, .widerDeep, .widerDeep, .sentinel, .sentinel, .data, .pinned] true (true, "de3af33bbd5bc3dadab467df505a4007a52dc8bd201a7ea136a2c8724fe373c9") true
    stands_row (fun _ h => by cases h) (by kernel_rfl) (fun _ h => by cases h) reportStands_row_tie rfl ⟨rfl, rfl⟩ (by kernel_rfl) rfl
    (fun f fn hf hfn => by
      obtain rfl : f = 6 := Option.some.inj ((show Tryz.prog.funcNamed "caissa/caissalaw52.ReportStands" = some 6 by kernel_rfl).symm.trans hf) |>.symm
      obtain rfl : fn = Tryz.f6 := (Option.some.inj (Tryz.func6.symm.trans hfn)).symm
      exact ⟨by kernel_rfl, fun j t ht => by
        rw [Tryz.params6] at ht
        have hm : t ∈ [27, 63, 64] := by simpa using Array.mem_of_getElem? ht
        have hall : ([27, 63, 64].all fun u => !Tryz.prog.wantsStandIn u) = true := by kernel_rfl
        exact (show Tryz.prog.wantsStandIn t = false by simpa using List.all_eq_true.1 hall t hm)⟩)
    (by kernel_rfl)
#print axioms reportStands_holds
end Go.Proofs.YtnhnlkljcfbhfaaGreatDoor
