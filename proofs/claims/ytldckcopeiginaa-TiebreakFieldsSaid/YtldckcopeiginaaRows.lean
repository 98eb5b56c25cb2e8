/-
  No cell of these rows narrows 'for every input' (looked for: loops, veiled, ifaces, maps, wideKeys, modest, calm, conditions, laid).
  DERIVED. THE GIVEN ROWS OF THIS SEAT. 5 by the template 'for every input the law returns true; each argument reads behind the call as it read before'; 0 by the template 'total and deterministic' (their statements: YtldckcopeiginaaTotals.lean).
  GIVEN WITH THE SEED: the statements are not yours to turn. If you find one false, say at which input.
  Laid BY PROGRAM, IN A SANDBOX (cutbox-rows.mjs): the forced cells as the released guide's own fill.sh prints them over the translation 70515d2f260feab0… (all of the seat's roots in one cut). By AI agents, Wed Nov 11 2026. No macro, syntax, notation, axiom, sorry.
-/
import Derived.Test.YtldckcopeiginaaChecked
import GoSem.Claim
import GoSem.ClaimJoined
import GoSem.ClaimMapViews
import Derived.JoinedTies
import Derived.KernelRfl
namespace Go.Proofs.Ytldckcopeiginaa
/- THE CELL 'sum', in the pinned program and in every row, IS THE sha256 OF THE DUMP (.gsa) THAT YtldckcopeiginaaProg.lean LOADS. Nothing in Lean hashes anything: it is a label: what it is worth is what the hold of that sum in a sandbox is worth. -/
noncomputable def Try.pinned : Pinned := { name := "ytldckcopeiginaa", sum := "70515d2f260feab0aed66cc794fa08d411e12c65d957b6f70f1f19e93c9fcf37", checked := Try.checked }
namespace Rows
def none {H : Type} : Left H := { results := [], args := [] }

/-- 'caissalaw44.TiebreakScores': WHATEVER THE INPUT: true; the input reads as it did. -/
def tiebreakScoresSpec : ChangeSpec := { name := "tiebreakScores", fn := fun _ => fun
  | [d1, d2] => { results := [.lit (.bool true)], args := [d1, d2] }
  | _ => none }
def tiebreakScoresRow : OpenClaim := { program := "ytldckcopeiginaa", sum := "70515d2f260feab0aed66cc794fa08d411e12c65d957b6f70f1f19e93c9fcf37", func := "caissa/caissalaw44.TiebreakScores", spec := "tiebreakScores", unfollowed := true, recurses := true, plainKeys := false, apart := false }
def TiebreakScoresSaid : Prop := tiebreakScoresRow.holds Try.pinned (OpenSpec.ofChange tiebreakScoresSpec)

/-- ITS FALSE NEIGHBOUR: 'it returns false'. Refute it at one input. -/
def tiebreakScoresWrong : ChangeSpec := { name := "tiebreakScores", fn := fun _ => fun
  | [d1, d2] => { results := [.lit (.bool false)], args := [d1, d2] }
  | _ => none }
def TiebreakScoresWrongFalsely : Prop := tiebreakScoresRow.holds Try.pinned (OpenSpec.ofChange tiebreakScoresWrong)

/-- 'caissalaw44.TiebreakValues': WHATEVER THE INPUT: true; the input reads as it did. -/
def tiebreakValuesSpec : ChangeSpec := { name := "tiebreakValues", fn := fun _ => fun
  | [d1, d2, d3, d4] => { results := [.lit (.bool true)], args := [d1, d2, d3, d4] }
  | _ => none }
def tiebreakValuesRow : OpenClaim := { program := "ytldckcopeiginaa", sum := "70515d2f260feab0aed66cc794fa08d411e12c65d957b6f70f1f19e93c9fcf37", func := "caissa/caissalaw44.TiebreakValues", spec := "tiebreakValues", unfollowed := true, recurses := true, plainKeys := false, apart := false }
def TiebreakValuesSaid : Prop := tiebreakValuesRow.holds Try.pinned (OpenSpec.ofChange tiebreakValuesSpec)

/-- ITS FALSE NEIGHBOUR: 'it returns false'. Refute it at one input. -/
def tiebreakValuesWrong : ChangeSpec := { name := "tiebreakValues", fn := fun _ => fun
  | [d1, d2, d3, d4] => { results := [.lit (.bool false)], args := [d1, d2, d3, d4] }
  | _ => none }
def TiebreakValuesWrongFalsely : Prop := tiebreakValuesRow.holds Try.pinned (OpenSpec.ofChange tiebreakValuesWrong)

/-- 'caissalaw44.TiebreakStands': WHATEVER THE INPUT: true; the input reads as it did. -/
def tiebreakStandsSpec : ChangeSpec := { name := "tiebreakStands", fn := fun _ => fun
  | [d1, d2, d3] => { results := [.lit (.bool true)], args := [d1, d2, d3] }
  | _ => none }
def tiebreakStandsRow : OpenClaim := { program := "ytldckcopeiginaa", sum := "70515d2f260feab0aed66cc794fa08d411e12c65d957b6f70f1f19e93c9fcf37", func := "caissa/caissalaw44.TiebreakStands", spec := "tiebreakStands", unfollowed := true, recurses := true, plainKeys := false, apart := false }
def TiebreakStandsSaid : Prop := tiebreakStandsRow.holds Try.pinned (OpenSpec.ofChange tiebreakStandsSpec)

/-- ITS FALSE NEIGHBOUR: 'it returns false'. Refute it at one input. -/
def tiebreakStandsWrong : ChangeSpec := { name := "tiebreakStands", fn := fun _ => fun
  | [d1, d2, d3] => { results := [.lit (.bool false)], args := [d1, d2, d3] }
  | _ => none }
def TiebreakStandsWrongFalsely : Prop := tiebreakStandsRow.holds Try.pinned (OpenSpec.ofChange tiebreakStandsWrong)

/-- 'caissalaw44.TiebreakHolds': WHATEVER THE INPUT: true; the input reads as it did. -/
def tiebreakHoldsSpec : ChangeSpec := { name := "tiebreakHolds", fn := fun _ => fun
  | [d1, d2, d3, d4, d5, d6] => { results := [.lit (.bool true)], args := [d1, d2, d3, d4, d5, d6] }
  | _ => none }
def tiebreakHoldsRow : OpenClaim := { program := "ytldckcopeiginaa", sum := "70515d2f260feab0aed66cc794fa08d411e12c65d957b6f70f1f19e93c9fcf37", func := "caissa/caissalaw44.TiebreakHolds", spec := "tiebreakHolds", unfollowed := true, recurses := true, plainKeys := false, apart := false }
def TiebreakHoldsSaid : Prop := tiebreakHoldsRow.holds Try.pinned (OpenSpec.ofChange tiebreakHoldsSpec)

/-- ITS FALSE NEIGHBOUR: 'it returns false'. Refute it at one input. -/
def tiebreakHoldsWrong : ChangeSpec := { name := "tiebreakHolds", fn := fun _ => fun
  | [d1, d2, d3, d4, d5, d6] => { results := [.lit (.bool false)], args := [d1, d2, d3, d4, d5, d6] }
  | _ => none }
def TiebreakHoldsWrongFalsely : Prop := tiebreakHoldsRow.holds Try.pinned (OpenSpec.ofChange tiebreakHoldsWrong)

/-- 'caissalaw44.TiebreakFields': WHATEVER THE INPUT: true; the input reads as it did. -/
def tiebreakFieldsSpec : ChangeSpec := { name := "tiebreakFields", fn := fun _ => fun
  | [d1, d2, d3] => { results := [.lit (.bool true)], args := [d1, d2, d3] }
  | _ => none }
def tiebreakFieldsRow : OpenClaim := { program := "ytldckcopeiginaa", sum := "70515d2f260feab0aed66cc794fa08d411e12c65d957b6f70f1f19e93c9fcf37", func := "caissa/caissalaw44.TiebreakFields", spec := "tiebreakFields", inPlace := ["slices.overlaps[int]"], unfollowed := true, recurses := true, plainKeys := false, apart := false }
def TiebreakFieldsSaid : Prop := tiebreakFieldsRow.holds Try.pinned (OpenSpec.ofChange tiebreakFieldsSpec)

/-- ITS FALSE NEIGHBOUR: 'it returns false'. Refute it at one input. -/
def tiebreakFieldsWrong : ChangeSpec := { name := "tiebreakFields", fn := fun _ => fun
  | [d1, d2, d3] => { results := [.lit (.bool false)], args := [d1, d2, d3] }
  | _ => none }
def TiebreakFieldsWrongFalsely : Prop := tiebreakFieldsRow.holds Try.pinned (OpenSpec.ofChange tiebreakFieldsWrong)

/- THE SECOND FORM. 'bulk': how many values and letters a reading holds, each counted each time it is reached (what is shared counts as often as it is met; a slice's spare places count too). A statement '..UptoSaid' is the law's where the arguments, and the package variables that the reading takes, are together of bulk at most 1048576: NARROWER than '..Said'. Prove '..Said' where nothing that the law and all that it calls make is longer than what came in: it says more and counts as full. Else prove '..UptoSaid'. A law counts once. -/
mutual
def uptoBulk {H : Type} : DataW H → Nat
  | .lit (.string bytes) => bytes.length + 1
  | .lit _ => 1
  | .nil => 1
  | .ptr d => uptoBulk d + 1
  | .slice elems spare => uptoBulkAll elems + uptoBulkAll spare + 1
  | .agg parts => uptoBulkAll parts + 1
  | .iface _ d => uptoBulk d + 1
  | .map entries => uptoBulkEntries entries + 1
  | .held _ => 1
def uptoBulkAll {H : Type} : List (DataW H) → Nat
  | [] => 0
  | d :: r => uptoBulk d + uptoBulkAll r
def uptoBulkEntries {H : Type} : List (Lit × DataW H) → Nat
  | [] => 0
  | x :: r => uptoBulkEntry x + uptoBulkEntries r
def uptoBulkEntry {H : Type} : Lit × DataW H → Nat
  | (.string bytes, d) => bytes.length + uptoBulk d + 1
  | (_, d) => uptoBulk d + 1
 end
def uptoSmall : (H : Type) → List (DataW H) → Bool := fun _ ds => decide (uptoBulkAll ds ≤ 1048576)
def OpenSpec.upto (s : _root_.Go.ChangeSpec) : _root_.Go.OpenSpec := { _root_.Go.OpenSpec.ofChange s with cond := some uptoSmall }

/-- 'caissalaw44.TiebreakScores', WHERE WHAT IT READS IS OF BULK AT MOST 1048576: true; the input reads as it did. -/
def tiebreakScoresUptoRow : OpenClaim := { program := "ytldckcopeiginaa", sum := "70515d2f260feab0aed66cc794fa08d411e12c65d957b6f70f1f19e93c9fcf37", func := "caissa/caissalaw44.TiebreakScores", spec := "tiebreakScores", unfollowed := true, recurses := true, plainKeys := false, apart := false, narrowed := true }
def TiebreakScoresUptoSaid : Prop := tiebreakScoresUptoRow.holds Try.pinned (OpenSpec.upto tiebreakScoresSpec)

/-- 'caissalaw44.TiebreakValues', WHERE WHAT IT READS IS OF BULK AT MOST 1048576: true; the input reads as it did. -/
def tiebreakValuesUptoRow : OpenClaim := { program := "ytldckcopeiginaa", sum := "70515d2f260feab0aed66cc794fa08d411e12c65d957b6f70f1f19e93c9fcf37", func := "caissa/caissalaw44.TiebreakValues", spec := "tiebreakValues", unfollowed := true, recurses := true, plainKeys := false, apart := false, narrowed := true }
def TiebreakValuesUptoSaid : Prop := tiebreakValuesUptoRow.holds Try.pinned (OpenSpec.upto tiebreakValuesSpec)

/-- 'caissalaw44.TiebreakStands', WHERE WHAT IT READS IS OF BULK AT MOST 1048576: true; the input reads as it did. -/
def tiebreakStandsUptoRow : OpenClaim := { program := "ytldckcopeiginaa", sum := "70515d2f260feab0aed66cc794fa08d411e12c65d957b6f70f1f19e93c9fcf37", func := "caissa/caissalaw44.TiebreakStands", spec := "tiebreakStands", unfollowed := true, recurses := true, plainKeys := false, apart := false, narrowed := true }
def TiebreakStandsUptoSaid : Prop := tiebreakStandsUptoRow.holds Try.pinned (OpenSpec.upto tiebreakStandsSpec)

/-- 'caissalaw44.TiebreakHolds', WHERE WHAT IT READS IS OF BULK AT MOST 1048576: true; the input reads as it did. -/
def tiebreakHoldsUptoRow : OpenClaim := { program := "ytldckcopeiginaa", sum := "70515d2f260feab0aed66cc794fa08d411e12c65d957b6f70f1f19e93c9fcf37", func := "caissa/caissalaw44.TiebreakHolds", spec := "tiebreakHolds", unfollowed := true, recurses := true, plainKeys := false, apart := false, narrowed := true }
def TiebreakHoldsUptoSaid : Prop := tiebreakHoldsUptoRow.holds Try.pinned (OpenSpec.upto tiebreakHoldsSpec)

/-- 'caissalaw44.TiebreakFields', WHERE WHAT IT READS IS OF BULK AT MOST 1048576: true; the input reads as it did. -/
def tiebreakFieldsUptoRow : OpenClaim := { program := "ytldckcopeiginaa", sum := "70515d2f260feab0aed66cc794fa08d411e12c65d957b6f70f1f19e93c9fcf37", func := "caissa/caissalaw44.TiebreakFields", spec := "tiebreakFields", inPlace := ["slices.overlaps[int]"], unfollowed := true, recurses := true, plainKeys := false, apart := false, narrowed := true }
def TiebreakFieldsUptoSaid : Prop := tiebreakFieldsUptoRow.holds Try.pinned (OpenSpec.upto tiebreakFieldsSpec)

end Rows
end Go.Proofs.Ytldckcopeiginaa
