/- The examples of the chapter hold: the run of known() gives true. -/
import Derived.Test.YtldckcopeiginaaAbSb
import Derived.Test.YtldckcopeiginaaRows
namespace Go.Proofs.Ytldckcopeiginaa
open Go.Ab
theorem names_all : (Try.prog.funcs.all fun fn => !(fn.name == "runtime.NumGoroutine")) = true := by kernel_rfl
theorem fit : Fit Try.prog := ⟨fun f fn h => by
    have := Array.all_eq_true'.1 names_all fn (Array.mem_of_getElem? h)
    simpa using this, by kernel_rfl⟩
noncomputable def isTrue : Option (AV × AS) → Bool
  | some (.s (.bool true), _) => true
  | _ => false
theorem known_run : isTrue (runCall Try.prog ⟨fun _ => none, fun _ _ => none⟩ 400 9 []) = true := by kernel_rfl
theorem known_some : ∃ σ, runCall Try.prog ⟨fun _ => none, fun _ _ => none⟩ 400 9 [] = some (.s (.bool true), σ) := by
  have h := known_run
  generalize runCall Try.prog ⟨fun _ => none, fun _ _ => none⟩ 400 9 [] = r at h
  unfold isTrue at h
  split at h
  · exact ⟨_, rfl⟩
  · cases h
end Go.Proofs.Ytldckcopeiginaa
