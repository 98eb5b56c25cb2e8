/- The law TournamentNone, run on nil and zero tournaments and on the chapter's example: it gives true, whatever the numbers. -/
import Derived.Test.YthdgpkhljpfpiaaGreatDoorAbIn
import Derived.Test.YthdgpkhljpfpiaaGreatDoorRows
namespace Go.Proofs.YthdgpkhljpfpiaaGreatDoor
open Go.Ab
def tab (k : IntKind) (l : List Int) : List AV := l.map fun n => .s (.int k n)
def tab32 : List AV := tab .u8 [0, 1, 28, 2, 29, 14, 24, 3, 30, 22, 20, 15, 25, 17, 4, 8, 31, 27, 13, 23, 21, 19, 16, 7, 26, 12, 18, 6, 11, 5, 10, 9]
def tab64 : List AV := tab .u8 [0, 1, 56, 2, 57, 49, 28, 3, 61, 58, 42, 50, 38, 29, 17, 4, 62, 47, 59, 36, 45, 43, 51, 22, 53, 39, 33, 30, 24, 18, 12, 5, 63, 55, 48, 27, 60, 41, 37, 16, 46, 35, 44, 21, 52, 32, 23, 11, 54, 26, 40, 15, 34, 20, 31, 10, 25, 14, 19, 9, 13, 8, 7, 6]
def tabLim : List AV := tab .i64 [3, 10, 17, 25, 32, 39, 46, 53, 61, 68, 76, 83, 91, 98, 106, 113, 121, 129, 137, 145, 153, 162, 170, 179, 188, 197, 206, 215, 225, 235, 245, 256, 267, 278, 290, 302, 315, 328, 344, 357, 374, 391]
noncomputable def tabs : Gl := ⟨fun g => match g with
  | 0 => some tab32
  | 1 => some tab64
  | 2 => some tabLim
  | _ => none, fun _ _ => none⟩
noncomputable def isTrue : Option (AV × AS) → Bool
  | some (.s (.bool true), _) => true
  | _ => false
theorem names_all : (Tryz.prog.funcs.all fun fn => !(fn.name == "runtime.NumGoroutine")) = true := by kernel_rfl
theorem fit : Fit Tryz.prog := ⟨fun f fn h => by
    have := Array.all_eq_true'.1 names_all fn (Array.mem_of_getElem? h)
    simpa using this, by kernel_rfl⟩
theorem law_run (white points : Int) : isTrue (runCall Tryz.prog tabs 400 3 [.s (.int .i64 white), .s (.int .i64 points)]) = true := by kernel_rfl
end Go.Proofs.YthdgpkhljpfpiaaGreatDoor
