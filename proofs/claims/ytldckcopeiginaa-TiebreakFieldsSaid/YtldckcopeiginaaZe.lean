/- What the types of the program are. -/
import Derived.Test.YtldckcopeiginaaZc
import Derived.Test.YtldckcopeiginaaRows
import Derived.Test.YtldckcopeiginaaZd
import Derived.Ground.Names2Prog
import Derived.Shelf.Spec.SlicesInsert
import Derived.Shelf.Spec.SlicesInsertGrow
import Derived.Test.YtldckcopeiginaaProg
namespace Go.Proofs.Ytldckcopeiginaa
open Go.Ab
theorem row3 : rowN Try.prog 3 = some none := by kernel_rfl
theorem sz3 : sz Try.prog 3 = some 1 := by kernel_rfl
theorem zero3 : zeroOf Try.prog 3 = some [AV.s (Value.int IntKind.i64 (0))] := by kernel_rfl
theorem row4 : rowN Try.prog 4 = some none := by kernel_rfl
theorem sz4 : sz Try.prog 4 = some 1 := by kernel_rfl
theorem zero4 : zeroOf Try.prog 4 = some [AV.s (Value.bool false)] := by kernel_rfl
theorem row9 : rowN Try.prog 9 = some none := by kernel_rfl
theorem sz9 : sz Try.prog 9 = some 1 := by kernel_rfl
theorem zero9 : zeroOf Try.prog 9 = some [AV.s (Value.string ⟨#[]⟩)] := by kernel_rfl
theorem row22 : rowN Try.prog 22 = some none := by kernel_rfl
theorem sz22 : sz Try.prog 22 = some 1 := by kernel_rfl
theorem zero22 : zeroOf Try.prog 22 = some [AV.s (Value.slice none 0 0)] := by kernel_rfl
theorem sl22 : sliceOf Try.prog 22 = some (44, 1) := by kernel_rfl
theorem el22 : elOf Try.prog 22 = some (44, 1, 24, [AV.s (Value.slice none 0 0)]) := by kernel_rfl
theorem row25 : rowN Try.prog 25 = some none := by kernel_rfl
theorem sz25 : sz Try.prog 25 = some 1 := by kernel_rfl
theorem zero25 : zeroOf Try.prog 25 = some [AV.s (Value.slice none 0 0)] := by kernel_rfl
theorem sl25 : sliceOf Try.prog 25 = some (3, 1) := by kernel_rfl
theorem el25 : elOf Try.prog 25 = some (3, 1, 8, [AV.s (Value.int IntKind.i64 (0))]) := by kernel_rfl
theorem row32 : rowN Try.prog 32 = some none := by kernel_rfl
theorem sz32 : sz Try.prog 32 = some 1 := by kernel_rfl
theorem zero32 : zeroOf Try.prog 32 = some [AV.s (Value.int IntKind.i64 (0))] := by kernel_rfl
theorem row37 : rowN Try.prog 37 = some none := by kernel_rfl
theorem sz37 : sz Try.prog 37 = some 1 := by kernel_rfl
theorem zero37 : zeroOf Try.prog 37 = some [AV.s (Value.slice none 0 0)] := by kernel_rfl
theorem sl37 : sliceOf Try.prog 37 = some (32, 1) := by kernel_rfl
theorem el37 : elOf Try.prog 37 = some (32, 1, 8, [AV.s (Value.int IntKind.i64 (0))]) := by kernel_rfl
theorem row41 : rowN Try.prog 41 = some none := by kernel_rfl
theorem sz41 : sz Try.prog 41 = some 1 := by kernel_rfl
theorem zero41 : zeroOf Try.prog 41 = some [AV.s (Value.slice none 0 0)] := by kernel_rfl
theorem sl41 : sliceOf Try.prog 41 = some (4, 1) := by kernel_rfl
theorem el41 : elOf Try.prog 41 = some (4, 1, 1, [AV.s (Value.bool false)]) := by kernel_rfl
theorem row44 : rowN Try.prog 44 = some none := by kernel_rfl
theorem sz44 : sz Try.prog 44 = some 1 := by kernel_rfl
theorem zero44 : zeroOf Try.prog 44 = some [AV.s (Value.slice none 0 0)] := by kernel_rfl
theorem sl44 : sliceOf Try.prog 44 = some (46, 3) := by kernel_rfl
theorem el44 : elOf Try.prog 44 = some (46, 3, 24, [AV.s (Value.int IntKind.i64 (0)), AV.s (Value.int IntKind.i64 (0)), AV.s (Value.int IntKind.i64 (0))]) := by kernel_rfl
theorem row46 : rowN Try.prog 46 = some (some 3) := by kernel_rfl
theorem sz46 : sz Try.prog 46 = some 3 := by kernel_rfl
theorem zero46 : zeroOf Try.prog 46 = some [AV.s (Value.int IntKind.i64 (0)), AV.s (Value.int IntKind.i64 (0)), AV.s (Value.int IntKind.i64 (0))] := by kernel_rfl
theorem fld46f0 : fldOf Try.prog 46 0 = some 0 := by kernel_rfl
theorem fld46f1 : fldOf Try.prog 46 1 = some 1 := by kernel_rfl
theorem fld46f2 : fldOf Try.prog 46 2 = some 2 := by kernel_rfl
theorem row49 : rowN Try.prog 49 = some none := by kernel_rfl
theorem sz49 : sz Try.prog 49 = some 1 := by kernel_rfl
theorem zero49 : zeroOf Try.prog 49 = some [AV.s (Value.slice none 0 0)] := by kernel_rfl
theorem sl49 : sliceOf Try.prog 49 = some (9, 1) := by kernel_rfl
theorem el49 : elOf Try.prog 49 = some (9, 1, 16, [AV.s (Value.string ⟨#[]⟩)]) := by kernel_rfl
theorem row50 : rowN Try.prog 50 = some none := by kernel_rfl
theorem sz50 : sz Try.prog 50 = some 1 := by kernel_rfl
theorem zero50 : zeroOf Try.prog 50 = some [AV.s (Value.slice none 0 0)] := by kernel_rfl
theorem sl50 : sliceOf Try.prog 50 = some (54, 8) := by kernel_rfl
theorem el50 : elOf Try.prog 50 = some (54, 8, 88, [AV.s (Value.string ⟨#[]⟩), AV.s (Value.int IntKind.i64 (0)), AV.s (Value.int IntKind.i64 (0)), AV.s (Value.int IntKind.i64 (0)), AV.s (Value.int IntKind.i64 (0)), AV.s (Value.int IntKind.i64 (0)), AV.s (Value.bool false), AV.s (Value.slice none 0 0)]) := by kernel_rfl
theorem row54 : rowN Try.prog 54 = some (some 8) := by kernel_rfl
theorem sz54 : sz Try.prog 54 = some 8 := by kernel_rfl
theorem zero54 : zeroOf Try.prog 54 = some [AV.s (Value.string ⟨#[]⟩), AV.s (Value.int IntKind.i64 (0)), AV.s (Value.int IntKind.i64 (0)), AV.s (Value.int IntKind.i64 (0)), AV.s (Value.int IntKind.i64 (0)), AV.s (Value.int IntKind.i64 (0)), AV.s (Value.bool false), AV.s (Value.slice none 0 0)] := by kernel_rfl
theorem fld54f0 : fldOf Try.prog 54 0 = some 0 := by kernel_rfl
theorem fld54f1 : fldOf Try.prog 54 1 = some 1 := by kernel_rfl
theorem fld54f2 : fldOf Try.prog 54 2 = some 2 := by kernel_rfl
theorem fld54f3 : fldOf Try.prog 54 3 = some 3 := by kernel_rfl
theorem fld54f4 : fldOf Try.prog 54 4 = some 4 := by kernel_rfl
theorem fld54f5 : fldOf Try.prog 54 5 = some 5 := by kernel_rfl
theorem fld54f6 : fldOf Try.prog 54 6 = some 6 := by kernel_rfl
theorem fld54f7 : fldOf Try.prog 54 7 = some 7 := by kernel_rfl
theorem row64 : rowN Try.prog 64 = some none := by kernel_rfl
theorem sz64 : sz Try.prog 64 = some 1 := by kernel_rfl
theorem zero64 : zeroOf Try.prog 64 = some [AV.s (Value.slice none 0 0)] := by kernel_rfl
theorem sl64 : sliceOf Try.prog 64 = some (25, 1) := by kernel_rfl
theorem el64 : elOf Try.prog 64 = some (25, 1, 24, [AV.s (Value.slice none 0 0)]) := by kernel_rfl
theorem row73 : rowN Try.prog 73 = some (some 3) := by kernel_rfl
theorem sz73 : sz Try.prog 73 = some 3 := by kernel_rfl
theorem zero73 : zeroOf Try.prog 73 = some [AV.s (Value.int IntKind.i64 (0)), AV.s (Value.int IntKind.i64 (0)), AV.s (Value.bool false)] := by kernel_rfl
theorem fld73f0 : fldOf Try.prog 73 0 = some 0 := by kernel_rfl
theorem fld73f1 : fldOf Try.prog 73 1 = some 1 := by kernel_rfl
theorem fld73f2 : fldOf Try.prog 73 2 = some 2 := by kernel_rfl
theorem row80 : rowN Try.prog 80 = some (some 2) := by kernel_rfl
theorem sz80 : sz Try.prog 80 = some 2 := by kernel_rfl
theorem zero80 : zeroOf Try.prog 80 = some [AV.s (Value.int IntKind.i64 (0)), AV.s (Value.int IntKind.i64 (0))] := by kernel_rfl
theorem arr80 : arrOf Try.prog 80 = some (2, 3, 1) := by kernel_rfl
theorem row81 : rowN Try.prog 81 = some none := by kernel_rfl
theorem sz81 : sz Try.prog 81 = some 1 := by kernel_rfl
theorem zero81 : zeroOf Try.prog 81 = some [AV.s (Value.nilFunc)] := by kernel_rfl
theorem row82 : rowN Try.prog 82 = some none := by kernel_rfl
theorem sz82 : sz Try.prog 82 = some 1 := by kernel_rfl
theorem zero82 : zeroOf Try.prog 82 = some [AV.s (Value.nilFunc)] := by kernel_rfl
theorem row84 : rowN Try.prog 84 = some none := by kernel_rfl
theorem sz84 : sz Try.prog 84 = some 1 := by kernel_rfl
theorem zero84 : zeroOf Try.prog 84 = some [AV.s (Value.nilFunc)] := by kernel_rfl
theorem row85 : rowN Try.prog 85 = some (some 8) := by kernel_rfl
theorem sz85 : sz Try.prog 85 = some 8 := by kernel_rfl
theorem zero85 : zeroOf Try.prog 85 = some [AV.s (Value.nilFunc), AV.s (Value.nilFunc), AV.s (Value.nilFunc), AV.s (Value.nilFunc), AV.s (Value.nilFunc), AV.s (Value.nilFunc), AV.s (Value.nilFunc), AV.s (Value.nilFunc)] := by kernel_rfl
theorem arr85 : arrOf Try.prog 85 = some (8, 84, 1) := by kernel_rfl
theorem row107 : rowN Try.prog 107 = some none := by kernel_rfl
theorem sz107 : sz Try.prog 107 = some 1 := by kernel_rfl
theorem zero107 : zeroOf Try.prog 107 = some [AV.s (Value.int IntKind.u64 (0))] := by kernel_rfl
theorem bd3 : (Try.prog.funcs[3]?).map (·.body.isNone) = some false := by rw [Try.func3]; rfl
theorem bd4 : (Try.prog.funcs[4]?).map (·.body.isNone) = some false := by rw [Try.func4]; rfl
theorem bd5 : (Try.prog.funcs[5]?).map (·.body.isNone) = some false := by rw [Try.func5]; rfl
theorem bd6 : (Try.prog.funcs[6]?).map (·.body.isNone) = some false := by rw [Try.func6]; rfl
theorem bd7 : (Try.prog.funcs[7]?).map (·.body.isNone) = some false := by rw [Try.func7]; rfl
theorem bd8 : (Try.prog.funcs[8]?).map (·.body.isNone) = some false := by rw [Try.func8]; rfl
theorem bd9 : (Try.prog.funcs[9]?).map (·.body.isNone) = some false := by rw [Try.func9]; rfl
theorem bd10 : (Try.prog.funcs[10]?).map (·.body.isNone) = some false := by rw [Try.func10]; rfl
theorem bd11 : (Try.prog.funcs[11]?).map (·.body.isNone) = some false := by rw [Try.func11]; rfl
theorem bd12 : (Try.prog.funcs[12]?).map (·.body.isNone) = some false := by rw [Try.func12]; rfl
theorem bd13 : (Try.prog.funcs[13]?).map (·.body.isNone) = some false := by rw [Try.func13]; rfl
theorem bd14 : (Try.prog.funcs[14]?).map (·.body.isNone) = some false := by rw [Try.func14]; rfl
theorem bd15 : (Try.prog.funcs[15]?).map (·.body.isNone) = some false := by rw [Try.func15]; rfl
theorem bd16 : (Try.prog.funcs[16]?).map (·.body.isNone) = some false := by rw [Try.func16]; rfl
theorem bd17 : (Try.prog.funcs[17]?).map (·.body.isNone) = some false := by rw [Try.func17]; rfl
theorem bd18 : (Try.prog.funcs[18]?).map (·.body.isNone) = some false := by rw [Try.func18]; rfl
theorem bd19 : (Try.prog.funcs[19]?).map (·.body.isNone) = some false := by rw [Try.func19]; rfl
theorem bd20 : (Try.prog.funcs[20]?).map (·.body.isNone) = some false := by rw [Try.func20]; rfl
theorem bd21 : (Try.prog.funcs[21]?).map (·.body.isNone) = some false := by rw [Try.func21]; rfl
theorem bd22 : (Try.prog.funcs[22]?).map (·.body.isNone) = some false := by rw [Try.func22]; rfl
theorem bd23 : (Try.prog.funcs[23]?).map (·.body.isNone) = some false := by rw [Try.func23]; rfl
theorem bd24 : (Try.prog.funcs[24]?).map (·.body.isNone) = some false := by rw [Try.func24]; rfl
theorem bd25 : (Try.prog.funcs[25]?).map (·.body.isNone) = some false := by rw [Try.func25]; rfl
theorem bd26 : (Try.prog.funcs[26]?).map (·.body.isNone) = some false := by rw [Try.func26]; rfl
theorem bd27 : (Try.prog.funcs[27]?).map (·.body.isNone) = some false := by rw [Try.func27]; rfl
theorem bd28 : (Try.prog.funcs[28]?).map (·.body.isNone) = some false := by rw [Try.func28]; rfl
theorem bd29 : (Try.prog.funcs[29]?).map (·.body.isNone) = some false := by rw [Try.func29]; rfl
theorem bd30 : (Try.prog.funcs[30]?).map (·.body.isNone) = some false := by rw [Try.func30]; rfl
theorem bd31 : (Try.prog.funcs[31]?).map (·.body.isNone) = some false := by rw [Try.func31]; rfl
theorem bd32 : (Try.prog.funcs[32]?).map (·.body.isNone) = some false := by rw [Try.func32]; rfl
theorem bd33 : (Try.prog.funcs[33]?).map (·.body.isNone) = some false := by rw [Try.func33]; rfl
theorem bd34 : (Try.prog.funcs[34]?).map (·.body.isNone) = some false := by rw [Try.func34]; rfl
theorem bd35 : (Try.prog.funcs[35]?).map (·.body.isNone) = some false := by rw [Try.func35]; rfl
theorem bd36 : (Try.prog.funcs[36]?).map (·.body.isNone) = some false := by rw [Try.func36]; rfl
theorem bd37 : (Try.prog.funcs[37]?).map (·.body.isNone) = some false := by rw [Try.func37]; rfl
theorem bd38 : (Try.prog.funcs[38]?).map (·.body.isNone) = some false := by rw [Try.func38]; rfl
theorem bd39 : (Try.prog.funcs[39]?).map (·.body.isNone) = some false := by rw [Try.func39]; rfl
theorem bd40 : (Try.prog.funcs[40]?).map (·.body.isNone) = some false := by rw [Try.func40]; rfl
theorem bd41 : (Try.prog.funcs[41]?).map (·.body.isNone) = some false := by rw [Try.func41]; rfl
theorem bd42 : (Try.prog.funcs[42]?).map (·.body.isNone) = some false := by rw [Try.func42]; rfl
theorem bd43 : (Try.prog.funcs[43]?).map (·.body.isNone) = some false := by rw [Try.func43]; rfl
theorem bd44 : (Try.prog.funcs[44]?).map (·.body.isNone) = some false := by rw [Try.func44]; rfl
theorem bd45 : (Try.prog.funcs[45]?).map (·.body.isNone) = some false := by rw [Try.func45]; rfl
theorem bd46 : (Try.prog.funcs[46]?).map (·.body.isNone) = some false := by rw [Try.func46]; rfl
theorem bd47 : (Try.prog.funcs[47]?).map (·.body.isNone) = some false := by rw [Try.func47]; rfl
theorem bd48 : (Try.prog.funcs[48]?).map (·.body.isNone) = some false := by rw [Try.func48]; rfl
theorem bd49 : (Try.prog.funcs[49]?).map (·.body.isNone) = some false := by rw [Try.func49]; rfl
theorem bd50 : (Try.prog.funcs[50]?).map (·.body.isNone) = some false := by rw [Try.func50]; rfl
theorem bd51 : (Try.prog.funcs[51]?).map (·.body.isNone) = some false := by rw [Try.func51]; rfl
theorem bd52 : (Try.prog.funcs[52]?).map (·.body.isNone) = some false := by rw [Try.func52]; rfl
theorem bd53 : (Try.prog.funcs[53]?).map (·.body.isNone) = some false := by rw [Try.func53]; rfl
theorem bd54 : (Try.prog.funcs[54]?).map (·.body.isNone) = some false := by rw [Try.func54]; rfl
theorem bd55 : (Try.prog.funcs[55]?).map (·.body.isNone) = some false := by rw [Try.func55]; rfl
theorem bd56 : (Try.prog.funcs[56]?).map (·.body.isNone) = some false := by rw [Try.func56]; rfl
theorem bd57 : (Try.prog.funcs[57]?).map (·.body.isNone) = some false := by rw [Try.func57]; rfl
theorem bd58 : (Try.prog.funcs[58]?).map (·.body.isNone) = some false := by rw [Try.func58]; rfl
theorem bd59 : (Try.prog.funcs[59]?).map (·.body.isNone) = some false := by rw [Try.func59]; rfl
set_option maxRecDepth 100000
def rowTab : List (Nat × (Option Nat)) := [(3, none), (4, none), (9, none), (22, none), (25, none), (32, none), (37, none), (41, none), (44, none), (46, (some 3)), (49, none), (50, none), (54, (some 8)), (64, none), (73, (some 3)), (80, (some 2)), (81, none), (82, none), (84, none), (85, (some 8)), (107, none)]
theorem rowF {t : Nat} {v : Option Nat} (h : fnd rowTab t = some v) : rowN Try.prog t = some v := fndF (f := rowN Try.prog) (List.forall_mem_cons.2 ⟨row3, List.forall_mem_cons.2 ⟨row4, List.forall_mem_cons.2 ⟨row9, List.forall_mem_cons.2 ⟨row22, List.forall_mem_cons.2 ⟨row25, List.forall_mem_cons.2 ⟨row32, List.forall_mem_cons.2 ⟨row37, List.forall_mem_cons.2 ⟨row41, List.forall_mem_cons.2 ⟨row44, List.forall_mem_cons.2 ⟨row46, List.forall_mem_cons.2 ⟨row49, List.forall_mem_cons.2 ⟨row50, List.forall_mem_cons.2 ⟨row54, List.forall_mem_cons.2 ⟨row64, List.forall_mem_cons.2 ⟨row73, List.forall_mem_cons.2 ⟨row80, List.forall_mem_cons.2 ⟨row81, List.forall_mem_cons.2 ⟨row82, List.forall_mem_cons.2 ⟨row84, List.forall_mem_cons.2 ⟨row85, List.forall_mem_cons.2 ⟨row107, fun _ h => absurd h (List.not_mem_nil)⟩⟩⟩⟩⟩⟩⟩⟩⟩⟩⟩⟩⟩⟩⟩⟩⟩⟩⟩⟩⟩) h
def szTab : List (Nat × (Nat)) := [(3, 1), (4, 1), (9, 1), (22, 1), (25, 1), (32, 1), (37, 1), (41, 1), (44, 1), (46, 3), (49, 1), (50, 1), (54, 8), (64, 1), (73, 3), (80, 2), (81, 1), (82, 1), (84, 1), (85, 8), (107, 1)]
theorem szF {t : Nat} {v : Nat} (h : fnd szTab t = some v) : sz Try.prog t = some v := fndF (f := sz Try.prog) (List.forall_mem_cons.2 ⟨sz3, List.forall_mem_cons.2 ⟨sz4, List.forall_mem_cons.2 ⟨sz9, List.forall_mem_cons.2 ⟨sz22, List.forall_mem_cons.2 ⟨sz25, List.forall_mem_cons.2 ⟨sz32, List.forall_mem_cons.2 ⟨sz37, List.forall_mem_cons.2 ⟨sz41, List.forall_mem_cons.2 ⟨sz44, List.forall_mem_cons.2 ⟨sz46, List.forall_mem_cons.2 ⟨sz49, List.forall_mem_cons.2 ⟨sz50, List.forall_mem_cons.2 ⟨sz54, List.forall_mem_cons.2 ⟨sz64, List.forall_mem_cons.2 ⟨sz73, List.forall_mem_cons.2 ⟨sz80, List.forall_mem_cons.2 ⟨sz81, List.forall_mem_cons.2 ⟨sz82, List.forall_mem_cons.2 ⟨sz84, List.forall_mem_cons.2 ⟨sz85, List.forall_mem_cons.2 ⟨sz107, fun _ h => absurd h (List.not_mem_nil)⟩⟩⟩⟩⟩⟩⟩⟩⟩⟩⟩⟩⟩⟩⟩⟩⟩⟩⟩⟩⟩) h
def zeroTab : List (Nat × (List AV)) := [(3, [AV.s (Value.int IntKind.i64 (0))]), (4, [AV.s (Value.bool false)]), (9, [AV.s (Value.string ⟨#[]⟩)]), (22, [AV.s (Value.slice none 0 0)]), (25, [AV.s (Value.slice none 0 0)]), (32, [AV.s (Value.int IntKind.i64 (0))]), (37, [AV.s (Value.slice none 0 0)]), (41, [AV.s (Value.slice none 0 0)]), (44, [AV.s (Value.slice none 0 0)]), (46, [AV.s (Value.int IntKind.i64 (0)), AV.s (Value.int IntKind.i64 (0)), AV.s (Value.int IntKind.i64 (0))]), (49, [AV.s (Value.slice none 0 0)]), (50, [AV.s (Value.slice none 0 0)]), (54, [AV.s (Value.string ⟨#[]⟩), AV.s (Value.int IntKind.i64 (0)), AV.s (Value.int IntKind.i64 (0)), AV.s (Value.int IntKind.i64 (0)), AV.s (Value.int IntKind.i64 (0)), AV.s (Value.int IntKind.i64 (0)), AV.s (Value.bool false), AV.s (Value.slice none 0 0)]), (64, [AV.s (Value.slice none 0 0)]), (73, [AV.s (Value.int IntKind.i64 (0)), AV.s (Value.int IntKind.i64 (0)), AV.s (Value.bool false)]), (80, [AV.s (Value.int IntKind.i64 (0)), AV.s (Value.int IntKind.i64 (0))]), (81, [AV.s (Value.nilFunc)]), (82, [AV.s (Value.nilFunc)]), (84, [AV.s (Value.nilFunc)]), (85, [AV.s (Value.nilFunc), AV.s (Value.nilFunc), AV.s (Value.nilFunc), AV.s (Value.nilFunc), AV.s (Value.nilFunc), AV.s (Value.nilFunc), AV.s (Value.nilFunc), AV.s (Value.nilFunc)]), (107, [AV.s (Value.int IntKind.u64 (0))])]
theorem zeroF {t : Nat} {v : List AV} (h : fnd zeroTab t = some v) : zeroOf Try.prog t = some v := fndF (f := zeroOf Try.prog) (List.forall_mem_cons.2 ⟨zero3, List.forall_mem_cons.2 ⟨zero4, List.forall_mem_cons.2 ⟨zero9, List.forall_mem_cons.2 ⟨zero22, List.forall_mem_cons.2 ⟨zero25, List.forall_mem_cons.2 ⟨zero32, List.forall_mem_cons.2 ⟨zero37, List.forall_mem_cons.2 ⟨zero41, List.forall_mem_cons.2 ⟨zero44, List.forall_mem_cons.2 ⟨zero46, List.forall_mem_cons.2 ⟨zero49, List.forall_mem_cons.2 ⟨zero50, List.forall_mem_cons.2 ⟨zero54, List.forall_mem_cons.2 ⟨zero64, List.forall_mem_cons.2 ⟨zero73, List.forall_mem_cons.2 ⟨zero80, List.forall_mem_cons.2 ⟨zero81, List.forall_mem_cons.2 ⟨zero82, List.forall_mem_cons.2 ⟨zero84, List.forall_mem_cons.2 ⟨zero85, List.forall_mem_cons.2 ⟨zero107, fun _ h => absurd h (List.not_mem_nil)⟩⟩⟩⟩⟩⟩⟩⟩⟩⟩⟩⟩⟩⟩⟩⟩⟩⟩⟩⟩⟩) h
def slTab : List (Nat × (TypeId × Nat)) := [(22, (44, 1)), (25, (3, 1)), (37, (32, 1)), (41, (4, 1)), (44, (46, 3)), (49, (9, 1)), (50, (54, 8)), (64, (25, 1))]
theorem slF {t : Nat} {v : TypeId × Nat} (h : fnd slTab t = some v) : sliceOf Try.prog t = some v := fndF (f := sliceOf Try.prog) (List.forall_mem_cons.2 ⟨sl22, List.forall_mem_cons.2 ⟨sl25, List.forall_mem_cons.2 ⟨sl37, List.forall_mem_cons.2 ⟨sl41, List.forall_mem_cons.2 ⟨sl44, List.forall_mem_cons.2 ⟨sl49, List.forall_mem_cons.2 ⟨sl50, List.forall_mem_cons.2 ⟨sl64, fun _ h => absurd h (List.not_mem_nil)⟩⟩⟩⟩⟩⟩⟩⟩) h
def elTab : List (Nat × (TypeId × Nat × Nat × List AV)) := [(22, (44, 1, 24, [AV.s (Value.slice none 0 0)])), (25, (3, 1, 8, [AV.s (Value.int IntKind.i64 (0))])), (37, (32, 1, 8, [AV.s (Value.int IntKind.i64 (0))])), (41, (4, 1, 1, [AV.s (Value.bool false)])), (44, (46, 3, 24, [AV.s (Value.int IntKind.i64 (0)), AV.s (Value.int IntKind.i64 (0)), AV.s (Value.int IntKind.i64 (0))])), (49, (9, 1, 16, [AV.s (Value.string ⟨#[]⟩)])), (50, (54, 8, 88, [AV.s (Value.string ⟨#[]⟩), AV.s (Value.int IntKind.i64 (0)), AV.s (Value.int IntKind.i64 (0)), AV.s (Value.int IntKind.i64 (0)), AV.s (Value.int IntKind.i64 (0)), AV.s (Value.int IntKind.i64 (0)), AV.s (Value.bool false), AV.s (Value.slice none 0 0)])), (64, (25, 1, 24, [AV.s (Value.slice none 0 0)]))]
theorem elF {t : Nat} {v : TypeId × Nat × Nat × List AV} (h : fnd elTab t = some v) : elOf Try.prog t = some v := fndF (f := elOf Try.prog) (List.forall_mem_cons.2 ⟨el22, List.forall_mem_cons.2 ⟨el25, List.forall_mem_cons.2 ⟨el37, List.forall_mem_cons.2 ⟨el41, List.forall_mem_cons.2 ⟨el44, List.forall_mem_cons.2 ⟨el49, List.forall_mem_cons.2 ⟨el50, List.forall_mem_cons.2 ⟨el64, fun _ h => absurd h (List.not_mem_nil)⟩⟩⟩⟩⟩⟩⟩⟩) h
def arrTab : List (Nat × (Nat × TypeId × Nat)) := [(80, (2, 3, 1)), (85, (8, 84, 1))]
theorem arrF {t : Nat} {v : Nat × TypeId × Nat} (h : fnd arrTab t = some v) : arrOf Try.prog t = some v := fndF (f := arrOf Try.prog) (List.forall_mem_cons.2 ⟨arr80, List.forall_mem_cons.2 ⟨arr85, fun _ h => absurd h (List.not_mem_nil)⟩⟩) h
def fldTab : List (Nat × List (Nat × Nat)) := [(46, [(0, 0), (1, 1), (2, 2)]), (54, [(0, 0), (1, 1), (2, 2), (3, 3), (4, 4), (5, 5), (6, 6), (7, 7)]), (73, [(0, 0), (1, 1), (2, 2)])]
theorem fldF {t f v : Nat} (h : fnd2 fldTab t f = some v) : fldOf Try.prog t f = some v := fnd2F (f := fldOf Try.prog) (List.forall_mem_cons.2 ⟨(show ∀ q ∈ ([(0, 0), (1, 1), (2, 2)] : List (Nat × Nat)), fldOf Try.prog 46 q.1 = some q.2 from List.forall_mem_cons.2 ⟨fld46f0, List.forall_mem_cons.2 ⟨fld46f1, List.forall_mem_cons.2 ⟨fld46f2, fun _ h => absurd h (List.not_mem_nil)⟩⟩⟩), List.forall_mem_cons.2 ⟨(show ∀ q ∈ ([(0, 0), (1, 1), (2, 2), (3, 3), (4, 4), (5, 5), (6, 6), (7, 7)] : List (Nat × Nat)), fldOf Try.prog 54 q.1 = some q.2 from List.forall_mem_cons.2 ⟨fld54f0, List.forall_mem_cons.2 ⟨fld54f1, List.forall_mem_cons.2 ⟨fld54f2, List.forall_mem_cons.2 ⟨fld54f3, List.forall_mem_cons.2 ⟨fld54f4, List.forall_mem_cons.2 ⟨fld54f5, List.forall_mem_cons.2 ⟨fld54f6, List.forall_mem_cons.2 ⟨fld54f7, fun _ h => absurd h (List.not_mem_nil)⟩⟩⟩⟩⟩⟩⟩⟩), List.forall_mem_cons.2 ⟨(show ∀ q ∈ ([(0, 0), (1, 1), (2, 2)] : List (Nat × Nat)), fldOf Try.prog 73 q.1 = some q.2 from List.forall_mem_cons.2 ⟨fld73f0, List.forall_mem_cons.2 ⟨fld73f1, List.forall_mem_cons.2 ⟨fld73f2, fun _ h => absurd h (List.not_mem_nil)⟩⟩⟩), fun _ h => absurd h (List.not_mem_nil)⟩⟩⟩) h
end Go.Proofs.Ytldckcopeiginaa
/- Rounds of games, xs lists. -/
namespace Go.Proofs.Ytldckcopeiginaa
open Go.Ab
structure Sc where
  w : Int
  b : Int
  p : Int
def cells3 (g : Sc) : List AV := [.s (.int .i64 g.w), .s (.int .i64 g.b), .s (.int .i64 g.p)]
def GV (gs : List Sc) (a : AV) : Prop := SlV 3 a (gs.map cells3)
structure RV (rs : List (List Sc)) (a : AV) (xs : List AV) : Prop where
  sl : SlV 1 a (xs.map fun x => [x])
  len : xs.length = rs.length
  at_ : ∀ (i : Nat) (h : i < rs.length) (h' : i < xs.length), GV rs[i] xs[i]
  big : rs.length ≤ 9223372036854775807
  each : ∀ gs ∈ rs, gs.length ≤ 9223372036854775807
def fewB (rs : List (List Sc)) (g : Int) : Bool := decide (∀ gs ∈ rs.take 32, (gs.length : Int) ≤ g) && decide (rs.length ≤ 31)
theorem RV.row {rs : List (List Sc)} {a : AV} {xs : List AV} (h : RV rs a xs) {k : Nat} (hk : k < rs.length) : ∃ x, (xs.map fun x => [x])[k]? = some [x] ∧ GV rs[k] x :=
  ⟨xs[k]'(by rw [h.len]; exact hk), by rw [List.getElem?_map, List.getElem?_eq_getElem (by rw [h.len]; exact hk)]; rfl, h.at_ k hk _⟩
theorem mk3 (g : Sc) : mkAgg ((List.drop 0 (cells3 g)).take 3) = .s (.agg #[.int .i64 g.w, .int .i64 g.b, .int .i64 g.p]) := rfl
theorem cells_3 (a b c : Value) : cellsOf (.s (.agg #[a, b, c])) = [.s a, .s b, .s c] := rfl
def GOk (n : Int) (g : Sc) : Prop := 0 ≤ g.w ∧ g.w < n ∧ -1 ≤ g.b ∧ g.b < n ∧ 0 ≤ g.p ∧ g.p ≤ 2
def pl (g : Sc) : List Int := if 0 ≤ g.b then [g.w, g.b] else [g.w]
def ROk (n : Int) (gs : List Sc) : Prop := (∀ g ∈ gs, GOk n g) ∧ (gs.flatMap pl).Nodup
def VOk (n : Int) (rs : List (List Sc)) : Prop := 2 ≤ n ∧ n ≤ 200 ∧ rs.length ≤ 30 ∧ ∀ gs ∈ rs, ROk n gs
noncomputable def validB (n : Int) (rs : List (List Sc)) : Bool := @decide (VOk n rs) (Classical.propDecidable _)
theorem validB_t {n : Int} {rs : List (List Sc)} (h : VOk n rs) : validB n rs = true := by unfold validB; exact @decide_eq_true _ (Classical.propDecidable _) h
theorem validB_f {n : Int} {rs : List (List Sc)} (h : ¬ VOk n rs) : validB n rs = false := by unfold validB; exact @decide_eq_false _ (Classical.propDecidable _) h
def seenR (m : Nat) (ps : List Int) : List (List AV) := (List.range m).map fun (x : Nat) => [.s (.bool (decide ((x : Int) ∈ ps)))]
theorem seenR_len (m : Nat) (ps : List Int) : (seenR m ps).length = m := by simp [seenR]
theorem seenR_get (m : Nat) (ps : List Int) {i : Nat} (h : i < m) : (seenR m ps)[i]? = some [.s (.bool (decide ((i : Int) ∈ ps)))] := by
  simp [seenR, List.getElem?_range h]
theorem seenR_0 (m : Nat) : List.replicate m [AV.s (.bool false)] = seenR m [] := by
  apply List.ext_getElem?
  intro i
  by_cases h : i < m
  · rw [seenR_get m [] h, List.getElem?_replicate]; simp [h]
  · rw [List.getElem?_eq_none (by simp; omega), List.getElem?_eq_none (by rw [seenR_len]; omega)]
theorem seenR_set (m : Nat) (ps : List Int) {i : Nat} (h : i < m) (row : List AV) : (seenR m ps).set i (writeRow [row.headD uv] 0 [.s (.bool true)]) = seenR m (ps ++ [(i : Int)]) := by
  apply List.ext_getElem?
  intro j
  rw [List.getElem?_set]
  by_cases hj : j < m
  · by_cases e : i = j
    · subst e
      rw [if_pos rfl, if_pos (by rw [seenR_len]; exact h), seenR_get m _ h]
      simp [writeRow]
    · rw [if_neg e, seenR_get m _ hj, seenR_get m _ hj]
      have : (j : Int) ≠ (i : Int) := by omega
      simp [this]
  · have h1 : ¬ i = j := by omega
    rw [if_neg h1, List.getElem?_eq_none (by rw [seenR_len]; omega), List.getElem?_eq_none (by rw [seenR_len]; omega)]
theorem seenR_set' (m : Nat) (ps : List Int) {i : Nat} (h : i < m) (b : Bool) : (seenR m ps).set i (writeRow [.s (.bool b)] 0 [.s (.bool true)]) = seenR m (ps ++ [(i : Int)]) := seenR_set m ps h [.s (.bool b)]
theorem take_flat {α : Type} {gs : List Sc} {f : Sc → List α} {j : Nat} (h : j < gs.length) : (gs.take (j + 1)).flatMap f = (gs.take j).flatMap f ++ f gs[j] := by
  rw [List.take_succ_eq_append_getElem h, List.flatMap_append]; simp
def ints (l : List Int) : List (List AV) := l.map fun n => [.s (.int .i64 n)]
theorem ints_len (l : List Int) : (ints l).length = l.length := by simp [ints]
theorem ints_get (l : List Int) {i : Nat} (h : i < l.length) : (ints l)[i]? = some [.s (.int .i64 l[i])] := by simp [ints, h]
theorem ints_snoc (l : List Int) (n : Int) : ints l ++ [[AV.s (.int .i64 n)]] = ints (l ++ [n]) := by simp [ints]
theorem ints_one (n : Int) : [[AV.s (.int .i64 n)]] = ints [n] := rfl
theorem ints_zero (m : Nat) : List.replicate m [AV.s (.int .i64 0)] = ints (List.replicate m 0) := by simp [ints]
end Go.Proofs.Ytldckcopeiginaa
/- The examples of the chapter hold: the run of known() gives true. -/
namespace Go.Proofs.Ytldckcopeiginaa
open Go.Ab
theorem names_all : (Try.prog.funcs.all fun fn => !(fn.name == "runtime.NumGoroutine")) = true := by kernel_rfl
theorem fit : Fit Try.prog := ⟨fun f fn h => by
    have := Array.all_eq_true'.1 names_all fn (Array.mem_of_getElem? h)
    simpa using this, by kernel_rfl⟩
noncomputable def isTrue : Option (AV × AS) → Bool
  | some (.s (.bool true), _) => true
  | _ => false
theorem known_run : isTrue (runCall Try.prog ⟨fun _ => none, fun _ _ => none⟩ 400 9 []) = true := by kernel_rfl
theorem known_some : ∃ σ, runCall Try.prog ⟨fun _ => none, fun _ _ => none⟩ 400 9 [] = some (.s (.bool true), σ) := by
  have h := known_run
  generalize runCall Try.prog ⟨fun _ => none, fun _ _ => none⟩ 400 9 [] = r at h
  unfold isTrue at h
  split at h
  · exact ⟨_, rfl⟩
  · cases h
end Go.Proofs.Ytldckcopeiginaa
/- What comes in as rounds is a list of lists of games. -/
namespace Go.Proofs.Ytldckcopeiginaa
open Go Go.Ab Go.ChangeShapes Go.WideShapes Go.WideElems Go.RowKit
theorem plain22 : plainTy Try.prog 8 22 = true := by kernel_rfl
theorem cells44 : Try.prog.cellsOf 44 = 1 := by kernel_rfl
theorem cells46 : Try.prog.cellsOf 46 = 3 := by kernel_rfl
theorem cells3i : Try.prog.cellsOf 3 = 1 := by kernel_rfl
theorem desc3 : Try.prog.underlying 3 = some (.int .i64) := by kernel_rfl
theorem desc22 : Try.prog.underlying 22 = some (.slice 44) := by kernel_rfl
theorem desc44 : Try.prog.underlying 44 = some (.slice 46) := by kernel_rfl
def isOffs (fs : Option TypeDesc) (l : List (TypeId × Nat)) : Bool := match fs with
  | some (.struct fs) => (fs.toList.map fun f => (f.type, f.offset)) == l
  | _ => false
theorem offs46 : isOffs (Try.prog.underlying 46) [(3, 0), (3, 1), (3, 2)] = true := by kernel_rfl
theorem open_one {P : Program} {H : Type} {enc : TypeId × Value → H} {w : World} {r : Reach} {b0 : Nat} {spare : Nat → Bool} {held : Bool} {n : Nat} {t e : TypeId} {v : Value} {d : DataW H} {ps : List MemPlace} (ht : P.underlying t = some (.slice e)) (hp : plainTy P n t = true) (hval : Value.okWide P w r b0 t v) (hd : DataW.Trod enc P w 0 spare held t v d ps) :
    ∃ a, Conc (memOf w) (fun _ => none) a v ∧ Ty P t [a] := by
  obtain ⟨a, hc, hty⟩ := open_value hp hval hd
  obtain ⟨x, len, cap, rfl⟩ := okWide_slice ht hval
  cases a with
  | agg l => cases hc
  | s v => cases hc; exact ⟨_, .s _, hty⟩
  | _ => exact ⟨_, hc, hty⟩
theorem ty_int {t : TypeId} (ht : Try.prog.underlying t = some (.int .i64)) {args : List AV} (h : Ty Try.prog t args) : ∃ n, args = [.s (.int .i64 n)] := by
  cases h with
  | int h hw => rw [ht] at h; cases h; exact ⟨_, rfl⟩
  | bool h => rw [ht] at h; cases h
  | str h => rw [ht] at h; cases h
  | empty h => rw [ht] at h; cases h
  | rsl h => rw [ht] at h; cases h
  | struct h => rw [ht] at h; cases h
  | array h => rw [ht] at h; cases h
theorem len3 {α : Type} : ∀ {l : List α}, l.length = 3 → ∃ a b c, l = [a, b, c]
  | [a, b, c], _ => ⟨a, b, c, rfl⟩
  | [], h => by cases h
  | [_], h => by cases h
  | [_, _], h => by cases h
  | _ :: _ :: _ :: _ :: _, h => by simp at h
theorem ty_game {args : List AV} (h : Ty Try.prog 46 args) : ∃ g, args = cells3 g := by
  have ho := offs46
  unfold isOffs at ho
  cases h with
  | struct h hl hf =>
    rw [h] at ho
    rw [cells46] at hl
    simp only [beq_iff_eq] at ho
    obtain ⟨a, b, c, rfl⟩ := len3 hl
    have hm : ∀ p ∈ [((3 : TypeId), 0), (3, 1), (3, 2)], Ty Try.prog p.1 (([a, b, c].drop p.2).take (Try.prog.cellsOf p.1)) := fun p hp => by
      rw [← ho] at hp
      obtain ⟨f, hfm, rfl⟩ := List.mem_map.1 hp
      exact hf f hfm
    have h0 := hm (3, 0) (by simp)
    have h1 := hm (3, 1) (by simp)
    have h2 := hm (3, 2) (by simp)
    simp only [cells3i] at h0 h1 h2
    obtain ⟨x, hx⟩ := ty_int desc3 h0
    obtain ⟨y, hy⟩ := ty_int desc3 h1
    obtain ⟨z, hz⟩ := ty_int desc3 h2
    simp at hx hy hz
    subst hx hy hz
    exact ⟨⟨x, y, z⟩, rfl⟩
  | int h hw => rw [h] at ho; cases ho
  | bool h => rw [h] at ho; cases ho
  | str h => rw [h] at ho; cases ho
  | empty h => rw [h] at ho; cases ho
  | rsl h => rw [h] at ho; cases ho
  | array h => rw [h] at ho; cases ho
theorem le_max {n : Nat} (h : n ≤ maxLen) : n ≤ 9223372036854775807 := by unfold maxLen at h; omega
theorem games_of : ∀ (rows : List (List AV)), (∀ r ∈ rows, Ty Try.prog 46 r) → ∃ gs : List Sc, rows = gs.map cells3
  | [], _ => ⟨[], rfl⟩
  | r :: rows, h => by
    obtain ⟨g, rfl⟩ := ty_game (h r List.mem_cons_self)
    obtain ⟨gs, rfl⟩ := games_of rows fun r hr => h r (List.mem_cons_of_mem _ hr)
    exact ⟨g :: gs, rfl⟩
theorem ty_round {x : AV} (h : Ty Try.prog 44 [x]) : ∃ gs, GV gs x ∧ gs.length ≤ 9223372036854775807 := by
  cases h with
  | empty h hc => exact ⟨[], .nil, by simp⟩
  | rsl h hp hn hc hl hr =>
    rw [desc44] at h; cases h
    obtain ⟨gs, rfl⟩ := games_of _ hr
    rw [cells46]
    refine ⟨gs, .rsl hp, ?_⟩
    rw [List.length_map] at hn
    exact Nat.le_trans hn (le_max hc)
  | int h hw => rw [desc44] at h; cases h
  | bool h => rw [desc44] at h; cases h
  | str h => rw [desc44] at h; cases h
  | struct h => rw [desc44] at h; cases h
  | array h => rw [desc44] at h; cases h
theorem rounds_of : ∀ (rows : List (List AV)), (∀ r ∈ rows, r.length = 1 ∧ Ty Try.prog 44 r) → ∃ (xs : List AV) (rs : List (List Sc)), rows = (xs.map fun x => [x]) ∧ xs.length = rs.length ∧ (∀ (i : Nat) (h : i < rs.length) (h' : i < xs.length), GV rs[i] xs[i]) ∧ ∀ gs ∈ rs, gs.length ≤ 9223372036854775807
  | [], _ => ⟨[], [], rfl, rfl, fun i h => (by cases h), fun gs h => (by cases h)⟩
  | r :: rows, h => by
    obtain ⟨h1, h2⟩ := h r List.mem_cons_self
    obtain ⟨xs, rs, rfl, hlen, hat, heach⟩ := rounds_of rows fun r hr => h r (List.mem_cons_of_mem _ hr)
    match r, h1 with
    | [x], _ =>
      obtain ⟨gs, hg, hb⟩ := ty_round h2
      refine ⟨x :: xs, gs :: rs, rfl, by simp [hlen], fun i hi hi' => ?_, fun g hg' => ?_⟩
      · cases i with
        | zero => exact hg
        | succ i => exact hat i (by simpa using hi) (by simpa using hi')
      · rcases List.mem_cons.1 hg' with rfl | hg'
        · exact hb
        · exact heach g hg'
theorem ty_rounds {a : AV} (h : Ty Try.prog 22 [a]) : ∃ rs xs, RV rs a xs := by
  cases h with
  | empty h hc => exact ⟨[], [], ⟨.nil, rfl, fun i hi => (by cases hi), by simp, fun gs hg => (by cases hg)⟩⟩
  | rsl h hp hn hc hl hr =>
    rw [desc22] at h; cases h
    rw [cells44] at hl ⊢
    obtain ⟨xs, rs, rfl, hlen, hat, heach⟩ := rounds_of _ fun r hr' => ⟨hl r hr', hr r hr'⟩
    refine ⟨rs, xs, ⟨.rsl hp, hlen, hat, ?_, heach⟩⟩
    rw [List.length_map, hlen] at hn
    exact Nat.le_trans hn (le_max hc)
  | int h hw => rw [desc22] at h; cases h
  | bool h => rw [desc22] at h; cases h
  | str h => rw [desc22] at h; cases h
  | struct h => rw [desc22] at h; cases h
  | array h => rw [desc22] at h; cases h

theorem given9 : Given Try.prog (oneOrc 9 (.bool true)) := by
  obtain ⟨σ, h⟩ := known_some
  exact oneOrc_given fit Try.func9 (by rfl) h
theorem run_of {f : FuncId} {args : List AV} (h : FnC Try.prog (oneOrc 9 (.bool true)) f args [] (fun v Hn => v = .s (.bool true) ∧ Hn = [])) : ∃ n σ, runCall Try.prog (oneOrc 9 (.bool true)) n f args = some (.s (.bool true), σ) := by
  obtain ⟨n, v, σ, h1, Hn, _, _, rfl, _⟩ := wpf_run (h ⟨.e, 0, none⟩ (.start rfl (fun id _ => by simp [Tr.get_e]) List.nodup_nil (fun p hp => by cases hp)))
  exact ⟨n, σ, h1⟩
theorem laidOut : laidOutB Try.prog = true := by kernel_rfl
theorem own : ownKnob Try.prog.godebug = none := by kernel_rfl
end Go.Proofs.Ytldckcopeiginaa
/- Maps with pairs of numbers as keys: where a key stands. -/
namespace Go.Proofs.Ytldckcopeiginaa
open Go Go.Ab
set_option maxRecDepth 200000
def keyV (p : Int × Int) : Value := .agg #[.int .i64 p.1, .int .i64 p.2]
theorem forIn2 {β : Type} (init : β) (f : Nat → β → Sem (ForInStep β)) : forIn [:2] init f = (do
    match ← f 0 init with
    | .done b => pure b
    | .yield b => match ← f 1 b with
      | .done b => pure b
      | .yield b => pure b) := by
  simp only [Std.Legacy.Range.forIn_eq_forIn_range', Std.Legacy.Range.size, List.range', List.forIn_cons, List.forIn_nil]
  rfl
theorem eq3 (n : Nat) (a b : Int) : evalP Try.prog (Op.equalIn (n + 1) 3 (.int .i64 a) (.int .i64 b)) = some (a == b) := by
  rw [Op.equalIn, evalP_bindK]
  rfl
theorem eq80 (p q : Int × Int) : evalP Try.prog (Op.equal 80 (keyV p) (keyV q)) = some (p.1 == q.1 && p.2 == q.2) := by
  unfold Op.equal Op.maxDepth
  rw [show (10000 : Nat) = 9999 + 1 from rfl, Op.equalIn, evalP_bindK]
  rw [evalP_under 80 Try.underlying80]
  simp only [Option.bind_some, keyV]
  rw [evalP_bindK, show evalP Try.prog (sizeOf 3) = some 1 from rfl]
  simp only [Option.bind_some, evalP_bindK, forIn2]
  have h0 : ∀ x y : Value, evalP Try.prog (part 3 #[x, y] (0 * 1)) = some x := fun x y => rfl
  have h1 : ∀ x y : Value, evalP Try.prog (part 3 #[x, y] (1 * 1)) = some y := fun x y => rfl
  have h2 := eq3 9998 p.1 q.1
  have h3 := eq3 9998 p.2 q.2
  have hp : ∀ {α : Type} (a : α), evalP Try.prog (pure a : Sem α) = some a := fun _ => rfl
  simp only [h0, Option.bind_some, h2]
  cases (p.1 == q.1)
  · rfl
  · simp only [Bool.not_true, Bool.false_eq_true, if_false, hp, Option.bind_some, evalP_bindK, h1, h3]
    cases (p.2 == q.2) <;> rfl
theorem chk3 (n : Nat) (e : Bool) (a : Int) : evalP Try.prog (Instr.checkKey e (n + 1) 3 (.int .i64 a)) = some () := by
  rw [Instr.checkKey, evalP_bindK]
  rfl
theorem chk80 (e : Bool) (p : Int × Int) : evalP Try.prog (Instr.checkKey e 10000 80 (keyV p)) = some () := by
  rw [show (10000 : Nat) = 9999 + 1 from rfl, Instr.checkKey, evalP_bindK, evalP_under 80 Try.underlying80]
  simp only [Option.bind_some, keyV, forIn2, evalP_bindK]
  have hs : evalP Try.prog (sizeOf 3) = some 1 := rfl
  have h0 : ∀ x y : Value, evalP Try.prog (part 3 #[x, y] (0 * 1)) = some x := fun x y => rfl
  have h1 : ∀ x y : Value, evalP Try.prog (part 3 #[x, y] (1 * 1)) = some y := fun x y => rfl
  have hp : ∀ {α : Type} (a : α), evalP Try.prog (pure a : Sem α) = some a := fun _ => rfl
  simp only [hs, Option.bind_some, h0, chk3 9998 e p.1, hp]
  simp only [evalP_bindK, hs, Option.bind_some, h1, chk3 9998 e p.2, hp]
def mkE : List (Int × Int) → Nat → List (Value × AV × Nat)
  | [], _ => []
  | p :: r, b => (keyV p, .s (.bool true), b) :: mkE r (b + 1)
theorem mkE_snoc (q : Int × Int) : ∀ (ps : List (Int × Int)) (b : Nat), mkE (ps ++ [q]) b = mkE ps b ++ [(keyV q, .s (.bool true), b + ps.length)]
  | [], b => rfl
  | p :: r, b => by simp only [List.cons_append, mkE, mkE_snoc q r (b + 1), List.length_cons]; rw [show b + 1 + r.length = b + (r.length + 1) by omega]
theorem mkE_get : ∀ (ps : List (Int × Int)) (b i : Nat), (mkE ps b)[i]? = (ps[i]?).map fun p => (keyV p, .s (.bool true), b + i)
  | [], b, i => by simp [mkE]
  | p :: r, b, 0 => by simp [mkE]
  | p :: r, b, i + 1 => by simp only [mkE, List.getElem?_cons_succ, mkE_get r (b + 1) i]; rw [show b + 1 + i = b + (i + 1) by omega]
def hits (q p : Int × Int) : Bool := q.1 == p.1 && q.2 == p.2
theorem hits_iff {q p : Int × Int} : hits q p = true ↔ q = p := by
  unfold hits
  rw [Bool.and_eq_true, beq_iff_eq, beq_iff_eq]
  exact ⟨fun h => Prod.ext h.1 h.2, fun h => by subst h; exact ⟨rfl, rfl⟩⟩
theorem ask80 (q : Int × Int) : ∀ (ps : List (Int × Int)) (b i : Nat), evalP Try.prog (Instr.findAsking 80 (keyV q) (keyEnts (mkE ps b)) i) = some ((ps.findIdx? (hits q)).map fun j => (i + j, undef))
  | [], b, i => rfl
  | p :: r, b, i => by
    have ih := ask80 q r (b + 1) (i + 1)
    simp only [mkE, keyEnts, List.map_cons, Instr.findAsking, evalP_bindK, eq80, Option.bind_some] at ih ⊢
    rw [List.findIdx?_cons]
    change evalP Try.prog (if hits q p = true then _ else _) = _
    cases hits q p with
    | true => rfl
    | false =>
      simp only [Bool.false_eq_true, if_false]
      rw [ih]
      simp only [Option.map_map]
      congr 1
      congr 1
      funext j
      simp only [Function.comp]
      rw [show i + 1 + j = i + (j + 1) by omega]
theorem key80 (q : Int × Int) (ps : List (Int × Int)) (b : Nat) : evalP Try.prog (Instr.findKey 80 (keyV q) (keyEnts (mkE ps b))) = some ((ps.findIdx? (hits q)).map fun j => (j, undef)) := by
  have h := ask80 q ps b 0
  unfold Instr.findKey
  rw [evalP_bindK, evalP_under 80 Try.underlying80]
  simp only [Option.bind_some]
  cases ps with
  | nil => rfl
  | cons p r =>
    have h1 : Instr.findNow (.array 2 3) (keyV q) (keyEnts (mkE (p :: r) b)) 0 = none := rfl
    rw [h1]
    simpa using h
theorem find_no {q : Int × Int} {ps : List (Int × Int)} {b : Nat} {e : Bool} (h : q ∉ ps) : findAt Try.prog 80 (keyV q) (mkE ps b) e = some none := by
  unfold findAt
  rw [chk80, key80]
  have : ps.findIdx? (hits q) = none := by
    rw [List.findIdx?_eq_none_iff]
    intro p hp
    cases hh : hits q p with
    | false => rfl
    | true => exact absurd (hits_iff.1 hh ▸ hp) h
  rw [this]
  rfl
theorem find_yes {q : Int × Int} {ps : List (Int × Int)} {b : Nat} {e : Bool} (h : q ∈ ps) : ∃ i k0 b0, findAt Try.prog 80 (keyV q) (mkE ps b) e = some (some (i, k0, .s (.bool true), b0)) := by
  unfold findAt
  rw [chk80, key80]
  cases hi : ps.findIdx? (hits q) with
  | none =>
    rw [List.findIdx?_eq_none_iff] at hi
    have := hi q h
    rw [hits_iff.2 rfl] at this
    cases this
  | some i =>
    obtain ⟨hlt, _, _⟩ := List.findIdx?_eq_some_iff_getElem.1 hi
    refine ⟨i, keyV ps[i], b + i, ?_⟩
    simp only [Option.map_some, mkE_get, List.getElem?_eq_getElem hlt]
theorem mkE_mem {ps : List (Int × Int)} : ∀ {b0 : Nat} {k : Value} {v : AV} {b : Nat}, (k, v, b) ∈ mkE ps b0 → ∃ p i, ps[i]? = some p ∧ k = keyV p ∧ v = .s (.bool true) ∧ b = b0 + i := by
  induction ps with
  | nil => intro b0 k v b h; cases h
  | cons q r ih =>
    intro b0 k v b h
    rcases List.mem_cons.1 h with h | h
    · cases h; exact ⟨q, 0, rfl, rfl, rfl, rfl⟩
    · obtain ⟨p, i, h1, h2, h3, h4⟩ := ih h
      exact ⟨p, i + 1, by simpa using h1, h2, h3, by omega⟩
theorem mkE_in {ps : List (Int × Int)} {i : Nat} {p : Int × Int} {b0 : Nat} (h : ps[i]? = some p) : (keyV p, AV.s (.bool true), b0 + i) ∈ mkE ps b0 := by
  refine List.mem_of_getElem? (i := i) ?_
  rw [mkE_get, h]; rfl
theorem mkE_find : ∀ {ps : List (Int × Int)} {b0 i : Nat} {p : Int × Int}, ps[i]? = some p → (mkE ps b0).find? (fun e => e.2.2 == b0 + i) = some (keyV p, .s (.bool true), b0 + i)
  | q :: r, b0, 0, p, h => by
    simp only [List.getElem?_cons_zero, Option.some.injEq] at h
    subst h
    simp [mkE]
  | q :: r, b0, i + 1, p, h => by
    have hne : (b0 == b0 + (i + 1)) = false := by simp
    simp only [mkE, List.find?_cons, hne]
    rw [show b0 + (i + 1) = b0 + 1 + i by omega]
    exact mkE_find (by simpa using h)
theorem mkE_len : ∀ (ps : List (Int × Int)) (b0 : Nat), (mkE ps b0).length = ps.length
  | [], _ => rfl
  | _ :: r, b0 => by simp only [mkE, List.length_cons, mkE_len r]
theorem mkE_emp (ps : List (Int × Int)) (b0 : Nat) : (mkE ps b0).isEmpty = ps.isEmpty := by cases ps <;> rfl
end Go.Proofs.Ytldckcopeiginaa
/- ValidName. -/
namespace Go.Proofs.Ytldckcopeiginaa
open Go Go.Ab
def OkC (i c : Nat) : Prop := (97 ≤ c ∧ c ≤ 122) ∨ (65 ≤ c ∧ c ≤ 90) ∨ (0 < i ∧ ((48 ≤ c ∧ c ≤ 57) ∨ c = 45 ∨ c = 95))
instance (i c : Nat) : Decidable (OkC i c) := by unfold OkC; infer_instance
def okFrom : Nat → List UInt8 → Bool
  | _, [] => true
  | i, c :: r => decide (OkC i c.toNat) && okFrom (i + 1) r
def validN (s : ByteArray) : Bool := okFrom 0 s.data.toList && decide (1 ≤ s.size ∧ s.size ≤ 32)
theorem validN_size {s : ByteArray} (h : validN s = true) : 1 ≤ s.size := by
  unfold validN at h
  rw [Bool.and_eq_true, decide_eq_true_eq] at h
  exact h.2.1
theorem bytes_len (s : ByteArray) : s.data.toList.length = s.size := Array.length_toList
theorem okFrom_step {s : List UInt8} {k : Nat} (hk : k < s.length) : okFrom k (s.drop k) = (decide (OkC k s[k].toNat) && okFrom (k + 1) (s.drop (k + 1))) := by
  rw [List.drop_eq_getElem_cons hk]
  rfl
attribute [local irreducible] SC SL wpc wpl wpd wpf wpy wpn FnC
set_option maxRecDepth 100000
set_option maxHeartbeats 4000000
theorem name_fn {G : Gl} (s : ByteArray) (hbig : s.size ≤ 9223372036854775807) (ho : ∀ a, G.orc 40 [a] = none) : FnC Try.prog G 40 [.s (.string s)] [] (fun v Hn => v = .s (.bool (validN s)) ∧ Hn = []) := by
  refine Fn_body (N := 56) (ho _) Try.func40 rfl rfl fun B => ?_
  repeat' (first
    | refine SL_len_s (by decide) (by rfl) (by rfl) Try.underlying9 ?_
    | refine SC_seq ?_
    | refine SC_block ?_
    | refine SC_region ?_
    | refine SL_seq ?_
    | refine SL_move (by decide) (by rfl) ?_
    | refine SL_assign (by decide) (by rfl) ?_
    | fail)
  refine SC_loop (fun k : Nat => [(0, .s (.string s)), (2, .s (.bool false)), (6, .s (.int .i64 s.size)), (7, .s (.int .i64 k))]) (fun _ => []) (fun _ => []) (fun k => k ≤ s.size ∧ okFrom 0 s.data.toList = okFrom k (s.data.toList.drop k)) (fun k => s.size - k) 0 ⟨by omega, rfl⟩ ⟨rfl, rfl, rfl, rfl, trivial⟩ trivial List.nodup_nil rfl ?_
  rintro k ⟨hk, hok⟩
  by_cases hlt : k < s.size
  · have hlt' : k < s.data.toList.length := by rw [bytes_len]; exact hlt
    obtain ⟨b, hbe⟩ : ∃ b, b = s.data.toList[k] := ⟨_, rfl⟩
    have hb : s.data.toList[k]? = some b := by rw [List.getElem?_eq_getElem hlt', hbe]
    have hst := okFrom_step hlt'
    rw [← hbe] at hst
    have hb256 := b.toNat_lt
    by_cases ho' : OkC k b.toNat
    · have ho2 := ho'
      unfold OkC at ho2
      have hok' : okFrom 0 s.data.toList = okFrom (k + 1) (s.data.toList.drop (k + 1)) := by rw [hok, hst, decide_eq_true ho', Bool.true_and]
      repeat' (first
        | refine SL_index_s (by decide) (by rfl) (by rfl) Try.underlying9 (i := k) (by rfl) hb ?_
        | refine SC_seq ?_
        | refine SC_block ?_
        | refine SC_region ?_
        | refine SL_seq ?_
        | refine SL_run (by rfl) (by rfl) ?_
        | refine SL_not (by rfl) (by rfl) (by rfl) (by decide) ?_
        | refine SL_notu (by rfl) (by rfl) (by decide) ?_
        | refine SL_move (by decide) (by rfl) ?_
        | refine SL_assign (by decide) (by rfl) ?_
        | refine SL_pick_t (by decide) (by rfl) (by rfl) ?_
        | refine SL_pick_f (by decide) (by rfl) (by rfl) ?_
        | refine SL_add (by decide) (by rfl) (by rfl) (by omega) (by omega) ?_
        | (refine SL_lss (by decide) (by rfl) (by rfl) (fun hT => ?_) (fun hT => ?_) <;> first | (exfalso; omega) | skip)
        | (refine SL_leq (by decide) (by rfl) (by rfl) (fun hT => ?_) (fun hT => ?_) <;> first | (exfalso; omega) | skip)
        | (refine SL_gtr (by decide) (by rfl) (by rfl) (fun hT => ?_) (fun hT => ?_) <;> first | (exfalso; omega) | skip)
        | (refine SL_geq (by decide) (by rfl) (by rfl) (fun hT => ?_) (fun hT => ?_) <;> first | (exfalso; omega) | skip)
        | (refine SL_eql (by decide) (by rfl) (by rfl) (fun hT => ?_) (fun hT => ?_) <;> first | (exfalso; omega) | skip)
        | refine SC_cond_t (by rfl) ?_
        | refine SC_cond_f (by rfl) ?_
        | (refine SC_skip' (fun tm σ hE hH => ?_); refine SC.app ?_ hE hH; clear hE hH; clear tm σ)
        | fail)
      all_goals exact SL_nil fun tm σ hE hH => ⟨k + 1, by omega, ⟨by omega, hok'⟩, tm, σ, rfl, hE.sub ⟨rfl, rfl, rfl, rfl, trivial⟩, hH.sub trivial List.nodup_nil⟩
    · have ho2 := ho'
      unfold OkC at ho2
      have hv : validN s = false := by
        unfold validN
        rw [hok, hst, decide_eq_false ho', Bool.false_and, Bool.false_and]
      repeat' (first
        | refine SL_index_s (by decide) (by rfl) (by rfl) Try.underlying9 (i := k) (by rfl) hb ?_
        | refine SC_seq ?_
        | refine SC_block ?_
        | refine SC_region ?_
        | refine SL_seq ?_
        | refine SL_run (by rfl) (by rfl) ?_
        | refine SL_not (by rfl) (by rfl) (by rfl) (by decide) ?_
        | refine SL_notu (by rfl) (by rfl) (by decide) ?_
        | refine SL_move (by decide) (by rfl) ?_
        | refine SL_assign (by decide) (by rfl) ?_
        | refine SL_pick_t (by decide) (by rfl) (by rfl) ?_
        | refine SL_pick_f (by decide) (by rfl) (by rfl) ?_
        | (refine SL_lss (by decide) (by rfl) (by rfl) (fun hT => ?_) (fun hT => ?_) <;> first | (exfalso; omega) | skip)
        | (refine SL_leq (by decide) (by rfl) (by rfl) (fun hT => ?_) (fun hT => ?_) <;> first | (exfalso; omega) | skip)
        | (refine SL_gtr (by decide) (by rfl) (by rfl) (fun hT => ?_) (fun hT => ?_) <;> first | (exfalso; omega) | skip)
        | (refine SL_geq (by decide) (by rfl) (by rfl) (fun hT => ?_) (fun hT => ?_) <;> first | (exfalso; omega) | skip)
        | (refine SL_eql (by decide) (by rfl) (by rfl) (fun hT => ?_) (fun hT => ?_) <;> first | (exfalso; omega) | skip)
        | refine SC_cond_t (by rfl) ?_
        | refine SC_cond_f (by rfl) ?_
        | (refine SC_skip' (fun tm σ hE hH => ?_); refine SC.app ?_ hE hH; clear hE hH; clear tm σ)
        | fail)
      all_goals refine SC_ret (fun tm σ hE hH => Post.intro (Hn := []) (.inr rfl) hE hH (by rfl) trivial List.nodup_nil (fun p hp => (by cases hp)) ?_)
      all_goals exact ⟨by rw [hv]; rfl, rfl⟩
  · obtain rfl : k = s.size := by omega
    have hz : okFrom 0 s.data.toList = true := by rw [hok, List.drop_eq_nil_of_le (by rw [bytes_len]; exact Nat.le_refl _)]; rfl
    by_cases hs : 1 ≤ s.size ∧ s.size ≤ 32
    · have hv : validN s = true := by unfold validN; rw [hz, decide_eq_true hs]; rfl
      repeat' (first
        | refine SL_len_s (by decide) (by rfl) (by rfl) Try.underlying9 ?_
        | refine SC_seq ?_
        | refine SC_region ?_
        | refine SL_seq ?_
        | refine SL_run (by rfl) (by rfl) ?_
        | refine SL_move (by decide) (by rfl) ?_
        | refine SL_assign (by decide) (by rfl) ?_
        | refine SL_pick_t (by decide) (by rfl) (by rfl) ?_
        | (refine SL_lss (by decide) (by rfl) (by rfl) (fun hT => ?_) (fun hT => ?_) <;> first | (exfalso; omega) | skip)
        | (refine SL_leq (by decide) (by rfl) (by rfl) (fun hT => ?_) (fun hT => ?_) <;> first | (exfalso; omega) | skip)
        | (refine SL_geq (by decide) (by rfl) (by rfl) (fun hT => ?_) (fun hT => ?_) <;> first | (exfalso; omega) | skip)
        | refine SC_cond_f (by rfl) ?_
        | (refine SC_exit (fun tm σ hE hH => ?_); refine SC.app ?_ hE hH; clear hE hH; clear tm σ)
        | fail)
      all_goals refine SC_ret (fun tm σ hE hH => Post.intro (Hn := []) (.inr rfl) hE hH (by rfl) trivial List.nodup_nil (fun p hp => (by cases hp)) ?_)
      all_goals exact ⟨by rw [hv]; rfl, rfl⟩
    · have hv : validN s = false := by unfold validN; rw [hz, decide_eq_false hs]; rfl
      repeat' (first
        | refine SL_len_s (by decide) (by rfl) (by rfl) Try.underlying9 ?_
        | refine SC_seq ?_
        | refine SC_region ?_
        | refine SL_seq ?_
        | refine SL_run (by rfl) (by rfl) ?_
        | refine SL_not (by rfl) (by rfl) (by rfl) (by decide) ?_
        | refine SL_move (by decide) (by rfl) ?_
        | refine SL_assign (by decide) (by rfl) ?_
        | refine SL_pick_t (by decide) (by rfl) (by rfl) ?_
        | refine SL_pick_f (by decide) (by rfl) (by rfl) ?_
        | (refine SL_lss (by decide) (by rfl) (by rfl) (fun hT => ?_) (fun hT => ?_) <;> first | (exfalso; omega) | skip)
        | (refine SL_leq (by decide) (by rfl) (by rfl) (fun hT => ?_) (fun hT => ?_) <;> first | (exfalso; omega) | skip)
        | (refine SL_geq (by decide) (by rfl) (by rfl) (fun hT => ?_) (fun hT => ?_) <;> first | (exfalso; omega) | skip)
        | refine SC_cond_f (by rfl) ?_
        | (refine SC_exit (fun tm σ hE hH => ?_); refine SC.app ?_ hE hH; clear hE hH; clear tm σ)
        | fail)
      all_goals refine SC_ret (fun tm σ hE hH => Post.intro (Hn := []) (.inr rfl) hE hH (by rfl) trivial List.nodup_nil (fun p hp => (by cases hp)) ?_)
      all_goals exact ⟨by rw [hv]; rfl, rfl⟩
end Go.Proofs.Ytldckcopeiginaa
/- within, for fields of entrants. -/
namespace Go.Proofs.Ytldckcopeiginaa
open Go Go.Ab
attribute [local irreducible] SC SL wpc wpl wpd wpf wpy wpn FnC
set_option maxRecDepth 100000
theorem within_fn {G : Gl} (a lo hi : Int) (ho : ∀ x y z, G.orc 39 [x, y, z] = none) : FnC Try.prog G 39 [.s (.int .i64 a), .s (.int .i64 lo), .s (.int .i64 hi)] [] (fun v Hn => v = .s (.bool (decide (lo ≤ a ∧ a ≤ hi))) ∧ Hn = []) := by
  refine Fn_body (N := 15) (ho _ _ _) Try.func39 rfl rfl fun B => ?_
  by_cases h1 : lo ≤ a
  · by_cases h2 : a ≤ hi
    · have hd := decide_eq_true (p := lo ≤ a ∧ a ≤ hi) ⟨h1, h2⟩
      repeat' (first
        | refine SC_seq ?_
        | refine SC_region ?_
        | refine SL_seq ?_
        | refine SL_run (by rfl) (by rfl) ?_
        | refine SL_move (by decide) (by rfl) ?_
        | refine SL_assign (by decide) (by rfl) ?_
        | refine SL_pick_t (by decide) (by rfl) (by rfl) ?_
        | (refine SL_leq (by decide) (by rfl) (by rfl) (fun hT => ?_) (fun hT => ?_) <;> first | (exfalso; omega) | skip)
        | fail)
      refine SC_ret (fun tm σ hE hH => Post.intro (Hn := []) (.inr rfl) hE hH (by rfl) trivial List.nodup_nil (fun p hp => (by cases hp)) ?_)
      exact ⟨by rw [hd]; rfl, rfl⟩
    · have hd := decide_eq_false (p := lo ≤ a ∧ a ≤ hi) (fun h => h2 h.2)
      repeat' (first
        | refine SC_seq ?_
        | refine SC_region ?_
        | refine SL_seq ?_
        | refine SL_run (by rfl) (by rfl) ?_
        | refine SL_move (by decide) (by rfl) ?_
        | refine SL_assign (by decide) (by rfl) ?_
        | refine SL_pick_t (by decide) (by rfl) (by rfl) ?_
        | (refine SL_leq (by decide) (by rfl) (by rfl) (fun hT => ?_) (fun hT => ?_) <;> first | (exfalso; omega) | skip)
        | fail)
      refine SC_ret (fun tm σ hE hH => Post.intro (Hn := []) (.inr rfl) hE hH (by rfl) trivial List.nodup_nil (fun p hp => (by cases hp)) ?_)
      exact ⟨by rw [hd]; rfl, rfl⟩
  · have hd := decide_eq_false (p := lo ≤ a ∧ a ≤ hi) (fun h => h1 h.1)
    repeat' (first
      | refine SC_seq ?_
      | refine SC_region ?_
      | refine SL_seq ?_
      | refine SL_not (by rfl) (by rfl) (by rfl) (by decide) ?_
      | refine SL_move (by decide) (by rfl) ?_
      | refine SL_assign (by decide) (by rfl) ?_
      | refine SL_pick_f (by decide) (by rfl) (by rfl) ?_
      | (refine SL_leq (by decide) (by rfl) (by rfl) (fun hT => ?_) (fun hT => ?_) <;> first | (exfalso; omega) | skip)
      | fail)
    refine SC_ret (fun tm σ hE hH => Post.intro (Hn := []) (.inr rfl) hE hH (by rfl) trivial List.nodup_nil (fun p hp => (by cases hp)) ?_)
    exact ⟨by rw [hd]; rfl, rfl⟩
end Go.Proofs.Ytldckcopeiginaa
/- Entrants: as data, as rows; which fields are valid. -/
namespace Go.Proofs.Ytldckcopeiginaa
open Go Go.Ab
structure Ent where
  name : ByteArray
  rating : Int
  score : Int
  whites : Int
  blacks : Int
  last : Int
  bye : Bool
  met : List Int
def enRow (e : Ent) (m : AV) : List AV := [.s (.string e.name), .s (.int .i64 e.rating), .s (.int .i64 e.score), .s (.int .i64 e.whites), .s (.int .i64 e.blacks), .s (.int .i64 e.last), .s (.bool e.bye), m]
theorem cells_mk (l : List AV) : cellsOf (mkAgg l) = l := by
  unfold mkAgg
  cases h : sOfs l with
  | none => rfl
  | some vs =>
    show (Value.agg vs.toArray).cells.toList.map AV.s = l
    rw [sOfs_eq h]
    rfl
theorem en_take (e : Ent) (m : AV) : mkAgg (List.take 8 (List.drop 0 (enRow e m))) = mkAgg (enRow e m) := rfl
theorem SlV_cell {es : Nat} {a : AV} {rows : List (List AV)} (h : SlV es a rows) : isCell a = true := by cases h <;> rfl
theorem en_cell {e : Ent} {m : AV} (h : isCell m = true) : (enRow e m).all isCell = true := by
  unfold enRow
  simp only [List.all_cons, List.all_nil, h, Bool.and_true]
  rfl
structure EV (l : List Ent) (a : AV) (ms : List AV) : Prop where
  len : ms.length = l.length
  sl : SlK 8 a (List.zipWith enRow l ms)
  met : ∀ (i : Nat) (h : i < l.length) (h' : i < ms.length), SlV 1 ms[i] (ints l[i].met)
  big : l.length ≤ 9223372036854775807
  each : ∀ e ∈ l, e.met.length ≤ 9223372036854775807 ∧ e.name.size ≤ 9223372036854775807
theorem EV.row {l : List Ent} {a : AV} {ms : List AV} (h : EV l a ms) {k : Nat} (hk : k < l.length) : ∃ m, (List.zipWith enRow l ms)[k]? = some (enRow l[k] m) ∧ SlV 1 m (ints l[k].met) :=
  ⟨ms[k]'(by rw [h.len]; exact hk), by rw [List.getElem?_zipWith, List.getElem?_eq_getElem hk, List.getElem?_eq_getElem (by rw [h.len]; exact hk)], h.met k hk _⟩
def FOk (e : Ent) : Prop := validN e.name = true ∧ (0 ≤ e.rating ∧ e.rating ≤ 4000) ∧ (0 ≤ e.score ∧ e.score ≤ 1000) ∧ (0 ≤ e.whites ∧ e.whites ≤ 1000) ∧ (0 ≤ e.blacks ∧ e.blacks ≤ 1000) ∧ (0 ≤ e.last ∧ e.last ≤ 2)
def MK (n i : Int) (l : List Int) (j : Nat) (h : j < l.length) : Prop := (0 ≤ l[j] ∧ l[j] ≤ n - 1) ∧ l[j] ≠ i ∧ ∀ (q : Nat) (hq : q + 1 = j), l[q]'(by omega) < l[j]
def PK (l : List Ent) (k : Nat) (h : k < l.length) : Prop := FOk l[k] ∧ (∀ (j : Nat) (hj : j < k), l[j].name ≠ l[k].name) ∧ ∀ (j : Nat) (h' : j < l[k].met.length), MK l.length k l[k].met j h'
theorem mk_lt {n i : Int} {l : List Int} : ∀ {j : Nat} (h : j < l.length), (∀ j' (h' : j' < l.length), j' ≤ j → MK n i l j' h') → ∀ q (hq : q < j), l[q]'(by omega) < l[j]
  | 0, _, _, q, hq => absurd hq (Nat.not_lt_zero _)
  | j + 1, h, hm, q, hq => by
    have h1 := (hm (j + 1) h (Nat.le_refl _)).2.2 j rfl
    by_cases e : q = j
    · subst e; exact h1
    · have := mk_lt (n := n) (i := i) (l := l) (j := j) (by omega) (fun j' h' hj' => hm j' h' (by omega)) q (by omega)
      omega
def prs : List Ent → Nat → List (Int × Int)
  | [], _ => []
  | e :: r, i => e.met.map (fun (n : Int) => ((i : Int), n)) ++ prs r (i + 1)
def EOk (l : List Ent) : Prop := (2 ≤ l.length ∧ l.length ≤ 12) ∧ (∀ (i : Nat) (h : i < l.length), PK l i h) ∧ ∀ p ∈ prs l 0, (p.2, p.1) ∈ prs l 0
noncomputable def validE (l : List Ent) : Bool := @decide (EOk l) (Classical.propDecidable _)
theorem validE_t {l : List Ent} (h : EOk l) : validE l = true := by unfold validE; exact @decide_eq_true _ (Classical.propDecidable _) h
theorem validE_f {l : List Ent} (h : ¬ EOk l) : validE l = false := by unfold validE; exact @decide_eq_false _ (Classical.propDecidable _) h
theorem prs_take : ∀ {l : List Ent} {k i : Nat} (h : k < l.length), prs (l.take (k + 1)) i = prs (l.take k) i ++ l[k].met.map (fun (n : Int) => (((i + k : Nat) : Int), n))
  | e :: r, 0, i, h => by simp [prs]
  | e :: r, k + 1, i, h => by
    simp only [List.take_succ_cons, prs, List.getElem_cons_succ, List.append_assoc]
    rw [prs_take (l := r) (k := k) (i := i + 1) (by simpa using h), show i + 1 + k = i + (k + 1) by omega]
theorem prs_fst : ∀ {l : List Ent} {i : Nat} {p : Int × Int}, p ∈ prs l i → (i : Int) ≤ p.1 ∧ p.1 < (i + l.length : Nat)
  | e :: r, i, p, h => by
    simp only [prs, List.mem_append, List.mem_map] at h
    rcases h with ⟨n, _, rfl⟩ | h
    · simp only [List.length_cons]; omega
    · have := prs_fst h
      simp only [List.length_cons]; omega
end Go.Proofs.Ytldckcopeiginaa
/- pairing.Valid: the walk. -/
namespace Go.Proofs.Ytldckcopeiginaa
open Go Go.Ab
theorem build80 (a b : Int) : effBuild Try.prog 80 [(0, .s (.int .i64 a)), (1, .s (.int .i64 b))] = some (.s (keyV (a, b))) := by kernel_rfl
theorem cells_key (p : Int × Int) : cellsOf (.s (keyV p)) = [.s (.int .i64 p.1), .s (.int .i64 p.2)] := rfl
theorem filter_lt {es : List (Value × AV × Nat)} {seen : List Nat} {k : Value} {v : AV} {b : Nat} (hm : (k, v, b) ∈ es) (hb : b ∉ seen) : (es.filter (fun e => !(seen ++ [b]).contains e.2.2)).length < (es.filter (fun e => !seen.contains e.2.2)).length := by
  have e : es.filter (fun e => !(seen ++ [b]).contains e.2.2) = (es.filter (fun e => !seen.contains e.2.2)).filter (fun e => !(e.2.2 == b)) := by
    rw [List.filter_filter]
    refine List.filter_congr fun x _ => ?_
    simp only [List.contains_append, Bool.not_or, Bool.and_comm]
    simp [List.contains_cons]
    exact Bool.and_comm _ _
  rw [e, List.length_filter_lt_length_iff_exists]
  exact ⟨(k, v, b), List.mem_filter.2 ⟨hm, by simpa using hb⟩, by simp⟩
attribute [local irreducible] SC SL wpc wpl wpd wpf wpy wpn FnC CW
set_option maxRecDepth 100000
set_option maxHeartbeats 4000000
theorem pvalid_cw {G : Gl} (hP : Fit Try.prog) (hg : Given Try.prog G) (h39 : ∀ x y z, G.orc 39 [x, y, z] = none) (h40 : ∀ a, G.orc 40 [a] = none) {l : List Ent} {a : AV} {ms : List AV} (h : EV l a ms)
    {w : World} {vs : Array Value} (hG : GlOk (memOf w) (fun _ => none) G) (hc : Concs (memOf w) (fun _ => none) [a] vs.toList) (n : Nat) :
    CallsIn Fence.wide n Try.prog 24 vs w fun e w' => e = .returned (.bool (validE l)) ∧ ∃ ρ σ', Rep w ρ σ' w' := by
  have hlen := h.len
  have hbig := h.big
  have hzl : (List.zipWith enRow l ms).length = l.length := by rw [List.length_zipWith, hlen, Nat.min_self]
  have hsl : SlV 8 a (List.zipWith enRow l ms) := h.sl.v
  have fin : ∀ {B : AS} {tm : Tm} {σ : AS} {e : AEx} {L : List (Nat × AV)} {H : List (Nat × AObj)} {b : Bool}, (e = .normal ∨ e = .ret) → En tm 124 L → He B [] σ H [] → resL L Try.f24.results.toList = some [.s (.bool b)] → b = validE l → PostC Try.prog Try.f24 (.bool (validE l)) e ⟨tm, [], σ⟩ := by
    intro B tm σ e L H b he hE hH hr hb
    exact (Post.intro (R := fun v _ => v = .s (.bool (validE l))) (Hn := []) he hE hH hr trivial List.nodup_nil (fun p hp => by cases hp) (by rw [hb]; rfl)).plain
  refine CW.body (N := 124) Try.func24 rfl rfl (fun s hs => ?_) hG hc n
  refine CW.seqL (J := StL ⟨.e, 0, none⟩ [] [(0, a), (2, .s (.bool false))] 124 [] []) hP hg ?_ hs (fun s hs => ?_)
  · skip
    repeat' (first
      | refine SC_region ?_
      | refine SL_assign (by decide) (by rfl) ?_
      | fail)
    exact SL_nil fun tm σ hE hH => .intro (hE.sub ⟨rfl, rfl, trivial⟩) (hH.sub trivial List.nodup_nil)
  refine CW.seqL (J := fun s => (2 ≤ l.length ∧ l.length ≤ 12) ∧ StL ⟨.e, 0, none⟩ [] [(0, a), (2, .s (.bool false))] 124 [] [] s) hP hg ?_ hs (fun s ⟨hn, hs⟩ => ?_)
  · skip
    repeat' (first
      | (refine SL_callB (by decide) (by rfl) bd39 (by rfl) (by rfl) (within_fn _ _ _ h39) (fun hT => ?_) (fun hT => ?_) <;> first | (exfalso; omega) | skip)
      | refine SL_len_v (by decide) (by rfl) hsl (by rfl) (slF (by rfl)) hzl ?_
      | refine SC_seq ?_
      | refine SC_region ?_
      | refine SL_seq ?_
      | refine SL_move (by decide) (by rfl) ?_
      | refine SL_assign (by decide) (by rfl) ?_
      | refine SL_not_op (by decide) (by rfl) ?_
      | refine SC_cond_t (by rfl) ?_
      | refine SC_cond_f (by rfl) ?_
      | fail)
    rotate_left
    · exact SC_ret (fun tm σ hE hH => fin (.inr rfl) hE hH (by rfl) (validE_f (fun hv => by have := hv.1; omega)).symm)
    · exact SC_skip' (fun tm σ hE hH => ⟨by omega, .intro (hE.sub ⟨rfl, rfl, trivial⟩) (hH.sub trivial List.nodup_nil)⟩)
  obtain ⟨ad, cap, hcap, rfl, hap⟩ : ∃ ad cap, (List.zipWith enRow l ms).length ≤ cap ∧ a = .rsl ad 8 cap (List.zipWith enRow l ms) ∧ 0 < (List.zipWith enRow l ms).length := by
    have hk := h.sl
    generalize List.zipWith enRow l ms = rows at hk hzl
    cases hk with
    | nil => simp only [List.length_nil] at hzl; omega
    | rsl h0 hcc => exact ⟨_, _, hcc, rfl, h0⟩
  refine CW.seqL (J := fun s => ∃ mid, StL ⟨.e, 0, none⟩ [] [(0, .rsl ad 8 cap (List.zipWith enRow l ms)), (2, .s (.bool false)), (3, .mp mid)] 124 [] [(mid, .map [] 0)] s) hP hg ?_ hs (fun s ⟨mid, hs⟩ => ?_)
  · skip
    repeat' (first
      | refine SL_makeMap (by decide) (fun id hid => ?_)
      | refine SC_region ?_
      | refine SL_assign (by decide) (by rfl) ?_
      | fail)
    exact SL_nil fun tm σ hE hH => ⟨id, .intro (hE.sub ⟨rfl, rfl, rfl, trivial⟩) hH⟩
  refine CW.seqL (J := fun s => (∀ (i : Nat) (hi : i < l.length), PK l i hi) ∧ StL ⟨.e, 0, none⟩ [] [(0, .rsl ad 8 cap (List.zipWith enRow l ms)), (2, .s (.bool false)), (3, .mp mid)] 124 [] [(mid, .map (mkE (prs l 0) 0) (prs l 0).length)] s) hP hg ?_ hs (fun s ⟨hpk, hs⟩ => ?_)
  · skip
    repeat' (first
      | refine SL_len_v (by decide) (by rfl) hsl (by rfl) (slF (by rfl)) hzl ?_
      | refine SC_seq ?_
      | refine SC_block ?_
      | refine SC_region ?_
      | refine SL_seq ?_
      | refine SL_move (by decide) (by rfl) ?_
      | fail)
    refine SC_loop (fun k : Nat => [(0, (.rsl ad 8 cap (List.zipWith enRow l ms))), (2, .s (.bool false)), (3, .mp mid), (16, (.rsl ad 8 cap (List.zipWith enRow l ms))), (17, .s (.int .i64 l.length)), (18, .s (.int .i64 k))]) (fun k => [(mid, .map (mkE (prs (l.take k) 0) 0) (prs (l.take k) 0).length)]) (fun _ => []) (fun k => k ≤ l.length ∧ ∀ (i : Nat) (hi : i < l.length), i < k → PK l i hi) (fun k => l.length - k) 0 ⟨by omega, fun i hi h0 => by omega⟩ ⟨rfl, rfl, rfl, rfl, rfl, rfl, trivial⟩ ⟨.head _, trivial⟩ (by simp) rfl ?_
    rintro k ⟨hk1, hk2⟩
    by_cases hlt : k < l.length
    · obtain ⟨m, hrow, hmet⟩ := h.row hlt
      have heach := h.each l[k] (List.getElem_mem hlt)
      have hmc := SlV_cell hmet
      have fail : (PK l k hlt → False) → false = validE l := fun hq => (validE_f (fun hv => hq (hv.2.1 k hlt))).symm
      have f1 : validN l[k].name = false → false = validE l := fun hx => fail fun hq => by
        have := hq.1.1
        rw [this] at hx
        cases hx
      have f2 : ¬ (0 ≤ l[k].rating ∧ l[k].rating ≤ 4000) → false = validE l := fun hx => fail fun hq => hx hq.1.2.1
      have f3 : ¬ (0 ≤ l[k].score ∧ l[k].score ≤ 1000) → false = validE l := fun hx => fail fun hq => hx hq.1.2.2.1
      have f4 : ¬ (0 ≤ l[k].whites ∧ l[k].whites ≤ 1000) → false = validE l := fun hx => fail fun hq => hx hq.1.2.2.2.1
      have f5 : ¬ (0 ≤ l[k].blacks ∧ l[k].blacks ≤ 1000) → false = validE l := fun hx => fail fun hq => hx hq.1.2.2.2.2.1
      have f6 : ¬ (0 ≤ l[k].last ∧ l[k].last ≤ 2) → false = validE l := fun hx => fail fun hq => hx hq.1.2.2.2.2.2
      repeat' (first
        | (refine SL_callB (by decide) (by rfl) bd39 (by rfl) (by rfl) (within_fn _ _ _ h39) (fun hT => ?_) (fun hT => ?_) <;> first | (exfalso; omega) | skip)
        | (refine SL_callb (by decide) (by rfl) bd40 (by rfl) (by rfl) (name_fn _ (by omega) h40) (fun hV => ?_) (fun hV => ?_))
        | refine SL_slice_r (by decide) (by rfl) (by rfl) (slF (by rfl)) (by rfl) (by omega) hcap ?_
        | refine SL_indexAddr_v (by decide) (by rfl) (by rfl) hsl (slF (by rfl)) k (by rfl) (by rw [hzl]; omega) (fun ad' => ?_)
        | refine SL_store_box (by rfl) (by rfl) (cells_mk _) (by repeat (first | exact .head | apply Upd.tail)) (by first | exact .inl (by assumption) | exact .inr (by simp)) (by rfl) (szF (by rfl)) (en_cell (by assumption)) ?_
        | refine SL_load_rr (by decide) (by rfl) (rowF (by rfl)) (by assumption) (Nat.le_of_ble_eq_true (by rfl)) (en_take _ _) ?_
        | refine SL_len_rsl (by decide) (by rfl) (by rfl) (sliceOf_spec (slF (by rfl))).1 ?_
        | refine SC_seq ?_
        | refine SC_block ?_
        | refine SC_region ?_
        | refine SL_seq ?_
        | refine SL_run (by rfl) (by rfl) ?_
        | refine SL_not (by rfl) (by rfl) (by rfl) (by decide) ?_
        | refine SL_move (by decide) (by rfl) ?_
        | refine SL_assign (by decide) (by rfl) ?_
        | refine SL_pick_t (by decide) (by rfl) (by rfl) ?_
        | refine SL_pick_f (by decide) (by rfl) (by rfl) ?_
        | refine SL_not_op (by decide) (by rfl) ?_
        | (refine SL_lss (by decide) (by rfl) (by rfl) (fun hT => ?_) (fun hT => ?_) <;> first | (exfalso; omega) | skip)
        | refine SL_fieldAddr (by decide) (by rfl) (fldF (by rfl)) ?_
        | refine SL_load_o (by decide) (by rfl) (by repeat (first | exact .head _ | refine .tail _ ?_)) (rowF (by rfl)) (by first | assumption | rfl | exact ints_get _ (by omega)) (by rfl) ?_
        | refine SL_alloc (by decide) (zeroF (by rfl)) (fun id hid => ?_)
        | refine SC_cond_t (by rfl) ?_
        | refine SC_cond_f (by rfl) ?_
        | (refine SC_skip' (fun tm σ hE hH => ?_); refine SC.app ?_ hE hH; clear hE hH; clear tm σ)
        | fail)
      rotate_left
      iterate 6
        · exact SC_ret (fun tm σ hE hH => fin (.inr rfl) hE hH (by rfl) (by first | exact f6 (by assumption) | exact f5 (by assumption) | exact f4 (by assumption) | exact f3 (by assumption) | exact f2 (by assumption) | exact f1 (by assumption)))
      have hF : FOk l[k] := ⟨by assumption, by assumption, by assumption, by assumption, by assumption, by assumption⟩
      revert id
      intro x5 hx5
      refine SC_nd fun hnd => ?_
      refine SC_loop (fun j : Nat => [(0, (.rsl ad 8 cap (List.zipWith enRow l ms))), (2, .s (.bool false)), (3, .mp mid), (16, (.rsl ad 8 cap (List.zipWith enRow l ms))), (17, .s (.int .i64 l.length)), (18, .s (.int .i64 k)), (4, .s (.int .i64 k)), (5, .ptr x5 0 0), (59, .rsl ad 8 cap (List.take k (List.zipWith enRow l ms))), (60, .s (.int .i64 (List.take k (List.zipWith enRow l ms)).length)), (61, .s (.int .i64 j))]) (fun j => [(x5, .cells 54 8 true [enRow l[k] m]), (mid, .map (mkE (prs (l.take k) 0) 0) (prs (l.take k) 0).length)]) (fun _ => []) (fun j => j ≤ k ∧ ∀ (i : Nat) (hi : i < l.length), i < j → l[i].name ≠ l[k].name) (fun j => k - j) 0 ⟨by omega, fun i hi h0 => by omega⟩ ⟨rfl, rfl, rfl, rfl, rfl, rfl, rfl, rfl, rfl, rfl, rfl, trivial⟩ ⟨.head _, .tail _ (.head _), trivial⟩ hnd rfl ?_
      rintro j ⟨hj1, hj2⟩
      have htl : (List.take k (List.zipWith enRow l ms)).length = k := by rw [List.length_take, hzl]; omega
      rw [htl]
      by_cases hjlt : j < k
      · obtain ⟨mj, hrowj0, hmetj⟩ := h.row (k := j) (by omega)
        have hmcj := SlV_cell hmetj
        have hrowj : (List.take k (List.zipWith enRow l ms))[j]? = some (enRow l[j] mj) := by rw [List.getElem?_take_of_lt hjlt]; exact hrowj0
        repeat' (first
          | (refine SL_seql (by decide) (by rfl) (by rfl) (fun hS => ?_) (fun hS => ?_))
          | refine SL_indexAddr_r (by decide) (by rfl) (by rfl) (slF (by rfl)) j (by rfl) (by rw [List.length_take, hzl]; omega) ?_
          | refine SL_store_box (by rfl) (by rfl) (cells_mk _) (by repeat (first | exact .head | apply Upd.tail)) (by first | exact .inl (by assumption) | exact .inr (by simp)) (by rfl) (szF (by rfl)) (en_cell (by assumption)) ?_
          | refine SL_load_rr (by decide) (by rfl) (rowF (by rfl)) (by assumption) (Nat.le_of_ble_eq_true (by rfl)) (en_take _ _) ?_
          | refine SC_seq ?_
          | refine SC_block ?_
          | refine SC_region ?_
          | refine SL_seq ?_
          | refine SL_move (by decide) (by rfl) ?_
          | refine SL_assign (by decide) (by rfl) ?_
          | refine SL_add (by decide) (by rfl) (by rfl) (by omega) (by omega) ?_
          | (refine SL_lss (by decide) (by rfl) (by rfl) (fun hT => ?_) (fun hT => ?_) <;> first | (exfalso; omega) | skip)
          | refine SL_fieldAddr (by decide) (by rfl) (fldF (by rfl)) ?_
          | refine SL_load_o (by decide) (by rfl) (by repeat (first | exact .head _ | refine .tail _ ?_)) (rowF (by rfl)) (by first | assumption | rfl | exact ints_get _ (by omega)) (by rfl) ?_
          | refine SL_alloc (by decide) (zeroF (by rfl)) (fun id hid => ?_)
          | refine SC_cond_t (by rfl) ?_
          | refine SC_cond_f (by rfl) ?_
          | (refine SC_skip' (fun tm σ hE hH => ?_); refine SC.app ?_ hE hH; clear hE hH; clear tm σ)
          | fail)
        · have hsame : l[j].name = l[k].name := by assumption
          exact SC_ret (fun tm σ hE hH => fin (.inr rfl) hE hH (by rfl) (fail fun hq => hq.2.1 j hjlt hsame))
        · have hdiff : l[j].name ≠ l[k].name := by assumption
          refine SL_nil fun tm σ hE hH => ⟨j + 1, by omega, ⟨by omega, fun i hi h0 => ?_⟩, tm, σ, rfl, hE.sub ⟨rfl, rfl, rfl, rfl, rfl, rfl, rfl, rfl, rfl, rfl, rfl, trivial⟩, hH.sub ⟨.tail _ (.head _), .tail _ (.tail _ (.head _)), trivial⟩ hnd⟩
          by_cases e : i = j
          · subst e; exact hdiff
          · exact hj2 i hi (by omega)
      · obtain rfl : k = j := by omega
        repeat' (first
          | refine SL_len_v (by decide) (by rfl) hmet (by rfl) (slF (by rfl)) (ints_len _) ?_
          | refine SC_seq ?_
          | refine SC_block ?_
          | refine SC_region ?_
          | refine SL_seq ?_
          | refine SL_move (by decide) (by rfl) ?_
          | (refine SL_lss (by decide) (by rfl) (by rfl) (fun hT => ?_) (fun hT => ?_) <;> first | (exfalso; omega) | skip)
          | refine SL_fieldAddr (by decide) (by rfl) (fldF (by rfl)) ?_
          | refine SL_load_o (by decide) (by rfl) (by repeat (first | exact .head _ | refine .tail _ ?_)) (rowF (by rfl)) (by first | assumption | rfl | exact ints_get _ (by omega)) (by rfl) ?_
          | refine SC_cond_f (by rfl) ?_
          | (refine SC_exit (fun tm σ hE hH => ?_); refine SC.app ?_ hE hH; clear hE hH; clear tm σ)
          | fail)
        refine SC_loop (fun j : Nat => [(0, (.rsl ad 8 cap (List.zipWith enRow l ms))), (2, .s (.bool false)), (3, .mp mid), (16, (.rsl ad 8 cap (List.zipWith enRow l ms))), (17, .s (.int .i64 l.length)), (18, .s (.int .i64 k)), (4, .s (.int .i64 k)), (5, .ptr x5 0 0), (72, m), (73, .s (.int .i64 l[k].met.length)), (74, .s (.int .i64 j))]) (fun j => [(x5, .cells 54 8 true [enRow l[k] m]), (mid, .map (mkE (prs (l.take k) 0 ++ (l[k].met.take j).map (fun (n : Int) => ((k : Int), n))) 0) (prs (l.take k) 0 ++ (l[k].met.take j).map (fun (n : Int) => ((k : Int), n))).length)]) (fun _ => []) (fun j => j ≤ l[k].met.length ∧ ∀ (i : Nat) (hi : i < l[k].met.length), i < j → MK l.length k l[k].met i hi) (fun j => l[k].met.length - j) 0 ⟨by omega, fun i hi h0 => by omega⟩ ⟨rfl, rfl, rfl, rfl, rfl, rfl, rfl, rfl, rfl, rfl, rfl, trivial⟩ ⟨.head _, by simp only [List.take_zero, List.map_nil, List.append_nil]; exact .tail _ (.head _), trivial⟩ hnd rfl ?_
        have hnm := hj2
        clear hj1 hj2 htl
        rintro j' ⟨hj1, hj2⟩
        by_cases hjlt : j' < l[k].met.length
        · have hnew : (∀ (i : Nat) (hi : i < l[k].met.length), i ≤ j' → MK l.length k l[k].met i hi) → (((k : Nat) : Int), l[k].met[j']) ∉ (prs (l.take k) 0 ++ (l[k].met.take j').map (fun (n : Int) => ((k : Int), n))) := by
            intro hall hm
            rcases List.mem_append.1 hm with hm | hm
            · have := (prs_fst hm).2
              rw [List.length_take] at this
              simp only at this
              omega
            · obtain ⟨n, hn1, hn2⟩ := List.mem_map.1 hm
              obtain ⟨q, hq, rfl⟩ := List.getElem_of_mem hn1
              rw [List.length_take] at hq
              simp only [List.getElem_take, Prod.mk.injEq, true_and] at hn2
              have := mk_lt hjlt hall q (by omega)
              omega
          by_cases h0 : j' = 0
          · skip
            repeat' (first
              | (refine SL_callB (by decide) (by rfl) bd39 (by rfl) (by rfl) (within_fn _ _ _ h39) (fun hT => ?_) (fun hT => ?_) <;> first | (exfalso; omega) | skip)
              | refine SL_build (by decide) (by rfl) (build80 _ _) ?_
              | refine SL_indexAddr_v (by decide) (by rfl) (by rfl) hmet (slF (by rfl)) j' (by omega) (by rw [ints_len]; omega) (fun ad => ?_)
              | refine SL_len_v (by decide) (by rfl) hsl (by rfl) (slF (by rfl)) hzl ?_
              | refine SC_seq ?_
              | refine SC_block ?_
              | refine SC_region ?_
              | refine SL_seq ?_
              | refine SL_run (by rfl) (by rfl) ?_
              | refine SL_not (by rfl) (by rfl) (by rfl) (by decide) ?_
              | refine SL_notu (by rfl) (by rfl) (by decide) ?_
              | refine SL_move (by decide) (by rfl) ?_
              | refine SL_assign (by decide) (by rfl) ?_
              | refine SL_pick_t (by decide) (by rfl) (by rfl) ?_
              | refine SL_pick_f (by decide) (by rfl) (by rfl) ?_
              | refine SL_not_op (by decide) (by rfl) ?_
              | refine SL_sub (by decide) (by rfl) (by rfl) (by omega) (by omega) ?_
              | (refine SL_lss (by decide) (by rfl) (by rfl) (fun hT => ?_) (fun hT => ?_) <;> first | (exfalso; omega) | skip)
              | (refine SL_gtr (by decide) (by rfl) (by rfl) (fun hT => ?_) (fun hT => ?_) <;> first | (exfalso; omega) | skip)
              | (refine SL_eql (by decide) (by rfl) (by rfl) (fun hT => ?_) (fun hT => ?_) <;> first | (exfalso; omega) | skip)
              | refine SL_load_r (by decide) (by rfl) (rowF (by rfl)) (by first | assumption | rfl | exact ints_get _ (by omega)) (by rfl) ?_
              | refine SC_cond_t (by rfl) ?_
              | refine SC_cond_f (by rfl) ?_
              | (refine SC_skip' (fun tm σ hE hH => ?_); refine SC.app ?_ hE hH; clear hE hH; clear tm σ)
              | fail)
            all_goals try
              exact SC_ret (fun tm σ hE hH => fin (.inr rfl) hE hH (by rfl) (fail fun hq => by
                have h1 := hq.2.2 j' hjlt
                first
                | exact absurd h1.1 (by assumption)
                | exact absurd (by assumption) h1.2.1
                | (have h2 := h1.2.2 jp hjp.symm; omega)))
            · skip
              have hMK : MK l.length k l[k].met j' hjlt := ⟨by assumption, by assumption, fun q hq => by omega⟩
              have hall : ∀ (i : Nat) (hi : i < l[k].met.length), i ≤ j' → MK l.length k l[k].met i hi := fun i hi hle => by
                rcases Nat.lt_or_eq_of_le hle with h1 | h1
                · exact hj2 i hi h1
                · subst h1; exact hMK
              have hsn : (prs (l.take k) 0 ++ (l[k].met.take (j' + 1)).map (fun (n : Int) => ((k : Int), n))) = (prs (l.take k) 0 ++ (l[k].met.take j').map (fun (n : Int) => ((k : Int), n))) ++ [(((k : Nat) : Int), l[k].met[j'])] := by
                rw [List.take_succ_eq_append_getElem hjlt, List.map_append, ← List.append_assoc]; rfl
              refine SL_mapNew Try.underlying78 (by rfl) (by rfl) (by rfl) (find_no (hnew hall)) (.tail .head) (.inl (Nat.zero_le _)) ?_
              repeat' (first
                | refine SC_region ?_
                | (refine SL_nil (fun tm σ hE hH => ?_); refine SC.app ?_ hE hH; clear hE hH; clear tm σ)
                | refine SL_move (by decide) (by rfl) ?_
                | refine SL_add (by decide) (by rfl) (by rfl) (by omega) (by omega) ?_
                | fail)
              refine SL_nil fun tm σ hE hH => ⟨j' + 1, by omega, ⟨by omega, fun i hi h0 => hall i hi (by omega)⟩, tm, σ, rfl, hE.sub ⟨rfl, rfl, rfl, rfl, rfl, rfl, rfl, rfl, rfl, rfl, rfl, trivial⟩, hH.sub ⟨.head _, ?_, trivial⟩ hnd⟩
              have hl2 : ((prs (l.take k) 0 ++ (l[k].met.take j').map (fun (n : Int) => ((k : Int), n))) ++ [(((k : Nat) : Int), l[k].met[j'])]).length = (prs (l.take k) 0 ++ (l[k].met.take j').map (fun (n : Int) => ((k : Int), n))).length + 1 := by rw [List.length_append (bs := [_])]; rfl
              rw [hsn, mkE_snoc, hl2, Nat.zero_add]
              exact .tail _ (.head _)
          · obtain ⟨jp, hjp⟩ : ∃ jp, j' = jp + 1 := ⟨j' - 1, by omega⟩
            repeat' (first
              | (refine SL_callB (by decide) (by rfl) bd39 (by rfl) (by rfl) (within_fn _ _ _ h39) (fun hT => ?_) (fun hT => ?_) <;> first | (exfalso; omega) | skip)
              | refine SL_build (by decide) (by rfl) (build80 _ _) ?_
              | refine SL_indexAddr_v (by decide) (by rfl) (by rfl) hmet (slF (by rfl)) jp (by omega) (by rw [ints_len]; omega) (fun ad => ?_)
              | refine SL_indexAddr_v (by decide) (by rfl) (by rfl) hmet (slF (by rfl)) j' (by omega) (by rw [ints_len]; omega) (fun ad => ?_)
              | refine SL_len_v (by decide) (by rfl) hsl (by rfl) (slF (by rfl)) hzl ?_
              | refine SC_seq ?_
              | refine SC_block ?_
              | refine SC_region ?_
              | refine SL_seq ?_
              | refine SL_run (by rfl) (by rfl) ?_
              | refine SL_not (by rfl) (by rfl) (by rfl) (by decide) ?_
              | refine SL_notu (by rfl) (by rfl) (by decide) ?_
              | refine SL_move (by decide) (by rfl) ?_
              | refine SL_assign (by decide) (by rfl) ?_
              | refine SL_pick_t (by decide) (by rfl) (by rfl) ?_
              | refine SL_pick_f (by decide) (by rfl) (by rfl) ?_
              | refine SL_not_op (by decide) (by rfl) ?_
              | refine SL_sub (by decide) (by rfl) (by rfl) (by omega) (by omega) ?_
              | (refine SL_lss (by decide) (by rfl) (by rfl) (fun hT => ?_) (fun hT => ?_) <;> first | (exfalso; omega) | skip)
              | (refine SL_leq (by decide) (by rfl) (by rfl) (fun hT => ?_) (fun hT => ?_) <;> first | (exfalso; omega) | skip)
              | (refine SL_gtr (by decide) (by rfl) (by rfl) (fun hT => ?_) (fun hT => ?_) <;> first | (exfalso; omega) | skip)
              | (refine SL_eql (by decide) (by rfl) (by rfl) (fun hT => ?_) (fun hT => ?_) <;> first | (exfalso; omega) | skip)
              | refine SL_fieldAddr (by decide) (by rfl) (fldF (by rfl)) ?_
              | refine SL_load_r (by decide) (by rfl) (rowF (by rfl)) (by first | assumption | rfl | exact ints_get _ (by omega)) (by rfl) ?_
              | refine SL_load_o (by decide) (by rfl) (by repeat (first | exact .head _ | refine .tail _ ?_)) (rowF (by rfl)) (by first | assumption | rfl | exact ints_get _ (by omega)) (by rfl) ?_
              | refine SC_cond_t (by rfl) ?_
              | refine SC_cond_f (by rfl) ?_
              | (refine SC_skip' (fun tm σ hE hH => ?_); refine SC.app ?_ hE hH; clear hE hH; clear tm σ)
              | fail)
            all_goals try
              exact SC_ret (fun tm σ hE hH => fin (.inr rfl) hE hH (by rfl) (fail fun hq => by
                have h1 := hq.2.2 j' hjlt
                first
                | exact absurd h1.1 (by assumption)
                | exact absurd (by assumption) h1.2.1
                | (have h2 := h1.2.2 jp hjp.symm; omega)))
            · skip
              have hMK : MK l.length k l[k].met j' hjlt := ⟨by assumption, by assumption, fun q hq => by
                obtain rfl : q = jp := by omega
                assumption⟩
              have hall : ∀ (i : Nat) (hi : i < l[k].met.length), i ≤ j' → MK l.length k l[k].met i hi := fun i hi hle => by
                rcases Nat.lt_or_eq_of_le hle with h1 | h1
                · exact hj2 i hi h1
                · subst h1; exact hMK
              have hsn : (prs (l.take k) 0 ++ (l[k].met.take (j' + 1)).map (fun (n : Int) => ((k : Int), n))) = (prs (l.take k) 0 ++ (l[k].met.take j').map (fun (n : Int) => ((k : Int), n))) ++ [(((k : Nat) : Int), l[k].met[j'])] := by
                rw [List.take_succ_eq_append_getElem hjlt, List.map_append, ← List.append_assoc]; rfl
              refine SL_mapNew Try.underlying78 (by rfl) (by rfl) (by rfl) (find_no (hnew hall)) (.tail .head) (.inl (Nat.zero_le _)) ?_
              repeat' (first
                | refine SC_region ?_
                | (refine SL_nil (fun tm σ hE hH => ?_); refine SC.app ?_ hE hH; clear hE hH; clear tm σ)
                | refine SL_move (by decide) (by rfl) ?_
                | refine SL_add (by decide) (by rfl) (by rfl) (by omega) (by omega) ?_
                | fail)
              refine SL_nil fun tm σ hE hH => ⟨j' + 1, by omega, ⟨by omega, fun i hi h0 => hall i hi (by omega)⟩, tm, σ, rfl, hE.sub ⟨rfl, rfl, rfl, rfl, rfl, rfl, rfl, rfl, rfl, rfl, rfl, trivial⟩, hH.sub ⟨.head _, ?_, trivial⟩ hnd⟩
              have hl2 : ((prs (l.take k) 0 ++ (l[k].met.take j').map (fun (n : Int) => ((k : Int), n))) ++ [(((k : Nat) : Int), l[k].met[j'])]).length = (prs (l.take k) 0 ++ (l[k].met.take j').map (fun (n : Int) => ((k : Int), n))).length + 1 := by rw [List.length_append (bs := [_])]; rfl
              rw [hsn, mkE_snoc, hl2, Nat.zero_add]
              exact .tail _ (.head _)
        · obtain rfl : j' = l[k].met.length := by omega
          repeat' (first
            | refine SC_seq ?_
            | refine SC_region ?_
            | refine SL_seq ?_
            | refine SL_move (by decide) (by rfl) ?_
            | refine SL_add (by decide) (by rfl) (by rfl) (by omega) (by omega) ?_
            | (refine SL_lss (by decide) (by rfl) (by rfl) (fun hT => ?_) (fun hT => ?_) <;> first | (exfalso; omega) | skip)
            | refine SC_cond_f (by rfl) ?_
            | (refine SC_exit (fun tm σ hE hH => ?_); refine SC.app ?_ hE hH; clear hE hH; clear tm σ)
            | fail)
          refine SL_nil fun tm σ hE hH => ⟨k + 1, by omega, ⟨by omega, fun i hi h0 => ?_⟩, tm, σ, rfl, hE.sub ⟨rfl, rfl, rfl, rfl, rfl, rfl, trivial⟩, hH.sub ⟨?_, trivial⟩ (List.nodup_cons.1 hnd).2⟩
          · by_cases e : i = k
            · subst e; exact ⟨hF, fun q hq => hnm q (by omega) hq, fun j'' h'' => hj2 j'' h'' h''⟩
            · exact hk2 i hi (by omega)
          · rw [prs_take hlt, Nat.zero_add]
            rw [List.take_length]
            exact .tail _ (.head _)
    · obtain rfl : k = l.length := by omega
      rw [List.take_length]
      repeat' (first
        | refine SC_seq ?_
        | refine SC_region ?_
        | refine SL_seq ?_
        | (refine SL_lss (by decide) (by rfl) (by rfl) (fun hT => ?_) (fun hT => ?_) <;> first | (exfalso; omega) | skip)
        | refine SC_cond_f (by rfl) ?_
        | fail)
      exact SC_exit (fun tm σ hE hH => ⟨fun i hi => hk2 i hi hi, .intro (hE.sub ⟨rfl, rfl, rfl, trivial⟩) hH⟩)
  obtain ⟨ps, hps⟩ : ∃ ps, ps = prs l 0 := ⟨_, rfl⟩
  rw [← hps] at hs
  have hold : ∀ e ∈ mkE ps 0, e.2.2 < ps.length := fun ⟨k, v, b⟩ he => by
    obtain ⟨p, i, h1, _, _, rfl⟩ := mkE_mem he
    have := (List.getElem?_eq_some_iff.1 h1).1
    simp only; omega
  refine CW.seq ?_
  refine CW.seqL (J := fun s => ∃ it, StL ⟨.e, 0, none⟩ [] [(0, (.rsl ad 8 cap (List.zipWith enRow l ms))), (2, .s (.bool false)), (3, .mp mid), (111, .ptr it 0 0)] 124 [] [(it, .iter mid ps.length [] ps.length), (mid, .map (mkE ps 0) ps.length)] s) hP hg ?_ hs (fun s ⟨it, hs⟩ => ?_)
  · skip
    repeat' (first
      | refine SL_range (by decide) Try.underlying78 (by rfl) (by repeat (first | exact .head _ | refine .tail _ ?_)) (fun id hid => ?_)
      | refine SC_region ?_
      | refine SL_move (by decide) (by rfl) ?_
      | fail)
    exact SL_nil fun tm σ hE hH => ⟨id, .intro (hE.sub ⟨rfl, rfl, rfl, rfl, trivial⟩) hH⟩
  refine CW.block ?_
  refine CW.loop (fun n s => ∃ seen : List Nat, ((mkE ps 0).filter (fun e => !seen.contains e.2.2)).length ≤ n ∧ (∀ (p : Int × Int) (i : Nat), ps[i]? = some p → i ∈ seen → (p.2, p.1) ∈ ps) ∧ StL ⟨.e, 0, none⟩ [] [(0, (.rsl ad 8 cap (List.zipWith enRow l ms))), (2, .s (.bool false)), (3, .mp mid), (111, .ptr it 0 0)] 124 [] [(it, .iter mid ps.length seen ps.length), (mid, .map (mkE ps 0) ps.length)] s) ?_ ⟨[], Nat.le_refl _, fun p i _ hi => (by cases hi), hs⟩
  rintro n s ⟨seen, hcnt, hsy, tm, σ, rfl, hE, hH⟩
  refine CW.seq ?_
  refine CW.nextL (h1 := hE) (h2 := hH) hP hg (by decide) (by rfl) (.head _) (.tail _ (.head _)) hold (Nat.le_refl _) (.inl (Nat.zero_le _)) ?_ ?_
  · intro hall
    repeat' (first
      | refine SL_extract_s (by decide) (by rfl) (by rfl) ?_
      | fail)
    refine SL_nil fun tm σ hE hH => CW.walk hP hg ?_ hE hH
    repeat' (first
      | refine SC_seq ?_
      | refine SC_cond_f (by rfl) ?_
      | fail)
    refine SC_exit fun tm σ hE hH => CW.walk hP hg ?_ hE hH
    repeat' (first
      | refine SC_seq ?_
      | refine SC_region ?_
      | refine SL_seq ?_
      | refine SL_assign (by decide) (by rfl) ?_
      | fail)
    exact SC_ret (fun tm σ hE hH => fin (.inr rfl) hE hH (by rfl) (validE_t ⟨hn, hpk, fun p hp => by
      rw [← hps] at hp ⊢
      obtain ⟨i, hi⟩ := List.getElem?_of_mem hp
      have := hall _ (mkE_in (b0 := 0) hi)
      rw [Nat.zero_add] at this
      exact hsy p i hi this⟩).symm)
  · intro k v b hm hb
    have hlt := filter_lt hm hb
    obtain ⟨p, i, hp, rfl, rfl, rfl⟩ := mkE_mem hm
    refine ⟨_, .head, ?_⟩
    have hst : (seen ++ [0 + i]).getLast? = some (0 + i) := by simp
    have hfe := mkE_find (b0 := 0) hp
    by_cases hsym : (p.2, p.1) ∈ ps
    · obtain ⟨i2, k2, b2, hfy⟩ := find_yes (b := 0) (e := (mkE ps 0).isEmpty) hsym
      repeat' (first
        | refine SL_extract_s (by decide) (by rfl) (by rfl) ?_
        | fail)
      refine SL_nil fun tm σ hE hH => CW.walk hP hg ?_ hE hH
      repeat' (first
        | refine SL_indexAddr_a (by decide) (by rfl) (by rfl) arr80 0 (by rfl) (by decide) ?_
        | refine SL_indexAddr_a (by decide) (by rfl) (by rfl) arr80 1 (by rfl) (by decide) ?_
        | refine SL_lookup (by decide) Try.underlying78 (by rfl) (by rfl) (by repeat (first | exact .head _ | refine .tail _ ?_)) hfy ?_
        | refine SL_entry (by decide) (by rfl) (by repeat (first | exact .head _ | refine .tail _ ?_)) (by repeat (first | exact .head _ | refine .tail _ ?_)) hst rfl hfe ?_
        | refine SL_build (by decide) (by rfl) (build80 _ _) ?_
        | refine SL_store_box (by rfl) (by rfl) (cells_key _) (by repeat (first | exact .head | apply Upd.tail)) (by first | exact .inl (by assumption) | exact .inr (by simp)) (by rfl) (szF (by rfl)) (by rfl) ?_
        | refine SC_seq ?_
        | refine SC_block ?_
        | refine SC_region ?_
        | refine SL_seq ?_
        | refine SL_move (by decide) (by rfl) ?_
        | refine SL_not_op (by decide) (by rfl) ?_
        | refine SL_extract_s (by decide) (by rfl) (by rfl) ?_
        | refine SL_load_o (by decide) (by rfl) (by repeat (first | exact .head _ | refine .tail _ ?_)) (rowF (by rfl)) (by first | assumption | rfl | exact ints_get _ (by omega)) (by rfl) ?_
        | refine SL_alloc (by decide) (zeroF (by rfl)) (fun id hid => ?_)
        | refine SC_cond_t (by rfl) ?_
        | refine SC_cond_f (by rfl) ?_
        | (refine SC_skip' (fun tm σ hE hH => ?_); refine SC.app ?_ hE hH; clear hE hH; clear tm σ)
        | fail)
      exact SC_skip' fun tm σ hE hH => by
        obtain ⟨n', rfl⟩ : ∃ n', n = n' + 1 := ⟨n - 1, by omega⟩
        refine ⟨n', rfl, seen ++ [0 + i], by omega, fun q j hq hj => ?_, .intro (hE.sub ⟨rfl, rfl, rfl, rfl, trivial⟩) (hH.sub ⟨.tail _ (.head _), .tail _ (.tail _ (.head _)), trivial⟩ (List.nodup_cons.1 hH.nodup).2)⟩
        rcases List.mem_append.1 hj with hj | hj
        · exact hsy q j hq hj
        · rw [List.mem_singleton, Nat.zero_add] at hj
          subst hj
          rw [hp] at hq
          cases hq
          exact hsym
    · have hfn := find_no (b := 0) (e := (mkE ps 0).isEmpty) hsym
      repeat' (first
        | refine SL_extract_s (by decide) (by rfl) (by rfl) ?_
        | fail)
      refine SL_nil fun tm σ hE hH => CW.walk hP hg ?_ hE hH
      repeat' (first
        | refine SL_indexAddr_a (by decide) (by rfl) (by rfl) arr80 0 (by rfl) (by decide) ?_
        | refine SL_indexAddr_a (by decide) (by rfl) (by rfl) arr80 1 (by rfl) (by decide) ?_
        | refine SL_lookupNo (by decide) Try.underlying78 (by rfl) (by rfl) (by repeat (first | exact .head _ | refine .tail _ ?_)) hfn (by rfl) ?_
        | refine SL_entry (by decide) (by rfl) (by repeat (first | exact .head _ | refine .tail _ ?_)) (by repeat (first | exact .head _ | refine .tail _ ?_)) hst rfl hfe ?_
        | refine SL_build (by decide) (by rfl) (build80 _ _) ?_
        | refine SL_store_box (by rfl) (by rfl) (cells_key _) (by repeat (first | exact .head | apply Upd.tail)) (by first | exact .inl (by assumption) | exact .inr (by simp)) (by rfl) (szF (by rfl)) (by rfl) ?_
        | refine SC_seq ?_
        | refine SC_block ?_
        | refine SC_region ?_
        | refine SL_seq ?_
        | refine SL_move (by decide) (by rfl) ?_
        | refine SL_assign (by decide) (by rfl) ?_
        | refine SL_not_op (by decide) (by rfl) ?_
        | refine SL_extract_s (by decide) (by rfl) (by rfl) ?_
        | refine SL_load_o (by decide) (by rfl) (by repeat (first | exact .head _ | refine .tail _ ?_)) (rowF (by rfl)) (by first | assumption | rfl | exact ints_get _ (by omega)) (by rfl) ?_
        | refine SL_alloc (by decide) (zeroF (by rfl)) (fun id hid => ?_)
        | refine SC_cond_t (by rfl) ?_
        | (refine SC_skip' (fun tm σ hE hH => ?_); refine SC.app ?_ hE hH; clear hE hH; clear tm σ)
        | fail)
      exact SC_ret (fun tm σ hE hH => fin (.inr rfl) hE hH (by rfl) (validE_f fun hv => by
        have := hv.2.2 p (by rw [← hps]; exact List.mem_of_getElem? hp)
        rw [← hps] at this
        exact hsym this).symm)
end Go.Proofs.Ytldckcopeiginaa
/- Valid on entrants of one's own. -/
namespace Go.Proofs.Ytldckcopeiginaa
open Go Go.Ab
theorem ownS_up {σ : AS} {es : Nat} {a : AV} {rows : List (List AV)} (h : OwnS σ es a rows) {B w : World} {ρ ρ' : Rho} {v : Value} (hrep : Rep B ρ σ w) (hc : Conc (memOf B) ρ a v) {Q : List (List AV) → Prop}
    (f : ∀ vs, Concs (memOf B) ρ rows.flatten vs → ∃ rows', rows'.length = rows.length ∧ (∀ r ∈ rows', r.length = es) ∧ Q rows' ∧ Concs (memOf w) ρ' rows'.flatten vs) : ∃ a' rows', Q rows' ∧ SlV es a' rows' ∧ Conc (memOf w) ρ' a' v := by
  rcases h.laid hrep hc with ⟨rfl, rfl, rfl⟩ | ⟨b, cap, hcap, rfl, c, e, hm, hl, hcs⟩
  · obtain ⟨rows', h1, h2, h3, h4⟩ := f [] .nil
    obtain rfl := List.eq_nil_of_length_eq_zero h1
    exact ⟨_, [], h3, .nil, .s _⟩
  · obtain ⟨rows', h1, h2, h3, h4⟩ := f _ hcs
    by_cases h0 : rows'.length = 0
    · obtain rfl := List.eq_nil_of_length_eq_zero h0
      rw [← h1]
      exact ⟨.s (.slice (some ⟨b, 0, none⟩) 0 cap), [], h3, .nil, .s _⟩
    · refine ⟨.rsl ⟨b, 0, none⟩ es cap rows', rows', h3, .rsl (by omega), ?_⟩
      rw [← h1] at hcs h4 hcap ⊢
      exact .rsl (.mk hm h2 (by rw [List.drop_zero]; exact h4)) hcap
def OwnE (σ : AS) (a : AV) (l : List Ent) : Prop := ∃ ms : List AV, OwnS σ 8 a (List.zipWith enRow l ms) ∧ ms.length = l.length ∧ ∀ (i : Nat) (h : i < l.length) (h' : i < ms.length), OwnS σ 1 ms[i] (ints l[i].met)
theorem ints_inj' : ∀ {l l' : List Int}, ints l = ints l' → l = l'
  | [], [], _ => rfl
  | [], _ :: _, h => by simp [ints] at h
  | _ :: _, [], h => by simp [ints] at h
  | a :: l, b :: l', h => by
    simp only [ints, List.map_cons, List.cons.injEq, AV.s.injEq, Value.int.injEq, true_and, and_true] at h
    obtain ⟨rfl, h⟩ := h
    rw [ints_inj' h]
theorem ents_uniq {σ : AS} : ∀ {l l' : List Ent} {ms ms' : List AV}, ms.length = l.length → ms'.length = l'.length → List.zipWith enRow l ms = List.zipWith enRow l' ms' →
    (∀ (i : Nat) (h : i < l.length) (h' : i < ms.length), OwnS σ 1 ms[i] (ints l[i].met)) → (∀ (i : Nat) (h : i < l'.length) (h' : i < ms'.length), OwnS σ 1 ms'[i] (ints l'[i].met)) → l = l'
  | [], [], _, _, _, _, _, _, _ => rfl
  | [], _ :: _, [], _ :: _, _, _, h, _, _ => by simp at h
  | _ :: _, [], _ :: _, [], _, _, h, _, _ => by simp at h
  | ⟨a1, a2, a3, a4, a5, a6, a7, a8⟩ :: l, ⟨b1, b2, b3, b4, b5, b6, b7, b8⟩ :: l', m :: ms, m' :: ms', h1, h2, h, o1, o2 => by
    simp only [List.zipWith_cons_cons, List.cons.injEq, enRow, AV.s.injEq, Value.int.injEq, Value.string.injEq, Value.bool.injEq, true_and, and_true] at h
    obtain ⟨⟨rfl, rfl, rfl, rfl, rfl, rfl, rfl, rfl⟩, h⟩ := h
    have e := ints_inj' ((o1 0 (by simp) (by simp)).uniq (o2 0 (by simp) (by simp)))
    simp only [List.getElem_cons_zero] at e
    subst e
    rw [ents_uniq (by simpa using h1) (by simpa using h2) h (fun i hi hi' => o1 (i + 1) (by simpa using hi) (by simpa using hi')) (fun i hi hi' => o2 (i + 1) (by simpa using hi) (by simpa using hi'))]
  | _ :: _, _, [], _, h, _, _, _, _ => by simp at h
  | _, _ :: _, _, [], _, h, _, _, _ => by simp at h
  | [], _, _ :: _, _, h, _, _, _, _ => by simp at h
  | _, [], _, _ :: _, _, h, _, _, _ => by simp at h
theorem OwnE.uniq {σ : AS} {a : AV} {l l' : List Ent} (h : OwnE σ a l) (h' : OwnE σ a l') : l = l' := by
  obtain ⟨ms, h1, h2, h3⟩ := h
  obtain ⟨ms', h1', h2', h3'⟩ := h'
  exact ents_uniq h2 h2' (h1.uniq h1') h3 h3'
theorem OwnE.le {σ σ₂ : AS} {N : Nat} {a : AV} {l : List Ent} (h : OwnE σ a l) (hl : Le N σ σ₂) : OwnE σ₂ a l := by
  obtain ⟨ms, h1, h2, h3⟩ := h
  exact ⟨ms, h1.le hl, h2, fun i h h' => (h3 i h h').le hl⟩
theorem met_lift {σ : AS} {x : AV} {l : List Int} (h : OwnS σ 1 x (ints l)) {B w : World} {ρ ρ' : Rho} {v : Value} (hrep : Rep B ρ σ w) (hc : Conc (memOf B) ρ x v) : ∃ x', SlV 1 x' (ints l) ∧ Conc (memOf w) ρ' x' v := by
  obtain ⟨a', rows', rfl, h2, h3⟩ := ownS_up h (ρ' := ρ') hrep hc (Q := fun r => r = ints l) fun vs hvs => ⟨_, rfl, fun r hr => by
    obtain ⟨g, _, rfl⟩ := List.mem_map.1 hr; rfl, rfl, hvs.plain fun a ha => by
    obtain ⟨r, hr, har⟩ := List.mem_flatten.1 ha
    obtain ⟨g, _, rfl⟩ := List.mem_map.1 hr
    rw [List.mem_singleton] at har
    exact ⟨_, har⟩⟩
  exact ⟨a', h2, h3⟩
theorem ents_lift {σ : AS} {B w : World} {ρ ρ' : Rho} (hrep : Rep B ρ σ w) : ∀ {ms : List AV} {l : List Ent} {vs : List Value}, ms.length = l.length → (∀ (i : Nat) (h : i < l.length) (h' : i < ms.length), OwnS σ 1 ms[i] (ints l[i].met)) →
    Concs (memOf B) ρ (List.zipWith enRow l ms).flatten vs → ∃ ms' : List AV, ms'.length = l.length ∧ (∀ (i : Nat) (h : i < l.length) (h' : i < ms'.length), SlV 1 ms'[i] (ints l[i].met)) ∧ Concs (memOf w) ρ' (List.zipWith enRow l ms').flatten vs
  | [], [], _, _, _, h => by cases h; exact ⟨[], rfl, fun i h => (by cases h), .nil⟩
  | m :: ms, e :: l, _, hl, ho, h => by
    rw [List.zipWith_cons_cons, List.flatten_cons] at h
    unfold enRow at h
    simp only [List.cons_append, List.nil_append] at h
    cases h with | cons c1 h => cases h with | cons c2 h => cases h with | cons c3 h => cases h with | cons c4 h => cases h with | cons c5 h => cases h with | cons c6 h => cases h with | cons c7 h => cases h with | cons c8 h =>
    cases c1; cases c2; cases c3; cases c4; cases c5; cases c6; cases c7
    obtain ⟨x', h1, h2⟩ := met_lift (ρ' := ρ') (ho 0 (by simp) (by simp)) hrep c8
    obtain ⟨ms', h3, h4, h5⟩ := ents_lift (ρ' := ρ') hrep (by simpa using hl) (fun i h h' => ho (i + 1) (by simpa using h) (by simpa using h')) h
    refine ⟨x' :: ms', by simp [h3], fun i h h' => ?_, ?_⟩
    · cases i with
      | zero => exact h1
      | succ i => exact h4 i (by simpa using h) (by simpa using h')
    · rw [List.zipWith_cons_cons, List.flatten_cons]
      unfold enRow
      exact .cons (.s _) (.cons (.s _) (.cons (.s _) (.cons (.s _) (.cons (.s _) (.cons (.s _) (.cons (.s _) (.cons h2 h5)))))))
  | [], _ :: _, _, h, _, _ => by simp at h
  | _ :: _, [], _, h, _, _ => by simp at h
theorem OwnE.lift {σ : AS} {a : AV} {l : List Ent} (h : OwnE σ a l) (hb : l.length ≤ 9223372036854775807) (he : ∀ e ∈ l, e.met.length ≤ 9223372036854775807 ∧ e.name.size ≤ 9223372036854775807) {B w : World} {ρ ρ' : Rho} {v : Value} (hrep : Rep B ρ σ w) (hc : Conc (memOf B) ρ a v) :
    ∃ a' ms', EV l a' ms' ∧ Conc (memOf w) ρ' a' v := by
  obtain ⟨ms, h1, h2, h3⟩ := h
  obtain ⟨a', rows', ⟨ms', rfl, h4, h5⟩, h6, h7⟩ := ownS_up h1 (ρ' := ρ') hrep hc (Q := fun r => ∃ ms' : List AV, r = List.zipWith enRow l ms' ∧ ms'.length = l.length ∧ (∀ (i : Nat) (h : i < l.length) (h' : i < ms'.length), SlV 1 ms'[i] (ints l[i].met))) fun vs hvs => by
    obtain ⟨ms', h4, h5, h6⟩ := ents_lift (ρ' := ρ') hrep h2 h3 hvs
    refine ⟨_, by rw [List.length_zipWith, List.length_zipWith, h4, h2], fun r hr => ?_, ⟨ms', rfl, h4, h5⟩, h6⟩
    obtain ⟨i, hi, rfl⟩ := List.getElem_of_mem hr
    rw [List.getElem_zipWith]
    rfl
  refine ⟨a', ms', ⟨h4, ?_, h5, hb, he⟩, h7⟩
  generalize List.zipWith enRow l ms' = rows at h6
  cases h6 with
  | nil => exact .nil
  | rsl h0 => cases h7 with | rsl _ hcap => exact .rsl h0 hcap
def Own24 (a : AV) (σ : AS) (l : List Ent) : Prop := OwnE σ a l ∧ l.length ≤ 9223372036854775807 ∧ ∀ e ∈ l, e.met.length ≤ 9223372036854775807 ∧ e.name.size ≤ 9223372036854775807
open Classical in
noncomputable def own24 (a : AV) (σ : AS) : Option (AV × AS) := if h : ∃ l, Own24 a σ l then some (.s (.bool (validE h.choose)), σ) else none
theorem own24_of {a : AV} {σ : AS} {l : List Ent} (h : Own24 a σ l) : own24 a σ = some (.s (.bool (validE l)), σ) := by
  unfold own24
  have hh : ∃ l, Own24 a σ l := ⟨l, h⟩
  rw [dif_pos hh, hh.choose_spec.1.uniq h.1]
theorem own24_some {a : AV} {σ : AS} {x : AV × AS} (h : own24 a σ = some x) : ∃ l, Own24 a σ l ∧ x = (.s (.bool (validE l)), σ) := by
  unfold own24 at h
  split at h
  · rename_i hh
    cases h
    exact ⟨_, hh.choose_spec, rfl⟩
  · cases h
theorem own24_ctr (a : AV) : Ctr Try.prog (oneOrc 9 (.bool true)) 24 [a] (own24 a) where
  body := ⟨_, Try.func24, rfl⟩
  ok := fun σ v σ' hh B ρ w vs hG hrep hc k => by
    obtain ⟨l, ⟨h1, h2, h3⟩, he⟩ := own24_some hh
    cases he
    cases hc' : vs.toList with
    | nil => rw [hc'] at hc; cases hc
    | cons v0 r =>
      rw [hc'] at hc
      cases hc with
      | cons ha hr =>
        cases hr
        obtain ⟨a', ms', h4, h5⟩ := h1.lift (ρ' := fun _ => none) h2 h3 hrep ha
        have := pvalid_cw (G := oneOrc 9 (.bool true)) fit given9 (fun x y z => oneOrc_off (by simp)) (fun x => oneOrc_off (by simp)) h4 (w := w) (vs := vs) (fun g row hr => by cases hr) (by rw [hc']; exact .cons h5 .nil) k
        refine this.mono ?_
        rintro e w' ⟨rfl, ρ', σk, hk⟩
        exact ⟨ρ, _, rfl, Rho.le_refl ρ, .s _, hrep.after hk⟩
  acts := fun σ v σ' hh N hN => by
    obtain ⟨l, h1, he⟩ := own24_some hh
    cases he
    exact Acts.none fun σ₂ hl => own24_of ⟨h1.1.le hl, h1.2⟩
#print axioms own24_ctr
end Go.Proofs.Ytldckcopeiginaa
/- The library's slices.Insert, laid at this program by the kit's lay-shelf and lay-plain. -/
namespace Go.Proofs
open Go.Shelf
def Try.laysNm221_ren : Go.Shelf.Ren := ⟨fun | 21 => 38 | 27 => 61 | 28 => 62 | 35 => 74 | 39 => 81 | n => n, fun | 22 => 25 | 3 => 3 | 4 => 4 | 0 => 0 | n => n, fun | n => n⟩
theorem Try.laysNm221 : Go.Proofs.Lays2.n21 Try.prog Try.laysNm221_ren := {
  mixed := by kernel_rfl
  f21 := Try.func38.trans (congrArg some (by kernel_rfl))
  f27 := Try.func61.trans (congrArg some (by kernel_rfl))
  f28 := Try.func62.trans (congrArg some (by kernel_rfl))
  f35 := Try.func74.trans (congrArg some (by kernel_rfl))
  f39 := Try.func81.trans (congrArg some (by kernel_rfl))
  t0 := Try.underlying0
  a0 := Try.isAgg0
  z0 := Try.sizeOf0
  v0 := Try.zeroValue0
  t3 := Try.underlying3
  a3 := Try.isAgg3
  z3 := Try.sizeOf3
  v3 := Try.zeroValue3
  t4 := Try.underlying4
  a4 := Try.isAgg4
  z4 := Try.sizeOf4
  v4 := Try.zeroValue4
  t22 := Try.underlying25
  a22 := Try.isAgg25
  z22 := Try.sizeOf25
  v22 := Try.zeroValue25
  i3 := by kernel_rfl }
end Go.Proofs
/- slices.Insert on numbers of one's own: the kit's contracts, as a contract of the abstract run. -/
namespace Go.Proofs.Ytldckcopeiginaa
open Go Go.Ab
theorem setCells_frame (b : Nat) : ∀ (vs : List Value) (o : Nat) (w : World), (w.setCells b o vs).heap.size = w.heap.size ∧ (w.setCells b o vs).tape = w.tape ∧ (w.setCells b o vs).os = w.os ∧ (w.setCells b o vs).output = w.output ∧
    (∀ b', b' ≠ b → (w.setCells b o vs).heap[b']? = w.heap[b']?) ∧ ∀ c e fz, w.heap[b]? = some (.cells c e fz) → ∃ c', (w.setCells b o vs).heap[b]? = some (.cells c' e fz) ∧ c'.size = c.size
  | [], o, w => ⟨rfl, rfl, rfl, rfl, fun _ _ => rfl, fun c e fz h => ⟨c, h, rfl⟩⟩
  | v :: r, o, w => by
    obtain ⟨h1, h2, h3, h4, h5, h6⟩ := setCells_frame b r (o + 1) (w.setCell ⟨b, o, none⟩ v)
    rw [World.setCells]
    refine ⟨h1.trans ?_, h2, h3, h4, fun b' hb => (h5 b' hb).trans ?_, fun c e fz hc => ?_⟩
    · simp [World.setCell]
    · simp only [World.setCell, Array.getElem?_modify]
      rw [if_neg (fun e => hb e.symm)]
    · obtain ⟨lo, hi⟩ := fz
      obtain ⟨c', h7, h8⟩ := h6 (c.setIfInBounds o v) e (lo, hi) (by simp [World.setCell, Array.getElem?_modify, hc])
      exact ⟨c', h7, h8.trans (by simp)⟩
theorem cell_of {w : World} {b k : Nat} {c : Array Value} {e : TypeId} {fz : Nat × Nat} (h : w.heap[b]? = some (.cells c e fz)) : w.cell? ⟨b, k, none⟩ = c[k]? := by
  simp only [World.cell?, h]; rfl
theorem toList_at (c : Array Value) (k : Nat) : c.toList[k]? = c[k]? := by simp
def ins (l : List Int) (p : Nat) (x : Int) : List Int := l.take p ++ x :: l.drop p
theorem ins_len {l : List Int} {p : Nat} (x : Int) (h : p ≤ l.length) : (ins l p x).length = l.length + 1 := by
  simp [ins]; omega
theorem ins_get {l : List Int} {p : Nat} (x : Int) (h : p ≤ l.length) (k : Nat) : (ins l p x)[k]? = if k < p then l[k]? else if k = p then some x else l[k - 1]? := by
  unfold ins
  have ht : (l.take p).length = p := by rw [List.length_take]; omega
  by_cases h1 : k < p
  · rw [if_pos h1, List.getElem?_append_left (by omega), List.getElem?_take_of_lt h1]
  · rw [if_neg h1, List.getElem?_append_right (by omega), ht]
    by_cases h2 : k = p
    · subst h2; simp
    · rw [if_neg h2]
      obtain ⟨j, rfl⟩ : ∃ j, k = p + 1 + j := ⟨k - p - 1, by omega⟩
      rw [show p + 1 + j - p = j + 1 by omega, List.getElem?_cons_succ, List.getElem?_drop]
      congr 1
      omega
def vI (n : Int) : Value := .int .i64 n
theorem ints_flat (l : List Int) : (ints l).flatten = l.map fun n => AV.s (vI n) := by
  induction l with
  | nil => rfl
  | cons a l ih => simp only [ints, List.map_cons, List.flatten_cons, List.singleton_append] at ih ⊢; rw [ih]; rfl
theorem concs_ints {M : Mem} {ρ : Rho} {l : List Int} {vs : List Value} : Concs M ρ (ints l).flatten vs ↔ vs = l.map vI := by
  rw [ints_flat]
  constructor
  · intro h
    induction l generalizing vs with
    | nil => cases h; rfl
    | cons a l ih => cases h with | cons h t => cases h; rw [ih t]; rfl
  · rintro rfl
    induction l with
    | nil => exact .nil
    | cons a l ih => exact .cons (.s _) ih
theorem take_of_cells {c : Array Value} {l : List Int} (hs : l.length ≤ c.size) (h : ∀ (k : Nat) n, l[k]? = some n → c[k]? = some (vI n)) : c.toList.take l.length = l.map vI := by
  refine List.ext_getElem? fun k => ?_
  rw [List.getElem?_map]
  by_cases hk : k < l.length
  · rw [List.getElem?_take_of_lt hk, toList_at, List.getElem?_eq_getElem hk, h k l[k] (List.getElem?_eq_getElem hk)]; rfl
  · rw [List.getElem?_eq_none (by rw [List.length_take]; omega), List.getElem?_eq_none (by omega)]; rfl
theorem cells_of_take {c : Array Value} {l : List Int} (h : c.toList.take (l.length * 1) = l.map vI) : ∀ (k : Nat) n, l[k]? = some n → c[k]? = some (vI n) := by
  intro k n hk
  have hlt := (List.getElem?_eq_some_iff.1 hk).1
  have := congrArg (fun r => r[k]?) h
  simp only [List.getElem?_map, hk, Nat.mul_one] at this
  rw [List.getElem?_take_of_lt hlt, toList_at] at this
  exact this
def unints : List (List AV) → Option (List Int)
  | [] => some []
  | [.s (.int .i64 n)] :: r => match unints r with
    | some l => some (n :: l)
    | none => none
  | _ => none
theorem unints_ints : ∀ l : List Int, unints (ints l) = some l
  | [] => rfl
  | a :: l => by
    show (match unints (ints l) with | some l => some (a :: l) | none => none) = _
    rw [unints_ints l]
theorem unints_some : ∀ {rows : List (List AV)} {l : List Int}, unints rows = some l → rows = ints l := by
  intro rows
  induction rows with
  | nil => intro l h; cases h; rfl
  | cons r rows ih =>
    intro l h
    unfold unints at h
    split at h
    · rename_i h0; cases h0
    · rename_i n r' e
      cases e
      split at h
      · rename_i l' h'
        cases h
        rw [ih h']; rfl
      · cases h
    · cases h
noncomputable def h38 (oa n p ob : Nat) (σ : AS) : Option (AV × AS) :=
  match σ.get oa, σ.get ob with
  | some (.cells 3 1 _ ra), some (.cells 3 1 _ rb) => match unints ra, unints rb with
    | some l, some [x] => if l.length = n ∧ p ≤ n ∧ n ≤ 1000 ∧ oa ≠ ob ∧ 0 < n then some (.sl σ.newId 0 (n + 1) none, (σ.set oa .dead).push (.cells 3 1 false (ints (ins l p x)))) else none
    | _, _ => none
  | _, _ => none
noncomputable def h38n (ob : Nat) (σ : AS) : Option (AV × AS) :=
  match σ.get ob with
  | some (.cells 3 1 _ rb) => match unints rb with
    | some [x] => some (.sl σ.newId 0 1 none, σ.push (.cells 3 1 false (ints [x])))
    | _ => none
  | _ => none
structure In38 (oa n p ob : Nat) (σ : AS) (l : List Int) (x : Int) : Prop where
  a : ∃ xa, σ.get oa = some (.cells 3 1 xa (ints l))
  b : ∃ xb, σ.get ob = some (.cells 3 1 xb (ints [x]))
  len : l.length = n
  le : p ≤ n
  big : n ≤ 1000
  ne : oa ≠ ob
  pos : 0 < n
theorem h38_of {oa n p ob : Nat} {σ : AS} {l : List Int} {x : Int} (h : In38 oa n p ob σ l x) : h38 oa n p ob σ = some (.sl σ.newId 0 (n + 1) none, (σ.set oa .dead).push (.cells 3 1 false (ints (ins l p x)))) := by
  obtain ⟨⟨xa, h1⟩, ⟨xb, h2⟩, h3, h4, h5, h6, h7⟩ := h
  unfold h38
  simp only [h1, h2, unints_ints]
  rw [if_pos ⟨h3, h4, h5, h6, h7⟩]
theorem h38_some {oa n p ob : Nat} {σ : AS} {y : AV × AS} (h : h38 oa n p ob σ = some y) : ∃ l x, In38 oa n p ob σ l x ∧ y = (.sl σ.newId 0 (n + 1) none, (σ.set oa .dead).push (.cells 3 1 false (ints (ins l p x)))) := by
  unfold h38 at h
  split at h
  · rename_i xa ra xb rb h1 h2
    split at h
    · rename_i l x h3 h4
      split at h
      · rename_i hc
        cases h
        rw [unints_some h3] at h1
        rw [unints_some h4] at h2
        exact ⟨l, x, ⟨⟨_, h1⟩, ⟨_, h2⟩, hc.1, hc.2.1, hc.2.2.1, hc.2.2.2.1, hc.2.2.2.2⟩, rfl⟩
      · cases h
    · cases h
  · cases h
theorem h38n_of {ob : Nat} {σ : AS} {x : Int} {xb : Bool} (h : σ.get ob = some (.cells 3 1 xb (ints [x]))) : h38n ob σ = some (.sl σ.newId 0 1 none, σ.push (.cells 3 1 false (ints [x]))) := by
  unfold h38n
  simp only [h, unints_ints]
theorem h38n_some {ob : Nat} {σ : AS} {y : AV × AS} (h : h38n ob σ = some y) : ∃ x xb, σ.get ob = some (.cells 3 1 xb (ints [x])) ∧ y = (.sl σ.newId 0 1 none, σ.push (.cells 3 1 false (ints [x]))) := by
  unfold h38n at h
  split at h
  · rename_i xb rb h1
    split at h
    · rename_i x h2
      cases h
      rw [unints_some h2] at h1
      exact ⟨x, xb, h1, rfl⟩
    · cases h
  · cases h
section
variable {B w : World} {ρ : Rho} {σ : AS} (hrep : Rep B ρ σ w)
include hrep
theorem own_nums {o : Nat} {xo : Bool} {l : List Int} {loc : Go.Ab.Loc} (hg : σ.get o = some (.cells 3 1 xo (ints l))) (hr : ρ o = some loc) : loc.es = 1 ∧ l.length ≤ loc.cap ∧ loc.cap < 2 ^ 63 ∧
    ∃ c : Array Value, w.heap[loc.blk]? = some (.cells c 3 (0, 0)) ∧ c.size = loc.cap ∧ ∀ (k : Nat) n, l[k]? = some n → c[k]? = some (vI n) := by
  obtain ⟨h1, h2, h3, h4, c, h5, h6, h7⟩ := hrep.obj _ _ _ hg hr
  rw [ints_len] at h2 h7
  exact ⟨h1, h2, loc.le (by omega), c, h5, by omega, cells_of_take (concs_ints.1 h7)⟩
theorem place_rep {oa : Nat} {xo : Bool} {l l' : List Int} {loc : Go.Ab.Loc} (hg : σ.get oa = some (.cells 3 1 xo (ints l))) (hr : ρ oa = some loc) {w' : World} (hs : w'.heap.size = w.heap.size) (ht : w'.tape = w.tape) (ho : w'.os = w.os) (hu : w'.output = w.output)
    (hb : ∀ b, b ≠ loc.blk → w'.heap[b]? = w.heap[b]?) {c : Array Value} (hc : w'.heap[loc.blk]? = some (.cells c 3 (0, 0))) (hcs : c.size = loc.cap) (hle : l'.length ≤ loc.cap) (hn : ∀ (k : Nat) n, l'[k]? = some n → c[k]? = some (vI n)) :
    Rep B (ρ.ext σ.newId loc) ((σ.set oa .dead).push (.cells 3 1 false (ints l'))) w' ∧ ρ.le (ρ.ext σ.newId loc) := by
  have hd := hrep.mod (o' := .dead) hg rfl hr hs hb ht ho hu trivial (fun _ _ => trivial)
  have hes : loc.es = 1 := (hrep.obj _ _ _ hg hr).1
  have hN := hd.name (o := .cells 3 1 false (ints l')) (l := loc) ⟨(hrep.new _ _ hr).1, by rw [hs]; exact (hrep.new _ _ hr).2⟩ (fun id p l'' hid hlive hρ => by
    rw [AS.get_set] at hid
    split at hid
    · split at hid
      · cases hid; cases hlive
      · rename_i hne
        intro e
        exact hne (hrep.inj oa id _ _ _ _ hg hid rfl hlive hr hρ e.symm)
    · cases hid) ⟨hes, by rw [ints_len]; exact hle, (fun e => by cases e), (fun r hr' => by
      obtain ⟨n, _, rfl⟩ := List.mem_map.1 hr'; rfl), c, hc, by omega, by
      rw [ints_len, Nat.mul_one, concs_ints]
      exact take_of_cells (by omega) hn⟩
  rw [AS.newId_set] at hN
  exact ⟨hN, hrep.le_ext loc⟩
theorem fresh_rep {l' : List Int} {w' : World} {x : Obj} (hh : w'.heap = w.heap.push x) (ht : w'.tape = w.tape) (ho : w'.os = w.os) (hu : w'.output = w.output) {c : Array Value} {cap : Nat} (hx : x = .cells c 3 (0, 0)) (hcs : c.size = cap) (h63 : cap < 2 ^ 63) (hle : l'.length ≤ cap) (hn : ∀ (k : Nat) n, l'[k]? = some n → c[k]? = some (vI n)) :
    Rep B (ρ.ext σ.newId ⟨w.heap.size, cap, 1, fun _ => h63⟩) (σ.push (.cells 3 1 false (ints l'))) w' ∧ ρ.le (ρ.ext σ.newId ⟨w.heap.size, cap, 1, fun _ => h63⟩) := by
  refine ⟨hrep.push rfl hh ht ho hu ⟨rfl, by rw [ints_len]; exact hle, (fun e => by cases e), (fun r hr' => by
      obtain ⟨n, _, rfl⟩ := List.mem_map.1 hr'; rfl), c, ?_, by rw [hcs]; simp, by
      rw [ints_len, Nat.mul_one, concs_ints]
      exact take_of_cells (by omega) hn⟩, hrep.le_ext _⟩
  rw [hh, hx]
  exact Array.getElem?_push_size
end
theorem setCells_cells {w : World} {b : Nat} {c : Array Value} {e : TypeId} {fz : Nat × Nat} (h : w.heap[b]? = some (.cells c e fz)) (vs : List Value) (o : Nat) (hle : o + vs.length ≤ c.size) :
    ∃ c', (w.setCells b o vs).heap[b]? = some (.cells c' e fz) ∧ c'.size = c.size ∧ ∀ k, c'[k]? = if o ≤ k ∧ k < o + vs.length then vs[k - o]? else c[k]? := by
  obtain ⟨c', h1, h2⟩ := (setCells_frame b vs o w).2.2.2.2.2 c e fz h
  refine ⟨c', h1, h2, fun k => ?_⟩
  rw [← cell_of (k := k) h1]
  by_cases hk : o ≤ k ∧ k < o + vs.length
  · rw [if_pos hk]
    have := World.cell?_setCells_in b vs o w (fun j hj => by rw [cell_of h, Array.getElem?_eq_getElem (by omega)]; rfl) (k - o) (by omega)
    rw [show o + (k - o) = k by omega] at this
    rw [this, List.getElem?_eq_getElem (by omega)]
  · rw [if_neg hk, World.cell?_setCells_out b vs o w ⟨b, k, none⟩ (fun _ _ => by show k < o ∨ _ ≤ k; omega), cell_of h]
def Out38 (B : World) (ρ : Rho) (σ' : AS) (v : AV) (y : Value) (w' : World) : Prop := ∃ ρ', ρ.le ρ' ∧ Conc (memOf B) ρ' v y ∧ Rep B ρ' σ' w'
theorem fz_of {w : World} {b k : Nat} {c : Array Value} {e : TypeId} (h : w.heap[b]? = some (.cells c e (0, 0))) : w.frozen? ⟨b, k, none⟩ = false := by
  simp [World.frozen?, h]
theorem sh_of {w : World} {b : Nat} {c : Array Value} {e : TypeId} {fz : Nat × Nat} (h : w.heap[b]? = some (.cells c e fz)) : w.shape? b = some (e, c.size) := by
  simp [World.shape?, h]
theorem vI_one {l : List Int} : ∀ v ∈ l.map vI, v.oneCell' = true := fun v hv => by
  obtain ⟨n, _, rfl⟩ := List.mem_map.1 hv; rfl
theorem map_vI {l : List Int} {c : Array Value} (h : ∀ (k : Nat) n, l[k]? = some n → c[k]? = some (vI n)) : ∀ (j : Nat) (v : Value), (l.map vI)[j]? = some v → c[j]? = some v := fun j v hv => by
  rw [List.getElem?_map] at hv
  cases hl : l[j]? with
  | none => rw [hl] at hv; cases hv
  | some n => rw [hl] at hv; cases hv; exact h j n hl
section
variable {B w : World} {ρ : Rho} {σ : AS} (hrep : Rep B ρ σ w)
include hrep
theorem go38 {oa n p ob : Nat} {l : List Int} {x : Int} (h : In38 oa n p ob σ l x) {la lb : Go.Ab.Loc} (ha : ρ oa = some la) (hb : ρ ob = some lb) :
    Calls Try.prog 38 #[.slice (some ⟨la.blk, 0, none⟩) n la.cap, .int .i64 p, .slice (some ⟨lb.blk, 0, none⟩) 1 lb.cap] w fun e w' => ∃ y, e = .returned y ∧ Out38 B ρ ((σ.set oa .dead).push (.cells 3 1 false (ints (ins l p x)))) (.sl σ.newId 0 (n + 1) none) y w' := by
  obtain ⟨⟨xa, ga⟩, ⟨xb, gb⟩, rfl, hp, hbig, hne, hpos⟩ := h
  obtain ⟨ea, la1, la2, ca, ha1, ha2, ha3⟩ := own_nums hrep ga ha
  obtain ⟨eb, lb1, lb2, cb, hb1, hb2, hb3⟩ := own_nums hrep gb hb
  have hbne : lb.blk ≠ la.blk := fun e => hne (hrep.inj oa ob _ _ _ _ ga gb rfl rfl ha hb e.symm)
  have hx0 : cb[0]? = some (vI x) := hb3 0 x rfl
  have hinl := ins_len x hp
  have hcs := map_vI ha3
  have hvs : ∀ (j : Nat) (v : Value), [vI x][j]? = some v → w.cell? ⟨lb.blk, 0 + j, none⟩ = some v := fun j v hv => by
    rw [cell_of hb1, Nat.zero_add]
    exact map_vI (l := [x]) hb3 j v hv
  have hml : (l.map vI).length = l.length := List.length_map _
  have h1x : ∀ v ∈ [vI x], v.oneCell' = true := vI_one (l := [x])
  have hw63 : la.cap ≤ 9223372036854775807 := by omega
  have hcells : ∀ (j : Nat) (v : Value), (l.map vI)[j]? = some v → w.cell? ⟨la.blk, 0 + j, none⟩ = some v := fun j v hv => by
    rw [cell_of ha1, Nat.zero_add]; exact hcs j v hv
  by_cases hroom : l.length + 1 ≤ la.cap
  · -- there is room
    have place : ∀ (w0 : World), w0.heap = w.heap → w0.tape = w.tape → w0.os = w.os → w0.output = w.output →
        Out38 B ρ ((σ.set oa .dead).push (.cells 3 1 false (ints (ins l p x)))) (.sl σ.newId 0 (l.length + 1) none) (.slice (some ⟨la.blk, 0, none⟩) (l.length + 1) la.cap) ((w0.setCells la.blk (0 + (p + 1)) ((l.map vI).drop p)).setCells la.blk (0 + p) [vI x]) := by
      intro w0 e1 e2 e3 e4
      obtain ⟨c1, k1, k2, k3⟩ := setCells_cells (w := w0) (b := la.blk) (by rw [e1]; exact ha1) ((l.map vI).drop p) (0 + (p + 1)) (by rw [List.length_drop, hml]; omega)
      obtain ⟨c2, k4, k5, k6⟩ := setCells_cells k1 [vI x] (0 + p) (by simp only [List.length_cons, List.length_nil]; omega)
      obtain ⟨f1, f2, f3, f4, f5, _⟩ := setCells_frame la.blk ((l.map vI).drop p) (0 + (p + 1)) w0
      obtain ⟨g1, g2, g3, g4, g5, _⟩ := setCells_frame la.blk [vI x] (0 + p) (w0.setCells la.blk (0 + (p + 1)) ((l.map vI).drop p))
      obtain ⟨r1, r2⟩ := place_rep hrep ga ha (l' := ins l p x) (w' := (w0.setCells la.blk (0 + (p + 1)) ((l.map vI).drop p)).setCells la.blk (0 + p) [vI x]) (by rw [g1, f1, e1]) (by rw [g2, f2, e2]) (by rw [g3, f3, e3]) (by rw [g4, f4, e4]) (fun b hb => by rw [g5 b hb, f5 b hb, e1]) k4 (by omega) (by omega) (fun k m hk => by
        rw [ins_get x hp] at hk
        rw [k6, k3]
        simp only [List.length_cons, List.length_nil, List.length_drop, hml]
        split at hk
        · rename_i h1
          rw [if_neg (by omega), if_neg (by omega)]
          exact ha3 k m hk
        · split at hk
          · rename_i h1 h2
            subst h2
            rw [if_pos ⟨by omega, by omega⟩]
            cases hk
            rw [show k - (0 + k) = 0 by omega]; rfl
          · rename_i h1 h2
            have hlt := (List.getElem?_eq_some_iff.1 hk).1
            rw [if_neg (by omega), if_pos ⟨by omega, by omega⟩, List.getElem?_drop, show p + (k - (0 + (p + 1))) = k - 1 by omega, List.getElem?_map, hk]; rfl)
      refine ⟨_, r2, ?_, r1⟩
      have := Conc.sl (M := memOf B) (i := 0) (n := l.length + 1) (Rho.ext_self ρ σ.newId la)
      simpa using this
    by_cases hpn : p < l.length
    · have := Any2.slices_Insert_int_shift Try.laysNm221 la.blk 0 l.length la.cap p lb.blk 0 1 lb.cap (l.map vI) [vI x] w hpn (by decide) hroom hw63 hbne hml rfl hcells
        (fun j hj => by rw [cell_of ha1, Array.getElem?_eq_getElem (by omega)]; rfl) (fun j hj => fz_of ha1) hvs vI_one h1x 3 3 cb.size ca.size (sh_of hb1) (sh_of ha1) (by omega) (fz_of hb1) (fz_of hb1)
      refine Calls.mono this ?_
      rintro e w' ⟨rfl, rfl⟩
      exact ⟨_, rfl, place w.drew rfl rfl rfl rfl⟩
    · obtain rfl : p = l.length := by omega
      have := Any2.slices_Insert_int_end_room Try.laysNm221 la.blk 0 l.length la.cap lb.blk 0 1 lb.cap [vI x] w (by decide) hroom hw63 rfl
        (fun j hj => by rw [cell_of ha1, Array.getElem?_eq_getElem (by omega)]; rfl) (fun j hj => fz_of ha1) hvs h1x
      refine Calls.mono this ?_
      rintro e w' ⟨rfl, rfl⟩
      have h := place w rfl rfl rfl rfl
      rw [← hml, List.drop_length, hml] at h
      exact ⟨_, rfl, h⟩
  · -- there is none
    have hcap63 := grownCap_lt w (l.length + 1) la.cap 3 (by omega)
    have hcapge := le_grownCap w (l.length + 1) la.cap 3
    have hK := hrep.kill oa
    have newslice : ∀ {w' : World}, Rep B (ρ.ext (σ.set oa .dead).newId ⟨w.heap.size, grownCap w (l.length + 1) la.cap 3, 1, fun _ => hcap63⟩) ((σ.set oa .dead).push (.cells 3 1 false (ints (ins l p x)))) w' → ρ.le (ρ.ext (σ.set oa .dead).newId ⟨w.heap.size, grownCap w (l.length + 1) la.cap 3, 1, fun _ => hcap63⟩) →
        Out38 B ρ ((σ.set oa .dead).push (.cells 3 1 false (ints (ins l p x)))) (.sl σ.newId 0 (l.length + 1) none) (.slice (some ⟨w.heap.size, 0, none⟩) (l.length + 1) (grownCap w (l.length + 1) la.cap 3)) w' := fun r1 r2 => by
      refine ⟨_, r2, ?_, r1⟩
      have := Conc.sl (M := memOf B) (i := 0) (n := l.length + 1) (Rho.ext_self ρ (σ.set oa .dead).newId ⟨w.heap.size, grownCap w (l.length + 1) la.cap 3, 1, fun _ => hcap63⟩)
      rw [AS.newId_set] at this ⊢
      simpa using this
    have hzero : ∀ q, (Builtin.zeroCells (Value.int .i64 0).cells q).size = q := fun q => by simp [Builtin.zeroCells, Value.cells]
    by_cases hpn : p < l.length
    · have := Any2.slices_Insert_int_grow Try.laysNm221 la.blk 0 l.length la.cap p lb.blk 0 1 lb.cap (l.map vI) [vI x] w hpn (by decide) la1 (by omega) (by omega) hml rfl hcells hvs vI_one h1x
      refine Calls.mono this ?_
      rintro e w' ⟨rfl, rfl⟩
      refine ⟨_, rfl, ?_⟩
      obtain ⟨c0, hc0⟩ : ∃ c0, c0 = ((l.map vI).take p).toArray ++ Builtin.zeroCells (Value.int .i64 0).cells (l.length + 1 - p) ++ Builtin.zeroCells (Value.int .i64 0).cells (grownCap w (l.length + 1) la.cap 3 - (l.length + 1)) := ⟨_, rfl⟩
      have hs0 : c0.size = grownCap w (l.length + 1) la.cap 3 := by
        rw [hc0, Array.size_append, Array.size_append, hzero, hzero, List.size_toArray, List.length_take, hml]; omega
      have h0 : ((w.alloc (.cells c0 3)).drew).heap[w.heap.size]? = some (.cells c0 3 (0, 0)) := Array.getElem?_push_size
      obtain ⟨c1, k1, k2, k3⟩ := setCells_cells h0 [vI x] p (by simp only [List.length_cons, List.length_nil]; omega)
      obtain ⟨c2, k4, k5, k6⟩ := setCells_cells (w := (((w.alloc (.cells c0 3)).drew).setCells w.heap.size p [vI x]).drew) k1 ((l.map vI).drop p) (p + 1) (by rw [List.length_drop, hml]; omega)
      obtain ⟨f1, f2, f3, f4, f5, _⟩ := setCells_frame w.heap.size [vI x] p ((w.alloc (.cells c0 3)).drew)
      obtain ⟨g1, g2, g3, g4, g5, _⟩ := setCells_frame w.heap.size ((l.map vI).drop p) (p + 1) ((((w.alloc (.cells c0 3)).drew).setCells w.heap.size p [vI x]).drew)
      have hsz : ((w.alloc (.cells c0 3)).drew).heap.size = w.heap.size + 1 := Array.size_push ..
      have hheap : (((((w.alloc (.cells c0 3)).drew).setCells w.heap.size p [vI x]).drew).setCells w.heap.size (p + 1) ((l.map vI).drop p)).heap = w.heap.push (.cells c2 3 (0, 0)) := by
        refine Array.ext_getElem? fun i => ?_
        rw [Array.getElem?_push]
        by_cases hi : i = w.heap.size
        · subst hi; rw [if_pos rfl]; exact k4
        · rw [if_neg hi, g5 i hi]
          show (((w.alloc (.cells c0 3)).drew).setCells w.heap.size p [vI x]).heap[i]? = _
          rw [f5 i hi]
          show (w.heap.push _)[i]? = _
          rw [Array.getElem?_push, if_neg hi]
      have hend := fresh_rep hK (l' := ins l p x) (w' := ((((w.alloc (.cells c0 3)).drew).setCells w.heap.size p [vI x]).drew).setCells w.heap.size (p + 1) ((l.map vI).drop p)) hheap (g2.trans f2) (g3.trans f3) (g4.trans f4) (c := c2) (cap := grownCap w (l.length + 1) la.cap 3) rfl (by omega) hcap63 (by omega) (fun k m hk => by
        rw [ins_get x hp] at hk
        rw [k6, k3]
        simp only [List.length_cons, List.length_nil, List.length_drop, hml]
        split at hk
        · rename_i h1
          rw [if_neg (by omega), if_neg (by omega), hc0, Array.append_assoc, Array.getElem?_append_left (by rw [List.size_toArray, List.length_take, hml]; omega), List.getElem?_toArray, List.getElem?_take_of_lt h1, List.getElem?_map, hk]; rfl
        · split at hk
          · rename_i h1 h2
            subst h2
            rw [if_neg (by omega), if_pos ⟨by omega, by omega⟩]
            cases hk
            rw [show k - k = 0 by omega]; rfl
          · rename_i h1 h2
            have hlt := (List.getElem?_eq_some_iff.1 hk).1
            rw [if_pos ⟨by omega, by omega⟩, List.getElem?_drop, show p + (k - (p + 1)) = k - 1 by omega, List.getElem?_map, hk]; rfl)
      subst hc0
      exact newslice hend.1 hend.2
    · obtain rfl : p = l.length := by omega
      have := Any2.slices_Insert_int_end_grow Try.laysNm221 (some ⟨la.blk, 0, none⟩) l.length la.cap lb.blk 0 1 lb.cap (l.map vI) [vI x] w (by decide) la1 (by omega) (by omega) hml rfl (fun h => by cases h)
        (fun a ha j v hv => by cases ha; rw [Addr.add_lit]; exact hcells j v hv) hvs h1x
      refine Calls.mono this ?_
      rintro e w' ⟨rfl, rfl⟩
      refine ⟨_, rfl, ?_⟩
      have hend := fresh_rep hK (l' := ins l l.length x) (w' := w.drew.alloc (.cells ((l.map vI ++ [vI x]).toArray ++ Builtin.zeroCells (Value.int .i64 0).cells (grownCap w (l.length + 1) la.cap 3 - (l.length + 1))) 3)) rfl rfl rfl rfl (cap := grownCap w (l.length + 1) la.cap 3) rfl
        (by rw [Array.size_append, hzero, List.size_toArray, List.length_append, hml]; simp only [List.length_cons, List.length_nil]; omega) hcap63 (by omega) (fun k m hk => by
        have hlt := (List.getElem?_eq_some_iff.1 hk).1
        rw [Array.getElem?_append_left (by rw [List.size_toArray, List.length_append, hml]; simp only [List.length_cons, List.length_nil]; omega), List.getElem?_toArray]
        rw [ins_get x hp] at hk
        split at hk
        · rename_i h1
          rw [List.getElem?_append_left (by omega), List.getElem?_map, hk]; rfl
        · split at hk
          · rename_i h1 h2
            cases hk
            rw [h2, List.getElem?_append_right (by omega), hml, Nat.sub_self]; rfl
          · omega)
      exact newslice hend.1 hend.2
theorem go38n {ob : Nat} {x : Int} {xb : Bool} (gb : σ.get ob = some (.cells 3 1 xb (ints [x]))) {lb : Go.Ab.Loc} (hb : ρ ob = some lb) :
    Calls Try.prog 38 #[.slice none 0 0, .int .i64 0, .slice (some ⟨lb.blk, 0, none⟩) 1 lb.cap] w fun e w' => ∃ y, e = .returned y ∧ Out38 B ρ (σ.push (.cells 3 1 false (ints [x]))) (.sl σ.newId 0 1 none) y w' := by
  obtain ⟨eb, lb1, lb2, cb, hb1, hb2, hb3⟩ := own_nums hrep gb hb
  have hvs : ∀ (j : Nat) (v : Value), [vI x][j]? = some v → w.cell? ⟨lb.blk, 0 + j, none⟩ = some v := fun j v hv => by
    rw [cell_of hb1, Nat.zero_add]
    exact map_vI (l := [x]) hb3 j v hv
  have hcap63 := grownCap_lt w (0 + 1) 0 3 (by omega)
  have hcapge := le_grownCap w (0 + 1) 0 3
  have hzero : ∀ q, (Builtin.zeroCells (Value.int .i64 0).cells q).size = q := fun q => by simp [Builtin.zeroCells, Value.cells]
  have := Any2.slices_Insert_int_end_grow Try.laysNm221 none 0 0 lb.blk 0 1 lb.cap [] [vI x] w (by decide) (by decide) (by decide) (by decide) rfl rfl (fun _ => rfl) (fun a ha j v hv => by cases ha) hvs (vI_one (l := [x]))
  refine Calls.mono this ?_
  rintro e w' ⟨rfl, rfl⟩
  refine ⟨_, rfl, ?_⟩
  have hend := fresh_rep hrep (l' := [x]) (w' := w.drew.alloc (.cells (([] ++ [vI x]).toArray ++ Builtin.zeroCells (Value.int .i64 0).cells (grownCap w (0 + 1) 0 3 - (0 + 1))) 3)) rfl rfl rfl rfl (cap := grownCap w (0 + 1) 0 3) rfl
    (by rw [Array.size_append, hzero]; simp only [List.nil_append, List.size_toArray, List.length_cons, List.length_nil]; omega) hcap63 (by simpa using hcapge) (fun k m hk => by
    have hlt := (List.getElem?_eq_some_iff.1 hk).1
    simp only [List.length_cons, List.length_nil] at hlt
    obtain rfl : k = 0 := by omega
    cases hk
    rw [Array.getElem?_append_left (by simp)]; rfl)
  refine ⟨_, hend.2, ?_, hend.1⟩
  have := Conc.sl (M := memOf B) (i := 0) (n := 0 + 1) (Rho.ext_self ρ σ.newId ⟨w.heap.size, grownCap w (0 + 1) 0 3, 1, fun _ => hcap63⟩)
  have e3 : Try.laysNm221_ren.t 3 = 3 := rfl
  simpa [e3] using this
end
theorem arr3 {vs : Array Value} {a b c : Value} (h : vs.toList = [a, b, c]) : vs = #[a, b, c] := Array.ext' (by simpa using h)
theorem ctr38 (oa n p ob : Nat) : Ctr Try.prog (oneOrc 9 (.bool true)) 38 [.sl oa 0 n none, .s (.int .i64 p), .sl ob 0 1 none] (h38 oa n p ob) where
  body := ⟨_, Try.func38, rfl⟩
  ok := fun σ v σ' hh B ρ w vs hG hrep hc k => by
    obtain ⟨l, x, hin, he⟩ := h38_some hh
    cases he
    cases hl : vs.toList with
    | nil => rw [hl] at hc; cases hc
    | cons v0 r0 => rw [hl] at hc; cases hc with
      | cons h0 hc => cases hc with
        | cons h1 hc => cases hc with
          | cons h2 hc =>
            cases hc
            cases h1
            cases h0 with
            | @sl _ _ _ la hla => cases h2 with
              | @sl _ _ _ lb hlb =>
                rw [arr3 hl]
                have := go38 hrep hin hla hlb
                refine callsIn_wide.2 ?_
                simp only [Nat.zero_mul, Nat.sub_zero]
                exact this.mono fun e w' ⟨y, he, ρ', h5, h6, h7⟩ => ⟨ρ', y, he, h5, h6, h7⟩
  acts := fun σ v σ' hh N hN => by
    obtain ⟨l, x, hin, he⟩ := h38_some hh
    cases he
    refine ⟨[.set oa .dead, .push (.cells 3 1 false (ints (ins l p x)))], ⟨⟨_, hin.a.choose_spec⟩, trivial, trivial⟩, rfl, fun σ₂ hl => ?_⟩
    rw [h38_of (l := l) (x := x) ⟨⟨_, hl.get _ _ hin.a.choose_spec⟩, ⟨_, hl.get _ _ hin.b.choose_spec⟩, hin.len, hin.le, hin.big, hin.ne, hin.pos⟩, hl.newId]
    rfl
theorem ctr38n (ob : Nat) : Ctr Try.prog (oneOrc 9 (.bool true)) 38 [.s (.slice none 0 0), .s (.int .i64 0), .sl ob 0 1 none] (h38n ob) where
  body := ⟨_, Try.func38, rfl⟩
  ok := fun σ v σ' hh B ρ w vs hG hrep hc k => by
    obtain ⟨x, xb, hg, he⟩ := h38n_some hh
    cases he
    cases hl : vs.toList with
    | nil => rw [hl] at hc; cases hc
    | cons v0 r0 => rw [hl] at hc; cases hc with
      | cons h0 hc => cases hc with
        | cons h1 hc => cases hc with
          | cons h2 hc =>
            cases hc
            cases h1
            cases h0
            cases h2 with
            | @sl _ _ _ lb hlb =>
              rw [arr3 hl]
              have := go38n hrep hg hlb
              refine callsIn_wide.2 ?_
              simp only [Nat.zero_mul, Nat.sub_zero]
              exact this.mono fun e w' ⟨y, he, ρ', h5, h6, h7⟩ => ⟨ρ', y, he, h5, h6, h7⟩
  acts := fun σ v σ' hh N hN => by
    obtain ⟨x, xb, hg, he⟩ := h38n_some hh
    cases he
    refine ⟨[.push (.cells 3 1 false (ints [x]))], ⟨trivial, trivial⟩, rfl, fun σ₂ hl => ?_⟩
    rw [h38n_of (hl.get _ _ hg), hl.newId]
    rfl
end Go.Proofs.Ytldckcopeiginaa
/- The table of contracts for fields: known, Valid on entrants of one's own, Insert. -/
namespace Go.Proofs.Ytldckcopeiginaa
open Go Go.Ab
theorem ctr_re {P : Program} {G G' : Gl} {f : FuncId} {args : List AV} {c : AS → Option (AV × AS)} (h : Ctr P G f args c) (hr : ∀ g, G.rows g = none) : Ctr P G' f args c :=
  ⟨h.body, fun σ v σ' hh B ρ w vs _ hrep hc n => h.ok σ v σ' hh B ρ w vs (fun g row e => by rw [hr] at e; cases e) hrep hc n, h.acts⟩
def tab9 : List AV → Option (AS → Option (AV × AS))
  | [] => some fun σ => some (.s (.bool true), σ)
  | _ => none
noncomputable def tab24 : List AV → Option (AS → Option (AV × AS))
  | [.sl o p l c] => some (own24 (.sl o p l c))
  | _ => none
noncomputable def tab38 : List AV → Option (AS → Option (AV × AS))
  | [.sl oa 0 n none, .s (.int .i64 (.ofNat p)), .sl ob 0 1 none] => some (h38 oa n p ob)
  | [.s (.slice none 0 0), .s (.int .i64 (.ofNat 0)), .sl ob 0 1 none] => some (h38n ob)
  | _ => none
noncomputable def glf : Gl := ⟨fun _ => none, byF [(9, tab9), (24, tab24), (38, tab38)]⟩
theorem ctr9 : Ctr Try.prog (oneOrc 9 (.bool true)) 9 [] (fun σ => some (.s (.bool true), σ)) :=
  ⟨(given9.ok 9 [] _ (oneOrc_at 9 _)).1, fun σ v σ' hh B ρ w vs hG hrep hc n => (given9.ok 9 [] _ (oneOrc_at 9 _)).2 σ v σ' hh B ρ w vs hG hrep hc n, fun σ v σ' hh N hN => given9.acts 9 [] _ (oneOrc_at 9 _) σ v σ' hh N hN⟩
theorem givenf : Given Try.prog glf := given_of (fun p hp args c h => by
  simp only [List.mem_cons, List.not_mem_nil, or_false] at hp
  rcases hp with rfl | rfl | rfl
  · simp only at h
    unfold tab9 at h
    split at h
    · cases h; exact ctr_re ctr9 fun _ => rfl
    · cases h
  · simp only at h
    unfold tab24 at h
    split at h
    · cases h; exact ctr_re (own24_ctr _) fun _ => rfl
    · cases h
  · simp only at h
    unfold tab38 at h
    split at h
    · cases h; exact ctr_re (ctr38 _ _ _ _) fun _ => rfl
    · cases h; exact ctr_re (ctr38n _) fun _ => rfl
    · cases h)
theorem glf_off {f : FuncId} {x : AV} {y : List AV} (h1 : f ≠ 24) (h2 : f ≠ 38) : glf.orc f (x :: y) = none := by
  show (bif Nat.beq 9 f then tab9 (x :: y) else bif Nat.beq 24 f then tab24 (x :: y) else bif Nat.beq 38 f then tab38 (x :: y) else none) = none
  have e1 : Nat.beq 24 f = false := Bool.eq_false_iff.2 fun e => h1 (Nat.eq_of_beq_eq_true e).symm
  have e2 : Nat.beq 38 f = false := Bool.eq_false_iff.2 fun e => h2 (Nat.eq_of_beq_eq_true e).symm
  rw [e1, e2]
  cases Nat.beq 9 f <;> rfl
theorem ins_fn {oa ob n p : Nat} {xa xb : Bool} {l : List Int} {x : Int} (hl : l.length = n) (hp : p ≤ n) (hn : n ≤ 1000) (h0 : 0 < n) :
    FnW Try.prog glf 38 [.sl oa 0 n none, .s (.int .i64 p), .sl ob 0 1 none] [oa] [(oa, .cells 3 1 xa (ints l)), (ob, .cells 3 1 xb (ints [x]))] (fun v Hn => ∃ id, v = .sl id 0 (n + 1) none ∧ Hn = [(id, .cells 3 1 false (ints (ins l p x)))]) := fun σ hs => by
  have hne : oa ≠ ob := fun e => by
    have := (List.nodup_cons.1 hs.nodup).1
    rw [e] at this
    exact this (.head _)
  have h1 := (hs.set .head (o' := .dead) (.inr (.head _))).push (.cells 3 1 false (ints (ins l p x)))
  refine wpf_orc (g := h38 oa n p ob) rfl (h38_of (l := l) (x := x) ⟨⟨_, hs.get _ (.head _)⟩, ⟨_, hs.get _ (.tail _ (.head _))⟩, hl, hp, hn, hne, h0⟩) ⟨[(σ.newId, _)], ?_, fun q hq => ?_, _, rfl, rfl⟩
  · rw [AS.newId_set] at h1
    exact h1.sub ⟨.head _, trivial⟩ (by simp)
  · cases List.mem_singleton.1 hq
    rw [AS.newId_none hs.slot]
    exact .inr (Nat.le_refl _)
theorem insn_fn {ob : Nat} {xb : Bool} {x : Int} : FnC Try.prog glf 38 [.s (.slice none 0 0), .s (.int .i64 (0 : Nat)), .sl ob 0 1 none] [(ob, .cells 3 1 xb (ints [x]))] (fun v Hn => ∃ id, v = .sl id 0 1 none ∧ Hn = [(id, .cells 3 1 false (ints [x]))]) := fun σ hs => by
  refine wpf_orc (g := h38n ob) rfl (h38n_of (hs.get _ (.head _))) ⟨[(σ.newId, _)], (hs.push _).sub ⟨.head _, trivial⟩ (by simp), fun q hq => ?_, _, rfl, rfl⟩
  cases List.mem_singleton.1 hq
  rw [AS.newId_none hs.slot]
  exact Nat.le_refl _
theorem val_fn {a : AV} {l : List Ent} {H : List (Nat × AObj)} (ha : ∃ o p n c, a = .sl o p n c) (h : ∀ σ : AS, (∀ p ∈ H, σ.get p.1 = some p.2) → Own24 a σ l) : FnC Try.prog glf 24 [a] H (fun v Hn => v = .s (.bool (validE l)) ∧ Hn = []) := by
  obtain ⟨o, p, n, c, rfl⟩ := ha
  exact Fn_orc2 (c := own24 (.sl o p n c)) rfl (fun σ hs => own24_of (h σ hs.get)) ⟨rfl, rfl⟩
#print axioms givenf
end Go.Proofs.Ytldckcopeiginaa
/- slices.BinarySearch on numbers that rise. -/
namespace Go.Proofs.Ytldckcopeiginaa
open Go Go.Ab
theorem bd60b : (Try.prog.funcs[60]?).map (·.body.isNone) = some false := by rw [Try.func60]; rfl
theorem k3_89b : kinds2 Try.prog 3 89 = some (.i64, .u64) := by kernel_rfl
theorem k89_3b : kinds2 Try.prog 89 3 = some (.u64, .i64) := by kernel_rfl
attribute [local irreducible] SC SL wpc wpl wpd wpf wpy wpn FnC CW
set_option maxRecDepth 100000
set_option maxHeartbeats 4000000
theorem fdiv2 (a : Int) : a.fdiv (2 ^ (min (1 : Int).toNat IntKind.u64.bits)) = a / 2 := by
  rw [show (2 : Int) ^ (min (1 : Int).toNat IntKind.u64.bits) = 2 from rfl, Int.fdiv_eq_ediv_of_nonneg _ (by decide)]
section
variable {G : Gl} (ho : ∀ f x y, f ≠ 24 → f ≠ 38 → G.orc f (x :: y) = none)
include ho
theorem nan57 (x : Int) : FnC Try.prog G 57 [.s (.int .i64 x)] [] (fun v Hn => v = .s (.bool (decide False)) ∧ Hn = []) := by
  refine Fn_body (N := 6) (ho _ _ _ (by decide) (by decide)) Try.func57 rfl rfl fun B => ?_
  repeat' (first
    | refine SC_seq ?_
    | refine SC_region ?_
    | refine SL_seq ?_
    | refine SL_move (by decide) (by rfl) ?_
    | refine SL_assign (by decide) (by rfl) ?_
    | (refine SL_neq (by decide) (by rfl) (by rfl) (fun hT => ?_) (fun hT => ?_) <;> first | (exfalso; omega) | skip)
    | fail)
  exact SC_ret (fun tm σ hE hH => Post.intro (Hn := []) (.inr rfl) hE hH (by rfl) trivial List.nodup_nil (fun p hp => (by cases hp)) ⟨by rfl, rfl⟩)
theorem nan60 (x : Int) : FnC Try.prog G 60 [.s (.int .i64 x)] [] (fun v Hn => v = .s (.bool (decide False)) ∧ Hn = []) := by
  refine Fn_body (N := 6) (ho _ _ _ (by decide) (by decide)) Try.func60 rfl rfl fun B => ?_
  repeat' (first
    | refine SC_seq ?_
    | refine SC_region ?_
    | refine SL_seq ?_
    | refine SL_move (by decide) (by rfl) ?_
    | refine SL_assign (by decide) (by rfl) ?_
    | (refine SL_neq (by decide) (by rfl) (by rfl) (fun hT => ?_) (fun hT => ?_) <;> first | (exfalso; omega) | skip)
    | fail)
  exact SC_ret (fun tm σ hE hH => Post.intro (Hn := []) (.inr rfl) hE hH (by rfl) trivial List.nodup_nil (fun p hp => (by cases hp)) ⟨by rfl, rfl⟩)
theorem less59 (x y : Int) : FnC Try.prog G 59 [.s (.int .i64 x), .s (.int .i64 y)] [] (fun v Hn => v = .s (.bool (decide (x < y))) ∧ Hn = []) := by
  refine Fn_body (N := 17) (ho _ _ _ (by decide) (by decide)) Try.func59 rfl rfl fun B => ?_
  repeat' (first
    | (refine SL_callB (by decide) (by rfl) bd57 (by rfl) (by rfl) (nan57 ho _) (fun hT => ?_) (fun hT => ?_) <;> first | exact hT.elim | skip)
    | refine SC_seq ?_
    | refine SC_region ?_
    | refine SL_seq ?_
    | refine SL_run (by rfl) (by rfl) ?_
    | refine SL_not (by rfl) (by rfl) (by rfl) (by decide) ?_
    | refine SL_move (by decide) (by rfl) ?_
    | refine SL_assign (by decide) (by rfl) ?_
    | refine SL_pick_f (by decide) (by rfl) (by rfl) ?_
    | (refine SL_lss (by decide) (by rfl) (by rfl) (fun hT => ?_) (fun hT => ?_) <;> first | (exfalso; omega) | skip)
    | fail)
  · exact SC_ret (fun tm σ hE hH => Post.intro (Hn := []) (.inr rfl) hE hH (by rfl) trivial List.nodup_nil (fun p hp => (by cases hp)) ⟨by rw [decide_eq_true (by assumption)]; rfl, rfl⟩)
  · exact SC_ret (fun tm σ hE hH => Post.intro (Hn := []) (.inr rfl) hE hH (by rfl) trivial List.nodup_nil (fun p hp => (by cases hp)) ⟨by rw [decide_eq_false (by omega)]; rfl, rfl⟩)
end
def Pos (l : List Int) (x : Int) (p : Nat) : Prop := p ≤ l.length ∧ (∀ (q : Nat) (h : q < l.length), q < p → l[q] < x) ∧ ∀ (q : Nat) (h : q < l.length), p ≤ q → x ≤ l[q]
theorem bin_fn {G : Gl} (ho : ∀ f x y, f ≠ 24 → f ≠ 38 → G.orc f (x :: y) = none) {l : List Int} {a : AV} {H0 : List (Nat × AObj)} (hl : SlH H0 1 a (ints l)) (hr : l.Pairwise (· < ·)) (hn : l.length ≤ 1000) (x : Int) :
    FnC Try.prog G 37 [a, .s (.int .i64 x)] H0 (fun v Hn => (∃ p : Nat, Pos l x p ∧ v = .s (.tuple #[.int .i64 p, .bool (decide (x ∈ l))])) ∧ Hn = []) := by
  have hlt : ∀ {i j : Nat} (hi : i < l.length) (hj : j < l.length), i < j → l[i] < l[j] := fun hi hj h => List.pairwise_iff_getElem.1 hr _ _ hi hj h
  refine Fn_body (N := 54) (ho _ _ _ (by decide) (by decide)) Try.func37 rfl rfl fun B => ?_
  refine SC_nd fun hnd => ?_
  repeat' (first
    | refine SL_len_h (by decide) (by rfl) hl (by rfl) (slF (by rfl)) (ints_len _) ?_
    | refine SC_seq ?_
    | refine SC_block ?_
    | refine SC_region ?_
    | refine SL_seq ?_
    | refine SL_move (by decide) (by rfl) ?_
    | refine SL_assign (by decide) (by rfl) ?_
    | fail)
  refine SC_loop (fun z : Nat × Nat => [(0, a), (1, .s (.int .i64 x)), (6, .s (.int .i64 l.length)), (7, .s (.int .i64 z.1)), (8, .s (.int .i64 z.2))]) (fun _ => H0) (fun _ => []) (fun z => z.1 ≤ z.2 ∧ z.2 ≤ l.length ∧ (∀ (q : Nat) (h : q < l.length), q < z.1 → l[q] < x) ∧ ∀ (q : Nat) (h : q < l.length), z.2 ≤ q → x ≤ l[q]) (fun z => z.2 - z.1) (0, l.length)
    ⟨by simp, by simp, fun q _ h => absurd h (Nat.not_lt_zero _), fun q h h' => absurd h (by simp only at h'; omega)⟩ ⟨rfl, rfl, rfl, rfl, rfl, trivial⟩ (.refl _) hnd rfl ?_
  rintro ⟨i, j⟩ ⟨h1, h2, h3, h4⟩
  dsimp only at h1 h2 h3 h4 ⊢
  by_cases hij : i < j
  · obtain ⟨m, hm⟩ : ∃ m, m = (i + j) / 2 := ⟨_, rfl⟩
    have hf := fdiv2 ((i : Int) + j)
    have hmm : ((m : Nat) : Int) = ((i : Int) + j) / 2 := by omega
    have e0 : ((i : Int) + j).fdiv (2 ^ (min (1 : Int).toNat IntKind.u64.bits)) = ((m : Nat) : Int) := by omega
    have e1 : ((i : Int) + j).fdiv (2 ^ (min (1 : Int).toNat IntKind.u64.bits)) + 1 = ((m + 1 : Nat) : Int) := by omega
    have hml : m < l.length := by omega
    repeat' (first
      | (refine SL_callB (by decide) (by rfl) bd59 (by rfl) (by rfl) (less59 ho _ _) (fun hT => ?_) (fun hT => ?_) <;> first | (exfalso; omega) | skip)
      | refine SL_load_h (by decide) (by rfl) (by assumption) (fun p hp => hp) (rowF (by rfl)) (ints_get _ (by omega)) (by rfl) ?_
      | (refine SL_indexAddr_h (by decide) (by rfl) (by rfl) hl (fun p hp => hp) (slF (by rfl)) m (by omega) (by rw [ints_len]; omega) (fun pa hpa => ?_))
      | refine SL_conv (by decide) (by rfl) k89_3b (IntWalk.i64_in _ ⟨by omega, by omega⟩) ?_
      | refine SL_conv (by decide) (by rfl) k3_89b (IntWalk.u64_in _ ⟨by omega, by omega⟩) ?_
      | refine SL_shrE (by decide) (by rfl) (by rfl) (by omega) ?_
      | refine SC_seq ?_
      | refine SC_block ?_
      | refine SC_region ?_
      | refine SL_seq ?_
      | refine SL_move (by decide) (by rfl) ?_
      | refine SL_assign (by decide) (by rfl) ?_
      | refine SL_add (by decide) (by rfl) (by rfl) (by omega) (by omega) ?_
      | (refine SL_lss (by decide) (by rfl) (by rfl) (fun hT => ?_) (fun hT => ?_) <;> first | (exfalso; omega) | skip)
      | refine SC_cond_t (by rfl) ?_
      | refine SC_cond_f (by rfl) ?_
      | (refine SC_skip' (fun tm σ hE hH => ?_); refine SC.app ?_ hE hH; clear hE hH; clear tm σ)
      | fail)
    · have hx : l[m] < x := by assumption
      exact SL_nil fun tm σ hE hH => ⟨(m + 1, j), by show j - (m + 1) < j - i; omega, ⟨by show m + 1 ≤ j; omega, h2, fun q hq hqm => (by
        by_cases e : q = m
        · subst e; exact hx
        · have := hlt hq hml (by simp only at hqm; omega)
          omega), h4⟩, tm, σ, rfl, hE.sub ⟨rfl, rfl, rfl, congrArg (fun z => some (AV.s (.int .i64 z))) e1, rfl, trivial⟩, hH⟩
    · have hx : ¬ l[m] < x := by assumption
      exact SL_nil fun tm σ hE hH => ⟨(i, m), by show m - i < j - i; omega, ⟨by show i ≤ m; omega, by show m ≤ l.length; omega, h3, fun q hq hqm => (by
        by_cases e : q = m
        · subst e; omega
        · have := hlt hml hq (by simp only at hqm; omega)
          omega)⟩, tm, σ, rfl, hE.sub ⟨rfl, rfl, rfl, rfl, congrArg (fun z => some (AV.s (.int .i64 z))) e0, trivial⟩, hH⟩
  · obtain rfl : i = j := by omega
    have hpos : Pos l x i := ⟨h2, h3, h4⟩
    have hno : (∀ (h : i < l.length), l[i] ≠ x) → ¬ x ∈ l := fun hh hm => by
      obtain ⟨q, hq, hqe⟩ := List.getElem_of_mem hm
      have h5 := h3 q hq
      have h6 := h4 q hq
      by_cases e : q < i
      · have := h5 e; omega
      · by_cases e2 : q = i
        · subst e2; exact hh hq hqe
        · have := hlt (by omega) hq (show i < q by omega)
          have := h4 i (by omega) (Nat.le_refl _)
          omega
    by_cases hil : i < l.length
    · skip
      repeat' (first
        | (refine SL_callB (by decide) (by rfl) bd60b (by rfl) (by rfl) (nan60 ho _) (fun hT => ?_) (fun hT => ?_) <;> first | exact hT.elim | skip)
        | refine SL_load_h (by decide) (by rfl) (by assumption) (fun p hp => hp) (rowF (by rfl)) (ints_get _ (by omega)) (by rfl) ?_
        | (refine SL_indexAddr_h (by decide) (by rfl) (by rfl) hl (fun p hp => hp) (slF (by rfl)) i (by rfl) (by rw [ints_len]; omega) (fun pa hpa => ?_))
        | refine SC_seq ?_
        | refine SC_region ?_
        | refine SL_seq ?_
        | refine SL_run (by rfl) (by rfl) ?_
        | refine SL_not (by rfl) (by rfl) (by rfl) (by decide) ?_
        | refine SL_notu (by rfl) (by rfl) (by decide) ?_
        | refine SL_move (by decide) (by rfl) ?_
        | refine SL_assign (by decide) (by rfl) ?_
        | refine SL_pick_t (by decide) (by rfl) (by rfl) ?_
        | refine SL_pick_f (by decide) (by rfl) (by rfl) ?_
        | (refine SL_lss (by decide) (by rfl) (by rfl) (fun hT => ?_) (fun hT => ?_) <;> first | (exfalso; omega) | skip)
        | (refine SL_eql (by decide) (by rfl) (by rfl) (fun hT => ?_) (fun hT => ?_) <;> first | (exfalso; omega) | skip)
        | refine SC_cond_f (by rfl) ?_
        | (refine SC_exit (fun tm σ hE hH => ?_); refine SC.app ?_ hE hH; clear hE hH; clear tm σ)
        | fail)
      · have hx : l[i] = x := by assumption
        have hin : x ∈ l := hx ▸ List.getElem_mem hil
        exact SC_ret (fun tm σ hE hH => Post.intro (Hn := []) (.inr rfl) hE hH (by rfl) trivial List.nodup_nil (fun p hp => (by cases hp)) ⟨⟨i, hpos, by rw [decide_eq_true hin]; rfl⟩, rfl⟩)
      · have hx : l[i] ≠ x := by assumption
        exact SC_ret (fun tm σ hE hH => Post.intro (Hn := []) (.inr rfl) hE hH (by rfl) trivial List.nodup_nil (fun p hp => (by cases hp)) ⟨⟨i, hpos, by rw [decide_eq_false (hno fun _ => hx)]; rfl⟩, rfl⟩)
    · skip
      repeat' (first
        | refine SC_seq ?_
        | refine SC_region ?_
        | refine SL_seq ?_
        | refine SL_not (by rfl) (by rfl) (by rfl) (by decide) ?_
        | refine SL_notu (by rfl) (by rfl) (by decide) ?_
        | refine SL_move (by decide) (by rfl) ?_
        | refine SL_assign (by decide) (by rfl) ?_
        | refine SL_pick_f (by decide) (by rfl) (by rfl) ?_
        | (refine SL_lss (by decide) (by rfl) (by rfl) (fun hT => ?_) (fun hT => ?_) <;> first | (exfalso; omega) | skip)
        | refine SC_cond_f (by rfl) ?_
        | (refine SC_exit (fun tm σ hE hH => ?_); refine SC.app ?_ hE hH; clear hE hH; clear tm σ)
        | fail)
      exact SC_ret (fun tm σ hE hH => Post.intro (Hn := []) (.inr rfl) hE hH (by rfl) trivial List.nodup_nil (fun p hp => (by cases hp)) ⟨⟨i, hpos, by rw [decide_eq_false (hno fun h => absurd h hil)]; rfl⟩, rfl⟩)
end Go.Proofs.Ytldckcopeiginaa
/- What one game tells about a player: the law's points. -/
namespace Go.Proofs.Ytldckcopeiginaa
open Go.Ab
attribute [local irreducible] SC SL wpc wpl wpd wpf wpy wpn FnC
set_option maxRecDepth 100000
set_option maxHeartbeats 2000000
def pts (g : Sc) (i : Int) : Int × Int := if g.w = i then (g.p, g.b) else if g.b = i then (2 - g.p, g.w) else (0, -2)
theorem pts_w {g : Sc} {i : Int} (h : g.w = i) : pts g i = (g.p, g.b) := if_pos h
theorem pts_b {g : Sc} {i : Int} (h : g.w ≠ i) (h2 : g.b = i) : pts g i = (2 - g.p, g.w) := by unfold pts; rw [if_neg h, if_pos h2]
theorem pts_n {g : Sc} {i : Int} (h : g.w ≠ i) (h2 : g.b ≠ i) : pts g i = (0, -2) := by unfold pts; rw [if_neg h, if_neg h2]
abbrev sc (g : Sc) : AV := .s (.agg #[.int .i64 g.w, .int .i64 g.b, .int .i64 g.p])
theorem points_fn {G : Gl} (g : Sc) (i : Int) (h0 : 0 ≤ g.p) (h2 : g.p ≤ 2) (ho : G.orc 22 [sc g, .s (.int .i64 i)] = none) :
    FnC Try.prog G 22 [sc g, .s (.int .i64 i)] [] (fun v Hn => v = .s (.tuple #[.int .i64 (pts g i).1, .int .i64 (pts g i).2]) ∧ Hn = []) := by
  refine Fn_body (N := 23) ho Try.func22 rfl rfl fun B => ?_
  repeat' (first
    | refine SC_seq ?_
    | refine SC_region ?_
    | refine SL_seq ?_
    | refine SL_move (by decide) (by rfl) ?_
    | refine SL_assign (by decide) (by rfl) ?_
    | refine SL_sub (by decide) (by rfl) (by rfl) (by omega) (by omega) ?_
    | (refine SL_eql (by decide) (by rfl) (by rfl) (fun hT => ?_) (fun hT => ?_) <;> first | (exfalso; omega) | skip)
    | refine SL_fieldAddr (by decide) (by rfl) (fldF (by rfl)) ?_
    | refine SL_load_o (by decide) (by rfl) (by repeat (first | exact .head _ | refine .tail _ ?_)) (rowF (by rfl)) (by first | assumption | rfl) (by rfl) ?_
    | refine SL_box (by decide) (by rfl) (by first | exact cells_3 _ _ _ | rfl) (fun id hid => ?_)
    | refine SC_draw (by kernel_rfl) ?_
    | refine SC_cond_t (by rfl) ?_
    | refine SC_cond_f (by rfl) ?_
    | (refine SC_skip' (fun tm σ hE hH => ?_); refine SC.app ?_ hE hH; clear hE hH; clear tm σ)
    | refine SC_ret (fun tm σ hE hH => Post.intro (Hn := []) (.inr rfl) hE hH (by rfl) trivial List.nodup_nil (fun p hp => (by cases hp)) ?_)
    | fail)
  · refine ⟨?_, rfl⟩
    rw [pts_w (by assumption)]; rfl
  · refine ⟨?_, rfl⟩
    rw [pts_b (by assumption) (by assumption)]; rfl
  · refine ⟨?_, rfl⟩
    rw [pts_n (by assumption) (by assumption)]; rfl
end Go.Proofs.Ytldckcopeiginaa
/- The law's own Scores. -/
namespace Go.Proofs.Ytldckcopeiginaa
open Go.Ab
attribute [local irreducible] SC SL wpc wpl wpd wpf wpy wpn FnC
set_option maxRecDepth 100000
set_option maxHeartbeats 2000000
def tab (m : Nat) (f : Nat → Int) : List (List AV) := (List.range m).map fun x => [.s (.int .i64 (f x))]
theorem tab_len (m : Nat) (f : Nat → Int) : (tab m f).length = m := by simp [tab]
theorem tab_get (m : Nat) (f : Nat → Int) {i : Nat} (h : i < m) : (tab m f)[i]? = some [.s (.int .i64 (f i))] := by simp [tab, List.getElem?_range h]
theorem tab_congr {m : Nat} {f g : Nat → Int} (h : ∀ x, x < m → f x = g x) : tab m f = tab m g := by
  unfold tab
  exact List.map_congr_left fun x hx => by rw [h x (List.mem_range.1 hx)]
theorem tab_0 (m : Nat) : List.replicate m [AV.s (.int .i64 0)] = tab m (fun _ => 0) := by
  apply List.ext_getElem?
  intro i
  by_cases h : i < m
  · rw [tab_get m _ h, List.getElem?_replicate]; simp [h]
  · rw [List.getElem?_eq_none (by simp; omega), List.getElem?_eq_none (by rw [tab_len]; omega)]
theorem tab_set (m : Nat) (f : Nat → Int) {i : Nat} (h : i < m) (a v : Int) : (tab m f).set i (writeRow [.s (.int .i64 a)] 0 [.s (.int .i64 v)]) = tab m (fun x => if x = i then v else f x) := by
  apply List.ext_getElem?
  intro j
  rw [List.getElem?_set]
  by_cases hj : j < m
  · by_cases e : i = j
    · subst e
      rw [if_pos rfl, if_pos (by rw [tab_len]; exact h), tab_get m _ h]
      simp [writeRow]
    · rw [if_neg e, tab_get m _ hj, tab_get m _ hj, if_neg (fun x => e x.symm)]
  · have h1 : ¬ i = j := by omega
    rw [if_neg h1, List.getElem?_eq_none (by rw [tab_len]; omega), List.getElem?_eq_none (by rw [tab_len]; omega)]
def FI (F : Nat → Int) (i : Nat) (acc : Int) : Nat → Int := fun x => if x < i then F x else if x = i then acc else 0
theorem FI_get {m : Nat} (F : Nat → Int) (i : Nat) (acc : Int) (h : i < m) : (tab m (FI F i acc))[i]? = some [.s (.int .i64 acc)] := by
  rw [tab_get m _ h]; simp [FI]
theorem FI_set {m : Nat} (F : Nat → Int) (i : Nat) (acc v : Int) (h : i < m) : (tab m (FI F i acc)).set i (writeRow [.s (.int .i64 acc)] 0 [.s (.int .i64 v)]) = tab m (FI F i v) := by
  rw [tab_set m _ h]
  refine tab_congr fun x hx => ?_
  unfold FI
  by_cases e : x = i
  · subst e; simp
  · rw [if_neg e]; simp only [if_neg e]
theorem FI_next (F : Nat → Int) (i : Nat) (m : Nat) : tab m (FI F i (F i)) = tab m (FI F (i + 1) 0) := by
  refine tab_congr fun x _ => ?_
  unfold FI
  by_cases e : x = i
  · subst e; simp
  · by_cases e2 : x < i
    · rw [if_pos e2, if_pos (by omega)]
    · rw [if_neg e2, if_neg e, if_neg (by omega)]; simp
theorem FI_0 (F : Nat → Int) (m : Nat) : List.replicate m [AV.s (.int .i64 0)] = tab m (FI F 0 0) := by
  rw [tab_0]
  refine tab_congr fun x _ => ?_
  unfold FI; simp
theorem FI_end (F : Nat → Int) (m : Nat) (a : Int) : tab m (FI F m a) = tab m F := by
  refine tab_congr fun x hx => ?_
  unfold FI; rw [if_pos hx]
def sum1 (gs : List Sc) (i : Int) : Int := (gs.map fun g => (pts g i).1).sum
def sumT (rs : List (List Sc)) (i : Int) : Int := (rs.map fun gs => sum1 gs i).sum
theorem sum1_next {gs : List Sc} {j : Nat} (h : j < gs.length) (i : Int) : sum1 (gs.take (j + 1)) i = sum1 (gs.take j) i + (pts gs[j] i).1 := by
  unfold sum1; rw [List.take_succ_eq_append_getElem h]; simp only [List.map_append, List.sum_append, List.map_cons, List.map_nil, List.sum_cons, List.sum_nil, Int.add_zero]
theorem sumT_next {rs : List (List Sc)} {j : Nat} (h : j < rs.length) (i : Int) : sumT (rs.take (j + 1)) i = sumT (rs.take j) i + sum1 rs[j] i := by
  unfold sumT; rw [List.take_succ_eq_append_getElem h]; simp only [List.map_append, List.sum_append, List.map_cons, List.map_nil, List.sum_cons, List.sum_nil, Int.add_zero]
theorem pts_bd {g : Sc} (h0 : 0 ≤ g.p) (h2 : g.p ≤ 2) (i : Int) : 0 ≤ (pts g i).1 ∧ (pts g i).1 ≤ 2 := by
  unfold pts
  split
  · exact ⟨h0, h2⟩
  · split
    · simp only; omega
    · simp
theorem sum1_bd {gs : List Sc} (h : ∀ g ∈ gs, 0 ≤ g.p ∧ g.p ≤ 2) (i : Int) : 0 ≤ sum1 gs i ∧ sum1 gs i ≤ 2 * gs.length := by
  induction gs with
  | nil => simp [sum1]
  | cons g gs ih =>
    have h1 := ih (fun g hg => h g (List.mem_cons_of_mem _ hg))
    have h2 := h g List.mem_cons_self
    have h3 := pts_bd h2.1 h2.2 i
    unfold sum1 at h1 ⊢
    simp only [List.map_cons, List.sum_cons, List.length_cons]
    omega
theorem sumT_bd {rs : List (List Sc)} (hf : ∀ gs ∈ rs, gs.length ≤ 12) (h : ∀ gs ∈ rs, ∀ g ∈ gs, 0 ≤ g.p ∧ g.p ≤ 2) (i : Int) : 0 ≤ sumT rs i ∧ sumT rs i ≤ 24 * rs.length := by
  induction rs with
  | nil => simp [sumT]
  | cons r rs ih =>
    have h1 := ih (fun g hg => hf g (List.mem_cons_of_mem _ hg)) (fun g hg => h g (List.mem_cons_of_mem _ hg))
    have h2 := sum1_bd (h r List.mem_cons_self) i
    have h3 := hf r List.mem_cons_self
    unfold sumT at h1 ⊢
    simp only [List.map_cons, List.sum_cons, List.length_cons]
    omega
theorem lawScores_fn {G : Gl} {rs : List (List Sc)} {ra : AV} {xs : List AV} (h : RV rs ra xs) (hf : ∀ gs ∈ rs, gs.length ≤ 12) {m : Nat} (hv : VOk m rs) (ho : G.orc 14 [.s (.int .i64 m), ra] = none) (ho22 : ∀ g i, G.orc 22 [sc g, .s (.int .i64 i)] = none) :
    FnC Try.prog G 14 [.s (.int .i64 m), ra] [] (fun v Hn => ∃ id, v = .sl id 0 m none ∧ Hn = [(id, .cells 3 1 true (tab m (fun x => sumT rs x)))]) := by
  have hsl := h.sl
  have hlen := h.len
  have hbig := h.big
  obtain ⟨hv1, hv2, hv3, hv4⟩ := hv
  refine Fn_body (N := 55) ho Try.func14 rfl rfl fun B => ?_
  repeat' (first
    | refine SC_seq ?_
    | refine SC_block ?_
    | refine SC_region ?_
    | refine SL_seq ?_
    | refine SL_move (by decide) (by rfl) ?_
    | refine SL_assign (by decide) (by rfl) ?_
    | refine SL_makeSlice (by decide) (by rfl) (by rfl) (elF (by rfl)) (by omega) (by omega) (by omega) (by omega) (fun id hid => ?_)
    | fail)
  refine SC_loop (fun i : Nat => [(0, .s (.int .i64 m)), (1, ra), (5, .sl id 0 m none), (6, .s (.int .i64 i))]) (fun i => [(id, .cells 3 1 true (tab m (FI (fun x => sumT rs x) i 0)))]) (fun _ => []) (fun i => i ≤ m) (fun i => m - i) 0 (by omega) ⟨rfl, rfl, rfl, rfl, trivial⟩ ⟨by rw [← FI_0]; exact .head _, trivial⟩ (by simp) rfl ?_
  intro i hi
  by_cases hilt : i < m
  ·
    repeat' (first
      | refine SC_seq ?_
      | refine SC_block ?_
      | refine SC_region ?_
      | refine SL_seq ?_
      | refine SL_move (by decide) (by rfl) ?_
      | refine SL_assign (by decide) (by rfl) ?_
      | (refine SL_lss (by decide) (by rfl) (by rfl) (fun hT => ?_) (fun hT => ?_) <;> first | (exfalso; omega) | skip)
      | refine SC_cond_t (by rfl) ?_
      | (refine SC_skip' (fun tm σ hE hH => ?_); refine SC.app ?_ hE hH; clear hE hH; clear tm σ)
      | fail)
    refine SC_loop (fun k : Nat => [(0, .s (.int .i64 m)), (1, ra), (5, .sl id 0 m none), (6, .s (.int .i64 i)), (7, .s (.int .i64 k))]) (fun k => [(id, .cells 3 1 true (tab m (FI (fun x => sumT rs x) i (sumT (rs.take k) i))))]) (fun _ => []) (fun k => k ≤ rs.length) (fun k => rs.length - k) 0 (by omega) ⟨rfl, rfl, rfl, rfl, rfl, trivial⟩ ⟨.head _, trivial⟩ (by simp) rfl ?_
    intro k hk
    by_cases hlt : k < rs.length
    · obtain ⟨x, hx, hgx⟩ := h.row hlt
      unfold GV at hgx
      have hgs := hf rs[k] (List.getElem_mem hlt)
      have hr := (hv4 rs[k] (List.getElem_mem hlt)).1
      have hsum := sumT_bd (rs := rs.take k) (fun gs hg => hf gs (List.mem_of_mem_take hg)) (fun gs hg g hgg => ((hv4 gs (List.mem_of_mem_take hg)).1 g hgg).2.2.2.2) i
      rw [List.length_take] at hsum
      repeat' (first
        | refine SC_seq ?_
        | refine SC_block ?_
        | refine SC_region ?_
        | refine SL_seq ?_
        | refine SL_move (by decide) (by rfl) ?_
        | refine SL_assign (by decide) (by rfl) ?_
        | (refine SL_lss (by decide) (by rfl) (by rfl) (fun hT => ?_) (fun hT => ?_) <;> first | (exfalso; omega) | skip)
        | refine SL_len_v (by decide) (by rfl) (by assumption) (by rfl) (slF (by rfl)) (by simp only [List.length_map]; first | rfl | assumption) ?_
        | refine SC_cond_t (by rfl) ?_
        | (refine SC_skip' (fun tm σ hE hH => ?_); refine SC.app ?_ hE hH; clear hE hH; clear tm σ)
        | fail)
      refine SC_loop (fun j : Nat => [(0, .s (.int .i64 m)), (1, ra), (5, .sl id 0 m none), (6, .s (.int .i64 i)), (7, .s (.int .i64 k)), (8, .s (.int .i64 j))]) (fun j => [(id, .cells 3 1 true (tab m (FI (fun x => sumT rs x) i (sumT (rs.take k) i + sum1 (rs[k].take j) i))))]) (fun _ => []) (fun j => j ≤ rs[k].length) (fun j => rs[k].length - j) 0 (by omega) ⟨rfl, rfl, rfl, rfl, rfl, rfl, trivial⟩ ⟨by rw [show sum1 (rs[k].take 0) i = 0 from rfl, Int.add_zero]; exact .head _, trivial⟩ (by simp) rfl ?_
      intro j hj
      by_cases hjlt : j < rs[k].length
      · have hrow : (rs[k].map cells3)[j]? = some (cells3 rs[k][j]) := by rw [List.getElem?_map, List.getElem?_eq_getElem hjlt]; rfl
        have hgj := hr rs[k][j] (List.getElem_mem hjlt)
        have hsum1 := sum1_bd (gs := rs[k].take j) (fun g hgg => (hr g (List.mem_of_mem_take hgg)).2.2.2.2) i
        rw [List.length_take] at hsum1
        have hpt := pts_bd hgj.2.2.2.2.1 hgj.2.2.2.2.2 (i : Int)
        repeat' (first
          | (refine SL_call (by decide) (by rfl) bd22 (by rfl) (by rfl) (points_fn rs[k][j] (i : Int) hgj.2.2.2.2.1 hgj.2.2.2.2.2 (ho22 _ _)) trivial List.nodup_nil ?_; rintro _ _ _ ⟨rfl, rfl⟩; rw [List.nil_append])
          | refine SC_seq ?_
          | refine SC_block ?_
          | refine SC_region ?_
          | refine SL_seq ?_
          | (refine SL_nil (fun tm σ hE hH => ?_); refine SC.app ?_ hE hH; clear hE hH; clear tm σ)
          | refine SL_move (by decide) (by rfl) ?_
          | refine SL_assign (by decide) (by rfl) ?_
          | refine SL_add (by decide) (by rfl) (by rfl) (by omega) (by omega) ?_
          | (refine SL_lss (by decide) (by rfl) (by rfl) (fun hT => ?_) (fun hT => ?_) <;> first | (exfalso; omega) | skip)
          | refine SL_extract_s (by decide) (by rfl) (by rfl) ?_
          | refine SL_len_v (by decide) (by rfl) (by assumption) (by rfl) (slF (by rfl)) (by simp only [List.length_map]; first | rfl | assumption) ?_
          | refine SL_indexAddr_v (by decide) (by rfl) (by rfl) (by assumption) (slF (by rfl)) _ (by first | rfl | exact (Int.toNat_of_nonneg (by omega)).symm) (by simp only [List.length_map]; omega) (fun ad => ?_)
          | refine SL_indexAddr_0 (by decide) (by rfl) (by rfl) (by repeat (first | exact .head _ | refine .tail _ ?_)) (slF (by rfl)) _ (by first | rfl | exact (Int.toNat_of_nonneg (by omega)).symm) (by omega) ?_
          | refine SL_load_r (by decide) (by rfl) (rowF (by rfl)) (by first | assumption | rfl | exact FI_get _ _ _ (by omega)) (by rfl) ?_
          | refine SL_load_rr (by decide) (by rfl) (rowF (by rfl)) (by first | assumption | rfl | exact FI_get _ _ _ (by omega)) (Nat.le_of_ble_eq_true (by rfl)) (by first | exact mk3 _ | rfl) ?_
          | refine SL_load_o (by decide) (by rfl) (by repeat (first | exact .head _ | refine .tail _ ?_)) (rowF (by rfl)) (by first | assumption | rfl | exact FI_get _ _ _ (by omega)) (by rfl) ?_
          | refine SL_store_n (by rfl) (by rfl) (by repeat (first | exact .head _ | refine .tail _ ?_)) (by first | assumption | rfl | exact FI_get _ _ _ (by omega)) (by rfl) (by first | exact FI_set _ _ _ _ (by omega) | rfl) (by repeat (first | exact .head | refine .tail ?_)) (by first | exact .inl (by assumption) | exact .inr (by simp)) (szF (by rfl)) (Nat.le_of_ble_eq_true (by rfl)) (by rfl) ?_
          | refine SC_cond_t (by rfl) ?_
          | (refine SC_skip' (fun tm σ hE hH => ?_); refine SC.app ?_ hE hH; clear hE hH; clear tm σ)
          | fail)
        refine SL_nil fun tm σ hE hH => ⟨j + 1, by omega, by omega, tm, σ, rfl, hE.sub ⟨rfl, rfl, rfl, rfl, rfl, rfl, trivial⟩, hH.sub ⟨?_, trivial⟩ (by simp)⟩
        rw [sum1_next hjlt, ← Int.add_assoc]
        exact .head _
      · obtain rfl : j = rs[k].length := by omega
        rw [List.take_length]
        repeat' (first
          | refine SC_seq ?_
          | refine SC_region ?_
          | refine SL_seq ?_
          | refine SL_move (by decide) (by rfl) ?_
          | refine SL_assign (by decide) (by rfl) ?_
          | refine SL_add (by decide) (by rfl) (by rfl) (by omega) (by omega) ?_
          | (refine SL_lss (by decide) (by rfl) (by rfl) (fun hT => ?_) (fun hT => ?_) <;> first | (exfalso; omega) | skip)
          | refine SL_len_v (by decide) (by rfl) (by assumption) (by rfl) (slF (by rfl)) (by simp only [List.length_map]; first | rfl | assumption) ?_
          | refine SL_indexAddr_v (by decide) (by rfl) (by rfl) (by assumption) (slF (by rfl)) _ (by first | rfl | exact (Int.toNat_of_nonneg (by omega)).symm) (by simp only [List.length_map]; omega) (fun ad => ?_)
          | refine SL_load_r (by decide) (by rfl) (rowF (by rfl)) (by first | assumption | rfl | exact FI_get _ _ _ (by omega)) (by rfl) ?_
          | refine SC_cond_f (by rfl) ?_
          | (refine SC_exit (fun tm σ hE hH => ?_); refine SC.app ?_ hE hH; clear hE hH; clear tm σ)
          | fail)
        refine SL_nil fun tm σ hE hH => ⟨k + 1, by omega, by omega, tm, σ, rfl, hE.sub ⟨rfl, rfl, rfl, rfl, rfl, trivial⟩, hH.sub ⟨?_, trivial⟩ (by simp)⟩
        rw [sumT_next hlt]
        exact .head _
    · obtain rfl : k = rs.length := by omega
      rw [List.take_length]
      repeat' (first
        | refine SC_seq ?_
        | refine SC_region ?_
        | refine SL_seq ?_
        | refine SL_move (by decide) (by rfl) ?_
        | refine SL_assign (by decide) (by rfl) ?_
        | refine SL_add (by decide) (by rfl) (by rfl) (by omega) (by omega) ?_
        | (refine SL_lss (by decide) (by rfl) (by rfl) (fun hT => ?_) (fun hT => ?_) <;> first | (exfalso; omega) | skip)
        | refine SL_len_v (by decide) (by rfl) (by assumption) (by rfl) (slF (by rfl)) (by simp only [List.length_map]; first | rfl | assumption) ?_
        | refine SC_cond_f (by rfl) ?_
        | (refine SC_exit (fun tm σ hE hH => ?_); refine SC.app ?_ hE hH; clear hE hH; clear tm σ)
        | fail)
      refine SL_nil fun tm σ hE hH => ⟨i + 1, by omega, by omega, tm, σ, rfl, hE.sub ⟨rfl, rfl, rfl, rfl, trivial⟩, hH.sub ⟨?_, trivial⟩ (by simp)⟩
      rw [← FI_next]
      exact .head _
  · obtain rfl : i = m := by omega
    rw [FI_end]
    repeat' (first
      | refine SC_seq ?_
      | refine SC_region ?_
      | refine SL_seq ?_
      | refine SL_move (by decide) (by rfl) ?_
      | refine SL_assign (by decide) (by rfl) ?_
      | (refine SL_lss (by decide) (by rfl) (by rfl) (fun hT => ?_) (fun hT => ?_) <;> first | (exfalso; omega) | skip)
      | refine SC_cond_f (by rfl) ?_
      | (refine SC_exit (fun tm σ hE hH => ?_); refine SC.app ?_ hE hH; clear hE hH; clear tm σ)
      | fail)
    exact SC_ret (fun tm σ hE hH => Post.intro (Hn := [(id, _)]) (.inr rfl) hE hH (by rfl) ⟨.head _, trivial⟩ (by simp) (by simp [hid]) ⟨id, rfl, rfl⟩)
end Go.Proofs.Ytldckcopeiginaa
/- A player's games, one after the other. -/
namespace Go.Proofs.Ytldckcopeiginaa
open Go.Ab
theorem cells_v {es : Nat} {a : AV} {rows : List (List AV)} (h : SlV es a rows) : cellsOf a = [a] := by cases h <;> rfl
theorem build73 (a b : Int) (c : Bool) : effBuild Try.prog 73 [(0, .s (.int .i64 a)), (1, .s (.int .i64 b)), (2, .s (.bool c))] = some (.s (.agg #[.int .i64 a, .int .i64 b, .bool c])) := by kernel_rfl
structure Ev where
  k : Int
  o : Int
  p : Int
  c : Bool
def ev1 (k : Nat) (i : Int) (g : Sc) : List Ev := if g.w = i then [⟨k, g.b, g.p, true⟩] else if g.b = i then [⟨k, g.w, 2 - g.p, false⟩] else []
def evR (k : Nat) (i : Int) (gs : List Sc) : List Ev := gs.flatMap (ev1 k i)
def evU (rs : List (List Sc)) (i : Int) : Nat → List Ev
  | 0 => []
  | k + 1 => evU rs i k ++ evR k i (rs[k]?.getD [])
theorem ev1_w {k : Nat} {i : Int} {g : Sc} (h : g.w = i) : ev1 k i g = [⟨k, g.b, g.p, true⟩] := if_pos h
theorem ev1_b {k : Nat} {i : Int} {g : Sc} (h : g.w ≠ i) (h2 : g.b = i) : ev1 k i g = [⟨k, g.w, 2 - g.p, false⟩] := by unfold ev1; rw [if_neg h, if_pos h2]
theorem ev1_n {k : Nat} {i : Int} {g : Sc} (h : g.w ≠ i) (h2 : g.b ≠ i) : ev1 k i g = [] := by unfold ev1; rw [if_neg h, if_neg h2]
theorem evR_next {gs : List Sc} {j : Nat} (h : j < gs.length) (k : Nat) (i : Int) : evR k i (gs.take (j + 1)) = evR k i (gs.take j) ++ ev1 k i gs[j] := take_flat h
theorem evU_next {rs : List (List Sc)} {k : Nat} (h : k < rs.length) (i : Int) : evU rs i (k + 1) = evU rs i k ++ evR k i rs[k] := by
  rw [evU, List.getElem?_eq_getElem h]; rfl
theorem evU_pre (rs : List (List Sc)) (i : Int) : ∀ {k m : Nat}, k ≤ m → evU rs i k <+: evU rs i m := by
  intro k m h
  induction h with
  | refl => exact List.prefix_rfl
  | step _ ih => exact ih.trans (List.prefix_append _ _)
theorem evR_pre {gs : List Sc} {j : Nat} (h : j < gs.length) (k : Nat) (i : Int) : evR k i (gs.take j) ++ ev1 k i gs[j] <+: evR k i gs := by
  rw [← evR_next h]
  exact ⟨evR k i (gs.drop (j + 1)), by unfold evR; rw [← List.flatMap_append, List.take_append_drop]⟩
theorem ev_pre {rs : List (List Sc)} {k j : Nat} (h : k < rs.length) (hj : j < rs[k].length) (i : Int) : evU rs i k ++ evR k i (rs[k].take j) ++ ev1 k i rs[k][j] <+: evU rs i rs.length := by
  refine List.IsPrefix.trans ?_ (evU_pre rs i (k := k + 1) h)
  rw [evU_next h, List.append_assoc]
  exact List.prefix_append_right_inj _ |>.2 (evR_pre hj k i)
attribute [local irreducible] SC SL wpc wpl wpd wpf wpy wpn FnC FnW RdW
set_option maxRecDepth 100000
set_option maxHeartbeats 2000000
theorem gamesOf_fn {G : Gl} {rs : List (List Sc)} {ra : AV} {xs : List AV} (h : RV rs ra xs) (i : Int) (ho : G.orc 36 [ra, .s (.int .i64 i)] = none) :
    FnC Try.prog G 36 [ra, .s (.int .i64 i)] [] (fun v Hn => ∃ a b, v = .fn (.func 58) [] [.ptr a 0 0, .ptr b 0 0] ∧ Hn = [(b, .cells 3 1 true [[.s (.int .i64 i)]]), (a, .cells 22 1 true [[ra]])]) := by
  have hsl := h.sl
  refine Fn_body (N := 6) ho Try.func36 rfl rfl fun B => ?_
  refine SC_nd fun _ => ?_
  repeat' (first
    | refine SL_makeFunc (by decide) (by rfl) (by rfl) ?_
    | refine SL_box (by decide) (by rfl) (cells_v hsl) (fun id hid => ?_)
    | refine SC_seq ?_
    | refine SC_region ?_
    | refine SL_seq ?_
    | refine SL_assign (by decide) (by rfl) ?_
    | refine SL_box (by decide) (by rfl) (by first | exact cells_3 _ _ _ | rfl) (fun id hid => ?_)
    | fail)
  refine SC_perm (List.Perm.refl _) (SC_nd fun hnd => ?_)
  refine SC_ret (fun tm σ hE hH => Post.intro (Hn := [(_, _), (_, _)]) (.inr rfl) hE hH (by rfl) ⟨.head _, .tail _ (.head _), trivial⟩ hnd ?_ ⟨_, _, rfl, rfl⟩)
  intro p hp
  rcases List.mem_cons.1 hp with rfl | hp
  · assumption
  · rw [List.mem_singleton] at hp; subst hp; assumption
theorem games_fn {G : Gl} {rs : List (List Sc)} {ra : AV} {xs : List AV} (h : RV rs ra xs) (hg : ∀ gs ∈ rs, ∀ g ∈ gs, 0 ≤ g.p ∧ g.p ≤ 2) (i : Int) {l a b : Nat} {M0 : List Nat} {lp : ALoop} (Hs : List Ev → List (Nat × AObj)) (hM : ∀ es, ∀ id ∈ M0, id ∈ (Hs es).map (·.1)) (hB : ∀ es, ∀ p ∈ Hs es, p.1 ∈ M0)
    (hr : ∀ es e, es ++ [e] <+: evU rs i rs.length → RdW Try.prog G l [.s (.int .i64 e.k), .s (.agg #[.int .i64 e.o, .int .i64 e.p, .bool e.c])] (l :: M0) ((l, .loop lp) :: Hs es) (fun v Hn => v = .s (.bool true) ∧ Hn = (l, .loop lp) :: Hs (es ++ [e])))
    (ho : G.orc 58 [.yld l, .ptr a 0 0, .ptr b 0 0] = none) :
    FnW Try.prog G 58 [.yld l, .ptr a 0 0, .ptr b 0 0] (l :: M0) ((l, .loop lp) :: (b, .cells 3 1 true [[.s (.int .i64 i)]]) :: (a, .cells 22 1 true [[ra]]) :: Hs []) (fun _ Hn => Hn = (l, .loop lp) :: Hs (evU rs i rs.length)) := by
  have hsl := h.sl
  have hlen := h.len
  have hbig := h.big
  have hMk : ∀ (es : List Ev) (id : Nat), id ∈ l :: M0 → id ∈ ((l, AObj.loop lp) :: Hs es).map (·.1) := fun es id hid => by
    rw [List.map_cons]
    rcases List.mem_cons.1 hid with rfl | hid
    · exact List.mem_cons_self
    · exact List.mem_cons_of_mem _ (hM es id hid)
  refine FnW_body (N := 62) ho Try.func58 rfl rfl fun B => ?_
  refine SC_perm (H' := (b, .cells 3 1 true [[.s (.int .i64 i)]]) :: (a, .cells 22 1 true [[ra]]) :: (l, .loop lp) :: Hs []) (List.perm_middle (l₁ := [(b, _), (a, _)])).symm (SC_nd fun hnd0 => ?_)
  repeat' (first
    | refine SC_seq ?_
    | refine SC_block ?_
    | refine SC_region ?_
    | refine SL_seq ?_
    | refine SL_move (by decide) (by rfl) ?_
    | refine SL_len_v (by decide) (by rfl) (by assumption) (by rfl) (slF (by rfl)) (by simp only [List.length_map]; first | rfl | assumption) ?_
    | refine SL_load_o (by decide) (by rfl) (by repeat (first | exact .head _ | refine .tail _ ?_)) (rowF (by rfl)) (by first | assumption | rfl) (by rfl) ?_
    | fail)
  refine SC_loop (fun k : Nat => [(0, .yld l), (1, .ptr a 0 0), (2, .ptr b 0 0), (8, ra), (9, .s (.int .i64 xs.length)), (10, .s (.int .i64 k))]) (fun k => (b, .cells 3 1 true [[.s (.int .i64 i)]]) :: (a, .cells 22 1 true [[ra]]) :: (l, .loop lp) :: Hs (evU rs i k)) (fun _ => []) (fun k => k ≤ rs.length) (fun k => rs.length - k) 0 (by omega) ⟨rfl, rfl, rfl, rfl, rfl, rfl, trivial⟩ (.refl _) hnd0 rfl ?_
  intro k hk
  by_cases hlt : k < rs.length
  · obtain ⟨x, hx, hgx⟩ := h.row hlt
    unfold GV at hgx
    have heach := h.each rs[k] (List.getElem_mem hlt)
    refine SC_nd fun hndk => ?_
    repeat' (first
      | refine SC_seq ?_
      | refine SC_block ?_
      | refine SC_region ?_
      | refine SL_seq ?_
      | refine SL_move (by decide) (by rfl) ?_
      | refine SL_assign (by decide) (by rfl) ?_
      | (refine SL_lss (by decide) (by rfl) (by rfl) (fun hT => ?_) (fun hT => ?_) <;> first | (exfalso; omega) | skip)
      | refine SL_len_v (by decide) (by rfl) (by assumption) (by rfl) (slF (by rfl)) (by simp only [List.length_map]; first | rfl | assumption) ?_
      | refine SL_indexAddr_v (by decide) (by rfl) (by rfl) (by assumption) (slF (by rfl)) _ (by first | rfl | exact (Int.toNat_of_nonneg (by omega)).symm) (by simp only [List.length_map]; omega) (fun ad => ?_)
      | refine SL_load_r (by decide) (by rfl) (rowF (by rfl)) (by first | assumption | rfl) (by rfl) ?_
      | refine SC_cond_t (by rfl) ?_
      | (refine SC_skip' (fun tm σ hE hH => ?_); refine SC.app ?_ hE hH; clear hE hH; clear tm σ)
      | fail)
    refine SC_loop (fun j : Nat => [(0, .yld l), (1, .ptr a 0 0), (2, .ptr b 0 0), (8, ra), (9, .s (.int .i64 xs.length)), (10, .s (.int .i64 k)), (4, .s (.int .i64 k)), (15, x), (16, .s (.int .i64 rs[k].length)), (17, .s (.int .i64 j))]) (fun j => (b, .cells 3 1 true [[.s (.int .i64 i)]]) :: (a, .cells 22 1 true [[ra]]) :: (l, .loop lp) :: Hs (evU rs i k ++ evR k i (rs[k].take j))) (fun _ => []) (fun j => j ≤ rs[k].length) (fun j => rs[k].length - j) 0 (by omega) ⟨rfl, rfl, rfl, rfl, rfl, rfl, rfl, rfl, rfl, rfl, trivial⟩
      (by rw [show evR k i (rs[k].take 0) = [] from rfl, List.append_nil]; exact .refl _) (by rw [show evR k i (rs[k].take 0) = [] from rfl, List.append_nil]; exact hndk) rfl ?_
    intro j hj
    by_cases hjlt : j < rs[k].length
    · have hrow : (rs[k].map cells3)[j]? = some (cells3 rs[k][j]) := by rw [List.getElem?_map, List.getElem?_eq_getElem hjlt]; rfl
      have hgj := hg rs[k] (List.getElem_mem hlt) rs[k][j] (List.getElem_mem hjlt)
      have hpre := ev_pre hlt hjlt i
      have hp1 : rs[k][j].w = i → (evU rs i k ++ evR k i (rs[k].take j)) ++ [⟨k, rs[k][j].b, rs[k][j].p, true⟩] <+: evU rs i rs.length := fun e => by rw [ev1_w e] at hpre; exact hpre
      have hp2 : rs[k][j].w ≠ i → rs[k][j].b = i → (evU rs i k ++ evR k i (rs[k].take j)) ++ [⟨k, rs[k][j].w, 2 - rs[k][j].p, false⟩] <+: evU rs i rs.length := fun e e' => by rw [ev1_b e e'] at hpre; exact hpre
      have hnx := evR_next hjlt k i
      repeat' (first
        | (refine SL_yield' (Hr := [_, _, _]) (H0 := _ :: Hs _) (by decide) (by rfl) (by rfl) (hr _ ⟨k, rs[k][j].w, 2 - rs[k][j].p, false⟩ (hp2 (by assumption) (by assumption))) (fun id hid => ⟨.inr hid, hMk _ _ hid⟩) ?_; rintro _ _ ⟨rfl, rfl⟩; simp only [List.cons_append, List.nil_append])
        | (refine SL_yield' (Hr := [_, _, _]) (H0 := _ :: Hs _) (by decide) (by rfl) (by rfl) (hr _ ⟨k, rs[k][j].b, rs[k][j].p, true⟩ (hp1 (by assumption))) (fun id hid => ⟨.inr hid, hMk _ _ hid⟩) ?_; rintro _ _ ⟨rfl, rfl⟩; simp only [List.cons_append, List.nil_append])
        | refine SL_build (by decide) (by rfl) (build73 _ _ _) ?_
        | refine SC_seq ?_
        | refine SC_block ?_
        | refine SC_region ?_
        | refine SL_seq ?_
        | refine SL_run (by rfl) (by rfl) ?_
        | refine SL_not (by rfl) (by rfl) (by rfl) (by decide) ?_
        | refine SL_move (by decide) (by rfl) ?_
        | refine SL_assign (by decide) (by rfl) ?_
        | refine SL_pick_t (by decide) (by rfl) (by rfl) ?_
        | refine SL_pick_f (by decide) (by rfl) (by rfl) ?_
        | refine SL_not_op (by decide) (by rfl) ?_
        | refine SL_add (by decide) (by rfl) (by rfl) (by omega) (by omega) ?_
        | refine SL_sub (by decide) (by rfl) (by rfl) (by omega) (by omega) ?_
        | (refine SL_lss (by decide) (by rfl) (by rfl) (fun hT => ?_) (fun hT => ?_) <;> first | (exfalso; omega) | skip)
        | (refine SL_eql (by decide) (by rfl) (by rfl) (fun hT => ?_) (fun hT => ?_) <;> first | (exfalso; omega) | skip)
        | (refine SL_neq (by decide) (by rfl) (by rfl) (fun hT => ?_) (fun hT => ?_) <;> first | (exfalso; omega) | skip)
        | refine SL_fieldAddr (by decide) (by rfl) (fldF (by rfl)) ?_
        | refine SL_indexAddr_v (by decide) (by rfl) (by rfl) (by assumption) (slF (by rfl)) _ (by first | rfl | exact (Int.toNat_of_nonneg (by omega)).symm) (by simp only [List.length_map]; omega) (fun ad => ?_)
        | refine SL_load_rr (by decide) (by rfl) (rowF (by rfl)) (by first | assumption | rfl) (Nat.le_of_ble_eq_true (by rfl)) (by first | exact mk3 _ | rfl) ?_
        | refine SL_load_o (by decide) (by rfl) (by repeat (first | exact .head _ | refine .tail _ ?_)) (rowF (by rfl)) (by first | assumption | rfl) (by rfl) ?_
        | refine SL_store_box (by rfl) (by rfl) (by first | exact cells_3 _ _ _ | rfl) (by repeat (first | exact .head | refine .tail ?_)) (by first | exact .inl (by assumption) | exact .inr (by simp)) (by rfl) (szF (by rfl)) (by rfl) ?_
        | refine SL_alloc (by decide) (zeroF (by rfl)) (fun id hid => ?_)
        | refine SC_cond_t (by rfl) ?_
        | refine SC_cond_f (by rfl) ?_
        | (refine SC_skip' (fun tm σ hE hH => ?_); refine SC.app ?_ hE hH; clear hE hH; clear tm σ)
        | fail)
      all_goals
        refine SL_nil fun tm σ hE hH => ⟨j + 1, by omega, by omega, tm, σ, rfl, hE.sub ⟨rfl, rfl, rfl, rfl, rfl, rfl, rfl, rfl, rfl, rfl, trivial⟩, ?_⟩
        first
        | rw [hnx, ev1_w (by assumption), ← List.append_assoc]; exact hH.sub (.of_mem fun p hp => List.mem_cons_of_mem _ hp) (List.nodup_cons.1 hH.nodup).2
        | rw [hnx, ev1_b (by assumption) (by assumption), ← List.append_assoc]; exact hH.sub (.of_mem fun p hp => List.mem_cons_of_mem _ hp) (List.nodup_cons.1 hH.nodup).2
        | rw [hnx, ev1_n (by assumption) (by assumption), List.append_nil]; exact hH.sub (.of_mem fun p hp => List.mem_cons_of_mem _ hp) (List.nodup_cons.1 hH.nodup).2
    · obtain rfl : j = rs[k].length := by omega
      rw [List.take_length, ← evU_next hlt]
      repeat' (first
        | refine SC_seq ?_
        | refine SC_region ?_
        | refine SL_seq ?_
        | refine SL_move (by decide) (by rfl) ?_
        | refine SL_add (by decide) (by rfl) (by rfl) (by omega) (by omega) ?_
        | (refine SL_lss (by decide) (by rfl) (by rfl) (fun hT => ?_) (fun hT => ?_) <;> first | (exfalso; omega) | skip)
        | refine SC_cond_f (by rfl) ?_
        | (refine SC_exit (fun tm σ hE hH => ?_); refine SC.app ?_ hE hH; clear hE hH; clear tm σ)
        | fail)
      refine SL_nil fun tm σ hE hH => ⟨k + 1, by omega, by omega, tm, σ, rfl, hE.sub ⟨rfl, rfl, rfl, rfl, rfl, rfl, trivial⟩, hH⟩
  · obtain rfl : k = rs.length := by omega
    repeat' (first
      | refine SC_seq ?_
      | refine SC_region ?_
      | refine SL_seq ?_
      | (refine SL_lss (by decide) (by rfl) (by rfl) (fun hT => ?_) (fun hT => ?_) <;> first | (exfalso; omega) | skip)
      | refine SC_cond_f (by rfl) ?_
      | fail)
    refine SC_exit (fun tm σ hE hH => ?_)
    have hn := (List.nodup_cons.1 (List.nodup_cons.1 hH.nodup).2).2
    refine PostW.intro (vs := []) (Hn := (l, .loop lp) :: Hs _) (.inl rfl) hE hH (by rfl) (.of_mem fun p hp => List.mem_cons_of_mem _ (List.mem_cons_of_mem _ hp)) hn (fun p hp => ?_) rfl
    rcases List.mem_cons.1 hp with rfl | hp
    · exact .inl List.mem_cons_self
    · exact .inl (List.mem_cons_of_mem _ (hB _ p hp))
end Go.Proofs.Ytldckcopeiginaa
/- tiebreak.scores. -/
namespace Go.Proofs.Ytldckcopeiginaa
open Go.Ab
def sumE (es : List Ev) : Int := (es.map Ev.p).sum
theorem sumE_next (es : List Ev) (e : Ev) : sumE (es ++ [e]) = sumE es + e.p := by
  unfold sumE; simp only [List.map_append, List.sum_append, List.map_cons, List.map_nil, List.sum_cons, List.sum_nil, Int.add_zero]
theorem sumE_app (es es' : List Ev) : sumE (es ++ es') = sumE es + sumE es' := by
  unfold sumE; simp only [List.map_append, List.sum_append]
theorem sumE_bd {es : List Ev} (h : ∀ e ∈ es, 0 ≤ e.p ∧ e.p ≤ 2) : 0 ≤ sumE es ∧ sumE es ≤ 2 * es.length := by
  induction es with
  | nil => simp [sumE]
  | cons e es ih =>
    have h1 := ih (fun e he => h e (List.mem_cons_of_mem _ he))
    have h2 := h e List.mem_cons_self
    unfold sumE at h1 ⊢
    simp only [List.map_cons, List.sum_cons, List.length_cons]
    omega
theorem ev1_len (k : Nat) (i : Int) (g : Sc) : (ev1 k i g).length ≤ 1 := by
  unfold ev1; split
  · simp
  · split <;> simp
theorem ev1_bd {k : Nat} {i : Int} {g : Sc} (h : 0 ≤ g.p ∧ g.p ≤ 2) : ∀ e ∈ ev1 k i g, 0 ≤ e.p ∧ e.p ≤ 2 := by
  unfold ev1; split
  · intro e he; rw [List.mem_singleton] at he; subst he; exact h
  · split
    · intro e he; rw [List.mem_singleton] at he; subst he; simp only; omega
    · intro e he; cases he
theorem evR_len (k : Nat) (i : Int) (gs : List Sc) : (evR k i gs).length ≤ gs.length := by
  induction gs with
  | nil => simp [evR]
  | cons g gs ih =>
    have := ev1_len k i g
    unfold evR at ih ⊢
    rw [List.flatMap_cons, List.length_append, List.length_cons]
    omega
theorem evR_bd {k : Nat} {i : Int} {gs : List Sc} (h : ∀ g ∈ gs, 0 ≤ g.p ∧ g.p ≤ 2) : ∀ e ∈ evR k i gs, 0 ≤ e.p ∧ e.p ≤ 2 := by
  intro e he
  obtain ⟨g, hg, he⟩ := List.mem_flatMap.1 he
  exact ev1_bd (h g hg) e he
theorem evU_len {rs : List (List Sc)} (hf : ∀ gs ∈ rs, gs.length ≤ 12) (i : Int) : ∀ k, k ≤ rs.length → (evU rs i k).length ≤ 12 * k
  | 0, _ => by simp [evU]
  | k + 1, h => by
    have h1 := evU_len hf i k (by omega)
    have h2 := evR_len k i rs[k]
    have h3 := hf rs[k] (List.getElem_mem h)
    rw [evU_next h, List.length_append]; omega
theorem evU_bd {rs : List (List Sc)} (hg : ∀ gs ∈ rs, ∀ g ∈ gs, 0 ≤ g.p ∧ g.p ≤ 2) (i : Int) : ∀ k, k ≤ rs.length → ∀ e ∈ evU rs i k, 0 ≤ e.p ∧ e.p ≤ 2
  | 0, _ => by intro e he; cases he
  | k + 1, h => by
    intro e he
    rw [evU_next h, List.mem_append] at he
    rcases he with he | he
    · exact evU_bd hg i k (by omega) e he
    · exact evR_bd (hg _ (List.getElem_mem h)) e he
theorem ev1_sum (k : Nat) (i : Int) (g : Sc) : sumE (ev1 k i g) = (pts g i).1 := by
  unfold ev1 pts; split
  · simp [sumE]
  · split <;> simp [sumE]
theorem evR_sum (k : Nat) (i : Int) (gs : List Sc) : sumE (evR k i gs) = sum1 gs i := by
  induction gs with
  | nil => simp [evR, sum1, sumE]
  | cons g gs ih =>
    unfold evR sum1 at ih ⊢
    rw [List.flatMap_cons, sumE_app, ih, ev1_sum, List.map_cons, List.sum_cons]
theorem evU_sum (rs : List (List Sc)) (i : Int) : ∀ k, k ≤ rs.length → sumE (evU rs i k) = sumT (rs.take k) i
  | 0, _ => by simp [evU, sumT, sumE]
  | k + 1, h => by rw [evU_next h, sumE_app, evU_sum rs i k (by omega), evR_sum, sumT_next h]
attribute [local irreducible] SC SL wpc wpl wpd wpf wpy wpn FnC FnW RdW
set_option maxRecDepth 100000
set_option maxHeartbeats 2000000
theorem scores_fn {G : Gl} {rs : List (List Sc)} {ra : AV} {xs : List AV} (h : RV rs ra xs) (hf : ∀ gs ∈ rs, gs.length ≤ 12) {m : Nat} (hv : VOk m rs) (ho : G.orc 26 [.s (.int .i64 m), ra] = none) (ho36 : ∀ i, G.orc 36 [ra, .s (.int .i64 i)] = none) (ho58 : ∀ a b c, G.orc 58 [a, b, c] = none) :
    FnC Try.prog G 26 [.s (.int .i64 m), ra] [] (fun v Hn => ∃ id, v = .sl id 0 m none ∧ Hn = [(id, .cells 3 1 true (tab m (fun x => sumT rs x)))]) := by
  have hsl := h.sl
  have hlen := h.len
  have hbig := h.big
  obtain ⟨hv1, hv2, hv3, hv4⟩ := hv
  have hg : ∀ gs ∈ rs, ∀ g ∈ gs, 0 ≤ g.p ∧ g.p ≤ 2 := fun gs hgs g hgg => ((hv4 gs hgs).1 g hgg).2.2.2.2
  refine Fn_body (N := 31) ho Try.func26 rfl rfl fun B => ?_
  repeat' (first
    | refine SC_seq ?_
    | refine SC_block ?_
    | refine SC_region ?_
    | refine SL_seq ?_
    | refine SL_move (by decide) (by rfl) ?_
    | refine SL_assign (by decide) (by rfl) ?_
    | refine SL_len_sl (by decide) (by rfl) (by rfl) (sliceOf_spec (slF (by rfl))).1 ?_
    | refine SL_load_o (by decide) (by rfl) (by repeat (first | exact .head _ | refine .tail _ ?_)) (rowF (by rfl)) (by first | assumption | rfl | exact FI_get _ _ _ (by omega)) (by rfl) ?_
    | refine SL_store_box (by rfl) (by rfl) (by first | exact cells_3 _ _ _ | rfl) (by repeat (first | exact .head | apply Upd.tail)) (by first | exact .inl (by assumption) | exact .inr (by simp)) (by rfl) (szF (by rfl)) (by rfl) ?_
    | refine SL_alloc (by decide) (zeroF (by rfl)) (fun id hid => ?_)
    | refine SL_makeSlice (by decide) (by rfl) (by rfl) (elF (by rfl)) (by omega) (by omega) (by omega) (by omega) (fun id hid => ?_)
    | fail)
  rename_i out hout
  revert id
  intro bx hbx
  refine SC_nd fun hnd0 => ?_
  refine SC_loop (fun a : Nat × List Nat => [(0, .s (.int .i64 m)), (1, ra), (5, .ptr bx 0 0), (12, .s (.int .i64 m)), (13, .s (.int .i64 a.1))]) (fun a => [(bx, .cells 25 1 true [[.sl out 0 m none]]), (out, .cells 3 1 true (tab m (FI (fun x => sumE (evU rs x rs.length)) a.1 0)))]) (fun a => a.2) (fun a => a.1 ≤ m) (fun a => m - a.1) (0, []) (by simp) ⟨rfl, rfl, rfl, rfl, rfl, trivial⟩ ⟨.head _, by rw [← FI_0]; exact .tail _ (.head _), trivial⟩ hnd0 rfl ?_
  rintro ⟨i, dd⟩ hi
  simp only at hi
  dsimp only
  by_cases hilt : i < m
  ·
    repeat' (first
      | (refine SL_call (by decide) (by rfl) bd36 (by rfl) (by rfl) (gamesOf_fn h (i : Int) (ho36 _)) trivial List.nodup_nil ?_; rintro _ _ hBn ⟨ga, gb, rfl, rfl⟩; simp only [List.cons_append, List.nil_append])
      | refine SC_seq ?_
      | refine SC_block ?_
      | refine SC_region ?_
      | refine SL_seq ?_
      | refine SL_move (by decide) (by rfl) ?_
      | (refine SL_lss (by decide) (by rfl) (by rfl) (fun hT => ?_) (fun hT => ?_) <;> first | (exfalso; omega) | skip)
      | refine SL_load_o (by decide) (by rfl) (by repeat (first | exact .head _ | refine .tail _ ?_)) (rowF (by rfl)) (by first | assumption | rfl | exact FI_get _ _ _ (by omega)) (by rfl) ?_
      | refine SL_store_box (by rfl) (by rfl) (by first | exact cells_3 _ _ _ | rfl) (by repeat (first | exact .head | apply Upd.tail)) (by first | exact .inl (by assumption) | exact .inr (by simp)) (by rfl) (szF (by rfl)) (by rfl) ?_
      | refine SL_alloc (by decide) (zeroF (by rfl)) (fun id hid => ?_)
      | refine SC_cond_t (by rfl) ?_
      | (refine SC_skip' (fun tm σ hE hH => ?_); refine SC.app ?_ hE hH; clear hE hH; clear tm σ)
      | fail)
    obtain ⟨bi, hbi, rfl⟩ : ∃ b, B.next ≤ b ∧ b = id := ⟨id, hid, rfl⟩
    refine SC_nd fun hnd1 => ?_
    refine SC_range' (Hr := []) (H0 := (gb, _) :: (ga, _) :: [(bi, .cells 3 1 true [[.s (.int .i64 i)]]), (bx, .cells 25 1 true [[.sl out 0 m none]]), (out, .cells 3 1 true (tab m (FI (fun x => sumE (evU rs x rs.length)) i 0)))])
      (Hfin := [(bi, .cells 3 1 true [[.s (.int .i64 i)]]), (bx, .cells 25 1 true [[.sl out 0 m none]]), (out, .cells 3 1 true (tab m (FI (fun x => sumE (evU rs x rs.length)) i (sumE (evU rs i rs.length)))))]) (M0 := [bi, bx, out]) (xs := fun l => [.yld l, .ptr ga 0 0, .ptr gb 0 0]) (by rfl) (fun l => by rfl) ?_ ?_ ?_
    · intro q hq
      simp only [List.mem_cons, List.not_mem_nil, or_false] at hq
      rcases hq with rfl | rfl | rfl
      · exact ⟨.inl hbi, by simp⟩
      · exact ⟨.inl hbx, by simp⟩
      · exact ⟨.inl hout, by simp⟩
    · intro tm d l hE hl hnot
      refine games_fn h hg i (fun es => [(bi, .cells 3 1 true [[.s (.int .i64 i)]]), (bx, .cells 25 1 true [[.sl out 0 m none]]), (out, .cells 3 1 true (tab m (FI (fun x => sumE (evU rs x rs.length)) i (sumE es))))]) (fun es id' hm => hm) (fun es p hp => by simp at hp; rcases hp with rfl | rfl | rfl <;> simp) (fun es e hpre => ?_) (ho58 _ _ _)
      refine Rd_body' hE rfl (by decide) List.mem_cons_self fun B' => ?_
      have hsum := sumE_bd (es := es) (fun e' he' => evU_bd hg i _ (Nat.le_refl _) e' (hpre.subset (List.mem_append_left _ he')))
      have heb := evU_bd hg i _ (Nat.le_refl _) e (hpre.subset (by simp))
      have hel := hpre.length_le
      have hul := evU_len hf i _ (Nat.le_refl _)
      rw [List.length_append, List.length_singleton] at hel
      repeat' (first
        | refine SC_region ?_
        | refine SL_store_box (by rfl) (by rfl) (by first | exact cells_3 _ _ _ | rfl) (by repeat (first | exact .head | apply Upd.tail)) (by first | exact .inl (by assumption) | exact .inr (by simp)) (by rfl) (szF (by rfl)) (by rfl) ?_
        | refine SL_alloc (by decide) (zeroF (by rfl)) (fun id hid => ?_)
        | fail)
      refine SL_nil fun tm1 σ1 hE1 hH1 => ⟨tm1, σ1, _, _, rfl, hE1, hH1.perm (List.Perm.swap _ _ _), ?_⟩
      clear hE1 hH1
      clear tm1 σ1
      repeat' (first
        | refine SC_block ?_
        | refine SL_add (by decide) (by rfl) (by rfl) (by omega) (by omega) ?_
        | refine SL_fieldAddr (by decide) (by rfl) (fldF (by rfl)) ?_
        | refine SL_indexAddr_0 (by decide) (by rfl) (by rfl) (by repeat (first | exact .head _ | refine .tail _ ?_)) (slF (by rfl)) _ (by first | rfl | exact (Int.toNat_of_nonneg (by omega)).symm) (by omega) ?_
        | refine SL_load_o (by decide) (by rfl) (by repeat (first | exact .head _ | refine .tail _ ?_)) (rowF (by rfl)) (by first | assumption | rfl | exact FI_get _ _ _ (by omega)) (by rfl) ?_
        | refine SL_store_n (by rfl) (by rfl) (by repeat (first | exact .head _ | refine .tail _ ?_)) (by first | assumption | rfl | exact FI_get _ _ _ (by omega)) (by rfl) (by first | exact FI_set _ _ _ _ (by omega) | rfl) (by repeat (first | exact .head | apply Upd.tail)) (by first | exact .inl (by assumption) | exact .inr (by simp)) (szF (by rfl)) (Nat.le_of_ble_eq_true (by rfl)) (by rfl) ?_
        | refine SC_draw (by kernel_rfl) ?_
        | fail)
      refine SL_nil fun tm2 σ2 hE2 hH2 => ?_
      dsimp only [InB]
      refine RPost.intro (Hn := [(l, _), (bi, _), (bx, _), (out, _)]) hH2 List.mem_cons_self .head ⟨.head _, .tail _ (.tail _ (.head _)), .tail _ (.tail _ (.tail _ (.head _))), .tail _ (.tail _ (.tail _ (.tail _ (.head _)))), trivial⟩ (hH2.nodup.sublist (.cons_cons _ (.cons _ (.refl _)))) (fun p hp => .inl ?_) ⟨rfl, ?_⟩
      · simp only [List.mem_cons, List.not_mem_nil, or_false] at hp
        rcases hp with rfl | rfl | rfl | rfl <;> simp
      · rw [sumE_next]
    · intro d tm' σ' hE' hH'
      refine SC.app ?_ hE' hH'
      clear hE' hH'
      clear tm' σ'
      repeat' (first
        | refine SC_region ?_
        | refine SL_move (by decide) (by rfl) ?_
        | refine SL_add (by decide) (by rfl) (by rfl) (by omega) (by omega) ?_
        | fail)
      refine SL_nil fun tm σ hE hH => ⟨(i + 1, d :: dd), by show m - (i + 1) < m - i; omega, by show i + 1 ≤ m; omega, tm, σ, rfl, hE.sub ⟨rfl, rfl, rfl, rfl, rfl, trivial⟩, hH.sub ⟨.tail _ (.head _), ?_, trivial⟩ hnd0⟩
      rw [← FI_next]
      exact .tail _ (.tail _ (.head _))
  · obtain rfl : i = m := by omega
    rw [FI_end]
    repeat' (first
      | refine SC_seq ?_
      | refine SC_region ?_
      | refine SL_seq ?_
      | refine SL_assign (by decide) (by rfl) ?_
      | (refine SL_lss (by decide) (by rfl) (by rfl) (fun hT => ?_) (fun hT => ?_) <;> first | (exfalso; omega) | skip)
      | refine SL_load_o (by decide) (by rfl) (by repeat (first | exact .head _ | refine .tail _ ?_)) (rowF (by rfl)) (by first | assumption | rfl | exact FI_get _ _ _ (by omega)) (by rfl) ?_
      | refine SC_cond_f (by rfl) ?_
      | (refine SC_exit (fun tm σ hE hH => ?_); refine SC.app ?_ hE hH; clear hE hH; clear tm σ)
      | fail)
    refine SC_ret (fun tm σ hE hH => Post.intro (Hn := [(out, _)]) (.inr rfl) hE hH (by rfl) ⟨.tail _ (.head _), trivial⟩ (by simp) (by simp [hout]) ⟨out, rfl, ?_⟩)
    rw [tab_congr (g := fun x : Nat => sumT rs x) fun x _ => by rw [evU_sum _ _ _ (Nat.le_refl _), List.take_length]]
end Go.Proofs.Ytldckcopeiginaa
/- A player's games, one after the other: the heap told by a predicate. -/
namespace Go.Proofs.Ytldckcopeiginaa
open Go.Ab
attribute [local irreducible] SC SL wpc wpl wpd wpf wpy wpn FnC FnW RdW
set_option maxRecDepth 100000
set_option maxHeartbeats 2000000
theorem games2_fn {G : Gl} {rs : List (List Sc)} {ra : AV} {xs : List AV} (h : RV rs ra xs) (hg : ∀ gs ∈ rs, ∀ g ∈ gs, 0 ≤ g.p ∧ g.p ≤ 2) (i : Int) {l a b : Nat} {lp : ALoop} (Inv : List Ev → List (Nat × AObj) → Prop) (H0 Hx : List (Nat × AObj)) (h0 : Inv [] H0)
    (hr : ∀ es e H, es ++ [e] <+: evU rs i rs.length → Inv es H → RdW Try.prog G l [.s (.int .i64 e.k), .s (.agg #[.int .i64 e.o, .int .i64 e.p, .bool e.c])] (l :: H.map (·.1)) (((l, .loop lp) :: H) ++ Hx) (fun v Hn => v = .s (.bool true) ∧ ∃ H', Hn = (l, .loop lp) :: H' ∧ Inv (es ++ [e]) H'))
    (ho : G.orc 58 [.yld l, .ptr a 0 0, .ptr b 0 0] = none) :
    FnW Try.prog G 58 [.yld l, .ptr a 0 0, .ptr b 0 0] (l :: H0.map (·.1)) ((l, .loop lp) :: (b, .cells 3 1 true [[.s (.int .i64 i)]]) :: (a, .cells 22 1 true [[ra]]) :: (H0 ++ Hx)) (fun _ Hn => ∃ H', Hn = (l, .loop lp) :: H' ∧ Inv (evU rs i rs.length) H') := by
  have hsl := h.sl
  have hlen := h.len
  have hbig := h.big
  refine FnW_body (N := 62) ho Try.func58 rfl rfl fun B => ?_
  refine SC_perm (H' := (b, .cells 3 1 true [[.s (.int .i64 i)]]) :: (a, .cells 22 1 true [[ra]]) :: (Hx ++ (l, .loop lp) :: H0)) ?_ (SC_nd fun hnd0 => ?_)
  · refine ((List.perm_middle (l₁ := [(b, _), (a, _)])).symm).trans (.cons _ (.cons _ ?_))
    exact (List.perm_append_comm (l₁ := (l, AObj.loop lp) :: H0) (l₂ := Hx))
  have hxn : (Hx.map (·.1)).Nodup := by
    have := (List.nodup_cons.1 (List.nodup_cons.1 hnd0).2).2
    rw [List.map_append, List.nodup_append] at this
    exact this.1
  repeat' (first
    | refine SC_seq ?_
    | refine SC_block ?_
    | refine SC_region ?_
    | refine SL_seq ?_
    | refine SL_move (by decide) (by rfl) ?_
    | refine SL_len_v (by decide) (by rfl) (by assumption) (by rfl) (slF (by rfl)) (by simp only [List.length_map]; first | rfl | assumption) ?_
    | refine SL_load_o (by decide) (by rfl) (by repeat (first | exact .head _ | refine .tail _ ?_)) (rowF (by rfl)) (by first | assumption | rfl) (by rfl) ?_
    | fail)
  refine SC_loop (fun x : Nat × List (Nat × AObj) => [(0, .yld l), (1, .ptr a 0 0), (2, .ptr b 0 0), (8, ra), (9, .s (.int .i64 xs.length)), (10, .s (.int .i64 x.1))]) (fun x => (b, .cells 3 1 true [[.s (.int .i64 i)]]) :: (a, .cells 22 1 true [[ra]]) :: (Hx ++ (l, .loop lp) :: x.2)) (fun _ => []) (fun x => x.1 ≤ rs.length ∧ Inv (evU rs i x.1) x.2 ∧ ∀ p ∈ x.2, B.next ≤ p.1 ∨ p.1 ∈ l :: H0.map (·.1)) (fun x => rs.length - x.1) (0, H0)
    ⟨by simp, h0, fun p hp => .inr (List.mem_cons_of_mem _ (List.mem_map.2 ⟨p, hp, rfl⟩))⟩ ⟨rfl, rfl, rfl, rfl, rfl, rfl, trivial⟩ (.refl _) hnd0 rfl ?_
  rintro ⟨k, Hk⟩ ⟨hk, hInvk, hBk⟩
  dsimp only at hk hInvk hBk ⊢
  by_cases hlt : k < rs.length
  · obtain ⟨x, hx, hgx⟩ := h.row hlt
    unfold GV at hgx
    have heach := h.each rs[k] (List.getElem_mem hlt)
    refine SC_nd fun hndk => ?_
    repeat' (first
      | refine SC_seq ?_
      | refine SC_block ?_
      | refine SC_region ?_
      | refine SL_seq ?_
      | refine SL_move (by decide) (by rfl) ?_
      | refine SL_assign (by decide) (by rfl) ?_
      | (refine SL_lss (by decide) (by rfl) (by rfl) (fun hT => ?_) (fun hT => ?_) <;> first | (exfalso; omega) | skip)
      | refine SL_len_v (by decide) (by rfl) (by assumption) (by rfl) (slF (by rfl)) (by simp only [List.length_map]; first | rfl | assumption) ?_
      | refine SL_indexAddr_v (by decide) (by rfl) (by rfl) (by assumption) (slF (by rfl)) _ (by first | rfl | exact (Int.toNat_of_nonneg (by omega)).symm) (by simp only [List.length_map]; omega) (fun ad => ?_)
      | refine SL_load_r (by decide) (by rfl) (rowF (by rfl)) (by first | assumption | rfl) (by rfl) ?_
      | refine SC_cond_t (by rfl) ?_
      | (refine SC_skip' (fun tm σ hE hH => ?_); refine SC.app ?_ hE hH; clear hE hH; clear tm σ)
      | fail)
    refine SC_loop (fun z : Nat × List (Nat × AObj) => [(0, .yld l), (1, .ptr a 0 0), (2, .ptr b 0 0), (8, ra), (9, .s (.int .i64 xs.length)), (10, .s (.int .i64 k)), (4, .s (.int .i64 k)), (15, x), (16, .s (.int .i64 rs[k].length)), (17, .s (.int .i64 z.1))]) (fun z => (b, .cells 3 1 true [[.s (.int .i64 i)]]) :: (a, .cells 22 1 true [[ra]]) :: (Hx ++ (l, .loop lp) :: z.2)) (fun _ => [])
      (fun z => z.1 ≤ rs[k].length ∧ Inv (evU rs i k ++ evR k i (rs[k].take z.1)) z.2 ∧ ∀ p ∈ z.2, B.next ≤ p.1 ∨ p.1 ∈ l :: H0.map (·.1)) (fun z => rs[k].length - z.1) (0, Hk)
      ⟨by simp, by rw [show evR k i (rs[k].take 0) = [] from rfl, List.append_nil]; exact hInvk, hBk⟩ ⟨rfl, rfl, rfl, rfl, rfl, rfl, rfl, rfl, rfl, rfl, trivial⟩ (.refl _) hndk rfl ?_
    rintro ⟨j, Hc⟩ ⟨hj, hInv, hBc⟩
    dsimp only at hj hInv hBc ⊢
    by_cases hjlt : j < rs[k].length
    · have hrow : (rs[k].map cells3)[j]? = some (cells3 rs[k][j]) := by rw [List.getElem?_map, List.getElem?_eq_getElem hjlt]; rfl
      have hgj := hg rs[k] (List.getElem_mem hlt) rs[k][j] (List.getElem_mem hjlt)
      have hpre := ev_pre hlt hjlt i
      have hp1 : rs[k][j].w = i → (evU rs i k ++ evR k i (rs[k].take j)) ++ [⟨k, rs[k][j].b, rs[k][j].p, true⟩] <+: evU rs i rs.length := fun e => by rw [ev1_w e] at hpre; exact hpre
      have hp2 : rs[k][j].w ≠ i → rs[k][j].b = i → (evU rs i k ++ evR k i (rs[k].take j)) ++ [⟨k, rs[k][j].w, 2 - rs[k][j].p, false⟩] <+: evU rs i rs.length := fun e e' => by rw [ev1_b e e'] at hpre; exact hpre
      have hnx := evR_next hjlt k i
      have hMk : ∀ id ∈ l :: Hc.map (·.1), (B.next ≤ id ∨ id ∈ l :: H0.map (·.1)) ∧ id ∈ ((l, AObj.loop lp) :: Hc).map (·.1) := fun id hid => by
        refine ⟨?_, hid⟩
        rcases List.mem_cons.1 hid with rfl | hid
        · exact .inr List.mem_cons_self
        · obtain ⟨p, hp, rfl⟩ := List.mem_map.1 hid
          exact hBc p hp
      repeat' (first
        | (refine SL_yield2 (Hr := _ :: _ :: _ :: Hx) (H0 := _ :: Hc) (Hx := Hx) (M := l :: Hc.map (·.1)) (by decide) (by rfl) (by rfl) (hr _ ⟨k, rs[k][j].w, 2 - rs[k][j].p, false⟩ Hc (hp2 (by assumption) (by assumption)) hInv) (fun p hp => List.mem_cons_of_mem _ (List.mem_cons_of_mem _ (List.mem_cons_of_mem _ hp))) hxn hMk ?_; rintro _ _ hBn ⟨rfl, Hd, rfl, hInv'⟩; simp only [List.cons_append, List.nil_append])
        | (refine SL_yield2 (Hr := _ :: _ :: _ :: Hx) (H0 := _ :: Hc) (Hx := Hx) (M := l :: Hc.map (·.1)) (by decide) (by rfl) (by rfl) (hr _ ⟨k, rs[k][j].b, rs[k][j].p, true⟩ Hc (hp1 (by assumption)) hInv) (fun p hp => List.mem_cons_of_mem _ (List.mem_cons_of_mem _ (List.mem_cons_of_mem _ hp))) hxn hMk ?_; rintro _ _ hBn ⟨rfl, Hd, rfl, hInv'⟩; simp only [List.cons_append, List.nil_append])
        | refine SL_build (by decide) (by rfl) (build73 _ _ _) ?_
        | refine SC_seq ?_
        | refine SC_block ?_
        | refine SC_region ?_
        | refine SL_seq ?_
        | refine SL_run (by rfl) (by rfl) ?_
        | refine SL_not (by rfl) (by rfl) (by rfl) (by decide) ?_
        | refine SL_move (by decide) (by rfl) ?_
        | refine SL_assign (by decide) (by rfl) ?_
        | refine SL_pick_t (by decide) (by rfl) (by rfl) ?_
        | refine SL_pick_f (by decide) (by rfl) (by rfl) ?_
        | refine SL_not_op (by decide) (by rfl) ?_
        | refine SL_add (by decide) (by rfl) (by rfl) (by omega) (by omega) ?_
        | refine SL_sub (by decide) (by rfl) (by rfl) (by omega) (by omega) ?_
        | (refine SL_lss (by decide) (by rfl) (by rfl) (fun hT => ?_) (fun hT => ?_) <;> first | (exfalso; omega) | skip)
        | (refine SL_eql (by decide) (by rfl) (by rfl) (fun hT => ?_) (fun hT => ?_) <;> first | (exfalso; omega) | skip)
        | (refine SL_neq (by decide) (by rfl) (by rfl) (fun hT => ?_) (fun hT => ?_) <;> first | (exfalso; omega) | skip)
        | refine SL_fieldAddr (by decide) (by rfl) (fldF (by rfl)) ?_
        | refine SL_indexAddr_v (by decide) (by rfl) (by rfl) (by assumption) (slF (by rfl)) _ (by first | rfl | exact (Int.toNat_of_nonneg (by omega)).symm) (by simp only [List.length_map]; omega) (fun ad => ?_)
        | refine SL_load_rr (by decide) (by rfl) (rowF (by rfl)) (by first | assumption | rfl) (Nat.le_of_ble_eq_true (by rfl)) (by first | exact mk3 _ | rfl) ?_
        | refine SL_load_o (by decide) (by rfl) (by repeat (first | exact .head _ | refine .tail _ ?_)) (rowF (by rfl)) (by first | assumption | rfl) (by rfl) ?_
        | refine SL_store_box (by rfl) (by rfl) (by first | exact cells_3 _ _ _ | rfl) (by repeat (first | exact .head | apply Upd.tail)) (by first | exact .inl (by assumption) | exact .inr (by simp)) (by rfl) (szF (by rfl)) (by rfl) ?_
        | refine SL_alloc (by decide) (zeroF (by rfl)) (fun id hid => ?_)
        | refine SC_cond_t (by rfl) ?_
        | refine SC_cond_f (by rfl) ?_
        | (refine SC_skip' (fun tm σ hE hH => ?_); refine SC.app ?_ hE hH; clear hE hH; clear tm σ)
        | fail)
      all_goals first
        | exact SL_nil fun tm σ hE hH => ⟨(j + 1, Hd), by show rs[k].length - (j + 1) < rs[k].length - j; omega, ⟨by show j + 1 ≤ rs[k].length; omega, by dsimp only; rw [hnx, ev1_w (by assumption), ← List.append_assoc]; exact hInv', fun p hp => hBn p (List.mem_cons_of_mem _ hp)⟩, tm, σ, rfl, hE.sub ⟨rfl, rfl, rfl, rfl, rfl, rfl, rfl, rfl, rfl, rfl, trivial⟩, hH.sub (.of_mem fun p hp => List.mem_cons_of_mem _ hp) (List.nodup_cons.1 hH.nodup).2⟩
        | exact SL_nil fun tm σ hE hH => ⟨(j + 1, Hd), by show rs[k].length - (j + 1) < rs[k].length - j; omega, ⟨by show j + 1 ≤ rs[k].length; omega, by dsimp only; rw [hnx, ev1_b (by assumption) (by assumption), ← List.append_assoc]; exact hInv', fun p hp => hBn p (List.mem_cons_of_mem _ hp)⟩, tm, σ, rfl, hE.sub ⟨rfl, rfl, rfl, rfl, rfl, rfl, rfl, rfl, rfl, rfl, trivial⟩, hH.sub (.of_mem fun p hp => List.mem_cons_of_mem _ hp) (List.nodup_cons.1 hH.nodup).2⟩
        | exact SL_nil fun tm σ hE hH => ⟨(j + 1, Hc), by show rs[k].length - (j + 1) < rs[k].length - j; omega, ⟨by show j + 1 ≤ rs[k].length; omega, by dsimp only; rw [hnx, ev1_n (by assumption) (by assumption), List.append_nil]; exact hInv, hBc⟩, tm, σ, rfl, hE.sub ⟨rfl, rfl, rfl, rfl, rfl, rfl, rfl, rfl, rfl, rfl, trivial⟩, hH.sub (.of_mem fun p hp => List.mem_cons_of_mem _ hp) (List.nodup_cons.1 hH.nodup).2⟩
    · obtain rfl : j = rs[k].length := by omega
      rw [List.take_length, ← evU_next hlt] at hInv
      repeat' (first
        | refine SC_seq ?_
        | refine SC_region ?_
        | refine SL_seq ?_
        | refine SL_move (by decide) (by rfl) ?_
        | refine SL_add (by decide) (by rfl) (by rfl) (by omega) (by omega) ?_
        | (refine SL_lss (by decide) (by rfl) (by rfl) (fun hT => ?_) (fun hT => ?_) <;> first | (exfalso; omega) | skip)
        | refine SC_cond_f (by rfl) ?_
        | (refine SC_exit (fun tm σ hE hH => ?_); refine SC.app ?_ hE hH; clear hE hH; clear tm σ)
        | fail)
      refine SL_nil fun tm σ hE hH => ⟨(k + 1, Hc), by show rs.length - (k + 1) < rs.length - k; omega, ⟨by show k + 1 ≤ rs.length; omega, hInv, hBc⟩, tm, σ, rfl, hE.sub ⟨rfl, rfl, rfl, rfl, rfl, rfl, trivial⟩, hH⟩
  · obtain rfl : k = rs.length := by omega
    repeat' (first
      | refine SC_seq ?_
      | refine SC_region ?_
      | refine SL_seq ?_
      | (refine SL_lss (by decide) (by rfl) (by rfl) (fun hT => ?_) (fun hT => ?_) <;> first | (exfalso; omega) | skip)
      | refine SC_cond_f (by rfl) ?_
      | fail)
    refine SC_exit (fun tm σ hE hH => ?_)
    have hn := (List.nodup_cons.1 (List.nodup_cons.1 hH.nodup).2).2
    have hn := (List.nodup_append.1 (by rw [List.map_append] at hn; exact hn)).2.1
    refine PostW.intro (vs := []) (Hn := (l, .loop lp) :: Hk) (.inl rfl) hE hH (by rfl) (.of_mem fun p hp => List.mem_cons_of_mem _ (List.mem_cons_of_mem _ (List.mem_append_right _ hp))) hn (fun p hp => ?_) ⟨Hk, rfl, hInvk⟩
    rcases List.mem_cons.1 hp with rfl | hp
    · exact .inl List.mem_cons_self
    · rcases hBk p hp with h1 | h1
      · exact .inr h1
      · exact .inl h1
end Go.Proofs.Ytldckcopeiginaa
/- The field for the next round, as data: what the games of a player come to. -/
namespace Go.Proofs.Ytldckcopeiginaa
open Go Go.Ab
def wN (es : List Ev) : Int := ((es.filter fun e => decide (0 ≤ e.o) && e.c).length : Nat)
def bN (es : List Ev) : Int := ((es.filter fun e => decide (0 ≤ e.o) && !e.c).length : Nat)
def lN (es : List Ev) : Int := es.foldl (fun a e => if e.o < 0 then a else if e.c then 1 else 2) 0
def yN (es : List Ev) : Bool := es.any fun e => decide (e.o < 0)
def MetOf (l : List Int) (es : List Ev) : Prop := l.Pairwise (· < ·) ∧ ∀ x, x ∈ l ↔ ∃ e ∈ es, 0 ≤ e.o ∧ e.o = x
def entOf (nm : ByteArray) (ra sc : Int) (es : List Ev) (met : List Int) : Ent := ⟨nm, ra, sc, wN es, bN es, lN es, yN es, met⟩
theorem wN_bd (es : List Ev) : 0 ≤ wN es ∧ wN es ≤ es.length := by
  unfold wN
  have := List.length_filter_le (fun e : Ev => decide (0 ≤ e.o) && e.c) es
  omega
theorem bN_bd (es : List Ev) : 0 ≤ bN es ∧ bN es ≤ es.length := by
  unfold bN
  have := List.length_filter_le (fun e : Ev => decide (0 ≤ e.o) && !e.c) es
  omega
section
variable {nm : ByteArray} {ra sc : Int} {es : List Ev} {met : List Int} {k o p : Int}
theorem ent_bye {c : Bool} (h : o < 0) : entOf nm ra sc (es ++ [⟨k, o, p, c⟩]) met = { entOf nm ra sc es met with bye := true } := by
  have h1 : ¬ 0 ≤ o := by omega
  unfold entOf wN bN lN yN
  simp [List.filter_append, h, h1]
theorem ent_w (h : 0 ≤ o) : entOf nm ra sc (es ++ [⟨k, o, p, true⟩]) met = { entOf nm ra sc es met with whites := wN es + 1, last := 1 } := by
  have h1 : ¬ o < 0 := by omega
  unfold entOf wN bN lN yN
  simp [List.filter_append, h, h1]
theorem ent_b (h : 0 ≤ o) : entOf nm ra sc (es ++ [⟨k, o, p, false⟩]) met = { entOf nm ra sc es met with blacks := bN es + 1, last := 2 } := by
  have h1 : ¬ o < 0 := by omega
  unfold entOf wN bN lN yN
  simp [List.filter_append, h, h1]
theorem met_bye {c : Bool} (hm : MetOf met es) (h : o < 0) : MetOf met (es ++ [⟨k, o, p, c⟩]) := ⟨hm.1, fun x => by
  rw [hm.2]
  constructor
  · rintro ⟨e, he, h2⟩; exact ⟨e, List.mem_append_left _ he, h2⟩
  · rintro ⟨e, he, h2, h3⟩
    rcases List.mem_append.1 he with he | he
    · exact ⟨e, he, h2, h3⟩
    · rw [List.mem_singleton] at he; subst he; simp only at h2; omega⟩
theorem met_in {c : Bool} (hm : MetOf met es) (hi : o ∈ met) : MetOf met (es ++ [⟨k, o, p, c⟩]) := ⟨hm.1, fun x => by
  constructor
  · intro hx
    obtain ⟨e, he, h2⟩ := (hm.2 x).1 hx
    exact ⟨e, List.mem_append_left _ he, h2⟩
  · rintro ⟨e, he, h2, h3⟩
    rcases List.mem_append.1 he with he | he
    · exact (hm.2 x).2 ⟨e, he, h2, h3⟩
    · rw [List.mem_singleton] at he; subst he; simp only at h3; subst h3; exact hi⟩
theorem ins_mem {l : List Int} {q : Nat} {y x : Int} : x ∈ ins l q y ↔ x = y ∨ x ∈ l := by
  unfold ins
  rw [List.mem_append, List.mem_cons]
  constructor
  · rintro (h | h | h)
    · exact .inr (List.mem_of_mem_take h)
    · exact .inl h
    · exact .inr (List.mem_of_mem_drop h)
  · rintro (h | h)
    · exact .inr (.inl h)
    · rw [← List.take_append_drop q l, List.mem_append] at h
      exact h.elim .inl (fun h => .inr (.inr h))
theorem ins_rise {l : List Int} {q : Nat} {y : Int} (hr : l.Pairwise (· < ·)) (hp : Pos l y q) (hy : y ∉ l) : (ins l q y).Pairwise (· < ·) := by
  obtain ⟨h1, h2, h3⟩ := hp
  unfold ins
  have hlt : ∀ a ∈ l.take q, a < y := fun a ha => by
    obtain ⟨i, hi, rfl⟩ := List.getElem_of_mem ha
    rw [List.length_take] at hi
    rw [List.getElem_take]
    exact h2 i (by omega) (by omega)
  have hgt : ∀ a ∈ l.drop q, y < a := fun a ha => by
    have hin := List.mem_of_mem_drop ha
    obtain ⟨i, hi, rfl⟩ := List.getElem_of_mem ha
    rw [List.length_drop] at hi
    rw [List.getElem_drop] at hin ⊢
    have := h3 (q + i) (by omega) (by omega)
    have : y ≠ l[q + i] := fun e => hy (e ▸ hin)
    omega
  rw [List.pairwise_append, List.pairwise_cons]
  have hr' := hr
  rw [← List.take_append_drop q l, List.pairwise_append] at hr'
  exact ⟨hr'.1, ⟨hgt, hr'.2.1⟩, fun a ha b hb => by
    rcases List.mem_cons.1 hb with rfl | hb
    · exact hlt a ha
    · exact hr'.2.2 a ha b hb⟩
theorem met_ins {c : Bool} {q : Nat} (hm : MetOf met es) (h : 0 ≤ o) (hi : o ∉ met) (hp : Pos met o q) : MetOf (ins met q o) (es ++ [⟨k, o, p, c⟩]) := ⟨ins_rise hm.1 hp hi, fun x => by
  rw [ins_mem, hm.2]
  constructor
  · rintro (rfl | ⟨e, he, h2⟩)
    · exact ⟨_, List.mem_append_right _ List.mem_cons_self, h, rfl⟩
    · exact ⟨e, List.mem_append_left _ he, h2⟩
  · rintro ⟨e, he, h2, h3⟩
    rcases List.mem_append.1 he with he | he
    · exact .inr ⟨e, he, h2, h3⟩
    · rw [List.mem_singleton] at he; subst he; exact .inl h3.symm⟩
end
inductive MH : AV → List Int → List (Nat × AObj) → Prop
  | nil : MH (.s (.slice none 0 0)) [] []
  | own {o : Nat} {met : List Int} {n : Nat} (hn : met.length = n) (h : 0 < n) : MH (.sl o 0 n none) met [(o, .cells 3 1 false (ints met))]
theorem MH.slh {m : AV} {met : List Int} {Hm : List (Nat × AObj)} (h : MH m met Hm) : SlH Hm 1 m (ints met) := by
  cases h with
  | nil => exact .v .nil
  | own hn h => exact .o (.head _) (by rw [ints_len]; exact hn)
theorem MH.cell {m : AV} {met : List Int} {Hm : List (Nat × AObj)} (h : MH m met Hm) : isCell m = true := by cases h <;> rfl
def InvF (x12 : Nat) (nm : ByteArray) (ra sc : Int) (es : List Ev) (H : List (Nat × AObj)) : Prop :=
  ∃ met m Hm, MetOf met es ∧ met.length ≤ es.length ∧ MH m met Hm ∧ H = (x12, .cells 54 8 true [enRow (entOf nm ra sc es met) m]) :: Hm
theorem metOf_nil : MetOf [] [] := ⟨.nil, fun x => by simp⟩
theorem blOf {g : FuncId} (h : (Try.prog.funcs[g]?).map (·.body.isNone) = some false) : bodyless Try.prog (.s (.func (.func g) #[] #[])) = false := by
  cases hp : Try.prog.funcs[g]? with
  | none => simp only [bodyless, hp]
  | some fn => rw [hp] at h; simp at h; simp [bodyless, hp, h]
def strs (l : List ByteArray) : List (List AV) := l.map fun s => [AV.s (.string s)]
theorem strs_len (l : List ByteArray) : (strs l).length = l.length := List.length_map _
theorem strs_get (l : List ByteArray) {i : Nat} (h : i < l.length) : (strs l)[i]? = some [.s (.string l[i])] := by simp [strs, h]
theorem build54 (s : ByteArray) (a b : Int) : effBuild Try.prog 54 [(0, .s (.string s)), (1, .s (.int .i64 a)), (2, .s (.int .i64 b))] = some (.s (.agg #[.string s, .int .i64 a, .int .i64 b, .int .i64 0, .int .i64 0, .int .i64 0, .bool false, .slice none 0 0])) := by kernel_rfl
theorem ent_0 (nm : ByteArray) (ra sc : Int) : enRow (entOf nm ra sc [] []) (.s (.slice none 0 0)) = [.s (.string nm), .s (.int .i64 ra), .s (.int .i64 sc), .s (.int .i64 0), .s (.int .i64 0), .s (.int .i64 0), .s (.bool false), .s (.slice none 0 0)] := rfl
theorem set1 {es : Nat} {z : List AV} {v : AV} {cs : List AV} (hc : cellsOf v = cs) (hl : cs.length = es) : setRows es [z] [(0, v)] = some [cs] := by
  subst hc
  simp [setRows, hl]
def MetIn (H : List (Nat × AObj)) (m : AV) (met : List Int) : Prop := (m = .s (.slice none 0 0) ∧ met = []) ∨ ∃ o, m = .sl o 0 met.length none ∧ (o, AObj.cells 3 1 false (ints met)) ∈ H
theorem MetIn.mono {H H' : List (Nat × AObj)} {m : AV} {met : List Int} (h : MetIn H m met) (hs : ∀ p ∈ H, p ∈ H') : MetIn H' m met := h.imp id fun ⟨o, h1, h2⟩ => ⟨o, h1, hs _ h2⟩
theorem MH.mem {m : AV} {met : List Int} {Hm : List (Nat × AObj)} (h : MH m met Hm) : MetIn Hm m met := by
  cases h with
  | nil => exact .inl ⟨rfl, rfl⟩
  | own hn h => subst hn; exact .inr ⟨_, rfl, .head _⟩
inductive OutI : List Ent → AV → List (Nat × AObj) → Prop
  | nil : OutI [] (.s (.slice none 0 0)) []
  | own {l : List Ent} {o n : Nat} {ms : List AV} {Hm : List (Nat × AObj)} (hn : l.length = n) (h0 : 0 < n) (hl : ms.length = l.length) (hm : ∀ (i : Nat) (h : i < l.length) (h' : i < ms.length), MetIn Hm ms[i] l[i].met) : OutI l (.sl o 0 n none) ((o, .cells 54 8 false (List.zipWith enRow l ms)) :: Hm)
theorem zip_snoc {l : List Ent} {ms : List AV} (h : ms.length = l.length) (e : Ent) (m : AV) : List.zipWith enRow (l ++ [e]) (ms ++ [m]) = List.zipWith enRow l ms ++ [enRow e m] := by
  rw [List.zipWith_append h.symm]; rfl
theorem mets_snoc {l : List Ent} {ms : List AV} {Hm Hn : List (Nat × AObj)} {e : Ent} {m : AV} (hl : ms.length = l.length) (hm : ∀ (i : Nat) (h : i < l.length) (h' : i < ms.length), MetIn Hm ms[i] l[i].met) (he : MetIn Hn m e.met) :
    ∀ (i : Nat) (h : i < (l ++ [e]).length) (h' : i < (ms ++ [m]).length), MetIn (Hm ++ Hn) (ms ++ [m])[i] (l ++ [e])[i].met := fun i h h' => by
  by_cases hi : i < l.length
  · rw [List.getElem_append_left hi, List.getElem_append_left (by omega)]
    exact (hm i hi (by omega)).mono fun p hp => List.mem_append_left _ hp
  · have e1 : i = l.length := by simp at h; omega
    subst e1
    have e2 : (ms ++ [m])[l.length] = m := by simp [← hl]
    have e3 : (l ++ [e])[l.length] = e := by simp
    rw [e2, e3]
    exact he.mono fun p hp => List.mem_append_right _ hp
def FieldOf (names : List ByteArray) (ratings : List Int) (rs : List (List Sc)) (l : List Ent) (k : Nat) : Prop :=
  l.length = k ∧ ∀ (i : Nat) (h : i < l.length) (h1 : i < names.length) (h2 : i < ratings.length), ∃ met, MetOf met (evU rs i rs.length) ∧ met.length ≤ 1000 ∧ l[i] = entOf names[i] ratings[i] (sumT rs i) (evU rs i rs.length) met
theorem FieldOf.next {names : List ByteArray} {ratings : List Int} {rs : List (List Sc)} {l : List Ent} {k : Nat} (h : FieldOf names ratings rs l k) (h1 : k < names.length) (h2 : k < ratings.length) {met : List Int} (hm : MetOf met (evU rs k rs.length)) (hl : met.length ≤ 1000) :
    FieldOf names ratings rs (l ++ [entOf names[k] ratings[k] (sumT rs k) (evU rs k rs.length) met]) (k + 1) := by
  obtain ⟨rfl, h3⟩ := h
  refine ⟨by simp, fun i hi hi1 hi2 => ?_⟩
  by_cases e : i < l.length
  · rw [List.getElem_append_left e]; exact h3 i e hi1 hi2
  · have e1 : i = l.length := by simp at hi; omega
    subst e1
    exact ⟨met, hm, hl, by simp⟩
def EntsIn (H : List (Nat × AObj)) (a : AV) (l : List Ent) : Prop := ∃ o ms, a = .sl o 0 l.length none ∧ (o, AObj.cells 54 8 false (List.zipWith enRow l ms)) ∈ H ∧ ms.length = l.length ∧ ∀ (i : Nat) (h : i < l.length) (h' : i < ms.length), MetIn H ms[i] l[i].met
theorem EntsIn.own {H : List (Nat × AObj)} {a : AV} {l : List Ent} (h : EntsIn H a l) {σ : AS} (hg : ∀ p ∈ H, σ.get p.1 = some p.2) : OwnE σ a l := by
  obtain ⟨o, ms, rfl, h2, h3, h4⟩ := h
  refine ⟨ms, ?_, h3, fun i hi hi' => ?_⟩
  · have := OwnS.sl (es := 8) (hg _ h2)
    rwa [List.length_zipWith, h3, Nat.min_self] at this
  · rcases h4 i hi hi' with ⟨h5, h6⟩ | ⟨o', h5, h6⟩
    · rw [h5, h6]; exact .nil
    · rw [h5]
      have := OwnS.sl (es := 1) (hg _ h6)
      rwa [ints_len] at this
theorem FieldOf.bounds {names : List ByteArray} {ratings : List Int} {rs : List (List Sc)} {l : List Ent} {k : Nat} (h : FieldOf names ratings rs l k) (h1 : k ≤ names.length) (h2 : k ≤ ratings.length) (hk : k ≤ 14) (hnb : ∀ s ∈ names, s.size ≤ 1000) :
    l.length ≤ 9223372036854775807 ∧ ∀ e ∈ l, e.met.length ≤ 9223372036854775807 ∧ e.name.size ≤ 9223372036854775807 := by
  obtain ⟨rfl, h3⟩ := h
  refine ⟨by omega, fun e he => ?_⟩
  obtain ⟨i, hi, rfl⟩ := List.getElem_of_mem he
  obtain ⟨met, _, h5, h6⟩ := h3 i hi (by omega) (by omega)
  have h8 := hnb _ (List.getElem_mem (show i < names.length by omega))
  rw [h6]
  exact ⟨by show met.length ≤ _; omega, by show names[i].size ≤ _; omega⟩
theorem OutI.ents {l : List Ent} {a : AV} {Hd : List (Nat × AObj)} (h : OutI l a Hd) (h0 : 0 < l.length) : EntsIn Hd a l ∧ ∃ o p n c, a = .sl o p n c := by
  cases h with
  | nil => cases h0
  | own hn _ hl hm =>
    subst hn
    exact ⟨⟨_, _, rfl, .head _, hl, fun i h h' => (hm i h h').mono fun p hp => List.mem_cons_of_mem _ hp⟩, _, _, _, _, rfl⟩
theorem metOf_uniq {es : List Ev} {l l' : List Int} (h : MetOf l es) (h' : MetOf l' es) : l = l' := by
  have nd : ∀ {l : List Int}, l.Pairwise (· < ·) → l.Nodup := fun hp => hp.imp (fun h => by omega)
  refine List.Perm.eq_of_pairwise (le := (· < ·)) (fun a b _ _ h1 h2 => by omega) h.1 h'.1 ((List.perm_ext_iff_of_nodup (nd h.1) (nd h'.1)).2 fun a => ?_)
  rw [h.2, h'.2]
theorem FieldOf.uniq {names : List ByteArray} {ratings : List Int} {rs : List (List Sc)} {l l' : List Ent} {k : Nat} (h1 : k ≤ names.length) (h2 : k ≤ ratings.length) (h : FieldOf names ratings rs l k) (h' : FieldOf names ratings rs l' k) : l = l' := by
  refine List.ext_getElem (h.1.trans h'.1.symm) fun i hi hi' => ?_
  have e1 := h.1
  obtain ⟨met, a1, _, a2⟩ := h.2 i hi (by omega) (by omega)
  obtain ⟨met', b1, _, b2⟩ := h'.2 i hi' (by omega) (by omega)
  rw [a2, b2, metOf_uniq a1 b1]
end Go.Proofs.Ytldckcopeiginaa
