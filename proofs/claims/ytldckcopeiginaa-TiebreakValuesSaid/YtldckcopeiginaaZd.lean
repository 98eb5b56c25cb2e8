/- What the types of the program are. -/
import Derived.Test.YtldckcopeiginaaZc
import Derived.Test.YtldckcopeiginaaRows
namespace Go.Proofs.Ytldckcopeiginaa
open Go.Ab
theorem row3 : rowN Try.prog 3 = some none := by kernel_rfl
theorem sz3 : sz Try.prog 3 = some 1 := by kernel_rfl
theorem zero3 : zeroOf Try.prog 3 = some [AV.s (Value.int IntKind.i64 (0))] := by kernel_rfl
theorem row4 : rowN Try.prog 4 = some none := by kernel_rfl
theorem sz4 : sz Try.prog 4 = some 1 := by kernel_rfl
theorem zero4 : zeroOf Try.prog 4 = some [AV.s (Value.bool false)] := by kernel_rfl
theorem row9 : rowN Try.prog 9 = some none := by kernel_rfl
theorem sz9 : sz Try.prog 9 = some 1 := by kernel_rfl
theorem zero9 : zeroOf Try.prog 9 = some [AV.s (Value.string ⟨#[]⟩)] := by kernel_rfl
theorem row22 : rowN Try.prog 22 = some none := by kernel_rfl
theorem sz22 : sz Try.prog 22 = some 1 := by kernel_rfl
theorem zero22 : zeroOf Try.prog 22 = some [AV.s (Value.slice none 0 0)] := by kernel_rfl
theorem sl22 : sliceOf Try.prog 22 = some (44, 1) := by kernel_rfl
theorem el22 : elOf Try.prog 22 = some (44, 1, 24, [AV.s (Value.slice none 0 0)]) := by kernel_rfl
theorem row25 : rowN Try.prog 25 = some none := by kernel_rfl
theorem sz25 : sz Try.prog 25 = some 1 := by kernel_rfl
theorem zero25 : zeroOf Try.prog 25 = some [AV.s (Value.slice none 0 0)] := by kernel_rfl
theorem sl25 : sliceOf Try.prog 25 = some (3, 1) := by kernel_rfl
theorem el25 : elOf Try.prog 25 = some (3, 1, 8, [AV.s (Value.int IntKind.i64 (0))]) := by kernel_rfl
theorem row32 : rowN Try.prog 32 = some none := by kernel_rfl
theorem sz32 : sz Try.prog 32 = some 1 := by kernel_rfl
theorem zero32 : zeroOf Try.prog 32 = some [AV.s (Value.int IntKind.i64 (0))] := by kernel_rfl
theorem row37 : rowN Try.prog 37 = some none := by kernel_rfl
theorem sz37 : sz Try.prog 37 = some 1 := by kernel_rfl
theorem zero37 : zeroOf Try.prog 37 = some [AV.s (Value.slice none 0 0)] := by kernel_rfl
theorem sl37 : sliceOf Try.prog 37 = some (32, 1) := by kernel_rfl
theorem el37 : elOf Try.prog 37 = some (32, 1, 8, [AV.s (Value.int IntKind.i64 (0))]) := by kernel_rfl
theorem row41 : rowN Try.prog 41 = some none := by kernel_rfl
theorem sz41 : sz Try.prog 41 = some 1 := by kernel_rfl
theorem zero41 : zeroOf Try.prog 41 = some [AV.s (Value.slice none 0 0)] := by kernel_rfl
theorem sl41 : sliceOf Try.prog 41 = some (4, 1) := by kernel_rfl
theorem el41 : elOf Try.prog 41 = some (4, 1, 1, [AV.s (Value.bool false)]) := by kernel_rfl
theorem row44 : rowN Try.prog 44 = some none := by kernel_rfl
theorem sz44 : sz Try.prog 44 = some 1 := by kernel_rfl
theorem zero44 : zeroOf Try.prog 44 = some [AV.s (Value.slice none 0 0)] := by kernel_rfl
theorem sl44 : sliceOf Try.prog 44 = some (46, 3) := by kernel_rfl
theorem el44 : elOf Try.prog 44 = some (46, 3, 24, [AV.s (Value.int IntKind.i64 (0)), AV.s (Value.int IntKind.i64 (0)), AV.s (Value.int IntKind.i64 (0))]) := by kernel_rfl
theorem row46 : rowN Try.prog 46 = some (some 3) := by kernel_rfl
theorem sz46 : sz Try.prog 46 = some 3 := by kernel_rfl
theorem zero46 : zeroOf Try.prog 46 = some [AV.s (Value.int IntKind.i64 (0)), AV.s (Value.int IntKind.i64 (0)), AV.s (Value.int IntKind.i64 (0))] := by kernel_rfl
theorem fld46f0 : fldOf Try.prog 46 0 = some 0 := by kernel_rfl
theorem fld46f1 : fldOf Try.prog 46 1 = some 1 := by kernel_rfl
theorem fld46f2 : fldOf Try.prog 46 2 = some 2 := by kernel_rfl
theorem row49 : rowN Try.prog 49 = some none := by kernel_rfl
theorem sz49 : sz Try.prog 49 = some 1 := by kernel_rfl
theorem zero49 : zeroOf Try.prog 49 = some [AV.s (Value.slice none 0 0)] := by kernel_rfl
theorem sl49 : sliceOf Try.prog 49 = some (9, 1) := by kernel_rfl
theorem el49 : elOf Try.prog 49 = some (9, 1, 16, [AV.s (Value.string ⟨#[]⟩)]) := by kernel_rfl
theorem row50 : rowN Try.prog 50 = some none := by kernel_rfl
theorem sz50 : sz Try.prog 50 = some 1 := by kernel_rfl
theorem zero50 : zeroOf Try.prog 50 = some [AV.s (Value.slice none 0 0)] := by kernel_rfl
theorem sl50 : sliceOf Try.prog 50 = some (54, 8) := by kernel_rfl
theorem el50 : elOf Try.prog 50 = some (54, 8, 88, [AV.s (Value.string ⟨#[]⟩), AV.s (Value.int IntKind.i64 (0)), AV.s (Value.int IntKind.i64 (0)), AV.s (Value.int IntKind.i64 (0)), AV.s (Value.int IntKind.i64 (0)), AV.s (Value.int IntKind.i64 (0)), AV.s (Value.bool false), AV.s (Value.slice none 0 0)]) := by kernel_rfl
theorem row54 : rowN Try.prog 54 = some (some 8) := by kernel_rfl
theorem sz54 : sz Try.prog 54 = some 8 := by kernel_rfl
theorem zero54 : zeroOf Try.prog 54 = some [AV.s (Value.string ⟨#[]⟩), AV.s (Value.int IntKind.i64 (0)), AV.s (Value.int IntKind.i64 (0)), AV.s (Value.int IntKind.i64 (0)), AV.s (Value.int IntKind.i64 (0)), AV.s (Value.int IntKind.i64 (0)), AV.s (Value.bool false), AV.s (Value.slice none 0 0)] := by kernel_rfl
theorem fld54f0 : fldOf Try.prog 54 0 = some 0 := by kernel_rfl
theorem fld54f1 : fldOf Try.prog 54 1 = some 1 := by kernel_rfl
theorem fld54f2 : fldOf Try.prog 54 2 = some 2 := by kernel_rfl
theorem fld54f3 : fldOf Try.prog 54 3 = some 3 := by kernel_rfl
theorem fld54f4 : fldOf Try.prog 54 4 = some 4 := by kernel_rfl
theorem fld54f5 : fldOf Try.prog 54 5 = some 5 := by kernel_rfl
theorem fld54f6 : fldOf Try.prog 54 6 = some 6 := by kernel_rfl
theorem fld54f7 : fldOf Try.prog 54 7 = some 7 := by kernel_rfl
theorem row64 : rowN Try.prog 64 = some none := by kernel_rfl
theorem sz64 : sz Try.prog 64 = some 1 := by kernel_rfl
theorem zero64 : zeroOf Try.prog 64 = some [AV.s (Value.slice none 0 0)] := by kernel_rfl
theorem sl64 : sliceOf Try.prog 64 = some (25, 1) := by kernel_rfl
theorem el64 : elOf Try.prog 64 = some (25, 1, 24, [AV.s (Value.slice none 0 0)]) := by kernel_rfl
theorem row73 : rowN Try.prog 73 = some (some 3) := by kernel_rfl
theorem sz73 : sz Try.prog 73 = some 3 := by kernel_rfl
theorem zero73 : zeroOf Try.prog 73 = some [AV.s (Value.int IntKind.i64 (0)), AV.s (Value.int IntKind.i64 (0)), AV.s (Value.bool false)] := by kernel_rfl
theorem fld73f0 : fldOf Try.prog 73 0 = some 0 := by kernel_rfl
theorem fld73f1 : fldOf Try.prog 73 1 = some 1 := by kernel_rfl
theorem fld73f2 : fldOf Try.prog 73 2 = some 2 := by kernel_rfl
theorem row80 : rowN Try.prog 80 = some (some 2) := by kernel_rfl
theorem sz80 : sz Try.prog 80 = some 2 := by kernel_rfl
theorem zero80 : zeroOf Try.prog 80 = some [AV.s (Value.int IntKind.i64 (0)), AV.s (Value.int IntKind.i64 (0))] := by kernel_rfl
theorem arr80 : arrOf Try.prog 80 = some (2, 3, 1) := by kernel_rfl
theorem row81 : rowN Try.prog 81 = some none := by kernel_rfl
theorem sz81 : sz Try.prog 81 = some 1 := by kernel_rfl
theorem zero81 : zeroOf Try.prog 81 = some [AV.s (Value.nilFunc)] := by kernel_rfl
theorem row82 : rowN Try.prog 82 = some none := by kernel_rfl
theorem sz82 : sz Try.prog 82 = some 1 := by kernel_rfl
theorem zero82 : zeroOf Try.prog 82 = some [AV.s (Value.nilFunc)] := by kernel_rfl
theorem row84 : rowN Try.prog 84 = some none := by kernel_rfl
theorem sz84 : sz Try.prog 84 = some 1 := by kernel_rfl
theorem zero84 : zeroOf Try.prog 84 = some [AV.s (Value.nilFunc)] := by kernel_rfl
theorem row85 : rowN Try.prog 85 = some (some 8) := by kernel_rfl
theorem sz85 : sz Try.prog 85 = some 8 := by kernel_rfl
theorem zero85 : zeroOf Try.prog 85 = some [AV.s (Value.nilFunc), AV.s (Value.nilFunc), AV.s (Value.nilFunc), AV.s (Value.nilFunc), AV.s (Value.nilFunc), AV.s (Value.nilFunc), AV.s (Value.nilFunc), AV.s (Value.nilFunc)] := by kernel_rfl
theorem arr85 : arrOf Try.prog 85 = some (8, 84, 1) := by kernel_rfl
theorem row107 : rowN Try.prog 107 = some none := by kernel_rfl
theorem sz107 : sz Try.prog 107 = some 1 := by kernel_rfl
theorem zero107 : zeroOf Try.prog 107 = some [AV.s (Value.int IntKind.u64 (0))] := by kernel_rfl
theorem bd3 : (Try.prog.funcs[3]?).map (·.body.isNone) = some false := by rw [Try.func3]; rfl
theorem bd4 : (Try.prog.funcs[4]?).map (·.body.isNone) = some false := by rw [Try.func4]; rfl
theorem bd5 : (Try.prog.funcs[5]?).map (·.body.isNone) = some false := by rw [Try.func5]; rfl
theorem bd6 : (Try.prog.funcs[6]?).map (·.body.isNone) = some false := by rw [Try.func6]; rfl
theorem bd7 : (Try.prog.funcs[7]?).map (·.body.isNone) = some false := by rw [Try.func7]; rfl
theorem bd8 : (Try.prog.funcs[8]?).map (·.body.isNone) = some false := by rw [Try.func8]; rfl
theorem bd9 : (Try.prog.funcs[9]?).map (·.body.isNone) = some false := by rw [Try.func9]; rfl
theorem bd10 : (Try.prog.funcs[10]?).map (·.body.isNone) = some false := by rw [Try.func10]; rfl
theorem bd11 : (Try.prog.funcs[11]?).map (·.body.isNone) = some false := by rw [Try.func11]; rfl
theorem bd12 : (Try.prog.funcs[12]?).map (·.body.isNone) = some false := by rw [Try.func12]; rfl
theorem bd13 : (Try.prog.funcs[13]?).map (·.body.isNone) = some false := by rw [Try.func13]; rfl
theorem bd14 : (Try.prog.funcs[14]?).map (·.body.isNone) = some false := by rw [Try.func14]; rfl
theorem bd15 : (Try.prog.funcs[15]?).map (·.body.isNone) = some false := by rw [Try.func15]; rfl
theorem bd16 : (Try.prog.funcs[16]?).map (·.body.isNone) = some false := by rw [Try.func16]; rfl
theorem bd17 : (Try.prog.funcs[17]?).map (·.body.isNone) = some false := by rw [Try.func17]; rfl
theorem bd18 : (Try.prog.funcs[18]?).map (·.body.isNone) = some false := by rw [Try.func18]; rfl
theorem bd19 : (Try.prog.funcs[19]?).map (·.body.isNone) = some false := by rw [Try.func19]; rfl
theorem bd20 : (Try.prog.funcs[20]?).map (·.body.isNone) = some false := by rw [Try.func20]; rfl
theorem bd21 : (Try.prog.funcs[21]?).map (·.body.isNone) = some false := by rw [Try.func21]; rfl
theorem bd22 : (Try.prog.funcs[22]?).map (·.body.isNone) = some false := by rw [Try.func22]; rfl
theorem bd23 : (Try.prog.funcs[23]?).map (·.body.isNone) = some false := by rw [Try.func23]; rfl
theorem bd24 : (Try.prog.funcs[24]?).map (·.body.isNone) = some false := by rw [Try.func24]; rfl
theorem bd25 : (Try.prog.funcs[25]?).map (·.body.isNone) = some false := by rw [Try.func25]; rfl
theorem bd26 : (Try.prog.funcs[26]?).map (·.body.isNone) = some false := by rw [Try.func26]; rfl
theorem bd27 : (Try.prog.funcs[27]?).map (·.body.isNone) = some false := by rw [Try.func27]; rfl
theorem bd28 : (Try.prog.funcs[28]?).map (·.body.isNone) = some false := by rw [Try.func28]; rfl
theorem bd29 : (Try.prog.funcs[29]?).map (·.body.isNone) = some false := by rw [Try.func29]; rfl
theorem bd30 : (Try.prog.funcs[30]?).map (·.body.isNone) = some false := by rw [Try.func30]; rfl
theorem bd31 : (Try.prog.funcs[31]?).map (·.body.isNone) = some false := by rw [Try.func31]; rfl
theorem bd32 : (Try.prog.funcs[32]?).map (·.body.isNone) = some false := by rw [Try.func32]; rfl
theorem bd33 : (Try.prog.funcs[33]?).map (·.body.isNone) = some false := by rw [Try.func33]; rfl
theorem bd34 : (Try.prog.funcs[34]?).map (·.body.isNone) = some false := by rw [Try.func34]; rfl
theorem bd35 : (Try.prog.funcs[35]?).map (·.body.isNone) = some false := by rw [Try.func35]; rfl
theorem bd36 : (Try.prog.funcs[36]?).map (·.body.isNone) = some false := by rw [Try.func36]; rfl
theorem bd37 : (Try.prog.funcs[37]?).map (·.body.isNone) = some false := by rw [Try.func37]; rfl
theorem bd38 : (Try.prog.funcs[38]?).map (·.body.isNone) = some false := by rw [Try.func38]; rfl
theorem bd39 : (Try.prog.funcs[39]?).map (·.body.isNone) = some false := by rw [Try.func39]; rfl
theorem bd40 : (Try.prog.funcs[40]?).map (·.body.isNone) = some false := by rw [Try.func40]; rfl
theorem bd41 : (Try.prog.funcs[41]?).map (·.body.isNone) = some false := by rw [Try.func41]; rfl
theorem bd42 : (Try.prog.funcs[42]?).map (·.body.isNone) = some false := by rw [Try.func42]; rfl
theorem bd43 : (Try.prog.funcs[43]?).map (·.body.isNone) = some false := by rw [Try.func43]; rfl
theorem bd44 : (Try.prog.funcs[44]?).map (·.body.isNone) = some false := by rw [Try.func44]; rfl
theorem bd45 : (Try.prog.funcs[45]?).map (·.body.isNone) = some false := by rw [Try.func45]; rfl
theorem bd46 : (Try.prog.funcs[46]?).map (·.body.isNone) = some false := by rw [Try.func46]; rfl
theorem bd47 : (Try.prog.funcs[47]?).map (·.body.isNone) = some false := by rw [Try.func47]; rfl
theorem bd48 : (Try.prog.funcs[48]?).map (·.body.isNone) = some false := by rw [Try.func48]; rfl
theorem bd49 : (Try.prog.funcs[49]?).map (·.body.isNone) = some false := by rw [Try.func49]; rfl
theorem bd50 : (Try.prog.funcs[50]?).map (·.body.isNone) = some false := by rw [Try.func50]; rfl
theorem bd51 : (Try.prog.funcs[51]?).map (·.body.isNone) = some false := by rw [Try.func51]; rfl
theorem bd52 : (Try.prog.funcs[52]?).map (·.body.isNone) = some false := by rw [Try.func52]; rfl
theorem bd53 : (Try.prog.funcs[53]?).map (·.body.isNone) = some false := by rw [Try.func53]; rfl
theorem bd54 : (Try.prog.funcs[54]?).map (·.body.isNone) = some false := by rw [Try.func54]; rfl
theorem bd55 : (Try.prog.funcs[55]?).map (·.body.isNone) = some false := by rw [Try.func55]; rfl
theorem bd56 : (Try.prog.funcs[56]?).map (·.body.isNone) = some false := by rw [Try.func56]; rfl
theorem bd57 : (Try.prog.funcs[57]?).map (·.body.isNone) = some false := by rw [Try.func57]; rfl
theorem bd58 : (Try.prog.funcs[58]?).map (·.body.isNone) = some false := by rw [Try.func58]; rfl
theorem bd59 : (Try.prog.funcs[59]?).map (·.body.isNone) = some false := by rw [Try.func59]; rfl
set_option maxRecDepth 100000
def rowTab : List (Nat × (Option Nat)) := [(3, none), (4, none), (9, none), (22, none), (25, none), (32, none), (37, none), (41, none), (44, none), (46, (some 3)), (49, none), (50, none), (54, (some 8)), (64, none), (73, (some 3)), (80, (some 2)), (81, none), (82, none), (84, none), (85, (some 8)), (107, none)]
theorem rowF {t : Nat} {v : Option Nat} (h : fnd rowTab t = some v) : rowN Try.prog t = some v := fndF (f := rowN Try.prog) (List.forall_mem_cons.2 ⟨row3, List.forall_mem_cons.2 ⟨row4, List.forall_mem_cons.2 ⟨row9, List.forall_mem_cons.2 ⟨row22, List.forall_mem_cons.2 ⟨row25, List.forall_mem_cons.2 ⟨row32, List.forall_mem_cons.2 ⟨row37, List.forall_mem_cons.2 ⟨row41, List.forall_mem_cons.2 ⟨row44, List.forall_mem_cons.2 ⟨row46, List.forall_mem_cons.2 ⟨row49, List.forall_mem_cons.2 ⟨row50, List.forall_mem_cons.2 ⟨row54, List.forall_mem_cons.2 ⟨row64, List.forall_mem_cons.2 ⟨row73, List.forall_mem_cons.2 ⟨row80, List.forall_mem_cons.2 ⟨row81, List.forall_mem_cons.2 ⟨row82, List.forall_mem_cons.2 ⟨row84, List.forall_mem_cons.2 ⟨row85, List.forall_mem_cons.2 ⟨row107, fun _ h => absurd h (List.not_mem_nil)⟩⟩⟩⟩⟩⟩⟩⟩⟩⟩⟩⟩⟩⟩⟩⟩⟩⟩⟩⟩⟩) h
def szTab : List (Nat × (Nat)) := [(3, 1), (4, 1), (9, 1), (22, 1), (25, 1), (32, 1), (37, 1), (41, 1), (44, 1), (46, 3), (49, 1), (50, 1), (54, 8), (64, 1), (73, 3), (80, 2), (81, 1), (82, 1), (84, 1), (85, 8), (107, 1)]
theorem szF {t : Nat} {v : Nat} (h : fnd szTab t = some v) : sz Try.prog t = some v := fndF (f := sz Try.prog) (List.forall_mem_cons.2 ⟨sz3, List.forall_mem_cons.2 ⟨sz4, List.forall_mem_cons.2 ⟨sz9, List.forall_mem_cons.2 ⟨sz22, List.forall_mem_cons.2 ⟨sz25, List.forall_mem_cons.2 ⟨sz32, List.forall_mem_cons.2 ⟨sz37, List.forall_mem_cons.2 ⟨sz41, List.forall_mem_cons.2 ⟨sz44, List.forall_mem_cons.2 ⟨sz46, List.forall_mem_cons.2 ⟨sz49, List.forall_mem_cons.2 ⟨sz50, List.forall_mem_cons.2 ⟨sz54, List.forall_mem_cons.2 ⟨sz64, List.forall_mem_cons.2 ⟨sz73, List.forall_mem_cons.2 ⟨sz80, List.forall_mem_cons.2 ⟨sz81, List.forall_mem_cons.2 ⟨sz82, List.forall_mem_cons.2 ⟨sz84, List.forall_mem_cons.2 ⟨sz85, List.forall_mem_cons.2 ⟨sz107, fun _ h => absurd h (List.not_mem_nil)⟩⟩⟩⟩⟩⟩⟩⟩⟩⟩⟩⟩⟩⟩⟩⟩⟩⟩⟩⟩⟩) h
def zeroTab : List (Nat × (List AV)) := [(3, [AV.s (Value.int IntKind.i64 (0))]), (4, [AV.s (Value.bool false)]), (9, [AV.s (Value.string ⟨#[]⟩)]), (22, [AV.s (Value.slice none 0 0)]), (25, [AV.s (Value.slice none 0 0)]), (32, [AV.s (Value.int IntKind.i64 (0))]), (37, [AV.s (Value.slice none 0 0)]), (41, [AV.s (Value.slice none 0 0)]), (44, [AV.s (Value.slice none 0 0)]), (46, [AV.s (Value.int IntKind.i64 (0)), AV.s (Value.int IntKind.i64 (0)), AV.s (Value.int IntKind.i64 (0))]), (49, [AV.s (Value.slice none 0 0)]), (50, [AV.s (Value.slice none 0 0)]), (54, [AV.s (Value.string ⟨#[]⟩), AV.s (Value.int IntKind.i64 (0)), AV.s (Value.int IntKind.i64 (0)), AV.s (Value.int IntKind.i64 (0)), AV.s (Value.int IntKind.i64 (0)), AV.s (Value.int IntKind.i64 (0)), AV.s (Value.bool false), AV.s (Value.slice none 0 0)]), (64, [AV.s (Value.slice none 0 0)]), (73, [AV.s (Value.int IntKind.i64 (0)), AV.s (Value.int IntKind.i64 (0)), AV.s (Value.bool false)]), (80, [AV.s (Value.int IntKind.i64 (0)), AV.s (Value.int IntKind.i64 (0))]), (81, [AV.s (Value.nilFunc)]), (82, [AV.s (Value.nilFunc)]), (84, [AV.s (Value.nilFunc)]), (85, [AV.s (Value.nilFunc), AV.s (Value.nilFunc), AV.s (Value.nilFunc), AV.s (Value.nilFunc), AV.s (Value.nilFunc), AV.s (Value.nilFunc), AV.s (Value.nilFunc), AV.s (Value.nilFunc)]), (107, [AV.s (Value.int IntKind.u64 (0))])]
theorem zeroF {t : Nat} {v : List AV} (h : fnd zeroTab t = some v) : zeroOf Try.prog t = some v := fndF (f := zeroOf Try.prog) (List.forall_mem_cons.2 ⟨zero3, List.forall_mem_cons.2 ⟨zero4, List.forall_mem_cons.2 ⟨zero9, List.forall_mem_cons.2 ⟨zero22, List.forall_mem_cons.2 ⟨zero25, List.forall_mem_cons.2 ⟨zero32, List.forall_mem_cons.2 ⟨zero37, List.forall_mem_cons.2 ⟨zero41, List.forall_mem_cons.2 ⟨zero44, List.forall_mem_cons.2 ⟨zero46, List.forall_mem_cons.2 ⟨zero49, List.forall_mem_cons.2 ⟨zero50, List.forall_mem_cons.2 ⟨zero54, List.forall_mem_cons.2 ⟨zero64, List.forall_mem_cons.2 ⟨zero73, List.forall_mem_cons.2 ⟨zero80, List.forall_mem_cons.2 ⟨zero81, List.forall_mem_cons.2 ⟨zero82, List.forall_mem_cons.2 ⟨zero84, List.forall_mem_cons.2 ⟨zero85, List.forall_mem_cons.2 ⟨zero107, fun _ h => absurd h (List.not_mem_nil)⟩⟩⟩⟩⟩⟩⟩⟩⟩⟩⟩⟩⟩⟩⟩⟩⟩⟩⟩⟩⟩) h
def slTab : List (Nat × (TypeId × Nat)) := [(22, (44, 1)), (25, (3, 1)), (37, (32, 1)), (41, (4, 1)), (44, (46, 3)), (49, (9, 1)), (50, (54, 8)), (64, (25, 1))]
theorem slF {t : Nat} {v : TypeId × Nat} (h : fnd slTab t = some v) : sliceOf Try.prog t = some v := fndF (f := sliceOf Try.prog) (List.forall_mem_cons.2 ⟨sl22, List.forall_mem_cons.2 ⟨sl25, List.forall_mem_cons.2 ⟨sl37, List.forall_mem_cons.2 ⟨sl41, List.forall_mem_cons.2 ⟨sl44, List.forall_mem_cons.2 ⟨sl49, List.forall_mem_cons.2 ⟨sl50, List.forall_mem_cons.2 ⟨sl64, fun _ h => absurd h (List.not_mem_nil)⟩⟩⟩⟩⟩⟩⟩⟩) h
def elTab : List (Nat × (TypeId × Nat × Nat × List AV)) := [(22, (44, 1, 24, [AV.s (Value.slice none 0 0)])), (25, (3, 1, 8, [AV.s (Value.int IntKind.i64 (0))])), (37, (32, 1, 8, [AV.s (Value.int IntKind.i64 (0))])), (41, (4, 1, 1, [AV.s (Value.bool false)])), (44, (46, 3, 24, [AV.s (Value.int IntKind.i64 (0)), AV.s (Value.int IntKind.i64 (0)), AV.s (Value.int IntKind.i64 (0))])), (49, (9, 1, 16, [AV.s (Value.string ⟨#[]⟩)])), (50, (54, 8, 88, [AV.s (Value.string ⟨#[]⟩), AV.s (Value.int IntKind.i64 (0)), AV.s (Value.int IntKind.i64 (0)), AV.s (Value.int IntKind.i64 (0)), AV.s (Value.int IntKind.i64 (0)), AV.s (Value.int IntKind.i64 (0)), AV.s (Value.bool false), AV.s (Value.slice none 0 0)])), (64, (25, 1, 24, [AV.s (Value.slice none 0 0)]))]
theorem elF {t : Nat} {v : TypeId × Nat × Nat × List AV} (h : fnd elTab t = some v) : elOf Try.prog t = some v := fndF (f := elOf Try.prog) (List.forall_mem_cons.2 ⟨el22, List.forall_mem_cons.2 ⟨el25, List.forall_mem_cons.2 ⟨el37, List.forall_mem_cons.2 ⟨el41, List.forall_mem_cons.2 ⟨el44, List.forall_mem_cons.2 ⟨el49, List.forall_mem_cons.2 ⟨el50, List.forall_mem_cons.2 ⟨el64, fun _ h => absurd h (List.not_mem_nil)⟩⟩⟩⟩⟩⟩⟩⟩) h
def arrTab : List (Nat × (Nat × TypeId × Nat)) := [(80, (2, 3, 1)), (85, (8, 84, 1))]
theorem arrF {t : Nat} {v : Nat × TypeId × Nat} (h : fnd arrTab t = some v) : arrOf Try.prog t = some v := fndF (f := arrOf Try.prog) (List.forall_mem_cons.2 ⟨arr80, List.forall_mem_cons.2 ⟨arr85, fun _ h => absurd h (List.not_mem_nil)⟩⟩) h
def fldTab : List (Nat × List (Nat × Nat)) := [(46, [(0, 0), (1, 1), (2, 2)]), (54, [(0, 0), (1, 1), (2, 2), (3, 3), (4, 4), (5, 5), (6, 6), (7, 7)]), (73, [(0, 0), (1, 1), (2, 2)])]
theorem fldF {t f v : Nat} (h : fnd2 fldTab t f = some v) : fldOf Try.prog t f = some v := fnd2F (f := fldOf Try.prog) (List.forall_mem_cons.2 ⟨(show ∀ q ∈ ([(0, 0), (1, 1), (2, 2)] : List (Nat × Nat)), fldOf Try.prog 46 q.1 = some q.2 from List.forall_mem_cons.2 ⟨fld46f0, List.forall_mem_cons.2 ⟨fld46f1, List.forall_mem_cons.2 ⟨fld46f2, fun _ h => absurd h (List.not_mem_nil)⟩⟩⟩), List.forall_mem_cons.2 ⟨(show ∀ q ∈ ([(0, 0), (1, 1), (2, 2), (3, 3), (4, 4), (5, 5), (6, 6), (7, 7)] : List (Nat × Nat)), fldOf Try.prog 54 q.1 = some q.2 from List.forall_mem_cons.2 ⟨fld54f0, List.forall_mem_cons.2 ⟨fld54f1, List.forall_mem_cons.2 ⟨fld54f2, List.forall_mem_cons.2 ⟨fld54f3, List.forall_mem_cons.2 ⟨fld54f4, List.forall_mem_cons.2 ⟨fld54f5, List.forall_mem_cons.2 ⟨fld54f6, List.forall_mem_cons.2 ⟨fld54f7, fun _ h => absurd h (List.not_mem_nil)⟩⟩⟩⟩⟩⟩⟩⟩), List.forall_mem_cons.2 ⟨(show ∀ q ∈ ([(0, 0), (1, 1), (2, 2)] : List (Nat × Nat)), fldOf Try.prog 73 q.1 = some q.2 from List.forall_mem_cons.2 ⟨fld73f0, List.forall_mem_cons.2 ⟨fld73f1, List.forall_mem_cons.2 ⟨fld73f2, fun _ h => absurd h (List.not_mem_nil)⟩⟩⟩), fun _ h => absurd h (List.not_mem_nil)⟩⟩⟩) h
end Go.Proofs.Ytldckcopeiginaa
/- Rounds of games, xs lists. -/
namespace Go.Proofs.Ytldckcopeiginaa
open Go.Ab
structure Sc where
  w : Int
  b : Int
  p : Int
def cells3 (g : Sc) : List AV := [.s (.int .i64 g.w), .s (.int .i64 g.b), .s (.int .i64 g.p)]
def GV (gs : List Sc) (a : AV) : Prop := SlV 3 a (gs.map cells3)
structure RV (rs : List (List Sc)) (a : AV) (xs : List AV) : Prop where
  sl : SlV 1 a (xs.map fun x => [x])
  len : xs.length = rs.length
  at_ : ∀ (i : Nat) (h : i < rs.length) (h' : i < xs.length), GV rs[i] xs[i]
  big : rs.length ≤ 9223372036854775807
  each : ∀ gs ∈ rs, gs.length ≤ 9223372036854775807
def fewB (rs : List (List Sc)) (g : Int) : Bool := decide (∀ gs ∈ rs.take 32, (gs.length : Int) ≤ g) && decide (rs.length ≤ 31)
theorem RV.row {rs : List (List Sc)} {a : AV} {xs : List AV} (h : RV rs a xs) {k : Nat} (hk : k < rs.length) : ∃ x, (xs.map fun x => [x])[k]? = some [x] ∧ GV rs[k] x :=
  ⟨xs[k]'(by rw [h.len]; exact hk), by rw [List.getElem?_map, List.getElem?_eq_getElem (by rw [h.len]; exact hk)]; rfl, h.at_ k hk _⟩
theorem mk3 (g : Sc) : mkAgg ((List.drop 0 (cells3 g)).take 3) = .s (.agg #[.int .i64 g.w, .int .i64 g.b, .int .i64 g.p]) := rfl
theorem cells_3 (a b c : Value) : cellsOf (.s (.agg #[a, b, c])) = [.s a, .s b, .s c] := rfl
/-! ### Which rounds are valid -/
def GOk (n : Int) (g : Sc) : Prop := 0 ≤ g.w ∧ g.w < n ∧ -1 ≤ g.b ∧ g.b < n ∧ 0 ≤ g.p ∧ g.p ≤ 2
def pl (g : Sc) : List Int := if 0 ≤ g.b then [g.w, g.b] else [g.w]
def ROk (n : Int) (gs : List Sc) : Prop := (∀ g ∈ gs, GOk n g) ∧ (gs.flatMap pl).Nodup
def VOk (n : Int) (rs : List (List Sc)) : Prop := 2 ≤ n ∧ n ≤ 200 ∧ rs.length ≤ 30 ∧ ∀ gs ∈ rs, ROk n gs
noncomputable def validB (n : Int) (rs : List (List Sc)) : Bool := @decide (VOk n rs) (Classical.propDecidable _)
theorem validB_t {n : Int} {rs : List (List Sc)} (h : VOk n rs) : validB n rs = true := by unfold validB; exact @decide_eq_true _ (Classical.propDecidable _) h
theorem validB_f {n : Int} {rs : List (List Sc)} (h : ¬ VOk n rs) : validB n rs = false := by unfold validB; exact @decide_eq_false _ (Classical.propDecidable _) h
/-! ### The players that have been seen -/
def seenR (m : Nat) (ps : List Int) : List (List AV) := (List.range m).map fun (x : Nat) => [.s (.bool (decide ((x : Int) ∈ ps)))]
theorem seenR_len (m : Nat) (ps : List Int) : (seenR m ps).length = m := by simp [seenR]
theorem seenR_get (m : Nat) (ps : List Int) {i : Nat} (h : i < m) : (seenR m ps)[i]? = some [.s (.bool (decide ((i : Int) ∈ ps)))] := by
  simp [seenR, List.getElem?_range h]
theorem seenR_0 (m : Nat) : List.replicate m [AV.s (.bool false)] = seenR m [] := by
  apply List.ext_getElem?
  intro i
  by_cases h : i < m
  · rw [seenR_get m [] h, List.getElem?_replicate]; simp [h]
  · rw [List.getElem?_eq_none (by simp; omega), List.getElem?_eq_none (by rw [seenR_len]; omega)]
theorem seenR_set (m : Nat) (ps : List Int) {i : Nat} (h : i < m) (row : List AV) : (seenR m ps).set i (writeRow [row.headD uv] 0 [.s (.bool true)]) = seenR m (ps ++ [(i : Int)]) := by
  apply List.ext_getElem?
  intro j
  rw [List.getElem?_set]
  by_cases hj : j < m
  · by_cases e : i = j
    · subst e
      rw [if_pos rfl, if_pos (by rw [seenR_len]; exact h), seenR_get m _ h]
      simp [writeRow]
    · rw [if_neg e, seenR_get m _ hj, seenR_get m _ hj]
      have : (j : Int) ≠ (i : Int) := by omega
      simp [this]
  · have h1 : ¬ i = j := by omega
    rw [if_neg h1, List.getElem?_eq_none (by rw [seenR_len]; omega), List.getElem?_eq_none (by rw [seenR_len]; omega)]
theorem seenR_set' (m : Nat) (ps : List Int) {i : Nat} (h : i < m) (b : Bool) : (seenR m ps).set i (writeRow [.s (.bool b)] 0 [.s (.bool true)]) = seenR m (ps ++ [(i : Int)]) := seenR_set m ps h [.s (.bool b)]
theorem take_flat {α : Type} {gs : List Sc} {f : Sc → List α} {j : Nat} (h : j < gs.length) : (gs.take (j + 1)).flatMap f = (gs.take j).flatMap f ++ f gs[j] := by
  rw [List.take_succ_eq_append_getElem h, List.flatMap_append]; simp
/-! ### Lists of numbers -/
def ints (l : List Int) : List (List AV) := l.map fun n => [.s (.int .i64 n)]
theorem ints_len (l : List Int) : (ints l).length = l.length := by simp [ints]
theorem ints_get (l : List Int) {i : Nat} (h : i < l.length) : (ints l)[i]? = some [.s (.int .i64 l[i])] := by simp [ints, h]
theorem ints_snoc (l : List Int) (n : Int) : ints l ++ [[AV.s (.int .i64 n)]] = ints (l ++ [n]) := by simp [ints]
theorem ints_one (n : Int) : [[AV.s (.int .i64 n)]] = ints [n] := rfl
theorem ints_zero (m : Nat) : List.replicate m [AV.s (.int .i64 0)] = ints (List.replicate m 0) := by simp [ints]
end Go.Proofs.Ytldckcopeiginaa
/- What one game tells about a player: the law's points. -/
namespace Go.Proofs.Ytldckcopeiginaa
open Go.Ab
attribute [local irreducible] SC SL wpc wpl wpd wpf wpy wpn FnC
set_option maxRecDepth 100000
set_option pp.deepTerms false
set_option pp.maxSteps 900
set_option maxHeartbeats 2000000
/-- The points that a game gives a player, and whom they played: -2 where the player was not in it. -/
def pts (g : Sc) (i : Int) : Int × Int := if g.w = i then (g.p, g.b) else if g.b = i then (2 - g.p, g.w) else (0, -2)
theorem pts_w {g : Sc} {i : Int} (h : g.w = i) : pts g i = (g.p, g.b) := if_pos h
theorem pts_b {g : Sc} {i : Int} (h : g.w ≠ i) (h2 : g.b = i) : pts g i = (2 - g.p, g.w) := by unfold pts; rw [if_neg h, if_pos h2]
theorem pts_n {g : Sc} {i : Int} (h : g.w ≠ i) (h2 : g.b ≠ i) : pts g i = (0, -2) := by unfold pts; rw [if_neg h, if_neg h2]
abbrev sc (g : Sc) : AV := .s (.agg #[.int .i64 g.w, .int .i64 g.b, .int .i64 g.p])
theorem points_fn {G : Gl} (g : Sc) (i : Int) (h0 : 0 ≤ g.p) (h2 : g.p ≤ 2) (ho : G.orc 22 [sc g, .s (.int .i64 i)] = none) :
    FnC Try.prog G 22 [sc g, .s (.int .i64 i)] [] (fun v Hn => v = .s (.tuple #[.int .i64 (pts g i).1, .int .i64 (pts g i).2]) ∧ Hn = []) := by
  refine Fn_body (N := 23) ho Try.func22 rfl rfl fun B => ?_
  repeat' (first
    | refine SC_seq ?_
    | refine SC_region ?_
    | refine SL_seq ?_
    | refine SL_move (by decide) (by rfl) ?_
    | refine SL_assign (by decide) (by rfl) ?_
    | refine SL_sub (by decide) (by rfl) (by rfl) (by omega) (by omega) ?_
    | (refine SL_eql (by decide) (by rfl) (by rfl) (fun hT => ?_) (fun hT => ?_) <;> first | (exfalso; omega) | skip)
    | refine SL_fieldAddr (by decide) (by rfl) (fldF (by rfl)) ?_
    | refine SL_load_o (by decide) (by rfl) (by repeat (first | exact .head _ | refine .tail _ ?_)) (rowF (by rfl)) (by first | assumption | rfl) (by rfl) ?_
    | refine SL_box (by decide) (by rfl) (by first | exact cells_3 _ _ _ | rfl) (fun id hid => ?_)
    | refine SC_draw (by kernel_rfl) ?_
    | refine SC_cond_t (by rfl) ?_
    | refine SC_cond_f (by rfl) ?_
    | (refine SC_skip' (fun tm σ hE hH => ?_); refine SC.app ?_ hE hH; clear hE hH; clear tm σ)
    | refine SC_ret (fun tm σ hE hH => Post.intro (Hn := []) (.inr rfl) hE hH (by rfl) trivial List.nodup_nil (fun p hp => (by cases hp)) ?_))
  · refine ⟨?_, rfl⟩
    rw [pts_w (by assumption)]; rfl
  · refine ⟨?_, rfl⟩
    rw [pts_b (by assumption) (by assumption)]; rfl
  · refine ⟨?_, rfl⟩
    rw [pts_n (by assumption) (by assumption)]; rfl
end Go.Proofs.Ytldckcopeiginaa
/- The law's own Scores. -/
namespace Go.Proofs.Ytldckcopeiginaa
open Go.Ab
attribute [local irreducible] SC SL wpc wpl wpd wpf wpy wpn FnC
set_option maxRecDepth 100000
set_option pp.deepTerms false
set_option pp.maxSteps 900
set_option maxHeartbeats 2000000
/-! ### Tables -/
def tab (m : Nat) (f : Nat → Int) : List (List AV) := (List.range m).map fun x => [.s (.int .i64 (f x))]
theorem tab_len (m : Nat) (f : Nat → Int) : (tab m f).length = m := by simp [tab]
theorem tab_get (m : Nat) (f : Nat → Int) {i : Nat} (h : i < m) : (tab m f)[i]? = some [.s (.int .i64 (f i))] := by simp [tab, List.getElem?_range h]
theorem tab_congr {m : Nat} {f g : Nat → Int} (h : ∀ x, x < m → f x = g x) : tab m f = tab m g := by
  unfold tab
  exact List.map_congr_left fun x hx => by rw [h x (List.mem_range.1 hx)]
theorem tab_0 (m : Nat) : List.replicate m [AV.s (.int .i64 0)] = tab m (fun _ => 0) := by
  apply List.ext_getElem?
  intro i
  by_cases h : i < m
  · rw [tab_get m _ h, List.getElem?_replicate]; simp [h]
  · rw [List.getElem?_eq_none (by simp; omega), List.getElem?_eq_none (by rw [tab_len]; omega)]
theorem tab_set (m : Nat) (f : Nat → Int) {i : Nat} (h : i < m) (a v : Int) : (tab m f).set i (writeRow [.s (.int .i64 a)] 0 [.s (.int .i64 v)]) = tab m (fun x => if x = i then v else f x) := by
  apply List.ext_getElem?
  intro j
  rw [List.getElem?_set]
  by_cases hj : j < m
  · by_cases e : i = j
    · subst e
      rw [if_pos rfl, if_pos (by rw [tab_len]; exact h), tab_get m _ h]
      simp [writeRow]
    · rw [if_neg e, tab_get m _ hj, tab_get m _ hj, if_neg (fun x => e x.symm)]
  · have h1 : ¬ i = j := by omega
    rw [if_neg h1, List.getElem?_eq_none (by rw [tab_len]; omega), List.getElem?_eq_none (by rw [tab_len]; omega)]
/-- Below i: done; at i: under way. -/
def FI (F : Nat → Int) (i : Nat) (acc : Int) : Nat → Int := fun x => if x < i then F x else if x = i then acc else 0
theorem FI_get {m : Nat} (F : Nat → Int) (i : Nat) (acc : Int) (h : i < m) : (tab m (FI F i acc))[i]? = some [.s (.int .i64 acc)] := by
  rw [tab_get m _ h]; simp [FI]
theorem FI_set {m : Nat} (F : Nat → Int) (i : Nat) (acc v : Int) (h : i < m) : (tab m (FI F i acc)).set i (writeRow [.s (.int .i64 acc)] 0 [.s (.int .i64 v)]) = tab m (FI F i v) := by
  rw [tab_set m _ h]
  refine tab_congr fun x hx => ?_
  unfold FI
  by_cases e : x = i
  · subst e; simp
  · rw [if_neg e]; simp only [if_neg e]
theorem FI_next (F : Nat → Int) (i : Nat) (m : Nat) : tab m (FI F i (F i)) = tab m (FI F (i + 1) 0) := by
  refine tab_congr fun x _ => ?_
  unfold FI
  by_cases e : x = i
  · subst e; simp
  · by_cases e2 : x < i
    · rw [if_pos e2, if_pos (by omega)]
    · rw [if_neg e2, if_neg e, if_neg (by omega)]; simp
theorem FI_0 (F : Nat → Int) (m : Nat) : List.replicate m [AV.s (.int .i64 0)] = tab m (FI F 0 0) := by
  rw [tab_0]
  refine tab_congr fun x _ => ?_
  unfold FI; simp
theorem FI_end (F : Nat → Int) (m : Nat) (a : Int) : tab m (FI F m a) = tab m F := by
  refine tab_congr fun x hx => ?_
  unfold FI; rw [if_pos hx]
/-! ### Sums -/
def sum1 (gs : List Sc) (i : Int) : Int := (gs.map fun g => (pts g i).1).sum
def sumT (rs : List (List Sc)) (i : Int) : Int := (rs.map fun gs => sum1 gs i).sum
theorem sum1_next {gs : List Sc} {j : Nat} (h : j < gs.length) (i : Int) : sum1 (gs.take (j + 1)) i = sum1 (gs.take j) i + (pts gs[j] i).1 := by
  unfold sum1; rw [List.take_succ_eq_append_getElem h]; simp only [List.map_append, List.sum_append, List.map_cons, List.map_nil, List.sum_cons, List.sum_nil, Int.add_zero]
theorem sumT_next {rs : List (List Sc)} {j : Nat} (h : j < rs.length) (i : Int) : sumT (rs.take (j + 1)) i = sumT (rs.take j) i + sum1 rs[j] i := by
  unfold sumT; rw [List.take_succ_eq_append_getElem h]; simp only [List.map_append, List.sum_append, List.map_cons, List.map_nil, List.sum_cons, List.sum_nil, Int.add_zero]
theorem pts_bd {g : Sc} (h0 : 0 ≤ g.p) (h2 : g.p ≤ 2) (i : Int) : 0 ≤ (pts g i).1 ∧ (pts g i).1 ≤ 2 := by
  unfold pts
  split
  · exact ⟨h0, h2⟩
  · split
    · simp only; omega
    · simp
theorem sum1_bd {gs : List Sc} (h : ∀ g ∈ gs, 0 ≤ g.p ∧ g.p ≤ 2) (i : Int) : 0 ≤ sum1 gs i ∧ sum1 gs i ≤ 2 * gs.length := by
  induction gs with
  | nil => simp [sum1]
  | cons g gs ih =>
    have h1 := ih (fun g hg => h g (List.mem_cons_of_mem _ hg))
    have h2 := h g List.mem_cons_self
    have h3 := pts_bd h2.1 h2.2 i
    unfold sum1 at h1 ⊢
    simp only [List.map_cons, List.sum_cons, List.length_cons]
    omega
theorem sumT_bd {rs : List (List Sc)} (hf : ∀ gs ∈ rs, gs.length ≤ 12) (h : ∀ gs ∈ rs, ∀ g ∈ gs, 0 ≤ g.p ∧ g.p ≤ 2) (i : Int) : 0 ≤ sumT rs i ∧ sumT rs i ≤ 24 * rs.length := by
  induction rs with
  | nil => simp [sumT]
  | cons r rs ih =>
    have h1 := ih (fun g hg => hf g (List.mem_cons_of_mem _ hg)) (fun g hg => h g (List.mem_cons_of_mem _ hg))
    have h2 := sum1_bd (h r List.mem_cons_self) i
    have h3 := hf r List.mem_cons_self
    unfold sumT at h1 ⊢
    simp only [List.map_cons, List.sum_cons, List.length_cons]
    omega
theorem lawScores_fn {G : Gl} {rs : List (List Sc)} {ra : AV} {xs : List AV} (h : RV rs ra xs) (hf : ∀ gs ∈ rs, gs.length ≤ 12) {m : Nat} (hv : VOk m rs) (ho : G.orc 14 [.s (.int .i64 m), ra] = none) (ho22 : ∀ g i, G.orc 22 [sc g, .s (.int .i64 i)] = none) :
    FnC Try.prog G 14 [.s (.int .i64 m), ra] [] (fun v Hn => ∃ id, v = .sl id 0 m none ∧ Hn = [(id, .cells 3 1 true (tab m (fun x => sumT rs x)))]) := by
  have hsl := h.sl
  have hlen := h.len
  have hbig := h.big
  obtain ⟨hv1, hv2, hv3, hv4⟩ := hv
  refine Fn_body (N := 55) ho Try.func14 rfl rfl fun B => ?_
  repeat' (first
    | refine SC_seq ?_
    | refine SC_block ?_
    | refine SC_region ?_
    | refine SL_seq ?_
    | refine SL_move (by decide) (by rfl) ?_
    | refine SL_assign (by decide) (by rfl) ?_
    | refine SL_makeSlice (by decide) (by rfl) (by rfl) (elF (by rfl)) (by omega) (by omega) (by omega) (by omega) (fun id hid => ?_))
  refine SC_loop (fun i : Nat => [(0, .s (.int .i64 m)), (1, ra), (5, .sl id 0 m none), (6, .s (.int .i64 i))]) (fun i => [(id, .cells 3 1 true (tab m (FI (fun x => sumT rs x) i 0)))]) (fun _ => []) (fun i => i ≤ m) (fun i => m - i) 0 (by omega) ⟨rfl, rfl, rfl, rfl, trivial⟩ ⟨by rw [← FI_0]; exact .head _, trivial⟩ (by simp) rfl ?_
  intro i hi
  by_cases hilt : i < m
  ·
    repeat' (first
      | refine SC_seq ?_
      | refine SC_block ?_
      | refine SC_region ?_
      | refine SL_seq ?_
      | refine SL_move (by decide) (by rfl) ?_
      | refine SL_assign (by decide) (by rfl) ?_
      | (refine SL_lss (by decide) (by rfl) (by rfl) (fun hT => ?_) (fun hT => ?_) <;> first | (exfalso; omega) | skip)
      | refine SC_cond_t (by rfl) ?_
      | (refine SC_skip' (fun tm σ hE hH => ?_); refine SC.app ?_ hE hH; clear hE hH; clear tm σ))
    refine SC_loop (fun k : Nat => [(0, .s (.int .i64 m)), (1, ra), (5, .sl id 0 m none), (6, .s (.int .i64 i)), (7, .s (.int .i64 k))]) (fun k => [(id, .cells 3 1 true (tab m (FI (fun x => sumT rs x) i (sumT (rs.take k) i))))]) (fun _ => []) (fun k => k ≤ rs.length) (fun k => rs.length - k) 0 (by omega) ⟨rfl, rfl, rfl, rfl, rfl, trivial⟩ ⟨.head _, trivial⟩ (by simp) rfl ?_
    intro k hk
    by_cases hlt : k < rs.length
    · obtain ⟨x, hx, hgx⟩ := h.row hlt
      unfold GV at hgx
      have hgs := hf rs[k] (List.getElem_mem hlt)
      have hr := (hv4 rs[k] (List.getElem_mem hlt)).1
      have hsum := sumT_bd (rs := rs.take k) (fun gs hg => hf gs (List.mem_of_mem_take hg)) (fun gs hg g hgg => ((hv4 gs (List.mem_of_mem_take hg)).1 g hgg).2.2.2.2) i
      rw [List.length_take] at hsum
      repeat' (first
        | refine SC_seq ?_
        | refine SC_block ?_
        | refine SC_region ?_
        | refine SL_seq ?_
        | refine SL_move (by decide) (by rfl) ?_
        | refine SL_assign (by decide) (by rfl) ?_
        | (refine SL_lss (by decide) (by rfl) (by rfl) (fun hT => ?_) (fun hT => ?_) <;> first | (exfalso; omega) | skip)
        | refine SL_len_v (by decide) (by rfl) (by assumption) (by rfl) (slF (by rfl)) (by simp only [List.length_map]; first | rfl | assumption) ?_
        | refine SC_cond_t (by rfl) ?_
        | (refine SC_skip' (fun tm σ hE hH => ?_); refine SC.app ?_ hE hH; clear hE hH; clear tm σ))
      refine SC_loop (fun j : Nat => [(0, .s (.int .i64 m)), (1, ra), (5, .sl id 0 m none), (6, .s (.int .i64 i)), (7, .s (.int .i64 k)), (8, .s (.int .i64 j))]) (fun j => [(id, .cells 3 1 true (tab m (FI (fun x => sumT rs x) i (sumT (rs.take k) i + sum1 (rs[k].take j) i))))]) (fun _ => []) (fun j => j ≤ rs[k].length) (fun j => rs[k].length - j) 0 (by omega) ⟨rfl, rfl, rfl, rfl, rfl, rfl, trivial⟩ ⟨by rw [show sum1 (rs[k].take 0) i = 0 from rfl, Int.add_zero]; exact .head _, trivial⟩ (by simp) rfl ?_
      intro j hj
      by_cases hjlt : j < rs[k].length
      · have hrow : (rs[k].map cells3)[j]? = some (cells3 rs[k][j]) := by rw [List.getElem?_map, List.getElem?_eq_getElem hjlt]; rfl
        have hgj := hr rs[k][j] (List.getElem_mem hjlt)
        have hsum1 := sum1_bd (gs := rs[k].take j) (fun g hgg => (hr g (List.mem_of_mem_take hgg)).2.2.2.2) i
        rw [List.length_take] at hsum1
        have hpt := pts_bd hgj.2.2.2.2.1 hgj.2.2.2.2.2 (i : Int)
        repeat' (first
          | (refine SL_call (by decide) (by rfl) bd22 (by rfl) (by rfl) (points_fn rs[k][j] (i : Int) hgj.2.2.2.2.1 hgj.2.2.2.2.2 (ho22 _ _)) trivial List.nodup_nil ?_; rintro _ _ _ ⟨rfl, rfl⟩; rw [List.nil_append])
          | refine SC_seq ?_
          | refine SC_block ?_
          | refine SC_region ?_
          | refine SL_seq ?_
          | (refine SL_nil (fun tm σ hE hH => ?_); refine SC.app ?_ hE hH; clear hE hH; clear tm σ)
          | refine SL_move (by decide) (by rfl) ?_
          | refine SL_assign (by decide) (by rfl) ?_
          | refine SL_add (by decide) (by rfl) (by rfl) (by omega) (by omega) ?_
          | (refine SL_lss (by decide) (by rfl) (by rfl) (fun hT => ?_) (fun hT => ?_) <;> first | (exfalso; omega) | skip)
          | refine SL_extract_s (by decide) (by rfl) (by rfl) ?_
          | refine SL_len_v (by decide) (by rfl) (by assumption) (by rfl) (slF (by rfl)) (by simp only [List.length_map]; first | rfl | assumption) ?_
          | refine SL_indexAddr_v (by decide) (by rfl) (by rfl) (by assumption) (slF (by rfl)) _ (by first | rfl | exact (Int.toNat_of_nonneg (by omega)).symm) (by simp only [List.length_map]; omega) (fun ad => ?_)
          | refine SL_indexAddr_0 (by decide) (by rfl) (by rfl) (by repeat (first | exact .head _ | refine .tail _ ?_)) (slF (by rfl)) _ (by first | rfl | exact (Int.toNat_of_nonneg (by omega)).symm) (by omega) ?_
          | refine SL_load_r (by decide) (by rfl) (rowF (by rfl)) (by first | assumption | rfl | exact FI_get _ _ _ (by omega)) (by rfl) ?_
          | refine SL_load_rr (by decide) (by rfl) (rowF (by rfl)) (by first | assumption | rfl | exact FI_get _ _ _ (by omega)) (Nat.le_of_ble_eq_true (by rfl)) (by first | exact mk3 _ | rfl) ?_
          | refine SL_load_o (by decide) (by rfl) (by repeat (first | exact .head _ | refine .tail _ ?_)) (rowF (by rfl)) (by first | assumption | rfl | exact FI_get _ _ _ (by omega)) (by rfl) ?_
          | refine SL_store_n (by rfl) (by rfl) (by repeat (first | exact .head _ | refine .tail _ ?_)) (by first | assumption | rfl | exact FI_get _ _ _ (by omega)) (by rfl) (by first | exact FI_set _ _ _ _ (by omega) | rfl) (by repeat (first | exact .head | refine .tail ?_)) (by first | exact .inl (by assumption) | exact .inr (by simp)) (szF (by rfl)) (Nat.le_of_ble_eq_true (by rfl)) (by rfl) ?_
          | refine SC_cond_t (by rfl) ?_
          | (refine SC_skip' (fun tm σ hE hH => ?_); refine SC.app ?_ hE hH; clear hE hH; clear tm σ))
        refine SL_nil fun tm σ hE hH => ⟨j + 1, by omega, by omega, tm, σ, rfl, hE.sub ⟨rfl, rfl, rfl, rfl, rfl, rfl, trivial⟩, hH.sub ⟨?_, trivial⟩ (by simp)⟩
        rw [sum1_next hjlt, ← Int.add_assoc]
        exact .head _
      · obtain rfl : j = rs[k].length := by omega
        rw [List.take_length]
        repeat' (first
          | refine SC_seq ?_
          | refine SC_region ?_
          | refine SL_seq ?_
          | refine SL_move (by decide) (by rfl) ?_
          | refine SL_assign (by decide) (by rfl) ?_
          | refine SL_add (by decide) (by rfl) (by rfl) (by omega) (by omega) ?_
          | (refine SL_lss (by decide) (by rfl) (by rfl) (fun hT => ?_) (fun hT => ?_) <;> first | (exfalso; omega) | skip)
          | refine SL_len_v (by decide) (by rfl) (by assumption) (by rfl) (slF (by rfl)) (by simp only [List.length_map]; first | rfl | assumption) ?_
          | refine SL_indexAddr_v (by decide) (by rfl) (by rfl) (by assumption) (slF (by rfl)) _ (by first | rfl | exact (Int.toNat_of_nonneg (by omega)).symm) (by simp only [List.length_map]; omega) (fun ad => ?_)
          | refine SL_load_r (by decide) (by rfl) (rowF (by rfl)) (by first | assumption | rfl | exact FI_get _ _ _ (by omega)) (by rfl) ?_
          | refine SC_cond_f (by rfl) ?_
          | (refine SC_exit (fun tm σ hE hH => ?_); refine SC.app ?_ hE hH; clear hE hH; clear tm σ))
        refine SL_nil fun tm σ hE hH => ⟨k + 1, by omega, by omega, tm, σ, rfl, hE.sub ⟨rfl, rfl, rfl, rfl, rfl, trivial⟩, hH.sub ⟨?_, trivial⟩ (by simp)⟩
        rw [sumT_next hlt]
        exact .head _
    · obtain rfl : k = rs.length := by omega
      rw [List.take_length]
      repeat' (first
        | refine SC_seq ?_
        | refine SC_region ?_
        | refine SL_seq ?_
        | refine SL_move (by decide) (by rfl) ?_
        | refine SL_assign (by decide) (by rfl) ?_
        | refine SL_add (by decide) (by rfl) (by rfl) (by omega) (by omega) ?_
        | (refine SL_lss (by decide) (by rfl) (by rfl) (fun hT => ?_) (fun hT => ?_) <;> first | (exfalso; omega) | skip)
        | refine SL_len_v (by decide) (by rfl) (by assumption) (by rfl) (slF (by rfl)) (by simp only [List.length_map]; first | rfl | assumption) ?_
        | refine SC_cond_f (by rfl) ?_
        | (refine SC_exit (fun tm σ hE hH => ?_); refine SC.app ?_ hE hH; clear hE hH; clear tm σ))
      refine SL_nil fun tm σ hE hH => ⟨i + 1, by omega, by omega, tm, σ, rfl, hE.sub ⟨rfl, rfl, rfl, rfl, trivial⟩, hH.sub ⟨?_, trivial⟩ (by simp)⟩
      rw [← FI_next]
      exact .head _
  · obtain rfl : i = m := by omega
    rw [FI_end]
    repeat' (first
      | refine SC_seq ?_
      | refine SC_region ?_
      | refine SL_seq ?_
      | refine SL_move (by decide) (by rfl) ?_
      | refine SL_assign (by decide) (by rfl) ?_
      | (refine SL_lss (by decide) (by rfl) (by rfl) (fun hT => ?_) (fun hT => ?_) <;> first | (exfalso; omega) | skip)
      | refine SC_cond_f (by rfl) ?_
      | (refine SC_exit (fun tm σ hE hH => ?_); refine SC.app ?_ hE hH; clear hE hH; clear tm σ))
    exact SC_ret (fun tm σ hE hH => Post.intro (Hn := [(id, _)]) (.inr rfl) hE hH (by rfl) ⟨.head _, trivial⟩ (by simp) (by simp [hid]) ⟨id, rfl, rfl⟩)
end Go.Proofs.Ytldckcopeiginaa
/- A player's games, one after the other. -/
namespace Go.Proofs.Ytldckcopeiginaa
open Go.Ab
theorem cells_v {es : Nat} {a : AV} {rows : List (List AV)} (h : SlV es a rows) : cellsOf a = [a] := by cases h <;> rfl
theorem build73 (a b : Int) (c : Bool) : effBuild Try.prog 73 [(0, .s (.int .i64 a)), (1, .s (.int .i64 b)), (2, .s (.bool c))] = some (.s (.agg #[.int .i64 a, .int .i64 b, .bool c])) := by kernel_rfl
/-- A game of a player's: the round, the other one, the points, whether the first named. -/
structure Ev where
  k : Int
  o : Int
  p : Int
  c : Bool
def ev1 (k : Nat) (i : Int) (g : Sc) : List Ev := if g.w = i then [⟨k, g.b, g.p, true⟩] else if g.b = i then [⟨k, g.w, 2 - g.p, false⟩] else []
def evR (k : Nat) (i : Int) (gs : List Sc) : List Ev := gs.flatMap (ev1 k i)
def evU (rs : List (List Sc)) (i : Int) : Nat → List Ev
  | 0 => []
  | k + 1 => evU rs i k ++ evR k i (rs[k]?.getD [])
theorem ev1_w {k : Nat} {i : Int} {g : Sc} (h : g.w = i) : ev1 k i g = [⟨k, g.b, g.p, true⟩] := if_pos h
theorem ev1_b {k : Nat} {i : Int} {g : Sc} (h : g.w ≠ i) (h2 : g.b = i) : ev1 k i g = [⟨k, g.w, 2 - g.p, false⟩] := by unfold ev1; rw [if_neg h, if_pos h2]
theorem ev1_n {k : Nat} {i : Int} {g : Sc} (h : g.w ≠ i) (h2 : g.b ≠ i) : ev1 k i g = [] := by unfold ev1; rw [if_neg h, if_neg h2]
theorem evR_next {gs : List Sc} {j : Nat} (h : j < gs.length) (k : Nat) (i : Int) : evR k i (gs.take (j + 1)) = evR k i (gs.take j) ++ ev1 k i gs[j] := take_flat h
theorem evU_next {rs : List (List Sc)} {k : Nat} (h : k < rs.length) (i : Int) : evU rs i (k + 1) = evU rs i k ++ evR k i rs[k] := by
  rw [evU, List.getElem?_eq_getElem h]; rfl
theorem evU_pre (rs : List (List Sc)) (i : Int) : ∀ {k m : Nat}, k ≤ m → evU rs i k <+: evU rs i m := by
  intro k m h
  induction h with
  | refl => exact List.prefix_rfl
  | step _ ih => exact ih.trans (List.prefix_append _ _)
theorem evR_pre {gs : List Sc} {j : Nat} (h : j < gs.length) (k : Nat) (i : Int) : evR k i (gs.take j) ++ ev1 k i gs[j] <+: evR k i gs := by
  rw [← evR_next h]
  exact ⟨evR k i (gs.drop (j + 1)), by unfold evR; rw [← List.flatMap_append, List.take_append_drop]⟩
theorem ev_pre {rs : List (List Sc)} {k j : Nat} (h : k < rs.length) (hj : j < rs[k].length) (i : Int) : evU rs i k ++ evR k i (rs[k].take j) ++ ev1 k i rs[k][j] <+: evU rs i rs.length := by
  refine List.IsPrefix.trans ?_ (evU_pre rs i (k := k + 1) h)
  rw [evU_next h, List.append_assoc]
  exact List.prefix_append_right_inj _ |>.2 (evR_pre hj k i)
attribute [local irreducible] SC SL wpc wpl wpd wpf wpy wpn FnC FnW RdW
set_option maxRecDepth 100000
set_option pp.deepTerms false
set_option pp.maxSteps 900
set_option maxHeartbeats 2000000
theorem gamesOf_fn {G : Gl} {rs : List (List Sc)} {ra : AV} {xs : List AV} (h : RV rs ra xs) (i : Int) (ho : G.orc 36 [ra, .s (.int .i64 i)] = none) :
    FnC Try.prog G 36 [ra, .s (.int .i64 i)] [] (fun v Hn => ∃ a b, v = .fn (.func 58) [] [.ptr a 0 0, .ptr b 0 0] ∧ Hn = [(b, .cells 3 1 true [[.s (.int .i64 i)]]), (a, .cells 22 1 true [[ra]])]) := by
  have hsl := h.sl
  refine Fn_body (N := 6) ho Try.func36 rfl rfl fun B => ?_
  refine SC_nd fun _ => ?_
  repeat' (first
    | refine SL_makeFunc (by decide) (by rfl) (by rfl) ?_
    | refine SL_box (by decide) (by rfl) (cells_v hsl) (fun id hid => ?_)
    | refine SC_seq ?_
    | refine SC_region ?_
    | refine SL_seq ?_
    | refine SL_assign (by decide) (by rfl) ?_
    | refine SL_box (by decide) (by rfl) (by first | exact cells_3 _ _ _ | rfl) (fun id hid => ?_))
  refine SC_perm (List.Perm.refl _) (SC_nd fun hnd => ?_)
  refine SC_ret (fun tm σ hE hH => Post.intro (Hn := [(_, _), (_, _)]) (.inr rfl) hE hH (by rfl) ⟨.head _, .tail _ (.head _), trivial⟩ hnd ?_ ⟨_, _, rfl, rfl⟩)
  intro p hp
  rcases List.mem_cons.1 hp with rfl | hp
  · assumption
  · rw [List.mem_singleton] at hp; subst hp; assumption
theorem games_fn {G : Gl} {rs : List (List Sc)} {ra : AV} {xs : List AV} (h : RV rs ra xs) (hg : ∀ gs ∈ rs, ∀ g ∈ gs, 0 ≤ g.p ∧ g.p ≤ 2) (i : Int) {l a b : Nat} {M0 : List Nat} {lp : ALoop} (Hs : List Ev → List (Nat × AObj)) (hM : ∀ es, ∀ id ∈ M0, id ∈ (Hs es).map (·.1)) (hB : ∀ es, ∀ p ∈ Hs es, p.1 ∈ M0)
    (hr : ∀ es e, es ++ [e] <+: evU rs i rs.length → RdW Try.prog G l [.s (.int .i64 e.k), .s (.agg #[.int .i64 e.o, .int .i64 e.p, .bool e.c])] (l :: M0) ((l, .loop lp) :: Hs es) (fun v Hn => v = .s (.bool true) ∧ Hn = (l, .loop lp) :: Hs (es ++ [e])))
    (ho : G.orc 58 [.yld l, .ptr a 0 0, .ptr b 0 0] = none) :
    FnW Try.prog G 58 [.yld l, .ptr a 0 0, .ptr b 0 0] (l :: M0) ((l, .loop lp) :: (b, .cells 3 1 true [[.s (.int .i64 i)]]) :: (a, .cells 22 1 true [[ra]]) :: Hs []) (fun _ Hn => Hn = (l, .loop lp) :: Hs (evU rs i rs.length)) := by
  have hsl := h.sl
  have hlen := h.len
  have hbig := h.big
  have hMk : ∀ (es : List Ev) (id : Nat), id ∈ l :: M0 → id ∈ ((l, AObj.loop lp) :: Hs es).map (·.1) := fun es id hid => by
    rw [List.map_cons]
    rcases List.mem_cons.1 hid with rfl | hid
    · exact List.mem_cons_self
    · exact List.mem_cons_of_mem _ (hM es id hid)
  refine FnW_body (N := 62) ho Try.func58 rfl rfl fun B => ?_
  refine SC_perm (H' := (b, .cells 3 1 true [[.s (.int .i64 i)]]) :: (a, .cells 22 1 true [[ra]]) :: (l, .loop lp) :: Hs []) (List.perm_middle (l₁ := [(b, _), (a, _)])).symm (SC_nd fun hnd0 => ?_)
  repeat' (first
    | refine SC_seq ?_
    | refine SC_block ?_
    | refine SC_region ?_
    | refine SL_seq ?_
    | refine SL_move (by decide) (by rfl) ?_
    | refine SL_len_v (by decide) (by rfl) (by assumption) (by rfl) (slF (by rfl)) (by simp only [List.length_map]; first | rfl | assumption) ?_
    | refine SL_load_o (by decide) (by rfl) (by repeat (first | exact .head _ | refine .tail _ ?_)) (rowF (by rfl)) (by first | assumption | rfl) (by rfl) ?_)
  refine SC_loop (fun k : Nat => [(0, .yld l), (1, .ptr a 0 0), (2, .ptr b 0 0), (8, ra), (9, .s (.int .i64 xs.length)), (10, .s (.int .i64 k))]) (fun k => (b, .cells 3 1 true [[.s (.int .i64 i)]]) :: (a, .cells 22 1 true [[ra]]) :: (l, .loop lp) :: Hs (evU rs i k)) (fun _ => []) (fun k => k ≤ rs.length) (fun k => rs.length - k) 0 (by omega) ⟨rfl, rfl, rfl, rfl, rfl, rfl, trivial⟩ (.refl _) hnd0 rfl ?_
  intro k hk
  by_cases hlt : k < rs.length
  · obtain ⟨x, hx, hgx⟩ := h.row hlt
    unfold GV at hgx
    have heach := h.each rs[k] (List.getElem_mem hlt)
    refine SC_nd fun hndk => ?_
    repeat' (first
      | refine SC_seq ?_
      | refine SC_block ?_
      | refine SC_region ?_
      | refine SL_seq ?_
      | refine SL_move (by decide) (by rfl) ?_
      | refine SL_assign (by decide) (by rfl) ?_
      | (refine SL_lss (by decide) (by rfl) (by rfl) (fun hT => ?_) (fun hT => ?_) <;> first | (exfalso; omega) | skip)
      | refine SL_len_v (by decide) (by rfl) (by assumption) (by rfl) (slF (by rfl)) (by simp only [List.length_map]; first | rfl | assumption) ?_
      | refine SL_indexAddr_v (by decide) (by rfl) (by rfl) (by assumption) (slF (by rfl)) _ (by first | rfl | exact (Int.toNat_of_nonneg (by omega)).symm) (by simp only [List.length_map]; omega) (fun ad => ?_)
      | refine SL_load_r (by decide) (by rfl) (rowF (by rfl)) (by first | assumption | rfl) (by rfl) ?_
      | refine SC_cond_t (by rfl) ?_
      | (refine SC_skip' (fun tm σ hE hH => ?_); refine SC.app ?_ hE hH; clear hE hH; clear tm σ))
    refine SC_loop (fun j : Nat => [(0, .yld l), (1, .ptr a 0 0), (2, .ptr b 0 0), (8, ra), (9, .s (.int .i64 xs.length)), (10, .s (.int .i64 k)), (4, .s (.int .i64 k)), (15, x), (16, .s (.int .i64 rs[k].length)), (17, .s (.int .i64 j))]) (fun j => (b, .cells 3 1 true [[.s (.int .i64 i)]]) :: (a, .cells 22 1 true [[ra]]) :: (l, .loop lp) :: Hs (evU rs i k ++ evR k i (rs[k].take j))) (fun _ => []) (fun j => j ≤ rs[k].length) (fun j => rs[k].length - j) 0 (by omega) ⟨rfl, rfl, rfl, rfl, rfl, rfl, rfl, rfl, rfl, rfl, trivial⟩
      (by rw [show evR k i (rs[k].take 0) = [] from rfl, List.append_nil]; exact .refl _) (by rw [show evR k i (rs[k].take 0) = [] from rfl, List.append_nil]; exact hndk) rfl ?_
    intro j hj
    by_cases hjlt : j < rs[k].length
    · have hrow : (rs[k].map cells3)[j]? = some (cells3 rs[k][j]) := by rw [List.getElem?_map, List.getElem?_eq_getElem hjlt]; rfl
      have hgj := hg rs[k] (List.getElem_mem hlt) rs[k][j] (List.getElem_mem hjlt)
      have hpre := ev_pre hlt hjlt i
      have hp1 : rs[k][j].w = i → (evU rs i k ++ evR k i (rs[k].take j)) ++ [⟨k, rs[k][j].b, rs[k][j].p, true⟩] <+: evU rs i rs.length := fun e => by rw [ev1_w e] at hpre; exact hpre
      have hp2 : rs[k][j].w ≠ i → rs[k][j].b = i → (evU rs i k ++ evR k i (rs[k].take j)) ++ [⟨k, rs[k][j].w, 2 - rs[k][j].p, false⟩] <+: evU rs i rs.length := fun e e' => by rw [ev1_b e e'] at hpre; exact hpre
      have hnx := evR_next hjlt k i
      repeat' (first
        | (refine SL_yield' (Hr := [_, _, _]) (H0 := _ :: Hs _) (by decide) (by rfl) (by rfl) (hr _ ⟨k, rs[k][j].w, 2 - rs[k][j].p, false⟩ (hp2 (by assumption) (by assumption))) (fun id hid => ⟨.inr hid, hMk _ _ hid⟩) ?_; rintro _ _ ⟨rfl, rfl⟩; simp only [List.cons_append, List.nil_append])
        | (refine SL_yield' (Hr := [_, _, _]) (H0 := _ :: Hs _) (by decide) (by rfl) (by rfl) (hr _ ⟨k, rs[k][j].b, rs[k][j].p, true⟩ (hp1 (by assumption))) (fun id hid => ⟨.inr hid, hMk _ _ hid⟩) ?_; rintro _ _ ⟨rfl, rfl⟩; simp only [List.cons_append, List.nil_append])
        | refine SL_build (by decide) (by rfl) (build73 _ _ _) ?_
        | refine SC_seq ?_
        | refine SC_block ?_
        | refine SC_region ?_
        | refine SL_seq ?_
        | refine SL_run (by rfl) (by rfl) ?_
        | refine SL_not (by rfl) (by rfl) (by rfl) (by decide) ?_
        | refine SL_move (by decide) (by rfl) ?_
        | refine SL_assign (by decide) (by rfl) ?_
        | refine SL_pick_t (by decide) (by rfl) (by rfl) ?_
        | refine SL_pick_f (by decide) (by rfl) (by rfl) ?_
        | refine SL_not_op (by decide) (by rfl) ?_
        | refine SL_add (by decide) (by rfl) (by rfl) (by omega) (by omega) ?_
        | refine SL_sub (by decide) (by rfl) (by rfl) (by omega) (by omega) ?_
        | (refine SL_lss (by decide) (by rfl) (by rfl) (fun hT => ?_) (fun hT => ?_) <;> first | (exfalso; omega) | skip)
        | (refine SL_eql (by decide) (by rfl) (by rfl) (fun hT => ?_) (fun hT => ?_) <;> first | (exfalso; omega) | skip)
        | (refine SL_neq (by decide) (by rfl) (by rfl) (fun hT => ?_) (fun hT => ?_) <;> first | (exfalso; omega) | skip)
        | refine SL_fieldAddr (by decide) (by rfl) (fldF (by rfl)) ?_
        | refine SL_indexAddr_v (by decide) (by rfl) (by rfl) (by assumption) (slF (by rfl)) _ (by first | rfl | exact (Int.toNat_of_nonneg (by omega)).symm) (by simp only [List.length_map]; omega) (fun ad => ?_)
        | refine SL_load_rr (by decide) (by rfl) (rowF (by rfl)) (by first | assumption | rfl) (Nat.le_of_ble_eq_true (by rfl)) (by first | exact mk3 _ | rfl) ?_
        | refine SL_load_o (by decide) (by rfl) (by repeat (first | exact .head _ | refine .tail _ ?_)) (rowF (by rfl)) (by first | assumption | rfl) (by rfl) ?_
        | refine SL_store_box (by rfl) (by rfl) (by first | exact cells_3 _ _ _ | rfl) (by repeat (first | exact .head | refine .tail ?_)) (by first | exact .inl (by assumption) | exact .inr (by simp)) (by rfl) (szF (by rfl)) (by rfl) ?_
        | refine SL_alloc (by decide) (zeroF (by rfl)) (fun id hid => ?_)
        | refine SC_cond_t (by rfl) ?_
        | refine SC_cond_f (by rfl) ?_
        | (refine SC_skip' (fun tm σ hE hH => ?_); refine SC.app ?_ hE hH; clear hE hH; clear tm σ))
      all_goals
        refine SL_nil fun tm σ hE hH => ⟨j + 1, by omega, by omega, tm, σ, rfl, hE.sub ⟨rfl, rfl, rfl, rfl, rfl, rfl, rfl, rfl, rfl, rfl, trivial⟩, ?_⟩
        first
        | rw [hnx, ev1_w (by assumption), ← List.append_assoc]; exact hH.sub (.of_mem fun p hp => List.mem_cons_of_mem _ hp) (List.nodup_cons.1 hH.nodup).2
        | rw [hnx, ev1_b (by assumption) (by assumption), ← List.append_assoc]; exact hH.sub (.of_mem fun p hp => List.mem_cons_of_mem _ hp) (List.nodup_cons.1 hH.nodup).2
        | rw [hnx, ev1_n (by assumption) (by assumption), List.append_nil]; exact hH.sub (.of_mem fun p hp => List.mem_cons_of_mem _ hp) (List.nodup_cons.1 hH.nodup).2
    · obtain rfl : j = rs[k].length := by omega
      rw [List.take_length, ← evU_next hlt]
      repeat' (first
        | refine SC_seq ?_
        | refine SC_region ?_
        | refine SL_seq ?_
        | refine SL_move (by decide) (by rfl) ?_
        | refine SL_add (by decide) (by rfl) (by rfl) (by omega) (by omega) ?_
        | (refine SL_lss (by decide) (by rfl) (by rfl) (fun hT => ?_) (fun hT => ?_) <;> first | (exfalso; omega) | skip)
        | refine SC_cond_f (by rfl) ?_
        | (refine SC_exit (fun tm σ hE hH => ?_); refine SC.app ?_ hE hH; clear hE hH; clear tm σ))
      refine SL_nil fun tm σ hE hH => ⟨k + 1, by omega, by omega, tm, σ, rfl, hE.sub ⟨rfl, rfl, rfl, rfl, rfl, rfl, trivial⟩, hH⟩
  · obtain rfl : k = rs.length := by omega
    repeat' (first
      | refine SC_seq ?_
      | refine SC_region ?_
      | refine SL_seq ?_
      | (refine SL_lss (by decide) (by rfl) (by rfl) (fun hT => ?_) (fun hT => ?_) <;> first | (exfalso; omega) | skip)
      | refine SC_cond_f (by rfl) ?_)
    refine SC_exit (fun tm σ hE hH => ?_)
    have hn := (List.nodup_cons.1 (List.nodup_cons.1 hH.nodup).2).2
    refine PostW.intro (vs := []) (Hn := (l, .loop lp) :: Hs _) (.inl rfl) hE hH (by rfl) (.of_mem fun p hp => List.mem_cons_of_mem _ (List.mem_cons_of_mem _ hp)) hn (fun p hp => ?_) rfl
    rcases List.mem_cons.1 hp with rfl | hp
    · exact .inl List.mem_cons_self
    · exact .inl (List.mem_cons_of_mem _ (hB _ p hp))
end Go.Proofs.Ytldckcopeiginaa
/- A player's games, one after the other: the heap told by a predicate. -/
namespace Go.Proofs.Ytldckcopeiginaa
open Go.Ab
attribute [local irreducible] SC SL wpc wpl wpd wpf wpy wpn FnC FnW RdW
set_option maxRecDepth 100000
set_option pp.deepTerms false
set_option pp.maxSteps 900
set_option maxHeartbeats 2000000
theorem games2_fn {G : Gl} {rs : List (List Sc)} {ra : AV} {xs : List AV} (h : RV rs ra xs) (hg : ∀ gs ∈ rs, ∀ g ∈ gs, 0 ≤ g.p ∧ g.p ≤ 2) (i : Int) {l a b : Nat} {lp : ALoop} (Inv : List Ev → List (Nat × AObj) → Prop) (H0 Hx : List (Nat × AObj)) (h0 : Inv [] H0)
    (hr : ∀ es e H, es ++ [e] <+: evU rs i rs.length → Inv es H → RdW Try.prog G l [.s (.int .i64 e.k), .s (.agg #[.int .i64 e.o, .int .i64 e.p, .bool e.c])] (l :: H.map (·.1)) (((l, .loop lp) :: H) ++ Hx) (fun v Hn => v = .s (.bool true) ∧ ∃ H', Hn = (l, .loop lp) :: H' ∧ Inv (es ++ [e]) H'))
    (ho : G.orc 58 [.yld l, .ptr a 0 0, .ptr b 0 0] = none) :
    FnW Try.prog G 58 [.yld l, .ptr a 0 0, .ptr b 0 0] (l :: H0.map (·.1)) ((l, .loop lp) :: (b, .cells 3 1 true [[.s (.int .i64 i)]]) :: (a, .cells 22 1 true [[ra]]) :: (H0 ++ Hx)) (fun _ Hn => ∃ H', Hn = (l, .loop lp) :: H' ∧ Inv (evU rs i rs.length) H') := by
  have hsl := h.sl
  have hlen := h.len
  have hbig := h.big
  refine FnW_body (N := 62) ho Try.func58 rfl rfl fun B => ?_
  refine SC_perm (H' := (b, .cells 3 1 true [[.s (.int .i64 i)]]) :: (a, .cells 22 1 true [[ra]]) :: (Hx ++ (l, .loop lp) :: H0)) ?_ (SC_nd fun hnd0 => ?_)
  · refine ((List.perm_middle (l₁ := [(b, _), (a, _)])).symm).trans (.cons _ (.cons _ ?_))
    exact (List.perm_append_comm (l₁ := (l, AObj.loop lp) :: H0) (l₂ := Hx))
  have hxn : (Hx.map (·.1)).Nodup := by
    have := (List.nodup_cons.1 (List.nodup_cons.1 hnd0).2).2
    rw [List.map_append, List.nodup_append] at this
    exact this.1
  repeat' (first
    | refine SC_seq ?_
    | refine SC_block ?_
    | refine SC_region ?_
    | refine SL_seq ?_
    | refine SL_move (by decide) (by rfl) ?_
    | refine SL_len_v (by decide) (by rfl) (by assumption) (by rfl) (slF (by rfl)) (by simp only [List.length_map]; first | rfl | assumption) ?_
    | refine SL_load_o (by decide) (by rfl) (by repeat (first | exact .head _ | refine .tail _ ?_)) (rowF (by rfl)) (by first | assumption | rfl) (by rfl) ?_)
  refine SC_loop (fun x : Nat × List (Nat × AObj) => [(0, .yld l), (1, .ptr a 0 0), (2, .ptr b 0 0), (8, ra), (9, .s (.int .i64 xs.length)), (10, .s (.int .i64 x.1))]) (fun x => (b, .cells 3 1 true [[.s (.int .i64 i)]]) :: (a, .cells 22 1 true [[ra]]) :: (Hx ++ (l, .loop lp) :: x.2)) (fun _ => []) (fun x => x.1 ≤ rs.length ∧ Inv (evU rs i x.1) x.2 ∧ ∀ p ∈ x.2, B.next ≤ p.1 ∨ p.1 ∈ l :: H0.map (·.1)) (fun x => rs.length - x.1) (0, H0)
    ⟨by simp, h0, fun p hp => .inr (List.mem_cons_of_mem _ (List.mem_map.2 ⟨p, hp, rfl⟩))⟩ ⟨rfl, rfl, rfl, rfl, rfl, rfl, trivial⟩ (.refl _) hnd0 rfl ?_
  rintro ⟨k, Hk⟩ ⟨hk, hInvk, hBk⟩
  dsimp only at hk hInvk hBk ⊢
  by_cases hlt : k < rs.length
  · obtain ⟨x, hx, hgx⟩ := h.row hlt
    unfold GV at hgx
    have heach := h.each rs[k] (List.getElem_mem hlt)
    refine SC_nd fun hndk => ?_
    repeat' (first
      | refine SC_seq ?_
      | refine SC_block ?_
      | refine SC_region ?_
      | refine SL_seq ?_
      | refine SL_move (by decide) (by rfl) ?_
      | refine SL_assign (by decide) (by rfl) ?_
      | (refine SL_lss (by decide) (by rfl) (by rfl) (fun hT => ?_) (fun hT => ?_) <;> first | (exfalso; omega) | skip)
      | refine SL_len_v (by decide) (by rfl) (by assumption) (by rfl) (slF (by rfl)) (by simp only [List.length_map]; first | rfl | assumption) ?_
      | refine SL_indexAddr_v (by decide) (by rfl) (by rfl) (by assumption) (slF (by rfl)) _ (by first | rfl | exact (Int.toNat_of_nonneg (by omega)).symm) (by simp only [List.length_map]; omega) (fun ad => ?_)
      | refine SL_load_r (by decide) (by rfl) (rowF (by rfl)) (by first | assumption | rfl) (by rfl) ?_
      | refine SC_cond_t (by rfl) ?_
      | (refine SC_skip' (fun tm σ hE hH => ?_); refine SC.app ?_ hE hH; clear hE hH; clear tm σ))
    refine SC_loop (fun z : Nat × List (Nat × AObj) => [(0, .yld l), (1, .ptr a 0 0), (2, .ptr b 0 0), (8, ra), (9, .s (.int .i64 xs.length)), (10, .s (.int .i64 k)), (4, .s (.int .i64 k)), (15, x), (16, .s (.int .i64 rs[k].length)), (17, .s (.int .i64 z.1))]) (fun z => (b, .cells 3 1 true [[.s (.int .i64 i)]]) :: (a, .cells 22 1 true [[ra]]) :: (Hx ++ (l, .loop lp) :: z.2)) (fun _ => [])
      (fun z => z.1 ≤ rs[k].length ∧ Inv (evU rs i k ++ evR k i (rs[k].take z.1)) z.2 ∧ ∀ p ∈ z.2, B.next ≤ p.1 ∨ p.1 ∈ l :: H0.map (·.1)) (fun z => rs[k].length - z.1) (0, Hk)
      ⟨by simp, by rw [show evR k i (rs[k].take 0) = [] from rfl, List.append_nil]; exact hInvk, hBk⟩ ⟨rfl, rfl, rfl, rfl, rfl, rfl, rfl, rfl, rfl, rfl, trivial⟩ (.refl _) hndk rfl ?_
    rintro ⟨j, Hc⟩ ⟨hj, hInv, hBc⟩
    dsimp only at hj hInv hBc ⊢
    by_cases hjlt : j < rs[k].length
    · have hrow : (rs[k].map cells3)[j]? = some (cells3 rs[k][j]) := by rw [List.getElem?_map, List.getElem?_eq_getElem hjlt]; rfl
      have hgj := hg rs[k] (List.getElem_mem hlt) rs[k][j] (List.getElem_mem hjlt)
      have hpre := ev_pre hlt hjlt i
      have hp1 : rs[k][j].w = i → (evU rs i k ++ evR k i (rs[k].take j)) ++ [⟨k, rs[k][j].b, rs[k][j].p, true⟩] <+: evU rs i rs.length := fun e => by rw [ev1_w e] at hpre; exact hpre
      have hp2 : rs[k][j].w ≠ i → rs[k][j].b = i → (evU rs i k ++ evR k i (rs[k].take j)) ++ [⟨k, rs[k][j].w, 2 - rs[k][j].p, false⟩] <+: evU rs i rs.length := fun e e' => by rw [ev1_b e e'] at hpre; exact hpre
      have hnx := evR_next hjlt k i
      have hMk : ∀ id ∈ l :: Hc.map (·.1), (B.next ≤ id ∨ id ∈ l :: H0.map (·.1)) ∧ id ∈ ((l, AObj.loop lp) :: Hc).map (·.1) := fun id hid => by
        refine ⟨?_, hid⟩
        rcases List.mem_cons.1 hid with rfl | hid
        · exact .inr List.mem_cons_self
        · obtain ⟨p, hp, rfl⟩ := List.mem_map.1 hid
          exact hBc p hp
      repeat' (first
        | (refine SL_yield2 (Hr := _ :: _ :: _ :: Hx) (H0 := _ :: Hc) (Hx := Hx) (M := l :: Hc.map (·.1)) (by decide) (by rfl) (by rfl) (hr _ ⟨k, rs[k][j].w, 2 - rs[k][j].p, false⟩ Hc (hp2 (by assumption) (by assumption)) hInv) (fun p hp => List.mem_cons_of_mem _ (List.mem_cons_of_mem _ (List.mem_cons_of_mem _ hp))) hxn hMk ?_; rintro _ _ hBn ⟨rfl, Hd, rfl, hInv'⟩; simp only [List.cons_append, List.nil_append])
        | (refine SL_yield2 (Hr := _ :: _ :: _ :: Hx) (H0 := _ :: Hc) (Hx := Hx) (M := l :: Hc.map (·.1)) (by decide) (by rfl) (by rfl) (hr _ ⟨k, rs[k][j].b, rs[k][j].p, true⟩ Hc (hp1 (by assumption)) hInv) (fun p hp => List.mem_cons_of_mem _ (List.mem_cons_of_mem _ (List.mem_cons_of_mem _ hp))) hxn hMk ?_; rintro _ _ hBn ⟨rfl, Hd, rfl, hInv'⟩; simp only [List.cons_append, List.nil_append])
        | refine SL_build (by decide) (by rfl) (build73 _ _ _) ?_
        | refine SC_seq ?_
        | refine SC_block ?_
        | refine SC_region ?_
        | refine SL_seq ?_
        | refine SL_run (by rfl) (by rfl) ?_
        | refine SL_not (by rfl) (by rfl) (by rfl) (by decide) ?_
        | refine SL_move (by decide) (by rfl) ?_
        | refine SL_assign (by decide) (by rfl) ?_
        | refine SL_pick_t (by decide) (by rfl) (by rfl) ?_
        | refine SL_pick_f (by decide) (by rfl) (by rfl) ?_
        | refine SL_not_op (by decide) (by rfl) ?_
        | refine SL_add (by decide) (by rfl) (by rfl) (by omega) (by omega) ?_
        | refine SL_sub (by decide) (by rfl) (by rfl) (by omega) (by omega) ?_
        | (refine SL_lss (by decide) (by rfl) (by rfl) (fun hT => ?_) (fun hT => ?_) <;> first | (exfalso; omega) | skip)
        | (refine SL_eql (by decide) (by rfl) (by rfl) (fun hT => ?_) (fun hT => ?_) <;> first | (exfalso; omega) | skip)
        | (refine SL_neq (by decide) (by rfl) (by rfl) (fun hT => ?_) (fun hT => ?_) <;> first | (exfalso; omega) | skip)
        | refine SL_fieldAddr (by decide) (by rfl) (fldF (by rfl)) ?_
        | refine SL_indexAddr_v (by decide) (by rfl) (by rfl) (by assumption) (slF (by rfl)) _ (by first | rfl | exact (Int.toNat_of_nonneg (by omega)).symm) (by simp only [List.length_map]; omega) (fun ad => ?_)
        | refine SL_load_rr (by decide) (by rfl) (rowF (by rfl)) (by first | assumption | rfl) (Nat.le_of_ble_eq_true (by rfl)) (by first | exact mk3 _ | rfl) ?_
        | refine SL_load_o (by decide) (by rfl) (by repeat (first | exact .head _ | refine .tail _ ?_)) (rowF (by rfl)) (by first | assumption | rfl) (by rfl) ?_
        | refine SL_store_box (by rfl) (by rfl) (by first | exact cells_3 _ _ _ | rfl) (by repeat (first | exact .head | apply Upd.tail)) (by first | exact .inl (by assumption) | exact .inr (by simp)) (by rfl) (szF (by rfl)) (by rfl) ?_
        | refine SL_alloc (by decide) (zeroF (by rfl)) (fun id hid => ?_)
        | refine SC_cond_t (by rfl) ?_
        | refine SC_cond_f (by rfl) ?_
        | (refine SC_skip' (fun tm σ hE hH => ?_); refine SC.app ?_ hE hH; clear hE hH; clear tm σ))
      all_goals first
        | exact SL_nil fun tm σ hE hH => ⟨(j + 1, Hd), by show rs[k].length - (j + 1) < rs[k].length - j; omega, ⟨by show j + 1 ≤ rs[k].length; omega, by dsimp only; rw [hnx, ev1_w (by assumption), ← List.append_assoc]; exact hInv', fun p hp => hBn p (List.mem_cons_of_mem _ hp)⟩, tm, σ, rfl, hE.sub ⟨rfl, rfl, rfl, rfl, rfl, rfl, rfl, rfl, rfl, rfl, trivial⟩, hH.sub (.of_mem fun p hp => List.mem_cons_of_mem _ hp) (List.nodup_cons.1 hH.nodup).2⟩
        | exact SL_nil fun tm σ hE hH => ⟨(j + 1, Hd), by show rs[k].length - (j + 1) < rs[k].length - j; omega, ⟨by show j + 1 ≤ rs[k].length; omega, by dsimp only; rw [hnx, ev1_b (by assumption) (by assumption), ← List.append_assoc]; exact hInv', fun p hp => hBn p (List.mem_cons_of_mem _ hp)⟩, tm, σ, rfl, hE.sub ⟨rfl, rfl, rfl, rfl, rfl, rfl, rfl, rfl, rfl, rfl, trivial⟩, hH.sub (.of_mem fun p hp => List.mem_cons_of_mem _ hp) (List.nodup_cons.1 hH.nodup).2⟩
        | exact SL_nil fun tm σ hE hH => ⟨(j + 1, Hc), by show rs[k].length - (j + 1) < rs[k].length - j; omega, ⟨by show j + 1 ≤ rs[k].length; omega, by dsimp only; rw [hnx, ev1_n (by assumption) (by assumption), List.append_nil]; exact hInv, hBc⟩, tm, σ, rfl, hE.sub ⟨rfl, rfl, rfl, rfl, rfl, rfl, rfl, rfl, rfl, rfl, trivial⟩, hH.sub (.of_mem fun p hp => List.mem_cons_of_mem _ hp) (List.nodup_cons.1 hH.nodup).2⟩
    · obtain rfl : j = rs[k].length := by omega
      rw [List.take_length, ← evU_next hlt] at hInv
      repeat' (first
        | refine SC_seq ?_
        | refine SC_region ?_
        | refine SL_seq ?_
        | refine SL_move (by decide) (by rfl) ?_
        | refine SL_add (by decide) (by rfl) (by rfl) (by omega) (by omega) ?_
        | (refine SL_lss (by decide) (by rfl) (by rfl) (fun hT => ?_) (fun hT => ?_) <;> first | (exfalso; omega) | skip)
        | refine SC_cond_f (by rfl) ?_
        | (refine SC_exit (fun tm σ hE hH => ?_); refine SC.app ?_ hE hH; clear hE hH; clear tm σ))
      refine SL_nil fun tm σ hE hH => ⟨(k + 1, Hc), by show rs.length - (k + 1) < rs.length - k; omega, ⟨by show k + 1 ≤ rs.length; omega, hInv, hBc⟩, tm, σ, rfl, hE.sub ⟨rfl, rfl, rfl, rfl, rfl, rfl, trivial⟩, hH⟩
  · obtain rfl : k = rs.length := by omega
    repeat' (first
      | refine SC_seq ?_
      | refine SC_region ?_
      | refine SL_seq ?_
      | (refine SL_lss (by decide) (by rfl) (by rfl) (fun hT => ?_) (fun hT => ?_) <;> first | (exfalso; omega) | skip)
      | refine SC_cond_f (by rfl) ?_)
    refine SC_exit (fun tm σ hE hH => ?_)
    have hn := (List.nodup_cons.1 (List.nodup_cons.1 hH.nodup).2).2
    have hn := (List.nodup_append.1 (by rw [List.map_append] at hn; exact hn)).2.1
    refine PostW.intro (vs := []) (Hn := (l, .loop lp) :: Hk) (.inl rfl) hE hH (by rfl) (.of_mem fun p hp => List.mem_cons_of_mem _ (List.mem_cons_of_mem _ (List.mem_append_right _ hp))) hn (fun p hp => ?_) ⟨Hk, rfl, hInvk⟩
    rcases List.mem_cons.1 hp with rfl | hp
    · exact .inl List.mem_cons_self
    · rcases hBk p hp with h1 | h1
      · exact .inr h1
      · exact .inl h1
end Go.Proofs.Ytldckcopeiginaa
/- tiebreak.scores. -/
namespace Go.Proofs.Ytldckcopeiginaa
open Go.Ab
def sumE (es : List Ev) : Int := (es.map Ev.p).sum
theorem sumE_next (es : List Ev) (e : Ev) : sumE (es ++ [e]) = sumE es + e.p := by
  unfold sumE; simp only [List.map_append, List.sum_append, List.map_cons, List.map_nil, List.sum_cons, List.sum_nil, Int.add_zero]
theorem sumE_app (es es' : List Ev) : sumE (es ++ es') = sumE es + sumE es' := by
  unfold sumE; simp only [List.map_append, List.sum_append]
theorem sumE_bd {es : List Ev} (h : ∀ e ∈ es, 0 ≤ e.p ∧ e.p ≤ 2) : 0 ≤ sumE es ∧ sumE es ≤ 2 * es.length := by
  induction es with
  | nil => simp [sumE]
  | cons e es ih =>
    have h1 := ih (fun e he => h e (List.mem_cons_of_mem _ he))
    have h2 := h e List.mem_cons_self
    unfold sumE at h1 ⊢
    simp only [List.map_cons, List.sum_cons, List.length_cons]
    omega
theorem ev1_len (k : Nat) (i : Int) (g : Sc) : (ev1 k i g).length ≤ 1 := by
  unfold ev1; split
  · simp
  · split <;> simp
theorem ev1_bd {k : Nat} {i : Int} {g : Sc} (h : 0 ≤ g.p ∧ g.p ≤ 2) : ∀ e ∈ ev1 k i g, 0 ≤ e.p ∧ e.p ≤ 2 := by
  unfold ev1; split
  · intro e he; rw [List.mem_singleton] at he; subst he; exact h
  · split
    · intro e he; rw [List.mem_singleton] at he; subst he; simp only; omega
    · intro e he; cases he
theorem evR_len (k : Nat) (i : Int) (gs : List Sc) : (evR k i gs).length ≤ gs.length := by
  induction gs with
  | nil => simp [evR]
  | cons g gs ih =>
    have := ev1_len k i g
    unfold evR at ih ⊢
    rw [List.flatMap_cons, List.length_append, List.length_cons]
    omega
theorem evR_bd {k : Nat} {i : Int} {gs : List Sc} (h : ∀ g ∈ gs, 0 ≤ g.p ∧ g.p ≤ 2) : ∀ e ∈ evR k i gs, 0 ≤ e.p ∧ e.p ≤ 2 := by
  intro e he
  obtain ⟨g, hg, he⟩ := List.mem_flatMap.1 he
  exact ev1_bd (h g hg) e he
theorem evU_len {rs : List (List Sc)} (hf : ∀ gs ∈ rs, gs.length ≤ 12) (i : Int) : ∀ k, k ≤ rs.length → (evU rs i k).length ≤ 12 * k
  | 0, _ => by simp [evU]
  | k + 1, h => by
    have h1 := evU_len hf i k (by omega)
    have h2 := evR_len k i rs[k]
    have h3 := hf rs[k] (List.getElem_mem h)
    rw [evU_next h, List.length_append]; omega
theorem evU_bd {rs : List (List Sc)} (hg : ∀ gs ∈ rs, ∀ g ∈ gs, 0 ≤ g.p ∧ g.p ≤ 2) (i : Int) : ∀ k, k ≤ rs.length → ∀ e ∈ evU rs i k, 0 ≤ e.p ∧ e.p ≤ 2
  | 0, _ => by intro e he; cases he
  | k + 1, h => by
    intro e he
    rw [evU_next h, List.mem_append] at he
    rcases he with he | he
    · exact evU_bd hg i k (by omega) e he
    · exact evR_bd (hg _ (List.getElem_mem h)) e he
theorem ev1_sum (k : Nat) (i : Int) (g : Sc) : sumE (ev1 k i g) = (pts g i).1 := by
  unfold ev1 pts; split
  · simp [sumE]
  · split <;> simp [sumE]
theorem evR_sum (k : Nat) (i : Int) (gs : List Sc) : sumE (evR k i gs) = sum1 gs i := by
  induction gs with
  | nil => simp [evR, sum1, sumE]
  | cons g gs ih =>
    unfold evR sum1 at ih ⊢
    rw [List.flatMap_cons, sumE_app, ih, ev1_sum, List.map_cons, List.sum_cons]
theorem evU_sum (rs : List (List Sc)) (i : Int) : ∀ k, k ≤ rs.length → sumE (evU rs i k) = sumT (rs.take k) i
  | 0, _ => by simp [evU, sumT, sumE]
  | k + 1, h => by rw [evU_next h, sumE_app, evU_sum rs i k (by omega), evR_sum, sumT_next h]
attribute [local irreducible] SC SL wpc wpl wpd wpf wpy wpn FnC FnW RdW
set_option maxRecDepth 100000
set_option pp.deepTerms false
set_option pp.maxSteps 900
set_option maxHeartbeats 2000000
theorem scores_fn {G : Gl} {rs : List (List Sc)} {ra : AV} {xs : List AV} (h : RV rs ra xs) (hf : ∀ gs ∈ rs, gs.length ≤ 12) {m : Nat} (hv : VOk m rs) (ho : G.orc 26 [.s (.int .i64 m), ra] = none) (ho36 : ∀ i, G.orc 36 [ra, .s (.int .i64 i)] = none) (ho58 : ∀ a b c, G.orc 58 [a, b, c] = none) :
    FnC Try.prog G 26 [.s (.int .i64 m), ra] [] (fun v Hn => ∃ id, v = .sl id 0 m none ∧ Hn = [(id, .cells 3 1 true (tab m (fun x => sumT rs x)))]) := by
  have hsl := h.sl
  have hlen := h.len
  have hbig := h.big
  obtain ⟨hv1, hv2, hv3, hv4⟩ := hv
  have hg : ∀ gs ∈ rs, ∀ g ∈ gs, 0 ≤ g.p ∧ g.p ≤ 2 := fun gs hgs g hgg => ((hv4 gs hgs).1 g hgg).2.2.2.2
  refine Fn_body (N := 31) ho Try.func26 rfl rfl fun B => ?_
  repeat' (first
    | refine SC_seq ?_
    | refine SC_block ?_
    | refine SC_region ?_
    | refine SL_seq ?_
    | refine SL_move (by decide) (by rfl) ?_
    | refine SL_assign (by decide) (by rfl) ?_
    | refine SL_len_sl (by decide) (by rfl) (by rfl) (sliceOf_spec (slF (by rfl))).1 ?_
    | refine SL_load_o (by decide) (by rfl) (by repeat (first | exact .head _ | refine .tail _ ?_)) (rowF (by rfl)) (by first | assumption | rfl | exact FI_get _ _ _ (by omega)) (by rfl) ?_
    | refine SL_store_box (by rfl) (by rfl) (by first | exact cells_3 _ _ _ | rfl) (by repeat (first | exact .head | apply Upd.tail)) (by first | exact .inl (by assumption) | exact .inr (by simp)) (by rfl) (szF (by rfl)) (by rfl) ?_
    | refine SL_alloc (by decide) (zeroF (by rfl)) (fun id hid => ?_)
    | refine SL_makeSlice (by decide) (by rfl) (by rfl) (elF (by rfl)) (by omega) (by omega) (by omega) (by omega) (fun id hid => ?_))
  rename_i out hout
  revert id
  intro bx hbx
  refine SC_nd fun hnd0 => ?_
  refine SC_loop (fun a : Nat × List Nat => [(0, .s (.int .i64 m)), (1, ra), (5, .ptr bx 0 0), (12, .s (.int .i64 m)), (13, .s (.int .i64 a.1))]) (fun a => [(bx, .cells 25 1 true [[.sl out 0 m none]]), (out, .cells 3 1 true (tab m (FI (fun x => sumE (evU rs x rs.length)) a.1 0)))]) (fun a => a.2) (fun a => a.1 ≤ m) (fun a => m - a.1) (0, []) (by simp) ⟨rfl, rfl, rfl, rfl, rfl, trivial⟩ ⟨.head _, by rw [← FI_0]; exact .tail _ (.head _), trivial⟩ hnd0 rfl ?_
  rintro ⟨i, dd⟩ hi
  simp only at hi
  dsimp only
  by_cases hilt : i < m
  ·
    repeat' (first
      | (refine SL_call (by decide) (by rfl) bd36 (by rfl) (by rfl) (gamesOf_fn h (i : Int) (ho36 _)) trivial List.nodup_nil ?_; rintro _ _ hBn ⟨ga, gb, rfl, rfl⟩; simp only [List.cons_append, List.nil_append])
      | refine SC_seq ?_
      | refine SC_block ?_
      | refine SC_region ?_
      | refine SL_seq ?_
      | refine SL_move (by decide) (by rfl) ?_
      | (refine SL_lss (by decide) (by rfl) (by rfl) (fun hT => ?_) (fun hT => ?_) <;> first | (exfalso; omega) | skip)
      | refine SL_load_o (by decide) (by rfl) (by repeat (first | exact .head _ | refine .tail _ ?_)) (rowF (by rfl)) (by first | assumption | rfl | exact FI_get _ _ _ (by omega)) (by rfl) ?_
      | refine SL_store_box (by rfl) (by rfl) (by first | exact cells_3 _ _ _ | rfl) (by repeat (first | exact .head | apply Upd.tail)) (by first | exact .inl (by assumption) | exact .inr (by simp)) (by rfl) (szF (by rfl)) (by rfl) ?_
      | refine SL_alloc (by decide) (zeroF (by rfl)) (fun id hid => ?_)
      | refine SC_cond_t (by rfl) ?_
      | (refine SC_skip' (fun tm σ hE hH => ?_); refine SC.app ?_ hE hH; clear hE hH; clear tm σ))
    obtain ⟨bi, hbi, rfl⟩ : ∃ b, B.next ≤ b ∧ b = id := ⟨id, hid, rfl⟩
    refine SC_nd fun hnd1 => ?_
    refine SC_range' (Hr := []) (H0 := (gb, _) :: (ga, _) :: [(bi, .cells 3 1 true [[.s (.int .i64 i)]]), (bx, .cells 25 1 true [[.sl out 0 m none]]), (out, .cells 3 1 true (tab m (FI (fun x => sumE (evU rs x rs.length)) i 0)))])
      (Hfin := [(bi, .cells 3 1 true [[.s (.int .i64 i)]]), (bx, .cells 25 1 true [[.sl out 0 m none]]), (out, .cells 3 1 true (tab m (FI (fun x => sumE (evU rs x rs.length)) i (sumE (evU rs i rs.length)))))]) (M0 := [bi, bx, out]) (xs := fun l => [.yld l, .ptr ga 0 0, .ptr gb 0 0]) (by rfl) (fun l => by rfl) ?_ ?_ ?_
    · intro q hq
      simp only [List.mem_cons, List.not_mem_nil, or_false] at hq
      rcases hq with rfl | rfl | rfl
      · exact ⟨.inl hbi, by simp⟩
      · exact ⟨.inl hbx, by simp⟩
      · exact ⟨.inl hout, by simp⟩
    · intro tm d l hE hl hnot
      refine games_fn h hg i (fun es => [(bi, .cells 3 1 true [[.s (.int .i64 i)]]), (bx, .cells 25 1 true [[.sl out 0 m none]]), (out, .cells 3 1 true (tab m (FI (fun x => sumE (evU rs x rs.length)) i (sumE es))))]) (fun es id' hm => hm) (fun es p hp => by simp at hp; rcases hp with rfl | rfl | rfl <;> simp) (fun es e hpre => ?_) (ho58 _ _ _)
      refine Rd_body' hE rfl (by decide) List.mem_cons_self fun B' => ?_
      have hsum := sumE_bd (es := es) (fun e' he' => evU_bd hg i _ (Nat.le_refl _) e' (hpre.subset (List.mem_append_left _ he')))
      have heb := evU_bd hg i _ (Nat.le_refl _) e (hpre.subset (by simp))
      have hel := hpre.length_le
      have hul := evU_len hf i _ (Nat.le_refl _)
      rw [List.length_append, List.length_singleton] at hel
      repeat' (first
        | refine SC_region ?_
        | refine SL_store_box (by rfl) (by rfl) (by first | exact cells_3 _ _ _ | rfl) (by repeat (first | exact .head | apply Upd.tail)) (by first | exact .inl (by assumption) | exact .inr (by simp)) (by rfl) (szF (by rfl)) (by rfl) ?_
        | refine SL_alloc (by decide) (zeroF (by rfl)) (fun id hid => ?_))
      refine SL_nil fun tm1 σ1 hE1 hH1 => ⟨tm1, σ1, _, _, rfl, hE1, hH1.perm (List.Perm.swap _ _ _), ?_⟩
      clear hE1 hH1
      clear tm1 σ1
      repeat' (first
        | refine SC_block ?_
        | refine SL_add (by decide) (by rfl) (by rfl) (by omega) (by omega) ?_
        | refine SL_fieldAddr (by decide) (by rfl) (fldF (by rfl)) ?_
        | refine SL_indexAddr_0 (by decide) (by rfl) (by rfl) (by repeat (first | exact .head _ | refine .tail _ ?_)) (slF (by rfl)) _ (by first | rfl | exact (Int.toNat_of_nonneg (by omega)).symm) (by omega) ?_
        | refine SL_load_o (by decide) (by rfl) (by repeat (first | exact .head _ | refine .tail _ ?_)) (rowF (by rfl)) (by first | assumption | rfl | exact FI_get _ _ _ (by omega)) (by rfl) ?_
        | refine SL_store_n (by rfl) (by rfl) (by repeat (first | exact .head _ | refine .tail _ ?_)) (by first | assumption | rfl | exact FI_get _ _ _ (by omega)) (by rfl) (by first | exact FI_set _ _ _ _ (by omega) | rfl) (by repeat (first | exact .head | apply Upd.tail)) (by first | exact .inl (by assumption) | exact .inr (by simp)) (szF (by rfl)) (Nat.le_of_ble_eq_true (by rfl)) (by rfl) ?_
        | refine SC_draw (by kernel_rfl) ?_)
      refine SL_nil fun tm2 σ2 hE2 hH2 => ?_
      dsimp only [InB]
      refine RPost.intro (Hn := [(l, _), (bi, _), (bx, _), (out, _)]) hH2 List.mem_cons_self .head ⟨.head _, .tail _ (.tail _ (.head _)), .tail _ (.tail _ (.tail _ (.head _))), .tail _ (.tail _ (.tail _ (.tail _ (.head _)))), trivial⟩ (hH2.nodup.sublist (.cons_cons _ (.cons _ (.refl _)))) (fun p hp => .inl ?_) ⟨rfl, ?_⟩
      · simp only [List.mem_cons, List.not_mem_nil, or_false] at hp
        rcases hp with rfl | rfl | rfl | rfl <;> simp
      · rw [sumE_next]
    · intro d tm' σ' hE' hH'
      refine SC.app ?_ hE' hH'
      clear hE' hH'
      clear tm' σ'
      repeat' (first
        | refine SC_region ?_
        | refine SL_move (by decide) (by rfl) ?_
        | refine SL_add (by decide) (by rfl) (by rfl) (by omega) (by omega) ?_)
      refine SL_nil fun tm σ hE hH => ⟨(i + 1, d :: dd), by show m - (i + 1) < m - i; omega, by show i + 1 ≤ m; omega, tm, σ, rfl, hE.sub ⟨rfl, rfl, rfl, rfl, rfl, trivial⟩, hH.sub ⟨.tail _ (.head _), ?_, trivial⟩ hnd0⟩
      rw [← FI_next]
      exact .tail _ (.tail _ (.head _))
  · obtain rfl : i = m := by omega
    rw [FI_end]
    repeat' (first
      | refine SC_seq ?_
      | refine SC_region ?_
      | refine SL_seq ?_
      | refine SL_assign (by decide) (by rfl) ?_
      | (refine SL_lss (by decide) (by rfl) (by rfl) (fun hT => ?_) (fun hT => ?_) <;> first | (exfalso; omega) | skip)
      | refine SL_load_o (by decide) (by rfl) (by repeat (first | exact .head _ | refine .tail _ ?_)) (rowF (by rfl)) (by first | assumption | rfl | exact FI_get _ _ _ (by omega)) (by rfl) ?_
      | refine SC_cond_f (by rfl) ?_
      | (refine SC_exit (fun tm σ hE hH => ?_); refine SC.app ?_ hE hH; clear hE hH; clear tm σ))
    refine SC_ret (fun tm σ hE hH => Post.intro (Hn := [(out, _)]) (.inr rfl) hE hH (by rfl) ⟨.tail _ (.head _), trivial⟩ (by simp) (by simp [hout]) ⟨out, rfl, ?_⟩)
    rw [tab_congr (g := fun x : Nat => sumT rs x) fun x _ => by rw [evU_sum _ _ _ (Nat.le_refl _), List.take_length]]
end Go.Proofs.Ytldckcopeiginaa
/- slices.Sort on at most twelve numbers. -/
namespace Go.Proofs.Ytldckcopeiginaa
open Go.Ab
theorem ints_set (l : List Int) (i : Nat) (a v : Int) : (ints l).set i (writeRow [.s (.int .i64 a)] 0 [.s (.int .i64 v)]) = ints (l.set i v) := by
  unfold ints
  rw [List.map_set]
  rfl
attribute [local irreducible] SC SL wpc wpl wpd wpf wpy wpn FnC FnW RdW SD
set_option maxRecDepth 100000
set_option pp.deepTerms false
set_option pp.maxSteps 900
set_option maxHeartbeats 2000000
theorem isNaN_fn {G : Gl} (a : Int) (ho : G.orc 57 [.s (.int .i64 a)] = none) : FnC Try.prog G 57 [.s (.int .i64 a)] [] (fun v Hn => v = .s (.bool false) ∧ Hn = []) := by
  refine Fn_body (N := 6) ho Try.func57 rfl rfl fun B => ?_
  repeat' (first
    | refine SC_seq ?_
    | refine SC_region ?_
    | refine SL_seq ?_
    | refine SL_move (by decide) (by rfl) ?_
    | refine SL_assign (by decide) (by rfl) ?_
    | (refine SL_neq (by decide) (by rfl) (by rfl) (fun hT => ?_) (fun hT => ?_) <;> first | (exfalso; omega) | skip))
  refine SC_ret (fun tm σ hE hH => Post.intro (Hn := []) (.inr rfl) hE hH (by rfl) trivial List.nodup_nil (fun p hp => by cases hp) ⟨rfl, rfl⟩)
theorem less_fn {G : Gl} (a b : Int) (ho : ∀ f x y, G.orc f (x :: y) = none) : FnC Try.prog G 59 [.s (.int .i64 a), .s (.int .i64 b)] [] (fun v Hn => v = .s (.bool (decide (a < b))) ∧ Hn = []) := by
  refine Fn_body (N := 17) (ho _ _ _) Try.func59 rfl rfl fun B => ?_
  repeat' (first
    | (refine SL_call (by decide) (by rfl) bd57 (by rfl) (by rfl) (isNaN_fn _ (ho _ _ _)) trivial List.nodup_nil ?_; rintro _ _ _ ⟨rfl, rfl⟩; rw [List.nil_append])
    | refine SC_seq ?_
    | refine SC_region ?_
    | refine SL_seq ?_
    | refine SL_run (by rfl) (by rfl) ?_
    | refine SL_not (by rfl) (by rfl) (by rfl) (by decide) ?_
    | refine SL_move (by decide) (by rfl) ?_
    | refine SL_assign (by decide) (by rfl) ?_
    | refine SL_pick_f (by decide) (by rfl) (by rfl) ?_
    | (refine SL_lss (by decide) (by rfl) (by rfl) (fun hT => ?_) (fun hT => ?_) <;> first | (exfalso; omega) | skip))
  · refine SC_ret (fun tm σ hE hH => Post.intro (Hn := []) (.inr rfl) hE hH (by rfl) trivial List.nodup_nil (fun p hp => by cases hp) ⟨?_, rfl⟩)
    rw [decide_eq_true (by assumption)]; rfl
  · refine SC_ret (fun tm σ hE hH => Post.intro (Hn := []) (.inr rfl) hE hH (by rfl) trivial List.nodup_nil (fun p hp => by cases hp) ⟨?_, rfl⟩)
    rw [decide_eq_false (by omega)]; rfl
theorem getD_set (c : List Int) {i : Nat} (x : Nat) (v : Int) (h : i < c.length) : (c.set i v).getD x 0 = if x = i then v else c.getD x 0 := by
  simp only [List.getD_eq_getElem?_getD, List.getElem?_set]
  by_cases e : i = x
  · subst e; simp [h]
  · have : ¬ x = i := fun h => e h.symm
    simp [e, this]
theorem getD_at (c : List Int) {i : Nat} (h : i < c.length) : c.getD i 0 = c[i] := by simp [List.getD_eq_getElem?_getD, h]
def Ins (c : List Int) (i j : Nat) : Prop := ∀ p q, p < q → q ≤ i → q ≠ j → c.getD p 0 ≤ c.getD q 0
theorem ins_swap {c : List Int} {i j : Nat} (hin : i < c.length) (hj : 0 < j) (hji : j ≤ i) (hp : Ins c i j) (hlt : c.getD j 0 < c.getD (j - 1) 0) : Ins ((c.set j (c.getD (j - 1) 0)).set (j - 1) (c.getD j 0)) i (j - 1) := by
  intro p q h1 h2 h3
  have h0 : (c.set j (c.getD (j - 1) 0)).length = c.length := List.length_set
  rw [getD_set _ _ _ (by omega), getD_set _ _ _ (by omega), getD_set _ _ _ (by omega), getD_set _ _ _ (by omega)]
  rw [if_neg h3]
  by_cases hq : q = j
  · rw [if_pos hq]
    by_cases hp1 : p = j - 1
    · rw [if_pos hp1]; omega
    · rw [if_neg hp1, if_neg (by omega)]
      exact hp p (j - 1) (by omega) (by omega) (by omega)
  · rw [if_neg hq]
    by_cases hp1 : p = j - 1
    · rw [if_pos hp1]; exact hp j q (by omega) h2 hq
    · rw [if_neg hp1]
      by_cases hp2 : p = j
      · rw [if_pos hp2]; exact hp (j - 1) q (by omega) h2 hq
      · rw [if_neg hp2]; exact hp p q h1 h2 hq
theorem ins_done {c : List Int} {i j : Nat} (hp : Ins c i j) (hj : j = 0 ∨ (j ≤ i ∧ c.getD (j - 1) 0 ≤ c.getD j 0)) : ∀ p q, p < q → q < i + 1 → c.getD p 0 ≤ c.getD q 0 := by
  intro p q h1 h2
  by_cases hq : q = j
  · rcases hj with hj | ⟨hj, hle⟩
    · omega
    · subst hq
      by_cases hp1 : p = q - 1
      · rw [hp1]; exact hle
      · exact Int.le_trans (hp p (q - 1) (by omega) (by omega) (by omega)) hle
  · exact hp p q h1 (by omega) hq
def SortedTo (c : List Int) (i : Nat) : Prop := ∀ p q, p < q → q < i → c.getD p 0 ≤ c.getD q 0
theorem insertion_fn {G : Gl} (ho : ∀ f x y, G.orc f (x :: y) = none) (l : List Int) (n : Nat) (hn : l.length = n) (hb : n ≤ 1000) (ex : Bool) (id : Nat) :
    FnW Try.prog G 82 [.sl id 0 n none, .s (.int .i64 0), .s (.int .i64 n)] [id] [(id, .cells 3 1 ex (ints l))] (fun _ Hn => ∃ c : List Int, Hn = [(id, .cells 3 1 ex (ints c))] ∧ c.Perm l ∧ SortedTo c n) := by
  refine FnW_body (N := 49) (ho _ _ _) Try.func82 rfl rfl fun B => ?_
  repeat' (first
    | refine SC_seq ?_
    | refine SC_block ?_
    | refine SC_region ?_
    | refine SL_seq ?_
    | refine SL_move (by decide) (by rfl) ?_
    | refine SL_assign (by decide) (by rfl) ?_
    | refine SL_add (by decide) (by rfl) (by rfl) (by omega) (by omega) ?_)
  refine SC_loop (fun a : Nat × List Int => [(0, .sl id 0 n none), (1, .s (.int .i64 0)), (2, .s (.int .i64 n)), (6, .s (.int .i64 a.1))]) (fun a => [(id, .cells 3 1 ex (ints a.2))]) (fun _ => []) (fun a => 1 ≤ a.1 ∧ (a.1 ≤ n ∨ a.1 = 1) ∧ a.2.length = n ∧ a.2.Perm l ∧ SortedTo a.2 a.1) (fun a => n + 1 - a.1) (1, l)
    ⟨by simp, by simp, hn, .refl _, fun p q h1 h2 => by simp at h2; omega⟩ ⟨rfl, rfl, rfl, rfl, trivial⟩ ⟨.head _, trivial⟩ (by simp) rfl ?_
  rintro ⟨i, c⟩ ⟨hi1, hi2, hc1, hc2, hc3⟩
  dsimp only at hi1 hi2 hc1 hc2 hc3 ⊢
  by_cases hilt : i < n
  ·
    repeat' (first
      | refine SC_seq ?_
      | refine SC_block ?_
      | refine SC_region ?_
      | refine SL_seq ?_
      | refine SL_move (by decide) (by rfl) ?_
      | refine SL_assign (by decide) (by rfl) ?_
      | (refine SL_lss (by decide) (by rfl) (by rfl) (fun hT => ?_) (fun hT => ?_) <;> first | (exfalso; omega) | skip)
      | refine SC_cond_t (by rfl) ?_
      | (refine SC_skip' (fun tm σ hE hH => ?_); refine SC.app ?_ hE hH; clear hE hH; clear tm σ))
    refine SC_loop (fun a : Nat × List Int => [(0, .sl id 0 n none), (1, .s (.int .i64 0)), (2, .s (.int .i64 n)), (6, .s (.int .i64 i)), (7, .s (.int .i64 a.1))]) (fun a => [(id, .cells 3 1 ex (ints a.2))]) (fun _ => []) (fun a => a.1 ≤ i ∧ a.2.length = n ∧ a.2.Perm l ∧ ∀ p q, p < q → q ≤ i → q ≠ a.1 → a.2.getD p 0 ≤ a.2.getD q 0) (fun a => a.1) (i, c)
      ⟨by simp, hc1, hc2, fun p q h1 h2 h3 => hc3 p q h1 (by dsimp only at h3; omega)⟩ ⟨rfl, rfl, rfl, rfl, rfl, trivial⟩ ⟨.head _, trivial⟩ (by simp) rfl ?_
    rintro ⟨j, c'⟩ ⟨hj1, hd1, hd2, hd3⟩
    dsimp only at hj1 hd1 hd2 hd3 ⊢
    by_cases hj0 : 0 < j
    · have hjn : j < c'.length := by omega
      have hjp : (j - 1 : Int).toNat < c'.length := by omega
      repeat' (first
        | (refine SD_nil (fun tm σ hE hH => ⟨_, _, _, _, _, rfl, hE, hH, fun _ h => (by cases h), ?_⟩); clear hE hH; clear tm σ; intro tm σ hE hH; refine SC.app ?_ hE hH; clear hE hH; clear tm σ)
        | (refine SC_drawn (id := 4) (pl := [(0, []), (1, []), (2, []), (3, []), (4, []), (5, []), (6, []), (7, []), (8, []), (9, []), (10, []), (11, []), (12, []), (13, []), (14, [])]) (by kernel_rfl) (by kernel_rfl) ?_; intro B' base hb1 hb2 hb3 hb4)
        | (refine SL_call (by decide) (by rfl) bd59 (by rfl) (by rfl) (less_fn _ _ ho) trivial List.nodup_nil ?_; rintro _ _ _ ⟨rfl, rfl⟩; rw [List.nil_append]; refine SL_bool (i := 29) (by rfl) (fun hT => ?_) (fun hT => ?_))
        | refine SC_seq ?_
        | refine SC_block ?_
        | refine SC_region ?_
        | (refine SL_nil (fun tm σ hE hH => ?_); refine SC.app ?_ hE hH; clear hE hH; clear tm σ)
        | refine SL_run (by rfl) (by rfl) ?_
        | refine SL_move (by decide) (by rfl) ?_
        | refine SL_assign (by decide) (by rfl) ?_
        | refine SL_pick_t (by decide) (by rfl) (by rfl) ?_
        | refine SL_add (by decide) (by rfl) (by rfl) (by omega) (by omega) ?_
        | refine SL_sub (by decide) (by rfl) (by rfl) (by omega) (by omega) ?_
        | (refine SL_gtr (by decide) (by rfl) (by rfl) (fun hT => ?_) (fun hT => ?_) <;> first | (exfalso; omega) | skip)
        | refine SL_indexAddr_0 (by decide) (by rfl) (by rfl) (by repeat (first | exact .head _ | refine .tail _ ?_)) (slF (by rfl)) _ (by first | rfl | exact (Int.toNat_of_nonneg (by omega)).symm) (by omega) ?_
        | refine SL_load_o (by decide) (by rfl) (by repeat (first | exact .head _ | refine .tail _ ?_)) (rowF (by rfl)) (by first | assumption | rfl | exact ints_get _ (by omega) | exact ints_get _ (by simp only [List.length_set]; omega)) (by rfl) ?_
        | refine SL_store_n (by rfl) (by rfl) (by repeat (first | exact .head _ | refine .tail _ ?_)) (by first | assumption | rfl | exact ints_get _ (by omega) | exact ints_get _ (by simp only [List.length_set]; omega)) (by rfl) (by first | exact ints_set _ _ _ _ | rfl) (by repeat (first | exact .head | apply Upd.tail)) (by first | exact .inl (by assumption) | exact .inr (by simp)) (szF (by rfl)) (Nat.le_of_ble_eq_true (by rfl)) (by rfl) ?_
        | refine SC_draw (by kernel_rfl) ?_
        | refine SC_cond_t (by rfl) ?_
        | refine SC_cond_f (by rfl) ?_
        | (refine SC_exit (fun tm σ hE hH => ?_); refine SC.app ?_ hE hH; clear hE hH; clear tm σ)
        | (refine SC_skip' (fun tm σ hE hH => ?_); refine SC.app ?_ hE hH; clear hE hH; clear tm σ)
        | (refine SL_nil (fun tm σ hE hH => ⟨_, _, _, _, rfl, hE, hH, ?_⟩); clear hE hH; clear tm σ)
        | refine SD_op _ [] (by rfl) (by rfl) (fun _ h => h) (fun p hp => by cases hp) (fun k hk => by cases hk) (.inl rfl) ?_)
      · have hlt : c'[j] < c'[(↑j - 1 : Int).toNat] := of_decide_eq_true (by assumption)
        refine SL_nil fun tm σ hE hH => ⟨(j - 1, (c'.set j c'[(↑j - 1 : Int).toNat]).set (↑j - 1 : Int).toNat c'[j]), by show j - 1 < j; omega, ⟨by show j - 1 ≤ i; omega, by simp [hd1], (List.set_set_perm hjn hjp).trans hd2, ?_⟩, tm, σ, rfl, hE.sub ⟨rfl, rfl, rfl, rfl, ?_, trivial⟩, hH.sub ⟨.head _, trivial⟩ (by simp)⟩
        · have e : (↑j - 1 : Int).toNat = j - 1 := by omega
          have := ins_swap (i := i) (by omega) hj0 hj1 hd3 (by rw [getD_at _ hjn, getD_at _ (by omega)]; simp only [e] at hlt; exact hlt)
          rw [getD_at _ hjn, getD_at _ (by omega)] at this
          simp only [e]
          exact this
        · have e : ((j - 1 : Nat) : Int) = ↑j - 1 := by omega
          show some _ = some (AV.s (Value.int IntKind.i64 ((j - 1 : Nat) : Int)))
          rw [e]
      · have hge : ¬ c'[j] < c'[(↑j - 1 : Int).toNat] := of_decide_eq_false (by assumption)
        refine SL_nil fun tm σ hE hH => ⟨(i + 1, c'), by show n + 1 - (i + 1) < n + 1 - i; omega, ⟨by show 1 ≤ i + 1; omega, .inl (by show i + 1 ≤ n; omega), hd1, hd2, ?_⟩, tm, σ, rfl, hE.sub ⟨rfl, rfl, rfl, rfl, trivial⟩, hH.sub ⟨.head _, trivial⟩ (by simp)⟩
        refine ins_done hd3 (.inr ⟨hj1, ?_⟩)
        have e : (↑j - 1 : Int).toNat = j - 1 := by omega
        have hj2 : j - 1 < c'.length := by omega
        simp only [e] at hge
        rw [getD_at _ hjn, getD_at _ hj2]
        exact Int.not_lt.1 hge
    · obtain rfl : j = 0 := by omega
      repeat' (first
        | (refine SD_nil (fun tm σ hE hH => ⟨_, _, _, _, _, rfl, hE, hH, fun _ h => (by cases h), ?_⟩); clear hE hH; clear tm σ; intro tm σ hE hH; refine SC.app ?_ hE hH; clear hE hH; clear tm σ)
        | (refine SC_drawn (id := 4) (pl := [(0, []), (1, []), (2, []), (3, []), (4, []), (5, []), (6, []), (7, []), (8, []), (9, []), (10, []), (11, []), (12, []), (13, []), (14, [])]) (by kernel_rfl) (by kernel_rfl) ?_; intro B' base hb1 hb2 hb3 hb4)
        | refine SC_seq ?_
        | refine SC_region ?_
        | refine SL_not (by rfl) (by rfl) (by rfl) (by decide) ?_
        | refine SL_move (by decide) (by rfl) ?_
        | refine SL_assign (by decide) (by rfl) ?_
        | refine SL_pick_f (by decide) (by rfl) (by rfl) ?_
        | refine SL_add (by decide) (by rfl) (by rfl) (by omega) (by omega) ?_
        | (refine SL_gtr (by decide) (by rfl) (by rfl) (fun hT => ?_) (fun hT => ?_) <;> first | (exfalso; omega) | skip)
        | refine SC_cond_f (by rfl) ?_
        | (refine SC_exit (fun tm σ hE hH => ?_); refine SC.app ?_ hE hH; clear hE hH; clear tm σ)
        | (refine SL_nil (fun tm σ hE hH => ⟨_, _, _, _, rfl, hE, hH, ?_⟩); clear hE hH; clear tm σ)
        | refine SD_op _ [] (by rfl) (by rfl) (fun _ h => h) (fun p hp => by cases hp) (fun k hk => by cases hk) (.inl rfl) ?_)
      refine SL_nil fun tm σ hE hH => ⟨(i + 1, c'), by show n + 1 - (i + 1) < n + 1 - i; omega, ⟨by show 1 ≤ i + 1; omega, .inl (by show i + 1 ≤ n; omega), hd1, hd2, ins_done hd3 (.inl rfl)⟩, tm, σ, rfl, hE.sub ⟨rfl, rfl, rfl, rfl, trivial⟩, hH.sub ⟨.head _, trivial⟩ (by simp)⟩
  ·
    repeat' (first
      | refine SC_seq ?_
      | refine SC_region ?_
      | refine SL_seq ?_
      | refine SL_move (by decide) (by rfl) ?_
      | (refine SL_lss (by decide) (by rfl) (by rfl) (fun hT => ?_) (fun hT => ?_) <;> first | (exfalso; omega) | skip)
      | refine SC_cond_f (by rfl) ?_)
    refine SC_exit (fun tm σ hE hH => ?_)
    refine PostW.intro (vs := []) (Hn := [(id, _)]) (.inl rfl) hE hH (by rfl) ⟨.head _, trivial⟩ (by simp) (fun p hp => .inl (by simp at hp; simp [hp])) ⟨c, rfl, hc2, fun p q h1 h2 => hc3 p q h1 (by omega)⟩
end Go.Proofs.Ytldckcopeiginaa
/- slices.Sort on at most twelve numbers: the calls around the insertion sort. -/
namespace Go.Proofs.Ytldckcopeiginaa
open Go.Ab
theorem bl_of {P : Program} {g : FuncId} (h : (P.funcs[g]?).map (·.body.isNone) = some false) : bodyless P (.s (.func (.func g) #[] #[])) = false := by
  cases hp : P.funcs[g]? with
  | none => simp only [bodyless, hp]
  | some fn => rw [hp] at h; simp at h; simp [bodyless, hp, h]
theorem bd63 : (Try.prog.funcs[63]?).map (·.body.isNone) = some false := by rw [Try.func63]; rfl
theorem bd73 : (Try.prog.funcs[73]?).map (·.body.isNone) = some false := by rw [Try.func73]; rfl
theorem bd75 : (Try.prog.funcs[75]?).map (·.body.isNone) = some false := by rw [Try.func75]; rfl
theorem bd82 : (Try.prog.funcs[82]?).map (·.body.isNone) = some false := by rw [Try.func82]; rfl
def lenU (n : Nat) : Int := [0, 1, 2, 2, 3, 3, 3, 3, 4, 4, 4, 4, 4].getD n 0
theorem cases13 {n : Nat} (h : n ≤ 12) : n = 0 ∨ n = 1 ∨ n = 2 ∨ n = 3 ∨ n = 4 ∨ n = 5 ∨ n = 6 ∨ n = 7 ∨ n = 8 ∨ n = 9 ∨ n = 10 ∨ n = 11 ∨ n = 12 := by omega
theorem lenU_bd {n : Nat} (h : n ≤ 12) : 0 ≤ lenU n ∧ lenU n ≤ 4 := by
  rcases cases13 h with rfl | rfl | rfl | rfl | rfl | rfl | rfl | rfl | rfl | rfl | rfl | rfl | rfl <;> decide
attribute [local irreducible] SC SL wpc wpl wpd wpf wpy wpn FnC FnW RdW SD
set_option maxRecDepth 100000
set_option pp.deepTerms false
set_option pp.maxSteps 900
set_option maxHeartbeats 2000000
theorem len64_fn {G : Gl} (n : Nat) (hn : n ≤ 12) (ho : ∀ f x y, G.orc f (x :: y) = none) : FnC Try.prog G 73 [.s (.int .u64 n)] [] (fun v Hn => v = .s (.int .i64 (lenU n)) ∧ Hn = []) := by
  have hcs := cases13 hn
  have hbd := lenU_bd hn
  refine Fn_body (N := 25) (ho _ _ _) Try.func73 rfl rfl fun B => ?_
  repeat' (first
    | refine SL_pure (d := 23) (v := .s (.int .i64 (lenU n))) [(22, .s (.int .u8 (lenU n)))] (by decide) ⟨rfl, trivial⟩ (by rfl) (fun _ _ _ => rfl) (by intro _ _ h; cases h) (by rcases hcs with rfl | rfl | rfl | rfl | rfl | rfl | rfl | rfl | rfl | rfl | rfl | rfl | rfl <;> kernel_rfl) ?_
    | refine SL_pure (d := 22) (v := .s (.int .u8 (lenU n))) [(21, .s (.int .u8 n))] (by decide) ⟨rfl, trivial⟩ (by rfl) (fun _ _ _ => rfl) (by intro _ _ h; cases h) (by rcases hcs with rfl | rfl | rfl | rfl | rfl | rfl | rfl | rfl | rfl | rfl | rfl | rfl | rfl <;> kernel_rfl) ?_
    | refine SL_pure (d := 21) (v := .s (.int .u8 n)) [(20, .s (.int .u64 n))] (by decide) ⟨rfl, trivial⟩ (by rfl) (fun _ _ _ => rfl) (by intro _ _ h; cases h) (by rcases hcs with rfl | rfl | rfl | rfl | rfl | rfl | rfl | rfl | rfl | rfl | rfl | rfl | rfl <;> kernel_rfl) ?_
    | refine SC_seq ?_
    | refine SC_region ?_
    | refine SL_seq ?_
    | refine SL_move (by decide) (by rfl) ?_
    | refine SL_assign (by decide) (by rfl) ?_
    | refine SL_add (by decide) (by rfl) (by rfl) (by omega) (by omega) ?_
    | (refine SL_geq (by decide) (by rfl) (by rfl) (fun hT => ?_) (fun hT => ?_) <;> first | (exfalso; omega) | skip)
    | refine SC_cond_f (by rfl) ?_
    | (refine SC_skip' (fun tm σ hE hH => ?_); refine SC.app ?_ hE hH; clear hE hH; clear tm σ))
  refine SC_ret (fun tm σ hE hH => Post.intro (Hn := []) (.inr rfl) hE hH (by rfl) trivial List.nodup_nil (fun p hp => by cases hp) ⟨?_, rfl⟩)
  simp only [Int.zero_add]; rfl
theorem len_fn {G : Gl} (n : Nat) (hn : n ≤ 12) (ho : ∀ f x y, G.orc f (x :: y) = none) : FnC Try.prog G 56 [.s (.int .u64 n)] [] (fun v Hn => v = .s (.int .i64 (lenU n)) ∧ Hn = []) := by
  refine Fn_body (N := 8) (ho _ _ _) Try.func56 rfl rfl fun B => ?_
  repeat' (first
    | (refine SL_call (by decide) (by rfl) bd73 (by rfl) (by rfl) (len64_fn n hn ho) trivial List.nodup_nil ?_; rintro _ _ _ ⟨rfl, rfl⟩; rw [List.nil_append])
    | refine SC_seq ?_
    | refine SC_region ?_
    | refine SL_seq ?_
    | refine SL_move (by decide) (by rfl) ?_
    | refine SL_assign (by decide) (by rfl) ?_
    | refine SC_cond_f (by rfl) ?_
    | (refine SC_skip' (fun tm σ hE hH => ?_); refine SC.app ?_ hE hH; clear hE hH; clear tm σ))
  refine SC_ret (fun tm σ hE hH => Post.intro (Hn := []) (.inr rfl) hE hH (by rfl) trivial List.nodup_nil (fun p hp => by cases hp) ⟨rfl, rfl⟩)
theorem pdq_fn {G : Gl} (n : Nat) (hn : n ≤ 12) (ho : ∀ f x y, G.orc f (x :: y) = none) (l : List Int) (hl : l.length = n) (ex : Bool) (id : Nat) :
    FnW Try.prog G 75 [.sl id 0 n none, .s (.int .i64 0), .s (.int .i64 n), .s (.int .i64 (lenU n))] [id] [(id, .cells 3 1 ex (ints l))] (fun _ Hn => ∃ c : List Int, Hn = [(id, .cells 3 1 ex (ints c))] ∧ c.Perm l ∧ SortedTo c n) := by
  refine FnW_body (N := 134) (ho _ _ _) Try.func75 rfl rfl fun B => ?_
  repeat' (first
    | refine SC_seq ?_
    | refine SC_block ?_
    | refine SC_region ?_
    | refine SL_seq ?_
    | refine SL_assign (by decide) (by rfl) ?_)
  refine SC_loop (fun _ : Unit => [(0, .sl id 0 n none), (1, .s (.int .i64 0)), (2, .s (.int .i64 n))]) (fun _ => [(id, .cells 3 1 ex (ints l))]) (fun _ => []) (fun _ => True) (fun _ => 0) () trivial ⟨rfl, rfl, rfl, trivial⟩ ⟨.head _, trivial⟩ (by simp) rfl ?_
  intro _ _
  repeat' (first
    | (refine SL_callW (Hr := []) (H0 := [(id, _)]) (M := [id]) (by decide) (by rfl) (bl_of bd82) (by rfl) (by rfl) (insertion_fn ho l n hl (by omega) ex id) (fun x hx => ⟨.inr hx, by simpa using hx⟩) ?_; rintro v82 _ ⟨c, rfl, hcp, hcs2⟩; rw [List.nil_append])
    | refine SC_seq ?_
    | refine SC_block ?_
    | refine SC_region ?_
    | refine SL_seq ?_
    | refine SL_move (by decide) (by rfl) ?_
    | refine SL_assign (by decide) (by rfl) ?_
    | refine SL_sub (by decide) (by rfl) (by rfl) (by omega) (by omega) ?_
    | (refine SL_leq (by decide) (by rfl) (by rfl) (fun hT => ?_) (fun hT => ?_) <;> first | (exfalso; omega) | skip)
    | refine SC_cond_t (by rfl) ?_)
  refine SC_ret (fun tm σ hE hH => PostW.intro (vs := []) (Hn := [(id, _)]) (.inr rfl) hE hH (by rfl) ⟨.head _, trivial⟩ (by simp) (fun p hp => .inl (by simp at hp; simp [hp])) ⟨c, rfl, hcp, hcs2⟩)
theorem sort_fn {G : Gl} (n : Nat) (hn : n ≤ 12) (ho : ∀ f x y, G.orc f (x :: y) = none) (l : List Int) (hl : l.length = n) (ex : Bool) (id : Nat) :
    FnW Try.prog G 63 [.sl id 0 n none] [id] [(id, .cells 3 1 ex (ints l))] (fun _ Hn => ∃ c : List Int, Hn = [(id, .cells 3 1 ex (ints c))] ∧ c.Perm l ∧ SortedTo c n) := by
  have hcs := cases13 hn
  refine FnW_body (N := 11) (ho _ _ _) Try.func63 rfl rfl fun B => ?_
  repeat' (first
    | (refine SL_callW (Hr := []) (H0 := [(id, _)]) (M := [id]) (by decide) (by rfl) (bl_of bd75) (by rfl) (by rfl) (pdq_fn n hn ho l hl ex id) (fun x hx => ⟨.inr hx, by simpa using hx⟩) ?_; rintro v75 _ ⟨c, rfl, hcp, hcs2⟩; rw [List.nil_append])
    | refine SL_pure (d := 8) (v := .s (.int .u64 n)) [(7, .s (.int .i64 n))] (by decide) ⟨rfl, trivial⟩ (by rfl) (fun _ _ _ => rfl) (by intro _ _ h; cases h) (by rcases hcs with rfl | rfl | rfl | rfl | rfl | rfl | rfl | rfl | rfl | rfl | rfl | rfl | rfl <;> kernel_rfl) ?_
    | (refine SL_call (by decide) (by rfl) bd56 (by rfl) (by rfl) (len_fn n hn ho) trivial List.nodup_nil ?_; rintro _ _ _ ⟨rfl, rfl⟩; rw [List.nil_append])
    | refine SC_seq ?_
    | refine SC_region ?_
    | refine SL_seq ?_
    | refine SL_move (by decide) (by rfl) ?_
    | refine SL_assign (by decide) (by rfl) ?_
    | refine SL_len_sl (by decide) (by rfl) (by rfl) (sliceOf_spec (slF (by rfl))).1 ?_)
  refine SL_nil (fun tm σ hE hH => ?_)
  refine PostW.intro (vs := []) (Hn := [(id, _)]) (.inl rfl) hE hH (by rfl) ⟨.head _, trivial⟩ (by simp) (fun p hp => .inl (by simp at hp; simp [hp])) ⟨c, rfl, hcp, hcs2⟩
theorem insertion_nil {G : Gl} (ho : ∀ f x y, G.orc f (x :: y) = none) : FnC Try.prog G 82 [.s (.slice none 0 0), .s (.int .i64 0), .s (.int .i64 0)] [] (fun _ Hn => Hn = []) := by
  refine Fn_body (N := 49) (ho _ _ _) Try.func82 rfl rfl fun B => ?_
  repeat' (first
    | refine SC_seq ?_
    | refine SC_block ?_
    | refine SC_region ?_
    | refine SL_seq ?_
    | refine SL_move (by decide) (by rfl) ?_
    | refine SL_assign (by decide) (by rfl) ?_
    | refine SL_add (by decide) (by rfl) (by rfl) (by omega) (by omega) ?_)
  refine SC_loop (fun _ : Unit => [(0, .s (.slice none 0 0)), (1, .s (.int .i64 0)), (2, .s (.int .i64 0)), (6, .s (.int .i64 1))]) (fun _ => []) (fun _ => []) (fun _ => True) (fun _ => 0) () trivial ⟨rfl, rfl, rfl, rfl, trivial⟩ trivial List.nodup_nil rfl ?_
  intro _ _
  repeat' (first
    | refine SC_seq ?_
    | refine SC_region ?_
    | refine SL_seq ?_
    | refine SL_move (by decide) (by rfl) ?_
    | (refine SL_lss (by decide) (by rfl) (by rfl) (fun hT => ?_) (fun hT => ?_) <;> first | (exfalso; omega) | skip)
    | refine SC_cond_f (by rfl) ?_)
  refine SC_exit (fun tm σ hE hH => Post.intro (vs := []) (Hn := []) (.inl rfl) hE hH (by rfl) trivial List.nodup_nil (fun p hp => by cases hp) rfl)
theorem pdq_nil {G : Gl} (ho : ∀ f x y, G.orc f (x :: y) = none) : FnC Try.prog G 75 [.s (.slice none 0 0), .s (.int .i64 0), .s (.int .i64 0), .s (.int .i64 (lenU 0))] [] (fun _ Hn => Hn = []) := by
  refine Fn_body (N := 134) (ho _ _ _) Try.func75 rfl rfl fun B => ?_
  repeat' (first
    | refine SC_seq ?_
    | refine SC_block ?_
    | refine SC_region ?_
    | refine SL_seq ?_
    | refine SL_assign (by decide) (by rfl) ?_)
  refine SC_loop (fun _ : Unit => [(0, .s (.slice none 0 0)), (1, .s (.int .i64 0)), (2, .s (.int .i64 0))]) (fun _ => []) (fun _ => []) (fun _ => True) (fun _ => 0) () trivial ⟨rfl, rfl, rfl, trivial⟩ trivial List.nodup_nil rfl ?_
  intro _ _
  repeat' (first
    | (refine SL_call (by decide) (by rfl) bd82 (by rfl) (by rfl) (insertion_nil ho) trivial List.nodup_nil ?_; rintro v82 _ _ rfl; rw [List.nil_append])
    | refine SC_seq ?_
    | refine SC_block ?_
    | refine SC_region ?_
    | refine SL_seq ?_
    | refine SL_move (by decide) (by rfl) ?_
    | refine SL_assign (by decide) (by rfl) ?_
    | refine SL_sub (by decide) (by rfl) (by rfl) (by omega) (by omega) ?_
    | (refine SL_leq (by decide) (by rfl) (by rfl) (fun hT => ?_) (fun hT => ?_) <;> first | (exfalso; omega) | skip)
    | refine SC_cond_t (by rfl) ?_)
  refine SC_ret (fun tm σ hE hH => Post.intro (vs := []) (Hn := []) (.inr rfl) hE hH (by rfl) trivial List.nodup_nil (fun p hp => by cases hp) rfl)
theorem sort_nil {G : Gl} (ho : ∀ f x y, G.orc f (x :: y) = none) : FnC Try.prog G 63 [.s (.slice none 0 0)] [] (fun _ Hn => Hn = []) := by
  refine Fn_body (N := 11) (ho _ _ _) Try.func63 rfl rfl fun B => ?_
  repeat' (first
    | (refine SL_call (by decide) (by rfl) bd75 (by rfl) (by rfl) (pdq_nil ho) trivial List.nodup_nil ?_; rintro v75 _ _ rfl; rw [List.nil_append])
    | refine SL_pure (d := 8) (v := .s (.int .u64 ((0 : Nat) : Int))) [(7, .s (.int .i64 0))] (by decide) ⟨rfl, trivial⟩ (by rfl) (fun _ _ _ => rfl) (by intro _ _ h; cases h) (by kernel_rfl) ?_
    | (refine SL_call (by decide) (by rfl) bd56 (by rfl) (by rfl) (len_fn 0 (by omega) ho) trivial List.nodup_nil ?_; rintro _ _ _ ⟨rfl, rfl⟩; rw [List.nil_append])
    | refine SC_seq ?_
    | refine SC_region ?_
    | refine SL_seq ?_
    | refine SL_move (by decide) (by rfl) ?_
    | refine SL_assign (by decide) (by rfl) ?_
    | refine SL_len_0 (by decide) (by rfl) (by rfl) (sliceOf_spec (slF (by rfl))).1 ?_)
  refine SL_nil (fun tm σ hE hH => Post.intro (vs := []) (Hn := []) (.inl rfl) hE hH (by rfl) trivial List.nodup_nil (fun p hp => by cases hp) rfl)
end Go.Proofs.Ytldckcopeiginaa
/- The scores of a player's foes, sorted. -/
namespace Go.Ab
theorem hnotbase {H : List (Nat × AObj)} {base k : Nat} (h : ∀ p ∈ H, p.1 < base) (hm : base + k ∈ H.map (·.1)) : False := by
  obtain ⟨p, hp, he⟩ := List.mem_map.1 hm
  have := h p hp
  omega
theorem SD_build1 {P : Program} {G : Gl} {B : AS} {W : List Nat} {base : Nat} {ops : Array Oper} {rest : List (Nat × List Nat)} {L : List (Nat × AV)} {N : Nat} {H : List (Nat × AObj)} {RC : List (Nat × Nat)} {Q : Cfg → Prop} {i d : Nat} {t e : TypeId} {b : Nat} {z : List AV} {x : Operand} {ty : TypeId} {pos : String} {af : Array Edge} {v : AV}
    (hi : ops[i]? = some ⟨some d, .buildSlice t 1 #[(0, x)], ty, pos, af, none⟩) (hc : (cls ⟨some d, .buildSlice t 1 #[(0, x)], ty, pos, af, none⟩ == 3) = true) (hd : d < N) (hx : evL G L x = some v) (ht : elOf P t = some (e, 1, b, z)) (hcl : cellsOf v = [v]) (hRC : ∀ p ∈ RC, p.1 ≠ i)
    (hnW : base + i ∉ W) (hnH : base + i ∉ H.map (·.1)) (hlt : base + i < B.next) (hfree : B.objs.get (base + i) = none)
    (h : SD P G B ((base + i) :: W) base ops rest ((d, .sl (base + i) 0 1 none) :: L) N ((base + i, .cells e 1 true [[v]]) :: H) RC Q) : SD P G B W base ops ((i, []) :: rest) L N H RC Q :=
  SD_new (.cells e 1 true [[v]]) (fun id => .sl id 0 1 none) hi hc hd hRC hnW hnH hlt hfree (fun tm σ h1 => by
    obtain ⟨hu, hs, info, zv, hi, hz, hsz, hn, hbb, hzz⟩ := elOf_spec ht
    subst hzz
    unfold eff
    have hr : setRows info.size (List.replicate 1 (zv.cells.toList.map .s)) [(0, v)] = some [[v]] := by rw [hn]; simp [setRows, hcl]
    simp only [effBuildSlice, List.map_cons, List.map_nil, h1.ev hx, hu, hi, hz]
    rw [if_pos ⟨hsz, by rw [hn]; decide⟩, hr, hn]) h
end Go.Ab
namespace Go.Proofs.Ytldckcopeiginaa
open Go.Ab
def foesL (F : Nat → Int) (es : List Ev) : List Int := (es.filter fun e => decide (0 ≤ e.o)).map fun e => F e.o.toNat
theorem foesL_in (F : Nat → Int) (es : List Ev) (e : Ev) (h : 0 ≤ e.o) : foesL F (es ++ [e]) = foesL F es ++ [F e.o.toNat] := by
  unfold foesL; simp [List.filter_append, h]
theorem foesL_out (F : Nat → Int) (es : List Ev) (e : Ev) (h : e.o < 0) : foesL F (es ++ [e]) = foesL F es := by
  unfold foesL; simp [List.filter_append]; omega
theorem foesL_len (F : Nat → Int) {es fs : List Ev} (h : es <+: fs) : (foesL F es).length ≤ (foesL F fs).length := by
  obtain ⟨t, rfl⟩ := h
  unfold foesL
  simp [List.filter_append]
attribute [local irreducible] SC SL wpc wpl wpd wpf wpy wpn FnC FnW RdW SD
set_option maxRecDepth 100000
set_option pp.deepTerms false
set_option pp.maxSteps 900
set_option maxHeartbeats 2000000
def outV (F : Nat → Int) (es : List Ev) : Option Nat → AV
  | none => .s (.slice none 0 0)
  | some id => .sl id 0 (foesL F es).length none
def outH (F : Nat → Int) (es : List Ev) : Option Nat → List (Nat × AObj)
  | none => []
  | some id => [(id, .cells 3 1 false (ints (foesL F es)))]
theorem foes_fn {G : Gl} {rs : List (List Sc)} {ra : AV} {xs : List AV} (h : RV rs ra xs) (hg : ∀ gs ∈ rs, ∀ g ∈ gs, 0 ≤ g.p ∧ g.p ≤ 2) (ho : ∀ f x y, G.orc f (x :: y) = none) {m : Nat} (F : Nat → Int) (i : Int) (hev : ∀ e ∈ evU rs i rs.length, e.o < m) (hlen : (foesL F (evU rs i rs.length)).length ≤ 12) (sc : Nat) :
    FnC Try.prog G 44 [.sl sc 0 m none, ra, .s (.int .i64 i)] [(sc, .cells 3 1 true (tab m F))] (fun v Hn => (foesL F (evU rs i rs.length) = [] ∧ v = .s (.slice none 0 0) ∧ Hn = []) ∨
      ∃ id c, v = .sl id 0 c.length none ∧ Hn = [(id, .cells 3 1 false (ints c))] ∧ c.Perm (foesL F (evU rs i rs.length)) ∧ SortedTo c c.length) := by
  have hsl := h.sl
  refine Fn_body (N := 29) (ho _ _ _) Try.func44 rfl rfl fun B => ?_
  repeat' (first
    | (refine SL_call (by decide) (by rfl) bd36 (by rfl) (by rfl) (gamesOf_fn h i (ho _ _ _)) trivial List.nodup_nil ?_; rintro _ _ hBn ⟨ga, gb, rfl, rfl⟩; simp only [List.cons_append, List.nil_append])
    | refine SC_seq ?_
    | refine SC_block ?_
    | refine SC_region ?_
    | refine SL_seq ?_
    | refine SL_move (by decide) (by rfl) ?_
    | refine SL_assign (by decide) (by rfl) ?_
    | refine SL_alloc (by decide) (zeroF (by rfl)) (fun id hid => ?_)
    | refine SL_box (by decide) (by rfl) (by first | exact cells_3 _ _ _ | rfl) (fun id hid => ?_))
  rename_i b3 hb3
  obtain ⟨b7, hb7, rfl⟩ : ∃ b, B.next ≤ b ∧ b = id := ⟨id, hid, rfl⟩
  refine SC_perm (List.perm_append_comm (l₁ := [(gb, _), (ga, _), (b7, _)]) (l₂ := [(b3, _), (sc, _)])) (SC_nd fun hnd1 => ?_)
  refine SC_range2 (Hr := [(b3, .cells 25 1 true [[.sl sc 0 m none]]), (sc, .cells 3 1 true (tab m F))]) (Hx := [(b3, .cells 25 1 true [[.sl sc 0 m none]]), (sc, .cells 3 1 true (tab m F))])
    (Fin := fun H => ∃ oid, H = (b7, .cells 25 1 true [[outV F (evU rs i rs.length) oid]]) :: outH F (evU rs i rs.length) oid ∧ (oid = none → foesL F (evU rs i rs.length) = [])) (M0 := [b7]) (xs := fun l => [.yld l, .ptr ga 0 0, .ptr gb 0 0]) (by rfl) (fun l => by rfl) ?_ (fun p hp => hp) ?_ ?_ ?_
  · intro q hq
    rw [List.mem_singleton] at hq
    subst hq
    exact ⟨.inl hb7, by simp⟩
  · rw [List.map_append, List.nodup_append] at hnd1
    exact hnd1.1
  · intro tm d l hE hl hnot
    refine games2_fn h hg i (fun es H => ∃ oid, H = (b7, .cells 25 1 true [[outV F es oid]]) :: outH F es oid ∧ (oid = none → foesL F es = [])) [(b7, .cells 25 1 true [[.s (.slice none 0 0)]])] [(b3, .cells 25 1 true [[.sl sc 0 m none]]), (sc, .cells 3 1 true (tab m F))] ⟨none, rfl, fun _ => rfl⟩ ?_ (ho _ _ _)
    rintro es e Hc hpre ⟨oid, rfl, hoid⟩
    have hem := hev e (hpre.subset (by simp))
    cases oid with
    | none =>
      have hf0 := hoid rfl
      refine Rd_body' (H := _) hE rfl (by decide) List.mem_cons_self fun B' => ?_
      dsimp only [outV, outH, List.cons_append, List.nil_append]
      repeat' (first
        | refine SC_region ?_
        | refine SL_store_box (by rfl) (by rfl) (by first | exact cells_3 _ _ _ | rfl) (by repeat (first | exact .head | apply Upd.tail)) (by first | exact .inl (by assumption) | exact .inr (by simp)) (by rfl) (szF (by rfl)) (by rfl) ?_
        | refine SL_alloc (by decide) (zeroF (by rfl)) (fun id hid => ?_))
      refine SL_nil fun tm1 σ1 hE1 hH1 => ⟨tm1, σ1, _, _, rfl, hE1, hH1.perm (List.Perm.swap _ _ _), ?_⟩
      clear hE1 hH1
      clear tm1 σ1
      repeat' (first
        | refine SD_op (i := 8) [base + 6, b7] [] (by rfl) (by rfl) (fun x hx => List.Sublist.subset (.cons_cons _ (.cons _ .slnil)) hx) (fun p hp => by cases hp) (fun k hk => by cases hk) (.inl rfl) ?_
        | refine SD_build1 (i := 6) (by rfl) (by rfl) (by decide) (by rfl) el25 (by rfl) (fun p hp => by cases hp) (by simp) (fun hm => hnotbase hb4 hm) (by simp at hb2; omega) (hb3 _ (by omega)) ?_
        | (refine SC_drawn (id := 5) (pl := [(0, []), (1, []), (2, []), (3, []), (4, []), (5, []), (6, []), (7, []), (8, [])]) (by kernel_rfl) (by kernel_rfl) ?_; intro B2 base hb1 hb2 hb3 hb4)
        | refine SC_seq ?_
        | refine SC_block ?_
        | refine SC_region ?_
        | refine SL_seq ?_
        | (refine SL_geq (by decide) (by rfl) (by rfl) (fun hT => ?_) (fun hT => ?_) <;> first | (exfalso; omega) | skip)
        | refine SL_fieldAddr (by decide) (by rfl) (fldF (by rfl)) ?_
        | refine SL_indexAddr_0 (by decide) (by rfl) (by rfl) (by repeat (first | exact .head _ | refine .tail _ ?_)) (slF (by rfl)) _ (by first | rfl | exact (Int.toNat_of_nonneg (by omega)).symm) (by omega) ?_
        | refine SL_load_o (by decide) (by rfl) (by repeat (first | exact .head _ | refine .tail _ ?_)) (rowF (by rfl)) (by first | assumption | rfl | exact tab_get _ _ (by omega)) (by rfl) ?_
        | refine SL_store_box (by rfl) (by rfl) (by first | exact cells_3 _ _ _ | rfl) (by repeat (first | exact .head | apply Upd.tail)) (by first | exact .inl (by assumption) | exact .inr (by simp)) (by rfl) (szF (by rfl)) (by rfl) ?_
        | refine SL_append1_nil (by decide) (by rfl) (by rfl) (by repeat (first | exact .head _ | refine .tail _ ?_)) (elF (by rfl)) (sliceOf_spec (slF (by rfl))).1 (by rfl) (by decide) (fun id hid => ?_)
        | refine SC_cond_t (by rfl) ?_
        | refine SC_cond_f (by rfl) ?_
        | (refine SL_nil (fun tm σ hE hH => ⟨_, _, _, _, rfl, hE, hH, ?_⟩); clear hE hH; clear tm σ)
        | refine SD_op _ [] (by rfl) (by rfl) (fun _ h => h) (fun p hp => by cases hp) (fun k hk => by cases hk) (.inl rfl) ?_)
      · refine SD_nil fun tm2 σ2 hE2 hH2 => ⟨_, _, _, _, _, rfl, hE2, hH2, fun q hq => ?_, fun tm3 σ3 hE3 hH3 => ?_⟩
        · simp only [List.mem_cons, List.not_mem_nil, or_false] at hq
          rcases hq with rfl | rfl
          · exact .inl (by omega)
          · exact .inr (by simp)
        · have hnx := Nat.le_trans hb1 (Nat.le_trans (Nat.le_add_right _ _) hb2)
          dsimp only [InB]
          refine RPost.intro (Hn := [(l, _), (b7, _), (_, _)]) hH3 List.mem_cons_self (.tail (.tail .head)) ⟨.tail _ (.tail _ (.head _)), .tail _ (.tail _ (.tail _ (.tail _ (.head _)))), .head _, trivial⟩ ?_ (fun p hp => ?_) ⟨rfl, _, rfl, some id, ?_, by simp⟩
          · have hnn : ([id, base + 6, l, _, b7, b3, sc] : List Nat).Nodup := hH3.nodup
            exact (List.perm_append_comm (l₁ := [id]) (l₂ := [l, b7])).nodup (hnn.sublist (.cons_cons _ (.cons _ (.cons_cons _ (.cons _ (.cons_cons _ (.cons _ (.cons _ .slnil))))))))
          · simp only [List.mem_cons, List.not_mem_nil, or_false] at hp
            rcases hp with rfl | rfl | rfl
            · exact .inl (by simp)
            · exact .inl (by simp)
            · exact .inr (by simp only; omega)
          · simp only [outV, outH]
            rw [foesL_in _ _ _ (by assumption), hf0]; rfl
      · refine SC_skip' (fun tm3 σ3 hE3 hH3 => ?_)
        dsimp only [InB]
        refine RPost.intro (Hn := [(l, _), (b7, _)]) hH3 List.mem_cons_self .head ⟨.head _, .tail _ (.tail _ (.head _)), trivial⟩ ?_ (fun p hp => .inl ?_) ⟨rfl, _, rfl, none, ?_, fun _ => ?_⟩
        · have hnn : ([l, _, b7, b3, sc] : List Nat).Nodup := hH3.nodup
          exact hnn.sublist (.cons_cons _ (.cons _ (.cons_cons _ (.cons _ (.cons _ .slnil)))))
        · simp only [List.mem_cons, List.not_mem_nil, or_false] at hp
          rcases hp with rfl | rfl <;> simp
        · rfl
        · rw [foesL_out _ _ _ (by assumption), hf0]
    | some oid =>
      have hle := Nat.le_trans (foesL_len F ((List.prefix_append _ _).trans hpre)) hlen
      refine Rd_body' (H := _) hE rfl (by decide) List.mem_cons_self fun B' => ?_
      dsimp only [outV, outH, List.cons_append, List.nil_append]
      repeat' (first
        | refine SC_region ?_
        | refine SL_store_box (by rfl) (by rfl) (by first | exact cells_3 _ _ _ | rfl) (by repeat (first | exact .head | apply Upd.tail)) (by first | exact .inl (by assumption) | exact .inr (by simp)) (by rfl) (szF (by rfl)) (by rfl) ?_
        | refine SL_alloc (by decide) (zeroF (by rfl)) (fun id hid => ?_))
      refine SL_nil fun tm1 σ1 hE1 hH1 => ⟨tm1, σ1, _, _, rfl, hE1, hH1.perm (List.Perm.swap _ _ _), ?_⟩
      clear hE1 hH1
      clear tm1 σ1
      repeat' (first
        | refine SD_op (i := 8) [base + 6, oid, b7] [] (by rfl) (by rfl) (fun x hx => List.Sublist.subset (.cons_cons _ (.cons_cons _ (.cons _ .slnil))) hx) (fun p hp => by cases hp) (fun k hk => by cases hk) (.inl rfl) ?_
        | refine SD_op (i := 7) [base + 6, oid] [] (by rfl) (by rfl) (fun x hx => List.Sublist.subset (.cons_cons _ (.cons _ .slnil)) hx) (fun p hp => by cases hp) (fun k hk => by cases hk) (.inl rfl) ?_
        | refine SD_build1 (i := 6) (by rfl) (by rfl) (by decide) (by rfl) el25 (by rfl) (fun p hp => by cases hp) (by simp) (fun hm => hnotbase hb4 hm) (by simp at hb2; omega) (hb3 _ (by omega)) ?_
        | (refine SC_drawn (id := 5) (pl := [(0, []), (1, []), (2, []), (3, []), (4, []), (5, []), (6, []), (7, []), (8, [])]) (by kernel_rfl) (by kernel_rfl) ?_; intro B2 base hb1 hb2 hb3 hb4)
        | refine SC_seq ?_
        | refine SC_block ?_
        | refine SC_region ?_
        | refine SL_seq ?_
        | (refine SL_geq (by decide) (by rfl) (by rfl) (fun hT => ?_) (fun hT => ?_) <;> first | (exfalso; omega) | skip)
        | refine SL_fieldAddr (by decide) (by rfl) (fldF (by rfl)) ?_
        | refine SL_indexAddr_0 (by decide) (by rfl) (by rfl) (by repeat (first | exact .head _ | refine .tail _ ?_)) (slF (by rfl)) _ (by first | rfl | exact (Int.toNat_of_nonneg (by omega)).symm) (by omega) ?_
        | refine SL_load_o (by decide) (by rfl) (by repeat (first | exact .head _ | refine .tail _ ?_)) (rowF (by rfl)) (by first | assumption | rfl | exact tab_get _ _ (by omega)) (by rfl) ?_
        | refine SL_store_box (by rfl) (by rfl) (by first | exact cells_3 _ _ _ | rfl) (by repeat (first | exact .head | apply Upd.tail)) (by first | exact .inl (by assumption) | exact .inr (by simp)) (by rfl) (szF (by rfl)) (by rfl) ?_
        | refine SL_append1_own (by decide) (by rfl) (by rfl) (by repeat (first | exact .head | apply Upd.tail)) (by simp only [ints_len, List.length_append, List.length_cons, List.length_nil]) (by first | exact .inl (by assumption) | exact .inr (by simp)) (by repeat (first | exact .head _ | refine .tail _ ?_)) (elF (by rfl)) (sliceOf_spec (slF (by rfl))).1 (by rfl) (by omega) (by omega) (fun id hid => ?_)
        | refine SC_cond_t (by rfl) ?_
        | refine SC_cond_f (by rfl) ?_
        | (refine SL_nil (fun tm σ hE hH => ⟨_, _, _, _, rfl, hE, hH, ?_⟩); clear hE hH; clear tm σ)
        | refine SD_op _ [] (by rfl) (by rfl) (fun _ h => h) (fun p hp => by cases hp) (fun k hk => by cases hk) (.inl rfl) ?_)
      · refine SD_nil fun tm2 σ2 hE2 hH2 => ⟨_, _, _, _, _, rfl, hE2, hH2, fun q hq => ?_, fun tm3 σ3 hE3 hH3 => ?_⟩
        · simp only [List.mem_cons, List.not_mem_nil, or_false] at hq
          rcases hq with rfl | rfl | rfl
          · exact .inl (by omega)
          · exact .inr (by simp)
          · exact .inr (by simp)
        · have hnx := Nat.le_trans hb1 (Nat.le_trans (Nat.le_add_right _ _) hb2)
          dsimp only [InB]
          refine RPost.intro (Hn := [(l, _), (b7, _), (_, _)]) hH3 List.mem_cons_self (.tail (.tail .head)) ⟨.tail _ (.tail _ (.head _)), .tail _ (.tail _ (.tail _ (.tail _ (.head _)))), .head _, trivial⟩ ?_ (fun p hp => ?_) ⟨rfl, _, rfl, some id, ?_, by simp⟩
          · have hnn : ([id, base + 6, l, _, b7, oid, b3, sc] : List Nat).Nodup := hH3.nodup
            exact (List.perm_append_comm (l₁ := [id]) (l₂ := [l, b7])).nodup (hnn.sublist (.cons_cons _ (.cons _ (.cons_cons _ (.cons _ (.cons_cons _ (.cons _ (.cons _ (.cons _ .slnil)))))))))
          · simp only [List.mem_cons, List.not_mem_nil, or_false] at hp
            rcases hp with rfl | rfl | rfl
            · exact .inl (by simp)
            · exact .inl (by simp)
            · exact .inr (by simp only; omega)
          · simp only [outV, outH]
            rw [foesL_in _ _ _ (by assumption), List.length_append, ← ints_snoc]; rfl
      · refine SC_skip' (fun tm3 σ3 hE3 hH3 => ?_)
        dsimp only [InB]
        refine RPost.intro (Hn := [(l, _), (b7, _), (oid, _)]) hH3 List.mem_cons_self .head ⟨.head _, .tail _ (.tail _ (.head _)), .tail _ (.tail _ (.tail _ (.head _))), trivial⟩ ?_ (fun p hp => .inl ?_) ⟨rfl, _, rfl, some oid, ?_, by simp⟩
        · have hnn : ([l, _, b7, oid, b3, sc] : List Nat).Nodup := hH3.nodup
          exact hnn.sublist (.cons_cons _ (.cons _ (.cons_cons _ (.cons_cons _ (.cons _ (.cons _ .slnil))))))
        · simp only [List.mem_cons, List.not_mem_nil, or_false] at hp
          rcases hp with rfl | rfl | rfl <;> simp
        · simp only [outV, outH]
          rw [foesL_out _ _ _ (by assumption)]
  · rintro d H' tm' σ' hpl ⟨oid, rfl, hoid⟩ hE' hH'
    refine SC.app ?_ hE' hH'
    clear hE' hH'
    clear tm' σ'
    cases oid with
    | none =>
      dsimp only [outV, outH, List.cons_append, List.nil_append]
      repeat' (first
        | (refine SL_call (by decide) (by rfl) bd63 (by rfl) (by rfl) (sort_nil ho) trivial List.nodup_nil ?_; rintro v63 _ _ rfl; rw [List.nil_append])
        | refine SC_seq ?_
        | refine SC_region ?_
        | refine SL_seq ?_
        | refine SL_assign (by decide) (by rfl) ?_
        | refine SL_load_o (by decide) (by rfl) (by repeat (first | exact .head _ | refine .tail _ ?_)) (rowF (by rfl)) (by first | assumption | rfl | exact tab_get _ _ (by omega)) (by rfl) ?_)
      exact SC_ret (fun tm σ hE hH => Post.intro (Hn := []) (.inr rfl) hE hH (by rfl) trivial List.nodup_nil (fun p hp => by cases hp) (.inl ⟨hoid rfl, rfl, rfl⟩))
    | some oid =>
      have hoB : B.next ≤ oid := (hpl (oid, .cells 3 1 false (ints (foesL F (evU rs i rs.length)))) (by simp [outH])).elim (fun h => h) (fun h => by cases h)
      dsimp only [outV, outH, List.cons_append, List.nil_append]
      repeat' (first
        | (refine SL_callW (Hr := [(b3, _), (sc, _), (b7, _)]) (H0 := [(oid, _)]) (M := [oid]) (by decide) (by rfl) (bl_of bd63) (by rfl) (by rfl) (sort_fn _ hlen ho (foesL F (evU rs i rs.length)) rfl false oid) (fun x hx => by rw [List.mem_singleton] at hx; subst hx; exact ⟨.inl hoB, List.mem_singleton.2 rfl⟩) ?_; rintro v63 _ ⟨c, rfl, hcp, hcs2⟩; simp only [List.cons_append, List.nil_append])
        | refine SC_seq ?_
        | refine SC_region ?_
        | refine SL_seq ?_
        | refine SL_assign (by decide) (by rfl) ?_
        | refine SL_load_o (by decide) (by rfl) (by repeat (first | exact .head _ | refine .tail _ ?_)) (rowF (by rfl)) (by first | assumption | rfl | exact tab_get _ _ (by omega)) (by rfl) ?_)
      have hcl := hcp.length_eq
      refine SC_ret (fun tm σ hE hH => Post.intro (Hn := [(oid, _)]) (.inr rfl) hE hH (by rfl) ⟨.tail _ (.tail _ (.tail _ (.head _))), trivial⟩ (by simp) (fun p hp => by rw [List.mem_singleton] at hp; subst hp; exact hoB) (.inr ⟨oid, c, ?_, rfl, hcp, by rw [hcl]; exact hcs2⟩))
      rw [hcl]; rfl
end Go.Proofs.Ytldckcopeiginaa
/- The sum of a part of an own slice. -/
namespace Go.Proofs.Ytldckcopeiginaa
open Go.Ab
theorem part_next {c : List Int} {o k : Nat} (h : o + k < c.length) : ((c.drop o).take (k + 1)).sum = ((c.drop o).take k).sum + c[o + k] := by
  rw [List.take_succ_eq_append_getElem (by rw [List.length_drop]; omega), List.sum_append, List.getElem_drop]
  simp only [List.sum_cons, List.sum_nil, Int.add_zero]
theorem part_bd {c : List Int} (h : ∀ x ∈ c, 0 ≤ x ∧ x ≤ 1000) : 0 ≤ c.sum ∧ c.sum ≤ 1000 * c.length := by
  induction c with
  | nil => simp
  | cons x c ih =>
    have h1 := ih fun x hx => h x (List.mem_cons_of_mem _ hx)
    have h2 := h x List.mem_cons_self
    simp only [List.sum_cons, List.length_cons]
    omega
attribute [local irreducible] SC SL wpc wpl wpd wpf wpy wpn FnC FnW RdW SD
set_option maxRecDepth 100000
set_option pp.deepTerms false
set_option pp.maxSteps 900
set_option maxHeartbeats 2000000
theorem sum_fn {G : Gl} (ho : ∀ f x y, G.orc f (x :: y) = none) (c : List Int) (hc : ∀ x ∈ c, 0 ≤ x ∧ x ≤ 1000) (o n : Nat) (hn : o + n ≤ c.length) (hb : n ≤ 1000) (ex : Bool) (id : Nat) :
    FnC Try.prog G 43 [.sl id o n none] [(id, .cells 3 1 ex (ints c))] (fun v Hn => v = .s (.int .i64 ((c.drop o).take n).sum) ∧ Hn = []) := by
  refine Fn_body (N := 17) (ho _ _ _) Try.func43 rfl rfl fun B => ?_
  repeat' (first
    | refine SC_seq ?_
    | refine SC_block ?_
    | refine SC_region ?_
    | refine SL_seq ?_
    | refine SL_move (by decide) (by rfl) ?_
    | refine SL_assign (by decide) (by rfl) ?_
    | refine SL_len_sl (by decide) (by rfl) (by rfl) (sliceOf_spec (slF (by rfl))).1 ?_)
  refine SC_loop (fun k : Nat => [(6, .sl id o n none), (7, .s (.int .i64 n)), (8, .s (.int .i64 k)), (3, .s (.int .i64 ((c.drop o).take k).sum))]) (fun _ => [(id, .cells 3 1 ex (ints c))]) (fun _ => []) (fun k => k ≤ n) (fun k => n - k) 0 (by omega) ⟨rfl, rfl, rfl, rfl, trivial⟩ ⟨.head _, trivial⟩ (by simp) rfl ?_
  intro k hk
  by_cases hlt : k < n
  · have hbd := part_bd (c := (c.drop o).take k) (fun x hx => hc x (List.mem_of_mem_drop (List.mem_of_mem_take hx)))
    have hel := hc c[o + k] (List.getElem_mem (by omega))
    rw [List.length_take] at hbd
    repeat' (first
      | refine SC_seq ?_
      | refine SC_block ?_
      | refine SC_region ?_
      | refine SL_seq ?_
      | (refine SL_nil (fun tm σ hE hH => ?_); refine SC.app ?_ hE hH; clear hE hH; clear tm σ)
      | refine SL_move (by decide) (by rfl) ?_
      | refine SL_assign (by decide) (by rfl) ?_
      | refine SL_add (by decide) (by rfl) (by rfl) (by omega) (by omega) ?_
      | (refine SL_lss (by decide) (by rfl) (by rfl) (fun hT => ?_) (fun hT => ?_) <;> first | (exfalso; omega) | skip)
      | refine SL_indexAddr_o (by decide) (by rfl) (by rfl) (by repeat (first | exact .head _ | refine .tail _ ?_)) (slF (by rfl)) _ (by first | rfl | exact (Int.toNat_of_nonneg (by omega)).symm) (by omega) ?_
      | refine SL_load_o (by decide) (by rfl) (by repeat (first | exact .head _ | refine .tail _ ?_)) (rowF (by rfl)) (by first | assumption | rfl | exact ints_get _ (by omega)) (by rfl) ?_
      | refine SC_cond_t (by rfl) ?_
      | (refine SC_skip' (fun tm σ hE hH => ?_); refine SC.app ?_ hE hH; clear hE hH; clear tm σ))
    refine SL_nil fun tm σ hE hH => ⟨k + 1, by omega, by omega, tm, σ, rfl, hE.sub ⟨rfl, rfl, rfl, ?_, trivial⟩, hH.sub ⟨.head _, trivial⟩ (by simp)⟩
    rw [part_next (by omega)]; rfl
  · obtain rfl : k = n := by omega
    repeat' (first
      | refine SC_seq ?_
      | refine SC_region ?_
      | refine SL_seq ?_
      | refine SL_move (by decide) (by rfl) ?_
      | refine SL_assign (by decide) (by rfl) ?_
      | (refine SL_lss (by decide) (by rfl) (by rfl) (fun hT => ?_) (fun hT => ?_) <;> first | (exfalso; omega) | skip)
      | refine SC_cond_f (by rfl) ?_
      | (refine SC_exit (fun tm σ hE hH => ?_); refine SC.app ?_ hE hH; clear hE hH; clear tm σ))
    exact SC_ret (fun tm σ hE hH => Post.intro (Hn := []) (.inr rfl) hE hH (by rfl) trivial List.nodup_nil (fun p hp => by cases hp) ⟨rfl, rfl⟩)
theorem sum_nil {G : Gl} (ho : ∀ f x y, G.orc f (x :: y) = none) (a : AV) (ha : a = .sle ∨ a = .s (.slice none 0 0)) : FnC Try.prog G 43 [a] [] (fun v Hn => v = .s (.int .i64 0) ∧ Hn = []) := by
  refine Fn_body (N := 17) (ho _ _ _) Try.func43 rfl rfl fun B => ?_
  rcases ha with rfl | rfl
  all_goals
    repeat' (first
      | refine SL_len_e (by decide) (by rfl) (by rfl) sl25 ?_
      | refine SC_seq ?_
      | refine SC_block ?_
      | refine SC_region ?_
      | refine SL_seq ?_
      | refine SL_move (by decide) (by rfl) ?_
      | refine SL_assign (by decide) (by rfl) ?_
      | refine SL_len_0 (by decide) (by rfl) (by rfl) (sliceOf_spec (slF (by rfl))).1 ?_)
    refine SC_loop (fun _ : Unit => [(7, .s (.int .i64 0)), (8, .s (.int .i64 0)), (3, .s (.int .i64 0))]) (fun _ => []) (fun _ => []) (fun _ => True) (fun _ => 0) () trivial ⟨rfl, rfl, rfl, trivial⟩ trivial List.nodup_nil rfl ?_
    intro _ _
    repeat' (first
      | refine SC_seq ?_
      | refine SC_region ?_
      | refine SL_seq ?_
      | refine SL_move (by decide) (by rfl) ?_
      | refine SL_assign (by decide) (by rfl) ?_
      | (refine SL_lss (by decide) (by rfl) (by rfl) (fun hT => ?_) (fun hT => ?_) <;> first | (exfalso; omega) | skip)
      | refine SC_cond_f (by rfl) ?_
      | (refine SC_exit (fun tm σ hE hH => ?_); refine SC.app ?_ hE hH; clear hE hH; clear tm σ))
    exact SC_ret (fun tm σ hE hH => Post.intro (Hn := []) (.inr rfl) hE hH (by rfl) trivial List.nodup_nil (fun p hp => by cases hp) ⟨rfl, rfl⟩)
end Go.Proofs.Ytldckcopeiginaa
/- What the games give together by a callback: value's total. -/
namespace Go.Proofs.Ytldckcopeiginaa
open Go.Ab
attribute [local irreducible] SC SL wpc wpl wpd wpf wpy wpn FnC FnW RdW SD
set_option maxRecDepth 100000
set_option pp.deepTerms false
set_option pp.maxSteps 900
set_option maxHeartbeats 2000000
def totE (f : Ev → Int) (es : List Ev) : Int := ((es.filter fun e => decide (0 ≤ e.o)).map f).sum
theorem totE_in (f : Ev → Int) (es : List Ev) (e : Ev) (h : 0 ≤ e.o) : totE f (es ++ [e]) = totE f es + f e := by
  unfold totE; simp [List.filter_append, h]
theorem totE_out (f : Ev → Int) (es : List Ev) (e : Ev) (h : e.o < 0) : totE f (es ++ [e]) = totE f es := by
  unfold totE; rw [List.filter_append, show [e].filter (fun e : Ev => decide (0 ≤ e.o)) = [] by simp; omega, List.append_nil]
theorem totE_bd {f : Ev → Int} {es : List Ev} (h : ∀ e ∈ es, 0 ≤ e.o → 0 ≤ f e ∧ f e ≤ 2000) : 0 ≤ totE f es ∧ totE f es ≤ 2000 * es.length := by
  induction es with
  | nil => simp [totE]
  | cons e es ih =>
    have h1 := ih fun e he => h e (List.mem_cons_of_mem _ he)
    have h2 := h e List.mem_cons_self
    unfold totE at h1 ⊢
    rw [List.filter_cons]
    split
    · rename_i ho
      have h3 := h2 (by simpa using ho)
      simp only [List.map_cons, List.sum_cons, List.length_cons]
      omega
    · simp only [List.length_cons]; omega
abbrev wayH (ba br bi sc : Nat) (ra : AV) (m : Nat) (F : Nat → Int) (i : Int) : List (Nat × AObj) := [(bi, .cells 3 1 true [[.s (.int .i64 i)]]), (br, .cells 22 1 true [[ra]]), (ba, .cells 25 1 true [[.sl sc 0 m none]]), (sc, .cells 3 1 true (tab m F))]
theorem total_fn {G : Gl} {rs : List (List Sc)} {ra : AV} {xs : List AV} (h : RV rs ra xs) (hg : ∀ gs ∈ rs, ∀ g ∈ gs, 0 ≤ g.p ∧ g.p ≤ 2) (ho : ∀ f x y, G.orc f (x :: y) = none) {m : Nat} (F : Nat → Int) (i : Int) (ba br bi sc : Nat)
    (cb : AV) (g : FuncId) (gas : Ev → List AV) (f : Ev → Int) (hc1 : cellsOf cb = [cb]) (hc2 : isCell cb = true) (hcn : bodyless Try.prog cb = false) (hct : ∀ e : Ev, target cb [.s (.agg #[.int .i64 e.o, .int .i64 e.p, .bool e.c])] = some (.enter g (gas e)))
    (hcf : ∀ e ∈ evU rs i rs.length, 0 ≤ e.o → FnC Try.prog G g (gas e) (wayH ba br bi sc ra m F i) (fun v Hn => v = .s (.int .i64 (f e)) ∧ Hn = [])) (hfb : ∀ e ∈ evU rs i rs.length, 0 ≤ e.o → 0 ≤ f e ∧ f e ≤ 2000) (hel : (evU rs i rs.length).length ≤ 1000) :
    FnC Try.prog G 41 [cb, .ptr br 0 0, .ptr bi 0 0] (wayH ba br bi sc ra m F i) (fun v Hn => v = .s (.int .i64 (totE f (evU rs i rs.length))) ∧ Hn = []) := by
  have hsl := h.sl
  refine Fn_body (N := 22) (ho _ _ _) Try.func41 rfl rfl fun B => ?_
  refine SC_nd fun hnd0 => ?_
  repeat' (first
    | refine SL_box (by decide) (by rfl) hc1 (fun id hid => ?_)
    | (refine SL_call (by decide) (by rfl) bd36 (by rfl) (by rfl) (gamesOf_fn h i (ho _ _ _)) trivial List.nodup_nil ?_; rintro _ _ hBn ⟨ga, gb, rfl, rfl⟩; simp only [List.cons_append, List.nil_append])
    | refine SC_seq ?_
    | refine SC_block ?_
    | refine SC_region ?_
    | refine SL_seq ?_
    | refine SL_assign (by decide) (by rfl) ?_
    | refine SL_load_o (by decide) (by rfl) (by repeat (first | exact .head _ | refine .tail _ ?_)) (rowF (by rfl)) (by first | assumption | rfl) (by rfl) ?_
    | refine SL_store_box (by rfl) (by rfl) (by first | exact cells_3 _ _ _ | rfl) (by repeat (first | exact .head | apply Upd.tail)) (by first | exact .inl (by assumption) | exact .inr (by simp)) (by rfl) (szF (by rfl)) (by rfl) ?_
    | refine SL_alloc (by decide) (zeroF (by rfl)) (fun id hid => ?_))
  rename_i b3 hb3
  obtain ⟨b5, hb5, rfl⟩ : ∃ b, B.next ≤ b ∧ b = id := ⟨id, hid, rfl⟩
  refine SC_perm (List.perm_append_comm (l₁ := [(gb, _), (ga, _), (b5, _)]) (l₂ := (b3, _) :: wayH ba br bi sc ra m F i)) (SC_nd fun hnd1 => ?_)
  refine SC_range2 (Hr := (b3, .cells 81 1 true [[cb]]) :: wayH ba br bi sc ra m F i) (Hx := (b3, .cells 81 1 true [[cb]]) :: wayH ba br bi sc ra m F i)
    (Fin := fun H => H = [(b5, .cells 3 1 true [[.s (.int .i64 (totE f (evU rs i rs.length)))]])]) (M0 := [b5]) (xs := fun l => [.yld l, .ptr ga 0 0, .ptr gb 0 0]) (by rfl) (fun l => by rfl) ?_ (fun p hp => hp) ?_ ?_ ?_
  · intro q hq
    rw [List.mem_singleton] at hq
    subst hq
    exact ⟨.inl hb5, by simp⟩
  · rw [List.map_append, List.nodup_append] at hnd1
    exact hnd1.1
  · intro tm d l hE hl hnot
    refine games2_fn h hg i (fun es H => H = [(b5, .cells 3 1 true [[.s (.int .i64 (totE f es))]])]) [(b5, .cells 3 1 true [[.s (.int .i64 0)]])] ((b3, .cells 81 1 true [[cb]]) :: wayH ba br bi sc ra m F i) rfl ?_ (ho _ _ _)
    rintro es e Hc hpre rfl
    have hem : e ∈ evU rs i rs.length := hpre.subset (by simp)
    have hbd := totE_bd (f := f) (es := es) fun e' he' => hfb e' (hpre.subset (List.mem_append_left _ he'))
    have hfe := hfb e hem
    have hll := hpre.length_le
    rw [List.length_append, List.length_singleton] at hll
    refine Rd_body' (H := _) hE rfl (by decide) List.mem_cons_self fun B' => ?_
    dsimp only [List.cons_append, List.nil_append]
    repeat' (first
      | refine SC_region ?_
      | refine SL_store_box (by rfl) (by rfl) (by first | exact cells_3 _ _ _ | rfl) (by repeat (first | exact .head | apply Upd.tail)) (by first | exact .inl (by assumption) | exact .inr (by simp)) (by rfl) (szF (by rfl)) (by rfl) ?_
      | refine SL_alloc (by decide) (zeroF (by rfl)) (fun id hid => ?_))
    refine SL_nil fun tm1 σ1 hE1 hH1 => ⟨tm1, σ1, _, _, rfl, hE1, hH1.perm (List.Perm.swap _ _ _), ?_⟩
    clear hE1 hH1
    clear tm1 σ1
    repeat' (first
      | (refine SL_callv (by decide) (by rfl) hcn (by rfl) (hct e) (hcf e hem (by assumption)) (.of_mem fun p hp => .tail _ (.tail _ (.tail _ (.tail _ hp)))) hnd0 ?_; rintro _ _ _ ⟨rfl, rfl⟩; rw [List.nil_append])
      | refine SD_op (i := 5) [b5] [(0, b5)] (by rfl) (by rfl) (fun _ h => by cases h) (fun p hp => by rw [List.mem_singleton] at hp; subst hp; simp) (fun k hk => by cases hk) (.inl rfl) ?_
      | refine SD_op (i := 3) _ [(0, b5)] (by rfl) (by rfl) (fun _ h => h) (fun p hp => by rw [List.mem_singleton] at hp; subst hp; simp) (fun k hk => by rw [List.mem_singleton] at hk; subst hk; exact ⟨b5, List.mem_singleton.2 rfl, by simp, hb5lt⟩) (.inl rfl) ?_
      | refine SD_op (i := 0) _ [(0, b5)] (by rfl) (by rfl) (fun _ h => h) (fun p hp => by cases hp) (fun k hk => by cases hk) (.inr ⟨.tmp 5, .ptr b5 0 0, b5, rfl, rfl, rfl, by simp, hb5lt, rfl⟩) ?_
      | refine SD_op _ [(0, b5)] (by rfl) (by rfl) (fun _ h => h) (fun p hp => by rw [List.mem_singleton] at hp; subst hp; simp) (fun k hk => by cases hk) (.inl rfl) ?_
      | (refine SC_drawn (id := 5) (pl := [(0, []), (1, []), (2, []), (3, [0]), (4, []), (5, [])]) (by kernel_rfl) (by kernel_rfl) ?_; intro B2 base hb1 hb2 hb3 hb4; have hb5lt : b5 < B2.next := (by have h5 := hb4 (b5, _) (.tail _ (.tail _ (.head _))); have h5' : b5 < base := h5; exact Nat.lt_of_lt_of_le h5' (Nat.le_trans (Nat.le_add_right _ _) hb2)))
      | refine SC_seq ?_
      | refine SC_block ?_
      | refine SC_region ?_
      | refine SL_seq ?_
      | refine SL_add (by decide) (by rfl) (by rfl) (by omega) (by omega) ?_
      | (refine SL_geq (by decide) (by rfl) (by rfl) (fun hT => ?_) (fun hT => ?_) <;> first | (exfalso; omega) | skip)
      | refine SL_fieldAddr (by decide) (by rfl) (fldF (by rfl)) ?_
      | refine SL_load_o (by decide) (by rfl) (by repeat (first | exact .head _ | refine .tail _ ?_)) (rowF (by rfl)) (by first | assumption | rfl) (by rfl) ?_
      | refine SL_load_or (by decide) (by rfl) (by repeat (first | exact .head _ | refine .tail _ ?_)) (rowF (by rfl)) (by first | assumption | rfl) (Nat.le_of_ble_eq_true (by rfl)) (by first | exact mk3 _ | rfl) ?_
      | refine SL_store_box (by rfl) (by rfl) (by first | exact cells_3 _ _ _ | rfl) (by repeat (first | exact .head | apply Upd.tail)) (by first | exact .inl (by assumption) | exact .inr (by simp)) (by rfl) (szF (by rfl)) (by rfl) ?_
      | refine SC_cond_t (by rfl) ?_
      | refine SC_cond_f (by rfl) ?_
      | (refine SL_nil (fun tm σ hE hH => ⟨_, _, _, _, rfl, hE, hH, ?_⟩); clear hE hH; clear tm σ))
    · refine SD_nil fun tm2 σ2 hE2 hH2 => ⟨_, _, _, _, _, rfl, hE2, hH2, fun q hq => ?_, fun tm3 σ3 hE3 hH3 => ?_⟩
      · rw [List.mem_singleton] at hq
        subst hq
        exact .inr (by simp)
      · dsimp only [InB]
        refine RPost.intro (Hn := [(l, _), (b5, _)]) hH3 List.mem_cons_self .head ⟨.head _, .tail _ (.tail _ (.head _)), trivial⟩ (hH3.nodup.sublist (.cons_cons _ (.cons _ (.cons_cons _ (List.nil_sublist _))))) (fun p hp => .inl ?_) ⟨rfl, _, rfl, ?_⟩
        · simp only [List.mem_cons, List.not_mem_nil, or_false] at hp
          rcases hp with rfl | rfl <;> simp
        · rw [totE_in _ _ _ (by assumption)]; rfl
    · refine SC_skip' (fun tm3 σ3 hE3 hH3 => ?_)
      dsimp only [InB]
      refine RPost.intro (Hn := [(l, _), (b5, _)]) hH3 List.mem_cons_self .head ⟨.head _, .tail _ (.tail _ (.head _)), trivial⟩ (hH3.nodup.sublist (.cons_cons _ (.cons _ (.cons_cons _ (List.nil_sublist _))))) (fun p hp => .inl ?_) ⟨rfl, _, rfl, ?_⟩
      · simp only [List.mem_cons, List.not_mem_nil, or_false] at hp
        rcases hp with rfl | rfl <;> simp
      · rw [totE_out _ _ _ (by assumption)]
  · rintro d H' tm' σ' hpl rfl hE' hH'
    refine SC.app ?_ hE' hH'
    clear hE' hH'
    clear tm' σ'
    dsimp only [List.cons_append, List.nil_append]
    repeat' (first
      | refine SC_seq ?_
      | refine SC_region ?_
      | refine SL_seq ?_
      | refine SL_assign (by decide) (by rfl) ?_
      | refine SL_load_o (by decide) (by rfl) (by repeat (first | exact .head _ | refine .tail _ ?_)) (rowF (by rfl)) (by first | assumption | rfl) (by rfl) ?_)
    exact SC_ret (fun tm σ hE hH => Post.intro (Hn := []) (.inr rfl) hE hH (by rfl) trivial List.nodup_nil (fun p hp => by cases hp) ⟨rfl, rfl⟩)
end Go.Proofs.Ytldckcopeiginaa
/- The tie-breaks that sum the foes' scores: all, without the least, without the least and the greatest. -/
namespace Go.Proofs.Ytldckcopeiginaa
open Go.Ab
attribute [local irreducible] SC SL wpc wpl wpd wpf wpy wpn FnC FnW RdW SD
set_option maxRecDepth 100000
set_option pp.deepTerms false
set_option pp.maxSteps 900
set_option maxHeartbeats 2000000
theorem minR (n : Int) (ty : TypeId) (pos : String) (af : Array Edge) : effPure Try.prog ⟨some 12, .call ⟨.builtin .min, #[.const (.int .i64 1), .tmp 11], #[3, 3]⟩, ty, pos, af, none⟩ (evC [(11, .s (.int .i64 n))]) = some (.s (.int .i64 (if n < 1 then n else 1))) := by kernel_rfl
theorem slR (ty : TypeId) (pos : String) (af : Array Edge) : effPure Try.prog ⟨some 13, .slice 25 (.tmp 9) (some (.tmp 12)) none none, ty, pos, af, none⟩ (evC [(9, .s (.slice none 0 0)), (12, .s (.int .i64 0))]) = some (.s (.slice none 0 0)) := by kernel_rfl
theorem foes_bd {m : Nat} {F : Nat → Int} (hF : ∀ x, x < m → 0 ≤ F x ∧ F x ≤ 1000) {es : List Ev} (hev : ∀ e ∈ es, e.o < m) : ∀ x ∈ foesL F es, 0 ≤ x ∧ x ≤ 1000 := by
  intro x hx
  unfold foesL at hx
  obtain ⟨e, he, rfl⟩ := List.mem_map.1 hx
  obtain ⟨h1, h2⟩ := List.mem_filter.1 he
  have := hev e h1
  simp only [decide_eq_true_eq] at h2
  exact hF _ (by omega)
theorem perm_sum {a b : List Int} (h : a.Perm b) : a.sum = b.sum := by
  induction h with
  | nil => rfl
  | cons x _ ih => simp only [List.sum_cons, ih]
  | swap x y l => simp only [List.sum_cons]; omega
  | trans _ _ h1 h2 => exact h1.trans h2
section
variable {G : Gl} {rs : List (List Sc)} {ra : AV} {xs : List AV} (h : RV rs ra xs) (hg : ∀ gs ∈ rs, ∀ g ∈ gs, 0 ≤ g.p ∧ g.p ≤ 2) (ho : ∀ f x y, G.orc f (x :: y) = none) {m : Nat} (F : Nat → Int) (hF : ∀ x, x < m → 0 ≤ F x ∧ F x ≤ 1000) (i : Int) (hev : ∀ e ∈ evU rs i rs.length, e.o < m) (hlen : (foesL F (evU rs i rs.length)).length ≤ 12)
include h hg ho hF hev hlen
theorem buch_fn (ba br bi sc : Nat) : FnC Try.prog G 42 [.ptr ba 0 0, .ptr br 0 0, .ptr bi 0 0] (wayH ba br bi sc ra m F i) (fun v Hn => v = .s (.int .i64 (foesL F (evU rs i rs.length)).sum) ∧ Hn = []) := by
  have h44 := foes_fn h hg ho F i hev hlen sc
  have hcb : ∀ c : List Int, c.Perm (foesL F (evU rs i rs.length)) → ∀ x ∈ c, 0 ≤ x ∧ x ≤ 1000 := fun c hcp x hx => foes_bd hF hev x (hcp.subset hx)
  refine Fn_body (N := 9) (ho _ _ _) Try.func42 rfl rfl fun B => ?_
  repeat' (first
    | (refine SL_call (by decide) (by rfl) bd43 (by rfl) (by rfl) (sum_fn ho c (hcb c hcp) _ _ (by have := hcp.length_eq; omega) (by have := hcp.length_eq; omega) false fid) ⟨.head _, trivial⟩ (by simp) ?_; rintro _ _ _ ⟨rfl, rfl⟩; rw [List.nil_append])
    | (refine SL_call (by decide) (by rfl) bd43 (by rfl) (by rfl) (sum_nil ho _ (.inr rfl)) trivial List.nodup_nil ?_; rintro _ _ _ ⟨rfl, rfl⟩; rw [List.nil_append])
    | (refine SL_call (by decide) (by rfl) bd44 (by rfl) (by rfl) h44 ⟨.tail _ (.tail _ (.tail _ (.head _))), trivial⟩ (by simp) ?_; rintro _ _ hB44 (⟨hf0, rfl, rfl⟩ | ⟨fid, c, rfl, rfl, hcp, hcs⟩) <;> simp only [List.cons_append, List.nil_append] <;> try (have hcl := hcp.length_eq))
    | refine SC_seq ?_
    | refine SC_region ?_
    | refine SL_seq ?_
    | refine SL_assign (by decide) (by rfl) ?_
    | refine SL_load_o (by decide) (by rfl) (by repeat (first | exact .head _ | refine .tail _ ?_)) (rowF (by rfl)) (by first | assumption | rfl) (by rfl) ?_)
  · refine SC_ret (fun tm σ hE hH => Post.intro (Hn := []) (.inr rfl) hE hH (by rfl) trivial List.nodup_nil (fun p hp => by cases hp) ⟨?_, rfl⟩)
    rw [hf0]; rfl
  · refine SC_ret (fun tm σ hE hH => Post.intro (Hn := []) (.inr rfl) hE hH (by rfl) trivial List.nodup_nil (fun p hp => by cases hp) ⟨?_, rfl⟩)
    rw [List.drop_zero, List.take_length, perm_sum hcp]; rfl
theorem cut_fn (ba br bi sc : Nat) : FnC Try.prog G 45 [.ptr ba 0 0, .ptr br 0 0, .ptr bi 0 0] (wayH ba br bi sc ra m F i) (fun v Hn => (∃ c : List Int, c.Perm (foesL F (evU rs i rs.length)) ∧ SortedTo c c.length ∧ v = .s (.int .i64 (c.drop 1).sum)) ∧ Hn = []) := by
  have h44 := foes_fn h hg ho F i hev hlen sc
  have hcb : ∀ c : List Int, c.Perm (foesL F (evU rs i rs.length)) → ∀ x ∈ c, 0 ≤ x ∧ x ≤ 1000 := fun c hcp x hx => foes_bd hF hev x (hcp.subset hx)
  refine Fn_body (N := 15) (ho _ _ _) Try.func45 rfl rfl fun B => ?_
  repeat' (first
    | refine SL_pure [(9, .s (.slice none 0 0)), (12, .s (.int .i64 0))] (by decide) ⟨rfl, rfl, trivial⟩ (by rfl) (fun tm σ h1 => by unfold eff; simp only [effSliceOp, h1.ev (x := .tmp 9) rfl, isRef]; rfl) (fun _ _ h => by cases h) (slR _ _ _) ?_
    | refine SL_pure [(11, .s (.int .i64 c.length))] (by decide) ⟨rfl, trivial⟩ (by rfl) (fun tm σ _ => rfl) (fun _ _ h => by cases h) (minR c.length _ _ _) ?_
    | refine SL_pure [(11, .s (.int .i64 0))] (by decide) ⟨rfl, trivial⟩ (by rfl) (fun tm σ _ => rfl) (fun _ _ h => by cases h) (minR 0 _ _ _) ?_
    | (refine SL_call (by decide) (by rfl) bd43 (by rfl) (by rfl) (sum_nil ho _ (.inr rfl)) trivial List.nodup_nil ?_; rintro _ _ _ ⟨rfl, rfl⟩; rw [List.nil_append])
    | (refine SL_call (by decide) (by rfl) bd44 (by rfl) (by rfl) h44 ⟨.tail _ (.tail _ (.tail _ (.head _))), trivial⟩ (by simp) ?_; rintro _ _ hB44 (⟨hf0, rfl, rfl⟩ | ⟨fid, c, rfl, rfl, hcp, hcs⟩) <;> simp only [List.cons_append, List.nil_append] <;> try (have hcl := hcp.length_eq))
    | refine SC_seq ?_
    | refine SC_region ?_
    | refine SL_seq ?_
    | refine SL_move (by decide) (by rfl) ?_
    | refine SL_assign (by decide) (by rfl) ?_
    | refine SL_len_sl (by decide) (by rfl) (by rfl) (sliceOf_spec (slF (by rfl))).1 ?_
    | refine SL_len_0 (by decide) (by rfl) (by rfl) (sliceOf_spec (slF (by rfl))).1 ?_
    | refine SL_load_o (by decide) (by rfl) (by repeat (first | exact .head _ | refine .tail _ ?_)) (rowF (by rfl)) (by first | assumption | rfl) (by rfl) ?_)
  · refine SC_ret (fun tm σ hE hH => Post.intro (Hn := []) (.inr rfl) hE hH (by rfl) trivial List.nodup_nil (fun p hp => by cases hp) ⟨⟨[], by rw [hf0], fun p q _ hq => absurd hq (Nat.not_lt_zero _), rfl⟩, rfl⟩)
  · by_cases h2 : 2 ≤ c.length
    · refine SL_slice (l := 1) (h := c.length) (v := .sl fid 1 (c.length - 1) none) (by decide) (by rfl) (.head _) sl25 rfl (by rw [ints_len]) (fun tm h1 => ?_) (fun tm h1 => rfl) (by omega) (by rw [if_pos (by omega)]) (by omega) ?_
      · simp only [Option.map_some, h1.ev (x := .tmp 12) rfl, bound]
        rw [if_neg (show ¬ ((c.length : Int) < 1) by omega), if_pos ⟨by omega, by omega⟩]; rfl
      repeat' (first
        | (refine SL_call (by decide) (by rfl) bd43 (by rfl) (by rfl) (sum_fn ho c (hcb c hcp) _ _ (by have := hcp.length_eq; omega) (by have := hcp.length_eq; omega) false fid) ⟨.head _, trivial⟩ (by simp) ?_; rintro _ _ _ ⟨rfl, rfl⟩; rw [List.nil_append])
        | refine SL_seq ?_
        | refine SL_assign (by decide) (by rfl) ?_)
      refine SC_ret (fun tm σ hE hH => Post.intro (Hn := []) (.inr rfl) hE hH (by rfl) trivial List.nodup_nil (fun p hp => by cases hp) ⟨?_, rfl⟩)
      exact ⟨c, hcp, hcs, by rw [List.take_of_length_le (by rw [List.length_drop]; omega)]; rfl⟩
    · by_cases h1 : c.length = 1
      · refine SL_slice (l := 1) (h := c.length) (v := .sle) (by decide) (by rfl) (.head _) sl25 rfl (by rw [ints_len]) (fun tm h1 => ?_) (fun tm h1 => rfl) (by omega) (by rw [if_neg (by omega), if_pos (by omega)]) (by omega) ?_
        · simp only [Option.map_some, h1.ev (x := .tmp 12) rfl, bound]
          rw [if_neg (show ¬ ((c.length : Int) < 1) by omega), if_pos ⟨by omega, by omega⟩]; rfl
        repeat' (first
          | (refine SL_call (by decide) (by rfl) bd43 (by rfl) (by rfl) (sum_nil ho _ (.inl rfl)) trivial List.nodup_nil ?_; rintro _ _ _ ⟨rfl, rfl⟩; rw [List.nil_append])
          | refine SL_seq ?_
          | refine SL_assign (by decide) (by rfl) ?_)
        refine SC_ret (fun tm σ hE hH => Post.intro (Hn := []) (.inr rfl) hE hH (by rfl) trivial List.nodup_nil (fun p hp => by cases hp) ⟨?_, rfl⟩)
        exact ⟨c, hcp, hcs, by rw [List.drop_eq_nil_of_le (by omega)]; rfl⟩
      · refine SL_slice (l := 0) (h := c.length) (v := .sl fid 0 c.length none) (by decide) (by rfl) (.head _) sl25 rfl (by rw [ints_len]) (fun tm h1 => ?_) (fun tm h1 => rfl) (by omega) (by rw [if_pos (by omega)]; rfl) (by omega) ?_
        · simp only [Option.map_some, h1.ev (x := .tmp 12) rfl, bound]
          rw [if_pos (show ((c.length : Int) < 1) by omega), if_pos ⟨by omega, by omega⟩]; exact congrArg some (by omega)
        repeat' (first
          | (refine SL_call (by decide) (by rfl) bd43 (by rfl) (by rfl) (sum_fn ho c (hcb c hcp) _ _ (by have := hcp.length_eq; omega) (by have := hcp.length_eq; omega) false fid) ⟨.head _, trivial⟩ (by simp) ?_; rintro _ _ _ ⟨rfl, rfl⟩; rw [List.nil_append])
          | refine SL_seq ?_
          | refine SL_assign (by decide) (by rfl) ?_)
        refine SC_ret (fun tm σ hE hH => Post.intro (Hn := []) (.inr rfl) hE hH (by rfl) trivial List.nodup_nil (fun p hp => by cases hp) ⟨?_, rfl⟩)
        refine ⟨c, hcp, hcs, ?_⟩
        obtain rfl : c = [] := List.eq_nil_of_length_eq_zero (by omega)
        rfl
theorem med_fn (ba br bi sc : Nat) : FnC Try.prog G 46 [.ptr ba 0 0, .ptr br 0 0, .ptr bi 0 0] (wayH ba br bi sc ra m F i) (fun v Hn => (∃ c : List Int, c.Perm (foesL F (evU rs i rs.length)) ∧ SortedTo c c.length ∧ v = .s (.int .i64 (if c.length < 2 then 0 else ((c.drop 1).take (c.length - 2)).sum))) ∧ Hn = []) := by
  have h44 := foes_fn h hg ho F i hev hlen sc
  have hcb : ∀ c : List Int, c.Perm (foesL F (evU rs i rs.length)) → ∀ x ∈ c, 0 ≤ x ∧ x ≤ 1000 := fun c hcp x hx => foes_bd hF hev x (hcp.subset hx)
  refine Fn_body (N := 18) (ho _ _ _) Try.func46 rfl rfl fun B => ?_
  repeat' (first
    | (refine SL_call (by decide) (by rfl) bd44 (by rfl) (by rfl) h44 ⟨.tail _ (.tail _ (.tail _ (.head _))), trivial⟩ (by simp) ?_; rintro _ _ hB44 (⟨hf0, rfl, rfl⟩ | ⟨fid, c, rfl, rfl, hcp, hcs⟩) <;> simp only [List.cons_append, List.nil_append] <;> try (have hcl := hcp.length_eq))
    | refine SC_seq ?_
    | refine SC_region ?_
    | refine SL_seq ?_
    | refine SL_move (by decide) (by rfl) ?_
    | refine SL_assign (by decide) (by rfl) ?_
    | refine SL_sub (by decide) (by rfl) (by rfl) (by omega) (by omega) ?_
    | (refine SL_lss (by decide) (by rfl) (by rfl) (fun hT => ?_) (fun hT => ?_) <;> first | (exfalso; omega) | skip)
    | refine SL_len_sl (by decide) (by rfl) (by rfl) (sliceOf_spec (slF (by rfl))).1 ?_
    | refine SL_len_0 (by decide) (by rfl) (by rfl) (sliceOf_spec (slF (by rfl))).1 ?_
    | refine SL_load_o (by decide) (by rfl) (by repeat (first | exact .head _ | refine .tail _ ?_)) (rowF (by rfl)) (by first | assumption | rfl) (by rfl) ?_
    | refine SC_cond_t (by rfl) ?_
    | refine SC_cond_f (by rfl) ?_
    | (refine SC_skip' (fun tm σ hE hH => ?_); refine SC.app ?_ hE hH; clear hE hH; clear tm σ))
  · refine SC_ret (fun tm σ hE hH => Post.intro (Hn := []) (.inr rfl) hE hH (by rfl) trivial List.nodup_nil (fun p hp => by cases hp) ⟨?_, rfl⟩)
    exact ⟨[], by rw [hf0], fun p q _ hq => absurd hq (Nat.not_lt_zero _), rfl⟩
  · refine SC_ret (fun tm σ hE hH => Post.intro (Hn := []) (.inr rfl) hE hH (by rfl) trivial List.nodup_nil (fun p hp => by cases hp) ⟨?_, rfl⟩)
    exact ⟨c, hcp, hcs, by rw [if_pos (by omega)]; rfl⟩
  · refine SL_slice (l := 1) (h := c.length - 1) (v := .sl fid 1 (c.length - 2) none) (by decide) (by rfl) (.head _) sl25 rfl (by rw [ints_len]) (fun tm h1 => ?_) (fun tm h1 => ?_) (by omega) (by rw [if_pos (by omega)]; rfl) (by omega) ?_
    · simp only [Option.map_some, evT, bound]
      rw [if_pos ⟨by omega, by omega⟩]; rfl
    · simp only [Option.map_some, h1.ev (x := .tmp 15) rfl, bound]
      rw [if_pos ⟨by omega, by omega⟩]; exact congrArg some (by omega)
    repeat' (first
      | (refine SL_call (by decide) (by rfl) bd43 (by rfl) (by rfl) (sum_fn ho c (hcb c hcp) _ _ (by have := hcp.length_eq; omega) (by have := hcp.length_eq; omega) false fid) ⟨.head _, trivial⟩ (by simp) ?_; rintro _ _ _ ⟨rfl, rfl⟩; rw [List.nil_append])
      | refine SL_seq ?_
      | refine SL_assign (by decide) (by rfl) ?_)
    refine SC_ret (fun tm σ hE hH => Post.intro (Hn := []) (.inr rfl) hE hH (by rfl) trivial List.nodup_nil (fun p hp => by cases hp) ⟨?_, rfl⟩)
    exact ⟨c, hcp, hcs, by rw [if_neg (by omega)]; rfl⟩
end
end Go.Proofs.Ytldckcopeiginaa
/- What the tie-breaks take from one game. -/
namespace Go.Proofs.Ytldckcopeiginaa
open Go.Ab
attribute [local irreducible] SC SL wpc wpl wpd wpf wpy wpn FnC FnW RdW SD
set_option maxRecDepth 100000
set_option pp.deepTerms false
set_option pp.maxSteps 900
set_option maxHeartbeats 2000000
theorem mul_bd {a b : Int} (h1 : 0 ≤ a) (h2 : a ≤ 2) (h3 : 0 ≤ b) (h4 : b ≤ 1000) : 0 ≤ a * b ∧ a * b ≤ 2000 := by
  have : a = 0 ∨ a = 1 ∨ a = 2 := by omega
  rcases this with rfl | rfl | rfl <;> omega
theorem sonne_fn {G : Gl} (ho : ∀ f x y, G.orc f (x :: y) = none) (o p : Int) (c : Bool) {m : Nat} (F : Nat → Int) (hF : ∀ x, x < m → 0 ≤ F x ∧ F x ≤ 1000) (h0 : 0 ≤ o) (hm : o < m) (hp0 : 0 ≤ p) (hp2 : p ≤ 2) (ba sc : Nat) :
    FnC Try.prog G 48 [.s (.agg #[.int .i64 o, .int .i64 p, .bool c]), .ptr ba 0 0] [(ba, .cells 25 1 true [[.sl sc 0 m none]]), (sc, .cells 3 1 true (tab m F))] (fun v Hn => v = .s (.int .i64 (p * F o.toNat)) ∧ Hn = []) := by
  have hFo := hF o.toNat (by omega)
  have hmb := mul_bd hp0 hp2 hFo.1 hFo.2
  refine Fn_body (N := 12) (ho _ _ _) Try.func48 rfl rfl fun B => ?_
  repeat' (first
    | refine SL_mul (by decide) (by rfl) (by rfl) (by omega) (by omega) ?_
    | refine SC_seq ?_
    | refine SC_region ?_
    | refine SL_seq ?_
    | refine SL_assign (by decide) (by rfl) ?_
    | refine SL_fieldAddr (by decide) (by rfl) (fldF (by rfl)) ?_
    | refine SL_indexAddr_0 (by decide) (by rfl) (by rfl) (by repeat (first | exact .head _ | refine .tail _ ?_)) (slF (by rfl)) _ (by first | rfl | exact (Int.toNat_of_nonneg (by omega)).symm) (by omega) ?_
    | refine SL_load_o (by decide) (by rfl) (by repeat (first | exact .head _ | refine .tail _ ?_)) (rowF (by rfl)) (by first | assumption | rfl | exact tab_get _ _ (by omega)) (by rfl) ?_
    | refine SL_box (by decide) (by rfl) (by first | exact cells_3 _ _ _ | rfl) (fun id hid => ?_)
    | refine SC_draw (by kernel_rfl) ?_)
  exact SC_ret (fun tm σ hE hH => Post.intro (Hn := []) (.inr rfl) hE hH (by rfl) trivial List.nodup_nil (fun p hp => by cases hp) ⟨rfl, rfl⟩)
theorem direct_fn {G : Gl} (ho : ∀ f x y, G.orc f (x :: y) = none) (o p : Int) (c : Bool) {m : Nat} (F : Nat → Int) (h0 : 0 ≤ o) (hm : o < m) (i : Nat) (hi : i < m) (ba bp sc : Nat) :
    FnC Try.prog G 53 [.s (.agg #[.int .i64 o, .int .i64 p, .bool c]), .ptr ba 0 0, .ptr bp 0 0] [(bp, .cells 3 1 true [[.s (.int .i64 i)]]), (ba, .cells 25 1 true [[.sl sc 0 m none]]), (sc, .cells 3 1 true (tab m F))] (fun v Hn => v = .s (.int .i64 (if F o.toNat = F i then p else 0)) ∧ Hn = []) := by
  refine Fn_body (N := 17) (ho _ _ _) Try.func53 rfl rfl fun B => ?_
  repeat' (first
    | refine SC_seq ?_
    | refine SC_region ?_
    | refine SL_seq ?_
    | refine SL_assign (by decide) (by rfl) ?_
    | (refine SL_neq (by decide) (by rfl) (by rfl) (fun hT => ?_) (fun hT => ?_) <;> first | (exfalso; omega) | skip)
    | refine SL_fieldAddr (by decide) (by rfl) (fldF (by rfl)) ?_
    | refine SL_indexAddr_0 (by decide) (by rfl) (by rfl) (by repeat (first | exact .head _ | refine .tail _ ?_)) (slF (by rfl)) _ (by first | rfl | exact (Int.toNat_of_nonneg (by omega)).symm) (by omega) ?_
    | refine SL_load_o (by decide) (by rfl) (by repeat (first | exact .head _ | refine .tail _ ?_)) (rowF (by rfl)) (by first | assumption | rfl | exact tab_get _ _ (by omega)) (by rfl) ?_
    | refine SL_box (by decide) (by rfl) (by first | exact cells_3 _ _ _ | rfl) (fun id hid => ?_)
    | refine SC_draw (by kernel_rfl) ?_
    | refine SC_cond_t (by rfl) ?_
    | refine SC_cond_f (by rfl) ?_
    | (refine SC_skip' (fun tm σ hE hH => ?_); refine SC.app ?_ hE hH; clear hE hH; clear tm σ))
  · refine SC_ret (fun tm σ hE hH => Post.intro (Hn := []) (.inr rfl) hE hH (by rfl) trivial List.nodup_nil (fun p hp => by cases hp) ⟨?_, rfl⟩)
    rw [if_neg (by assumption)]; rfl
  · refine SC_ret (fun tm σ hE hH => Post.intro (Hn := []) (.inr rfl) hE hH (by rfl) trivial List.nodup_nil (fun p hp => by cases hp) ⟨?_, rfl⟩)
    rw [if_pos (by assumption)]; rfl
theorem quoR (p : Int) (h0 : 0 ≤ p) (h2 : p ≤ 2) : evalP Try.prog (do eqGuard .quo 3 (.tmp 4) (.const (.int .i64 2)) (.int .i64 p) (.int .i64 2); binOp .quo 3 (.int .i64 p) (.int .i64 2)) = some (.int .i64 (p / 2)) := by
  have : p = 0 ∨ p = 1 ∨ p = 2 := by omega
  rcases this with rfl | rfl | rfl <;> (show _ = some _; kernel_rfl)
theorem wins_fn {G : Gl} (ho : ∀ f x y, G.orc f (x :: y) = none) (o p : Int) (c : Bool) (hp0 : 0 ≤ p) (hp2 : p ≤ 2) :
    FnC Try.prog G 51 [.s (.agg #[.int .i64 o, .int .i64 p, .bool c])] [] (fun v Hn => v = .s (.int .i64 (p / 2)) ∧ Hn = []) := by
  refine Fn_body (N := 6) (ho _ _ _) Try.func51 rfl rfl fun B => ?_
  repeat' (first
    | refine SL_bin (by decide) (by rfl) (by rfl) (by rfl) (quoR p hp0 hp2) ?_
    | refine SC_seq ?_
    | refine SC_region ?_
    | refine SL_seq ?_
    | refine SL_assign (by decide) (by rfl) ?_
    | refine SL_fieldAddr (by decide) (by rfl) (fldF (by rfl)) ?_
    | refine SL_load_o (by decide) (by rfl) (by repeat (first | exact .head _ | refine .tail _ ?_)) (rowF (by rfl)) (by first | assumption | rfl | exact tab_get _ _ (by omega)) (by rfl) ?_
    | refine SL_box (by decide) (by rfl) (by first | exact cells_3 _ _ _ | rfl) (fun id hid => ?_))
  exact SC_ret (fun tm σ hE hH => Post.intro (Hn := []) (.inr rfl) hE hH (by rfl) trivial List.nodup_nil (fun p hp => by cases hp) ⟨rfl, rfl⟩)
end Go.Proofs.Ytldckcopeiginaa
/- The tie-breaks that sum over the games by a callback, and the progress. -/
namespace Go.Ab
theorem FnC.on {P : Program} {G : Gl} {f : FuncId} {xs : List AV} {H0 H : List (Nat × AObj)} {R : AV → List (Nat × AObj) → Prop} (h : FnC P G f xs H0 R) (hs : H0.Sublist H) : FnC P G f xs H R := fun σ hσ => h σ (hσ.sub (.of_mem fun _ hp => hs.subset hp) (hσ.nodup.sublist (hs.map _)))
end Go.Ab
namespace Go.Proofs.Ytldckcopeiginaa
open Go.Ab
attribute [local irreducible] SC SL wpc wpl wpd wpf wpy wpn FnC FnW RdW SD
set_option maxRecDepth 100000
set_option pp.deepTerms false
set_option pp.maxSteps 900
set_option maxHeartbeats 2000000
abbrev totV (br bi : Nat) : AV := .fn (.func 41) [] [.ptr br 0 0, .ptr bi 0 0]
theorem ev1_k {k : Nat} {i : Int} {g : Sc} : ∀ e ∈ ev1 k i g, e.k = k := by
  unfold ev1; split
  · intro e he; rw [List.mem_singleton] at he; subst he; rfl
  · split
    · intro e he; rw [List.mem_singleton] at he; subst he; rfl
    · intro e he; cases he
theorem evU_k {rs : List (List Sc)} (i : Int) : ∀ k, k ≤ rs.length → ∀ e ∈ evU rs i k, 0 ≤ e.k ∧ e.k < k
  | 0, _ => by intro e he; cases he
  | k + 1, h => by
    intro e he
    rw [evU_next h, List.mem_append] at he
    rcases he with he | he
    · have := evU_k i k (by omega) e he
      omega
    · obtain ⟨g, _, he⟩ := List.mem_flatMap.1 he
      have := ev1_k e he
      omega
def progE (R : Int) (es : List Ev) : Int := (es.map fun e => e.p * (R - e.k)).sum
theorem progE_next (R : Int) (es : List Ev) (e : Ev) : progE R (es ++ [e]) = progE R es + e.p * (R - e.k) := by
  unfold progE; simp
theorem progE_bd {R : Int} {es : List Ev} (h : ∀ e ∈ es, 0 ≤ e.p * (R - e.k) ∧ e.p * (R - e.k) ≤ 2000) : 0 ≤ progE R es ∧ progE R es ≤ 2000 * es.length := by
  induction es with
  | nil => simp [progE]
  | cons e es ih =>
    have h1 := ih fun e he => h e (List.mem_cons_of_mem _ he)
    have h2 := h e List.mem_cons_self
    unfold progE at h1 ⊢
    simp only [List.map_cons, List.sum_cons, List.length_cons]
    omega
section
variable {G : Gl} {rs : List (List Sc)} {ra : AV} {xs : List AV} (h : RV rs ra xs) (hg : ∀ gs ∈ rs, ∀ g ∈ gs, 0 ≤ g.p ∧ g.p ≤ 2) (ho : ∀ f x y, G.orc f (x :: y) = none) {m : Nat} (F : Nat → Int) (hF : ∀ x, x < m → 0 ≤ F x ∧ F x ≤ 1000) (i : Nat) (hi : i < m) (hev : ∀ e ∈ evU rs i rs.length, e.o < m) (hel : (evU rs i rs.length).length ≤ 1000)
include h hg ho hev hel
include hF in
theorem way4_fn (bt ba br bi sc : Nat) : FnC Try.prog G 47 [.ptr bt 0 0, .ptr ba 0 0] ((bt, .cells 82 1 true [[totV br bi]]) :: wayH ba br bi sc ra m F i) (fun v Hn => v = .s (.int .i64 (totE (fun e => e.p * F e.o.toNat) (evU rs i rs.length))) ∧ Hn = []) := by
  have hpb := fun e he => evU_bd hg i rs.length (Nat.le_refl _) e he
  have htot := total_fn h hg ho F i ba br bi sc (.fn (.func 48) [] [.ptr ba 0 0]) 48 (fun e => [.s (.agg #[.int .i64 e.o, .int .i64 e.p, .bool e.c]), .ptr ba 0 0]) (fun e => e.p * F e.o.toNat) rfl rfl rfl (fun _ => rfl)
    (fun e he h0 => (sonne_fn ho e.o e.p e.c F hF h0 (hev e he) (hpb e he).1 (hpb e he).2 ba sc).on (.cons _ (.cons _ (.refl _)))) (fun e he h0 => have hFe := hF e.o.toNat (by have := hev e he; omega); mul_bd (hpb e he).1 (hpb e he).2 hFe.1 hFe.2) hel
  refine Fn_body (N := 6) (ho _ _ _) Try.func47 rfl rfl fun B => ?_
  refine SC_nd fun hnd0 => ?_
  repeat' (first
    | refine SL_makeFunc (by decide) (by rfl) (by rfl) ?_
    | (refine SL_callv (by decide) (by rfl) (by rfl) (by rfl) (by rfl) htot (.of_mem fun p hp => .tail _ hp) (List.nodup_cons.1 hnd0).2 ?_; rintro _ _ _ ⟨rfl, rfl⟩; rw [List.nil_append])
    | refine SC_seq ?_
    | refine SC_region ?_
    | refine SL_seq ?_
    | refine SL_assign (by decide) (by rfl) ?_
    | refine SL_load_o (by decide) (by rfl) (by repeat (first | exact .head _ | refine .tail _ ?_)) (rowF (by rfl)) (by first | assumption | rfl) (by rfl) ?_)
  exact SC_ret (fun tm σ hE hH => Post.intro (Hn := []) (.inr rfl) hE hH (by rfl) trivial List.nodup_nil (fun p hp => by cases hp) ⟨rfl, rfl⟩)
omit hev in
theorem way6_fn (bt ba br bi sc : Nat) : FnC Try.prog G 50 [.ptr bt 0 0] ((bt, .cells 82 1 true [[totV br bi]]) :: wayH ba br bi sc ra m F i) (fun v Hn => v = .s (.int .i64 (totE (fun e => e.p / 2) (evU rs i rs.length))) ∧ Hn = []) := by
  have hpb := fun e he => evU_bd hg i rs.length (Nat.le_refl _) e he
  have htot := total_fn (m := m) h hg ho F i ba br bi sc (.s (.func (.func 51) #[] #[])) 51 (fun e => [.s (.agg #[.int .i64 e.o, .int .i64 e.p, .bool e.c])]) (fun e => e.p / 2) rfl rfl (bl_of bd51) (fun _ => rfl)
    (fun e he h0 => (wins_fn ho e.o e.p e.c (hpb e he).1 (hpb e he).2).on (List.nil_sublist _)) (fun e he h0 => by have := hpb e he; omega) hel
  refine Fn_body (N := 4) (ho _ _ _) Try.func50 rfl rfl fun B => ?_
  refine SC_nd fun hnd0 => ?_
  repeat' (first
    | (refine SL_callv (by decide) (by rfl) (by rfl) (by rfl) (by rfl) htot (.of_mem fun p hp => .tail _ hp) (List.nodup_cons.1 hnd0).2 ?_; rintro _ _ _ ⟨rfl, rfl⟩; rw [List.nil_append])
    | refine SC_seq ?_
    | refine SC_region ?_
    | refine SL_seq ?_
    | refine SL_assign (by decide) (by rfl) ?_
    | refine SL_load_o (by decide) (by rfl) (by repeat (first | exact .head _ | refine .tail _ ?_)) (rowF (by rfl)) (by first | assumption | rfl) (by rfl) ?_)
  exact SC_ret (fun tm σ hE hH => Post.intro (Hn := []) (.inr rfl) hE hH (by rfl) trivial List.nodup_nil (fun p hp => by cases hp) ⟨rfl, rfl⟩)
include hi in
theorem way7_fn (bt ba br bi sc : Nat) : FnC Try.prog G 52 [.ptr bt 0 0, .ptr ba 0 0, .ptr bi 0 0] ((bt, .cells 82 1 true [[totV br bi]]) :: wayH ba br bi sc ra m F i) (fun v Hn => v = .s (.int .i64 (totE (fun e => if F e.o.toNat = F i then e.p else 0) (evU rs i rs.length))) ∧ Hn = []) := by
  have hpb := fun e he => evU_bd hg i rs.length (Nat.le_refl _) e he
  have htot := total_fn h hg ho F i ba br bi sc (.fn (.func 53) [] [.ptr ba 0 0, .ptr bi 0 0]) 53 (fun e => [.s (.agg #[.int .i64 e.o, .int .i64 e.p, .bool e.c]), .ptr ba 0 0, .ptr bi 0 0]) (fun e => if F e.o.toNat = F i then e.p else 0) rfl rfl rfl (fun _ => rfl)
    (fun e he h0 => (direct_fn ho e.o e.p e.c F h0 (hev e he) i hi ba bi sc).on (.cons_cons _ (.cons _ (.refl _)))) (fun e he h0 => by have := hpb e he; split <;> omega) hel
  refine Fn_body (N := 7) (ho _ _ _) Try.func52 rfl rfl fun B => ?_
  refine SC_nd fun hnd0 => ?_
  repeat' (first
    | refine SL_makeFunc (by decide) (by rfl) (by rfl) ?_
    | (refine SL_callv (by decide) (by rfl) (by rfl) (by rfl) (by rfl) htot (.of_mem fun p hp => .tail _ hp) (List.nodup_cons.1 hnd0).2 ?_; rintro _ _ _ ⟨rfl, rfl⟩; rw [List.nil_append])
    | refine SC_seq ?_
    | refine SC_region ?_
    | refine SL_seq ?_
    | refine SL_assign (by decide) (by rfl) ?_
    | refine SL_load_o (by decide) (by rfl) (by repeat (first | exact .head _ | refine .tail _ ?_)) (rowF (by rfl)) (by first | assumption | rfl) (by rfl) ?_)
  exact SC_ret (fun tm σ hE hH => Post.intro (Hn := []) (.inr rfl) hE hH (by rfl) trivial List.nodup_nil (fun p hp => by cases hp) ⟨rfl, rfl⟩)
omit hev in
theorem way5_fn (hr : rs.length ≤ 30) (ba br bi sc : Nat) : FnC Try.prog G 49 [.ptr br 0 0, .ptr bi 0 0] (wayH ba br bi sc ra m F i) (fun v Hn => v = .s (.int .i64 (progE rs.length (evU rs i rs.length))) ∧ Hn = []) := by
  have hsl := h.sl
  have hlen := h.len
  have hpb := fun e he => evU_bd hg i rs.length (Nat.le_refl _) e he
  have hk := evU_k (rs := rs) i rs.length (Nat.le_refl _)
  have hmb : ∀ e ∈ evU rs i rs.length, 0 ≤ e.p * ((xs.length : Int) - e.k) ∧ e.p * ((xs.length : Int) - e.k) ≤ 2000 := fun e he => by
    have h1 := hpb e he
    have h2 := hk e he
    exact mul_bd h1.1 h1.2 (by omega) (by omega)
  refine Fn_body (N := 21) (ho _ _ _) Try.func49 rfl rfl fun B => ?_
  refine SC_nd fun hnd0 => ?_
  repeat' (first
    | (refine SL_call (by decide) (by rfl) bd36 (by rfl) (by rfl) (gamesOf_fn h i (ho _ _ _)) trivial List.nodup_nil ?_; rintro _ _ hBn ⟨ga, gb, rfl, rfl⟩; simp only [List.cons_append, List.nil_append])
    | refine SC_seq ?_
    | refine SC_block ?_
    | refine SC_region ?_
    | refine SL_seq ?_
    | refine SL_assign (by decide) (by rfl) ?_
    | refine SL_load_o (by decide) (by rfl) (by repeat (first | exact .head _ | refine .tail _ ?_)) (rowF (by rfl)) (by first | assumption | rfl) (by rfl) ?_
    | refine SL_store_box (by rfl) (by rfl) (by first | exact cells_3 _ _ _ | rfl) (by repeat (first | exact .head | apply Upd.tail)) (by first | exact .inl (by assumption) | exact .inr (by simp)) (by rfl) (szF (by rfl)) (by rfl) ?_
    | refine SL_alloc (by decide) (zeroF (by rfl)) (fun id hid => ?_))
  obtain ⟨b3, hb3, rfl⟩ : ∃ b, B.next ≤ b ∧ b = id := ⟨id, hid, rfl⟩
  refine SC_perm (List.perm_append_comm (l₁ := [(gb, _), (ga, _), (b3, _)]) (l₂ := wayH ba br bi sc ra m F i)) ?_
  refine SC_range2 (Hr := wayH ba br bi sc ra m F i) (Hx := wayH ba br bi sc ra m F i)
    (Fin := fun H => H = [(b3, .cells 3 1 true [[.s (.int .i64 (progE xs.length (evU rs i rs.length)))]])]) (M0 := [b3]) (xs := fun l => [.yld l, .ptr ga 0 0, .ptr gb 0 0]) (by rfl) (fun l => by rfl) ?_ (fun p hp => hp) hnd0 ?_ ?_
  · intro q hq
    rw [List.mem_singleton] at hq
    subst hq
    exact ⟨.inl hb3, by simp⟩
  · intro tm d l hE hl hnot
    refine games2_fn h hg i (fun es H => H = [(b3, .cells 3 1 true [[.s (.int .i64 (progE xs.length es))]])]) [(b3, .cells 3 1 true [[.s (.int .i64 0)]])] (wayH ba br bi sc ra m F i) rfl ?_ (ho _ _ _)
    rintro es e Hc hpre rfl
    have hem : e ∈ evU rs i rs.length := hpre.subset (by simp)
    have hbd := progE_bd (R := xs.length) (es := es) fun e' he' => hmb e' (hpre.subset (List.mem_append_left _ he'))
    have hfe := hmb e hem
    have hke := hk e hem
    have hll := hpre.length_le
    rw [List.length_append, List.length_singleton] at hll
    refine Rd_body' (H := _) hE rfl (by decide) List.mem_cons_self fun B' => ?_
    dsimp only [List.cons_append, List.nil_append]
    repeat' (first
      | refine SC_seq ?_
      | refine SC_region ?_
      | refine SL_seq ?_
      | refine SL_assign (by decide) (by rfl) ?_
      | refine SL_store_box (by rfl) (by rfl) (by first | exact cells_3 _ _ _ | rfl) (by repeat (first | exact .head | apply Upd.tail)) (by first | exact .inl (by assumption) | exact .inr (by simp)) (by rfl) (szF (by rfl)) (by rfl) ?_
      | refine SL_alloc (by decide) (zeroF (by rfl)) (fun id hid => ?_))
    refine SL_nil fun tm1 σ1 hE1 hH1 => ⟨tm1, σ1, _, _, rfl, hE1, hH1.perm (List.Perm.swap _ _ _), ?_⟩
    clear hE1 hH1
    clear tm1 σ1
    repeat' (first
      | refine SL_mul (by decide) (by rfl) (by rfl) (by omega) (by omega) ?_
      | refine SC_block ?_
      | refine SC_region ?_
      | refine SL_move (by decide) (by rfl) ?_
      | refine SL_add (by decide) (by rfl) (by rfl) (by omega) (by omega) ?_
      | refine SL_sub (by decide) (by rfl) (by rfl) (by omega) (by omega) ?_
      | refine SL_fieldAddr (by decide) (by rfl) (fldF (by rfl)) ?_
      | refine SL_len_v (by decide) (by rfl) (by assumption) (by rfl) (slF (by rfl)) (by simp only [List.length_map]; first | rfl | assumption) ?_
      | refine SL_load_o (by decide) (by rfl) (by repeat (first | exact .head _ | refine .tail _ ?_)) (rowF (by rfl)) (by first | assumption | rfl) (by rfl) ?_
      | refine SL_store_box (by rfl) (by rfl) (by first | exact cells_3 _ _ _ | rfl) (by repeat (first | exact .head | apply Upd.tail)) (by first | exact .inl (by assumption) | exact .inr (by simp)) (by rfl) (szF (by rfl)) (by rfl) ?_)
    refine SL_nil fun tm2 σ2 hE2 hH2 => ?_
    dsimp only [InB]
    refine RPost.intro (Hn := [(l, _), (b3, _)]) hH2 List.mem_cons_self .head ⟨.head _, .tail _ (.tail _ (.head _)), trivial⟩ (hH2.nodup.sublist (.cons_cons _ (.cons _ (.cons_cons _ (List.nil_sublist _))))) (fun p hp => .inl ?_) ⟨rfl, _, rfl, ?_⟩
    · simp only [List.mem_cons, List.not_mem_nil, or_false] at hp
      rcases hp with rfl | rfl <;> simp
    · rw [progE_next]; rfl
  · rintro d H' tm' σ' hpl rfl hE' hH'
    refine SC.app ?_ hE' hH'
    clear hE' hH'
    clear tm' σ'
    dsimp only [List.cons_append, List.nil_append]
    repeat' (first
      | refine SC_seq ?_
      | refine SC_region ?_
      | refine SL_seq ?_
      | refine SL_assign (by decide) (by rfl) ?_
      | refine SL_load_o (by decide) (by rfl) (by repeat (first | exact .head _ | refine .tail _ ?_)) (rowF (by rfl)) (by first | assumption | rfl) (by rfl) ?_)
    exact SC_ret (fun tm σ hE hH => Post.intro (Hn := []) (.inr rfl) hE hH (by rfl) trivial List.nodup_nil (fun p hp => by cases hp) ⟨by rw [hlen]; rfl, rfl⟩)
end
end Go.Proofs.Ytldckcopeiginaa
/- The program's value of a tie-break. -/
namespace Go.Proofs.Ytldckcopeiginaa
open Go.Ab
attribute [local irreducible] SC SL wpc wpl wpd wpf wpy wpn FnC FnW RdW SD
set_option maxRecDepth 100000
set_option pp.deepTerms false
set_option pp.maxSteps 900
set_option maxHeartbeats 2000000
def tieTab (ba br bi bt : Nat) : List AV := [.s .nilFunc, .fn (.func 42) [] [.ptr ba 0 0, .ptr br 0 0, .ptr bi 0 0], .fn (.func 45) [] [.ptr ba 0 0, .ptr br 0 0, .ptr bi 0 0], .fn (.func 46) [] [.ptr ba 0 0, .ptr br 0 0, .ptr bi 0 0], .fn (.func 47) [] [.ptr bt 0 0, .ptr ba 0 0], .fn (.func 49) [] [.ptr br 0 0, .ptr bi 0 0], .fn (.func 50) [] [.ptr bt 0 0], .fn (.func 52) [] [.ptr bt 0 0, .ptr ba 0 0, .ptr bi 0 0]]
theorem build85 (ba br bi bt : Nat) : effBuild Try.prog 85 [(1, .fn (.func 42) [] [.ptr ba 0 0, .ptr br 0 0, .ptr bi 0 0]), (2, .fn (.func 45) [] [.ptr ba 0 0, .ptr br 0 0, .ptr bi 0 0]), (3, .fn (.func 46) [] [.ptr ba 0 0, .ptr br 0 0, .ptr bi 0 0]), (4, .fn (.func 47) [] [.ptr bt 0 0, .ptr ba 0 0]), (5, .fn (.func 49) [] [.ptr br 0 0, .ptr bi 0 0]), (6, .fn (.func 50) [] [.ptr bt 0 0]), (7, .fn (.func 52) [] [.ptr bt 0 0, .ptr ba 0 0, .ptr bi 0 0])] = some (.agg (tieTab ba br bi bt)) := by kernel_rfl
/-- What a tie-break's value is. -/
def TieV (F : Nat → Int) (i : Nat) (R : Int) (es : List Ev) (k : Nat) (n : Int) : Prop :=
  (k = 1 ∧ n = (foesL F es).sum) ∨
  (k = 2 ∧ ∃ c : List Int, c.Perm (foesL F es) ∧ SortedTo c c.length ∧ n = (c.drop 1).sum) ∨
  (k = 3 ∧ ∃ c : List Int, c.Perm (foesL F es) ∧ SortedTo c c.length ∧ n = if c.length < 2 then 0 else ((c.drop 1).take (c.length - 2)).sum) ∨
  (k = 4 ∧ n = totE (fun e => e.p * F e.o.toNat) es) ∨
  (k = 5 ∧ n = progE R es) ∨
  (k = 6 ∧ n = totE (fun e => e.p / 2) es) ∨
  (k = 7 ∧ n = totE (fun e => if F e.o.toNat = F i then e.p else 0) es)
theorem value_fn {G : Gl} {rs : List (List Sc)} {ra : AV} {xs : List AV} (h : RV rs ra xs) (hg : ∀ gs ∈ rs, ∀ g ∈ gs, 0 ≤ g.p ∧ g.p ≤ 2) (ho : ∀ f x y, G.orc f (x :: y) = none) {m : Nat} (F : Nat → Int) (hF : ∀ x, x < m → 0 ≤ F x ∧ F x ≤ 1000) (i : Nat) (hi : i < m) (hev : ∀ e ∈ evU rs i rs.length, e.o < m)
    (hlen : (foesL F (evU rs i rs.length)).length ≤ 12) (hel : (evU rs i rs.length).length ≤ 1000) (hr : rs.length ≤ 30) (k : Nat) (hk1 : 1 ≤ k) (hk7 : k ≤ 7) (sc : Nat) :
    FnC Try.prog G 28 [.sl sc 0 m none, ra, .s (.int .i64 k), .s (.int .i64 i)] [(sc, .cells 3 1 true (tab m F))] (fun v Hn => ∃ n, v = .s (.int .i64 n) ∧ TieV F i rs.length (evU rs i rs.length) k n ∧ Hn = []) := by
  have hsl := h.sl
  have hw1 := fun ba br bi sc => buch_fn h hg ho F hF i hev hlen ba br bi sc
  have hw2 := fun ba br bi sc => cut_fn h hg ho F hF i hev hlen ba br bi sc
  have hw3 := fun ba br bi sc => med_fn h hg ho F hF i hev hlen ba br bi sc
  have hw4 := fun bt ba br bi sc => way4_fn h hg ho F hF i hev hel bt ba br bi sc
  have hw5 := fun ba br bi sc => way5_fn (m := m) h hg ho F i hel hr ba br bi sc
  have hw6 := fun bt ba br bi sc => way6_fn (m := m) h hg ho F i hel bt ba br bi sc
  have hw7 := fun bt ba br bi sc => way7_fn h hg ho F i hi hev hel bt ba br bi sc
  obtain rfl | rfl | rfl | rfl | rfl | rfl | rfl : k = 1 ∨ k = 2 ∨ k = 3 ∨ k = 4 ∨ k = 5 ∨ k = 6 ∨ k = 7 := by omega
  all_goals
    refine Fn_body (N := 24) (ho _ _ _) Try.func28 rfl rfl fun B => ?_
    repeat' (first
      | (refine SL_nd fun hnd => SL_callv (by decide) (by rfl) (by rfl) (by rfl) (by rfl) (hw7 _ _ _ _ _) (.of_mem fun p hp => .tail _ hp) (hnd.sublist (.cons _ (.refl _))) ?_; rintro _ _ _ ⟨rfl, rfl⟩; rw [List.nil_append])
      | (refine SL_nd fun hnd => SL_callv (by decide) (by rfl) (by rfl) (by rfl) (by rfl) (hw6 _ _ _ _ _) (.of_mem fun p hp => .tail _ hp) (hnd.sublist (.cons _ (.refl _))) ?_; rintro _ _ _ ⟨rfl, rfl⟩; rw [List.nil_append])
      | (refine SL_nd fun hnd => SL_callv (by decide) (by rfl) (by rfl) (by rfl) (by rfl) (hw4 _ _ _ _ _) (.of_mem fun p hp => .tail _ hp) (hnd.sublist (.cons _ (.refl _))) ?_; rintro _ _ _ ⟨rfl, rfl⟩; rw [List.nil_append])
      | (refine SL_nd fun hnd => SL_callv (by decide) (by rfl) (by rfl) (by rfl) (by rfl) (hw5 _ _ _ _) (.of_mem fun p hp => .tail _ (.tail _ hp)) (hnd.sublist (.cons _ (.cons _ (.refl _)))) ?_; rintro _ _ _ ⟨rfl, rfl⟩; rw [List.nil_append])
      | (refine SL_nd fun hnd => SL_callv (by decide) (by rfl) (by rfl) (by rfl) (by rfl) (hw3 _ _ _ _) (.of_mem fun p hp => .tail _ (.tail _ hp)) (hnd.sublist (.cons _ (.cons _ (.refl _)))) ?_; rintro _ _ _ ⟨⟨c, hcp, hcs, rfl⟩, rfl⟩; rw [List.nil_append])
      | (refine SL_nd fun hnd => SL_callv (by decide) (by rfl) (by rfl) (by rfl) (by rfl) (hw2 _ _ _ _) (.of_mem fun p hp => .tail _ (.tail _ hp)) (hnd.sublist (.cons _ (.cons _ (.refl _)))) ?_; rintro _ _ _ ⟨⟨c, hcp, hcs, rfl⟩, rfl⟩; rw [List.nil_append])
      | (refine SL_nd fun hnd => SL_callv (by decide) (by rfl) (by rfl) (by rfl) (by rfl) (hw1 _ _ _ _) (.of_mem fun p hp => .tail _ (.tail _ hp)) (hnd.sublist (.cons _ (.cons _ (.refl _)))) ?_; rintro _ _ _ ⟨rfl, rfl⟩; rw [List.nil_append])
      | refine SL_indexAddr_a (by decide) (by rfl) (by rfl) arr85 _ (by rfl) (by decide) ?_
      | refine SL_build (by decide) (by rfl) (build85 _ _ _ _) ?_
      | refine SL_makeFunc (by decide) (by rfl) (by rfl) ?_
      | refine SL_box (by decide) (by rfl) (cells_v hsl) (fun id hid => ?_)
      | refine SC_seq ?_
      | refine SC_region ?_
      | refine SL_seq ?_
      | refine SL_move (by decide) (by rfl) ?_
      | refine SL_assign (by decide) (by rfl) ?_
      | refine SL_load_o (by decide) (by rfl) (by repeat (first | exact .head _ | refine .tail _ ?_)) (rowF (by rfl)) (by first | assumption | rfl) (by rfl) ?_
      | refine SL_store_box (by rfl) (by rfl) (by first | exact cells_3 _ _ _ | rfl) (by repeat (first | exact .head | apply Upd.tail)) (by first | exact .inl (by assumption) | exact .inr (by simp)) (by rfl) (szF (by rfl)) (by rfl) ?_
      | refine SL_alloc (by decide) (zeroF (by rfl)) (fun id hid => ?_)
      | refine SL_box (by decide) (by rfl) (by first | exact cells_3 _ _ _ | rfl) (fun id hid => ?_))
    refine SC_ret (fun tm σ hE hH => Post.intro (Hn := []) (.inr rfl) hE hH (by rfl) trivial List.nodup_nil (fun p hp => by cases hp) ⟨_, rfl, ?_, rfl⟩)
  · exact .inl ⟨rfl, rfl⟩
  · exact .inr (.inl ⟨rfl, c, hcp, hcs, rfl⟩)
  · exact .inr (.inr (.inl ⟨rfl, c, hcp, hcs, rfl⟩))
  · exact .inr (.inr (.inr (.inl ⟨rfl, rfl⟩)))
  · exact .inr (.inr (.inr (.inr (.inl ⟨rfl, rfl⟩))))
  · exact .inr (.inr (.inr (.inr (.inr (.inl ⟨rfl, rfl⟩)))))
  · exact .inr (.inr (.inr (.inr (.inr (.inr ⟨rfl, rfl⟩)))))
end Go.Proofs.Ytldckcopeiginaa
/- The law's own Value of a tie-break. -/
namespace Go.Proofs.Ytldckcopeiginaa
open Go.Ab
attribute [local irreducible] SC SL wpc wpl wpd wpf wpy wpn FnC FnW RdW SD
set_option maxRecDepth 100000
set_option pp.deepTerms false
set_option pp.maxSteps 900
set_option maxHeartbeats 4000000
structure LS where
  total : Int
  low : Int
  high : Int
  many : Int
  sonne : Int
  wins : Int
  direct : Int
  score : Int
def LS.zero : LS := ⟨0, 0, 0, 0, 0, 0, 0, 0⟩
def LS.add (F : Nat → Int) (i : Nat) (s : LS) (p o : Int) : LS :=
  if o < 0 then ⟨s.total, s.low, s.high, s.many, s.sonne, s.wins, s.direct, s.score + p⟩
  else ⟨s.total + F o.toNat, if s.many = 0 ∨ F o.toNat < s.low then F o.toNat else s.low, if s.many = 0 ∨ s.high < F o.toNat then F o.toNat else s.high, s.many + 1, s.sonne + p * F o.toNat, if p = 2 then s.wins + 1 else s.wins, if F o.toNat = F i then s.direct + p else s.direct, s.score + p⟩
theorem LS.add_neg (F : Nat → Int) (i : Nat) (s : LS) (p : Int) {o : Int} (h : o < 0) : s.add F i p o = ⟨s.total, s.low, s.high, s.many, s.sonne, s.wins, s.direct, s.score + p⟩ := if_pos h
theorem LS.add_pos (F : Nat → Int) (i : Nat) (s : LS) (p : Int) {o : Int} (h : ¬ o < 0) : ∃ lo hi wi di, s.add F i p o = ⟨s.total + F o.toNat, lo, hi, s.many + 1, s.sonne + p * F o.toNat, wi, di, s.score + p⟩ ∧
    ((s.many = 0 ∨ F o.toNat < s.low) → lo = F o.toNat) ∧ (s.many ≠ 0 → s.low ≤ F o.toNat → lo = s.low) ∧ ((s.many = 0 ∨ s.high < F o.toNat) → hi = F o.toNat) ∧ (s.many ≠ 0 → F o.toNat ≤ s.high → hi = s.high) ∧ (p = 2 → wi = s.wins + 1) ∧ (p ≠ 2 → wi = s.wins) ∧ (F o.toNat = F i → di = s.direct + p) ∧ (F o.toNat ≠ F i → di = s.direct) := by
  refine ⟨_, _, _, _, if_neg h, fun h => if_pos h, fun h h' => if_neg (by omega), fun h => if_pos h, fun h h' => if_neg (by omega), fun h => if_pos h, fun h => if_neg h, fun h => if_pos h, fun h => if_neg h⟩
def LS.of (F : Nat → Int) (i : Nat) (es : List Ev) : LS := es.foldl (fun s e => s.add F i e.p e.o) LS.zero
theorem LS.of_snoc (F : Nat → Int) (i : Nat) (es : List Ev) (e : Ev) : LS.of F i (es ++ [e]) = (LS.of F i es).add F i e.p e.o := by
  unfold LS.of; rw [List.foldl_append]; rfl
theorem LS.of_ev1 (F : Nat → Int) (i : Nat) (es : List Ev) (k : Nat) (g : Sc) : LS.of F i (es ++ ev1 k i g) = (LS.of F i es).add F i (pts g i).1 (pts g i).2 := by
  by_cases h1 : g.w = i
  · rw [ev1_w h1, pts_w h1, LS.of_snoc]
  · by_cases h2 : g.b = i
    · rw [ev1_b h1 h2, pts_b h1 h2, LS.of_snoc]
    · rw [ev1_n h1 h2, pts_n h1 h2, List.append_nil, LS.add_neg _ _ _ _ (by decide)]; simp
theorem snoc_ind {α : Type} {Q : List α → Prop} (h0 : Q []) (hs : ∀ l a, Q l → Q (l ++ [a])) : ∀ l, Q l := by
  intro l
  rw [← List.reverse_reverse l]
  induction l.reverse with
  | nil => exact h0
  | cons a r ih => rw [List.reverse_cons]; exact hs _ _ ih
structure LS.Ok (s : LS) (c : Nat) : Prop where
  total : 0 ≤ s.total ∧ s.total ≤ 1000 * c
  low : 0 ≤ s.low ∧ s.low ≤ 1000
  high : 0 ≤ s.high ∧ s.high ≤ 1000
  many : 0 ≤ s.many ∧ s.many ≤ c
  sonne : 0 ≤ s.sonne ∧ s.sonne ≤ 2000 * c
  wins : 0 ≤ s.wins ∧ s.wins ≤ c
  direct : 0 ≤ s.direct ∧ s.direct ≤ 2 * c
  score : 0 ≤ s.score ∧ s.score ≤ 2 * c
theorem LS.ok {F : Nat → Int} {m : Nat} (hF : ∀ x, x < m → 0 ≤ F x ∧ F x ≤ 1000) (i : Nat) : ∀ es : List Ev, (∀ e ∈ es, (0 ≤ e.p ∧ e.p ≤ 2) ∧ e.o < m) → (LS.of F i es).Ok es.length := by
  refine snoc_ind (fun _ => ?_) fun es e ih h => ?_
  · constructor <;> (unfold LS.of LS.zero; simp)
  · obtain ⟨h1, h2, h3, h4, h5, h6, h7, h8⟩ := ih fun e' he' => h e' (List.mem_append_left _ he')
    obtain ⟨hp, hm⟩ := h e (by simp)
    rw [LS.of_snoc, List.length_append, List.length_singleton]
    generalize LS.of F i es = s at *
    by_cases ho : e.o < 0
    · rw [LS.add_neg _ _ _ _ ho]
      constructor <;> dsimp only <;> omega
    · have hf := hF e.o.toNat (by omega)
      have hb := mul_bd hp.1 hp.2 hf.1 hf.2
      obtain ⟨lo, hi, wi, di, he, a1, a2, a3, a4, a5, a6, a7, a8⟩ := LS.add_pos F i s e.p ho
      rw [he]
      constructor <;> dsimp only
      · omega
      · omega
      · omega
      · omega
      · omega
      · clear a1 a2 a3 a4 a7 a8; omega
      · clear a1 a2 a3 a4 a5 a6; omega
      · omega
def lawV (s : LS) (pr : Int) (k : Nat) : Int :=
  match k with
  | 1 => s.total
  | 2 => s.total - s.low
  | 3 => if s.many < 2 then 0 else s.total - s.low - s.high
  | 4 => s.sonne
  | 5 => pr
  | 6 => s.wins
  | _ => s.direct
theorem progE_step (k : Nat) (i : Int) {rs : List (List Sc)} (h : k < rs.length) : progE (k + 1 : Nat) (evU rs i (k + 1)) = progE k (evU rs i k) + sumE (evU rs i (k + 1)) := by
  have hR : ∀ es : List Ev, progE (k + 1 : Nat) es = progE k es + sumE es := by
    intro es
    induction es with
    | nil => rfl
    | cons e es ih =>
      unfold progE sumE at ih ⊢
      simp only [List.map_cons, List.sum_cons]
      have : e.p * (((k + 1 : Nat) : Int) - e.k) = e.p * ((k : Int) - e.k) + e.p := by
        rw [show ((k + 1 : Nat) : Int) - e.k = ((k : Int) - e.k) + 1 by omega, Int.mul_add, Int.mul_one]
      omega
  rw [hR, evU_next h]
  have h0 : progE k (evR k i rs[k]) = 0 := by
    have : ∀ es : List Ev, (∀ e ∈ es, e.k = k) → progE k es = 0 := by
      intro es hes
      induction es with
      | nil => rfl
      | cons e es ih =>
        have h1 := ih fun e' he' => hes e' (List.mem_cons_of_mem _ he')
        have h2 := hes e List.mem_cons_self
        unfold progE at h1 ⊢
        simp only [List.map_cons, List.sum_cons, h1, h2, Int.sub_self, Int.mul_zero, Int.add_zero]
    refine this _ fun e he => ?_
    obtain ⟨g, _, he⟩ := List.mem_flatMap.1 he
    exact ev1_k e he
  have h1 : progE k (evU rs i k ++ evR k i rs[k]) = progE k (evU rs i k) + progE k (evR k i rs[k]) := by
    unfold progE; simp
  omega
theorem LS.score_eq (F : Nat → Int) (i : Nat) : ∀ es : List Ev, (LS.of F i es).score = sumE es := by
  refine snoc_ind rfl fun es e ih => ?_
  rw [LS.of_snoc, sumE_next, ← ih]
  unfold LS.add; split <;> rfl
theorem pts_lt {n : Int} {g : Sc} (h : GOk n g) (i : Int) : (pts g i).2 < n := by
  obtain ⟨h1, h2, h3, h4, _⟩ := h
  unfold pts; split
  · exact h4
  · split
    · exact h2
    · simp only; omega
theorem evU_lt {n : Int} {rs : List (List Sc)} (hg : ∀ gs ∈ rs, ∀ g ∈ gs, GOk n g) (i : Int) : ∀ k, k ≤ rs.length → ∀ e ∈ evU rs i k, e.o < n
  | 0, _ => by intro e he; cases he
  | k + 1, h => by
    intro e he
    rw [evU_next h, List.mem_append] at he
    rcases he with he | he
    · exact evU_lt hg i k (by omega) e he
    · obtain ⟨g, hgm, he⟩ := List.mem_flatMap.1 he
      obtain ⟨h1, h2, h3, h4, _⟩ := hg _ (List.getElem_mem h) g hgm
      unfold ev1 at he
      split at he
      · rw [List.mem_singleton] at he; subst he; exact h4
      · split at he
        · rw [List.mem_singleton] at he; subst he; exact h2
        · cases he
theorem lawValue_fn {G : Gl} {rs : List (List Sc)} {ra : AV} {xs : List AV} (h : RV rs ra xs) (hf : ∀ gs ∈ rs, gs.length ≤ 12) {m : Nat} (hv : VOk m rs) (ho : ∀ f x y, G.orc f (x :: y) = none) (F : Nat → Int) (hF : ∀ x, x < m → 0 ≤ F x ∧ F x ≤ 1000) (i : Nat) (hi : i < m) (k0 : Nat) (hk1 : 1 ≤ k0) (hk7 : k0 ≤ 7) (sc : Nat) :
    FnC Try.prog G 16 [.sl sc 0 m none, ra, .s (.int .i64 k0), .s (.int .i64 i)] [(sc, .cells 3 1 true (tab m F))] (fun v Hn => v = .s (.int .i64 (lawV (LS.of F i (evU rs i rs.length)) (progE rs.length (evU rs i rs.length)) k0)) ∧ Hn = []) := by
  have hsl := h.sl
  have hlen := h.len
  have hbig := h.big
  obtain ⟨hv1, hv2, hv3, hv4⟩ := hv
  have hgp : ∀ gs ∈ rs, ∀ g ∈ gs, 0 ≤ g.p ∧ g.p ≤ 2 := fun gs hgs g hgg => ((hv4 gs hgs).1 g hgg).2.2.2.2
  have hevp : ∀ e ∈ evU rs i rs.length, 0 ≤ e.p ∧ e.p ≤ 2 := evU_bd hgp i rs.length (Nat.le_refl _)
  have hevo : ∀ e ∈ evU rs i rs.length, e.o < m := evU_lt (fun gs hgs g hgg => (hv4 gs hgs).1 g hgg) i rs.length (Nat.le_refl _)
  have hevl := evU_len hf i rs.length (Nat.le_refl _)
  have hok : ∀ es, es <+: evU rs i rs.length → (LS.of F i es).Ok es.length ∧ es.length ≤ 360 := fun es hpre =>
    ⟨LS.ok hF i es fun e he => ⟨hevp e (hpre.subset he), hevo e (hpre.subset he)⟩, by have := hpre.length_le; omega⟩
  have hprog : ∀ k, k ≤ rs.length → 0 ≤ progE k (evU rs i k) ∧ progE k (evU rs i k) ≤ 720 * k := by
    intro k
    induction k with
    | zero => intro _; simp [evU, progE]
    | succ k ih =>
      intro hk
      have h1 := ih (by omega)
      rw [progE_step k i (by omega), ← LS.score_eq F i]
      have h2 := hok _ (evU_pre rs i hk)
      have h3 := h2.1.score
      have h4 := h2.2
      omega
  refine Fn_body (N := 129) (ho _ _ _) Try.func16 rfl rfl fun B => ?_
  repeat' (first
    | refine SC_seq ?_
    | refine SC_block ?_
    | refine SC_region ?_
    | refine SL_seq ?_
    | refine SL_assign (by decide) (by rfl) ?_)
  refine SC_loop (fun k : Nat => [(0, .sl sc 0 m none), (1, ra), (2, .s (.int .i64 k0)), (3, .s (.int .i64 i)), (9, .s (.int .i64 (LS.of F i (evU rs i k)).total)), (10, .s (.int .i64 (LS.of F i (evU rs i k)).low)), (11, .s (.int .i64 (LS.of F i (evU rs i k)).high)), (12, .s (.int .i64 (LS.of F i (evU rs i k)).many)), (13, .s (.int .i64 (LS.of F i (evU rs i k)).sonne)), (14, .s (.int .i64 (LS.of F i (evU rs i k)).wins)), (15, .s (.int .i64 (LS.of F i (evU rs i k)).direct)), (16, .s (.int .i64 (progE k (evU rs i k)))), (17, .s (.int .i64 (LS.of F i (evU rs i k)).score)), (18, .s (.int .i64 k))])
    (fun _ => [(sc, .cells 3 1 true (tab m F))]) (fun _ => []) (fun k => k ≤ rs.length) (fun k => rs.length - k) 0 (by omega) ⟨rfl, rfl, rfl, rfl, rfl, rfl, rfl, rfl, rfl, rfl, rfl, rfl, rfl, rfl, trivial⟩ ⟨.head _, trivial⟩ (by simp) rfl ?_
  intro k hk
  by_cases hlt : k < rs.length
  · obtain ⟨x, hx, hgx⟩ := h.row hlt
    unfold GV at hgx
    have hgs := hf rs[k] (List.getElem_mem hlt)
    have hr := (hv4 rs[k] (List.getElem_mem hlt)).1
    repeat' (first
      | refine SC_seq ?_
      | refine SC_block ?_
      | refine SC_region ?_
      | refine SL_seq ?_
      | refine SL_move (by decide) (by rfl) ?_
      | refine SL_assign (by decide) (by rfl) ?_
      | (refine SL_lss (by decide) (by rfl) (by rfl) (fun hT => ?_) (fun hT => ?_) <;> first | (exfalso; omega) | skip)
      | refine SL_len_v (by decide) (by rfl) (by assumption) (by rfl) (slF (by rfl)) (by simp only [List.length_map]; first | rfl | assumption) ?_
      | refine SC_cond_t (by rfl) ?_
      | (refine SC_skip' (fun tm σ hE hH => ?_); refine SC.app ?_ hE hH; clear hE hH; clear tm σ))
    refine SC_loop (fun j : Nat => [(0, .sl sc 0 m none), (1, ra), (2, .s (.int .i64 k0)), (3, .s (.int .i64 i)), (9, .s (.int .i64 (LS.of F i (evU rs i k ++ evR k i (rs[k].take j))).total)), (10, .s (.int .i64 (LS.of F i (evU rs i k ++ evR k i (rs[k].take j))).low)), (11, .s (.int .i64 (LS.of F i (evU rs i k ++ evR k i (rs[k].take j))).high)), (12, .s (.int .i64 (LS.of F i (evU rs i k ++ evR k i (rs[k].take j))).many)), (13, .s (.int .i64 (LS.of F i (evU rs i k ++ evR k i (rs[k].take j))).sonne)), (14, .s (.int .i64 (LS.of F i (evU rs i k ++ evR k i (rs[k].take j))).wins)), (15, .s (.int .i64 (LS.of F i (evU rs i k ++ evR k i (rs[k].take j))).direct)), (16, .s (.int .i64 (progE k (evU rs i k)))), (17, .s (.int .i64 (LS.of F i (evU rs i k ++ evR k i (rs[k].take j))).score)), (18, .s (.int .i64 k)), (19, .s (.int .i64 j))])
      (fun _ => [(sc, .cells 3 1 true (tab m F))]) (fun _ => []) (fun j => j ≤ rs[k].length) (fun j => rs[k].length - j) 0 (by omega) (by rw [show evR k i (rs[k].take 0) = [] from rfl, List.append_nil]; exact ⟨rfl, rfl, rfl, rfl, rfl, rfl, rfl, rfl, rfl, rfl, rfl, rfl, rfl, rfl, rfl, trivial⟩) ⟨.head _, trivial⟩ (by simp) rfl ?_
    intro j hj
    by_cases hjlt : j < rs[k].length
    · have hrow : (rs[k].map cells3)[j]? = some (cells3 rs[k][j]) := by rw [List.getElem?_map, List.getElem?_eq_getElem hjlt]; rfl
      have hgj := hr rs[k][j] (List.getElem_mem hjlt)
      have hpre := ev_pre hlt hjlt i
      have hok1 := hok _ ((List.prefix_append _ _).trans hpre)
      have hnext : LS.of F i (evU rs i k ++ evR k i (rs[k].take (j + 1))) = (LS.of F i (evU rs i k ++ evR k i (rs[k].take j))).add F i (pts rs[k][j] i).1 (pts rs[k][j] i).2 := by
        rw [evR_next hjlt, ← List.append_assoc, LS.of_ev1]
      have h22 := points_fn (G := G) rs[k][j] (i : Int) hgj.2.2.2.2.1 hgj.2.2.2.2.2 (ho _ _ _)
      have hpt := pts_bd hgj.2.2.2.2.1 hgj.2.2.2.2.2 (i : Int)
      have hpo : (pts rs[k][j] i).2 < m := pts_lt hgj i
      generalize (pts rs[k][j] i).1 = p at hnext h22 hpt
      generalize (pts rs[k][j] i).2 = o at hnext h22 hpo
      generalize LS.of F i (evU rs i k ++ evR k i (rs[k].take j)) = s at hok1 hnext ⊢
      obtain ⟨⟨b1, b2, b3, b4, b5, b6, b7, b8⟩, hes⟩ := hok1
      generalize (evU rs i k ++ evR k i (rs[k].take j)).length = c at b1 b4 b5 b6 b7 b8 hes
      by_cases hon : o < 0
      · rw [LS.add_neg _ _ _ _ hon] at hnext
        repeat' (first
          | (refine SL_call (by decide) (by rfl) bd22 (by rfl) (by rfl) (h22) trivial List.nodup_nil ?_; rintro _ _ _ ⟨rfl, rfl⟩; rw [List.nil_append])
          | refine SC_seq ?_
          | refine SC_block ?_
          | refine SC_region ?_
          | refine SL_seq ?_
          | refine SL_move (by decide) (by rfl) ?_
          | refine SL_assign (by decide) (by rfl) ?_
          | refine SL_add (by decide) (by rfl) (by rfl) (by omega) (by omega) ?_
          | (refine SL_lss (by decide) (by rfl) (by rfl) (fun hT => ?_) (fun hT => ?_) <;> first | (exfalso; omega) | skip)
          | refine SL_extract_s (by decide) (by rfl) (by rfl) ?_
          | refine SL_len_v (by decide) (by rfl) (by assumption) (by rfl) (slF (by rfl)) (by simp only [List.length_map]; first | rfl | assumption) ?_
          | refine SL_indexAddr_v (by decide) (by rfl) (by rfl) (by assumption) (slF (by rfl)) _ (by first | rfl | exact (Int.toNat_of_nonneg (by omega)).symm) (by simp only [List.length_map]; omega) (fun ad => ?_)
          | refine SL_load_r (by decide) (by rfl) (rowF (by rfl)) (by first | assumption | rfl | exact tab_get _ _ (by omega)) (by rfl) ?_
          | refine SL_load_rr (by decide) (by rfl) (rowF (by rfl)) (by first | assumption | rfl | exact tab_get _ _ (by omega)) (Nat.le_of_ble_eq_true (by rfl)) (by first | exact mk3 _ | rfl) ?_
          | refine SC_cond_t (by rfl) ?_
          | (refine SC_exit (fun tm σ hE hH => ?_); refine SC.app ?_ hE hH; clear hE hH; clear tm σ)
          | (refine SC_skip' (fun tm σ hE hH => ?_); refine SC.app ?_ hE hH; clear hE hH; clear tm σ))
        refine SL_nil fun tm σ hE hH => ⟨j + 1, by omega, by omega, tm, σ, rfl, ?_, hH.sub ⟨.head _, trivial⟩ (by simp)⟩
        rw [hnext]
        exact hE.sub ⟨rfl, rfl, rfl, rfl, rfl, rfl, rfl, rfl, rfl, rfl, rfl, rfl, rfl, rfl, rfl, trivial⟩
      · have hFo := hF o.toNat (by omega)
        have hmb := mul_bd hpt.1 hpt.2 hFo.1 hFo.2
        obtain ⟨lo, hg, wi, di, he, a1, a2, a3, a4, a5, a6, a7, a8⟩ := LS.add_pos F i s p hon
        rw [he] at hnext
        clear he
        repeat' (first
          | refine SL_mul (by decide) (by rfl) (by rfl) (by omega) (by omega) ?_
          | (refine SL_call (by decide) (by rfl) bd22 (by rfl) (by rfl) (h22) trivial List.nodup_nil ?_; rintro _ _ _ ⟨rfl, rfl⟩; rw [List.nil_append])
          | refine SC_seq ?_
          | refine SC_block ?_
          | refine SC_region ?_
          | refine SL_seq ?_
          | (refine SL_nil (fun tm σ hE hH => ?_); refine SC.app ?_ hE hH; clear hE hH; clear tm σ)
          | refine SL_run (by rfl) (by rfl) ?_
          | refine SL_not (by rfl) (by rfl) (by rfl) (by decide) ?_
          | refine SL_move (by decide) (by rfl) ?_
          | refine SL_assign (by decide) (by rfl) ?_
          | refine SL_pick_t (by decide) (by rfl) (by rfl) ?_
          | refine SL_pick_f (by decide) (by rfl) (by rfl) ?_
          | refine SL_add (by decide) (by rfl) (by rfl) (by omega) (by omega) ?_
          | (refine SL_lss (by decide) (by rfl) (by rfl) (fun hT => ?_) (fun hT => ?_) <;> first | (exfalso; omega) | skip)
          | (refine SL_gtr (by decide) (by rfl) (by rfl) (fun hT => ?_) (fun hT => ?_) <;> first | (exfalso; omega) | skip)
          | (refine SL_eql (by decide) (by rfl) (by rfl) (fun hT => ?_) (fun hT => ?_) <;> first | (exfalso; omega) | skip)
          | refine SL_extract_s (by decide) (by rfl) (by rfl) ?_
          | refine SL_len_v (by decide) (by rfl) (by assumption) (by rfl) (slF (by rfl)) (by simp only [List.length_map]; first | rfl | assumption) ?_
          | refine SL_indexAddr_v (by decide) (by rfl) (by rfl) (by assumption) (slF (by rfl)) _ (by first | rfl | exact (Int.toNat_of_nonneg (by omega)).symm) (by simp only [List.length_map]; omega) (fun ad => ?_)
          | refine SL_indexAddr_0 (by decide) (by rfl) (by rfl) (by repeat (first | exact .head _ | refine .tail _ ?_)) (slF (by rfl)) _ (by first | rfl | exact (Int.toNat_of_nonneg (by omega)).symm) (by omega) ?_
          | refine SL_load_r (by decide) (by rfl) (rowF (by rfl)) (by first | assumption | rfl | exact tab_get _ _ (by omega)) (by rfl) ?_
          | refine SL_load_rr (by decide) (by rfl) (rowF (by rfl)) (by first | assumption | rfl | exact tab_get _ _ (by omega)) (Nat.le_of_ble_eq_true (by rfl)) (by first | exact mk3 _ | rfl) ?_
          | refine SL_load_o (by decide) (by rfl) (by repeat (first | exact .head _ | refine .tail _ ?_)) (rowF (by rfl)) (by first | assumption | rfl | exact tab_get _ _ (by omega)) (by rfl) ?_
          | refine SC_cond_t (by rfl) ?_
          | refine SC_cond_f (by rfl) ?_
          | (refine SC_skip' (fun tm σ hE hH => ?_); refine SC.app ?_ hE hH; clear hE hH; clear tm σ))
        all_goals
          refine SL_nil fun tm σ hE hH => ⟨j + 1, by omega, by omega, tm, σ, rfl, ?_, hH.sub ⟨.head _, trivial⟩ (by simp)⟩
          rw [hnext]
          refine hE.sub ⟨rfl, rfl, rfl, rfl, rfl, ?_, ?_, rfl, rfl, ?_, ?_, rfl, rfl, rfl, rfl, trivial⟩
          · first | exact (congrArg (fun x => some (AV.s (Value.int .i64 x))) (a1 (by omega))).symm | exact (congrArg (fun x => some (AV.s (Value.int .i64 x))) (a2 (by omega) (by omega))).symm
          · first | exact (congrArg (fun x => some (AV.s (Value.int .i64 x))) (a3 (by omega))).symm | exact (congrArg (fun x => some (AV.s (Value.int .i64 x))) (a4 (by omega) (by omega))).symm
          · first | exact (congrArg (fun x => some (AV.s (Value.int .i64 x))) (a5 (by omega))).symm | exact (congrArg (fun x => some (AV.s (Value.int .i64 x))) (a6 (by omega))).symm
          · first | exact (congrArg (fun x => some (AV.s (Value.int .i64 x))) (a7 (by omega))).symm | exact (congrArg (fun x => some (AV.s (Value.int .i64 x))) (a8 (by omega))).symm
    · obtain rfl : j = rs[k].length := by omega
      rw [List.take_length, ← evU_next hlt]
      have hpk := hprog k hk
      have hok1 := hok _ (evU_pre rs i (show k + 1 ≤ rs.length from hlt))
      have hsc := LS.score_eq F i (evU rs i (k + 1))
      have hst := progE_step k i hlt
      obtain ⟨⟨b1, b2, b3, b4, b5, b6, b7, b8⟩, hes⟩ := hok1
      repeat' (first
        | refine SC_seq ?_
        | refine SC_region ?_
        | refine SL_seq ?_
        | (refine SL_nil (fun tm σ hE hH => ?_); refine SC.app ?_ hE hH; clear hE hH; clear tm σ)
        | refine SL_move (by decide) (by rfl) ?_
        | refine SL_assign (by decide) (by rfl) ?_
        | refine SL_add (by decide) (by rfl) (by rfl) (by omega) (by omega) ?_
        | (refine SL_lss (by decide) (by rfl) (by rfl) (fun hT => ?_) (fun hT => ?_) <;> first | (exfalso; omega) | skip)
        | refine SL_len_v (by decide) (by rfl) (by assumption) (by rfl) (slF (by rfl)) (by simp only [List.length_map]; first | rfl | assumption) ?_
        | refine SL_indexAddr_v (by decide) (by rfl) (by rfl) (by assumption) (slF (by rfl)) _ (by first | rfl | exact (Int.toNat_of_nonneg (by omega)).symm) (by simp only [List.length_map]; omega) (fun ad => ?_)
        | refine SL_load_r (by decide) (by rfl) (rowF (by rfl)) (by first | assumption | rfl | exact tab_get _ _ (by omega)) (by rfl) ?_
        | refine SC_cond_f (by rfl) ?_
        | (refine SC_exit (fun tm σ hE hH => ?_); refine SC.app ?_ hE hH; clear hE hH; clear tm σ))
      refine SL_nil fun tm σ hE hH => ⟨k + 1, by omega, by omega, tm, σ, rfl, hE.sub ⟨rfl, rfl, rfl, rfl, rfl, rfl, rfl, rfl, rfl, rfl, rfl, ?_, rfl, rfl, trivial⟩, hH.sub ⟨.head _, trivial⟩ (by simp)⟩
      rw [hst, ← hsc]; rfl
  · obtain rfl : k = rs.length := by omega
    have hok1 := hok _ (List.prefix_refl _)
    obtain ⟨⟨b1, b2, b3, b4, b5, b6, b7, b8⟩, hes⟩ := hok1
    repeat' (first
      | refine SC_seq ?_
      | refine SC_block ?_
      | refine SC_region ?_
      | refine SL_seq ?_
      | refine SL_move (by decide) (by rfl) ?_
      | refine SL_assign (by decide) (by rfl) ?_
      | refine SL_sub (by decide) (by rfl) (by rfl) (by omega) (by omega) ?_
      | (refine SL_lss (by decide) (by rfl) (by rfl) (fun hT => ?_) (fun hT => ?_) <;> first | (exfalso; omega) | skip)
      | (refine SL_eql (by decide) (by rfl) (by rfl) (fun hT => ?_) (fun hT => ?_) <;> first | (exfalso; omega) | skip)
      | refine SL_len_v (by decide) (by rfl) (by assumption) (by rfl) (slF (by rfl)) (by simp only [List.length_map]; first | rfl | assumption) ?_
      | refine SC_cond_t (by rfl) ?_
      | refine SC_cond_f (by rfl) ?_
      | (refine SC_exit (fun tm σ hE hH => ?_); refine SC.app ?_ hE hH; clear hE hH; clear tm σ)
      | (refine SC_skip' (fun tm σ hE hH => ?_); refine SC.app ?_ hE hH; clear hE hH; clear tm σ))
    all_goals refine SC_ret (fun tm σ hE hH => Post.intro (Hn := []) (.inr rfl) hE hH (by rfl) trivial List.nodup_nil (fun p hp => by cases hp) ⟨?_, rfl⟩)
    all_goals first
      | (obtain rfl : k0 = 1 := by omega); rfl
      | (obtain rfl : k0 = 2 := by omega); rfl
      | (obtain rfl : k0 = 4 := by omega); rfl
      | (obtain rfl : k0 = 5 := by omega); rfl
      | (obtain rfl : k0 = 6 := by omega); rfl
      | (obtain rfl : k0 = 7 := by omega); rfl
      | (obtain rfl : k0 = 3 := by omega); (unfold lawV; rw [if_pos (by omega)]; rfl)
      | (obtain rfl : k0 = 3 := by omega); (unfold lawV; rw [if_neg (by omega)]; rfl)
end Go.Proofs.Ytldckcopeiginaa
/- The program's tie-breaks and the law's are the same numbers: plain lists. -/
namespace Go.Proofs.Ytldckcopeiginaa
open Go.Ab
theorem foesL_add (F : Nat → Int) (i : Nat) (es : List Ev) (e : Ev) (h : ¬ e.o < 0) : foesL F (es ++ [e]) = foesL F es ++ [F e.o.toNat] := foesL_in F es e (by omega)
theorem of_many (F : Nat → Int) (i : Nat) : ∀ es, (LS.of F i es).many = (foesL F es).length := by
  refine snoc_ind rfl fun es e ih => ?_
  rw [LS.of_snoc]
  by_cases h : e.o < 0
  · rw [LS.add_neg _ _ _ _ h, foesL_out _ _ _ h]; exact ih
  · rw [foesL_add F i _ _ h]
    obtain ⟨_, _, _, _, he, _⟩ := LS.add_pos F i (LS.of F i es) e.p h
    rw [he, List.length_append]; dsimp only; rw [ih]; rfl
theorem of_total (F : Nat → Int) (i : Nat) : ∀ es, (LS.of F i es).total = (foesL F es).sum := by
  refine snoc_ind rfl fun es e ih => ?_
  rw [LS.of_snoc]
  by_cases h : e.o < 0
  · rw [LS.add_neg _ _ _ _ h, foesL_out _ _ _ h]; exact ih
  · rw [foesL_add F i _ _ h]
    obtain ⟨_, _, _, _, he, _⟩ := LS.add_pos F i (LS.of F i es) e.p h
    rw [he, List.sum_append]; dsimp only; rw [ih]; simp
def Least (l : List Int) (x : Int) : Prop := (l = [] → x = 0) ∧ (l ≠ [] → x ∈ l ∧ ∀ y ∈ l, x ≤ y)
def Greatest (l : List Int) (x : Int) : Prop := (l = [] → x = 0) ∧ (l ≠ [] → x ∈ l ∧ ∀ y ∈ l, y ≤ x)
theorem of_low (F : Nat → Int) (i : Nat) : ∀ es, Least (foesL F es) (LS.of F i es).low := by
  refine snoc_ind ⟨fun _ => rfl, fun h => absurd rfl h⟩ fun es e ih => ?_
  have hm := of_many F i es
  rw [LS.of_snoc]
  by_cases h : e.o < 0
  · rw [LS.add_neg _ _ _ _ h, foesL_out _ _ _ h]; exact ih
  · rw [foesL_add F i _ _ h]
    obtain ⟨lo, _, _, _, he, a1, a2, _⟩ := LS.add_pos F i (LS.of F i es) e.p h
    rw [he]; dsimp only
    refine ⟨fun h => by simp at h, fun _ => ?_⟩
    by_cases h0 : foesL F es = []
    · rw [a1 (.inl (by rw [hm, h0]; rfl)), h0]; simp
    · obtain ⟨h1, h2⟩ := ih.2 h0
      have hne : (LS.of F i es).many ≠ 0 := by
        rw [hm]; intro hz; exact h0 (List.eq_nil_of_length_eq_zero (by omega))
      by_cases hlt : F e.o.toNat < (LS.of F i es).low
      · rw [a1 (.inr hlt)]
        refine ⟨by simp, fun y hy => ?_⟩
        rcases List.mem_append.1 hy with hy | hy
        · have := h2 y hy; omega
        · rw [List.mem_singleton] at hy; omega
      · rw [a2 hne (by omega)]
        refine ⟨List.mem_append_left _ h1, fun y hy => ?_⟩
        rcases List.mem_append.1 hy with hy | hy
        · exact h2 y hy
        · rw [List.mem_singleton] at hy; omega
theorem of_high (F : Nat → Int) (i : Nat) : ∀ es, Greatest (foesL F es) (LS.of F i es).high := by
  refine snoc_ind ⟨fun _ => rfl, fun h => absurd rfl h⟩ fun es e ih => ?_
  have hm := of_many F i es
  rw [LS.of_snoc]
  by_cases h : e.o < 0
  · rw [LS.add_neg _ _ _ _ h, foesL_out _ _ _ h]; exact ih
  · rw [foesL_add F i _ _ h]
    obtain ⟨_, hi, _, _, he, _, _, a1, a2, _⟩ := LS.add_pos F i (LS.of F i es) e.p h
    rw [he]; dsimp only
    refine ⟨fun h => by simp at h, fun _ => ?_⟩
    by_cases h0 : foesL F es = []
    · rw [a1 (.inl (by rw [hm, h0]; rfl)), h0]; simp
    · obtain ⟨h1, h2⟩ := ih.2 h0
      have hne : (LS.of F i es).many ≠ 0 := by
        rw [hm]; intro hz; exact h0 (List.eq_nil_of_length_eq_zero (by omega))
      by_cases hlt : (LS.of F i es).high < F e.o.toNat
      · rw [a1 (.inr hlt)]
        refine ⟨by simp, fun y hy => ?_⟩
        rcases List.mem_append.1 hy with hy | hy
        · have := h2 y hy; omega
        · rw [List.mem_singleton] at hy; omega
      · rw [a2 hne (by omega)]
        refine ⟨List.mem_append_left _ h1, fun y hy => ?_⟩
        rcases List.mem_append.1 hy with hy | hy
        · exact h2 y hy
        · rw [List.mem_singleton] at hy; omega
theorem of_sonne (F : Nat → Int) (i : Nat) : ∀ es, (LS.of F i es).sonne = totE (fun e => e.p * F e.o.toNat) es := by
  refine snoc_ind rfl fun es e ih => ?_
  rw [LS.of_snoc]
  by_cases h : e.o < 0
  · rw [LS.add_neg _ _ _ _ h, totE_out _ _ _ h]; exact ih
  · rw [totE_in _ _ _ (by omega)]
    obtain ⟨_, _, _, _, he, _⟩ := LS.add_pos F i (LS.of F i es) e.p h
    rw [he]; dsimp only; rw [ih]
theorem of_wins (F : Nat → Int) (i : Nat) : ∀ es, (∀ e ∈ es, 0 ≤ e.p ∧ e.p ≤ 2) → (LS.of F i es).wins = totE (fun e => e.p / 2) es := by
  refine snoc_ind (fun _ => rfl) fun es e ih hp => ?_
  have ih := ih fun e' he' => hp e' (List.mem_append_left _ he')
  have hpe := hp e (by simp)
  rw [LS.of_snoc]
  by_cases h : e.o < 0
  · rw [LS.add_neg _ _ _ _ h, totE_out _ _ _ h]; exact ih
  · rw [totE_in _ _ _ (by omega)]
    obtain ⟨_, _, _, _, he, _, _, _, _, a1, a2, _⟩ := LS.add_pos F i (LS.of F i es) e.p h
    rw [he]; dsimp only
    by_cases h2 : e.p = 2
    · rw [a1 h2, ih, h2]; rfl
    · rw [a2 h2, ih]; omega
theorem of_direct (F : Nat → Int) (i : Nat) : ∀ es, (LS.of F i es).direct = totE (fun e => if F e.o.toNat = F i then e.p else 0) es := by
  refine snoc_ind rfl fun es e ih => ?_
  rw [LS.of_snoc]
  by_cases h : e.o < 0
  · rw [LS.add_neg _ _ _ _ h, totE_out _ _ _ h]; exact ih
  · rw [totE_in _ _ _ (by omega)]
    obtain ⟨_, _, _, _, he, _, _, _, _, _, _, a1, a2⟩ := LS.add_pos F i (LS.of F i es) e.p h
    rw [he]; dsimp only
    by_cases h2 : F e.o.toNat = F i
    · rw [a1 h2, ih, if_pos h2]
    · rw [a2 h2, ih, if_neg h2]; omega
theorem sorted_head {x : Int} {t : List Int} (h : SortedTo (x :: t) (x :: t).length) : ∀ y ∈ t, x ≤ y := by
  intro y hy
  obtain ⟨j, hj, rfl⟩ := List.mem_iff_getElem.1 hy
  have := h 0 (j + 1) (by omega) (by simp; omega)
  simpa [List.getD, hj] using this
theorem sorted_last {y : Int} {t : List Int} (h : SortedTo (t ++ [y]) (t ++ [y]).length) : ∀ x ∈ t, x ≤ y := by
  intro x hx
  obtain ⟨j, hj, rfl⟩ := List.mem_iff_getElem.1 hx
  have := h j t.length hj (by simp)
  simpa [List.getD, hj, List.getElem?_append] using this
theorem least_eq {l c : List Int} {x a : Int} {t : List Int} (hc : c.Perm l) (hx : c = x :: t) (hs : SortedTo c c.length) (ha : Least l a) : a = x := by
  subst hx
  have hne : l ≠ [] := fun h => by rw [h] at hc; exact absurd hc.length_eq (by simp)
  obtain ⟨h1, h2⟩ := ha.2 hne
  have h3 := h2 x (hc.subset (by simp))
  have h4 := hc.symm.subset h1
  rcases List.mem_cons.1 h4 with h4 | h4
  · exact h4
  · have := sorted_head hs a h4; omega
theorem greatest_eq {l c : List Int} {y a : Int} {t : List Int} (hc : c.Perm l) (hy : c = t ++ [y]) (hs : SortedTo c c.length) (ha : Greatest l a) : a = y := by
  subst hy
  have hne : l ≠ [] := fun h => by rw [h] at hc; exact absurd hc.length_eq (by simp)
  obtain ⟨h1, h2⟩ := ha.2 hne
  have h3 := h2 y (hc.subset (by simp))
  have h4 := hc.symm.subset h1
  rcases List.mem_append.1 h4 with h4 | h4
  · have := sorted_last hs a h4; omega
  · rw [List.mem_singleton] at h4; exact h4
theorem tie_eq {F : Nat → Int} {i : Nat} {R : Int} {es : List Ev} {k : Nat} {n : Int} (hp : ∀ e ∈ es, 0 ≤ e.p ∧ e.p ≤ 2) (h : TieV F i R es k n) : n = lawV (LS.of F i es) (progE R es) k := by
  have hlow := of_low F i es
  have hhigh := of_high F i es
  rcases h with ⟨rfl, rfl⟩ | ⟨rfl, c, hc, hs, rfl⟩ | ⟨rfl, c, hc, hs, rfl⟩ | ⟨rfl, rfl⟩ | ⟨rfl, rfl⟩ | ⟨rfl, rfl⟩ | ⟨rfl, rfl⟩
  · exact (of_total F i es).symm
  · show _ = (LS.of F i es).total - (LS.of F i es).low
    rw [of_total, ← perm_sum hc]
    cases c with
    | nil => rw [hlow.1 (List.length_eq_zero_iff.1 hc.length_eq.symm)]; rfl
    | cons x t =>
      rw [least_eq hc rfl hs hlow]
      simp only [List.drop_succ_cons, List.drop_zero, List.sum_cons]; omega
  · show _ = if (LS.of F i es).many < 2 then 0 else (LS.of F i es).total - (LS.of F i es).low - (LS.of F i es).high
    have hl := hc.length_eq
    rw [of_many, of_total, ← perm_sum hc]
    by_cases h2 : c.length < 2
    · rw [if_pos h2, if_pos (by omega)]
    · rw [if_neg h2, if_neg (by omega)]
      match c, h2 with
      | x :: t, h2 =>
        simp only [List.length_cons] at h2
        have hne : t ≠ [] := fun e => by rw [e] at h2; simp at h2
        have ht : t.dropLast ++ [t.getLast hne] = t := List.dropLast_concat_getLast hne
        rw [least_eq hc rfl hs hlow, greatest_eq (t := x :: t.dropLast) (y := t.getLast hne) hc (by rw [List.cons_append, ht]) hs hhigh]
        have hsum : t.sum = t.dropLast.sum + t.getLast hne := by
          have := congrArg List.sum ht
          rw [List.sum_append] at this
          simp only [List.sum_cons, List.sum_nil] at this
          omega
        simp only [List.drop_succ_cons, List.drop_zero, List.sum_cons, List.length_cons, hsum]
        rw [show t.length + 1 - 2 = t.length - 1 by omega, ← List.dropLast_eq_take]
        omega
  · exact (of_sonne F i es).symm
  · rfl
  · exact (of_wins F i es hp).symm
  · exact (of_direct F i es).symm
end Go.Proofs.Ytldckcopeiginaa
/- few and its like. -/
namespace Go.Proofs.Ytldckcopeiginaa
open Go.Ab
attribute [local irreducible] SC SL wpc wpl wpd wpf wpy wpn FnC
set_option maxRecDepth 100000
set_option pp.deepTerms false
set_option pp.maxSteps 900
theorem List.mem_take_of_lt {α : Type} {l : List α} {k n : Nat} (h : k < l.length) (hn : k < n) : l[k] ∈ l.take n := by
  rw [List.mem_take_iff_getElem]
  exact ⟨k, by omega, rfl⟩
theorem few_fn {G : Gl} {rs : List (List Sc)} {ra : AV} {xs : List AV} (h : RV rs ra xs) (g : Int) (ho : G.orc 8 [ra, .s (.int .i64 g)] = none) :
    FnC Try.prog G 8 [ra, .s (.int .i64 g)] [] (fun v Hn => v = .s (.bool (fewB rs g)) ∧ Hn = []) := by
  have hsl := h.sl
  have hlen := h.len
  have hbig := h.big
  refine Fn_body (N := 26) ho Try.func8 rfl rfl fun B => ?_
  repeat' (first
    | refine SC_seq ?_
    | refine SC_block ?_
    | refine SC_region ?_
    | refine SL_seq ?_
    | refine SL_assign (by decide) (by rfl) ?_)
  refine SC_loop (fun k : Nat => [(0, ra), (1, .s (.int .i64 g)), (4, .s (.bool false)), (5, .s (.int .i64 k))]) (fun _ => []) (fun _ => []) (fun k => k ≤ rs.length ∧ k ≤ 32 ∧ ∀ gs ∈ rs.take k, (gs.length : Int) ≤ g) (fun k => rs.length - k) 0 ⟨by omega, by omega, by simp⟩ ⟨rfl, rfl, rfl, rfl, trivial⟩ trivial List.nodup_nil rfl ?_
  rintro k ⟨hk1, hk2, hk3⟩
  by_cases hlt : k < rs.length
  · obtain ⟨x, hx, hgx⟩ := h.row hlt
    unfold GV at hgx
    repeat' (first
      | refine SC_seq ?_
      | refine SC_block ?_
      | refine SC_region ?_
      | refine SL_seq ?_
      | refine SL_run (by rfl) (by rfl) ?_
      | refine SL_move (by decide) (by rfl) ?_
      | refine SL_assign (by decide) (by rfl) ?_
      | refine SL_pick_t (by decide) (by rfl) (by rfl) ?_
      | refine SL_add (by decide) (by rfl) (by rfl) (by omega) (by omega) ?_
      | (refine SL_lss (by decide) (by rfl) (by rfl) (fun hT => ?_) (fun hT => ?_) <;> first | (exfalso; omega) | skip)
      | (refine SL_leq (by decide) (by rfl) (by rfl) (fun hT => ?_) (fun hT => ?_) <;> first | (exfalso; omega) | skip)
      | (refine SL_gtr (by decide) (by rfl) (by rfl) (fun hT => ?_) (fun hT => ?_) <;> first | (exfalso; omega) | skip)
      | refine SL_len_v (by decide) (by rfl) (by assumption) (by rfl) (slF (by rfl)) (by simp only [List.length_map]; first | rfl | assumption) ?_
      | refine SL_indexAddr_v (by decide) (by rfl) (by rfl) (by assumption) (slF (by rfl)) _ (by first | rfl | exact (Int.toNat_of_nonneg (by omega)).symm) (by simp only [List.length_map]; omega) (fun ad => ?_)
      | refine SL_load_r (by decide) (by rfl) (rowF (by rfl)) (by first | assumption | rfl) (by rfl) ?_
      | refine SC_cond_t (by rfl) ?_
      | refine SC_cond_f (by rfl) ?_
      | (refine SC_exit (fun tm σ hE hH => ?_); refine SC.app ?_ hE hH; clear hE hH; clear tm σ)
      | (refine SC_skip' (fun tm σ hE hH => ?_); refine SC.app ?_ hE hH; clear hE hH; clear tm σ)
      | refine SC_ret (fun tm σ hE hH => Post.intro (Hn := []) (.inr rfl) hE hH (by rfl) trivial List.nodup_nil (fun p hp => (by cases hp)) ?_))
    · refine ⟨?_, rfl⟩
      have hb : fewB rs g = false := by
        unfold fewB
        rw [Bool.and_eq_false_iff]; left
        rw [decide_eq_false_iff_not]
        intro hall
        have := hall rs[k] (List.mem_take_of_lt hlt (by omega))
        omega
      rw [hb]; rfl
    · refine SL_nil fun tm σ hE hH => ⟨k + 1, by omega, ⟨by omega, by omega, ?_⟩, tm, σ, rfl, hE.sub ⟨rfl, rfl, rfl, rfl, trivial⟩, hH.sub trivial List.nodup_nil⟩
      intro gs hgs
      rw [List.take_succ_eq_append_getElem hlt, List.mem_append] at hgs
      rcases hgs with hgs | hgs
      · exact hk3 gs hgs
      · rw [List.mem_singleton] at hgs
        subst hgs; omega
    · refine ⟨?_, rfl⟩
      have hb : fewB rs g = false := by
        unfold fewB
        rw [Bool.and_eq_false_iff]; right
        rw [decide_eq_false_iff_not]
        omega
      rw [hb]; rfl
  ·
    repeat' (first
      | refine SC_seq ?_
      | refine SC_region ?_
      | refine SL_seq ?_
      | refine SL_not (by rfl) (by rfl) (by rfl) (by decide) ?_
      | refine SL_move (by decide) (by rfl) ?_
      | refine SL_assign (by decide) (by rfl) ?_
      | refine SL_pick_f (by decide) (by rfl) (by rfl) ?_
      | (refine SL_lss (by decide) (by rfl) (by rfl) (fun hT => ?_) (fun hT => ?_) <;> first | (exfalso; omega) | skip)
      | (refine SL_leq (by decide) (by rfl) (by rfl) (fun hT => ?_) (fun hT => ?_) <;> first | (exfalso; omega) | skip)
      | refine SL_len_v (by decide) (by rfl) (by assumption) (by rfl) (slF (by rfl)) (by simp only [List.length_map]; first | rfl | assumption) ?_
      | refine SC_cond_f (by rfl) ?_
      | (refine SC_exit (fun tm σ hE hH => ?_); refine SC.app ?_ hE hH; clear hE hH; clear tm σ)
      | refine SC_ret (fun tm σ hE hH => Post.intro (Hn := []) (.inr rfl) hE hH (by rfl) trivial List.nodup_nil (fun p hp => (by cases hp)) ?_))
    · refine ⟨?_, rfl⟩
      have hb : fewB rs g = true := by
        unfold fewB
        rw [Bool.and_eq_true, decide_eq_true_eq, decide_eq_true_eq]
        refine ⟨fun gs hgs => hk3 gs ?_, by omega⟩
        rw [List.take_of_length_le (by omega)] at hgs ⊢
        exact hgs
      rw [hb]; rfl
    · refine ⟨?_, rfl⟩
      have hb : fewB rs g = false := by
        unfold fewB
        rw [Bool.and_eq_false_iff]; right
        rw [decide_eq_false_iff_not]
        omega
      rw [hb]; rfl
end Go.Proofs.Ytldckcopeiginaa
