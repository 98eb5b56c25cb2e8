/- What the types of the program are. -/
import Derived.Test.YtldckcopeiginaaAbSb
import Derived.Test.YtldckcopeiginaaRows
namespace Go.Proofs.Ytldckcopeiginaa
open Go.Ab
theorem row3 : rowN Try.prog 3 = some none := by kernel_rfl
theorem sz3 : sz Try.prog 3 = some 1 := by kernel_rfl
theorem zero3 : zeroOf Try.prog 3 = some [AV.s (Value.int IntKind.i64 (0))] := by kernel_rfl
theorem row4 : rowN Try.prog 4 = some none := by kernel_rfl
theorem sz4 : sz Try.prog 4 = some 1 := by kernel_rfl
theorem zero4 : zeroOf Try.prog 4 = some [AV.s (Value.bool false)] := by kernel_rfl
theorem row9 : rowN Try.prog 9 = some none := by kernel_rfl
theorem sz9 : sz Try.prog 9 = some 1 := by kernel_rfl
theorem zero9 : zeroOf Try.prog 9 = some [AV.s (Value.string ⟨#[]⟩)] := by kernel_rfl
theorem row22 : rowN Try.prog 22 = some none := by kernel_rfl
theorem sz22 : sz Try.prog 22 = some 1 := by kernel_rfl
theorem zero22 : zeroOf Try.prog 22 = some [AV.s (Value.slice none 0 0)] := by kernel_rfl
theorem sl22 : sliceOf Try.prog 22 = some (44, 1) := by kernel_rfl
theorem el22 : elOf Try.prog 22 = some (44, 1, 24, [AV.s (Value.slice none 0 0)]) := by kernel_rfl
theorem row25 : rowN Try.prog 25 = some none := by kernel_rfl
theorem sz25 : sz Try.prog 25 = some 1 := by kernel_rfl
theorem zero25 : zeroOf Try.prog 25 = some [AV.s (Value.slice none 0 0)] := by kernel_rfl
theorem sl25 : sliceOf Try.prog 25 = some (3, 1) := by kernel_rfl
theorem el25 : elOf Try.prog 25 = some (3, 1, 8, [AV.s (Value.int IntKind.i64 (0))]) := by kernel_rfl
theorem row32 : rowN Try.prog 32 = some none := by kernel_rfl
theorem sz32 : sz Try.prog 32 = some 1 := by kernel_rfl
theorem zero32 : zeroOf Try.prog 32 = some [AV.s (Value.int IntKind.i64 (0))] := by kernel_rfl
theorem row37 : rowN Try.prog 37 = some none := by kernel_rfl
theorem sz37 : sz Try.prog 37 = some 1 := by kernel_rfl
theorem zero37 : zeroOf Try.prog 37 = some [AV.s (Value.slice none 0 0)] := by kernel_rfl
theorem sl37 : sliceOf Try.prog 37 = some (32, 1) := by kernel_rfl
theorem el37 : elOf Try.prog 37 = some (32, 1, 8, [AV.s (Value.int IntKind.i64 (0))]) := by kernel_rfl
theorem row41 : rowN Try.prog 41 = some none := by kernel_rfl
theorem sz41 : sz Try.prog 41 = some 1 := by kernel_rfl
theorem zero41 : zeroOf Try.prog 41 = some [AV.s (Value.slice none 0 0)] := by kernel_rfl
theorem sl41 : sliceOf Try.prog 41 = some (4, 1) := by kernel_rfl
theorem el41 : elOf Try.prog 41 = some (4, 1, 1, [AV.s (Value.bool false)]) := by kernel_rfl
theorem row44 : rowN Try.prog 44 = some none := by kernel_rfl
theorem sz44 : sz Try.prog 44 = some 1 := by kernel_rfl
theorem zero44 : zeroOf Try.prog 44 = some [AV.s (Value.slice none 0 0)] := by kernel_rfl
theorem sl44 : sliceOf Try.prog 44 = some (46, 3) := by kernel_rfl
theorem el44 : elOf Try.prog 44 = some (46, 3, 24, [AV.s (Value.int IntKind.i64 (0)), AV.s (Value.int IntKind.i64 (0)), AV.s (Value.int IntKind.i64 (0))]) := by kernel_rfl
theorem row46 : rowN Try.prog 46 = some (some 3) := by kernel_rfl
theorem sz46 : sz Try.prog 46 = some 3 := by kernel_rfl
theorem zero46 : zeroOf Try.prog 46 = some [AV.s (Value.int IntKind.i64 (0)), AV.s (Value.int IntKind.i64 (0)), AV.s (Value.int IntKind.i64 (0))] := by kernel_rfl
theorem fld46f0 : fldOf Try.prog 46 0 = some 0 := by kernel_rfl
theorem fld46f1 : fldOf Try.prog 46 1 = some 1 := by kernel_rfl
theorem fld46f2 : fldOf Try.prog 46 2 = some 2 := by kernel_rfl
theorem row49 : rowN Try.prog 49 = some none := by kernel_rfl
theorem sz49 : sz Try.prog 49 = some 1 := by kernel_rfl
theorem zero49 : zeroOf Try.prog 49 = some [AV.s (Value.slice none 0 0)] := by kernel_rfl
theorem sl49 : sliceOf Try.prog 49 = some (9, 1) := by kernel_rfl
theorem el49 : elOf Try.prog 49 = some (9, 1, 16, [AV.s (Value.string ⟨#[]⟩)]) := by kernel_rfl
theorem row50 : rowN Try.prog 50 = some none := by kernel_rfl
theorem sz50 : sz Try.prog 50 = some 1 := by kernel_rfl
theorem zero50 : zeroOf Try.prog 50 = some [AV.s (Value.slice none 0 0)] := by kernel_rfl
theorem sl50 : sliceOf Try.prog 50 = some (54, 8) := by kernel_rfl
theorem el50 : elOf Try.prog 50 = some (54, 8, 88, [AV.s (Value.string ⟨#[]⟩), AV.s (Value.int IntKind.i64 (0)), AV.s (Value.int IntKind.i64 (0)), AV.s (Value.int IntKind.i64 (0)), AV.s (Value.int IntKind.i64 (0)), AV.s (Value.int IntKind.i64 (0)), AV.s (Value.bool false), AV.s (Value.slice none 0 0)]) := by kernel_rfl
theorem row54 : rowN Try.prog 54 = some (some 8) := by kernel_rfl
theorem sz54 : sz Try.prog 54 = some 8 := by kernel_rfl
theorem zero54 : zeroOf Try.prog 54 = some [AV.s (Value.string ⟨#[]⟩), AV.s (Value.int IntKind.i64 (0)), AV.s (Value.int IntKind.i64 (0)), AV.s (Value.int IntKind.i64 (0)), AV.s (Value.int IntKind.i64 (0)), AV.s (Value.int IntKind.i64 (0)), AV.s (Value.bool false), AV.s (Value.slice none 0 0)] := by kernel_rfl
theorem fld54f0 : fldOf Try.prog 54 0 = some 0 := by kernel_rfl
theorem fld54f1 : fldOf Try.prog 54 1 = some 1 := by kernel_rfl
theorem fld54f2 : fldOf Try.prog 54 2 = some 2 := by kernel_rfl
theorem fld54f3 : fldOf Try.prog 54 3 = some 3 := by kernel_rfl
theorem fld54f4 : fldOf Try.prog 54 4 = some 4 := by kernel_rfl
theorem fld54f5 : fldOf Try.prog 54 5 = some 5 := by kernel_rfl
theorem fld54f6 : fldOf Try.prog 54 6 = some 6 := by kernel_rfl
theorem fld54f7 : fldOf Try.prog 54 7 = some 7 := by kernel_rfl
theorem row64 : rowN Try.prog 64 = some none := by kernel_rfl
theorem sz64 : sz Try.prog 64 = some 1 := by kernel_rfl
theorem zero64 : zeroOf Try.prog 64 = some [AV.s (Value.slice none 0 0)] := by kernel_rfl
theorem sl64 : sliceOf Try.prog 64 = some (25, 1) := by kernel_rfl
theorem el64 : elOf Try.prog 64 = some (25, 1, 24, [AV.s (Value.slice none 0 0)]) := by kernel_rfl
theorem row73 : rowN Try.prog 73 = some (some 3) := by kernel_rfl
theorem sz73 : sz Try.prog 73 = some 3 := by kernel_rfl
theorem zero73 : zeroOf Try.prog 73 = some [AV.s (Value.int IntKind.i64 (0)), AV.s (Value.int IntKind.i64 (0)), AV.s (Value.bool false)] := by kernel_rfl
theorem fld73f0 : fldOf Try.prog 73 0 = some 0 := by kernel_rfl
theorem fld73f1 : fldOf Try.prog 73 1 = some 1 := by kernel_rfl
theorem fld73f2 : fldOf Try.prog 73 2 = some 2 := by kernel_rfl
theorem row80 : rowN Try.prog 80 = some (some 2) := by kernel_rfl
theorem sz80 : sz Try.prog 80 = some 2 := by kernel_rfl
theorem zero80 : zeroOf Try.prog 80 = some [AV.s (Value.int IntKind.i64 (0)), AV.s (Value.int IntKind.i64 (0))] := by kernel_rfl
theorem arr80 : arrOf Try.prog 80 = some (2, 3, 1) := by kernel_rfl
theorem row81 : rowN Try.prog 81 = some none := by kernel_rfl
theorem sz81 : sz Try.prog 81 = some 1 := by kernel_rfl
theorem zero81 : zeroOf Try.prog 81 = some [AV.s (Value.nilFunc)] := by kernel_rfl
theorem row82 : rowN Try.prog 82 = some none := by kernel_rfl
theorem sz82 : sz Try.prog 82 = some 1 := by kernel_rfl
theorem zero82 : zeroOf Try.prog 82 = some [AV.s (Value.nilFunc)] := by kernel_rfl
theorem row84 : rowN Try.prog 84 = some none := by kernel_rfl
theorem sz84 : sz Try.prog 84 = some 1 := by kernel_rfl
theorem zero84 : zeroOf Try.prog 84 = some [AV.s (Value.nilFunc)] := by kernel_rfl
theorem row85 : rowN Try.prog 85 = some (some 8) := by kernel_rfl
theorem sz85 : sz Try.prog 85 = some 8 := by kernel_rfl
theorem zero85 : zeroOf Try.prog 85 = some [AV.s (Value.nilFunc), AV.s (Value.nilFunc), AV.s (Value.nilFunc), AV.s (Value.nilFunc), AV.s (Value.nilFunc), AV.s (Value.nilFunc), AV.s (Value.nilFunc), AV.s (Value.nilFunc)] := by kernel_rfl
theorem arr85 : arrOf Try.prog 85 = some (8, 84, 1) := by kernel_rfl
theorem row107 : rowN Try.prog 107 = some none := by kernel_rfl
theorem sz107 : sz Try.prog 107 = some 1 := by kernel_rfl
theorem zero107 : zeroOf Try.prog 107 = some [AV.s (Value.int IntKind.u64 (0))] := by kernel_rfl
theorem bd3 : (Try.prog.funcs[3]?).map (·.body.isNone) = some false := by rw [Try.func3]; rfl
theorem bd4 : (Try.prog.funcs[4]?).map (·.body.isNone) = some false := by rw [Try.func4]; rfl
theorem bd5 : (Try.prog.funcs[5]?).map (·.body.isNone) = some false := by rw [Try.func5]; rfl
theorem bd6 : (Try.prog.funcs[6]?).map (·.body.isNone) = some false := by rw [Try.func6]; rfl
theorem bd7 : (Try.prog.funcs[7]?).map (·.body.isNone) = some false := by rw [Try.func7]; rfl
theorem bd8 : (Try.prog.funcs[8]?).map (·.body.isNone) = some false := by rw [Try.func8]; rfl
theorem bd9 : (Try.prog.funcs[9]?).map (·.body.isNone) = some false := by rw [Try.func9]; rfl
theorem bd10 : (Try.prog.funcs[10]?).map (·.body.isNone) = some false := by rw [Try.func10]; rfl
theorem bd11 : (Try.prog.funcs[11]?).map (·.body.isNone) = some false := by rw [Try.func11]; rfl
theorem bd12 : (Try.prog.funcs[12]?).map (·.body.isNone) = some false := by rw [Try.func12]; rfl
theorem bd13 : (Try.prog.funcs[13]?).map (·.body.isNone) = some false := by rw [Try.func13]; rfl
theorem bd14 : (Try.prog.funcs[14]?).map (·.body.isNone) = some false := by rw [Try.func14]; rfl
theorem bd15 : (Try.prog.funcs[15]?).map (·.body.isNone) = some false := by rw [Try.func15]; rfl
theorem bd16 : (Try.prog.funcs[16]?).map (·.body.isNone) = some false := by rw [Try.func16]; rfl
theorem bd17 : (Try.prog.funcs[17]?).map (·.body.isNone) = some false := by rw [Try.func17]; rfl
theorem bd18 : (Try.prog.funcs[18]?).map (·.body.isNone) = some false := by rw [Try.func18]; rfl
theorem bd19 : (Try.prog.funcs[19]?).map (·.body.isNone) = some false := by rw [Try.func19]; rfl
theorem bd20 : (Try.prog.funcs[20]?).map (·.body.isNone) = some false := by rw [Try.func20]; rfl
theorem bd21 : (Try.prog.funcs[21]?).map (·.body.isNone) = some false := by rw [Try.func21]; rfl
theorem bd22 : (Try.prog.funcs[22]?).map (·.body.isNone) = some false := by rw [Try.func22]; rfl
theorem bd23 : (Try.prog.funcs[23]?).map (·.body.isNone) = some false := by rw [Try.func23]; rfl
theorem bd24 : (Try.prog.funcs[24]?).map (·.body.isNone) = some false := by rw [Try.func24]; rfl
theorem bd25 : (Try.prog.funcs[25]?).map (·.body.isNone) = some false := by rw [Try.func25]; rfl
theorem bd26 : (Try.prog.funcs[26]?).map (·.body.isNone) = some false := by rw [Try.func26]; rfl
theorem bd27 : (Try.prog.funcs[27]?).map (·.body.isNone) = some false := by rw [Try.func27]; rfl
theorem bd28 : (Try.prog.funcs[28]?).map (·.body.isNone) = some false := by rw [Try.func28]; rfl
theorem bd29 : (Try.prog.funcs[29]?).map (·.body.isNone) = some false := by rw [Try.func29]; rfl
theorem bd30 : (Try.prog.funcs[30]?).map (·.body.isNone) = some false := by rw [Try.func30]; rfl
theorem bd31 : (Try.prog.funcs[31]?).map (·.body.isNone) = some false := by rw [Try.func31]; rfl
theorem bd32 : (Try.prog.funcs[32]?).map (·.body.isNone) = some false := by rw [Try.func32]; rfl
theorem bd33 : (Try.prog.funcs[33]?).map (·.body.isNone) = some false := by rw [Try.func33]; rfl
theorem bd34 : (Try.prog.funcs[34]?).map (·.body.isNone) = some false := by rw [Try.func34]; rfl
theorem bd35 : (Try.prog.funcs[35]?).map (·.body.isNone) = some false := by rw [Try.func35]; rfl
theorem bd36 : (Try.prog.funcs[36]?).map (·.body.isNone) = some false := by rw [Try.func36]; rfl
theorem bd37 : (Try.prog.funcs[37]?).map (·.body.isNone) = some false := by rw [Try.func37]; rfl
theorem bd38 : (Try.prog.funcs[38]?).map (·.body.isNone) = some false := by rw [Try.func38]; rfl
theorem bd39 : (Try.prog.funcs[39]?).map (·.body.isNone) = some false := by rw [Try.func39]; rfl
theorem bd40 : (Try.prog.funcs[40]?).map (·.body.isNone) = some false := by rw [Try.func40]; rfl
theorem bd41 : (Try.prog.funcs[41]?).map (·.body.isNone) = some false := by rw [Try.func41]; rfl
theorem bd42 : (Try.prog.funcs[42]?).map (·.body.isNone) = some false := by rw [Try.func42]; rfl
theorem bd43 : (Try.prog.funcs[43]?).map (·.body.isNone) = some false := by rw [Try.func43]; rfl
theorem bd44 : (Try.prog.funcs[44]?).map (·.body.isNone) = some false := by rw [Try.func44]; rfl
theorem bd45 : (Try.prog.funcs[45]?).map (·.body.isNone) = some false := by rw [Try.func45]; rfl
theorem bd46 : (Try.prog.funcs[46]?).map (·.body.isNone) = some false := by rw [Try.func46]; rfl
theorem bd47 : (Try.prog.funcs[47]?).map (·.body.isNone) = some false := by rw [Try.func47]; rfl
theorem bd48 : (Try.prog.funcs[48]?).map (·.body.isNone) = some false := by rw [Try.func48]; rfl
theorem bd49 : (Try.prog.funcs[49]?).map (·.body.isNone) = some false := by rw [Try.func49]; rfl
theorem bd50 : (Try.prog.funcs[50]?).map (·.body.isNone) = some false := by rw [Try.func50]; rfl
theorem bd51 : (Try.prog.funcs[51]?).map (·.body.isNone) = some false := by rw [Try.func51]; rfl
theorem bd52 : (Try.prog.funcs[52]?).map (·.body.isNone) = some false := by rw [Try.func52]; rfl
theorem bd53 : (Try.prog.funcs[53]?).map (·.body.isNone) = some false := by rw [Try.func53]; rfl
theorem bd54 : (Try.prog.funcs[54]?).map (·.body.isNone) = some false := by rw [Try.func54]; rfl
theorem bd55 : (Try.prog.funcs[55]?).map (·.body.isNone) = some false := by rw [Try.func55]; rfl
theorem bd56 : (Try.prog.funcs[56]?).map (·.body.isNone) = some false := by rw [Try.func56]; rfl
theorem bd57 : (Try.prog.funcs[57]?).map (·.body.isNone) = some false := by rw [Try.func57]; rfl
theorem bd58 : (Try.prog.funcs[58]?).map (·.body.isNone) = some false := by rw [Try.func58]; rfl
theorem bd59 : (Try.prog.funcs[59]?).map (·.body.isNone) = some false := by rw [Try.func59]; rfl
end Go.Proofs.Ytldckcopeiginaa
