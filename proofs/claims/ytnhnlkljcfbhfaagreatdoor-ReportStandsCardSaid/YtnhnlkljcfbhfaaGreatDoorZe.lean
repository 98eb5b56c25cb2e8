/- What the types of the program are. -/
import Derived.Test.YtnhnlkljcfbhfaaGreatDoorZc
import Derived.Test.YtnhnlkljcfbhfaaGreatDoorRows
import Derived.Test.YtnhnlkljcfbhfaaGreatDoorZd
namespace Go.Proofs.YtnhnlkljcfbhfaaGreatDoor
open Go.Ab
theorem row3 : rowN Tryz.prog 3 = some none := by kernel_rfl
theorem sz3 : sz Tryz.prog 3 = some 1 := by kernel_rfl
theorem zero3 : zeroOf Tryz.prog 3 = some [AV.s (Value.int IntKind.i64 (0))] := by kernel_rfl
theorem row4 : rowN Tryz.prog 4 = some none := by kernel_rfl
theorem sz4 : sz Tryz.prog 4 = some 1 := by kernel_rfl
theorem zero4 : zeroOf Tryz.prog 4 = some [AV.s (Value.bool false)] := by kernel_rfl
theorem row5 : rowN Tryz.prog 5 = some none := by kernel_rfl
theorem sz5 : sz Tryz.prog 5 = some 1 := by kernel_rfl
theorem zero5 : zeroOf Tryz.prog 5 = some [AV.s (Value.int IntKind.u8 (0))] := by kernel_rfl
theorem row9 : rowN Tryz.prog 9 = some none := by kernel_rfl
theorem sz9 : sz Tryz.prog 9 = some 1 := by kernel_rfl
theorem zero9 : zeroOf Tryz.prog 9 = some [AV.s (Value.string ⟨#[]⟩)] := by kernel_rfl
theorem row23 : rowN Tryz.prog 23 = some (some 2) := by kernel_rfl
theorem sz23 : sz Tryz.prog 23 = some 2 := by kernel_rfl
theorem zero23 : zeroOf Tryz.prog 23 = some [AV.s (Value.int IntKind.i64 (0)), AV.s (Value.int IntKind.i64 (0))] := by kernel_rfl
theorem fld23f0 : fldOf Tryz.prog 23 0 = some 0 := by kernel_rfl
theorem fld23f1 : fldOf Tryz.prog 23 1 = some 1 := by kernel_rfl
theorem row24 : rowN Tryz.prog 24 = some none := by kernel_rfl
theorem sz24 : sz Tryz.prog 24 = some 1 := by kernel_rfl
theorem zero24 : zeroOf Tryz.prog 24 = some [AV.s (Value.slice none 0 0)] := by kernel_rfl
theorem sl24 : sliceOf Tryz.prog 24 = some (81, 1) := by kernel_rfl
theorem el24 : elOf Tryz.prog 24 = some (81, 1, 1, [AV.s (Value.int IntKind.i8 (0))]) := by kernel_rfl
theorem row26 : rowN Tryz.prog 26 = some (some 3) := by kernel_rfl
theorem sz26 : sz Tryz.prog 26 = some 3 := by kernel_rfl
theorem zero26 : zeroOf Tryz.prog 26 = some [AV.s (Value.int IntKind.i64 (0)), AV.s (Value.int IntKind.i64 (0)), AV.s (Value.slice none 0 0)] := by kernel_rfl
theorem fld26f0 : fldOf Tryz.prog 26 0 = some 0 := by kernel_rfl
theorem fld26f1 : fldOf Tryz.prog 26 1 = some 2 := by kernel_rfl
theorem row27 : rowN Tryz.prog 27 = some none := by kernel_rfl
theorem sz27 : sz Tryz.prog 27 = some 1 := by kernel_rfl
theorem zero27 : zeroOf Tryz.prog 27 = some [AV.s (Value.slice none 0 0)] := by kernel_rfl
theorem sl27 : sliceOf Tryz.prog 27 = some (9, 1) := by kernel_rfl
theorem el27 : elOf Tryz.prog 27 = some (9, 1, 16, [AV.s (Value.string ⟨#[]⟩)]) := by kernel_rfl
theorem row40 : rowN Tryz.prog 40 = some (some 2) := by kernel_rfl
theorem sz40 : sz Tryz.prog 40 = some 2 := by kernel_rfl
theorem zero40 : zeroOf Tryz.prog 40 = some [AV.s (Value.int IntKind.i64 (0)), AV.s (Value.int IntKind.i64 (0))] := by kernel_rfl
theorem fld40f0 : fldOf Tryz.prog 40 0 = some 0 := by kernel_rfl
theorem fld40f1 : fldOf Tryz.prog 40 1 = some 1 := by kernel_rfl
theorem row52 : rowN Tryz.prog 52 = some none := by kernel_rfl
theorem sz52 : sz Tryz.prog 52 = some 1 := by kernel_rfl
theorem zero52 : zeroOf Tryz.prog 52 = some [AV.s (Value.slice none 0 0)] := by kernel_rfl
theorem sl52 : sliceOf Tryz.prog 52 = some (3, 1) := by kernel_rfl
theorem el52 : elOf Tryz.prog 52 = some (3, 1, 8, [AV.s (Value.int IntKind.i64 (0))]) := by kernel_rfl
theorem row53 : rowN Tryz.prog 53 = some none := by kernel_rfl
theorem sz53 : sz Tryz.prog 53 = some 1 := by kernel_rfl
theorem zero53 : zeroOf Tryz.prog 53 = some [AV.s (Value.slice none 0 0)] := by kernel_rfl
theorem sl53 : sliceOf Tryz.prog 53 = some (4, 1) := by kernel_rfl
theorem el53 : elOf Tryz.prog 53 = some (4, 1, 1, [AV.s (Value.bool false)]) := by kernel_rfl
theorem row55 : rowN Tryz.prog 55 = some (some 2) := by kernel_rfl
theorem sz55 : sz Tryz.prog 55 = some 2 := by kernel_rfl
theorem zero55 : zeroOf Tryz.prog 55 = some [AV.s (Value.slice none 0 0), AV.s (Value.slice none 0 0)] := by kernel_rfl
theorem fld55f0 : fldOf Tryz.prog 55 0 = some 0 := by kernel_rfl
theorem fld55f1 : fldOf Tryz.prog 55 1 = some 1 := by kernel_rfl
theorem row63 : rowN Tryz.prog 63 = some none := by kernel_rfl
theorem sz63 : sz Tryz.prog 63 = some 1 := by kernel_rfl
theorem zero63 : zeroOf Tryz.prog 63 = some [AV.s (Value.slice none 0 0)] := by kernel_rfl
theorem sl63 : sliceOf Tryz.prog 63 = some (65, 1) := by kernel_rfl
theorem el63 : elOf Tryz.prog 63 = some (65, 1, 24, [AV.s (Value.slice none 0 0)]) := by kernel_rfl
theorem row64 : rowN Tryz.prog 64 = some none := by kernel_rfl
theorem sz64 : sz Tryz.prog 64 = some 1 := by kernel_rfl
theorem zero64 : zeroOf Tryz.prog 64 = some [AV.s (Value.slice none 0 0)] := by kernel_rfl
theorem sl64 : sliceOf Tryz.prog 64 = some (73, 1) := by kernel_rfl
theorem el64 : elOf Tryz.prog 64 = some (73, 1, 8, [AV.s (Value.int IntKind.i64 (0))]) := by kernel_rfl
theorem row65 : rowN Tryz.prog 65 = some none := by kernel_rfl
theorem sz65 : sz Tryz.prog 65 = some 1 := by kernel_rfl
theorem zero65 : zeroOf Tryz.prog 65 = some [AV.s (Value.slice none 0 0)] := by kernel_rfl
theorem sl65 : sliceOf Tryz.prog 65 = some (122, 3) := by kernel_rfl
theorem el65 : elOf Tryz.prog 65 = some (122, 3, 24, [AV.s (Value.int IntKind.i64 (0)), AV.s (Value.int IntKind.i64 (0)), AV.s (Value.int IntKind.i64 (0))]) := by kernel_rfl
theorem row73 : rowN Tryz.prog 73 = some none := by kernel_rfl
theorem sz73 : sz Tryz.prog 73 = some 1 := by kernel_rfl
theorem zero73 : zeroOf Tryz.prog 73 = some [AV.s (Value.int IntKind.i64 (0))] := by kernel_rfl
theorem row76 : rowN Tryz.prog 76 = some (some 8) := by kernel_rfl
theorem sz76 : sz Tryz.prog 76 = some 8 := by kernel_rfl
theorem zero76 : zeroOf Tryz.prog 76 = some [AV.s (Value.int IntKind.i64 (0)), AV.s (Value.int IntKind.i64 (0)), AV.s (Value.slice none 0 0), AV.s (Value.bool false), AV.s (Value.int IntKind.u8 (0)), AV.s (Value.int IntKind.i64 (0)), AV.s (Value.int IntKind.i64 (0)), AV.s (Value.int IntKind.i64 (0))] := by kernel_rfl
theorem fld76f0 : fldOf Tryz.prog 76 0 = some 0 := by kernel_rfl
theorem fld76f1 : fldOf Tryz.prog 76 1 = some 2 := by kernel_rfl
theorem fld76f2 : fldOf Tryz.prog 76 2 = some 3 := by kernel_rfl
theorem fld76f3 : fldOf Tryz.prog 76 3 = some 4 := by kernel_rfl
theorem fld76f4 : fldOf Tryz.prog 76 4 = some 5 := by kernel_rfl
theorem fld76f5 : fldOf Tryz.prog 76 5 = some 6 := by kernel_rfl
theorem fld76f6 : fldOf Tryz.prog 76 6 = some 7 := by kernel_rfl
theorem row81 : rowN Tryz.prog 81 = some none := by kernel_rfl
theorem sz81 : sz Tryz.prog 81 = some 1 := by kernel_rfl
theorem zero81 : zeroOf Tryz.prog 81 = some [AV.s (Value.int IntKind.i8 (0))] := by kernel_rfl
theorem row84 : rowN Tryz.prog 84 = some none := by kernel_rfl
theorem sz84 : sz Tryz.prog 84 = some 1 := by kernel_rfl
theorem zero84 : zeroOf Tryz.prog 84 = some [AV.s (Value.slice none 0 0)] := by kernel_rfl
theorem sl84 : sliceOf Tryz.prog 84 = some (5, 1) := by kernel_rfl
theorem el84 : elOf Tryz.prog 84 = some (5, 1, 1, [AV.s (Value.int IntKind.u8 (0))]) := by kernel_rfl
theorem row92 : rowN Tryz.prog 92 = some (some 2) := by kernel_rfl
theorem sz92 : sz Tryz.prog 92 = some 2 := by kernel_rfl
theorem zero92 : zeroOf Tryz.prog 92 = some [AV.s (Value.string ⟨#[]⟩), AV.s (Value.string ⟨#[]⟩)] := by kernel_rfl
theorem arr92 : arrOf Tryz.prog 92 = some (2, 9, 1) := by kernel_rfl
theorem row112 : rowN Tryz.prog 112 = some none := by kernel_rfl
theorem sz112 : sz Tryz.prog 112 = some 1 := by kernel_rfl
theorem zero112 : zeroOf Tryz.prog 112 = some [AV.s (Value.slice none 0 0)] := by kernel_rfl
theorem sl112 : sliceOf Tryz.prog 112 = some (52, 1) := by kernel_rfl
theorem el112 : elOf Tryz.prog 112 = some (52, 1, 24, [AV.s (Value.slice none 0 0)]) := by kernel_rfl
theorem row122 : rowN Tryz.prog 122 = some (some 3) := by kernel_rfl
theorem sz122 : sz Tryz.prog 122 = some 3 := by kernel_rfl
theorem zero122 : zeroOf Tryz.prog 122 = some [AV.s (Value.int IntKind.i64 (0)), AV.s (Value.int IntKind.i64 (0)), AV.s (Value.int IntKind.i64 (0))] := by kernel_rfl
theorem fld122f0 : fldOf Tryz.prog 122 0 = some 0 := by kernel_rfl
theorem fld122f1 : fldOf Tryz.prog 122 1 = some 1 := by kernel_rfl
theorem fld122f2 : fldOf Tryz.prog 122 2 = some 2 := by kernel_rfl
theorem row127 : rowN Tryz.prog 127 = some (some 5) := by kernel_rfl
theorem sz127 : sz Tryz.prog 127 = some 5 := by kernel_rfl
theorem zero127 : zeroOf Tryz.prog 127 = some [AV.s (Value.int IntKind.u8 (0)), AV.s (Value.string ⟨#[]⟩), AV.s (Value.bool false), AV.s (Value.int IntKind.i64 (0)), AV.s (Value.int IntKind.i64 (0))] := by kernel_rfl
theorem fld127f0 : fldOf Tryz.prog 127 0 = some 0 := by kernel_rfl
theorem fld127f1 : fldOf Tryz.prog 127 1 = some 1 := by kernel_rfl
theorem fld127f2 : fldOf Tryz.prog 127 2 = some 2 := by kernel_rfl
theorem fld127f3 : fldOf Tryz.prog 127 3 = some 3 := by kernel_rfl
theorem fld127f4 : fldOf Tryz.prog 127 4 = some 4 := by kernel_rfl
theorem row128 : rowN Tryz.prog 128 = some (some 20) := by kernel_rfl
theorem sz128 : sz Tryz.prog 128 = some 20 := by kernel_rfl
theorem zero128 : zeroOf Tryz.prog 128 = some [AV.s (Value.int IntKind.u8 (0)), AV.s (Value.string ⟨#[]⟩), AV.s (Value.bool false), AV.s (Value.int IntKind.i64 (0)), AV.s (Value.int IntKind.i64 (0)), AV.s (Value.int IntKind.u8 (0)), AV.s (Value.string ⟨#[]⟩), AV.s (Value.bool false), AV.s (Value.int IntKind.i64 (0)), AV.s (Value.int IntKind.i64 (0)), AV.s (Value.int IntKind.u8 (0)), AV.s (Value.string ⟨#[]⟩), AV.s (Value.bool false), AV.s (Value.int IntKind.i64 (0)), AV.s (Value.int IntKind.i64 (0)), AV.s (Value.int IntKind.u8 (0)), AV.s (Value.string ⟨#[]⟩), AV.s (Value.bool false), AV.s (Value.int IntKind.i64 (0)), AV.s (Value.int IntKind.i64 (0))] := by kernel_rfl
theorem arr128 : arrOf Tryz.prog 128 = some (4, 127, 5) := by kernel_rfl
theorem row135 : rowN Tryz.prog 135 = some (some 3) := by kernel_rfl
theorem sz135 : sz Tryz.prog 135 = some 3 := by kernel_rfl
theorem zero135 : zeroOf Tryz.prog 135 = some [AV.s (Value.int IntKind.u8 (0)), AV.s (Value.int IntKind.i64 (0)), AV.s (Value.string ⟨#[]⟩)] := by kernel_rfl
theorem fld135f0 : fldOf Tryz.prog 135 0 = some 0 := by kernel_rfl
theorem fld135f1 : fldOf Tryz.prog 135 1 = some 1 := by kernel_rfl
theorem fld135f2 : fldOf Tryz.prog 135 2 = some 2 := by kernel_rfl
theorem row136 : rowN Tryz.prog 136 = some (some 45) := by kernel_rfl
theorem sz136 : sz Tryz.prog 136 = some 45 := by kernel_rfl
theorem zero136 : zeroOf Tryz.prog 136 = some [AV.s (Value.int IntKind.u8 (0)), AV.s (Value.int IntKind.i64 (0)), AV.s (Value.string ⟨#[]⟩), AV.s (Value.int IntKind.u8 (0)), AV.s (Value.int IntKind.i64 (0)), AV.s (Value.string ⟨#[]⟩), AV.s (Value.int IntKind.u8 (0)), AV.s (Value.int IntKind.i64 (0)), AV.s (Value.string ⟨#[]⟩), AV.s (Value.int IntKind.u8 (0)), AV.s (Value.int IntKind.i64 (0)), AV.s (Value.string ⟨#[]⟩), AV.s (Value.int IntKind.u8 (0)), AV.s (Value.int IntKind.i64 (0)), AV.s (Value.string ⟨#[]⟩), AV.s (Value.int IntKind.u8 (0)), AV.s (Value.int IntKind.i64 (0)), AV.s (Value.string ⟨#[]⟩), AV.s (Value.int IntKind.u8 (0)), AV.s (Value.int IntKind.i64 (0)), AV.s (Value.string ⟨#[]⟩), AV.s (Value.int IntKind.u8 (0)), AV.s (Value.int IntKind.i64 (0)), AV.s (Value.string ⟨#[]⟩), AV.s (Value.int IntKind.u8 (0)), AV.s (Value.int IntKind.i64 (0)), AV.s (Value.string ⟨#[]⟩), AV.s (Value.int IntKind.u8 (0)), AV.s (Value.int IntKind.i64 (0)), AV.s (Value.string ⟨#[]⟩), AV.s (Value.int IntKind.u8 (0)), AV.s (Value.int IntKind.i64 (0)), AV.s (Value.string ⟨#[]⟩), AV.s (Value.int IntKind.u8 (0)), AV.s (Value.int IntKind.i64 (0)), AV.s (Value.string ⟨#[]⟩), AV.s (Value.int IntKind.u8 (0)), AV.s (Value.int IntKind.i64 (0)), AV.s (Value.string ⟨#[]⟩), AV.s (Value.int IntKind.u8 (0)), AV.s (Value.int IntKind.i64 (0)), AV.s (Value.string ⟨#[]⟩), AV.s (Value.int IntKind.u8 (0)), AV.s (Value.int IntKind.i64 (0)), AV.s (Value.string ⟨#[]⟩)] := by kernel_rfl
theorem arr136 : arrOf Tryz.prog 136 = some (15, 135, 3) := by kernel_rfl
theorem row153 : rowN Tryz.prog 153 = some (some 3) := by kernel_rfl
theorem sz153 : sz Tryz.prog 153 = some 3 := by kernel_rfl
theorem zero153 : zeroOf Tryz.prog 153 = some [AV.s (Value.int IntKind.i64 (0)), AV.s (Value.int IntKind.i64 (0)), AV.s (Value.bool false)] := by kernel_rfl
theorem fld153f0 : fldOf Tryz.prog 153 0 = some 0 := by kernel_rfl
theorem fld153f1 : fldOf Tryz.prog 153 1 = some 1 := by kernel_rfl
theorem fld153f2 : fldOf Tryz.prog 153 2 = some 2 := by kernel_rfl
theorem row155 : rowN Tryz.prog 155 = some none := by kernel_rfl
theorem sz155 : sz Tryz.prog 155 = some 1 := by kernel_rfl
theorem zero155 : zeroOf Tryz.prog 155 = some [AV.s (Value.nilFunc)] := by kernel_rfl
theorem row157 : rowN Tryz.prog 157 = some none := by kernel_rfl
theorem sz157 : sz Tryz.prog 157 = some 1 := by kernel_rfl
theorem zero157 : zeroOf Tryz.prog 157 = some [AV.s (Value.nilFunc)] := by kernel_rfl
theorem row158 : rowN Tryz.prog 158 = some (some 8) := by kernel_rfl
theorem sz158 : sz Tryz.prog 158 = some 8 := by kernel_rfl
theorem zero158 : zeroOf Tryz.prog 158 = some [AV.s (Value.nilFunc), AV.s (Value.nilFunc), AV.s (Value.nilFunc), AV.s (Value.nilFunc), AV.s (Value.nilFunc), AV.s (Value.nilFunc), AV.s (Value.nilFunc), AV.s (Value.nilFunc)] := by kernel_rfl
theorem arr158 : arrOf Tryz.prog 158 = some (8, 157, 1) := by kernel_rfl
theorem row170 : rowN Tryz.prog 170 = some (some 2) := by kernel_rfl
theorem sz170 : sz Tryz.prog 170 = some 2 := by kernel_rfl
theorem zero170 : zeroOf Tryz.prog 170 = some [AV.s (Value.pointer none), AV.s (Value.slice none 0 0)] := by kernel_rfl
theorem fld170f0 : fldOf Tryz.prog 170 0 = some 0 := by kernel_rfl
theorem fld170f1 : fldOf Tryz.prog 170 1 = some 1 := by kernel_rfl
set_option maxRecDepth 100000
def rowTab : List (Nat × (Option Nat)) := [(3, none), (4, none), (5, none), (9, none), (23, (some 2)), (24, none), (26, (some 3)), (27, none), (40, (some 2)), (52, none), (53, none), (55, (some 2)), (63, none), (64, none), (65, none), (73, none), (76, (some 8)), (81, none), (84, none), (92, (some 2)), (112, none), (122, (some 3)), (127, (some 5)), (128, (some 20)), (135, (some 3)), (136, (some 45)), (153, (some 3)), (155, none), (157, none), (158, (some 8)), (170, (some 2))]
theorem rowF {t : Nat} {v : Option Nat} (h : fnd rowTab t = some v) : rowN Tryz.prog t = some v := fndF (f := rowN Tryz.prog) (List.forall_mem_cons.2 ⟨row3, List.forall_mem_cons.2 ⟨row4, List.forall_mem_cons.2 ⟨row5, List.forall_mem_cons.2 ⟨row9, List.forall_mem_cons.2 ⟨row23, List.forall_mem_cons.2 ⟨row24, List.forall_mem_cons.2 ⟨row26, List.forall_mem_cons.2 ⟨row27, List.forall_mem_cons.2 ⟨row40, List.forall_mem_cons.2 ⟨row52, List.forall_mem_cons.2 ⟨row53, List.forall_mem_cons.2 ⟨row55, List.forall_mem_cons.2 ⟨row63, List.forall_mem_cons.2 ⟨row64, List.forall_mem_cons.2 ⟨row65, List.forall_mem_cons.2 ⟨row73, List.forall_mem_cons.2 ⟨row76, List.forall_mem_cons.2 ⟨row81, List.forall_mem_cons.2 ⟨row84, List.forall_mem_cons.2 ⟨row92, List.forall_mem_cons.2 ⟨row112, List.forall_mem_cons.2 ⟨row122, List.forall_mem_cons.2 ⟨row127, List.forall_mem_cons.2 ⟨row128, List.forall_mem_cons.2 ⟨row135, List.forall_mem_cons.2 ⟨row136, List.forall_mem_cons.2 ⟨row153, List.forall_mem_cons.2 ⟨row155, List.forall_mem_cons.2 ⟨row157, List.forall_mem_cons.2 ⟨row158, List.forall_mem_cons.2 ⟨row170, fun _ h => absurd h (List.not_mem_nil)⟩⟩⟩⟩⟩⟩⟩⟩⟩⟩⟩⟩⟩⟩⟩⟩⟩⟩⟩⟩⟩⟩⟩⟩⟩⟩⟩⟩⟩⟩⟩) h
def szTab : List (Nat × (Nat)) := [(3, 1), (4, 1), (5, 1), (9, 1), (23, 2), (24, 1), (26, 3), (27, 1), (40, 2), (52, 1), (53, 1), (55, 2), (63, 1), (64, 1), (65, 1), (73, 1), (76, 8), (81, 1), (84, 1), (92, 2), (112, 1), (122, 3), (127, 5), (128, 20), (135, 3), (136, 45), (153, 3), (155, 1), (157, 1), (158, 8), (170, 2)]
theorem szF {t : Nat} {v : Nat} (h : fnd szTab t = some v) : sz Tryz.prog t = some v := fndF (f := sz Tryz.prog) (List.forall_mem_cons.2 ⟨sz3, List.forall_mem_cons.2 ⟨sz4, List.forall_mem_cons.2 ⟨sz5, List.forall_mem_cons.2 ⟨sz9, List.forall_mem_cons.2 ⟨sz23, List.forall_mem_cons.2 ⟨sz24, List.forall_mem_cons.2 ⟨sz26, List.forall_mem_cons.2 ⟨sz27, List.forall_mem_cons.2 ⟨sz40, List.forall_mem_cons.2 ⟨sz52, List.forall_mem_cons.2 ⟨sz53, List.forall_mem_cons.2 ⟨sz55, List.forall_mem_cons.2 ⟨sz63, List.forall_mem_cons.2 ⟨sz64, List.forall_mem_cons.2 ⟨sz65, List.forall_mem_cons.2 ⟨sz73, List.forall_mem_cons.2 ⟨sz76, List.forall_mem_cons.2 ⟨sz81, List.forall_mem_cons.2 ⟨sz84, List.forall_mem_cons.2 ⟨sz92, List.forall_mem_cons.2 ⟨sz112, List.forall_mem_cons.2 ⟨sz122, List.forall_mem_cons.2 ⟨sz127, List.forall_mem_cons.2 ⟨sz128, List.forall_mem_cons.2 ⟨sz135, List.forall_mem_cons.2 ⟨sz136, List.forall_mem_cons.2 ⟨sz153, List.forall_mem_cons.2 ⟨sz155, List.forall_mem_cons.2 ⟨sz157, List.forall_mem_cons.2 ⟨sz158, List.forall_mem_cons.2 ⟨sz170, fun _ h => absurd h (List.not_mem_nil)⟩⟩⟩⟩⟩⟩⟩⟩⟩⟩⟩⟩⟩⟩⟩⟩⟩⟩⟩⟩⟩⟩⟩⟩⟩⟩⟩⟩⟩⟩⟩) h
def zeroTab : List (Nat × (List AV)) := [(3, [AV.s (Value.int IntKind.i64 (0))]), (4, [AV.s (Value.bool false)]), (5, [AV.s (Value.int IntKind.u8 (0))]), (9, [AV.s (Value.string ⟨#[]⟩)]), (23, [AV.s (Value.int IntKind.i64 (0)), AV.s (Value.int IntKind.i64 (0))]), (24, [AV.s (Value.slice none 0 0)]), (26, [AV.s (Value.int IntKind.i64 (0)), AV.s (Value.int IntKind.i64 (0)), AV.s (Value.slice none 0 0)]), (27, [AV.s (Value.slice none 0 0)]), (40, [AV.s (Value.int IntKind.i64 (0)), AV.s (Value.int IntKind.i64 (0))]), (52, [AV.s (Value.slice none 0 0)]), (53, [AV.s (Value.slice none 0 0)]), (55, [AV.s (Value.slice none 0 0), AV.s (Value.slice none 0 0)]), (63, [AV.s (Value.slice none 0 0)]), (64, [AV.s (Value.slice none 0 0)]), (65, [AV.s (Value.slice none 0 0)]), (73, [AV.s (Value.int IntKind.i64 (0))]), (76, [AV.s (Value.int IntKind.i64 (0)), AV.s (Value.int IntKind.i64 (0)), AV.s (Value.slice none 0 0), AV.s (Value.bool false), AV.s (Value.int IntKind.u8 (0)), AV.s (Value.int IntKind.i64 (0)), AV.s (Value.int IntKind.i64 (0)), AV.s (Value.int IntKind.i64 (0))]), (81, [AV.s (Value.int IntKind.i8 (0))]), (84, [AV.s (Value.slice none 0 0)]), (92, [AV.s (Value.string ⟨#[]⟩), AV.s (Value.string ⟨#[]⟩)]), (112, [AV.s (Value.slice none 0 0)]), (122, [AV.s (Value.int IntKind.i64 (0)), AV.s (Value.int IntKind.i64 (0)), AV.s (Value.int IntKind.i64 (0))]), (127, [AV.s (Value.int IntKind.u8 (0)), AV.s (Value.string ⟨#[]⟩), AV.s (Value.bool false), AV.s (Value.int IntKind.i64 (0)), AV.s (Value.int IntKind.i64 (0))]), (128, [AV.s (Value.int IntKind.u8 (0)), AV.s (Value.string ⟨#[]⟩), AV.s (Value.bool false), AV.s (Value.int IntKind.i64 (0)), AV.s (Value.int IntKind.i64 (0)), AV.s (Value.int IntKind.u8 (0)), AV.s (Value.string ⟨#[]⟩), AV.s (Value.bool false), AV.s (Value.int IntKind.i64 (0)), AV.s (Value.int IntKind.i64 (0)), AV.s (Value.int IntKind.u8 (0)), AV.s (Value.string ⟨#[]⟩), AV.s (Value.bool false), AV.s (Value.int IntKind.i64 (0)), AV.s (Value.int IntKind.i64 (0)), AV.s (Value.int IntKind.u8 (0)), AV.s (Value.string ⟨#[]⟩), AV.s (Value.bool false), AV.s (Value.int IntKind.i64 (0)), AV.s (Value.int IntKind.i64 (0))]), (135, [AV.s (Value.int IntKind.u8 (0)), AV.s (Value.int IntKind.i64 (0)), AV.s (Value.string ⟨#[]⟩)]), (136, [AV.s (Value.int IntKind.u8 (0)), AV.s (Value.int IntKind.i64 (0)), AV.s (Value.string ⟨#[]⟩), AV.s (Value.int IntKind.u8 (0)), AV.s (Value.int IntKind.i64 (0)), AV.s (Value.string ⟨#[]⟩), AV.s (Value.int IntKind.u8 (0)), AV.s (Value.int IntKind.i64 (0)), AV.s (Value.string ⟨#[]⟩), AV.s (Value.int IntKind.u8 (0)), AV.s (Value.int IntKind.i64 (0)), AV.s (Value.string ⟨#[]⟩), AV.s (Value.int IntKind.u8 (0)), AV.s (Value.int IntKind.i64 (0)), AV.s (Value.string ⟨#[]⟩), AV.s (Value.int IntKind.u8 (0)), AV.s (Value.int IntKind.i64 (0)), AV.s (Value.string ⟨#[]⟩), AV.s (Value.int IntKind.u8 (0)), AV.s (Value.int IntKind.i64 (0)), AV.s (Value.string ⟨#[]⟩), AV.s (Value.int IntKind.u8 (0)), AV.s (Value.int IntKind.i64 (0)), AV.s (Value.string ⟨#[]⟩), AV.s (Value.int IntKind.u8 (0)), AV.s (Value.int IntKind.i64 (0)), AV.s (Value.string ⟨#[]⟩), AV.s (Value.int IntKind.u8 (0)), AV.s (Value.int IntKind.i64 (0)), AV.s (Value.string ⟨#[]⟩), AV.s (Value.int IntKind.u8 (0)), AV.s (Value.int IntKind.i64 (0)), AV.s (Value.string ⟨#[]⟩), AV.s (Value.int IntKind.u8 (0)), AV.s (Value.int IntKind.i64 (0)), AV.s (Value.string ⟨#[]⟩), AV.s (Value.int IntKind.u8 (0)), AV.s (Value.int IntKind.i64 (0)), AV.s (Value.string ⟨#[]⟩), AV.s (Value.int IntKind.u8 (0)), AV.s (Value.int IntKind.i64 (0)), AV.s (Value.string ⟨#[]⟩), AV.s (Value.int IntKind.u8 (0)), AV.s (Value.int IntKind.i64 (0)), AV.s (Value.string ⟨#[]⟩)]), (153, [AV.s (Value.int IntKind.i64 (0)), AV.s (Value.int IntKind.i64 (0)), AV.s (Value.bool false)]), (155, [AV.s (Value.nilFunc)]), (157, [AV.s (Value.nilFunc)]), (158, [AV.s (Value.nilFunc), AV.s (Value.nilFunc), AV.s (Value.nilFunc), AV.s (Value.nilFunc), AV.s (Value.nilFunc), AV.s (Value.nilFunc), AV.s (Value.nilFunc), AV.s (Value.nilFunc)]), (170, [AV.s (Value.pointer none), AV.s (Value.slice none 0 0)])]
theorem zeroF {t : Nat} {v : List AV} (h : fnd zeroTab t = some v) : zeroOf Tryz.prog t = some v := fndF (f := zeroOf Tryz.prog) (List.forall_mem_cons.2 ⟨zero3, List.forall_mem_cons.2 ⟨zero4, List.forall_mem_cons.2 ⟨zero5, List.forall_mem_cons.2 ⟨zero9, List.forall_mem_cons.2 ⟨zero23, List.forall_mem_cons.2 ⟨zero24, List.forall_mem_cons.2 ⟨zero26, List.forall_mem_cons.2 ⟨zero27, List.forall_mem_cons.2 ⟨zero40, List.forall_mem_cons.2 ⟨zero52, List.forall_mem_cons.2 ⟨zero53, List.forall_mem_cons.2 ⟨zero55, List.forall_mem_cons.2 ⟨zero63, List.forall_mem_cons.2 ⟨zero64, List.forall_mem_cons.2 ⟨zero65, List.forall_mem_cons.2 ⟨zero73, List.forall_mem_cons.2 ⟨zero76, List.forall_mem_cons.2 ⟨zero81, List.forall_mem_cons.2 ⟨zero84, List.forall_mem_cons.2 ⟨zero92, List.forall_mem_cons.2 ⟨zero112, List.forall_mem_cons.2 ⟨zero122, List.forall_mem_cons.2 ⟨zero127, List.forall_mem_cons.2 ⟨zero128, List.forall_mem_cons.2 ⟨zero135, List.forall_mem_cons.2 ⟨zero136, List.forall_mem_cons.2 ⟨zero153, List.forall_mem_cons.2 ⟨zero155, List.forall_mem_cons.2 ⟨zero157, List.forall_mem_cons.2 ⟨zero158, List.forall_mem_cons.2 ⟨zero170, fun _ h => absurd h (List.not_mem_nil)⟩⟩⟩⟩⟩⟩⟩⟩⟩⟩⟩⟩⟩⟩⟩⟩⟩⟩⟩⟩⟩⟩⟩⟩⟩⟩⟩⟩⟩⟩⟩) h
def slTab : List (Nat × (TypeId × Nat)) := [(24, (81, 1)), (27, (9, 1)), (52, (3, 1)), (53, (4, 1)), (63, (65, 1)), (64, (73, 1)), (65, (122, 3)), (84, (5, 1)), (112, (52, 1))]
theorem slF {t : Nat} {v : TypeId × Nat} (h : fnd slTab t = some v) : sliceOf Tryz.prog t = some v := fndF (f := sliceOf Tryz.prog) (List.forall_mem_cons.2 ⟨sl24, List.forall_mem_cons.2 ⟨sl27, List.forall_mem_cons.2 ⟨sl52, List.forall_mem_cons.2 ⟨sl53, List.forall_mem_cons.2 ⟨sl63, List.forall_mem_cons.2 ⟨sl64, List.forall_mem_cons.2 ⟨sl65, List.forall_mem_cons.2 ⟨sl84, List.forall_mem_cons.2 ⟨sl112, fun _ h => absurd h (List.not_mem_nil)⟩⟩⟩⟩⟩⟩⟩⟩⟩) h
def elTab : List (Nat × (TypeId × Nat × Nat × List AV)) := [(24, (81, 1, 1, [AV.s (Value.int IntKind.i8 (0))])), (27, (9, 1, 16, [AV.s (Value.string ⟨#[]⟩)])), (52, (3, 1, 8, [AV.s (Value.int IntKind.i64 (0))])), (53, (4, 1, 1, [AV.s (Value.bool false)])), (63, (65, 1, 24, [AV.s (Value.slice none 0 0)])), (64, (73, 1, 8, [AV.s (Value.int IntKind.i64 (0))])), (65, (122, 3, 24, [AV.s (Value.int IntKind.i64 (0)), AV.s (Value.int IntKind.i64 (0)), AV.s (Value.int IntKind.i64 (0))])), (84, (5, 1, 1, [AV.s (Value.int IntKind.u8 (0))])), (112, (52, 1, 24, [AV.s (Value.slice none 0 0)]))]
theorem elF {t : Nat} {v : TypeId × Nat × Nat × List AV} (h : fnd elTab t = some v) : elOf Tryz.prog t = some v := fndF (f := elOf Tryz.prog) (List.forall_mem_cons.2 ⟨el24, List.forall_mem_cons.2 ⟨el27, List.forall_mem_cons.2 ⟨el52, List.forall_mem_cons.2 ⟨el53, List.forall_mem_cons.2 ⟨el63, List.forall_mem_cons.2 ⟨el64, List.forall_mem_cons.2 ⟨el65, List.forall_mem_cons.2 ⟨el84, List.forall_mem_cons.2 ⟨el112, fun _ h => absurd h (List.not_mem_nil)⟩⟩⟩⟩⟩⟩⟩⟩⟩) h
def arrTab : List (Nat × (Nat × TypeId × Nat)) := [(92, (2, 9, 1)), (128, (4, 127, 5)), (136, (15, 135, 3)), (158, (8, 157, 1))]
theorem arrF {t : Nat} {v : Nat × TypeId × Nat} (h : fnd arrTab t = some v) : arrOf Tryz.prog t = some v := fndF (f := arrOf Tryz.prog) (List.forall_mem_cons.2 ⟨arr92, List.forall_mem_cons.2 ⟨arr128, List.forall_mem_cons.2 ⟨arr136, List.forall_mem_cons.2 ⟨arr158, fun _ h => absurd h (List.not_mem_nil)⟩⟩⟩⟩) h
def fldTab : List (Nat × List (Nat × Nat)) := [(23, [(0, 0), (1, 1)]), (26, [(0, 0), (1, 2)]), (40, [(0, 0), (1, 1)]), (55, [(0, 0), (1, 1)]), (76, [(0, 0), (1, 2), (2, 3), (3, 4), (4, 5), (5, 6), (6, 7)]), (122, [(0, 0), (1, 1), (2, 2)]), (127, [(0, 0), (1, 1), (2, 2), (3, 3), (4, 4)]), (135, [(0, 0), (1, 1), (2, 2)]), (153, [(0, 0), (1, 1), (2, 2)]), (170, [(0, 0), (1, 1)])]
theorem fldF {t f v : Nat} (h : fnd2 fldTab t f = some v) : fldOf Tryz.prog t f = some v := fnd2F (f := fldOf Tryz.prog) (List.forall_mem_cons.2 ⟨(show ∀ q ∈ ([(0, 0), (1, 1)] : List (Nat × Nat)), fldOf Tryz.prog 23 q.1 = some q.2 from List.forall_mem_cons.2 ⟨fld23f0, List.forall_mem_cons.2 ⟨fld23f1, fun _ h => absurd h (List.not_mem_nil)⟩⟩), List.forall_mem_cons.2 ⟨(show ∀ q ∈ ([(0, 0), (1, 2)] : List (Nat × Nat)), fldOf Tryz.prog 26 q.1 = some q.2 from List.forall_mem_cons.2 ⟨fld26f0, List.forall_mem_cons.2 ⟨fld26f1, fun _ h => absurd h (List.not_mem_nil)⟩⟩), List.forall_mem_cons.2 ⟨(show ∀ q ∈ ([(0, 0), (1, 1)] : List (Nat × Nat)), fldOf Tryz.prog 40 q.1 = some q.2 from List.forall_mem_cons.2 ⟨fld40f0, List.forall_mem_cons.2 ⟨fld40f1, fun _ h => absurd h (List.not_mem_nil)⟩⟩), List.forall_mem_cons.2 ⟨(show ∀ q ∈ ([(0, 0), (1, 1)] : List (Nat × Nat)), fldOf Tryz.prog 55 q.1 = some q.2 from List.forall_mem_cons.2 ⟨fld55f0, List.forall_mem_cons.2 ⟨fld55f1, fun _ h => absurd h (List.not_mem_nil)⟩⟩), List.forall_mem_cons.2 ⟨(show ∀ q ∈ ([(0, 0), (1, 2), (2, 3), (3, 4), (4, 5), (5, 6), (6, 7)] : List (Nat × Nat)), fldOf Tryz.prog 76 q.1 = some q.2 from List.forall_mem_cons.2 ⟨fld76f0, List.forall_mem_cons.2 ⟨fld76f1, List.forall_mem_cons.2 ⟨fld76f2, List.forall_mem_cons.2 ⟨fld76f3, List.forall_mem_cons.2 ⟨fld76f4, List.forall_mem_cons.2 ⟨fld76f5, List.forall_mem_cons.2 ⟨fld76f6, fun _ h => absurd h (List.not_mem_nil)⟩⟩⟩⟩⟩⟩⟩), List.forall_mem_cons.2 ⟨(show ∀ q ∈ ([(0, 0), (1, 1), (2, 2)] : List (Nat × Nat)), fldOf Tryz.prog 122 q.1 = some q.2 from List.forall_mem_cons.2 ⟨fld122f0, List.forall_mem_cons.2 ⟨fld122f1, List.forall_mem_cons.2 ⟨fld122f2, fun _ h => absurd h (List.not_mem_nil)⟩⟩⟩), List.forall_mem_cons.2 ⟨(show ∀ q ∈ ([(0, 0), (1, 1), (2, 2), (3, 3), (4, 4)] : List (Nat × Nat)), fldOf Tryz.prog 127 q.1 = some q.2 from List.forall_mem_cons.2 ⟨fld127f0, List.forall_mem_cons.2 ⟨fld127f1, List.forall_mem_cons.2 ⟨fld127f2, List.forall_mem_cons.2 ⟨fld127f3, List.forall_mem_cons.2 ⟨fld127f4, fun _ h => absurd h (List.not_mem_nil)⟩⟩⟩⟩⟩), List.forall_mem_cons.2 ⟨(show ∀ q ∈ ([(0, 0), (1, 1), (2, 2)] : List (Nat × Nat)), fldOf Tryz.prog 135 q.1 = some q.2 from List.forall_mem_cons.2 ⟨fld135f0, List.forall_mem_cons.2 ⟨fld135f1, List.forall_mem_cons.2 ⟨fld135f2, fun _ h => absurd h (List.not_mem_nil)⟩⟩⟩), List.forall_mem_cons.2 ⟨(show ∀ q ∈ ([(0, 0), (1, 1), (2, 2)] : List (Nat × Nat)), fldOf Tryz.prog 153 q.1 = some q.2 from List.forall_mem_cons.2 ⟨fld153f0, List.forall_mem_cons.2 ⟨fld153f1, List.forall_mem_cons.2 ⟨fld153f2, fun _ h => absurd h (List.not_mem_nil)⟩⟩⟩), List.forall_mem_cons.2 ⟨(show ∀ q ∈ ([(0, 0), (1, 1)] : List (Nat × Nat)), fldOf Tryz.prog 170 q.1 = some q.2 from List.forall_mem_cons.2 ⟨fld170f0, List.forall_mem_cons.2 ⟨fld170f1, fun _ h => absurd h (List.not_mem_nil)⟩⟩), fun _ h => absurd h (List.not_mem_nil)⟩⟩⟩⟩⟩⟩⟩⟩⟩⟩) h
end Go.Proofs.YtnhnlkljcfbhfaaGreatDoor
/- Rounds of games, xs lists. -/
namespace Go.Proofs.YtnhnlkljcfbhfaaGreatDoor.Tb
open Go Go.Ab
def offT (f : Nat) : Bool := !([83, 8, 74, 44, 40, 43, 38].contains f)
theorem bd10 : (Tryz.prog.funcs[52]?).map (·.body.isNone) = some false := by rw [Tryz.func52]; rfl
theorem bd11 : (Tryz.prog.funcs[55]?).map (·.body.isNone) = some false := by rw [Tryz.func55]; rfl
theorem bd14 : (Tryz.prog.funcs[27]?).map (·.body.isNone) = some false := by rw [Tryz.func27]; rfl
theorem bd15 : (Tryz.prog.funcs[53]?).map (·.body.isNone) = some false := by rw [Tryz.func53]; rfl
theorem bd16 : (Tryz.prog.funcs[29]?).map (·.body.isNone) = some false := by rw [Tryz.func29]; rfl
theorem bd17 : (Tryz.prog.funcs[26]?).map (·.body.isNone) = some false := by rw [Tryz.func26]; rfl
theorem bd22 : (Tryz.prog.funcs[66]?).map (·.body.isNone) = some false := by rw [Tryz.func66]; rfl
theorem bd26 : (Tryz.prog.funcs[58]?).map (·.body.isNone) = some false := by rw [Tryz.func58]; rfl
theorem bd27 : (Tryz.prog.funcs[56]?).map (·.body.isNone) = some false := by rw [Tryz.func56]; rfl
theorem bd28 : (Tryz.prog.funcs[59]?).map (·.body.isNone) = some false := by rw [Tryz.func59]; rfl
theorem bd29 : (Tryz.prog.funcs[57]?).map (·.body.isNone) = some false := by rw [Tryz.func57]; rfl
theorem bd30 : (Tryz.prog.funcs[60]?).map (·.body.isNone) = some false := by rw [Tryz.func60]; rfl
theorem bd31 : (Tryz.prog.funcs[61]?).map (·.body.isNone) = some false := by rw [Tryz.func61]; rfl
theorem bd32 : (Tryz.prog.funcs[62]?).map (·.body.isNone) = some false := by rw [Tryz.func62]; rfl
theorem bd33 : (Tryz.prog.funcs[63]?).map (·.body.isNone) = some false := by rw [Tryz.func63]; rfl
theorem bd34 : (Tryz.prog.funcs[64]?).map (·.body.isNone) = some false := by rw [Tryz.func64]; rfl
theorem bd35 : (Tryz.prog.funcs[65]?).map (·.body.isNone) = some false := by rw [Tryz.func65]; rfl
theorem bd36 : (Tryz.prog.funcs[85]?).map (·.body.isNone) = some false := by rw [Tryz.func85]; rfl
theorem bd40 : (Tryz.prog.funcs[54]?).map (·.body.isNone) = some false := by rw [Tryz.func54]; rfl
theorem bd41 : (Tryz.prog.funcs[86]?).map (·.body.isNone) = some false := by rw [Tryz.func86]; rfl
theorem bd42 : (Tryz.prog.funcs[87]?).map (·.body.isNone) = some false := by rw [Tryz.func87]; rfl
theorem bd43 : (Tryz.prog.funcs[88]?).map (·.body.isNone) = some false := by rw [Tryz.func88]; rfl
theorem bd44 : (Tryz.prog.funcs[89]?).map (·.body.isNone) = some false := by rw [Tryz.func89]; rfl
theorem bd45 : (Tryz.prog.funcs[90]?).map (·.body.isNone) = some false := by rw [Tryz.func90]; rfl
theorem bd46 : (Tryz.prog.funcs[91]?).map (·.body.isNone) = some false := by rw [Tryz.func91]; rfl
theorem bd47 : (Tryz.prog.funcs[92]?).map (·.body.isNone) = some false := by rw [Tryz.func92]; rfl
theorem bd48 : (Tryz.prog.funcs[93]?).map (·.body.isNone) = some false := by rw [Tryz.func93]; rfl
theorem bd49 : (Tryz.prog.funcs[94]?).map (·.body.isNone) = some false := by rw [Tryz.func94]; rfl
theorem bd50 : (Tryz.prog.funcs[95]?).map (·.body.isNone) = some false := by rw [Tryz.func95]; rfl
theorem bd51 : (Tryz.prog.funcs[96]?).map (·.body.isNone) = some false := by rw [Tryz.func96]; rfl
theorem bd52 : (Tryz.prog.funcs[97]?).map (·.body.isNone) = some false := by rw [Tryz.func97]; rfl
theorem bd53 : (Tryz.prog.funcs[98]?).map (·.body.isNone) = some false := by rw [Tryz.func98]; rfl
theorem bd54 : (Tryz.prog.funcs[84]?).map (·.body.isNone) = some false := by rw [Tryz.func84]; rfl
theorem bd55 : (Tryz.prog.funcs[99]?).map (·.body.isNone) = some false := by rw [Tryz.func99]; rfl
theorem bd56 : (Tryz.prog.funcs[100]?).map (·.body.isNone) = some false := by rw [Tryz.func100]; rfl
theorem bd57 : (Tryz.prog.funcs[101]?).map (·.body.isNone) = some false := by rw [Tryz.func101]; rfl
theorem bd58 : (Tryz.prog.funcs[124]?).map (·.body.isNone) = some false := by rw [Tryz.func124]; rfl
theorem bd59 : (Tryz.prog.funcs[194]?).map (·.body.isNone) = some false := by rw [Tryz.func194]; rfl
theorem row154 : rowN Tryz.prog 154 = some none := by kernel_rfl
theorem row221 : rowN Tryz.prog 221 = some none := by kernel_rfl
theorem sz154 : sz Tryz.prog 154 = some 1 := by kernel_rfl
theorem sz221 : sz Tryz.prog 221 = some 1 := by kernel_rfl
theorem zero221 : zeroOf Tryz.prog 221 = some [AV.s (Value.int IntKind.u64 (0))] := by kernel_rfl
theorem zero154 : zeroOf Tryz.prog 154 = some [AV.s (Value.nilFunc)] := by kernel_rfl
theorem rowF {t : Nat} {v : Option Nat} (h : fnd ((154, none) :: (221, none) :: rowTab) t = some v) : rowN Tryz.prog t = some v := by
  unfold fnd at h
  cases hb : Nat.beq 154 t with
  | true =>
    rw [hb] at h
    simp only [cond_true, Option.some.injEq] at h
    subst h
    rw [← Nat.eq_of_beq_eq_true hb]; exact row154
  | false =>
    rw [hb] at h
    simp only [cond_false] at h
    unfold fnd at h
    cases hb : Nat.beq 221 t with
    | true =>
      rw [hb] at h
      simp only [cond_true, Option.some.injEq] at h
      subst h
      rw [← Nat.eq_of_beq_eq_true hb]; exact row221
    | false =>
      rw [hb] at h
      simp only [cond_false] at h
      exact YtnhnlkljcfbhfaaGreatDoor.rowF h
theorem szF {t : Nat} {v : Nat} (h : fnd ((154, 1) :: (221, 1) :: szTab) t = some v) : sz Tryz.prog t = some v := by
  unfold fnd at h
  cases hb : Nat.beq 154 t with
  | true =>
    rw [hb] at h
    simp only [cond_true, Option.some.injEq] at h
    subst h
    rw [← Nat.eq_of_beq_eq_true hb]; exact sz154
  | false =>
    rw [hb] at h
    simp only [cond_false] at h
    unfold fnd at h
    cases hb : Nat.beq 221 t with
    | true =>
      rw [hb] at h
      simp only [cond_true, Option.some.injEq] at h
      subst h
      rw [← Nat.eq_of_beq_eq_true hb]; exact sz221
    | false =>
      rw [hb] at h
      simp only [cond_false] at h
      exact YtnhnlkljcfbhfaaGreatDoor.szF h
theorem zeroF {t : Nat} {v : List AV} (h : fnd ((154, [AV.s (Value.nilFunc)]) :: (221, [AV.s (Value.int IntKind.u64 (0))]) :: zeroTab) t = some v) : zeroOf Tryz.prog t = some v := by
  unfold fnd at h
  cases hb : Nat.beq 154 t with
  | true =>
    rw [hb] at h
    simp only [cond_true, Option.some.injEq] at h
    subst h
    rw [← Nat.eq_of_beq_eq_true hb]; exact zero154
  | false =>
    rw [hb] at h
    simp only [cond_false] at h
    unfold fnd at h
    cases hb : Nat.beq 221 t with
    | true =>
      rw [hb] at h
      simp only [cond_true, Option.some.injEq] at h
      subst h
      rw [← Nat.eq_of_beq_eq_true hb]; exact zero221
    | false =>
      rw [hb] at h
      simp only [cond_false] at h
      exact YtnhnlkljcfbhfaaGreatDoor.zeroF h
theorem hk_conv {P : Program} {G : Gl} {L : List (Nat × AV)} {N d : Nat} {s t : TypeId} {x : Operand} {v : Value} {ty : TypeId} {pos : String} {af : Array Edge} (hx : evL G L x = some (.s v)) : ∀ tm σ, En tm N L → eff P ⟨some d, .convert s t x, ty, pos, af, none⟩ (evT G tm) σ = withSt σ (effPure P ⟨some d, .convert s t x, ty, pos, af, none⟩ (evT G tm)) := fun tm σ h => by
  unfold eff
  simp only [effConv, h.ev hx, isRef, Bool.false_eq_true, if_false]
structure Sc where
  w : Int
  b : Int
  p : Int
def cells3 (g : Sc) : List AV := [.s (.int .i64 g.w), .s (.int .i64 g.b), .s (.int .i64 g.p)]
def GV (gs : List Sc) (a : AV) : Prop := SlV 3 a (gs.map cells3)
structure RV (rs : List (List Sc)) (a : AV) (xs : List AV) : Prop where
  sl : SlV 1 a (xs.map fun x => [x])
  len : xs.length = rs.length
  at_ : ∀ (i : Nat) (h : i < rs.length) (h' : i < xs.length), GV rs[i] xs[i]
  big : rs.length ≤ 9223372036854775807
  each : ∀ gs ∈ rs, gs.length ≤ 9223372036854775807
def fewB (rs : List (List Sc)) (g : Int) : Bool := decide (∀ gs ∈ rs.take 32, (gs.length : Int) ≤ g) && decide (rs.length ≤ 31)
theorem RV.row {rs : List (List Sc)} {a : AV} {xs : List AV} (h : RV rs a xs) {k : Nat} (hk : k < rs.length) : ∃ x, (xs.map fun x => [x])[k]? = some [x] ∧ GV rs[k] x :=
  ⟨xs[k]'(by rw [h.len]; exact hk), by rw [List.getElem?_map, List.getElem?_eq_getElem (by rw [h.len]; exact hk)]; rfl, h.at_ k hk _⟩
theorem mk3 (g : Sc) : mkAgg ((List.drop 0 (cells3 g)).take 3) = .s (.agg #[.int .i64 g.w, .int .i64 g.b, .int .i64 g.p]) := rfl
theorem cells_3 (a b c : Value) : cellsOf (.s (.agg #[a, b, c])) = [.s a, .s b, .s c] := rfl
def GOk (n : Int) (g : Sc) : Prop := 0 ≤ g.w ∧ g.w < n ∧ -1 ≤ g.b ∧ g.b < n ∧ 0 ≤ g.p ∧ g.p ≤ 2
def pl (g : Sc) : List Int := if 0 ≤ g.b then [g.w, g.b] else [g.w]
def ROk (n : Int) (gs : List Sc) : Prop := (∀ g ∈ gs, GOk n g) ∧ (gs.flatMap pl).Nodup
def VOk (n : Int) (rs : List (List Sc)) : Prop := 2 ≤ n ∧ n ≤ 200 ∧ rs.length ≤ 30 ∧ ∀ gs ∈ rs, ROk n gs
noncomputable def validB (n : Int) (rs : List (List Sc)) : Bool := @decide (VOk n rs) (Classical.propDecidable _)
theorem validB_t {n : Int} {rs : List (List Sc)} (h : VOk n rs) : validB n rs = true := by unfold validB; exact @decide_eq_true _ (Classical.propDecidable _) h
theorem validB_f {n : Int} {rs : List (List Sc)} (h : ¬ VOk n rs) : validB n rs = false := by unfold validB; exact @decide_eq_false _ (Classical.propDecidable _) h
def seenR (m : Nat) (ps : List Int) : List (List AV) := (List.range m).map fun (x : Nat) => [.s (.bool (decide ((x : Int) ∈ ps)))]
theorem seenR_len (m : Nat) (ps : List Int) : (seenR m ps).length = m := by simp [seenR]
theorem seenR_get (m : Nat) (ps : List Int) {i : Nat} (h : i < m) : (seenR m ps)[i]? = some [.s (.bool (decide ((i : Int) ∈ ps)))] := by
  simp [seenR, List.getElem?_range h]
theorem seenR_0 (m : Nat) : List.replicate m [AV.s (.bool false)] = seenR m [] := by
  apply List.ext_getElem?
  intro i
  by_cases h : i < m
  · rw [seenR_get m [] h, List.getElem?_replicate]; simp [h]
  · rw [List.getElem?_eq_none (by simp; omega), List.getElem?_eq_none (by rw [seenR_len]; omega)]
theorem seenR_set (m : Nat) (ps : List Int) {i : Nat} (h : i < m) (row : List AV) : (seenR m ps).set i (writeRow [row.headD uv] 0 [.s (.bool true)]) = seenR m (ps ++ [(i : Int)]) := by
  apply List.ext_getElem?
  intro j
  rw [List.getElem?_set]
  by_cases hj : j < m
  · by_cases e : i = j
    · subst e
      rw [if_pos rfl, if_pos (by rw [seenR_len]; exact h), seenR_get m _ h]
      simp [writeRow]
    · rw [if_neg e, seenR_get m _ hj, seenR_get m _ hj]
      have : (j : Int) ≠ (i : Int) := by omega
      simp [this]
  · have h1 : ¬ i = j := by omega
    rw [if_neg h1, List.getElem?_eq_none (by rw [seenR_len]; omega), List.getElem?_eq_none (by rw [seenR_len]; omega)]
theorem seenR_set' (m : Nat) (ps : List Int) {i : Nat} (h : i < m) (b : Bool) : (seenR m ps).set i (writeRow [.s (.bool b)] 0 [.s (.bool true)]) = seenR m (ps ++ [(i : Int)]) := seenR_set m ps h [.s (.bool b)]
theorem take_flat {α : Type} {gs : List Sc} {f : Sc → List α} {j : Nat} (h : j < gs.length) : (gs.take (j + 1)).flatMap f = (gs.take j).flatMap f ++ f gs[j] := by
  rw [List.take_succ_eq_append_getElem h, List.flatMap_append]; simp
def ints (l : List Int) : List (List AV) := l.map fun n => [.s (.int .i64 n)]
theorem ints_len (l : List Int) : (ints l).length = l.length := by simp [ints]
theorem ints_get (l : List Int) {i : Nat} (h : i < l.length) : (ints l)[i]? = some [.s (.int .i64 l[i])] := by simp [ints, h]
theorem ints_snoc (l : List Int) (n : Int) : ints l ++ [[AV.s (.int .i64 n)]] = ints (l ++ [n]) := by simp [ints]
theorem ints_one (n : Int) : [[AV.s (.int .i64 n)]] = ints [n] := rfl
theorem ints_zero (m : Nat) : List.replicate m [AV.s (.int .i64 0)] = ints (List.replicate m 0) := by simp [ints]
end Go.Proofs.YtnhnlkljcfbhfaaGreatDoor.Tb
/- What one game tells about a player: the law's points. -/
namespace Go.Proofs.YtnhnlkljcfbhfaaGreatDoor.Tb
open Go Go.Ab
attribute [local irreducible] SC SL wpc wpl wpd wpf wpy wpn FnC
set_option maxRecDepth 100000
set_option maxHeartbeats 2000000
def pts (g : Sc) (i : Int) : Int × Int := if g.w = i then (g.p, g.b) else if g.b = i then (2 - g.p, g.w) else (0, -2)
theorem pts_w {g : Sc} {i : Int} (h : g.w = i) : pts g i = (g.p, g.b) := if_pos h
theorem pts_b {g : Sc} {i : Int} (h : g.w ≠ i) (h2 : g.b = i) : pts g i = (2 - g.p, g.w) := by unfold pts; rw [if_neg h, if_pos h2]
theorem pts_n {g : Sc} {i : Int} (h : g.w ≠ i) (h2 : g.b ≠ i) : pts g i = (0, -2) := by unfold pts; rw [if_neg h, if_neg h2]
abbrev sc (g : Sc) : AV := .s (.agg #[.int .i64 g.w, .int .i64 g.b, .int .i64 g.p])
theorem points_fn {G : Gl} (g : Sc) (i : Int) (h0 : 0 ≤ g.p) (h2 : g.p ≤ 2) (ho : G.orc 66 [sc g, .s (.int .i64 i)] = none) :
    FnC Tryz.prog G 66 [sc g, .s (.int .i64 i)] [] (fun v Hn => v = .s (.tuple #[.int .i64 (pts g i).1, .int .i64 (pts g i).2]) ∧ Hn = []) := by
  refine Fn_body (N := 23) ho Tryz.func66 rfl rfl fun B => ?_
  repeat' (first
    | refine SC_seq ?_
    | refine SC_region ?_
    | refine SL_seq ?_
    | refine SL_move (by decide) (by rfl) ?_
    | refine SL_assign (by decide) (by rfl) ?_
    | refine SL_sub (by decide) (by rfl) (by rfl) (by omega) (by omega) ?_
    | (refine SL_eql (by decide) (by rfl) (by rfl) (fun hT => ?_) (fun hT => ?_) <;> first | (exfalso; omega) | skip)
    | refine SL_fieldAddr (by decide) (by rfl) (fldF (by rfl)) ?_
    | refine SL_load_o (by decide) (by rfl) (by repeat (first | exact .head _ | refine .tail _ ?_)) (rowF (by rfl)) (by first | assumption | rfl) (by rfl) ?_
    | refine SL_box (by decide) (by rfl) (by first | exact cells_3 _ _ _ | rfl) (fun id hid => ?_)
    | refine SC_draw (by kernel_rfl) ?_
    | refine SC_cond_t (by rfl) ?_
    | refine SC_cond_f (by rfl) ?_
    | (refine SC_skip' (fun tm σ hE hH => ?_); refine SC.app ?_ hE hH; clear hE hH; clear tm σ)
    | refine SC_ret (fun tm σ hE hH => Post.intro (Hn := []) (.inr rfl) hE hH (by rfl) trivial List.nodup_nil (fun p hp => (by cases hp)) ?_)
    | fail)
  · refine ⟨?_, rfl⟩
    rw [pts_w (by assumption)]; rfl
  · refine ⟨?_, rfl⟩
    rw [pts_b (by assumption) (by assumption)]; rfl
  · refine ⟨?_, rfl⟩
    rw [pts_n (by assumption) (by assumption)]; rfl
end Go.Proofs.YtnhnlkljcfbhfaaGreatDoor.Tb
/- The law's own Scores. -/
namespace Go.Proofs.YtnhnlkljcfbhfaaGreatDoor.Tb
open Go Go.Ab
attribute [local irreducible] SC SL wpc wpl wpd wpf wpy wpn FnC
set_option maxRecDepth 100000
set_option maxHeartbeats 2000000
def tab (m : Nat) (f : Nat → Int) : List (List AV) := (List.range m).map fun x => [.s (.int .i64 (f x))]
theorem tab_len (m : Nat) (f : Nat → Int) : (tab m f).length = m := by simp [tab]
theorem tab_get (m : Nat) (f : Nat → Int) {i : Nat} (h : i < m) : (tab m f)[i]? = some [.s (.int .i64 (f i))] := by simp [tab, List.getElem?_range h]
theorem tab_congr {m : Nat} {f g : Nat → Int} (h : ∀ x, x < m → f x = g x) : tab m f = tab m g := by
  unfold tab
  exact List.map_congr_left fun x hx => by rw [h x (List.mem_range.1 hx)]
theorem tab_0 (m : Nat) : List.replicate m [AV.s (.int .i64 0)] = tab m (fun _ => 0) := by
  apply List.ext_getElem?
  intro i
  by_cases h : i < m
  · rw [tab_get m _ h, List.getElem?_replicate]; simp [h]
  · rw [List.getElem?_eq_none (by simp; omega), List.getElem?_eq_none (by rw [tab_len]; omega)]
theorem tab_set (m : Nat) (f : Nat → Int) {i : Nat} (h : i < m) (a v : Int) : (tab m f).set i (writeRow [.s (.int .i64 a)] 0 [.s (.int .i64 v)]) = tab m (fun x => if x = i then v else f x) := by
  apply List.ext_getElem?
  intro j
  rw [List.getElem?_set]
  by_cases hj : j < m
  · by_cases e : i = j
    · subst e
      rw [if_pos rfl, if_pos (by rw [tab_len]; exact h), tab_get m _ h]
      simp [writeRow]
    · rw [if_neg e, tab_get m _ hj, tab_get m _ hj, if_neg (fun x => e x.symm)]
  · have h1 : ¬ i = j := by omega
    rw [if_neg h1, List.getElem?_eq_none (by rw [tab_len]; omega), List.getElem?_eq_none (by rw [tab_len]; omega)]
def FI (F : Nat → Int) (i : Nat) (acc : Int) : Nat → Int := fun x => if x < i then F x else if x = i then acc else 0
theorem FI_get {m : Nat} (F : Nat → Int) (i : Nat) (acc : Int) (h : i < m) : (tab m (FI F i acc))[i]? = some [.s (.int .i64 acc)] := by
  rw [tab_get m _ h]; simp [FI]
theorem FI_set {m : Nat} (F : Nat → Int) (i : Nat) (acc v : Int) (h : i < m) : (tab m (FI F i acc)).set i (writeRow [.s (.int .i64 acc)] 0 [.s (.int .i64 v)]) = tab m (FI F i v) := by
  rw [tab_set m _ h]
  refine tab_congr fun x hx => ?_
  unfold FI
  by_cases e : x = i
  · subst e; simp
  · rw [if_neg e]; simp only [if_neg e]
theorem FI_next (F : Nat → Int) (i : Nat) (m : Nat) : tab m (FI F i (F i)) = tab m (FI F (i + 1) 0) := by
  refine tab_congr fun x _ => ?_
  unfold FI
  by_cases e : x = i
  · subst e; simp
  · by_cases e2 : x < i
    · rw [if_pos e2, if_pos (by omega)]
    · rw [if_neg e2, if_neg e, if_neg (by omega)]; simp
theorem FI_0 (F : Nat → Int) (m : Nat) : List.replicate m [AV.s (.int .i64 0)] = tab m (FI F 0 0) := by
  rw [tab_0]
  refine tab_congr fun x _ => ?_
  unfold FI; simp
theorem FI_end (F : Nat → Int) (m : Nat) (a : Int) : tab m (FI F m a) = tab m F := by
  refine tab_congr fun x hx => ?_
  unfold FI; rw [if_pos hx]
def sum1 (gs : List Sc) (i : Int) : Int := (gs.map fun g => (pts g i).1).sum
def sumT (rs : List (List Sc)) (i : Int) : Int := (rs.map fun gs => sum1 gs i).sum
theorem sum1_next {gs : List Sc} {j : Nat} (h : j < gs.length) (i : Int) : sum1 (gs.take (j + 1)) i = sum1 (gs.take j) i + (pts gs[j] i).1 := by
  unfold sum1; rw [List.take_succ_eq_append_getElem h]; simp only [List.map_append, List.sum_append, List.map_cons, List.map_nil, List.sum_cons, List.sum_nil, Int.add_zero]
theorem sumT_next {rs : List (List Sc)} {j : Nat} (h : j < rs.length) (i : Int) : sumT (rs.take (j + 1)) i = sumT (rs.take j) i + sum1 rs[j] i := by
  unfold sumT; rw [List.take_succ_eq_append_getElem h]; simp only [List.map_append, List.sum_append, List.map_cons, List.map_nil, List.sum_cons, List.sum_nil, Int.add_zero]
theorem pts_bd {g : Sc} (h0 : 0 ≤ g.p) (h2 : g.p ≤ 2) (i : Int) : 0 ≤ (pts g i).1 ∧ (pts g i).1 ≤ 2 := by
  unfold pts
  split
  · exact ⟨h0, h2⟩
  · split
    · simp only; omega
    · simp
theorem sum1_bd {gs : List Sc} (h : ∀ g ∈ gs, 0 ≤ g.p ∧ g.p ≤ 2) (i : Int) : 0 ≤ sum1 gs i ∧ sum1 gs i ≤ 2 * gs.length := by
  induction gs with
  | nil => simp [sum1]
  | cons g gs ih =>
    have h1 := ih (fun g hg => h g (List.mem_cons_of_mem _ hg))
    have h2 := h g List.mem_cons_self
    have h3 := pts_bd h2.1 h2.2 i
    unfold sum1 at h1 ⊢
    simp only [List.map_cons, List.sum_cons, List.length_cons]
    omega
theorem sumT_bd {rs : List (List Sc)} (hf : ∀ gs ∈ rs, gs.length ≤ 12) (h : ∀ gs ∈ rs, ∀ g ∈ gs, 0 ≤ g.p ∧ g.p ≤ 2) (i : Int) : 0 ≤ sumT rs i ∧ sumT rs i ≤ 24 * rs.length := by
  induction rs with
  | nil => simp [sumT]
  | cons r rs ih =>
    have h1 := ih (fun g hg => hf g (List.mem_cons_of_mem _ hg)) (fun g hg => h g (List.mem_cons_of_mem _ hg))
    have h2 := sum1_bd (h r List.mem_cons_self) i
    have h3 := hf r List.mem_cons_self
    unfold sumT at h1 ⊢
    simp only [List.map_cons, List.sum_cons, List.length_cons]
    omega
theorem lawScores_fn {G : Gl} {rs : List (List Sc)} {ra : AV} {xs : List AV} (h : RV rs ra xs) (hf : ∀ gs ∈ rs, gs.length ≤ 12) {m : Nat} (hv : VOk m rs) (ho : G.orc 27 [.s (.int .i64 m), ra] = none) (ho22 : ∀ g i, G.orc 66 [sc g, .s (.int .i64 i)] = none) :
    FnC Tryz.prog G 27 [.s (.int .i64 m), ra] [] (fun v Hn => ∃ id, v = .sl id 0 m none ∧ Hn = [(id, .cells 3 1 true (tab m (fun x => sumT rs x)))]) := by
  have hsl := h.sl
  have hlen := h.len
  have hbig := h.big
  obtain ⟨hv1, hv2, hv3, hv4⟩ := hv
  refine Fn_body (N := 55) ho Tryz.func27 rfl rfl fun B => ?_
  repeat' (first
    | refine SC_seq ?_
    | refine SC_block ?_
    | refine SC_region ?_
    | refine SL_seq ?_
    | refine SL_move (by decide) (by rfl) ?_
    | refine SL_assign (by decide) (by rfl) ?_
    | refine SL_makeSlice (by decide) (by rfl) (by rfl) (elF (by rfl)) (by omega) (by omega) (by omega) (by omega) (fun id hid => ?_)
    | fail)
  refine SC_loop (fun i : Nat => [(0, .s (.int .i64 m)), (1, ra), (5, .sl id 0 m none), (6, .s (.int .i64 i))]) (fun i => [(id, .cells 3 1 true (tab m (FI (fun x => sumT rs x) i 0)))]) (fun _ => []) (fun i => i ≤ m) (fun i => m - i) 0 (by omega) ⟨rfl, rfl, rfl, rfl, trivial⟩ ⟨by rw [← FI_0]; exact .head _, trivial⟩ (by simp) rfl ?_
  intro i hi
  by_cases hilt : i < m
  ·
    repeat' (first
      | refine SC_seq ?_
      | refine SC_block ?_
      | refine SC_region ?_
      | refine SL_seq ?_
      | refine SL_move (by decide) (by rfl) ?_
      | refine SL_assign (by decide) (by rfl) ?_
      | (refine SL_lss (by decide) (by rfl) (by rfl) (fun hT => ?_) (fun hT => ?_) <;> first | (exfalso; omega) | skip)
      | refine SC_cond_t (by rfl) ?_
      | (refine SC_skip' (fun tm σ hE hH => ?_); refine SC.app ?_ hE hH; clear hE hH; clear tm σ)
      | fail)
    refine SC_loop (fun k : Nat => [(0, .s (.int .i64 m)), (1, ra), (5, .sl id 0 m none), (6, .s (.int .i64 i)), (7, .s (.int .i64 k))]) (fun k => [(id, .cells 3 1 true (tab m (FI (fun x => sumT rs x) i (sumT (rs.take k) i))))]) (fun _ => []) (fun k => k ≤ rs.length) (fun k => rs.length - k) 0 (by omega) ⟨rfl, rfl, rfl, rfl, rfl, trivial⟩ ⟨.head _, trivial⟩ (by simp) rfl ?_
    intro k hk
    by_cases hlt : k < rs.length
    · obtain ⟨x, hx, hgx⟩ := h.row hlt
      unfold GV at hgx
      have hgs := hf rs[k] (List.getElem_mem hlt)
      have hr := (hv4 rs[k] (List.getElem_mem hlt)).1
      have hsum := sumT_bd (rs := rs.take k) (fun gs hg => hf gs (List.mem_of_mem_take hg)) (fun gs hg g hgg => ((hv4 gs (List.mem_of_mem_take hg)).1 g hgg).2.2.2.2) i
      rw [List.length_take] at hsum
      repeat' (first
        | refine SC_seq ?_
        | refine SC_block ?_
        | refine SC_region ?_
        | refine SL_seq ?_
        | refine SL_move (by decide) (by rfl) ?_
        | refine SL_assign (by decide) (by rfl) ?_
        | (refine SL_lss (by decide) (by rfl) (by rfl) (fun hT => ?_) (fun hT => ?_) <;> first | (exfalso; omega) | skip)
        | refine SL_len_v (by decide) (by rfl) (by assumption) (by rfl) (slF (by rfl)) (by simp only [List.length_map]; first | rfl | assumption) ?_
        | refine SC_cond_t (by rfl) ?_
        | (refine SC_skip' (fun tm σ hE hH => ?_); refine SC.app ?_ hE hH; clear hE hH; clear tm σ)
        | fail)
      refine SC_loop (fun j : Nat => [(0, .s (.int .i64 m)), (1, ra), (5, .sl id 0 m none), (6, .s (.int .i64 i)), (7, .s (.int .i64 k)), (8, .s (.int .i64 j))]) (fun j => [(id, .cells 3 1 true (tab m (FI (fun x => sumT rs x) i (sumT (rs.take k) i + sum1 (rs[k].take j) i))))]) (fun _ => []) (fun j => j ≤ rs[k].length) (fun j => rs[k].length - j) 0 (by omega) ⟨rfl, rfl, rfl, rfl, rfl, rfl, trivial⟩ ⟨by rw [show sum1 (rs[k].take 0) i = 0 from rfl, Int.add_zero]; exact .head _, trivial⟩ (by simp) rfl ?_
      intro j hj
      by_cases hjlt : j < rs[k].length
      · have hrow : (rs[k].map cells3)[j]? = some (cells3 rs[k][j]) := by rw [List.getElem?_map, List.getElem?_eq_getElem hjlt]; rfl
        have hgj := hr rs[k][j] (List.getElem_mem hjlt)
        have hsum1 := sum1_bd (gs := rs[k].take j) (fun g hgg => (hr g (List.mem_of_mem_take hgg)).2.2.2.2) i
        rw [List.length_take] at hsum1
        have hpt := pts_bd hgj.2.2.2.2.1 hgj.2.2.2.2.2 (i : Int)
        repeat' (first
          | (refine SL_call (by decide) (by rfl) bd22 (by rfl) (by rfl) (points_fn rs[k][j] (i : Int) hgj.2.2.2.2.1 hgj.2.2.2.2.2 (ho22 _ _)) trivial List.nodup_nil ?_; rintro _ _ _ ⟨rfl, rfl⟩; rw [List.nil_append])
          | refine SC_seq ?_
          | refine SC_block ?_
          | refine SC_region ?_
          | refine SL_seq ?_
          | (refine SL_nil (fun tm σ hE hH => ?_); refine SC.app ?_ hE hH; clear hE hH; clear tm σ)
          | refine SL_move (by decide) (by rfl) ?_
          | refine SL_assign (by decide) (by rfl) ?_
          | refine SL_add (by decide) (by rfl) (by rfl) (by omega) (by omega) ?_
          | (refine SL_lss (by decide) (by rfl) (by rfl) (fun hT => ?_) (fun hT => ?_) <;> first | (exfalso; omega) | skip)
          | refine SL_extract_s (by decide) (by rfl) (by rfl) ?_
          | refine SL_len_v (by decide) (by rfl) (by assumption) (by rfl) (slF (by rfl)) (by simp only [List.length_map]; first | rfl | assumption) ?_
          | refine SL_indexAddr_v (by decide) (by rfl) (by rfl) (by assumption) (slF (by rfl)) _ (by first | rfl | exact (Int.toNat_of_nonneg (by omega)).symm) (by simp only [List.length_map]; omega) (fun ad => ?_)
          | refine SL_indexAddr_0 (by decide) (by rfl) (by rfl) (by repeat (first | exact .head _ | refine .tail _ ?_)) (slF (by rfl)) _ (by first | rfl | exact (Int.toNat_of_nonneg (by omega)).symm) (by omega) ?_
          | refine SL_load_r (by decide) (by rfl) (rowF (by rfl)) (by first | assumption | rfl | exact FI_get _ _ _ (by omega)) (by rfl) ?_
          | refine SL_load_rr (by decide) (by rfl) (rowF (by rfl)) (by first | assumption | rfl | exact FI_get _ _ _ (by omega)) (Nat.le_of_ble_eq_true (by rfl)) (by first | exact mk3 _ | rfl) ?_
          | refine SL_load_o (by decide) (by rfl) (by repeat (first | exact .head _ | refine .tail _ ?_)) (rowF (by rfl)) (by first | assumption | rfl | exact FI_get _ _ _ (by omega)) (by rfl) ?_
          | refine SL_store_n (by rfl) (by rfl) (by repeat (first | exact .head _ | refine .tail _ ?_)) (by first | assumption | rfl | exact FI_get _ _ _ (by omega)) (by rfl) (by first | exact FI_set _ _ _ _ (by omega) | rfl) (by repeat (first | exact .head | refine .tail ?_)) (by first | exact .inl (by assumption) | exact .inr (by simp)) (szF (by rfl)) (Nat.le_of_ble_eq_true (by rfl)) (by rfl) ?_
          | refine SC_cond_t (by rfl) ?_
          | (refine SC_skip' (fun tm σ hE hH => ?_); refine SC.app ?_ hE hH; clear hE hH; clear tm σ)
          | fail)
        refine SL_nil fun tm σ hE hH => ⟨j + 1, by omega, by omega, tm, σ, rfl, hE.sub ⟨rfl, rfl, rfl, rfl, rfl, rfl, trivial⟩, hH.sub ⟨?_, trivial⟩ (by simp)⟩
        rw [sum1_next hjlt, ← Int.add_assoc]
        exact .head _
      · obtain rfl : j = rs[k].length := by omega
        rw [List.take_length]
        repeat' (first
          | refine SC_seq ?_
          | refine SC_region ?_
          | refine SL_seq ?_
          | refine SL_move (by decide) (by rfl) ?_
          | refine SL_assign (by decide) (by rfl) ?_
          | refine SL_add (by decide) (by rfl) (by rfl) (by omega) (by omega) ?_
          | (refine SL_lss (by decide) (by rfl) (by rfl) (fun hT => ?_) (fun hT => ?_) <;> first | (exfalso; omega) | skip)
          | refine SL_len_v (by decide) (by rfl) (by assumption) (by rfl) (slF (by rfl)) (by simp only [List.length_map]; first | rfl | assumption) ?_
          | refine SL_indexAddr_v (by decide) (by rfl) (by rfl) (by assumption) (slF (by rfl)) _ (by first | rfl | exact (Int.toNat_of_nonneg (by omega)).symm) (by simp only [List.length_map]; omega) (fun ad => ?_)
          | refine SL_load_r (by decide) (by rfl) (rowF (by rfl)) (by first | assumption | rfl | exact FI_get _ _ _ (by omega)) (by rfl) ?_
          | refine SC_cond_f (by rfl) ?_
          | (refine SC_exit (fun tm σ hE hH => ?_); refine SC.app ?_ hE hH; clear hE hH; clear tm σ)
          | fail)
        refine SL_nil fun tm σ hE hH => ⟨k + 1, by omega, by omega, tm, σ, rfl, hE.sub ⟨rfl, rfl, rfl, rfl, rfl, trivial⟩, hH.sub ⟨?_, trivial⟩ (by simp)⟩
        rw [sumT_next hlt]
        exact .head _
    · obtain rfl : k = rs.length := by omega
      rw [List.take_length]
      repeat' (first
        | refine SC_seq ?_
        | refine SC_region ?_
        | refine SL_seq ?_
        | refine SL_move (by decide) (by rfl) ?_
        | refine SL_assign (by decide) (by rfl) ?_
        | refine SL_add (by decide) (by rfl) (by rfl) (by omega) (by omega) ?_
        | (refine SL_lss (by decide) (by rfl) (by rfl) (fun hT => ?_) (fun hT => ?_) <;> first | (exfalso; omega) | skip)
        | refine SL_len_v (by decide) (by rfl) (by assumption) (by rfl) (slF (by rfl)) (by simp only [List.length_map]; first | rfl | assumption) ?_
        | refine SC_cond_f (by rfl) ?_
        | (refine SC_exit (fun tm σ hE hH => ?_); refine SC.app ?_ hE hH; clear hE hH; clear tm σ)
        | fail)
      refine SL_nil fun tm σ hE hH => ⟨i + 1, by omega, by omega, tm, σ, rfl, hE.sub ⟨rfl, rfl, rfl, rfl, trivial⟩, hH.sub ⟨?_, trivial⟩ (by simp)⟩
      rw [← FI_next]
      exact .head _
  · obtain rfl : i = m := by omega
    rw [FI_end]
    repeat' (first
      | refine SC_seq ?_
      | refine SC_region ?_
      | refine SL_seq ?_
      | refine SL_move (by decide) (by rfl) ?_
      | refine SL_assign (by decide) (by rfl) ?_
      | (refine SL_lss (by decide) (by rfl) (by rfl) (fun hT => ?_) (fun hT => ?_) <;> first | (exfalso; omega) | skip)
      | refine SC_cond_f (by rfl) ?_
      | (refine SC_exit (fun tm σ hE hH => ?_); refine SC.app ?_ hE hH; clear hE hH; clear tm σ)
      | fail)
    exact SC_ret (fun tm σ hE hH => Post.intro (Hn := [(id, _)]) (.inr rfl) hE hH (by rfl) ⟨.head _, trivial⟩ (by simp) (by simp [hid]) ⟨id, rfl, rfl⟩)
end Go.Proofs.YtnhnlkljcfbhfaaGreatDoor.Tb
/- slices.Sort on at most twelve numbers. -/
namespace Go.Proofs.YtnhnlkljcfbhfaaGreatDoor.Tb
open Go Go.Ab
theorem ints_set (l : List Int) (i : Nat) (a v : Int) : (ints l).set i (writeRow [.s (.int .i64 a)] 0 [.s (.int .i64 v)]) = ints (l.set i v) := by
  unfold ints
  rw [List.map_set]
  rfl
attribute [local irreducible] SC SL wpc wpl wpd wpf wpy wpn FnC FnW RdW SD
set_option maxRecDepth 100000
set_option maxHeartbeats 2000000
theorem isNaN_fn {G : Gl} (a : Int) (ho : G.orc 101 [.s (.int .i64 a)] = none) : FnC Tryz.prog G 101 [.s (.int .i64 a)] [] (fun v Hn => v = .s (.bool false) ∧ Hn = []) := by
  refine Fn_body (N := 6) ho Tryz.func101 rfl rfl fun B => ?_
  repeat' (first
    | refine SC_seq ?_
    | refine SC_region ?_
    | refine SL_seq ?_
    | refine SL_move (by decide) (by rfl) ?_
    | refine SL_assign (by decide) (by rfl) ?_
    | (refine SL_neq (by decide) (by rfl) (by rfl) (fun hT => ?_) (fun hT => ?_) <;> first | (exfalso; omega) | skip)
    | fail)
  refine SC_ret (fun tm σ hE hH => Post.intro (Hn := []) (.inr rfl) hE hH (by rfl) trivial List.nodup_nil (fun p hp => by cases hp) ⟨rfl, rfl⟩)
theorem less_fn {G : Gl} (a b : Int) (ho : ∀ f x y, offT f = true → G.orc f (x :: y) = none) : FnC Tryz.prog G 194 [.s (.int .i64 a), .s (.int .i64 b)] [] (fun v Hn => v = .s (.bool (decide (a < b))) ∧ Hn = []) := by
  refine Fn_body (N := 17) (ho _ _ _ (by rfl)) Tryz.func194 rfl rfl fun B => ?_
  repeat' (first
    | (refine SL_call (by decide) (by rfl) bd57 (by rfl) (by rfl) (isNaN_fn _ (ho _ _ _ (by rfl))) trivial List.nodup_nil ?_; rintro _ _ _ ⟨rfl, rfl⟩; rw [List.nil_append])
    | refine SC_seq ?_
    | refine SC_region ?_
    | refine SL_seq ?_
    | refine SL_run (by rfl) (by rfl) ?_
    | refine SL_not (by rfl) (by rfl) (by rfl) (by decide) ?_
    | refine SL_move (by decide) (by rfl) ?_
    | refine SL_assign (by decide) (by rfl) ?_
    | refine SL_pick_f (by decide) (by rfl) (by rfl) ?_
    | (refine SL_lss (by decide) (by rfl) (by rfl) (fun hT => ?_) (fun hT => ?_) <;> first | (exfalso; omega) | skip)
    | fail)
  · refine SC_ret (fun tm σ hE hH => Post.intro (Hn := []) (.inr rfl) hE hH (by rfl) trivial List.nodup_nil (fun p hp => by cases hp) ⟨?_, rfl⟩)
    rw [decide_eq_true (by assumption)]; rfl
  · refine SC_ret (fun tm σ hE hH => Post.intro (Hn := []) (.inr rfl) hE hH (by rfl) trivial List.nodup_nil (fun p hp => by cases hp) ⟨?_, rfl⟩)
    rw [decide_eq_false (by omega)]; rfl
theorem getD_set (c : List Int) {i : Nat} (x : Nat) (v : Int) (h : i < c.length) : (c.set i v).getD x 0 = if x = i then v else c.getD x 0 := by
  simp only [List.getD_eq_getElem?_getD, List.getElem?_set]
  by_cases e : i = x
  · subst e; simp [h]
  · have : ¬ x = i := fun h => e h.symm
    simp [e, this]
theorem getD_at (c : List Int) {i : Nat} (h : i < c.length) : c.getD i 0 = c[i] := by simp [List.getD_eq_getElem?_getD, h]
def Ins (c : List Int) (i j : Nat) : Prop := ∀ p q, p < q → q ≤ i → q ≠ j → c.getD p 0 ≤ c.getD q 0
theorem ins_swap {c : List Int} {i j : Nat} (hin : i < c.length) (hj : 0 < j) (hji : j ≤ i) (hp : Ins c i j) (hlt : c.getD j 0 < c.getD (j - 1) 0) : Ins ((c.set j (c.getD (j - 1) 0)).set (j - 1) (c.getD j 0)) i (j - 1) := by
  intro p q h1 h2 h3
  have h0 : (c.set j (c.getD (j - 1) 0)).length = c.length := List.length_set
  rw [getD_set _ _ _ (by omega), getD_set _ _ _ (by omega), getD_set _ _ _ (by omega), getD_set _ _ _ (by omega)]
  rw [if_neg h3]
  by_cases hq : q = j
  · rw [if_pos hq]
    by_cases hp1 : p = j - 1
    · rw [if_pos hp1]; omega
    · rw [if_neg hp1, if_neg (by omega)]
      exact hp p (j - 1) (by omega) (by omega) (by omega)
  · rw [if_neg hq]
    by_cases hp1 : p = j - 1
    · rw [if_pos hp1]; exact hp j q (by omega) h2 hq
    · rw [if_neg hp1]
      by_cases hp2 : p = j
      · rw [if_pos hp2]; exact hp (j - 1) q (by omega) h2 hq
      · rw [if_neg hp2]; exact hp p q h1 h2 hq
theorem ins_done {c : List Int} {i j : Nat} (hp : Ins c i j) (hj : j = 0 ∨ (j ≤ i ∧ c.getD (j - 1) 0 ≤ c.getD j 0)) : ∀ p q, p < q → q < i + 1 → c.getD p 0 ≤ c.getD q 0 := by
  intro p q h1 h2
  by_cases hq : q = j
  · rcases hj with hj | ⟨hj, hle⟩
    · omega
    · subst hq
      by_cases hp1 : p = q - 1
      · rw [hp1]; exact hle
      · exact Int.le_trans (hp p (q - 1) (by omega) (by omega) (by omega)) hle
  · exact hp p q h1 (by omega) hq
def SortedTo (c : List Int) (i : Nat) : Prop := ∀ p q, p < q → q < i → c.getD p 0 ≤ c.getD q 0
theorem insertion_fn {G : Gl} (ho : ∀ f x y, offT f = true → G.orc f (x :: y) = none) (l : List Int) (n : Nat) (hn : l.length = n) (hb : n ≤ 1000) (ex : Bool) (id : Nat) :
    FnW Tryz.prog G 188 [.sl id 0 n none, .s (.int .i64 0), .s (.int .i64 n)] [id] [(id, .cells 3 1 ex (ints l))] (fun _ Hn => ∃ c : List Int, Hn = [(id, .cells 3 1 ex (ints c))] ∧ c.Perm l ∧ SortedTo c n) := by
  refine FnW_body (N := 49) (ho _ _ _ (by rfl)) Tryz.func188 rfl rfl fun B => ?_
  repeat' (first
    | refine SC_seq ?_
    | refine SC_block ?_
    | refine SC_region ?_
    | refine SL_seq ?_
    | refine SL_move (by decide) (by rfl) ?_
    | refine SL_assign (by decide) (by rfl) ?_
    | refine SL_add (by decide) (by rfl) (by rfl) (by omega) (by omega) ?_
    | fail)
  refine SC_loop (fun a : Nat × List Int => [(0, .sl id 0 n none), (1, .s (.int .i64 0)), (2, .s (.int .i64 n)), (6, .s (.int .i64 a.1))]) (fun a => [(id, .cells 3 1 ex (ints a.2))]) (fun _ => []) (fun a => 1 ≤ a.1 ∧ (a.1 ≤ n ∨ a.1 = 1) ∧ a.2.length = n ∧ a.2.Perm l ∧ SortedTo a.2 a.1) (fun a => n + 1 - a.1) (1, l)
    ⟨by simp, by simp, hn, .refl _, fun p q h1 h2 => by simp at h2; omega⟩ ⟨rfl, rfl, rfl, rfl, trivial⟩ ⟨.head _, trivial⟩ (by simp) rfl ?_
  rintro ⟨i, c⟩ ⟨hi1, hi2, hc1, hc2, hc3⟩
  dsimp only at hi1 hi2 hc1 hc2 hc3 ⊢
  by_cases hilt : i < n
  ·
    repeat' (first
      | refine SC_seq ?_
      | refine SC_block ?_
      | refine SC_region ?_
      | refine SL_seq ?_
      | refine SL_move (by decide) (by rfl) ?_
      | refine SL_assign (by decide) (by rfl) ?_
      | (refine SL_lss (by decide) (by rfl) (by rfl) (fun hT => ?_) (fun hT => ?_) <;> first | (exfalso; omega) | skip)
      | refine SC_cond_t (by rfl) ?_
      | (refine SC_skip' (fun tm σ hE hH => ?_); refine SC.app ?_ hE hH; clear hE hH; clear tm σ)
      | fail)
    refine SC_loop (fun a : Nat × List Int => [(0, .sl id 0 n none), (1, .s (.int .i64 0)), (2, .s (.int .i64 n)), (6, .s (.int .i64 i)), (7, .s (.int .i64 a.1))]) (fun a => [(id, .cells 3 1 ex (ints a.2))]) (fun _ => []) (fun a => a.1 ≤ i ∧ a.2.length = n ∧ a.2.Perm l ∧ ∀ p q, p < q → q ≤ i → q ≠ a.1 → a.2.getD p 0 ≤ a.2.getD q 0) (fun a => a.1) (i, c)
      ⟨by simp, hc1, hc2, fun p q h1 h2 h3 => hc3 p q h1 (by dsimp only at h3; omega)⟩ ⟨rfl, rfl, rfl, rfl, rfl, trivial⟩ ⟨.head _, trivial⟩ (by simp) rfl ?_
    rintro ⟨j, c'⟩ ⟨hj1, hd1, hd2, hd3⟩
    dsimp only at hj1 hd1 hd2 hd3 ⊢
    by_cases hj0 : 0 < j
    · have hjn : j < c'.length := by omega
      have hjp : (j - 1 : Int).toNat < c'.length := by omega
      repeat' (first
        | (refine SD_nil (fun tm σ hE hH => ⟨_, _, _, _, _, rfl, hE, hH, fun _ h => (by cases h), ?_⟩); clear hE hH; clear tm σ; intro tm σ hE hH; refine SC.app ?_ hE hH; clear hE hH; clear tm σ)
        | (refine SC_drawn (id := 4) (pl := [(0, []), (1, []), (2, []), (3, []), (4, []), (5, []), (6, []), (7, []), (8, []), (9, []), (10, []), (11, []), (12, []), (13, []), (14, [])]) (by kernel_rfl) (by kernel_rfl) ?_; intro B' base hb1 hb2 hb3 hb4)
        | (refine SL_call (by decide) (by rfl) bd59 (by rfl) (by rfl) (less_fn _ _ ho) trivial List.nodup_nil ?_; rintro _ _ _ ⟨rfl, rfl⟩; rw [List.nil_append]; refine SL_bool (i := 29) (by rfl) (fun hT => ?_) (fun hT => ?_))
        | refine SC_seq ?_
        | refine SC_block ?_
        | refine SC_region ?_
        | (refine SL_nil (fun tm σ hE hH => ?_); refine SC.app ?_ hE hH; clear hE hH; clear tm σ)
        | refine SL_run (by rfl) (by rfl) ?_
        | refine SL_move (by decide) (by rfl) ?_
        | refine SL_assign (by decide) (by rfl) ?_
        | refine SL_pick_t (by decide) (by rfl) (by rfl) ?_
        | refine SL_add (by decide) (by rfl) (by rfl) (by omega) (by omega) ?_
        | refine SL_sub (by decide) (by rfl) (by rfl) (by omega) (by omega) ?_
        | (refine SL_gtr (by decide) (by rfl) (by rfl) (fun hT => ?_) (fun hT => ?_) <;> first | (exfalso; omega) | skip)
        | refine SL_indexAddr_0 (by decide) (by rfl) (by rfl) (by repeat (first | exact .head _ | refine .tail _ ?_)) (slF (by rfl)) _ (by first | rfl | exact (Int.toNat_of_nonneg (by omega)).symm) (by omega) ?_
        | refine SL_load_o (by decide) (by rfl) (by repeat (first | exact .head _ | refine .tail _ ?_)) (rowF (by rfl)) (by first | assumption | rfl | exact ints_get _ (by omega) | exact ints_get _ (by simp only [List.length_set]; omega)) (by rfl) ?_
        | refine SL_store_n (by rfl) (by rfl) (by repeat (first | exact .head _ | refine .tail _ ?_)) (by first | assumption | rfl | exact ints_get _ (by omega) | exact ints_get _ (by simp only [List.length_set]; omega)) (by rfl) (by first | exact ints_set _ _ _ _ | rfl) (by repeat (first | exact .head | apply Upd.tail)) (by first | exact .inl (by assumption) | exact .inr (by simp)) (szF (by rfl)) (Nat.le_of_ble_eq_true (by rfl)) (by rfl) ?_
        | refine SC_draw (by kernel_rfl) ?_
        | refine SC_cond_t (by rfl) ?_
        | refine SC_cond_f (by rfl) ?_
        | (refine SC_exit (fun tm σ hE hH => ?_); refine SC.app ?_ hE hH; clear hE hH; clear tm σ)
        | (refine SC_skip' (fun tm σ hE hH => ?_); refine SC.app ?_ hE hH; clear hE hH; clear tm σ)
        | (refine SL_nil (fun tm σ hE hH => ⟨_, _, _, _, rfl, hE, hH, ?_⟩); clear hE hH; clear tm σ)
        | refine SD_op _ [] (by rfl) (by rfl) (fun _ h => h) (fun p hp => by cases hp) (fun k hk => by cases hk) (.inl rfl) ?_
        | fail)
      · have hlt : c'[j] < c'[(↑j - 1 : Int).toNat] := of_decide_eq_true (by assumption)
        refine SL_nil fun tm σ hE hH => ⟨(j - 1, (c'.set j c'[(↑j - 1 : Int).toNat]).set (↑j - 1 : Int).toNat c'[j]), by show j - 1 < j; omega, ⟨by show j - 1 ≤ i; omega, by simp [hd1], (List.set_set_perm hjn hjp).trans hd2, ?_⟩, tm, σ, rfl, hE.sub ⟨rfl, rfl, rfl, rfl, ?_, trivial⟩, hH.sub ⟨.head _, trivial⟩ (by simp)⟩
        · have e : (↑j - 1 : Int).toNat = j - 1 := by omega
          have := ins_swap (i := i) (by omega) hj0 hj1 hd3 (by rw [getD_at _ hjn, getD_at _ (by omega)]; simp only [e] at hlt; exact hlt)
          rw [getD_at _ hjn, getD_at _ (by omega)] at this
          simp only [e]
          exact this
        · have e : ((j - 1 : Nat) : Int) = ↑j - 1 := by omega
          show some _ = some (AV.s (Value.int IntKind.i64 ((j - 1 : Nat) : Int)))
          rw [e]
      · have hge : ¬ c'[j] < c'[(↑j - 1 : Int).toNat] := of_decide_eq_false (by assumption)
        refine SL_nil fun tm σ hE hH => ⟨(i + 1, c'), by show n + 1 - (i + 1) < n + 1 - i; omega, ⟨by show 1 ≤ i + 1; omega, .inl (by show i + 1 ≤ n; omega), hd1, hd2, ?_⟩, tm, σ, rfl, hE.sub ⟨rfl, rfl, rfl, rfl, trivial⟩, hH.sub ⟨.head _, trivial⟩ (by simp)⟩
        refine ins_done hd3 (.inr ⟨hj1, ?_⟩)
        have e : (↑j - 1 : Int).toNat = j - 1 := by omega
        have hj2 : j - 1 < c'.length := by omega
        simp only [e] at hge
        rw [getD_at _ hjn, getD_at _ hj2]
        exact Int.not_lt.1 hge
    · obtain rfl : j = 0 := by omega
      repeat' (first
        | (refine SD_nil (fun tm σ hE hH => ⟨_, _, _, _, _, rfl, hE, hH, fun _ h => (by cases h), ?_⟩); clear hE hH; clear tm σ; intro tm σ hE hH; refine SC.app ?_ hE hH; clear hE hH; clear tm σ)
        | (refine SC_drawn (id := 4) (pl := [(0, []), (1, []), (2, []), (3, []), (4, []), (5, []), (6, []), (7, []), (8, []), (9, []), (10, []), (11, []), (12, []), (13, []), (14, [])]) (by kernel_rfl) (by kernel_rfl) ?_; intro B' base hb1 hb2 hb3 hb4)
        | refine SC_seq ?_
        | refine SC_region ?_
        | refine SL_not (by rfl) (by rfl) (by rfl) (by decide) ?_
        | refine SL_move (by decide) (by rfl) ?_
        | refine SL_assign (by decide) (by rfl) ?_
        | refine SL_pick_f (by decide) (by rfl) (by rfl) ?_
        | refine SL_add (by decide) (by rfl) (by rfl) (by omega) (by omega) ?_
        | (refine SL_gtr (by decide) (by rfl) (by rfl) (fun hT => ?_) (fun hT => ?_) <;> first | (exfalso; omega) | skip)
        | refine SC_cond_f (by rfl) ?_
        | (refine SC_exit (fun tm σ hE hH => ?_); refine SC.app ?_ hE hH; clear hE hH; clear tm σ)
        | (refine SL_nil (fun tm σ hE hH => ⟨_, _, _, _, rfl, hE, hH, ?_⟩); clear hE hH; clear tm σ)
        | refine SD_op _ [] (by rfl) (by rfl) (fun _ h => h) (fun p hp => by cases hp) (fun k hk => by cases hk) (.inl rfl) ?_
        | fail)
      refine SL_nil fun tm σ hE hH => ⟨(i + 1, c'), by show n + 1 - (i + 1) < n + 1 - i; omega, ⟨by show 1 ≤ i + 1; omega, .inl (by show i + 1 ≤ n; omega), hd1, hd2, ins_done hd3 (.inl rfl)⟩, tm, σ, rfl, hE.sub ⟨rfl, rfl, rfl, rfl, trivial⟩, hH.sub ⟨.head _, trivial⟩ (by simp)⟩
  ·
    repeat' (first
      | refine SC_seq ?_
      | refine SC_region ?_
      | refine SL_seq ?_
      | refine SL_move (by decide) (by rfl) ?_
      | (refine SL_lss (by decide) (by rfl) (by rfl) (fun hT => ?_) (fun hT => ?_) <;> first | (exfalso; omega) | skip)
      | refine SC_cond_f (by rfl) ?_
      | fail)
    refine SC_exit (fun tm σ hE hH => ?_)
    refine PostW.intro (vs := []) (Hn := [(id, _)]) (.inl rfl) hE hH (by rfl) ⟨.head _, trivial⟩ (by simp) (fun p hp => .inl (by simp at hp; simp [hp])) ⟨c, rfl, hc2, fun p q h1 h2 => hc3 p q h1 (by omega)⟩
end Go.Proofs.YtnhnlkljcfbhfaaGreatDoor.Tb
/- slices.Sort on at most twelve numbers: the calls around the insertion sort. -/
namespace Go.Proofs.YtnhnlkljcfbhfaaGreatDoor.Tb
open Go Go.Ab
theorem bl_of {P : Program} {g : FuncId} (h : (P.funcs[g]?).map (·.body.isNone) = some false) : bodyless P (.s (.func (.func g) #[] #[])) = false := by
  cases hp : P.funcs[g]? with
  | none => simp only [bodyless, hp]
  | some fn => rw [hp] at h; simp at h; simp [bodyless, hp, h]
theorem bd63 : (Tryz.prog.funcs[125]?).map (·.body.isNone) = some false := by rw [Tryz.func125]; rfl
theorem bd73 : (Tryz.prog.funcs[135]?).map (·.body.isNone) = some false := by rw [Tryz.func135]; rfl
theorem bd75 : (Tryz.prog.funcs[165]?).map (·.body.isNone) = some false := by rw [Tryz.func165]; rfl
theorem bd82 : (Tryz.prog.funcs[188]?).map (·.body.isNone) = some false := by rw [Tryz.func188]; rfl
def lenU (n : Nat) : Int := [0, 1, 2, 2, 3, 3, 3, 3, 4, 4, 4, 4, 4, 4, 4, 4, 5, 5, 5, 5, 5, 5, 5, 5, 5].getD n 0
theorem cases13 {n : Nat} (h : n ≤ 24) : n = 0 ∨ n = 1 ∨ n = 2 ∨ n = 3 ∨ n = 4 ∨ n = 5 ∨ n = 6 ∨ n = 7 ∨ n = 8 ∨ n = 9 ∨ n = 10 ∨ n = 11 ∨ n = 12 ∨ n = 13 ∨ n = 14 ∨ n = 15 ∨ n = 16 ∨ n = 17 ∨ n = 18 ∨ n = 19 ∨ n = 20 ∨ n = 21 ∨ n = 22 ∨ n = 23 ∨ n = 24 := by omega
theorem lenU_bd {n : Nat} (h : n ≤ 24) : 0 ≤ lenU n ∧ lenU n ≤ 5 := by
  rcases cases13 h with rfl | rfl | rfl | rfl | rfl | rfl | rfl | rfl | rfl | rfl | rfl | rfl | rfl | rfl | rfl | rfl | rfl | rfl | rfl | rfl | rfl | rfl | rfl | rfl | rfl <;> decide
attribute [local irreducible] SC SL wpc wpl wpd wpf wpy wpn FnC FnW RdW SD
set_option maxRecDepth 100000
set_option maxHeartbeats 2000000
theorem len64_fn {G : Gl} (n : Nat) (hn : n ≤ 24) (ho : ∀ f x y, offT f = true → G.orc f (x :: y) = none) : FnC Tryz.prog G 135 [.s (.int .u64 n)] [] (fun v Hn => v = .s (.int .i64 (lenU n)) ∧ Hn = []) := by
  have hcs := cases13 hn
  have hbd := lenU_bd hn
  refine Fn_body (N := 25) (ho _ _ _ (by rfl)) Tryz.func135 rfl rfl fun B => ?_
  repeat' (first
    | refine SL_pure (d := 23) (v := .s (.int .i64 (lenU n))) [(22, .s (.int .u8 (lenU n)))] (by decide) ⟨rfl, trivial⟩ (by rfl) (by first | exact fun _ _ _ => rfl | exact hk_conv (by rfl)) (by intro _ _ h; cases h) (by rcases hcs with rfl | rfl | rfl | rfl | rfl | rfl | rfl | rfl | rfl | rfl | rfl | rfl | rfl | rfl | rfl | rfl | rfl | rfl | rfl | rfl | rfl | rfl | rfl | rfl | rfl <;> kernel_rfl) ?_
    | refine SL_pure (d := 22) (v := .s (.int .u8 (lenU n))) [(21, .s (.int .u8 n))] (by decide) ⟨rfl, trivial⟩ (by rfl) (by first | exact fun _ _ _ => rfl | exact hk_conv (by rfl)) (by intro _ _ h; cases h) (by rcases hcs with rfl | rfl | rfl | rfl | rfl | rfl | rfl | rfl | rfl | rfl | rfl | rfl | rfl | rfl | rfl | rfl | rfl | rfl | rfl | rfl | rfl | rfl | rfl | rfl | rfl <;> kernel_rfl) ?_
    | refine SL_pure (d := 21) (v := .s (.int .u8 n)) [(20, .s (.int .u64 n))] (by decide) ⟨rfl, trivial⟩ (by rfl) (by first | exact fun _ _ _ => rfl | exact hk_conv (by rfl)) (by intro _ _ h; cases h) (by rcases hcs with rfl | rfl | rfl | rfl | rfl | rfl | rfl | rfl | rfl | rfl | rfl | rfl | rfl | rfl | rfl | rfl | rfl | rfl | rfl | rfl | rfl | rfl | rfl | rfl | rfl <;> kernel_rfl) ?_
    | refine SC_seq ?_
    | refine SC_region ?_
    | refine SL_seq ?_
    | refine SL_move (by decide) (by rfl) ?_
    | refine SL_assign (by decide) (by rfl) ?_
    | refine SL_add (by decide) (by rfl) (by rfl) (by omega) (by omega) ?_
    | (refine SL_geq (by decide) (by rfl) (by rfl) (fun hT => ?_) (fun hT => ?_) <;> first | (exfalso; omega) | skip)
    | refine SC_cond_f (by rfl) ?_
    | (refine SC_skip' (fun tm σ hE hH => ?_); refine SC.app ?_ hE hH; clear hE hH; clear tm σ)
    | fail)
  refine SC_ret (fun tm σ hE hH => Post.intro (Hn := []) (.inr rfl) hE hH (by rfl) trivial List.nodup_nil (fun p hp => by cases hp) ⟨?_, rfl⟩)
  simp only [Int.zero_add]; rfl
theorem len_fn {G : Gl} (n : Nat) (hn : n ≤ 24) (ho : ∀ f x y, offT f = true → G.orc f (x :: y) = none) : FnC Tryz.prog G 100 [.s (.int .u64 n)] [] (fun v Hn => v = .s (.int .i64 (lenU n)) ∧ Hn = []) := by
  refine Fn_body (N := 8) (ho _ _ _ (by rfl)) Tryz.func100 rfl rfl fun B => ?_
  repeat' (first
    | (refine SL_call (by decide) (by rfl) bd73 (by rfl) (by rfl) (len64_fn n hn ho) trivial List.nodup_nil ?_; rintro _ _ _ ⟨rfl, rfl⟩; rw [List.nil_append])
    | refine SC_seq ?_
    | refine SC_region ?_
    | refine SL_seq ?_
    | refine SL_move (by decide) (by rfl) ?_
    | refine SL_assign (by decide) (by rfl) ?_
    | refine SC_cond_f (by rfl) ?_
    | (refine SC_skip' (fun tm σ hE hH => ?_); refine SC.app ?_ hE hH; clear hE hH; clear tm σ)
    | fail)
  refine SC_ret (fun tm σ hE hH => Post.intro (Hn := []) (.inr rfl) hE hH (by rfl) trivial List.nodup_nil (fun p hp => by cases hp) ⟨rfl, rfl⟩)
theorem pdq_fn {G : Gl} (n : Nat) (hn : n ≤ 12) (ho : ∀ f x y, offT f = true → G.orc f (x :: y) = none) (l : List Int) (hl : l.length = n) (ex : Bool) (id : Nat) :
    FnW Tryz.prog G 165 [.sl id 0 n none, .s (.int .i64 0), .s (.int .i64 n), .s (.int .i64 (lenU n))] [id] [(id, .cells 3 1 ex (ints l))] (fun _ Hn => ∃ c : List Int, Hn = [(id, .cells 3 1 ex (ints c))] ∧ c.Perm l ∧ SortedTo c n) := by
  refine FnW_body (N := 134) (ho _ _ _ (by rfl)) Tryz.func165 rfl rfl fun B => ?_
  repeat' (first
    | refine SC_seq ?_
    | refine SC_block ?_
    | refine SC_region ?_
    | refine SL_seq ?_
    | refine SL_assign (by decide) (by rfl) ?_
    | fail)
  refine SC_loop (fun _ : Unit => [(0, .sl id 0 n none), (1, .s (.int .i64 0)), (2, .s (.int .i64 n))]) (fun _ => [(id, .cells 3 1 ex (ints l))]) (fun _ => []) (fun _ => True) (fun _ => 0) () trivial ⟨rfl, rfl, rfl, trivial⟩ ⟨.head _, trivial⟩ (by simp) rfl ?_
  intro _ _
  repeat' (first
    | (refine SL_callW (Hr := []) (H0 := [(id, _)]) (M := [id]) (by decide) (by rfl) (bl_of bd82) (by rfl) (by rfl) (insertion_fn ho l n hl (by omega) ex id) (fun x hx => ⟨.inr hx, by simpa using hx⟩) ?_; rintro v82 _ ⟨c, rfl, hcp, hcs2⟩; rw [List.nil_append])
    | refine SC_seq ?_
    | refine SC_block ?_
    | refine SC_region ?_
    | refine SL_seq ?_
    | refine SL_move (by decide) (by rfl) ?_
    | refine SL_assign (by decide) (by rfl) ?_
    | refine SL_sub (by decide) (by rfl) (by rfl) (by omega) (by omega) ?_
    | (refine SL_leq (by decide) (by rfl) (by rfl) (fun hT => ?_) (fun hT => ?_) <;> first | (exfalso; omega) | skip)
    | refine SC_cond_t (by rfl) ?_
    | fail)
  refine SC_ret (fun tm σ hE hH => PostW.intro (vs := []) (Hn := [(id, _)]) (.inr rfl) hE hH (by rfl) ⟨.head _, trivial⟩ (by simp) (fun p hp => .inl (by simp at hp; simp [hp])) ⟨c, rfl, hcp, hcs2⟩)
theorem sort_fn {G : Gl} (n : Nat) (hn : n ≤ 12) (ho : ∀ f x y, offT f = true → G.orc f (x :: y) = none) (l : List Int) (hl : l.length = n) (ex : Bool) (id : Nat) :
    FnW Tryz.prog G 125 [.sl id 0 n none] [id] [(id, .cells 3 1 ex (ints l))] (fun _ Hn => ∃ c : List Int, Hn = [(id, .cells 3 1 ex (ints c))] ∧ c.Perm l ∧ SortedTo c n) := by
  have hcs := cases13 (n := n) (by omega)
  refine FnW_body (N := 11) (ho _ _ _ (by rfl)) Tryz.func125 rfl rfl fun B => ?_
  repeat' (first
    | (refine SL_callW (Hr := []) (H0 := [(id, _)]) (M := [id]) (by decide) (by rfl) (bl_of bd75) (by rfl) (by rfl) (pdq_fn n hn ho l hl ex id) (fun x hx => ⟨.inr hx, by simpa using hx⟩) ?_; rintro v75 _ ⟨c, rfl, hcp, hcs2⟩; rw [List.nil_append])
    | refine SL_pure (d := 8) (v := .s (.int .u64 n)) [(7, .s (.int .i64 n))] (by decide) ⟨rfl, trivial⟩ (by rfl) (by first | exact fun _ _ _ => rfl | exact hk_conv (by rfl)) (by intro _ _ h; cases h) (by rcases hcs with rfl | rfl | rfl | rfl | rfl | rfl | rfl | rfl | rfl | rfl | rfl | rfl | rfl | rfl | rfl | rfl | rfl | rfl | rfl | rfl | rfl | rfl | rfl | rfl | rfl <;> kernel_rfl) ?_
    | (refine SL_call (by decide) (by rfl) bd56 (by rfl) (by rfl) (len_fn n (by omega) ho) trivial List.nodup_nil ?_; rintro _ _ _ ⟨rfl, rfl⟩; rw [List.nil_append])
    | refine SC_seq ?_
    | refine SC_region ?_
    | refine SL_seq ?_
    | refine SL_move (by decide) (by rfl) ?_
    | refine SL_assign (by decide) (by rfl) ?_
    | refine SL_len_sl (by decide) (by rfl) (by rfl) (sliceOf_spec (slF (by rfl))).1 ?_
    | fail)
  refine SL_nil (fun tm σ hE hH => ?_)
  refine PostW.intro (vs := []) (Hn := [(id, _)]) (.inl rfl) hE hH (by rfl) ⟨.head _, trivial⟩ (by simp) (fun p hp => .inl (by simp at hp; simp [hp])) ⟨c, rfl, hcp, hcs2⟩
theorem insertion_nil {G : Gl} (ho : ∀ f x y, offT f = true → G.orc f (x :: y) = none) : FnC Tryz.prog G 188 [.s (.slice none 0 0), .s (.int .i64 0), .s (.int .i64 0)] [] (fun _ Hn => Hn = []) := by
  refine Fn_body (N := 49) (ho _ _ _ (by rfl)) Tryz.func188 rfl rfl fun B => ?_
  repeat' (first
    | refine SC_seq ?_
    | refine SC_block ?_
    | refine SC_region ?_
    | refine SL_seq ?_
    | refine SL_move (by decide) (by rfl) ?_
    | refine SL_assign (by decide) (by rfl) ?_
    | refine SL_add (by decide) (by rfl) (by rfl) (by omega) (by omega) ?_
    | fail)
  refine SC_loop (fun _ : Unit => [(0, .s (.slice none 0 0)), (1, .s (.int .i64 0)), (2, .s (.int .i64 0)), (6, .s (.int .i64 1))]) (fun _ => []) (fun _ => []) (fun _ => True) (fun _ => 0) () trivial ⟨rfl, rfl, rfl, rfl, trivial⟩ trivial List.nodup_nil rfl ?_
  intro _ _
  repeat' (first
    | refine SC_seq ?_
    | refine SC_region ?_
    | refine SL_seq ?_
    | refine SL_move (by decide) (by rfl) ?_
    | (refine SL_lss (by decide) (by rfl) (by rfl) (fun hT => ?_) (fun hT => ?_) <;> first | (exfalso; omega) | skip)
    | refine SC_cond_f (by rfl) ?_
    | fail)
  refine SC_exit (fun tm σ hE hH => Post.intro (vs := []) (Hn := []) (.inl rfl) hE hH (by rfl) trivial List.nodup_nil (fun p hp => by cases hp) rfl)
theorem pdq_nil {G : Gl} (ho : ∀ f x y, offT f = true → G.orc f (x :: y) = none) : FnC Tryz.prog G 165 [.s (.slice none 0 0), .s (.int .i64 0), .s (.int .i64 0), .s (.int .i64 (lenU 0))] [] (fun _ Hn => Hn = []) := by
  refine Fn_body (N := 134) (ho _ _ _ (by rfl)) Tryz.func165 rfl rfl fun B => ?_
  repeat' (first
    | refine SC_seq ?_
    | refine SC_block ?_
    | refine SC_region ?_
    | refine SL_seq ?_
    | refine SL_assign (by decide) (by rfl) ?_
    | fail)
  refine SC_loop (fun _ : Unit => [(0, .s (.slice none 0 0)), (1, .s (.int .i64 0)), (2, .s (.int .i64 0))]) (fun _ => []) (fun _ => []) (fun _ => True) (fun _ => 0) () trivial ⟨rfl, rfl, rfl, trivial⟩ trivial List.nodup_nil rfl ?_
  intro _ _
  repeat' (first
    | (refine SL_call (by decide) (by rfl) bd82 (by rfl) (by rfl) (insertion_nil ho) trivial List.nodup_nil ?_; rintro v82 _ _ rfl; rw [List.nil_append])
    | refine SC_seq ?_
    | refine SC_block ?_
    | refine SC_region ?_
    | refine SL_seq ?_
    | refine SL_move (by decide) (by rfl) ?_
    | refine SL_assign (by decide) (by rfl) ?_
    | refine SL_sub (by decide) (by rfl) (by rfl) (by omega) (by omega) ?_
    | (refine SL_leq (by decide) (by rfl) (by rfl) (fun hT => ?_) (fun hT => ?_) <;> first | (exfalso; omega) | skip)
    | refine SC_cond_t (by rfl) ?_
    | fail)
  refine SC_ret (fun tm σ hE hH => Post.intro (vs := []) (Hn := []) (.inr rfl) hE hH (by rfl) trivial List.nodup_nil (fun p hp => by cases hp) rfl)
theorem sort_nil {G : Gl} (ho : ∀ f x y, offT f = true → G.orc f (x :: y) = none) : FnC Tryz.prog G 125 [.s (.slice none 0 0)] [] (fun _ Hn => Hn = []) := by
  refine Fn_body (N := 11) (ho _ _ _ (by rfl)) Tryz.func125 rfl rfl fun B => ?_
  repeat' (first
    | (refine SL_call (by decide) (by rfl) bd75 (by rfl) (by rfl) (pdq_nil ho) trivial List.nodup_nil ?_; rintro v75 _ _ rfl; rw [List.nil_append])
    | refine SL_pure (d := 8) (v := .s (.int .u64 ((0 : Nat) : Int))) [(7, .s (.int .i64 0))] (by decide) ⟨rfl, trivial⟩ (by rfl) (by first | exact fun _ _ _ => rfl | exact hk_conv (by rfl)) (by intro _ _ h; cases h) (by kernel_rfl) ?_
    | (refine SL_call (by decide) (by rfl) bd56 (by rfl) (by rfl) (len_fn 0 (by omega) ho) trivial List.nodup_nil ?_; rintro _ _ _ ⟨rfl, rfl⟩; rw [List.nil_append])
    | refine SC_seq ?_
    | refine SC_region ?_
    | refine SL_seq ?_
    | refine SL_move (by decide) (by rfl) ?_
    | refine SL_assign (by decide) (by rfl) ?_
    | refine SL_len_0 (by decide) (by rfl) (by rfl) (sliceOf_spec (slF (by rfl))).1 ?_
    | fail)
  refine SL_nil (fun tm σ hE hH => Post.intro (vs := []) (Hn := []) (.inl rfl) hE hH (by rfl) trivial List.nodup_nil (fun p hp => by cases hp) rfl)
end Go.Proofs.YtnhnlkljcfbhfaaGreatDoor.Tb
/- Go's sort by a comparing function, on at most 24 numbers: the pivot. -/
namespace Go.Proofs.YtnhnlkljcfbhfaaGreatDoor.Tb
open Go Go.Ab
attribute [local irreducible] SC SL wpc wpl wpd wpf wpy wpn FnC FnW RdW SD
set_option maxRecDepth 100000
set_option maxHeartbeats 2000000
theorem ints_getD (l : List Int) {i : Nat} (h : i < l.length) : (ints l)[i]? = some [.s (.int .i64 (l.getD i 0))] := by rw [ints_get _ h, getD_at _ h]
theorem getD_mem {l : List Int} {i : Nat} (h : i < l.length) : l.getD i 0 ∈ l := by rw [getD_at _ h]; exact List.getElem_mem h
theorem bd64 : (Tryz.prog.funcs[126]?).map (·.body.isNone) = some false := by rw [Tryz.func126]; rfl
theorem bd66 : (Tryz.prog.funcs[128]?).map (·.body.isNone) = some false := by rw [Tryz.func128]; rfl
theorem bd67 : (Tryz.prog.funcs[129]?).map (·.body.isNone) = some false := by rw [Tryz.func129]; rfl
theorem bd69 : (Tryz.prog.funcs[131]?).map (·.body.isNone) = some false := by rw [Tryz.func131]; rfl
theorem bd71 : (Tryz.prog.funcs[133]?).map (·.body.isNone) = some false := by rw [Tryz.func133]; rfl
theorem bd77 : (Tryz.prog.funcs[167]?).map (·.body.isNone) = some false := by rw [Tryz.func167]; rfl
theorem bd78 : (Tryz.prog.funcs[168]?).map (·.body.isNone) = some false := by rw [Tryz.func168]; rfl
theorem bd80 : (Tryz.prog.funcs[170]?).map (·.body.isNone) = some false := by rw [Tryz.func170]; rfl
theorem bd90 : (Tryz.prog.funcs[197]?).map (·.body.isNone) = some false := by rw [Tryz.func197]; rfl
theorem getD_ne {l : List Int} (hnd : l.Nodup) {p q : Nat} (hp : p < l.length) (hq : q < l.length) (h : p ≠ q) : l.getD p 0 ≠ l.getD q 0 := by
  rw [getD_at _ hp, getD_at _ hq]
  have := List.pairwise_iff_getElem.1 hnd
  rcases Nat.lt_or_gt_of_ne h with h | h
  · exact this _ _ hp hq h
  · exact fun e => this _ _ hq hp h e.symm
section
variable {G : Gl} (ho : ∀ f x y, offT f = true → G.orc f (x :: y) = none) {cv : AV} {Hx : List (Nat × AObj)} {S : Int → Prop} {lt : Int → Int → Prop} (hcmp : Cmp Tryz.prog G cv Hx S lt) (l : List Int) (n : Nat) (hl : l.length = n) (hS : ∀ x ∈ l, S x) (ex : Bool) (io : Nat)
include ho hcmp hl hS
theorem order2_fn (sw : Nat) (s : Nat) (hs : s ≤ 100) (i j : Nat) (hi : i < n) (hj : j < n) :
    FnW Tryz.prog G 197 [.sl io 0 n none, .s (.int .i64 i), .s (.int .i64 j), .ptr sw 0 0, cv] [sw] ((sw, .cells 3 1 true [[.s (.int .i64 s)]]) :: (io, .cells 3 1 ex (ints l)) :: Hx)
      (fun v Hn => (lt (l.getD j 0) (l.getD i 0) ∧ v = .s (.tuple #[.int .i64 j, .int .i64 i]) ∧ Hn = [(sw, .cells 3 1 true [[.s (.int .i64 (s + 1 : Nat))]])]) ∨ (¬ lt (l.getD j 0) (l.getD i 0) ∧ v = .s (.tuple #[.int .i64 i, .int .i64 j]) ∧ Hn = [(sw, .cells 3 1 true [[.s (.int .i64 s)]])])) := by
  refine FnW_body (N := 32) (ho _ _ _ (by rfl)) Tryz.func197 rfl rfl fun B => ?_
  refine SC_nd fun hnd => ?_
  have hnx : (Hx.map (·.1)).Nodup := (List.nodup_cons.1 (List.nodup_cons.1 hnd).2).2
  have hsx : SubH Hx ((sw, AObj.cells 3 1 true [[.s (.int .i64 s)]]) :: (io, .cells 3 1 ex (ints l)) :: Hx) := .of_mem fun p hp => .tail _ (.tail _ hp)
  repeat' (first
    | (refine SD_nil (fun tm σ hE hH => ⟨_, _, _, _, _, rfl, hE, hH, fun _ h => (by cases h), ?_⟩); clear hE hH; clear tm σ; intro tm σ hE hH; refine SC.app ?_ hE hH; clear hE hH; clear tm σ)
    | (refine SL_cmp hcmp (by decide) (by rfl) (by rfl) (by rfl) (by first | exact hS _ (getD_mem (by omega)) | assumption) (by first | exact hS _ (getD_mem (by omega)) | assumption) hsx hnx (fun c hc0 hL => ?_) (fun c hc0 hL => ?_))
    | refine SL_nilCheck (by decide) (by rfl) ?_
    | (refine SC_drawn (id := 1) (pl := [(0, []), (1, []), (2, []), (3, []), (4, []), (5, []), (6, []), (7, []), (8, []), (9, []), (10, [])]) (by kernel_rfl) (by kernel_rfl) ?_; intro B' base hb1 hb2 hb3 hb4)
    | refine SC_seq ?_
    | refine SC_region ?_
    | refine SL_seq ?_
    | refine SL_move (by decide) (by rfl) ?_
    | refine SL_assign (by decide) (by rfl) ?_
    | refine SL_add (by decide) (by rfl) (by rfl) (by omega) (by omega) ?_
    | (refine SL_lss (by decide) (by rfl) (by rfl) (fun hT => ?_) (fun hT => ?_) <;> first | (exfalso; omega) | skip)
    | refine SL_indexAddr_0 (by decide) (by rfl) (by rfl) (by repeat (first | exact .head _ | refine .tail _ ?_)) (slF (by rfl)) _ (by first | rfl | exact (Int.toNat_of_nonneg (by omega)).symm) (by omega) ?_
    | refine SL_load_o (by decide) (by rfl) (by repeat (first | exact .head _ | refine .tail _ ?_)) (rowF (by rfl)) (by first | assumption | rfl | exact ints_getD _ (by omega)) (by rfl) ?_
    | refine SL_store_box (by rfl) (by rfl) (by first | exact cells_3 _ _ _ | rfl) (by repeat (first | exact .head | apply Upd.tail)) (by first | exact .inl (by assumption) | exact .inr (by simp)) (by rfl) (szF (by rfl)) (by rfl) ?_
    | refine SC_cond_t (by rfl) ?_
    | refine SC_cond_f (by rfl) ?_
    | (refine SC_skip' (fun tm σ hE hH => ?_); refine SC.app ?_ hE hH; clear hE hH; clear tm σ)
    | (refine SL_nil (fun tm σ hE hH => ⟨_, _, _, _, rfl, hE, hH, ?_⟩); clear hE hH; clear tm σ)
    | refine SD_op _ [] (by rfl) (by rfl) (fun _ h => h) (fun p hp => by cases hp) (fun k hk => by cases hk) (.inl rfl) ?_
    | fail)
  · refine SC_ret (fun tm σ hE hH => PostW.intro (Hn := [(sw, _)]) (.inr rfl) hE hH (by rfl) ⟨.head _, trivial⟩ (by simp) (fun p hp => .inl (by simp at hp; simp [hp])) (.inl ⟨hL, rfl, rfl⟩))
  · refine SC_ret (fun tm σ hE hH => PostW.intro (Hn := [(sw, _)]) (.inr rfl) hE hH (by rfl) ⟨.head _, trivial⟩ (by simp) (fun p hp => .inl (by simp at hp; simp [hp])) (.inr ⟨hL, rfl, rfl⟩))
def Mid (lt : Int → Int → Prop) (l : List Int) (a b r : Nat) : Prop := a ≤ r ∧ r < b ∧ (∃ x, a ≤ x ∧ x < b ∧ lt (l.getD x 0) (l.getD r 0)) ∧ ∃ y, a ≤ y ∧ y < b ∧ lt (l.getD r 0) (l.getD y 0)
theorem median_fn (sw : Nat) (a b i j k : Nat) (hia : a ≤ i) (hib : i < b) (hja : a ≤ j) (hjb : j < b) (hka : a ≤ k) (hkb : k < b) (hb : b ≤ n) (hij : i ≠ j) (hjk : j ≠ k) (hik : i ≠ k) (hnd : l.Nodup) :
    FnW Tryz.prog G 170 [.sl io 0 n none, .s (.int .i64 i), .s (.int .i64 j), .s (.int .i64 k), .ptr sw 0 0, cv] [sw] ((sw, .cells 3 1 true [[.s (.int .i64 (0 : Nat))]]) :: (io, .cells 3 1 ex (ints l)) :: Hx)
      (fun v Hn => ∃ r s : Nat, v = .s (.int .i64 r) ∧ s ≤ 3 ∧ Hn = [(sw, .cells 3 1 true [[.s (.int .i64 s)]])] ∧ Mid lt l a b r) := by
  have hs : ∀ p, p < n → S (l.getD p 0) := fun p hp => hS _ (getD_mem (by omega))
  have hn : ∀ p q, p < n → q < n → p ≠ q → ¬ lt (l.getD p 0) (l.getD q 0) → lt (l.getD q 0) (l.getD p 0) := fun p q hp hq hpq h => (hcmp.tot _ _ (hs p hp) (hs q hq) (getD_ne hnd (by omega) (by omega) hpq)).resolve_left h
  have h90 := fun (s : Nat) (hs : s ≤ 100) (i j : Nat) (hi : i < n) (hj : j < n) => order2_fn ho hcmp l n hl hS ex io sw s hs i j hi hj
  refine FnW_body (N := 41) (ho _ _ _ (by rfl)) Tryz.func170 rfl rfl fun B => ?_
  refine SC_nd fun hnd0 => ?_
  repeat' (first
    | (refine SL_callW2 (H0 := [(sw, _)]) (Hr := (io, _) :: Hx) (Hx := (io, _) :: Hx) (M := [sw]) (by decide) (by rfl) (bl_of bd90) (by rfl) (by rfl) (h90 _ (by omega) _ _ (by omega) (by omega)) (fun p hp => hp) (List.nodup_cons.1 hnd0).2 (fun x hx => by rw [List.mem_singleton] at hx; subst hx; exact ⟨.inr (by simp), List.mem_singleton.2 rfl⟩) ?_; intro v0 Hn0 hB0 hR0; clear hB0; obtain (⟨hL, rfl, rfl⟩ | ⟨hL, rfl, rfl⟩) := hR0 <;> simp only [List.cons_append, List.nil_append])
    | refine SC_seq ?_
    | refine SC_region ?_
    | refine SL_seq ?_
    | refine SL_move (by decide) (by rfl) ?_
    | refine SL_assign (by decide) (by rfl) ?_
    | refine SL_extract_s (by decide) (by rfl) (by rfl) ?_
    | fail)
  all_goals rename_i h1 h2
  all_goals refine SC_ret (fun tm σ hE hH => PostW.intro (Hn := [(sw, _)]) (.inr rfl) hE hH (by rfl) ⟨.head _, trivial⟩ (by simp) (fun p hp => .inl (by simp at hp; simp [hp])) ⟨_, _, rfl, (by omega), rfl, ?_⟩)
  · exact ⟨hja, hjb, ⟨k, hka, hkb, hL⟩, i, hia, hib, h1⟩
  · exact ⟨hka, hkb, ⟨j, hja, hjb, hn k j (by omega) (by omega) (Ne.symm hjk) hL⟩, i, hia, hib, h2⟩
  · exact absurd (hcmp.tr _ _ _ (hs j (by omega)) (hs i (by omega)) (hs j (by omega)) h1 hL) (hcmp.irr _ (hs j (by omega)))
  · exact ⟨hia, hib, ⟨j, hja, hjb, h1⟩, k, hka, hkb, hn k i (by omega) (by omega) (Ne.symm hik) h2⟩
  · exact ⟨hia, hib, ⟨k, hka, hkb, hL⟩, j, hja, hjb, hn j i (by omega) (by omega) (Ne.symm hij) h1⟩
  · exact ⟨hka, hkb, ⟨i, hia, hib, hn k i (by omega) (by omega) (Ne.symm hik) hL⟩, j, hja, hjb, h2⟩
  · exact absurd hL h1
  · exact ⟨hja, hjb, ⟨i, hia, hib, hn j i (by omega) (by omega) (Ne.symm hij) h1⟩, k, hka, hkb, hn k j (by omega) (by omega) (Ne.symm hjk) h2⟩
end
end Go.Proofs.YtnhnlkljcfbhfaaGreatDoor.Tb
/- Go's sort by a comparing function: the pivot's choice, the look whether all is sorted, the insertion. -/
namespace Go.Proofs.YtnhnlkljcfbhfaaGreatDoor.Tb
open Go Go.Ab
attribute [local irreducible] SC SL wpc wpl wpd wpf wpy wpn FnC FnW RdW SD
set_option maxRecDepth 100000
set_option maxHeartbeats 2000000
def SortIn (lt : Int → Int → Prop) (c : List Int) (a b : Nat) : Prop := ∀ p q, a ≤ p → p < q → q < b → lt (c.getD p 0) (c.getD q 0)
theorem SortIn.next {lt : Int → Int → Prop} {c : List Int} {a k : Nat} (hT : ∀ x y z, x ∈ c → y ∈ c → z ∈ c → lt x y → lt y z → lt x z) (hk : k < c.length) (h : SortIn lt c a k) (hl : a < k → lt (c.getD (k - 1) 0) (c.getD k 0)) : SortIn lt c a (k + 1) := by
  intro p q h1 h2 h3
  by_cases e : q = k
  · subst e
    by_cases e2 : p = q - 1
    · subst e2; exact hl (by omega)
    · exact hT _ _ _ (getD_mem (by omega)) (getD_mem (i := q - 1) (by omega)) (getD_mem hk) (h p (q - 1) h1 (by omega) (by omega)) (hl (by omega))
  · exact h p q h1 h2 (by omega)
def swapL (c : List Int) (i j : Nat) : List Int := (c.set i (c.getD j 0)).set j (c.getD i 0)
theorem swapL_len (c : List Int) (i j : Nat) : (swapL c i j).length = c.length := by simp [swapL]
theorem swapL_get {c : List Int} {i j : Nat} (hi : i < c.length) (hj : j < c.length) (p : Nat) : (swapL c i j).getD p 0 = if p = j then c.getD i 0 else if p = i then c.getD j 0 else c.getD p 0 := by
  unfold swapL
  rw [getD_set _ _ _ (by simpa using hj), getD_set _ _ _ hi]
theorem swapL_perm {c : List Int} {i j : Nat} (hi : i < c.length) (hj : j < c.length) : (swapL c i j).Perm c := by
  unfold swapL
  rw [getD_at _ hi, getD_at _ hj]
  exact List.set_set_perm hi hj
structure PermIn (a b : Nat) (l c : List Int) : Prop where
  perm : c.Perm l
  out : ∀ p, p < a ∨ b ≤ p → c.getD p 0 = l.getD p 0
theorem PermIn.refl (a b : Nat) (l : List Int) : PermIn a b l l := ⟨.refl _, fun _ _ => rfl⟩
theorem PermIn.len {a b : Nat} {l c : List Int} (h : PermIn a b l c) : c.length = l.length := h.perm.length_eq
theorem PermIn.trans {a b : Nat} {l c d : List Int} (h : PermIn a b l c) (h' : PermIn a b c d) : PermIn a b l d := ⟨h'.perm.trans h.perm, fun p hp => (h'.out p hp).trans (h.out p hp)⟩
theorem PermIn.mono {a b a' b' : Nat} {l c : List Int} (h : PermIn a b l c) (ha : a' ≤ a) (hb : b ≤ b') : PermIn a' b' l c := ⟨h.perm, fun p hp => h.out p (by omega)⟩
theorem PermIn.swap {a b i j : Nat} {l c : List Int} (h : PermIn a b l c) (hi : a ≤ i) (hi' : i < b) (hj : a ≤ j) (hj' : j < b) (hb : b ≤ c.length) : PermIn a b l (swapL c i j) :=
  ⟨(swapL_perm (by omega) (by omega)).trans h.perm, fun p hp => by rw [swapL_get (by omega) (by omega), if_neg (by omega), if_neg (by omega)]; exact h.out p hp⟩
theorem PermIn.from {a b : Nat} {l c : List Int} (h : PermIn a b l c) (hnd : l.Nodup) (hb : b ≤ l.length) {p : Nat} (hp : a ≤ p) (hp' : p < b) : ∃ q, a ≤ q ∧ q < b ∧ c.getD p 0 = l.getD q 0 := by
  have hl := h.len
  have hm : c.getD p 0 ∈ l := h.perm.subset (getD_mem (by omega))
  obtain ⟨q, hq, he⟩ := List.mem_iff_getElem.1 hm
  rw [← getD_at _ hq] at he
  by_cases hin : a ≤ q ∧ q < b
  · exact ⟨q, hin.1, hin.2, he.symm⟩
  · have hcn : c.Nodup := h.perm.symm.nodup hnd
    have h1 := h.out q (by omega)
    exact absurd (h1.trans he).symm (getD_ne hcn (by omega) (by omega) (by omega))
section
variable {G : Gl} (ho : ∀ f x y, offT f = true → G.orc f (x :: y) = none) {cv : AV} {Hx : List (Nat × AObj)} {S : Int → Prop} {lt : Int → Int → Prop} (hcmp : Cmp Tryz.prog G cv Hx S lt) (l : List Int) (n : Nat) (hl : l.length = n) (hS : ∀ x ∈ l, S x) (ex : Bool) (io : Nat)
include ho hcmp hl hS
theorem pivot_fn (a b : Nat) (hb : b ≤ n) (h8 : a + 8 ≤ b) (h50 : b < a + 50) (hbig : n ≤ 1000) (hnd : l.Nodup) :
    FnC Tryz.prog G 129 [.sl io 0 n none, .s (.int .i64 a), .s (.int .i64 b), cv] ((io, .cells 3 1 ex (ints l)) :: Hx)
      (fun v Hn => ∃ (r : Nat) (h : Int), v = .s (.tuple #[.int .i64 r, .int .i64 h]) ∧ (h = 0 ∨ h = 1) ∧ Mid lt l a b r ∧ Hn = []) := by
  have h80 := fun sw => median_fn ho hcmp l n hl hS ex io sw a b (a + (b - a) / 4 * 1) (a + (b - a) / 4 * 2) (a + (b - a) / 4 * 3) (by omega) (by omega) (by omega) (by omega) (by omega) (by omega) hb (by omega) (by omega) (by omega) hnd
  have e1 : ((a + (b - a) / 4 * 1 : Nat) : Int) = ↑a + (↑b - ↑a) / 4 * 1 := by omega
  have e2 : ((a + (b - a) / 4 * 2 : Nat) : Int) = ↑a + (↑b - ↑a) / 4 * 2 := by omega
  have e3 : ((a + (b - a) / 4 * 3 : Nat) : Int) = ↑a + (↑b - ↑a) / 4 * 3 := by omega
  simp only [e1, e2, e3] at h80
  refine Fn_body (N := 63) (ho _ _ _ (by rfl)) Tryz.func129 rfl rfl fun B => ?_
  refine SC_nd fun hnd0 => ?_
  repeat' (first
    | (refine SL_callW2 (H0 := [(id, _)]) (Hr := (io, _) :: Hx) (Hx := (io, _) :: Hx) (M := [id]) (by decide) (by rfl) (bl_of bd80) (by rfl) (by rfl) (h80 id) (fun p hp => hp) hnd0 (fun x hx => by rw [List.mem_singleton] at hx; subst hx; exact ⟨.inl hid, List.mem_singleton.2 rfl⟩) ?_; intro v0 Hn0 hB0 hR0; clear hB0; obtain ⟨r, s, rfl, hs3, rfl, hmid⟩ := hR0; simp only [List.cons_append, List.nil_append])
    | refine SL_mul (by decide) (by rfl) (by rfl) (by omega) (by omega) ?_
    | refine SL_quo (by decide) (by rfl) (by rfl) (by omega) (by omega) (by omega) ?_
    | refine SC_seq ?_
    | refine SC_block ?_
    | refine SC_region ?_
    | refine SL_seq ?_
    | refine SL_move (by decide) (by rfl) ?_
    | refine SL_assign (by decide) (by rfl) ?_
    | refine SL_add (by decide) (by rfl) (by rfl) (by omega) (by omega) ?_
    | refine SL_sub (by decide) (by rfl) (by rfl) (by omega) (by omega) ?_
    | (refine SL_geq (by decide) (by rfl) (by rfl) (fun hT => ?_) (fun hT => ?_) <;> first | (exfalso; omega) | skip)
    | (refine SL_eql (by decide) (by rfl) (by rfl) (fun hT => ?_) (fun hT => ?_) <;> first | (exfalso; omega) | skip)
    | refine SL_load_o (by decide) (by rfl) (by repeat (first | exact .head _ | refine .tail _ ?_)) (rowF (by rfl)) (by first | assumption | rfl | exact ints_getD _ (by omega)) (by rfl) ?_
    | refine SL_alloc (by decide) (zeroF (by rfl)) (fun id hid => ?_)
    | refine SC_cond_t (by rfl) ?_
    | refine SC_cond_f (by rfl) ?_
    | (refine SC_skip' (fun tm σ hE hH => ?_); refine SC.app ?_ hE hH; clear hE hH; clear tm σ)
    | fail)
  all_goals exact SC_ret (fun tm σ hE hH => Post.intro (Hn := []) (.inr rfl) hE hH (by rfl) trivial List.nodup_nil (fun p hp => by cases hp) ⟨_, _, rfl, by omega, hmid, rfl⟩)
theorem partial_fn (a b : Nat) (hab : a < b) (hb : b ≤ n) (h50 : b < a + 50) (hbig : n ≤ 1000) (hnd : l.Nodup) :
    FnC Tryz.prog G 131 [.sl io 0 n none, .s (.int .i64 a), .s (.int .i64 b), cv] ((io, .cells 3 1 ex (ints l)) :: Hx) (fun v Hn => (∃ t, v = .s (.bool t) ∧ (t = true → SortIn lt l a b)) ∧ Hn = []) := by
  have hs : ∀ p, p < n → S (l.getD p 0) := fun p hp => hS _ (getD_mem (by omega))
  have hno : ∀ p q, p < n → q < n → p ≠ q → ¬ lt (l.getD p 0) (l.getD q 0) → lt (l.getD q 0) (l.getD p 0) := fun p q hp hq hpq h => (hcmp.tot _ _ (hs p hp) (hs q hq) (getD_ne hnd (by omega) (by omega) hpq)).resolve_left h
  refine Fn_body (N := 141) (ho _ _ _ (by rfl)) Tryz.func131 rfl rfl fun B => ?_
  refine SC_nd fun hnd0 => ?_
  have hnx := (List.nodup_cons.1 hnd0).2
  have hsx : SubH Hx ((io, AObj.cells 3 1 ex (ints l)) :: Hx) := .of_mem fun p hp => .tail _ hp
  repeat' (first
    | refine SC_seq ?_
    | refine SC_block ?_
    | refine SC_region ?_
    | refine SL_seq ?_
    | refine SL_move (by decide) (by rfl) ?_
    | refine SL_assign (by decide) (by rfl) ?_
    | refine SL_add (by decide) (by rfl) (by rfl) (by omega) (by omega) ?_
    | fail)
  refine SC_loop (fun _ : Unit => [(0, .sl io 0 n none), (1, .s (.int .i64 a)), (2, .s (.int .i64 b)), (3, cv), (9, .s (.int .i64 (a + 1))), (10, .s (.int .i64 0))]) (fun _ => (io, .cells 3 1 ex (ints l)) :: Hx) (fun _ => []) (fun _ => True) (fun _ => 0) () trivial ⟨rfl, rfl, rfl, rfl, rfl, rfl, trivial⟩ (.refl _) hnd0 rfl ?_
  intro _ _
  repeat' (first
    | refine SC_seq ?_
    | refine SC_block ?_
    | refine SC_region ?_
    | refine SL_seq ?_
    | refine SL_move (by decide) (by rfl) ?_
    | (refine SL_lss (by decide) (by rfl) (by rfl) (fun hT => ?_) (fun hT => ?_) <;> first | (exfalso; omega) | skip)
    | refine SC_cond_t (by rfl) ?_
    | (refine SC_skip' (fun tm σ hE hH => ?_); refine SC.app ?_ hE hH; clear hE hH; clear tm σ)
    | fail)
  refine SC_loop (fun k : Nat => [(0, .sl io 0 n none), (1, .s (.int .i64 a)), (2, .s (.int .i64 b)), (3, cv), (9, .s (.int .i64 k)), (10, .s (.int .i64 0))]) (fun _ => (io, .cells 3 1 ex (ints l)) :: Hx) (fun _ => []) (fun k => a + 1 ≤ k ∧ k ≤ b ∧ SortIn lt l a k) (fun k => b - k) (a + 1) ⟨by omega, by omega, fun p q h1 h2 h3 => by omega⟩ ⟨rfl, rfl, rfl, rfl, rfl, rfl, trivial⟩ (.refl _) hnd0 rfl ?_
  rintro k ⟨hk1, hk2, hk3⟩
  by_cases hkb : k < b
  ·
    repeat' (first
      | (refine SD_nil (fun tm σ hE hH => ⟨_, _, _, _, _, rfl, hE, hH, fun _ h => (by cases h), ?_⟩); clear hE hH; clear tm σ; intro tm σ hE hH; refine SC.app ?_ hE hH; clear hE hH; clear tm σ)
      | (refine SL_cmp hcmp (by decide) (by rfl) (by rfl) (by rfl) (by first | exact hS _ (getD_mem (by omega)) | assumption) (by first | exact hS _ (getD_mem (by omega)) | assumption) hsx hnx (fun c hc0 hL => ?_) (fun c hc0 hL => ?_))
      | (refine SL_indexAddr_0 (by decide) (by rfl) (by rfl) (.head _) sl52 k (by omega) (by omega) ?_)
      | (refine SL_indexAddr_0 (by decide) (by rfl) (by rfl) (.head _) sl52 (k - 1) (by omega) (by omega) ?_)
      | (refine SC_drawn (id := 5) (pl := [(0, []), (1, []), (2, []), (3, []), (4, []), (5, []), (6, []), (7, []), (8, []), (9, []), (10, []), (11, []), (12, []), (13, []), (14, []), (15, []), (16, []), (17, [])]) (by kernel_rfl) (by kernel_rfl) ?_; intro B' base hb1 hb2 hb3 hb4)
      | refine SC_seq ?_
      | refine SC_block ?_
      | refine SC_region ?_
      | refine SL_seq ?_
      | refine SL_run (by rfl) (by rfl) ?_
      | refine SL_move (by decide) (by rfl) ?_
      | refine SL_assign (by decide) (by rfl) ?_
      | refine SL_pick_t (by decide) (by rfl) (by rfl) ?_
      | refine SL_not_op (by decide) (by rfl) ?_
      | refine SL_add (by decide) (by rfl) (by rfl) (by omega) (by omega) ?_
      | refine SL_sub (by decide) (by rfl) (by rfl) (by omega) (by omega) ?_
      | (refine SL_lss (by decide) (by rfl) (by rfl) (fun hT => ?_) (fun hT => ?_) <;> first | (exfalso; omega) | skip)
      | (refine SL_eql (by decide) (by rfl) (by rfl) (fun hT => ?_) (fun hT => ?_) <;> first | (exfalso; omega) | skip)
      | refine SL_load_o (by decide) (by rfl) (by repeat (first | exact .head _ | refine .tail _ ?_)) (rowF (by rfl)) (by first | assumption | rfl | exact ints_getD _ (by omega)) (by rfl) ?_
      | refine SC_cond_t (by rfl) ?_
      | refine SC_cond_f (by rfl) ?_
      | (refine SC_exit (fun tm σ hE hH => ?_); refine SC.app ?_ hE hH; clear hE hH; clear tm σ)
      | (refine SC_skip' (fun tm σ hE hH => ?_); refine SC.app ?_ hE hH; clear hE hH; clear tm σ)
      | (refine SL_nil (fun tm σ hE hH => ⟨_, _, _, _, rfl, hE, hH, ?_⟩); clear hE hH; clear tm σ)
      | refine SD_op _ [] (by rfl) (by rfl) (fun _ h => h) (fun p hp => by cases hp) (fun k hk => by cases hk) (.inl rfl) ?_
      | fail)
    · exact SC_ret (fun tm σ hE hH => Post.intro (Hn := []) (.inr rfl) hE hH (by rfl) trivial List.nodup_nil (fun p hp => by cases hp) ⟨⟨_, rfl, fun h => by cases h⟩, rfl⟩)
    · exact SL_nil fun tm σ hE hH => ⟨k + 1, by omega, ⟨by omega, by omega, SortIn.next (fun x y z hx hy hz => hcmp.tr x y z (hS x hx) (hS y hy) (hS z hz)) (by omega) hk3 fun _ => hno _ _ (by omega) (by omega) (by omega) hL⟩, tm, σ, rfl, hE.sub ⟨rfl, rfl, rfl, rfl, rfl, rfl, trivial⟩, hH⟩
  · obtain rfl : k = b := by omega
    repeat' (first
      | (refine SD_nil (fun tm σ hE hH => ⟨_, _, _, _, _, rfl, hE, hH, fun _ h => (by cases h), ?_⟩); clear hE hH; clear tm σ; intro tm σ hE hH; refine SC.app ?_ hE hH; clear hE hH; clear tm σ)
      | (refine SC_drawn (id := 5) (pl := [(0, []), (1, []), (2, []), (3, []), (4, []), (5, []), (6, []), (7, []), (8, []), (9, []), (10, []), (11, []), (12, []), (13, []), (14, []), (15, []), (16, []), (17, [])]) (by kernel_rfl) (by kernel_rfl) ?_; intro B' base hb1 hb2 hb3 hb4)
      | refine SC_seq ?_
      | refine SC_region ?_
      | refine SL_seq ?_
      | refine SL_not (by rfl) (by rfl) (by rfl) (by decide) ?_
      | refine SL_move (by decide) (by rfl) ?_
      | refine SL_assign (by decide) (by rfl) ?_
      | refine SL_pick_f (by decide) (by rfl) (by rfl) ?_
      | (refine SL_lss (by decide) (by rfl) (by rfl) (fun hT => ?_) (fun hT => ?_) <;> first | (exfalso; omega) | skip)
      | (refine SL_eql (by decide) (by rfl) (by rfl) (fun hT => ?_) (fun hT => ?_) <;> first | (exfalso; omega) | skip)
      | refine SC_cond_t (by rfl) ?_
      | refine SC_cond_f (by rfl) ?_
      | (refine SC_exit (fun tm σ hE hH => ?_); refine SC.app ?_ hE hH; clear hE hH; clear tm σ)
      | (refine SL_nil (fun tm σ hE hH => ⟨_, _, _, _, rfl, hE, hH, ?_⟩); clear hE hH; clear tm σ)
      | refine SD_op _ [] (by rfl) (by rfl) (fun _ h => h) (fun p hp => by cases hp) (fun k hk => by cases hk) (.inl rfl) ?_
      | fail)
    exact SC_ret (fun tm σ hE hH => Post.intro (Hn := []) (.inr rfl) hE hH (by rfl) trivial List.nodup_nil (fun p hp => by cases hp) ⟨⟨_, rfl, fun _ => hk3⟩, rfl⟩)
end
end Go.Proofs.YtnhnlkljcfbhfaaGreatDoor.Tb
/- Go's sort by a comparing function: the insertion sort. -/
namespace Go.Proofs.YtnhnlkljcfbhfaaGreatDoor.Tb
open Go Go.Ab
attribute [local irreducible] SC SL wpc wpl wpd wpf wpy wpn FnC FnW RdW SD
set_option maxRecDepth 100000
set_option maxHeartbeats 2000000
def InsC (lt : Int → Int → Prop) (c : List Int) (a i j : Nat) : Prop := ∀ p q, a ≤ p → p < q → q ≤ i → q ≠ j → lt (c.getD p 0) (c.getD q 0)
theorem insC_swap {lt : Int → Int → Prop} {c : List Int} {a i j : Nat} (hin : i < c.length) (hj : a < j) (hji : j ≤ i) (hp : InsC lt c a i j) (hlt : lt (c.getD j 0) (c.getD (j - 1) 0)) : InsC lt (swapL c j (j - 1)) a i (j - 1) := by
  intro p q h0 h1 h2 h3
  rw [swapL_get (by omega) (by omega), swapL_get (by omega) (by omega), if_neg h3]
  by_cases hq : q = j
  · rw [if_pos hq]
    by_cases hp1 : p = j - 1
    · rw [if_pos hp1]; exact hlt
    · rw [if_neg hp1, if_neg (by omega)]
      exact hp p (j - 1) h0 (by omega) (by omega) (by omega)
  · rw [if_neg hq]
    by_cases hp1 : p = j - 1
    · rw [if_pos hp1]; exact hp j q (by omega) (by omega) h2 hq
    · rw [if_neg hp1]
      by_cases hp2 : p = j
      · rw [if_pos hp2]; exact hp (j - 1) q (by omega) (by omega) h2 hq
      · rw [if_neg hp2]; exact hp p q h0 h1 h2 hq
theorem insC_done {lt : Int → Int → Prop} {c : List Int} {a i j : Nat} (hT : ∀ x y z, x ∈ c → y ∈ c → z ∈ c → lt x y → lt y z → lt x z) (hin : i < c.length) (hp : InsC lt c a i j) (hj : j = a ∨ (a < j ∧ j ≤ i ∧ lt (c.getD (j - 1) 0) (c.getD j 0))) : SortIn lt c a (i + 1) := by
  intro p q h0 h1 h2
  by_cases hq : q = j
  · rcases hj with hj | ⟨hj0, hj, hle⟩
    · omega
    · subst hq
      by_cases hp1 : p = q - 1
      · rw [hp1]; exact hle
      · exact hT _ _ _ (getD_mem (by omega)) (getD_mem (i := q - 1) (by omega)) (getD_mem (by omega)) (hp p (q - 1) h0 (by omega) (by omega) (by omega)) hle
  · exact hp p q h0 h1 (by omega) hq
section
variable {G : Gl} (ho : ∀ f x y, offT f = true → G.orc f (x :: y) = none) {cv : AV} {Hx : List (Nat × AObj)} {S : Int → Prop} {lt : Int → Int → Prop} (hcmp : Cmp Tryz.prog G cv Hx S lt) (l : List Int) (n : Nat) (hl : l.length = n) (hS : ∀ x ∈ l, S x) (ex : Bool) (io : Nat)
include ho hcmp hl hS
theorem insC_fn (a b : Nat) (hab : a ≤ b) (hb : b ≤ n) (hbig : n ≤ 1000) (hnd : l.Nodup) :
    FnW Tryz.prog G 126 [.sl io 0 n none, .s (.int .i64 a), .s (.int .i64 b), cv] [io] ((io, .cells 3 1 ex (ints l)) :: Hx) (fun _ Hn => ∃ c : List Int, Hn = [(io, .cells 3 1 ex (ints c))] ∧ PermIn a b l c ∧ SortIn lt c a b) := by
  refine FnW_body (N := 53) (ho _ _ _ (by rfl)) Tryz.func126 rfl rfl fun B => ?_
  refine SC_nd fun hnd0 => ?_
  have hnx := (List.nodup_cons.1 hnd0).2
  repeat' (first
    | refine SC_seq ?_
    | refine SC_block ?_
    | refine SC_region ?_
    | refine SL_seq ?_
    | refine SL_move (by decide) (by rfl) ?_
    | refine SL_assign (by decide) (by rfl) ?_
    | refine SL_add (by decide) (by rfl) (by rfl) (by omega) (by omega) ?_
    | fail)
  refine SC_loop (fun x : Nat × List Int => [(0, .sl io 0 n none), (1, .s (.int .i64 a)), (2, .s (.int .i64 b)), (3, cv), (8, .s (.int .i64 x.1))]) (fun x => (io, .cells 3 1 ex (ints x.2)) :: Hx) (fun _ => []) (fun x => a + 1 ≤ x.1 ∧ (x.1 ≤ b ∨ x.1 = a + 1) ∧ PermIn a b l x.2 ∧ SortIn lt x.2 a x.1) (fun x => b + 1 - x.1) (a + 1, l)
    ⟨by simp, by simp, .refl _ _ _, fun p q h1 h2 h3 => by simp at h3; omega⟩ ⟨rfl, rfl, rfl, rfl, rfl, trivial⟩ (.refl _) hnd0 rfl ?_
  rintro ⟨i, c⟩ ⟨hi1, hi2, hc1, hc2⟩
  dsimp only at hi1 hi2 hc1 hc2 ⊢
  have hcl := hc1.len
  by_cases hilt : i < b
  ·
    repeat' (first
      | refine SC_seq ?_
      | refine SC_block ?_
      | refine SC_region ?_
      | refine SL_seq ?_
      | refine SL_move (by decide) (by rfl) ?_
      | refine SL_assign (by decide) (by rfl) ?_
      | (refine SL_lss (by decide) (by rfl) (by rfl) (fun hT => ?_) (fun hT => ?_) <;> first | (exfalso; omega) | skip)
      | refine SC_cond_t (by rfl) ?_
      | (refine SC_skip' (fun tm σ hE hH => ?_); refine SC.app ?_ hE hH; clear hE hH; clear tm σ)
      | fail)
    refine SC_loop (fun x : Nat × List Int => [(0, .sl io 0 n none), (1, .s (.int .i64 a)), (2, .s (.int .i64 b)), (3, cv), (8, .s (.int .i64 i)), (9, .s (.int .i64 x.1))]) (fun x => (io, .cells 3 1 ex (ints x.2)) :: Hx) (fun _ => []) (fun x => a ≤ x.1 ∧ x.1 ≤ i ∧ PermIn a b l x.2 ∧ InsC lt x.2 a i x.1) (fun x => x.1) (i, c)
      ⟨by show a ≤ i; omega, by simp, hc1, fun p q h1 h2 h3 h4 => hc2 p q h1 h2 (by dsimp only at h4; omega)⟩ ⟨rfl, rfl, rfl, rfl, rfl, rfl, trivial⟩ (.refl _) hnd0 rfl ?_
    rintro ⟨j, c'⟩ ⟨hj0, hj1, hd1, hd2⟩
    dsimp only at hj0 hj1 hd1 hd2 ⊢
    have hdl := hd1.len
    have hSc : ∀ x ∈ c', S x := fun x hx => hS x (hd1.perm.subset hx)
    have hsx : SubH Hx ((io, AObj.cells 3 1 ex (ints c')) :: Hx) := .of_mem fun p hp => .tail _ hp
    have htr : ∀ x y z, x ∈ c' → y ∈ c' → z ∈ c' → lt x y → lt y z → lt x z := fun x y z hx hy hz => hcmp.tr x y z (hSc x hx) (hSc y hy) (hSc z hz)
    by_cases hja : a < j
    · have hcn : c'.Nodup := hd1.perm.symm.nodup hnd
      have hne := getD_ne hcn (p := j) (q := j - 1) (by omega) (by omega) (by omega)
      repeat' (first
        | (refine SD_nil (fun tm σ hE hH => ⟨_, _, _, _, _, rfl, hE, hH, fun _ h => (by cases h), ?_⟩); clear hE hH; clear tm σ; intro tm σ hE hH; refine SC.app ?_ hE hH; clear hE hH; clear tm σ)
        | (refine SL_cmp hcmp (by decide) (by rfl) (by rfl) (by rfl) (hSc _ (getD_mem (by omega))) (hSc _ (getD_mem (by omega))) hsx hnx (fun c hc0 hL => ?_) (fun c hc0 hL => ?_))
        | (refine SL_indexAddr_0 (by decide) (by rfl) (by rfl) (.head _) sl52 j (by omega) (by omega) ?_)
        | (refine SL_indexAddr_0 (by decide) (by rfl) (by rfl) (.head _) sl52 (j - 1) (by omega) (by omega) ?_)
        | (refine SC_drawn (id := 4) (pl := [(0, []), (1, []), (2, []), (3, []), (4, []), (5, []), (6, []), (7, []), (8, []), (9, []), (10, []), (11, []), (12, []), (13, []), (14, []), (15, []), (16, [])]) (by kernel_rfl) (by kernel_rfl) ?_; intro B' base hb1 hb2 hb3 hb4)
        | refine SC_seq ?_
        | refine SC_block ?_
        | refine SC_region ?_
        | (refine SL_nil (fun tm σ hE hH => ?_); refine SC.app ?_ hE hH; clear hE hH; clear tm σ)
        | refine SL_run (by rfl) (by rfl) ?_
        | refine SL_move (by decide) (by rfl) ?_
        | refine SL_assign (by decide) (by rfl) ?_
        | refine SL_pick_t (by decide) (by rfl) (by rfl) ?_
        | refine SL_add (by decide) (by rfl) (by rfl) (by omega) (by omega) ?_
        | refine SL_sub (by decide) (by rfl) (by rfl) (by omega) (by omega) ?_
        | (refine SL_lss (by decide) (by rfl) (by rfl) (fun hT => ?_) (fun hT => ?_) <;> first | (exfalso; omega) | skip)
        | (refine SL_gtr (by decide) (by rfl) (by rfl) (fun hT => ?_) (fun hT => ?_) <;> first | (exfalso; omega) | skip)
        | refine SL_load_o (by decide) (by rfl) (by repeat (first | exact .head _ | refine .tail _ ?_)) (rowF (by rfl)) (by first | assumption | rfl | exact ints_getD _ (by omega) | exact ints_getD _ (by simp only [List.length_set]; omega)) (by rfl) ?_
        | refine SL_store_n (by rfl) (by rfl) (by repeat (first | exact .head _ | refine .tail _ ?_)) (by first | assumption | rfl | exact ints_getD _ (by omega) | exact ints_getD _ (by simp only [List.length_set]; omega)) (by rfl) (by first | exact ints_set _ _ _ _ | rfl) (by repeat (first | exact .head | apply Upd.tail)) (by first | exact .inl (by assumption) | exact .inr (by simp)) (szF (by rfl)) (Nat.le_of_ble_eq_true (by rfl)) (by rfl) ?_
        | refine SC_draw (by kernel_rfl) ?_
        | refine SC_cond_t (by rfl) ?_
        | refine SC_cond_f (by rfl) ?_
        | (refine SC_exit (fun tm σ hE hH => ?_); refine SC.app ?_ hE hH; clear hE hH; clear tm σ)
        | (refine SC_skip' (fun tm σ hE hH => ?_); refine SC.app ?_ hE hH; clear hE hH; clear tm σ)
        | (refine SL_nil (fun tm σ hE hH => ⟨_, _, _, _, rfl, hE, hH, ?_⟩); clear hE hH; clear tm σ)
        | refine SD_op _ [] (by rfl) (by rfl) (fun _ h => h) (fun p hp => by cases hp) (fun k hk => by cases hk) (.inl rfl) ?_
        | fail)
      · refine SL_nil fun tm σ hE hH => ⟨(j - 1, swapL c' j (j - 1)), by show j - 1 < j; omega, ⟨by show a ≤ j - 1; omega, by show j - 1 ≤ i; omega, hd1.swap (by omega) (by omega) (by omega) (by omega) (by omega), insC_swap (by omega) hja hj1 hd2 hL⟩, tm, σ, rfl, hE.sub ⟨rfl, rfl, rfl, rfl, rfl, ?_, trivial⟩, hH⟩
        show some _ = some (AV.s (Value.int IntKind.i64 ((j - 1 : Nat) : Int)))
        rw [show ((j - 1 : Nat) : Int) = ↑j - 1 by omega]
      · refine SL_nil fun tm σ hE hH => ⟨(i + 1, c'), by show b + 1 - (i + 1) < b + 1 - i; omega, ⟨by show a + 1 ≤ i + 1; omega, .inl (by show i + 1 ≤ b; omega), hd1, insC_done htr (show i < c'.length by omega) hd2 (.inr ⟨hja, hj1, ?_⟩)⟩, tm, σ, rfl, hE.sub ⟨rfl, rfl, rfl, rfl, rfl, trivial⟩, hH⟩
        exact (hcmp.tot _ _ (hSc _ (getD_mem (by omega))) (hSc _ (getD_mem (by omega))) hne).resolve_left hL
    · obtain rfl : j = a := by omega
      repeat' (first
        | (refine SD_nil (fun tm σ hE hH => ⟨_, _, _, _, _, rfl, hE, hH, fun _ h => (by cases h), ?_⟩); clear hE hH; clear tm σ; intro tm σ hE hH; refine SC.app ?_ hE hH; clear hE hH; clear tm σ)
        | (refine SC_drawn (id := 4) (pl := [(0, []), (1, []), (2, []), (3, []), (4, []), (5, []), (6, []), (7, []), (8, []), (9, []), (10, []), (11, []), (12, []), (13, []), (14, []), (15, []), (16, [])]) (by kernel_rfl) (by kernel_rfl) ?_; intro B' base hb1 hb2 hb3 hb4)
        | refine SC_seq ?_
        | refine SC_region ?_
        | refine SL_not (by rfl) (by rfl) (by rfl) (by decide) ?_
        | refine SL_move (by decide) (by rfl) ?_
        | refine SL_assign (by decide) (by rfl) ?_
        | refine SL_pick_f (by decide) (by rfl) (by rfl) ?_
        | refine SL_add (by decide) (by rfl) (by rfl) (by omega) (by omega) ?_
        | (refine SL_gtr (by decide) (by rfl) (by rfl) (fun hT => ?_) (fun hT => ?_) <;> first | (exfalso; omega) | skip)
        | refine SC_cond_f (by rfl) ?_
        | (refine SC_exit (fun tm σ hE hH => ?_); refine SC.app ?_ hE hH; clear hE hH; clear tm σ)
        | (refine SL_nil (fun tm σ hE hH => ⟨_, _, _, _, rfl, hE, hH, ?_⟩); clear hE hH; clear tm σ)
        | refine SD_op _ [] (by rfl) (by rfl) (fun _ h => h) (fun p hp => by cases hp) (fun k hk => by cases hk) (.inl rfl) ?_
        | fail)
      exact SL_nil fun tm σ hE hH => ⟨(i + 1, c'), by show b + 1 - (i + 1) < b + 1 - i; omega, ⟨by show j + 1 ≤ i + 1; omega, .inl (by show i + 1 ≤ b; omega), hd1, insC_done htr (show i < c'.length by omega) hd2 (.inl rfl)⟩, tm, σ, rfl, hE.sub ⟨rfl, rfl, rfl, rfl, rfl, trivial⟩, hH⟩
  ·
    repeat' (first
      | refine SC_seq ?_
      | refine SC_region ?_
      | refine SL_seq ?_
      | refine SL_move (by decide) (by rfl) ?_
      | (refine SL_lss (by decide) (by rfl) (by rfl) (fun hT => ?_) (fun hT => ?_) <;> first | (exfalso; omega) | skip)
      | refine SC_cond_f (by rfl) ?_
      | fail)
    refine SC_exit (fun tm σ hE hH => ?_)
    refine PostW.intro (vs := []) (Hn := [(io, _)]) (.inl rfl) hE hH (by rfl) ⟨.head _, trivial⟩ (by simp) (fun p hp => .inl (by simp at hp; simp [hp])) ⟨c, rfl, hc1, fun p q h1 h2 h3 => hc2 p q h1 h2 (by omega)⟩
end
end Go.Proofs.YtnhnlkljcfbhfaaGreatDoor.Tb
/- Go's sort by a comparing function: the partition. -/
namespace Go.Proofs.YtnhnlkljcfbhfaaGreatDoor.Tb
open Go Go.Ab
attribute [local irreducible] SC SL wpc wpl wpd wpf wpy wpn FnC FnW RdW SD
set_option maxRecDepth 100000
set_option maxHeartbeats 2000000
abbrev LP (io n a b pv : Nat) (cv : AV) (i j : Nat) : List (Nat × AV) := [(0, .sl io 0 n none), (1, .s (.int .i64 a)), (2, .s (.int .i64 b)), (3, .s (.int .i64 pv)), (4, cv), (12, .s (.int .i64 i)), (13, .s (.int .i64 j))]
abbrev HP (io : Nat) (ex : Bool) (Hx : List (Nat × AObj)) (c : List Int) : List (Nat × AObj) := (io, .cells 3 1 ex (ints c)) :: Hx
theorem predN {j : Nat} (h : 1 ≤ j) : some (AV.s (.int .i64 ((j : Int) - 1))) = some (AV.s (.int .i64 ((j - 1 : Nat) : Int))) := by rw [show ((j - 1 : Nat) : Int) = ↑j - 1 by omega]
structure Part (lt : Int → Int → Prop) (l : List Int) (a b pv : Nat) (c : List Int) (i j : Nat) : Prop where
  perm : PermIn a b l c
  piv : c.getD a 0 = l.getD pv 0
  lo : a + 1 ≤ i
  hi : j < b
  ij : i ≤ j + 1
  left : ∀ p, a < p → p < i → lt (c.getD p 0) (c.getD a 0)
  right : ∀ p, j < p → p < b → ¬ lt (c.getD p 0) (c.getD a 0)
section
variable {lt : Int → Int → Prop} {l c : List Int} {a b pv i j : Nat}
theorem Part.up (h : Part lt l a b pv c i j) (hij : i ≤ j) (hl : lt (c.getD i 0) (c.getD a 0)) : Part lt l a b pv c (i + 1) j :=
  ⟨h.perm, h.piv, by have := h.lo; omega, h.hi, by omega, fun p h1 h2 => by
    by_cases e : p = i
    · rw [e]; exact hl
    · exact h.left p h1 (by omega), h.right⟩
theorem Part.down (h : Part lt l a b pv c i j) (hij : i ≤ j) (hl : ¬ lt (c.getD j 0) (c.getD a 0)) : Part lt l a b pv c i (j - 1) :=
  ⟨h.perm, h.piv, h.lo, by have := h.hi; omega, by have := h.lo; omega, h.left, fun p h1 h2 => by
    by_cases e : p = j
    · rw [e]; exact hl
    · exact h.right p (by omega) h2⟩
theorem Part.swap (h : Part lt l a b pv c i j) (hb : b ≤ l.length) (hij : i ≤ j) (h1 : ¬ lt (c.getD i 0) (c.getD a 0)) (h2 : lt (c.getD j 0) (c.getD a 0)) : i < j ∧ Part lt l a b pv (swapL c i j) (i + 1) (j - 1) := by
  have hlo := h.lo
  have hhi := h.hi
  have hlen := h.perm.len
  have hne : i ≠ j := fun e => h1 (by rw [e]; exact h2)
  refine ⟨by omega, h.perm.swap (by omega) (by omega) (by omega) (by omega) (by omega), ?_, by omega, by omega, by omega, fun p h3 h4 => ?_, fun p h3 h4 => ?_⟩
  · rw [swapL_get (by omega) (by omega), if_neg (by omega), if_neg (by omega)]; exact h.piv
  · rw [swapL_get (by omega) (by omega), swapL_get (by omega) (by omega), if_neg (show ¬ a = j by omega), if_neg (show ¬ a = i by omega), if_neg (show ¬ p = j by omega)]
    by_cases e : p = i
    · rw [if_pos e]; exact h2
    · rw [if_neg e]; exact h.left p h3 (by omega)
  · rw [swapL_get (by omega) (by omega), swapL_get (by omega) (by omega), if_neg (show ¬ a = j by omega), if_neg (show ¬ a = i by omega)]
    by_cases e : p = j
    · rw [if_pos e]; exact h1
    · rw [if_neg e, if_neg (show ¬ p = i by omega)]; exact h.right p (by omega) h4
structure Parted (lt : Int → Int → Prop) (l : List Int) (a b pv : Nat) (c : List Int) (mid : Nat) : Prop where
  perm : PermIn a b l c
  lo : a ≤ mid
  hi : mid < b
  piv : c.getD mid 0 = l.getD pv 0
  left : ∀ p, a ≤ p → p < mid → lt (c.getD p 0) (c.getD mid 0)
  right : ∀ p, mid < p → p < b → lt (c.getD mid 0) (c.getD p 0)
theorem Part.done (h : Part lt l a b pv c i j) (hb : b ≤ l.length) (hij : ¬ i ≤ j) (htot : ∀ p q, p < l.length → q < l.length → p ≠ q → ¬ lt (c.getD p 0) (c.getD q 0) → lt (c.getD q 0) (c.getD p 0)) : Parted lt l a b pv (swapL c j a) j := by
  have hlo := h.lo
  have hhi := h.hi
  have hlen := h.perm.len
  have hji := h.ij
  refine ⟨h.perm.swap (by omega) (by omega) (by omega) (by omega) (by omega), by omega, hhi, ?_, fun p h3 h4 => ?_, fun p h3 h4 => ?_⟩
  · rw [swapL_get (by omega) (by omega), ← h.piv]
    by_cases e : j = a
    · rw [if_pos e, e]
    · rw [if_neg e, if_pos rfl]
  · rw [swapL_get (by omega) (by omega), swapL_get (by omega) (by omega), if_neg (show ¬ j = a by omega), if_pos rfl]
    by_cases e : p = a
    · rw [if_pos e]; exact h.left j (by omega) (by omega)
    · rw [if_neg e, if_neg (show ¬ p = j by omega)]; exact h.left p (by omega) (by omega)
  · rw [swapL_get (by omega) (by omega), swapL_get (by omega) (by omega), if_neg (show ¬ p = a by omega), if_neg (show ¬ p = j by omega)]
    have hr := htot p a (by omega) (by omega) (by omega) (h.right p h3 h4)
    by_cases e : j = a
    · rw [if_pos e, e]; exact hr
    · rw [if_neg e, if_pos rfl]; exact hr
end
section
variable {G : Gl} (ho : ∀ f x y, offT f = true → G.orc f (x :: y) = none) {cv : AV} {Hx : List (Nat × AObj)} {S : Int → Prop} {lt : Int → Int → Prop} (hcmp : Cmp Tryz.prog G cv Hx S lt) (l : List Int) (n : Nat) (hl : l.length = n) (hS : ∀ x ∈ l, S x) (ex : Bool) (io : Nat)
include ho hcmp hl hS
theorem partition_fn (a b pv : Nat) (hap : a ≤ pv) (hpb : pv < b) (hab : a + 2 ≤ b) (hb : b ≤ n) (hbig : n ≤ 1000) (hnd : l.Nodup) :
    FnW Tryz.prog G 133 [.sl io 0 n none, .s (.int .i64 a), .s (.int .i64 b), .s (.int .i64 pv), cv] [io] ((io, .cells 3 1 ex (ints l)) :: Hx) (fun v Hn => ∃ (mid : Nat) (t : Bool) (c : List Int), v = .s (.tuple #[.int .i64 mid, .bool t]) ∧ Hn = [(io, .cells 3 1 ex (ints c))] ∧ Parted lt l a b pv c mid) := by
  refine FnW_body (N := 178) (ho _ _ _ (by rfl)) Tryz.func133 rfl rfl fun B => ?_
  refine SC_nd fun hnd0 => ?_
  have hnx := (List.nodup_cons.1 hnd0).2
  have htot : ∀ c, PermIn a b l c → ∀ p q, p < l.length → q < l.length → p ≠ q → ¬ lt (c.getD p 0) (c.getD q 0) → lt (c.getD q 0) (c.getD p 0) := fun c hc p q hp hq hpq h =>
    (hcmp.tot _ _ (hS _ (hc.perm.subset (getD_mem (by rw [hc.len]; exact hp)))) (hS _ (hc.perm.subset (getD_mem (by rw [hc.len]; exact hq)))) (getD_ne (hc.perm.symm.nodup hnd) (by rw [hc.len]; exact hp) (by rw [hc.len]; exact hq) hpq)).resolve_left h
  have hstart : Part lt l a b pv (swapL l a pv) (a + 1) (b - 1) := ⟨(PermIn.refl a b l).swap (by omega) (by omega) hap hpb (by omega), by
    rw [swapL_get (by omega) (by omega)]
    by_cases e : a = pv
    · rw [if_pos e, e]
    · rw [if_neg e, if_pos rfl], by omega, by omega, by omega, fun p h1 h2 => by omega, fun p h1 h2 => by omega⟩
  have hlen : ∀ c, PermIn a b l c → c.length = n := fun c hc => by rw [hc.len, hl]
  have hSc0 : ∀ c, PermIn a b l c → ∀ x ∈ c, S x := fun c hc x hx => hS x (hc.perm.subset hx)
  have hsx0 : ∀ c, SubH Hx (HP io ex Hx c) := fun c => .of_mem fun p hp => .tail _ hp
  generalize hc1 : swapL l a pv = c1 at hstart
  repeat' (first
    | refine SC_seq ?_
    | refine SC_block ?_
    | refine SC_region ?_
    | refine SL_seq ?_
    | refine SL_move (by decide) (by rfl) ?_
    | refine SL_assign (by decide) (by rfl) ?_
    | refine SL_add (by decide) (by rfl) (by rfl) (by omega) (by omega) ?_
    | refine SL_sub (by decide) (by rfl) (by rfl) (by omega) (by omega) ?_
    | refine SL_indexAddr_0 (by decide) (by rfl) (by rfl) (by repeat (first | exact .head _ | refine .tail _ ?_)) (slF (by rfl)) _ (by first | rfl | exact (Int.toNat_of_nonneg (by omega)).symm) (by omega) ?_
    | refine SL_load_o (by decide) (by rfl) (by repeat (first | exact .head _ | refine .tail _ ?_)) (rowF (by rfl)) (by first | assumption | rfl | exact ints_getD _ (by omega) | exact ints_getD _ (by simp only [List.length_set]; omega)) (by rfl) ?_
    | refine SL_store_n (by rfl) (by rfl) (by repeat (first | exact .head _ | refine .tail _ ?_)) (by first | assumption | rfl | exact ints_getD _ (by omega) | exact ints_getD _ (by simp only [List.length_set]; omega)) (by rfl) (by first | exact ints_set _ _ _ _ | rfl) (by repeat (first | exact .head | apply Upd.tail)) (by first | exact .inl (by assumption) | exact .inr (by simp)) (szF (by rfl)) (Nat.le_of_ble_eq_true (by rfl)) (by rfl) ?_
    | refine SC_draw (by kernel_rfl) ?_
    | fail)
  rw [show (l.set a (l.getD pv 0)).set pv (l.getD a 0) = c1 from hc1]
  clear hc1
  refine SC_loop_cut (fun i => LP io n a b pv cv i (b - 1)) (fun _ => HP io ex Hx c1) (fun i => Part lt l a b pv c1 i (b - 1)) (fun i => b - i) (fun i => LP io n a b pv cv i (b - 1)) (fun _ => HP io ex Hx c1) (fun i => Part lt l a b pv c1 i (b - 1) ∧ (i ≤ (b - 1) → ¬ lt (c1.getD i 0) (c1.getD a 0))) (a + 1) hstart ⟨rfl, rfl, rfl, rfl, rfl, rfl, predN (by omega), trivial⟩ (.refl _) hnd0 ?_ ?_
  · intro i hp
    have hlo := hp.lo
    have hcl := hlen _ hp.perm
    have hSc := hSc0 _ hp.perm
    have hsx := hsx0 c1
    by_cases hij : i ≤ b - 1
    ·
      repeat' (first
        | (refine SD_nil (fun tm σ hE hH => ⟨_, _, _, _, _, rfl, hE, hH, fun _ h => (by cases h), ?_⟩); clear hE hH; clear tm σ; intro tm σ hE hH; refine SC.app ?_ hE hH; clear hE hH; clear tm σ)
        | (refine SL_cmp hcmp (by decide) (by rfl) (by rfl) (by rfl) (hSc _ (getD_mem (by omega))) (hSc _ (getD_mem (by omega))) hsx hnx (fun c hc0 hL => ?_) (fun c hc0 hL => ?_))
        | (refine SC_drawn (id := 3) (pl := [(0, []), (1, []), (2, []), (3, []), (4, []), (5, []), (6, []), (7, []), (8, []), (9, []), (10, []), (11, []), (12, []), (13, []), (14, []), (15, [])]) (by kernel_rfl) (by kernel_rfl) ?_; intro B' base hb1 hb2 hb3 hb4)
        | refine SC_seq ?_
        | refine SC_block ?_
        | refine SC_region ?_
        | refine SL_run (by rfl) (by rfl) ?_
        | refine SL_move (by decide) (by rfl) ?_
        | refine SL_assign (by decide) (by rfl) ?_
        | refine SL_pick_t (by decide) (by rfl) (by rfl) ?_
        | refine SL_add (by decide) (by rfl) (by rfl) (by omega) (by omega) ?_
        | (refine SL_lss (by decide) (by rfl) (by rfl) (fun hT => ?_) (fun hT => ?_) <;> first | (exfalso; omega) | skip)
        | (refine SL_leq (by decide) (by rfl) (by rfl) (fun hT => ?_) (fun hT => ?_) <;> first | (exfalso; omega) | skip)
        | refine SL_indexAddr_0 (by decide) (by rfl) (by rfl) (by repeat (first | exact .head _ | refine .tail _ ?_)) (slF (by rfl)) _ (by first | rfl | exact (Int.toNat_of_nonneg (by omega)).symm) (by omega) ?_
        | refine SL_load_o (by decide) (by rfl) (by repeat (first | exact .head _ | refine .tail _ ?_)) (rowF (by rfl)) (by first | assumption | rfl | exact ints_getD _ (by omega) | exact ints_getD _ (by simp only [List.length_set]; omega)) (by rfl) ?_
        | refine SC_cond_t (by rfl) ?_
        | refine SC_cond_f (by rfl) ?_
        | (refine SC_skip' (fun tm σ hE hH => ?_); refine SC.app ?_ hE hH; clear hE hH; clear tm σ)
        | (refine SL_nil (fun tm σ hE hH => ⟨_, _, _, _, rfl, hE, hH, ?_⟩); clear hE hH; clear tm σ)
        | refine SD_op _ [] (by rfl) (by rfl) (fun _ h => h) (fun p hp => by cases hp) (fun k hk => by cases hk) (.inl rfl) ?_
        | fail)
      · exact SL_nil fun tm σ hE hH => ⟨i + 1, by omega, hp.up hij hL, tm, σ, rfl, hE.sub ⟨rfl, rfl, rfl, rfl, rfl, rfl, rfl, trivial⟩, hH⟩
      · exact SC_exit fun tm σ hE hH => ⟨rfl, i, ⟨hp, fun _ => hL⟩, tm, σ, rfl, hE.sub ⟨rfl, rfl, rfl, rfl, rfl, rfl, rfl, trivial⟩, hH⟩
    ·
      repeat' (first
        | (refine SD_nil (fun tm σ hE hH => ⟨_, _, _, _, _, rfl, hE, hH, fun _ h => (by cases h), ?_⟩); clear hE hH; clear tm σ; intro tm σ hE hH; refine SC.app ?_ hE hH; clear hE hH; clear tm σ)
        | (refine SC_drawn (id := 3) (pl := [(0, []), (1, []), (2, []), (3, []), (4, []), (5, []), (6, []), (7, []), (8, []), (9, []), (10, []), (11, []), (12, []), (13, []), (14, []), (15, [])]) (by kernel_rfl) (by kernel_rfl) ?_; intro B' base hb1 hb2 hb3 hb4)
        | refine SC_seq ?_
        | refine SL_not (by rfl) (by rfl) (by rfl) (by decide) ?_
        | refine SL_move (by decide) (by rfl) ?_
        | refine SL_pick_f (by decide) (by rfl) (by rfl) ?_
        | (refine SL_leq (by decide) (by rfl) (by rfl) (fun hT => ?_) (fun hT => ?_) <;> first | (exfalso; omega) | skip)
        | refine SC_cond_f (by rfl) ?_
        | (refine SL_nil (fun tm σ hE hH => ⟨_, _, _, _, rfl, hE, hH, ?_⟩); clear hE hH; clear tm σ)
        | refine SD_op _ [] (by rfl) (by rfl) (fun _ h => h) (fun p hp => by cases hp) (fun k hk => by cases hk) (.inl rfl) ?_
        | fail)
      exact SC_exit fun tm σ hE hH => ⟨rfl, i, ⟨hp, fun h => absurd h hij⟩, tm, σ, rfl, hE.sub ⟨rfl, rfl, rfl, rfl, rfl, rfl, rfl, trivial⟩, hH⟩
  · rintro i ⟨hp0, hi0⟩ tm σ hE hH
    refine SC.app ?_ hE hH
    clear hE hH; clear tm σ
    repeat' (first
      | refine SC_seq ?_
      | refine SC_block ?_
      | fail)
    refine SC_loop_cut (fun j => LP io n a b pv cv i j) (fun _ => HP io ex Hx c1) (fun j => Part lt l a b pv c1 i j) (fun j => j) (fun j => LP io n a b pv cv i j) (fun _ => HP io ex Hx c1) (fun j => Part lt l a b pv c1 i j ∧ (i ≤ j → lt (c1.getD j 0) (c1.getD a 0))) (b - 1) hp0 ⟨rfl, rfl, rfl, rfl, rfl, rfl, rfl, trivial⟩ (.refl _) hnd0 ?_ ?_
    · intro j hp
      have hlo := hp.lo
      have hhi := hp.hi
      have hcl := hlen _ hp.perm
      have hSc := hSc0 _ hp.perm
      have hsx := hsx0 c1
      by_cases hij : i ≤ j
      ·
        repeat' (first
          | (refine SD_nil (fun tm σ hE hH => ⟨_, _, _, _, _, rfl, hE, hH, fun _ h => (by cases h), ?_⟩); clear hE hH; clear tm σ; intro tm σ hE hH; refine SC.app ?_ hE hH; clear hE hH; clear tm σ)
          | (refine SL_cmp hcmp (by decide) (by rfl) (by rfl) (by rfl) (hSc _ (getD_mem (by omega))) (hSc _ (getD_mem (by omega))) hsx hnx (fun c hc0 hL => ?_) (fun c hc0 hL => ?_))
          | (refine SC_drawn (id := 5) (pl := [(0, []), (1, []), (2, []), (3, []), (4, []), (5, []), (6, []), (7, []), (8, []), (9, []), (10, []), (11, []), (12, []), (13, []), (14, []), (15, []), (16, [])]) (by kernel_rfl) (by kernel_rfl) ?_; intro B' base hb1 hb2 hb3 hb4)
          | refine SC_seq ?_
          | refine SC_block ?_
          | refine SC_region ?_
          | refine SL_run (by rfl) (by rfl) ?_
          | refine SL_move (by decide) (by rfl) ?_
          | refine SL_assign (by decide) (by rfl) ?_
          | refine SL_pick_t (by decide) (by rfl) (by rfl) ?_
          | refine SL_not_op (by decide) (by rfl) ?_
          | refine SL_sub (by decide) (by rfl) (by rfl) (by omega) (by omega) ?_
          | (refine SL_lss (by decide) (by rfl) (by rfl) (fun hT => ?_) (fun hT => ?_) <;> first | (exfalso; omega) | skip)
          | (refine SL_leq (by decide) (by rfl) (by rfl) (fun hT => ?_) (fun hT => ?_) <;> first | (exfalso; omega) | skip)
          | refine SL_indexAddr_0 (by decide) (by rfl) (by rfl) (by repeat (first | exact .head _ | refine .tail _ ?_)) (slF (by rfl)) _ (by first | rfl | exact (Int.toNat_of_nonneg (by omega)).symm) (by omega) ?_
          | refine SL_load_o (by decide) (by rfl) (by repeat (first | exact .head _ | refine .tail _ ?_)) (rowF (by rfl)) (by first | assumption | rfl | exact ints_getD _ (by omega) | exact ints_getD _ (by simp only [List.length_set]; omega)) (by rfl) ?_
          | refine SC_cond_t (by rfl) ?_
          | refine SC_cond_f (by rfl) ?_
          | (refine SC_skip' (fun tm σ hE hH => ?_); refine SC.app ?_ hE hH; clear hE hH; clear tm σ)
          | (refine SL_nil (fun tm σ hE hH => ⟨_, _, _, _, rfl, hE, hH, ?_⟩); clear hE hH; clear tm σ)
          | refine SD_op _ [] (by rfl) (by rfl) (fun _ h => h) (fun p hp => by cases hp) (fun k hk => by cases hk) (.inl rfl) ?_
          | fail)
        · exact SC_exit fun tm σ hE hH => ⟨rfl, j, ⟨hp, fun _ => hL⟩, tm, σ, rfl, hE.sub ⟨rfl, rfl, rfl, rfl, rfl, rfl, rfl, trivial⟩, hH⟩
        · exact SL_nil fun tm σ hE hH => ⟨j - 1, by omega, hp.down hij hL, tm, σ, rfl, hE.sub ⟨rfl, rfl, rfl, rfl, rfl, rfl, predN (by omega), trivial⟩, hH⟩
      ·
        repeat' (first
          | (refine SD_nil (fun tm σ hE hH => ⟨_, _, _, _, _, rfl, hE, hH, fun _ h => (by cases h), ?_⟩); clear hE hH; clear tm σ; intro tm σ hE hH; refine SC.app ?_ hE hH; clear hE hH; clear tm σ)
          | (refine SC_drawn (id := 5) (pl := [(0, []), (1, []), (2, []), (3, []), (4, []), (5, []), (6, []), (7, []), (8, []), (9, []), (10, []), (11, []), (12, []), (13, []), (14, []), (15, []), (16, [])]) (by kernel_rfl) (by kernel_rfl) ?_; intro B' base hb1 hb2 hb3 hb4)
          | refine SC_seq ?_
          | refine SL_not (by rfl) (by rfl) (by rfl) (by decide) ?_
          | refine SL_move (by decide) (by rfl) ?_
          | refine SL_pick_f (by decide) (by rfl) (by rfl) ?_
          | (refine SL_leq (by decide) (by rfl) (by rfl) (fun hT => ?_) (fun hT => ?_) <;> first | (exfalso; omega) | skip)
          | refine SC_cond_f (by rfl) ?_
          | (refine SL_nil (fun tm σ hE hH => ⟨_, _, _, _, rfl, hE, hH, ?_⟩); clear hE hH; clear tm σ)
          | refine SD_op _ [] (by rfl) (by rfl) (fun _ h => h) (fun p hp => by cases hp) (fun k hk => by cases hk) (.inl rfl) ?_
          | fail)
        exact SC_exit fun tm σ hE hH => ⟨rfl, j, ⟨hp, fun h => absurd h hij⟩, tm, σ, rfl, hE.sub ⟨rfl, rfl, rfl, rfl, rfl, rfl, rfl, trivial⟩, hH⟩
    · rintro j ⟨hp, hj0⟩ tm σ hE hH
      refine SC.app ?_ hE hH
      clear hE hH; clear tm σ
      have hlo := hp.lo
      have hhi := hp.hi
      have hji := hp.ij
      have hcl := hlen _ hp.perm
      by_cases hij : i ≤ j
      · obtain ⟨hlt, hps⟩ := hp.swap (by omega) hij (hi0 (by omega)) (hj0 hij)
        generalize hc2 : swapL c1 i j = c2 at hps
        repeat' (first
          | refine SC_seq ?_
          | refine SC_block ?_
          | refine SC_region ?_
          | refine SL_seq ?_
          | refine SL_move (by decide) (by rfl) ?_
          | refine SL_assign (by decide) (by rfl) ?_
          | refine SL_add (by decide) (by rfl) (by rfl) (by omega) (by omega) ?_
          | refine SL_sub (by decide) (by rfl) (by rfl) (by omega) (by omega) ?_
          | (refine SL_gtr (by decide) (by rfl) (by rfl) (fun hT => ?_) (fun hT => ?_) <;> first | (exfalso; omega) | skip)
          | refine SL_indexAddr_0 (by decide) (by rfl) (by rfl) (by repeat (first | exact .head _ | refine .tail _ ?_)) (slF (by rfl)) _ (by first | rfl | exact (Int.toNat_of_nonneg (by omega)).symm) (by omega) ?_
          | refine SL_load_o (by decide) (by rfl) (by repeat (first | exact .head _ | refine .tail _ ?_)) (rowF (by rfl)) (by first | assumption | rfl | exact ints_getD _ (by omega) | exact ints_getD _ (by simp only [List.length_set]; omega)) (by rfl) ?_
          | refine SL_store_n (by rfl) (by rfl) (by repeat (first | exact .head _ | refine .tail _ ?_)) (by first | assumption | rfl | exact ints_getD _ (by omega) | exact ints_getD _ (by simp only [List.length_set]; omega)) (by rfl) (by first | exact ints_set _ _ _ _ | rfl) (by repeat (first | exact .head | apply Upd.tail)) (by first | exact .inl (by assumption) | exact .inr (by simp)) (szF (by rfl)) (Nat.le_of_ble_eq_true (by rfl)) (by rfl) ?_
          | refine SC_draw (by kernel_rfl) ?_
          | refine SC_cond_f (by rfl) ?_
          | (refine SC_skip' (fun tm σ hE hH => ?_); refine SC.app ?_ hE hH; clear hE hH; clear tm σ)
          | fail)
        rw [show (c1.set i (c1.getD j 0)).set j (c1.getD i 0) = c2 from hc2]
        clear hc2
        refine SC_loop_cut (fun x : Nat × Nat × List Int => LP io n a b pv cv x.1 x.2.1) (fun x => HP io ex Hx x.2.2) (fun x => Part lt l a b pv x.2.2 x.1 x.2.1) (fun x => x.2.1 + 1 - x.1) (fun x : Nat × Nat × List Int => LP io n a b pv cv x.1 x.2.1) (fun x => HP io ex Hx x.2.2) (fun x => Part lt l a b pv x.2.2 x.1 x.2.1 ∧ ¬ x.1 ≤ x.2.1) (i + 1, j - 1, c2) hps ⟨rfl, rfl, rfl, rfl, rfl, rfl, predN (by omega), trivial⟩ (.refl _) hnd0 ?_ ?_
        · rintro ⟨i0, j0, c⟩ hp1
          dsimp only at hp1 ⊢
          have hcl1 := hlen _ hp1.perm
          have hSc := hSc0 _ hp1.perm
          have hsx := hsx0 c
          have hhi1 := hp1.hi
          repeat' (first
            | refine SC_seq ?_
            | refine SC_block ?_
            | fail)
          refine SC_loop_cut (fun i => LP io n a b pv cv i j0) (fun _ => HP io ex Hx c) (fun i => Part lt l a b pv c i j0 ∧ i0 ≤ i) (fun i => b - i) (fun i => LP io n a b pv cv i j0) (fun _ => HP io ex Hx c) (fun i => (Part lt l a b pv c i j0 ∧ i0 ≤ i) ∧ (i ≤ j0 → ¬ lt (c.getD i 0) (c.getD a 0))) i0 ⟨hp1, Nat.le_refl _⟩ ⟨rfl, rfl, rfl, rfl, rfl, rfl, rfl, trivial⟩ (.refl _) hnd0 ?_ ?_
          · rintro i ⟨hp, hii⟩
            have hlo := hp.lo
            by_cases hij : i ≤ j0
            ·
              repeat' (first
                | (refine SD_nil (fun tm σ hE hH => ⟨_, _, _, _, _, rfl, hE, hH, fun _ h => (by cases h), ?_⟩); clear hE hH; clear tm σ; intro tm σ hE hH; refine SC.app ?_ hE hH; clear hE hH; clear tm σ)
                | (refine SL_cmp hcmp (by decide) (by rfl) (by rfl) (by rfl) (hSc _ (getD_mem (by omega))) (hSc _ (getD_mem (by omega))) hsx hnx (fun c hc0 hL => ?_) (fun c hc0 hL => ?_))
                | (refine SC_drawn (id := 13) (pl := [(0, []), (1, []), (2, []), (3, []), (4, []), (5, []), (6, []), (7, []), (8, []), (9, []), (10, []), (11, []), (12, []), (13, []), (14, []), (15, [])]) (by kernel_rfl) (by kernel_rfl) ?_; intro B' base hb1 hb2 hb3 hb4)
                | refine SC_seq ?_
                | refine SC_block ?_
                | refine SC_region ?_
                | refine SL_run (by rfl) (by rfl) ?_
                | refine SL_move (by decide) (by rfl) ?_
                | refine SL_assign (by decide) (by rfl) ?_
                | refine SL_pick_t (by decide) (by rfl) (by rfl) ?_
                | refine SL_add (by decide) (by rfl) (by rfl) (by omega) (by omega) ?_
                | (refine SL_lss (by decide) (by rfl) (by rfl) (fun hT => ?_) (fun hT => ?_) <;> first | (exfalso; omega) | skip)
                | (refine SL_leq (by decide) (by rfl) (by rfl) (fun hT => ?_) (fun hT => ?_) <;> first | (exfalso; omega) | skip)
                | refine SL_indexAddr_0 (by decide) (by rfl) (by rfl) (by repeat (first | exact .head _ | refine .tail _ ?_)) (slF (by rfl)) _ (by first | rfl | exact (Int.toNat_of_nonneg (by omega)).symm) (by omega) ?_
                | refine SL_load_o (by decide) (by rfl) (by repeat (first | exact .head _ | refine .tail _ ?_)) (rowF (by rfl)) (by first | assumption | rfl | exact ints_getD _ (by omega) | exact ints_getD _ (by simp only [List.length_set]; omega)) (by rfl) ?_
                | refine SC_cond_t (by rfl) ?_
                | refine SC_cond_f (by rfl) ?_
                | (refine SC_skip' (fun tm σ hE hH => ?_); refine SC.app ?_ hE hH; clear hE hH; clear tm σ)
                | (refine SL_nil (fun tm σ hE hH => ⟨_, _, _, _, rfl, hE, hH, ?_⟩); clear hE hH; clear tm σ)
                | refine SD_op _ [] (by rfl) (by rfl) (fun _ h => h) (fun p hp => by cases hp) (fun k hk => by cases hk) (.inl rfl) ?_
                | fail)
              · exact SL_nil fun tm σ hE hH => ⟨i + 1, by omega, ⟨hp.up hij hL, by omega⟩, tm, σ, rfl, hE.sub ⟨rfl, rfl, rfl, rfl, rfl, rfl, rfl, trivial⟩, hH⟩
              · exact SC_exit fun tm σ hE hH => ⟨rfl, i, ⟨⟨hp, hii⟩, fun _ => hL⟩, tm, σ, rfl, hE.sub ⟨rfl, rfl, rfl, rfl, rfl, rfl, rfl, trivial⟩, hH⟩
            ·
              repeat' (first
                | (refine SD_nil (fun tm σ hE hH => ⟨_, _, _, _, _, rfl, hE, hH, fun _ h => (by cases h), ?_⟩); clear hE hH; clear tm σ; intro tm σ hE hH; refine SC.app ?_ hE hH; clear hE hH; clear tm σ)
                | (refine SC_drawn (id := 13) (pl := [(0, []), (1, []), (2, []), (3, []), (4, []), (5, []), (6, []), (7, []), (8, []), (9, []), (10, []), (11, []), (12, []), (13, []), (14, []), (15, [])]) (by kernel_rfl) (by kernel_rfl) ?_; intro B' base hb1 hb2 hb3 hb4)
                | refine SC_seq ?_
                | refine SL_not (by rfl) (by rfl) (by rfl) (by decide) ?_
                | refine SL_move (by decide) (by rfl) ?_
                | refine SL_pick_f (by decide) (by rfl) (by rfl) ?_
                | (refine SL_leq (by decide) (by rfl) (by rfl) (fun hT => ?_) (fun hT => ?_) <;> first | (exfalso; omega) | skip)
                | refine SC_cond_f (by rfl) ?_
                | (refine SL_nil (fun tm σ hE hH => ⟨_, _, _, _, rfl, hE, hH, ?_⟩); clear hE hH; clear tm σ)
                | refine SD_op _ [] (by rfl) (by rfl) (fun _ h => h) (fun p hp => by cases hp) (fun k hk => by cases hk) (.inl rfl) ?_
                | fail)
              exact SC_exit fun tm σ hE hH => ⟨rfl, i, ⟨⟨hp, hii⟩, fun h => absurd h hij⟩, tm, σ, rfl, hE.sub ⟨rfl, rfl, rfl, rfl, rfl, rfl, rfl, trivial⟩, hH⟩
          · rintro i1 ⟨⟨hp2, hii⟩, hi2⟩ tm σ hE hH
            refine SC.app ?_ hE hH
            clear hE hH; clear tm σ
            have hlo2 := hp2.lo
            repeat' (first
              | refine SC_seq ?_
              | refine SC_block ?_
              | fail)
            refine SC_loop_cut (fun j => LP io n a b pv cv i1 j) (fun _ => HP io ex Hx c) (fun j => Part lt l a b pv c i1 j ∧ j ≤ j0) (fun j => j) (fun j => LP io n a b pv cv i1 j) (fun _ => HP io ex Hx c) (fun j => (Part lt l a b pv c i1 j ∧ j ≤ j0) ∧ (i1 ≤ j → lt (c.getD j 0) (c.getD a 0))) j0 ⟨hp2, Nat.le_refl _⟩ ⟨rfl, rfl, rfl, rfl, rfl, rfl, rfl, trivial⟩ (.refl _) hnd0 ?_ ?_
            · rintro j ⟨hp, hjj⟩
              have hlo := hp.lo
              have hhi := hp.hi
              by_cases hij : i1 ≤ j
              ·
                repeat' (first
                  | (refine SD_nil (fun tm σ hE hH => ⟨_, _, _, _, _, rfl, hE, hH, fun _ h => (by cases h), ?_⟩); clear hE hH; clear tm σ; intro tm σ hE hH; refine SC.app ?_ hE hH; clear hE hH; clear tm σ)
                  | (refine SL_cmp hcmp (by decide) (by rfl) (by rfl) (by rfl) (hSc _ (getD_mem (by omega))) (hSc _ (getD_mem (by omega))) hsx hnx (fun c hc0 hL => ?_) (fun c hc0 hL => ?_))
                  | (refine SC_drawn (id := 15) (pl := [(0, []), (1, []), (2, []), (3, []), (4, []), (5, []), (6, []), (7, []), (8, []), (9, []), (10, []), (11, []), (12, []), (13, []), (14, []), (15, []), (16, [])]) (by kernel_rfl) (by kernel_rfl) ?_; intro B' base hb1 hb2 hb3 hb4)
                  | refine SC_seq ?_
                  | refine SC_block ?_
                  | refine SC_region ?_
                  | refine SL_run (by rfl) (by rfl) ?_
                  | refine SL_move (by decide) (by rfl) ?_
                  | refine SL_assign (by decide) (by rfl) ?_
                  | refine SL_pick_t (by decide) (by rfl) (by rfl) ?_
                  | refine SL_not_op (by decide) (by rfl) ?_
                  | refine SL_sub (by decide) (by rfl) (by rfl) (by omega) (by omega) ?_
                  | (refine SL_lss (by decide) (by rfl) (by rfl) (fun hT => ?_) (fun hT => ?_) <;> first | (exfalso; omega) | skip)
                  | (refine SL_leq (by decide) (by rfl) (by rfl) (fun hT => ?_) (fun hT => ?_) <;> first | (exfalso; omega) | skip)
                  | refine SL_indexAddr_0 (by decide) (by rfl) (by rfl) (by repeat (first | exact .head _ | refine .tail _ ?_)) (slF (by rfl)) _ (by first | rfl | exact (Int.toNat_of_nonneg (by omega)).symm) (by omega) ?_
                  | refine SL_load_o (by decide) (by rfl) (by repeat (first | exact .head _ | refine .tail _ ?_)) (rowF (by rfl)) (by first | assumption | rfl | exact ints_getD _ (by omega) | exact ints_getD _ (by simp only [List.length_set]; omega)) (by rfl) ?_
                  | refine SC_cond_t (by rfl) ?_
                  | refine SC_cond_f (by rfl) ?_
                  | (refine SC_skip' (fun tm σ hE hH => ?_); refine SC.app ?_ hE hH; clear hE hH; clear tm σ)
                  | (refine SL_nil (fun tm σ hE hH => ⟨_, _, _, _, rfl, hE, hH, ?_⟩); clear hE hH; clear tm σ)
                  | refine SD_op _ [] (by rfl) (by rfl) (fun _ h => h) (fun p hp => by cases hp) (fun k hk => by cases hk) (.inl rfl) ?_
                  | fail)
                · exact SC_exit fun tm σ hE hH => ⟨rfl, j, ⟨⟨hp, hjj⟩, fun _ => hL⟩, tm, σ, rfl, hE.sub ⟨rfl, rfl, rfl, rfl, rfl, rfl, rfl, trivial⟩, hH⟩
                · exact SL_nil fun tm σ hE hH => ⟨j - 1, by omega, ⟨hp.down hij hL, by omega⟩, tm, σ, rfl, hE.sub ⟨rfl, rfl, rfl, rfl, rfl, rfl, predN (by omega), trivial⟩, hH⟩
              ·
                repeat' (first
                  | (refine SD_nil (fun tm σ hE hH => ⟨_, _, _, _, _, rfl, hE, hH, fun _ h => (by cases h), ?_⟩); clear hE hH; clear tm σ; intro tm σ hE hH; refine SC.app ?_ hE hH; clear hE hH; clear tm σ)
                  | (refine SC_drawn (id := 15) (pl := [(0, []), (1, []), (2, []), (3, []), (4, []), (5, []), (6, []), (7, []), (8, []), (9, []), (10, []), (11, []), (12, []), (13, []), (14, []), (15, []), (16, [])]) (by kernel_rfl) (by kernel_rfl) ?_; intro B' base hb1 hb2 hb3 hb4)
                  | refine SC_seq ?_
                  | refine SL_not (by rfl) (by rfl) (by rfl) (by decide) ?_
                  | refine SL_move (by decide) (by rfl) ?_
                  | refine SL_pick_f (by decide) (by rfl) (by rfl) ?_
                  | (refine SL_leq (by decide) (by rfl) (by rfl) (fun hT => ?_) (fun hT => ?_) <;> first | (exfalso; omega) | skip)
                  | refine SC_cond_f (by rfl) ?_
                  | (refine SL_nil (fun tm σ hE hH => ⟨_, _, _, _, rfl, hE, hH, ?_⟩); clear hE hH; clear tm σ)
                  | refine SD_op _ [] (by rfl) (by rfl) (fun _ h => h) (fun p hp => by cases hp) (fun k hk => by cases hk) (.inl rfl) ?_
                  | fail)
                exact SC_exit fun tm σ hE hH => ⟨rfl, j, ⟨⟨hp, hjj⟩, fun h => absurd h hij⟩, tm, σ, rfl, hE.sub ⟨rfl, rfl, rfl, rfl, rfl, rfl, rfl, trivial⟩, hH⟩
            · rintro j1 ⟨⟨hp3, hjj⟩, hj3⟩ tm σ hE hH
              refine SC.app ?_ hE hH
              clear hE hH; clear tm σ
              have hlo3 := hp3.lo
              have hhi3 := hp3.hi
              by_cases hij : i1 ≤ j1
              · obtain ⟨hlt3, hps3⟩ := hp3.swap (by omega) hij (hi2 (by omega)) (hj3 hij)
                repeat' (first
                  | refine SC_seq ?_
                  | refine SC_region ?_
                  | refine SL_seq ?_
                  | refine SL_move (by decide) (by rfl) ?_
                  | refine SL_assign (by decide) (by rfl) ?_
                  | refine SL_add (by decide) (by rfl) (by rfl) (by omega) (by omega) ?_
                  | refine SL_sub (by decide) (by rfl) (by rfl) (by omega) (by omega) ?_
                  | (refine SL_gtr (by decide) (by rfl) (by rfl) (fun hT => ?_) (fun hT => ?_) <;> first | (exfalso; omega) | skip)
                  | refine SL_indexAddr_0 (by decide) (by rfl) (by rfl) (by repeat (first | exact .head _ | refine .tail _ ?_)) (slF (by rfl)) _ (by first | rfl | exact (Int.toNat_of_nonneg (by omega)).symm) (by omega) ?_
                  | refine SL_load_o (by decide) (by rfl) (by repeat (first | exact .head _ | refine .tail _ ?_)) (rowF (by rfl)) (by first | assumption | rfl | exact ints_getD _ (by omega) | exact ints_getD _ (by simp only [List.length_set]; omega)) (by rfl) ?_
                  | refine SL_store_n (by rfl) (by rfl) (by repeat (first | exact .head _ | refine .tail _ ?_)) (by first | assumption | rfl | exact ints_getD _ (by omega) | exact ints_getD _ (by simp only [List.length_set]; omega)) (by rfl) (by first | exact ints_set _ _ _ _ | rfl) (by repeat (first | exact .head | apply Upd.tail)) (by first | exact .inl (by assumption) | exact .inr (by simp)) (szF (by rfl)) (Nat.le_of_ble_eq_true (by rfl)) (by rfl) ?_
                  | refine SC_draw (by kernel_rfl) ?_
                  | refine SC_cond_f (by rfl) ?_
                  | (refine SC_skip' (fun tm σ hE hH => ?_); refine SC.app ?_ hE hH; clear hE hH; clear tm σ)
                  | fail)
                exact SL_nil fun tm σ hE hH => ⟨(i1 + 1, j1 - 1, swapL c i1 j1), by show j1 - 1 + 1 - (i1 + 1) < j0 + 1 - i0; omega, hps3, tm, σ, rfl, hE.sub ⟨rfl, rfl, rfl, rfl, rfl, rfl, predN (by omega), trivial⟩, hH⟩
              ·
                repeat' (first
                  | refine SC_seq ?_
                  | refine SC_region ?_
                  | refine SL_seq ?_
                  | refine SL_move (by decide) (by rfl) ?_
                  | (refine SL_gtr (by decide) (by rfl) (by rfl) (fun hT => ?_) (fun hT => ?_) <;> first | (exfalso; omega) | skip)
                  | refine SC_cond_t (by rfl) ?_
                  | fail)
                exact SC_exit fun tm σ hE hH => ⟨rfl, (i1, j1, c), ⟨hp3, hij⟩, tm, σ, rfl, hE.sub ⟨rfl, rfl, rfl, rfl, rfl, rfl, rfl, trivial⟩, hH⟩
        · rintro ⟨i2, j2, c⟩ ⟨hp4, hij4⟩ tm σ hE hH
          refine SC.app ?_ hE hH
          clear hE hH; clear tm σ
          dsimp only at hp4 hij4 ⊢
          have hlo4 := hp4.lo
          have hhi4 := hp4.hi
          have hji4 := hp4.ij
          have hcl4 := hlen _ hp4.perm
          repeat' (first
            | refine SC_seq ?_
            | refine SC_region ?_
            | refine SL_seq ?_
            | refine SL_move (by decide) (by rfl) ?_
            | refine SL_assign (by decide) (by rfl) ?_
            | refine SL_indexAddr_0 (by decide) (by rfl) (by rfl) (by repeat (first | exact .head _ | refine .tail _ ?_)) (slF (by rfl)) _ (by first | rfl | exact (Int.toNat_of_nonneg (by omega)).symm) (by omega) ?_
            | refine SL_load_o (by decide) (by rfl) (by repeat (first | exact .head _ | refine .tail _ ?_)) (rowF (by rfl)) (by first | assumption | rfl | exact ints_getD _ (by omega) | exact ints_getD _ (by simp only [List.length_set]; omega)) (by rfl) ?_
            | refine SL_store_n (by rfl) (by rfl) (by repeat (first | exact .head _ | refine .tail _ ?_)) (by first | assumption | rfl | exact ints_getD _ (by omega) | exact ints_getD _ (by simp only [List.length_set]; omega)) (by rfl) (by first | exact ints_set _ _ _ _ | rfl) (by repeat (first | exact .head | apply Upd.tail)) (by first | exact .inl (by assumption) | exact .inr (by simp)) (szF (by rfl)) (Nat.le_of_ble_eq_true (by rfl)) (by rfl) ?_
            | refine SC_draw (by kernel_rfl) ?_
            | fail)
          exact SC_ret (fun tm σ hE hH => PostW.intro (Hn := [(io, _)]) (.inr rfl) hE hH (by rfl) ⟨.head _, trivial⟩ (by simp) (fun p hp => .inl (by simp at hp; simp [hp])) ⟨j2, false, swapL c j2 a, rfl, rfl, hp4.done (by omega) hij4 (htot _ hp4.perm)⟩)
      ·
        repeat' (first
          | refine SC_seq ?_
          | refine SC_region ?_
          | refine SL_seq ?_
          | refine SL_move (by decide) (by rfl) ?_
          | refine SL_assign (by decide) (by rfl) ?_
          | (refine SL_gtr (by decide) (by rfl) (by rfl) (fun hT => ?_) (fun hT => ?_) <;> first | (exfalso; omega) | skip)
          | refine SL_indexAddr_0 (by decide) (by rfl) (by rfl) (by repeat (first | exact .head _ | refine .tail _ ?_)) (slF (by rfl)) _ (by first | rfl | exact (Int.toNat_of_nonneg (by omega)).symm) (by omega) ?_
          | refine SL_load_o (by decide) (by rfl) (by repeat (first | exact .head _ | refine .tail _ ?_)) (rowF (by rfl)) (by first | assumption | rfl | exact ints_getD _ (by omega) | exact ints_getD _ (by simp only [List.length_set]; omega)) (by rfl) ?_
          | refine SL_store_n (by rfl) (by rfl) (by repeat (first | exact .head _ | refine .tail _ ?_)) (by first | assumption | rfl | exact ints_getD _ (by omega) | exact ints_getD _ (by simp only [List.length_set]; omega)) (by rfl) (by first | exact ints_set _ _ _ _ | rfl) (by repeat (first | exact .head | apply Upd.tail)) (by first | exact .inl (by assumption) | exact .inr (by simp)) (szF (by rfl)) (Nat.le_of_ble_eq_true (by rfl)) (by rfl) ?_
          | refine SC_draw (by kernel_rfl) ?_
          | refine SC_cond_t (by rfl) ?_
          | fail)
        exact SC_ret (fun tm σ hE hH => PostW.intro (Hn := [(io, _)]) (.inr rfl) hE hH (by rfl) ⟨.head _, trivial⟩ (by simp) (fun p hp => .inl (by simp at hp; simp [hp])) ⟨j, true, swapL c1 j a, rfl, rfl, hp.done (by omega) hij (htot _ hp.perm)⟩)
end
end Go.Proofs.YtnhnlkljcfbhfaaGreatDoor.Tb
/- Go's sort by a comparing function: why the parts sort the whole. -/
namespace Go.Proofs.YtnhnlkljcfbhfaaGreatDoor.Tb
open Go Go.Ab
theorem PermIn.symm {a b : Nat} {l c : List Int} (h : PermIn a b l c) : PermIn a b c l := ⟨h.perm.symm, fun p hp => (h.out p hp).symm⟩
def Glob (lt : Int → Int → Prop) (n : Nat) (c : List Int) (a b : Nat) : Prop := ∀ p q, p < q → q < n → ¬ (a ≤ p ∧ q < b) → lt (c.getD p 0) (c.getD q 0)
section
variable {lt : Int → Int → Prop} {l c c1 c2 : List Int} {n a b mid pv : Nat}
theorem Glob.perm (h : Glob lt n c a b) (hp : PermIn a b c c1) (hnd : c.Nodup) (hb : b ≤ n) (hn : c.length = n) : Glob lt n c1 a b := by
  intro p q h1 h2 h3
  by_cases hpi : a ≤ p ∧ p < b
  · obtain ⟨p0, e1, e2, e3⟩ := hp.from hnd (by omega) hpi.1 hpi.2
    rw [e3, hp.out q (by omega)]
    exact h p0 q (by omega) h2 (by omega)
  · by_cases hqi : a ≤ q ∧ q < b
    · obtain ⟨q0, e1, e2, e3⟩ := hp.from hnd (by omega) hqi.1 hqi.2
      rw [e3, hp.out p (by omega)]
      exact h p q0 (by omega) (by omega) (by omega)
    · rw [hp.out p (by omega), hp.out q (by omega)]
      exact h p q h1 h2 h3
theorem Parted.subL (h : Parted lt l a b pv c mid) (hp : PermIn a mid c c1) (hnd : c.Nodup) (hb : b ≤ c.length) : Parted lt l a b pv c1 mid := by
  have hhi := h.hi
  have hlo := h.lo
  have hm := hp.out mid (by omega)
  refine ⟨h.perm.trans (hp.mono (Nat.le_refl _) (by omega)), hlo, hhi, by rw [hm]; exact h.piv, fun p h1 h2 => ?_, fun p h1 h2 => ?_⟩
  · obtain ⟨p0, e1, e2, e3⟩ := hp.from hnd (by omega) h1 h2
    rw [e3, hm]; exact h.left p0 e1 e2
  · rw [hm, hp.out p (by omega)]; exact h.right p h1 h2
theorem Parted.subR (h : Parted lt l a b pv c mid) (hp : PermIn (mid + 1) b c c1) (hnd : c.Nodup) (hb : b ≤ c.length) : Parted lt l a b pv c1 mid := by
  have hhi := h.hi
  have hlo := h.lo
  have hm := hp.out mid (by omega)
  refine ⟨h.perm.trans (hp.mono (by omega) (Nat.le_refl _)), hlo, hhi, by rw [hm]; exact h.piv, fun p h1 h2 => ?_, fun p h1 h2 => ?_⟩
  · rw [hm, hp.out p (by omega)]; exact h.left p h1 h2
  · obtain ⟨p0, e1, e2, e3⟩ := hp.from hnd (by omega) (show mid + 1 ≤ p by omega) h2
    rw [e3, hm]; exact h.right p0 (by omega) e2
theorem Parted.cross (h : Parted lt l a b pv c mid) (htr : ∀ x y z, x ∈ c → y ∈ c → z ∈ c → lt x y → lt y z → lt x z) (hb : b ≤ c.length) {p q : Nat} (h1 : a ≤ p) (h2 : p < q) (h3 : q < b) (h4 : p ≤ mid) (h5 : mid ≤ q) : lt (c.getD p 0) (c.getD q 0) := by
  have hhi := h.hi
  by_cases e1 : p = mid
  · subst e1; exact h.right q (by omega) h3
  · by_cases e2 : q = mid
    · subst e2; exact h.left p h1 (by omega)
    · exact htr _ _ _ (getD_mem (by omega)) (getD_mem (i := mid) (by omega)) (getD_mem (by omega)) (h.left p h1 (by omega)) (h.right q (by omega) h3)
theorem Glob.left (h : Glob lt n c a b) (hp : Parted lt l a b pv c mid) (htr : ∀ x y z, x ∈ c → y ∈ c → z ∈ c → lt x y → lt y z → lt x z) (hb : b ≤ c.length) (hs : SortIn lt c a mid) : Glob lt n c (mid + 1) b := by
  intro p q h1 h2 h3
  by_cases hin : a ≤ p ∧ q < b
  · by_cases hq : q < mid
    · exact hs p q hin.1 h1 hq
    · exact hp.cross htr hb hin.1 h1 hin.2 (by omega) (by omega)
  · exact h p q h1 h2 hin
theorem Glob.right (h : Glob lt n c a b) (hp : Parted lt l a b pv c mid) (htr : ∀ x y z, x ∈ c → y ∈ c → z ∈ c → lt x y → lt y z → lt x z) (hb : b ≤ c.length) (hs : SortIn lt c (mid + 1) b) : Glob lt n c a mid := by
  intro p q h1 h2 h3
  by_cases hin : a ≤ p ∧ q < b
  · by_cases hq : mid < p
    · exact hs p q (by omega) h1 hin.2
    · exact hp.cross htr hb hin.1 h1 hin.2 (by omega) (by omega)
  · exact h p q h1 h2 hin
theorem Glob.done (h : Glob lt n c a b) (hs : SortIn lt c a b) : SortIn lt c 0 n := by
  intro p q _ h1 h2
  by_cases hin : a ≤ p ∧ q < b
  · exact hs p q hin.1 h1 hin.2
  · exact h p q h1 h2 hin
theorem Parted.inner (h : Parted lt c a b pv c1 mid) (hm : Mid lt c a b pv) (hnd : c.Nodup) (hb : b ≤ c.length) (hirr : ∀ x ∈ c, ¬ lt x x) (htr : ∀ x y z, x ∈ c → y ∈ c → z ∈ c → lt x y → lt y z → lt x z) : a < mid ∧ mid + 1 < b := by
  have hlo := h.lo
  have hhi := h.hi
  have hl1 := h.perm.len
  have hnd1 : c1.Nodup := h.perm.perm.symm.nodup hnd
  obtain ⟨h1, h2, ⟨x, hx1, hx2, hx3⟩, y, hy1, hy2, hy3⟩ := hm
  obtain ⟨x', ex1, ex2, ex3⟩ := h.perm.symm.from hnd1 (by omega) hx1 hx2
  obtain ⟨y', ey1, ey2, ey3⟩ := h.perm.symm.from hnd1 (by omega) hy1 hy2
  have hpv : c.getD pv 0 ∈ c := getD_mem (by omega)
  have hxm : c.getD x 0 ∈ c := getD_mem (by omega)
  have hym : c.getD y 0 ∈ c := getD_mem (by omega)
  constructor
  · by_cases e : a = mid
    · by_cases e2 : x' = mid
      · rw [ex3, e2, h.piv] at hx3
        exact absurd hx3 (hirr _ hpv)
      · have := h.right x' (by omega) ex2
        rw [h.piv, ← ex3] at this
        exact absurd (htr _ _ _ hxm hpv hxm hx3 this) (hirr _ hxm)
    · omega
  · by_cases e : mid + 1 = b
    · by_cases e2 : y' = mid
      · rw [ey3, e2, h.piv] at hy3
        exact absurd hy3 (hirr _ hpv)
      · have := h.left y' ey1 (by omega)
        rw [h.piv, ← ey3] at this
        exact absurd (htr _ _ _ hpv hym hpv hy3 this) (hirr _ hpv)
    · omega
structure PQ (lt : Int → Int → Prop) (l : List Int) (n a b lim : Nat) (bal : Bool) (c : List Int) : Prop where
  perm : PermIn 0 n l c
  ab : a ≤ b
  bn : b ≤ n
  glob : Glob lt n c a b
  lim1 : 12 + a < b → 1 ≤ lim ∧ (bal = true → b ≤ 2 * lim + 14 + a) ∧ (bal = false → b ≤ 14 + a ∨ (2 ≤ lim ∧ b + 2 ≤ 2 * lim + 14 + a))
  limb : lim ≤ 5
theorem PQ.start (l : List Int) (hn : n ≤ 24) (h13 : 13 ≤ n) (hlim : 4 ≤ pv) (h5 : pv ≤ 5) (h16 : 16 ≤ n → pv = 5) : PQ lt l n 0 n pv true l :=
  ⟨.refl _ _ _, by omega, Nat.le_refl _, fun p q h1 h2 h3 => by omega, fun _ => ⟨by omega, fun _ => by omega, fun h => by cases h⟩, h5⟩
theorem PQ.brk {lim : Nat} {bal : Bool} (h : PQ lt l n a b lim bal c) (hp : PermIn a b c c1) (hnd : l.Nodup) (hl : l.length = n) : PQ lt l n a b lim bal c1 := by
  have hbn := h.bn
  have hcl := h.perm.len
  exact ⟨h.perm.trans (hp.mono (Nat.zero_le _) hbn), h.ab, hbn, h.glob.perm hp (h.perm.perm.symm.nodup hnd) hbn (by omega), h.lim1, h.limb⟩
theorem PQ.stepL {lim lim' : Nat} {bal bal' : Bool} (h : PQ lt l n a b lim bal c) (hgt : 12 + a < b) (hP : Parted lt c a b pv c1 mid) (hin : a < mid ∧ mid + 1 < b) (hp2 : PermIn a mid c1 c2) (hs : SortIn lt c2 a mid) (htr : ∀ x y z, x ∈ l → y ∈ l → z ∈ l → lt x y → lt y z → lt x z) (hnd : l.Nodup) (hl : l.length = n)
    (h1 : bal = true → lim' = lim) (h2 : bal = false → lim' + 1 = lim) (_ : bal' = false → mid - a < (b - a) / 8) : PQ lt l n (mid + 1) b lim' bal' c2 := by
  have hbn := h.bn
  have hcl := h.perm.len
  have hc1l := hP.perm.len
  have hlb := h.limb
  have hndc : c.Nodup := h.perm.perm.symm.nodup hnd
  have hnd1 : c1.Nodup := hP.perm.perm.symm.nodup hndc
  have hPP := h.perm.trans (hP.perm.mono (Nat.zero_le _) hbn)
  have hP2 := hP.subL hp2 hnd1 (by omega)
  have hg : Glob lt n c2 a b := (h.glob.perm hP.perm hndc hbn (by omega)).perm (hp2.mono (Nat.le_refl _) (by omega)) hnd1 hbn (by omega)
  have hper : PermIn 0 n l c2 := hPP.trans (hp2.mono (Nat.zero_le _) (by omega))
  have hl2 := hper.len
  obtain ⟨g1, g2, g3⟩ := h.lim1 hgt
  refine ⟨hper, by omega, hbn, hg.left hP2 (fun x y z hx hy hz => htr x y z (hper.perm.subset hx) (hper.perm.subset hy) (hper.perm.subset hz)) (by omega) hs, fun h5 => ?_, ?_⟩
  · cases bal with
    | true =>
      have g2 := g2 rfl
      have h1 := h1 rfl
      exact ⟨by omega, fun _ => by omega, fun _ => by omega⟩
    | false =>
      have g3 := g3 rfl
      have h2 := h2 rfl
      exact ⟨by omega, fun _ => by omega, fun _ => by omega⟩
  · cases bal with
    | true => have h1 := h1 rfl; omega
    | false => have h2 := h2 rfl; omega
theorem PQ.stepR {lim lim' : Nat} {bal bal' : Bool} (h : PQ lt l n a b lim bal c) (hgt : 12 + a < b) (hP : Parted lt c a b pv c1 mid) (hin : a < mid ∧ mid + 1 < b) (hp2 : PermIn (mid + 1) b c1 c2) (hs : SortIn lt c2 (mid + 1) b) (htr : ∀ x y z, x ∈ l → y ∈ l → z ∈ l → lt x y → lt y z → lt x z) (hnd : l.Nodup) (hl : l.length = n)
    (h1 : bal = true → lim' = lim) (h2 : bal = false → lim' + 1 = lim) (_ : bal' = false → b - mid < (b - a) / 8) : PQ lt l n a mid lim' bal' c2 := by
  have hbn := h.bn
  have hcl := h.perm.len
  have hc1l := hP.perm.len
  have hlb := h.limb
  have hndc : c.Nodup := h.perm.perm.symm.nodup hnd
  have hnd1 : c1.Nodup := hP.perm.perm.symm.nodup hndc
  have hPP := h.perm.trans (hP.perm.mono (Nat.zero_le _) hbn)
  have hP2 := hP.subR hp2 hnd1 (by omega)
  have hg : Glob lt n c2 a b := (h.glob.perm hP.perm hndc hbn (by omega)).perm (hp2.mono (by omega) (Nat.le_refl _)) hnd1 hbn (by omega)
  have hper : PermIn 0 n l c2 := hPP.trans (hp2.mono (Nat.zero_le _) (by omega))
  have hl2 := hper.len
  obtain ⟨g1, g2, g3⟩ := h.lim1 hgt
  refine ⟨hper, by omega, by omega, hg.right hP2 (fun x y z hx hy hz => htr x y z (hper.perm.subset hx) (hper.perm.subset hy) (hper.perm.subset hz)) (by omega) hs, fun h5 => ?_, ?_⟩
  · cases bal with
    | true =>
      have g2 := g2 rfl
      have h1 := h1 rfl
      exact ⟨by omega, fun _ => by omega, fun _ => by omega⟩
    | false =>
      have g3 := g3 rfl
      have h2 := h2 rfl
      exact ⟨by omega, fun _ => by omega, fun _ => by omega⟩
  · cases bal with
    | true => have h1 := h1 rfl; omega
    | false => have h2 := h2 rfl; omega
end
end Go.Proofs.YtnhnlkljcfbhfaaGreatDoor.Tb
/- Go's sort by a comparing function: the breaking of patterns. -/
namespace Go.Proofs.YtnhnlkljcfbhfaaGreatDoor.Tb
open Go Go.Ab
attribute [local irreducible] SC SL wpc wpl wpd wpf wpy wpn FnC FnW RdW SD
set_option maxRecDepth 100000
set_option maxHeartbeats 2000000
theorem k3_107 : kinds2 Tryz.prog 3 221 = some (.i64, .u64) := by kernel_rfl
theorem k3_89 : kinds2 Tryz.prog 3 145 = some (.i64, .u64) := by kernel_rfl
theorem k89_3 : kinds2 Tryz.prog 145 3 = some (.u64, .i64) := by kernel_rfl
theorem next_fn {G : Gl} (ho : ∀ f x y, offT f = true → G.orc f (x :: y) = none) (r : Nat) (x : Int) : FnW Tryz.prog G 168 [.ptr r 0 0] [r] [(r, .cells 221 1 true [[.s (.int .u64 x)]])] (fun v Hn => ∃ y z, v = .s (.int .u64 z) ∧ Hn = [(r, .cells 221 1 true [[.s (.int .u64 y)]])]) := by
  refine FnW_body (N := 33) (ho _ _ _ (by rfl)) Tryz.func168 rfl rfl fun B => ?_
  repeat' (first
    | refine SL_xorE (by decide) (by rfl) (by rfl) (fun y => ?_)
    | refine SL_shrE (by decide) (by rfl) (by rfl) (by omega) ?_
    | refine SL_shlE (by decide) (by rfl) (by rfl) (by omega) ?_
    | refine SL_nilCheck (by decide) (by rfl) ?_
    | refine SC_seq ?_
    | refine SC_region ?_
    | refine SL_seq ?_
    | refine SL_move (by decide) (by rfl) ?_
    | refine SL_assign (by decide) (by rfl) ?_
    | refine SL_load_o (by decide) (by rfl) (by repeat (first | exact .head _ | refine .tail _ ?_)) (rowF (by rfl)) (by first | assumption | rfl | exact ints_getD _ (by omega) | exact ints_getD _ (by simp only [List.length_set]; omega)) (by rfl) ?_
    | refine SL_store_box (by rfl) (by rfl) (by first | exact cells_3 _ _ _ | rfl) (by repeat (first | exact .head | apply Upd.tail)) (by first | exact .inl (by assumption) | exact .inr (by simp)) (by rfl) (szF (by rfl)) (by rfl) ?_
    | refine SC_draw (by kernel_rfl) ?_
    | fail)
  exact SC_ret (fun tm σ hE hH => PostW.intro (Hn := [(r, _)]) (.inr rfl) hE hH (by rfl) ⟨.head _, trivial⟩ (by simp) (fun p hp => .inl (by simp at hp; simp [hp])) ⟨_, _, rfl, rfl⟩)
theorem pow_fn {G : Gl} (n : Nat) (h13 : 13 ≤ n) (hn : n ≤ 24) (ho : ∀ f x y, offT f = true → G.orc f (x :: y) = none) : FnC Tryz.prog G 167 [.s (.int .i64 n)] [] (fun v Hn => (∃ m, v = .s (.int .u64 m) ∧ (m = 16 ∧ n ≤ 15 ∨ m = 32 ∧ 16 ≤ n)) ∧ Hn = []) := by
  have hbd := lenU_bd hn
  refine Fn_body (N := 7) (ho _ _ _ (by rfl)) Tryz.func167 rfl rfl fun B => ?_
  repeat' (first
    | (refine SL_call (by decide) (by rfl) bd56 (by rfl) (by rfl) (len_fn n hn ho) trivial List.nodup_nil ?_; rintro _ _ _ ⟨rfl, rfl⟩; rw [List.nil_append])
    | refine SL_conv (by decide) (by rfl) k3_89 (IntWalk.u64_in _ ⟨by omega, by omega⟩) ?_
    | refine SL_shlE (by decide) (by rfl) (by rfl) (by omega) ?_
    | refine SC_seq ?_
    | refine SC_region ?_
    | refine SL_seq ?_
    | refine SL_move (by decide) (by rfl) ?_
    | refine SL_assign (by decide) (by rfl) ?_
    | fail)
  refine SC_ret (fun tm σ hE hH => Post.intro (Hn := []) (.inr rfl) hE hH (by rfl) trivial List.nodup_nil (fun p hp => by cases hp) ⟨⟨_, rfl, ?_⟩, rfl⟩)
  have : n = 13 ∨ n = 14 ∨ n = 15 ∨ n = 16 ∨ n = 17 ∨ n = 18 ∨ n = 19 ∨ n = 20 ∨ n = 21 ∨ n = 22 ∨ n = 23 ∨ n = 24 := by omega
  rcases this with rfl | rfl | rfl | rfl | rfl | rfl | rfl | rfl | rfl | rfl | rfl | rfl
  · exact .inl ⟨by decide, by decide⟩
  · exact .inl ⟨by decide, by decide⟩
  · exact .inl ⟨by decide, by decide⟩
  all_goals exact .inr ⟨by decide, by decide⟩
section
variable {G : Gl} (ho : ∀ f x y, offT f = true → G.orc f (x :: y) = none) {cv : AV} {Hx : List (Nat × AObj)} {S : Int → Prop} {lt : Int → Int → Prop} (hcmp : Cmp Tryz.prog G cv Hx S lt) (l : List Int) (n : Nat) (hl : l.length = n) (hS : ∀ x ∈ l, S x) (ex : Bool) (io : Nat)
include ho hcmp hl hS
omit hcmp hS in
theorem break_fn (a b : Nat) (h13 : a + 13 ≤ b) (h24 : b ≤ a + 24) (hb : b ≤ n) (hbig : n ≤ 1000) :
    FnW Tryz.prog G 128 [.sl io 0 n none, .s (.int .i64 a), .s (.int .i64 b), cv] [io] ((io, .cells 3 1 ex (ints l)) :: Hx) (fun _ Hn => ∃ c : List Int, Hn = [(io, .cells 3 1 ex (ints c))] ∧ PermIn a b l c) := by
  have h77 := pow_fn (G := G) (b - a) (by omega) (by omega) ho
  rw [show ((b - a : Nat) : Int) = ↑b - ↑a by omega] at h77
  refine FnW_body (N := 67) (ho _ _ _ (by rfl)) Tryz.func128 rfl rfl fun B => ?_
  refine SC_nd fun hnd0 => ?_
  repeat' (first
    | (refine SL_call (by decide) (by rfl) bd77 (by rfl) (by rfl) h77 trivial List.nodup_nil ?_; rintro _ _ _ ⟨⟨m, rfl, hm⟩, rfl⟩; rw [List.nil_append])
    | refine SL_conv (by decide) (by rfl) k3_89 (IntWalk.u64_in _ ⟨by omega, by omega⟩) ?_
    | refine SL_mul (by decide) (by rfl) (by rfl) (by omega) (by omega) ?_
    | refine SL_quo (by decide) (by rfl) (by rfl) (by omega) (by omega) (by omega) ?_
    | refine SC_seq ?_
    | refine SC_block ?_
    | refine SC_region ?_
    | refine SL_seq ?_
    | refine SL_move (by decide) (by rfl) ?_
    | refine SL_assign (by decide) (by rfl) ?_
    | refine SL_add (by decide) (by rfl) (by rfl) (by omega) (by omega) ?_
    | refine SL_sub (by decide) (by rfl) (by rfl) (by omega) (by omega) ?_
    | (refine SL_geq (by decide) (by rfl) (by rfl) (fun hT => ?_) (fun hT => ?_) <;> first | (exfalso; omega) | skip)
    | refine SL_store_box (by rfl) (by rfl) (by first | exact cells_3 _ _ _ | rfl) (by repeat (first | exact .head | apply Upd.tail)) (by first | exact .inl (by assumption) | exact .inr (by simp)) (by rfl) (szF (by rfl)) (by rfl) ?_
    | refine SL_alloc (by decide) (zeroF (by rfl)) (fun id hid => ?_)
    | refine SC_cond_t (by rfl) ?_
    | fail)
  obtain ⟨rid, hrid, rfl⟩ : ∃ r, B.next ≤ r ∧ r = id := ⟨id, hid, rfl⟩
  refine SC_nd fun hnd1 => ?_
  refine SC_loop (fun u : Nat × Int × List Int => [(0, .sl io 0 n none), (1, .s (.int .i64 a)), (2, .s (.int .i64 b)), (3, cv), (8, .s (.int .i64 (↑b - ↑a))), (9, .ptr rid 0 0), (10, .s (.int .u64 m)), (11, .s (.int .i64 u.1))]) (fun u => (rid, .cells 221 1 true [[.s (.int .u64 u.2.1)]]) :: (io, .cells 3 1 ex (ints u.2.2)) :: Hx) (fun _ => []) (fun u => a + (b - a) / 4 * 2 - 1 ≤ u.1 ∧ u.1 ≤ a + (b - a) / 4 * 2 + 2 ∧ PermIn a b l u.2.2) (fun u => a + (b - a) / 4 * 2 + 2 - u.1) (a + (b - a) / 4 * 2 - 1, (b - a : Int), l)
    ⟨by show _ ≤ a + (b - a) / 4 * 2 - 1; omega, by show a + (b - a) / 4 * 2 - 1 ≤ _; omega, .refl _ _ _⟩ ⟨rfl, rfl, rfl, rfl, rfl, rfl, rfl, ?_, trivial⟩ (.refl _) hnd1 rfl ?_
  · show some _ = some (AV.s (Value.int IntKind.i64 ((a + (b - a) / 4 * 2 - 1 : Nat) : Int)))
    rw [show ((a + (b - a) / 4 * 2 - 1 : Nat) : Int) = ↑a + (↑b - ↑a) / 4 * 2 - 1 by omega]
  rintro ⟨x, y0, c⟩ ⟨hx1, hx2, hc⟩
  dsimp only at hx1 hx2 hc ⊢
  have hcl := hc.len
  by_cases hx : x ≤ a + (b - a) / 4 * 2 + 1
  ·
    repeat' (first
      | (refine SL_indexAddr_0 (by decide) (by rfl) (by rfl) (.tail _ (.head _)) sl52 (a + z - (b - a)) (by omega) (by omega) ?_)
      | (refine SL_indexAddr_0 (by decide) (by rfl) (by rfl) (.tail _ (.head _)) sl52 (a + z) (by omega) (by omega) ?_)
      | (refine SL_indexAddr_0 (by decide) (by rfl) (by rfl) (.tail _ (.head _)) sl52 x (by omega) (by omega) ?_)
      | (refine SL_callW2 (H0 := [(rid, _)]) (Hr := (io, _) :: Hx) (Hx := []) (M := [rid]) (by decide) (by rfl) (bl_of bd78) (by rfl) (by rfl) (next_fn ho rid _) (fun p hp => by cases hp) List.nodup_nil (fun x hx => by rw [List.mem_singleton] at hx; subst hx; exact ⟨.inl hrid, List.mem_singleton.2 rfl⟩) ?_; intro v0 Hn0 hB0 hR0; clear hB0; obtain ⟨y, w, rfl, rfl⟩ := hR0; simp only [List.cons_append, List.nil_append])
      | refine SL_conv (by decide) (by rfl) k89_3 (IntWalk.i64_in _ ⟨by omega, by omega⟩) ?_
      | refine SL_andLe (by decide) (by rfl) (by rfl) (by omega) (by omega) (fun z hz => ?_)
      | refine SL_subu (by decide) (by rfl) (by rfl) (by omega) (by omega) ?_
      | refine SL_mul (by decide) (by rfl) (by rfl) (by omega) (by omega) ?_
      | refine SL_quo (by decide) (by rfl) (by rfl) (by omega) (by omega) (by omega) ?_
      | refine SC_seq ?_
      | refine SC_block ?_
      | refine SC_region ?_
      | refine SL_seq ?_
      | (refine SL_nil (fun tm σ hE hH => ?_); refine SC.app ?_ hE hH; clear hE hH; clear tm σ)
      | refine SL_move (by decide) (by rfl) ?_
      | refine SL_assign (by decide) (by rfl) ?_
      | refine SL_add (by decide) (by rfl) (by rfl) (by omega) (by omega) ?_
      | refine SL_sub (by decide) (by rfl) (by rfl) (by omega) (by omega) ?_
      | (refine SL_leq (by decide) (by rfl) (by rfl) (fun hT => ?_) (fun hT => ?_) <;> first | (exfalso; omega) | skip)
      | (refine SL_geq (by decide) (by rfl) (by rfl) (fun hT => ?_) (fun hT => ?_) <;> first | (exfalso; omega) | skip)
      | refine SL_load_o (by decide) (by rfl) (by repeat (first | exact .head _ | refine .tail _ ?_)) (rowF (by rfl)) (by first | assumption | rfl | exact ints_getD _ (by omega) | exact ints_getD _ (by simp only [List.length_set]; omega)) (by rfl) ?_
      | refine SL_store_n (by rfl) (by rfl) (by repeat (first | exact .head _ | refine .tail _ ?_)) (by first | assumption | rfl | exact ints_getD _ (by omega) | exact ints_getD _ (by simp only [List.length_set]; omega)) (by rfl) (by first | exact ints_set _ _ _ _ | rfl) (by repeat (first | exact .head | apply Upd.tail)) (by first | exact .inl (by assumption) | exact .inr (by simp)) (szF (by rfl)) (Nat.le_of_ble_eq_true (by rfl)) (by rfl) ?_
      | refine SC_draw (by kernel_rfl) ?_
      | refine SC_cond_t (by rfl) ?_
      | refine SC_cond_f (by rfl) ?_
      | (refine SC_skip' (fun tm σ hE hH => ?_); refine SC.app ?_ hE hH; clear hE hH; clear tm σ)
      | fail)
    · refine SL_nil fun tm σ hE hH => ⟨(x + 1, y, swapL c x (a + z - (b - a))), by show _ - (x + 1) < _ - x; omega, ⟨by show _ ≤ x + 1; omega, by show x + 1 ≤ _; omega, hc.swap (by omega) (by omega) (by omega) (by omega) (by omega)⟩, tm, σ, rfl, hE.sub ⟨rfl, rfl, rfl, rfl, rfl, rfl, rfl, rfl, trivial⟩, hH⟩
    · refine SL_nil fun tm σ hE hH => ⟨(x + 1, y, swapL c x (a + z)), by show _ - (x + 1) < _ - x; omega, ⟨by show _ ≤ x + 1; omega, by show x + 1 ≤ _; omega, hc.swap (by omega) (by omega) (by omega) (by omega) (by omega)⟩, tm, σ, rfl, hE.sub ⟨rfl, rfl, rfl, rfl, rfl, rfl, rfl, rfl, trivial⟩, hH⟩
  ·
    repeat' (first
      | refine SL_mul (by decide) (by rfl) (by rfl) (by omega) (by omega) ?_
      | refine SL_quo (by decide) (by rfl) (by rfl) (by omega) (by omega) (by omega) ?_
      | refine SC_seq ?_
      | refine SC_region ?_
      | refine SL_seq ?_
      | refine SL_move (by decide) (by rfl) ?_
      | refine SL_add (by decide) (by rfl) (by rfl) (by omega) (by omega) ?_
      | (refine SL_leq (by decide) (by rfl) (by rfl) (fun hT => ?_) (fun hT => ?_) <;> first | (exfalso; omega) | skip)
      | refine SC_cond_f (by rfl) ?_
      | fail)
    refine SC_exit (fun tm σ hE hH => ?_)
    refine PostW.intro (vs := []) (Hn := [(io, _)]) (.inl rfl) hE hH (by rfl) ⟨.tail _ (.head _), trivial⟩ (by simp) (fun p hp => .inl (by simp at hp; simp [hp])) ⟨c, rfl, hc⟩
end
end Go.Proofs.YtnhnlkljcfbhfaaGreatDoor.Tb
/- Go's sort by a comparing function, on at most 24 numbers. -/
namespace Go.Proofs.YtnhnlkljcfbhfaaGreatDoor.Tb
open Go Go.Ab
attribute [local irreducible] SC SL wpc wpl wpd wpf wpy wpn FnC FnW RdW SD
set_option maxRecDepth 100000
set_option maxHeartbeats 2000000
section
variable {G : Gl} (ho : ∀ f x y, offT f = true → G.orc f (x :: y) = none) {cv : AV} {Hx : List (Nat × AObj)} {S : Int → Prop} {lt : Int → Int → Prop} (hcmp : Cmp Tryz.prog G cv Hx S lt) (l : List Int) (n : Nat) (hl : l.length = n) (hS : ∀ x ∈ l, S x) (ex : Bool) (io : Nat)
include ho hcmp hl hS
theorem pdqS_fn (a b : Nat) (hab : a ≤ b) (h12 : b ≤ a + 12) (hb : b ≤ n) (hbig : n ≤ 1000) (hcn : l.Nodup) (lim : Int) :
    FnW Tryz.prog G 99 [.sl io 0 n none, .s (.int .i64 a), .s (.int .i64 b), .s (.int .i64 lim), cv] [io] ((io, .cells 3 1 ex (ints l)) :: Hx) (fun _ Hn => ∃ c : List Int, Hn = [(io, .cells 3 1 ex (ints c))] ∧ PermIn a b l c ∧ SortIn lt c a b) := by
  obtain ⟨c, rfl⟩ : ∃ c, c = l := ⟨l, rfl⟩
  have hcl := hl
  have hSc := hS
  refine FnW_body (N := 148) (ho _ _ _ (by rfl)) Tryz.func99 rfl rfl fun B => ?_
  refine SC_nd fun hnd0 => ?_
  have hnx := (List.nodup_cons.1 hnd0).2
  repeat' (first
    | refine SC_seq ?_
    | refine SC_block ?_
    | refine SC_region ?_
    | refine SL_seq ?_
    | refine SL_assign (by decide) (by rfl) ?_
    | fail)
  refine SC_loop (fun _ : Unit => [(0, .sl io 0 n none), (1, .s (.int .i64 a)), (2, .s (.int .i64 b)), (3, .s (.int .i64 lim)), (4, cv)]) (fun _ => (io, .cells 3 1 ex (ints c)) :: Hx) (fun _ => []) (fun _ => True) (fun _ => 0) () trivial ⟨rfl, rfl, rfl, rfl, rfl, trivial⟩ (.refl _) hnd0 rfl ?_
  intro _ _
  repeat' (first
    | (refine SL_callW2 (H0 := [(io, _)]) (Hr := Hx) (Hx := Hx) (M := [io]) (by decide) (by rfl) (bl_of bd64) (by rfl) (by rfl) (insC_fn ho hcmp c n hcl hSc ex io a b (by omega) (by omega) hbig hcn) (fun p hp => hp) hnx (fun x hx => by rw [List.mem_singleton] at hx; subst hx; exact ⟨.inr (by simp), List.mem_singleton.2 rfl⟩) ?_; intro v0 Hn0 hB0 hR0; clear hB0; obtain ⟨c', rfl, hc1, hc2⟩ := hR0; simp only [List.cons_append, List.nil_append])
    | refine SC_seq ?_
    | refine SC_block ?_
    | refine SC_region ?_
    | refine SL_seq ?_
    | refine SL_move (by decide) (by rfl) ?_
    | refine SL_assign (by decide) (by rfl) ?_
    | refine SL_sub (by decide) (by rfl) (by rfl) (by omega) (by omega) ?_
    | (refine SL_leq (by decide) (by rfl) (by rfl) (fun hT => ?_) (fun hT => ?_) <;> first | (exfalso; omega) | skip)
    | refine SC_cond_t (by rfl) ?_
    | fail)
  exact SC_ret (fun tm σ hE hH => PostW.intro (vs := []) (Hn := [(io, _)]) (.inr rfl) hE hH (by rfl) ⟨.head _, trivial⟩ (by simp) (fun p hp => .inl (by simp at hp; simp [hp])) ⟨c', rfl, hc1, hc2⟩)
end
section
variable {G : Gl} (ho : ∀ f x y, offT f = true → G.orc f (x :: y) = none) {cv : AV} {Hx : List (Nat × AObj)} {S : Int → Prop} {lt : Int → Int → Prop} (hcmp : Cmp Tryz.prog G cv Hx S lt) (l : List Int) (n : Nat) (hl : l.length = n) (hS : ∀ x ∈ l, S x) (ex : Bool) (io : Nat)
include ho hcmp hl hS
theorem pdqB_fn (h13 : 13 ≤ n) (hn24 : n ≤ 24) (hnd : l.Nodup) (lim0 : Nat) (hlim : 4 ≤ lim0) (hlim5 : lim0 ≤ 5) (h16 : 16 ≤ n → lim0 = 5) :
    FnW Tryz.prog G 99 [.sl io 0 n none, .s (.int .i64 0), .s (.int .i64 n), .s (.int .i64 lim0), cv] [io] ((io, .cells 3 1 ex (ints l)) :: Hx) (fun _ Hn => ∃ c : List Int, Hn = [(io, .cells 3 1 ex (ints c))] ∧ c.Perm l ∧ SortIn lt c 0 n) := by
  have hbig : n ≤ 1000 := by omega
  refine FnW_body (N := 148) (ho _ _ _ (by rfl)) Tryz.func99 rfl rfl fun B => ?_
  refine SC_nd fun hnd0 => ?_
  have hnx := (List.nodup_cons.1 hnd0).2
  have htr : ∀ x y z, x ∈ l → y ∈ l → z ∈ l → lt x y → lt y z → lt x z := fun x y z hx hy hz => hcmp.tr x y z (hS x hx) (hS y hy) (hS z hz)
  repeat' (first
    | refine SC_seq ?_
    | refine SC_block ?_
    | refine SC_region ?_
    | refine SL_seq ?_
    | refine SL_assign (by decide) (by rfl) ?_
    | fail)
  refine SC_loop (fun u : Nat × Nat × Nat × Bool × Bool × List Int => [(0, .sl io 0 n none), (1, .s (.int .i64 u.1)), (2, .s (.int .i64 u.2.1)), (3, .s (.int .i64 u.2.2.1)), (4, cv), (10, .s (.bool u.2.2.2.1)), (11, .s (.bool u.2.2.2.2.1))]) (fun u => (io, .cells 3 1 ex (ints u.2.2.2.2.2)) :: Hx) (fun _ => []) (fun u => PQ lt l n u.1 u.2.1 u.2.2.1 u.2.2.2.1 u.2.2.2.2.2) (fun u => u.2.1 - u.1) (0, n, lim0, true, true, l)
    (PQ.start l hn24 h13 hlim hlim5 h16) ⟨rfl, rfl, rfl, rfl, rfl, rfl, rfl, trivial⟩ (.refl _) hnd0 rfl ?_
  rintro ⟨a, b, lim, bal, part, c⟩ hq
  dsimp only at hq ⊢
  have hab := hq.ab
  have hbn := hq.bn
  have hlb := hq.limb
  have hcl : c.length = n := by rw [hq.perm.len, hl]
  have hcn : c.Nodup := hq.perm.perm.symm.nodup hnd
  have hSc : ∀ x ∈ c, S x := fun x hx => hS x (hq.perm.perm.subset hx)
  by_cases hsm : b ≤ a + 12
  ·
    repeat' (first
      | (refine SL_callW2 (H0 := [(io, _)]) (Hr := Hx) (Hx := Hx) (M := [io]) (by decide) (by rfl) (bl_of bd64) (by rfl) (by rfl) (insC_fn ho hcmp c n hcl hSc ex io a b (by omega) (by omega) hbig hcn) (fun p hp => hp) hnx (fun x hx => by rw [List.mem_singleton] at hx; subst hx; exact ⟨.inr (by simp), List.mem_singleton.2 rfl⟩) ?_; intro v0 Hn0 hB0 hR0; clear hB0; obtain ⟨c', rfl, hc1, hc2⟩ := hR0; simp only [List.cons_append, List.nil_append])
      | refine SC_seq ?_
      | refine SC_block ?_
      | refine SC_region ?_
      | refine SL_seq ?_
      | refine SL_move (by decide) (by rfl) ?_
      | refine SL_assign (by decide) (by rfl) ?_
      | refine SL_sub (by decide) (by rfl) (by rfl) (by omega) (by omega) ?_
      | (refine SL_leq (by decide) (by rfl) (by rfl) (fun hT => ?_) (fun hT => ?_) <;> first | (exfalso; omega) | skip)
      | refine SC_cond_t (by rfl) ?_
      | fail)
    exact SC_ret (fun tm σ hE hH => PostW.intro (vs := []) (Hn := [(io, _)]) (.inr rfl) hE hH (by rfl) ⟨.head _, trivial⟩ (by simp) (fun p hp => .inl (by simp at hp; simp [hp])) ⟨c', rfl, hc1.perm.trans hq.perm.perm, (hq.glob.perm hc1 hcn hbn hcl).done hc2⟩)
  · obtain ⟨g1, g2, g3⟩ := hq.lim1 (by omega)
    repeat' (first
      | refine SC_seq_cut (a := .seq (.region 7 _ _) _) (α := Nat × List Int) (fun u => [(0, .sl io 0 n none), (1, .s (.int .i64 a)), (2, .s (.int .i64 b)), (3, .s (.int .i64 u.1)), (4, cv), (10, .s (.bool bal)), (11, .s (.bool part)), (12, .s (.int .i64 (↑b - ↑a)))]) (fun u => (io, .cells 3 1 ex (ints u.2)) :: Hx) (fun _ => []) (fun u => PQ lt l n a b lim bal u.2 ∧ (bal = true → u.1 = lim) ∧ (bal = false → u.1 + 1 = lim)) ?_ ?_
      | refine SC_seq ?_
      | refine SC_block ?_
      | refine SC_region ?_
      | refine SL_seq ?_
      | refine SL_move (by decide) (by rfl) ?_
      | refine SL_assign (by decide) (by rfl) ?_
      | refine SL_not_op (by decide) (by rfl) ?_
      | refine SL_sub (by decide) (by rfl) (by rfl) (by omega) (by omega) ?_
      | (refine SL_leq (by decide) (by rfl) (by rfl) (fun hT => ?_) (fun hT => ?_) <;> first | (exfalso; omega) | skip)
      | (refine SL_eql (by decide) (by rfl) (by rfl) (fun hT => ?_) (fun hT => ?_) <;> first | (exfalso; omega) | skip)
      | refine SC_cond_f (by rfl) ?_
      | (refine SC_skip' (fun tm σ hE hH => ?_); refine SC.app ?_ hE hH; clear hE hH; clear tm σ)
      | fail)
    · cases bal with
      | true =>
        repeat' (first
          | refine SC_cond_f (by rfl) ?_
          | fail)
        exact SC_skip' fun tm σ hE hH => ⟨(lim, c), ⟨hq, fun _ => rfl, fun h => (by cases h)⟩, tm, σ, rfl, hE.sub ⟨rfl, rfl, rfl, rfl, rfl, rfl, rfl, rfl, trivial⟩, hH⟩
      | false =>
        repeat' (first
          | (refine SL_callW2 (H0 := [(io, _)]) (Hr := Hx) (Hx := Hx) (M := [io]) (by decide) (by rfl) (bl_of bd66) (by rfl) (by rfl) (break_fn ho c n hcl ex io a b (by omega) (by omega) (by omega) hbig) (fun p hp => hp) hnx (fun x hx => by rw [List.mem_singleton] at hx; subst hx; exact ⟨.inr (by simp), List.mem_singleton.2 rfl⟩) ?_; intro v0 Hn0 hB0 hR0; clear hB0; obtain ⟨c', rfl, hc1⟩ := hR0; simp only [List.cons_append, List.nil_append])
          | refine SC_seq ?_
          | refine SC_region ?_
          | refine SL_seq ?_
          | refine SL_move (by decide) (by rfl) ?_
          | refine SL_assign (by decide) (by rfl) ?_
          | refine SL_sub (by decide) (by rfl) (by rfl) (by omega) (by omega) ?_
          | refine SC_cond_t (by rfl) ?_
          | fail)
        refine SL_nil fun tm σ hE hH => ⟨(lim - 1, c'), ⟨hq.brk hc1 hnd hl, fun h => (by cases h), fun _ => by show lim - 1 + 1 = lim; omega⟩, tm, σ, rfl, hE.sub ⟨rfl, rfl, rfl, ?_, rfl, rfl, rfl, rfl, trivial⟩, hH⟩
        exact predN (by omega)
    · clear hcl hcn hSc hq
      clear c
      rintro ⟨lim', c⟩ ⟨hq, hl1, hl2⟩
      dsimp only at hq hl1 hl2 ⊢
      have hcl : c.length = n := by rw [hq.perm.len, hl]
      have hcn : c.Nodup := hq.perm.perm.symm.nodup hnd
      have hSc : ∀ x ∈ c, S x := fun x hx => hS x (hq.perm.perm.subset hx)
      have hsx : SubH Hx ((io, AObj.cells 3 1 ex (ints c)) :: Hx) := .of_mem fun p hp => .tail _ hp
      have hl' : lim' ≤ 5 := by
        cases bal with
        | true => have := hl1 rfl; omega
        | false => have := hl2 rfl; omega
      repeat' (first
        | refine SC_seq_cut (a := .seq (.region 15 _ _) _) (α := Unit) (fun _ => [(0, .sl io 0 n none), (1, .s (.int .i64 a)), (2, .s (.int .i64 b)), (3, .s (.int .i64 lim')), (4, cv), (10, .s (.bool bal)), (11, .s (.bool part)), (12, .s (.int .i64 (↑b - ↑a))), (13, .s (.int .i64 pv))]) (fun _ => (io, .cells 3 1 ex (ints c)) :: Hx) (fun _ => []) (fun _ => True) ?_ ?_
        | (refine SL_call (by decide) (by rfl) bd67 (by rfl) (by rfl) (pivot_fn ho hcmp c n hcl hSc ex io a b (by omega) (by omega) (by omega) hbig hcn) (.refl _) hnd0 ?_; rintro _ _ _ ⟨pv, h, rfl, hh, hmid, rfl⟩; rw [List.nil_append])
        | refine SC_seq ?_
        | refine SC_region ?_
        | refine SL_seq ?_
        | refine SL_move (by decide) (by rfl) ?_
        | refine SL_assign (by decide) (by rfl) ?_
        | (refine SL_eql (by decide) (by rfl) (by rfl) (fun hT => ?_) (fun hT => ?_) <;> first | (exfalso; omega) | skip)
        | refine SL_extract_s (by decide) (by rfl) (by rfl) ?_
        | refine SC_cond_f (by rfl) ?_
        | (refine SC_skip' (fun tm σ hE hH => ?_); refine SC.app ?_ hE hH; clear hE hH; clear tm σ)
        | fail)
      · cases bal <;> cases part
        all_goals
          repeat' (first
            | (refine SL_call (by decide) (by rfl) bd69 (by rfl) (by rfl) (partial_fn ho hcmp c n hcl hSc ex io a b (by omega) (by omega) (by omega) hbig hcn) (.refl _) hnd0 ?_; rintro _ _ _ ⟨⟨t, rfl, hsrt⟩, rfl⟩; rw [List.nil_append])
            | refine SC_seq ?_
            | refine SC_region ?_
            | refine SL_seq ?_
            | refine SL_run (by rfl) (by rfl) ?_
            | refine SL_not (by rfl) (by rfl) (by rfl) (by decide) ?_
            | refine SL_move (by decide) (by rfl) ?_
            | refine SL_pick_t (by decide) (by rfl) (by rfl) ?_
            | refine SL_pick_f (by decide) (by rfl) (by rfl) ?_
            | (refine SL_eql (by decide) (by rfl) (by rfl) (fun hT => ?_) (fun hT => ?_) <;> first | (exfalso; omega) | skip)
            | refine SC_cond_t (by rfl) ?_
            | refine SC_cond_f (by rfl) ?_
            | fail)
        all_goals first
          | exact SC_skip' fun tm σ hE hH => ⟨(), trivial, tm, σ, rfl, hE.sub ⟨rfl, rfl, rfl, rfl, rfl, rfl, rfl, rfl, rfl, trivial⟩, hH⟩
          | (cases t <;> skip)
        all_goals
          repeat' (first
            | refine SC_cond_t (by rfl) ?_
            | refine SC_cond_f (by rfl) ?_
            | fail)
        all_goals first
          | exact SC_skip' fun tm σ hE hH => ⟨(), trivial, tm, σ, rfl, hE.sub ⟨rfl, rfl, rfl, rfl, rfl, rfl, rfl, rfl, rfl, trivial⟩, hH⟩
          | exact SC_ret (fun tm σ hE hH => PostW.intro (vs := []) (Hn := [(io, _)]) (.inr rfl) hE hH (by rfl) ⟨.head _, trivial⟩ (by simp) (fun p hp => .inl (by simp at hp; simp [hp])) ⟨c, rfl, hq.perm.perm, hq.glob.done (hsrt rfl)⟩)
      · rintro _ _
        have hcmpA : 0 < a → lt (c.getD (a - 1) 0) (c.getD pv 0) := fun ha => hq.glob _ _ (by have := hmid.1; omega) (by have := hmid.2.1; omega) (by omega)
        have hm1 := hmid.1
        have hm2 := hmid.2.1
        repeat' (first
          | refine SC_seq_cut (a := .seq (.region 17 _ _) _) (α := Unit) (fun _ => [(0, .sl io 0 n none), (1, .s (.int .i64 a)), (2, .s (.int .i64 b)), (3, .s (.int .i64 lim')), (4, cv), (10, .s (.bool bal)), (11, .s (.bool part)), (12, .s (.int .i64 (↑b - ↑a))), (13, .s (.int .i64 pv))]) (fun _ => (io, .cells 3 1 ex (ints c)) :: Hx) (fun _ => []) (fun _ => True) ?_ ?_
          | (refine SL_indexAddr_0 (by decide) (by rfl) (by rfl) (.head _) sl52 (a - 1) (by omega) (by omega) ?_)
          | (refine SD_nil (fun tm σ hE hH => ⟨_, _, _, _, _, rfl, hE, hH, fun _ h => (by cases h), ?_⟩); clear hE hH; clear tm σ; intro tm σ hE hH; refine SC.app ?_ hE hH; clear hE hH; clear tm σ)
          | (refine SL_cmp hcmp (by decide) (by rfl) (by rfl) (by rfl) (hSc _ (getD_mem (by omega))) (hSc _ (getD_mem (by omega))) hsx hnx (fun c hc0 hL => ?_) (fun c hc0 hL => ?_) <;> first | (exfalso; exact hL (hcmpA (by omega))) | skip)
          | (refine SC_drawn (id := 17) (pl := [(0, []), (1, []), (2, []), (3, []), (4, []), (5, []), (6, []), (7, []), (8, []), (9, []), (10, []), (11, []), (12, []), (13, []), (14, []), (15, []), (16, [])]) (by kernel_rfl) (by kernel_rfl) ?_; intro B' base hb1 hb2 hb3 hb4)
          | refine SC_seq ?_
          | refine SL_run (by rfl) (by rfl) ?_
          | refine SL_not (by rfl) (by rfl) (by rfl) (by decide) ?_
          | refine SL_move (by decide) (by rfl) ?_
          | refine SL_pick_t (by decide) (by rfl) (by rfl) ?_
          | refine SL_pick_f (by decide) (by rfl) (by rfl) ?_
          | refine SL_not_op (by decide) (by rfl) ?_
          | refine SL_sub (by decide) (by rfl) (by rfl) (by omega) (by omega) ?_
          | (refine SL_lss (by decide) (by rfl) (by rfl) (fun hT => ?_) (fun hT => ?_) <;> first | (exfalso; omega) | skip)
          | (refine SL_gtr (by decide) (by rfl) (by rfl) (fun hT => ?_) (fun hT => ?_) <;> first | (exfalso; omega) | skip)
          | refine SL_indexAddr_0 (by decide) (by rfl) (by rfl) (by repeat (first | exact .head _ | refine .tail _ ?_)) (slF (by rfl)) _ (by first | rfl | exact (Int.toNat_of_nonneg (by omega)).symm) (by omega) ?_
          | refine SL_load_o (by decide) (by rfl) (by repeat (first | exact .head _ | refine .tail _ ?_)) (rowF (by rfl)) (by first | assumption | rfl | exact ints_getD _ (by omega)) (by rfl) ?_
          | refine SC_cond_f (by rfl) ?_
          | (refine SL_nil (fun tm σ hE hH => ⟨_, _, _, _, rfl, hE, hH, ?_⟩); clear hE hH; clear tm σ)
          | refine SD_op _ [] (by rfl) (by rfl) (fun _ h => h) (fun p hp => by cases hp) (fun k hk => by cases hk) (.inl rfl) ?_
          | fail)
        all_goals first
          | exact SC_skip' fun tm σ hE hH => ⟨(), trivial, tm, σ, rfl, hE.sub ⟨rfl, rfl, rfl, rfl, rfl, rfl, rfl, rfl, rfl, trivial⟩, hH⟩
          | rintro _ _
        have h55 := fun (c1 : List Int) (hp : PermIn a b c c1) (x y : Nat) (hxy : x ≤ y) (h12 : y ≤ x + 12) (hy : y ≤ n) => pdqS_fn ho hcmp c1 n (by rw [hp.len, hcl]) (fun u hu => hSc u (hp.perm.subset hu)) ex io x y hxy h12 hy hbig (hp.perm.symm.nodup hcn) lim'
        repeat' (first
          | (refine SL_callW2 (H0 := [(io, _)]) (Hr := Hx) (Hx := Hx) (M := [io]) (by decide) (by rfl) (bl_of bd55) (by rfl) (by rfl) (h55 c1 hP.perm (mid + 1) b (by omega) (by omega) (by omega)) (fun p hp => hp) hnx (fun x hx => by rw [List.mem_singleton] at hx; subst hx; exact ⟨.inr (by simp), List.mem_singleton.2 rfl⟩) ?_; intro v0 Hn0 hB0 hR0; clear hB0; obtain ⟨c2, rfl, hp2, hs2⟩ := hR0; simp only [List.cons_append, List.nil_append])
          | (refine SL_callW2 (H0 := [(io, _)]) (Hr := Hx) (Hx := Hx) (M := [io]) (by decide) (by rfl) (bl_of bd55) (by rfl) (by rfl) (h55 c1 hP.perm a mid (by omega) (by omega) (by omega)) (fun p hp => hp) hnx (fun x hx => by rw [List.mem_singleton] at hx; subst hx; exact ⟨.inr (by simp), List.mem_singleton.2 rfl⟩) ?_; intro v0 Hn0 hB0 hR0; clear hB0; obtain ⟨c2, rfl, hp2, hs2⟩ := hR0; simp only [List.cons_append, List.nil_append])
          | (refine SL_callW2 (H0 := [(io, _)]) (Hr := Hx) (Hx := Hx) (M := [io]) (by decide) (by rfl) (bl_of bd71) (by rfl) (by rfl) (partition_fn ho hcmp c n hcl hSc ex io a b pv hmid.1 hmid.2.1 (by omega) (by omega) hbig hcn) (fun p hp => hp) hnx (fun x hx => by rw [List.mem_singleton] at hx; subst hx; exact ⟨.inr (by simp), List.mem_singleton.2 rfl⟩) ?_; intro v0 Hn0 hB0 hR0; clear hB0; obtain ⟨mid, t, c1, rfl, rfl, hP⟩ := hR0; simp only [List.cons_append, List.nil_append]; have hin := hP.inner hmid hcn (by omega) (fun x hx => hcmp.irr x (hSc x hx)) (fun x y z hx hy hz => hcmp.tr x y z (hSc x hx) (hSc y hy) (hSc z hz)); have hc1l := hP.perm.len)
          | refine SL_quo (by decide) (by rfl) (by rfl) (by omega) (by omega) (by omega) ?_
          | refine SC_seq ?_
          | refine SC_region ?_
          | refine SL_seq ?_
          | refine SL_move (by decide) (by rfl) ?_
          | refine SL_assign (by decide) (by rfl) ?_
          | refine SL_add (by decide) (by rfl) (by rfl) (by omega) (by omega) ?_
          | refine SL_sub (by decide) (by rfl) (by rfl) (by omega) (by omega) ?_
          | (refine SL_lss (by decide) (by rfl) (by rfl) (fun hT => ?_) (fun hT => ?_) <;> first | (exfalso; omega) | skip)
          | (refine SL_geq (by decide) (by rfl) (by rfl) (fun hT => ?_) (fun hT => ?_) <;> first | (exfalso; omega) | skip)
          | refine SL_extract_s (by decide) (by rfl) (by rfl) ?_
          | refine SC_cond_t (by rfl) ?_
          | refine SC_cond_f (by rfl) ?_
          | fail)
        all_goals first
          | exact SL_nil fun tm σ hE hH => ⟨(mid + 1, b, lim', true, t, c2), by show b - (mid + 1) < b - a; omega, (show PQ lt l n (mid + 1) b lim' true c2 from hq.stepL (by omega) hP hin hp2 hs2 htr hnd hl hl1 hl2 (fun h => (by cases h))), tm, σ, rfl, hE.sub ⟨rfl, rfl, rfl, rfl, rfl, rfl, rfl, trivial⟩, hH⟩
          | exact SL_nil fun tm σ hE hH => ⟨(mid + 1, b, lim', false, t, c2), by show b - (mid + 1) < b - a; omega, (show PQ lt l n (mid + 1) b lim' false c2 from hq.stepL (by omega) hP hin hp2 hs2 htr hnd hl hl1 hl2 (fun _ => by omega)), tm, σ, rfl, hE.sub ⟨rfl, rfl, rfl, rfl, rfl, rfl, rfl, trivial⟩, hH⟩
          | exact SL_nil fun tm σ hE hH => ⟨(a, mid, lim', true, t, c2), by show mid - a < b - a; omega, (show PQ lt l n (a) mid lim' true c2 from hq.stepR (by omega) hP hin hp2 hs2 htr hnd hl hl1 hl2 (fun h => (by cases h))), tm, σ, rfl, hE.sub ⟨rfl, rfl, rfl, rfl, rfl, rfl, rfl, trivial⟩, hH⟩
          | exact SL_nil fun tm σ hE hH => ⟨(a, mid, lim', false, t, c2), by show mid - a < b - a; omega, (show PQ lt l n (a) mid lim' false c2 from hq.stepR (by omega) hP hin hp2 hs2 htr hnd hl hl1 hl2 (fun _ => by omega)), tm, σ, rfl, hE.sub ⟨rfl, rfl, rfl, rfl, rfl, rfl, rfl, trivial⟩, hH⟩
theorem sortF_fn (hn24 : n ≤ 24) (hnd : l.Nodup) :
    FnW Tryz.prog G 60 [.sl io 0 n none, cv] [io] ((io, .cells 3 1 ex (ints l)) :: Hx) (fun _ Hn => ∃ c : List Int, Hn = [(io, .cells 3 1 ex (ints c))] ∧ c.Perm l ∧ SortIn lt c 0 n) := by
  have hlb := lenU_bd hn24
  have h56 := len_fn (G := G) n hn24 ho
  have h55 : FnW Tryz.prog G 99 [.sl io 0 n none, .s (.int .i64 0), .s (.int .i64 n), .s (.int .i64 (lenU n)), cv] [io] ((io, .cells 3 1 ex (ints l)) :: Hx) (fun _ Hn => ∃ c : List Int, Hn = [(io, .cells 3 1 ex (ints c))] ∧ c.Perm l ∧ SortIn lt c 0 n) := by
    by_cases h12 : n ≤ 12
    · exact (pdqS_fn ho hcmp l n hl hS ex io 0 n (Nat.zero_le _) (by omega) (Nat.le_refl _) (by omega) hnd (lenU n)).monoW fun v Hn ⟨c, h1, h2, h3⟩ => ⟨c, h1, h2.perm, h3⟩
    · have h : lenU n = ((lenU n).toNat : Int) ∧ 4 ≤ (lenU n).toNat ∧ (16 ≤ n → (lenU n).toNat = 5) := by
        have : n = 13 ∨ n = 14 ∨ n = 15 ∨ n = 16 ∨ n = 17 ∨ n = 18 ∨ n = 19 ∨ n = 20 ∨ n = 21 ∨ n = 22 ∨ n = 23 ∨ n = 24 := by omega
        rcases this with h | h | h | h | h | h | h | h | h | h | h | h <;> rw [h] <;> decide
      rw [h.1]
      exact pdqB_fn ho hcmp l n hl hS ex io (by omega) hn24 hnd (lenU n).toNat h.2.1 (by omega) h.2.2
  refine FnW_body (N := 14) (ho _ _ _ (by rfl)) Tryz.func60 rfl rfl fun B => ?_
  refine SC_nd fun hnd0 => ?_
  have hnx := (List.nodup_cons.1 hnd0).2
  repeat' (first
    | refine SL_conv (by decide) (by rfl) k3_89 (IntWalk.u64_in _ ⟨by omega, by omega⟩) ?_
    | (refine SL_callW2 (H0 := [(io, _)]) (Hr := Hx) (Hx := Hx) (M := [io]) (by decide) (by rfl) (bl_of bd55) (by rfl) (by rfl) h55 (fun p hp => hp) hnx (fun x hx => by rw [List.mem_singleton] at hx; subst hx; exact ⟨.inr (by simp), List.mem_singleton.2 rfl⟩) ?_; intro v0 Hn0 hB0 hR0; clear hB0; obtain ⟨c', rfl, hp', hs'⟩ := hR0; simp only [List.cons_append, List.nil_append])
    | (refine SL_call (by decide) (by rfl) bd56 (by rfl) (by rfl) h56 trivial List.nodup_nil ?_; rintro _ _ _ ⟨rfl, rfl⟩; rw [List.nil_append])
    | refine SC_seq ?_
    | refine SC_region ?_
    | refine SL_seq ?_
    | refine SL_move (by decide) (by rfl) ?_
    | refine SL_assign (by decide) (by rfl) ?_
    | refine SL_len_sl (by decide) (by rfl) (by rfl) (sliceOf_spec (slF (by rfl))).1 ?_
    | fail)
  exact SL_nil fun tm σ hE hH => PostW.intro (vs := []) (Hn := [(io, _)]) (.inl rfl) hE hH (by rfl) ⟨.head _, trivial⟩ (by simp) (fun p hp => .inl (by simp at hp; simp [hp])) ⟨c', rfl, hp', hs'⟩
end
end Go.Proofs.YtnhnlkljcfbhfaaGreatDoor.Tb
