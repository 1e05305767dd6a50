/-
  The functions of the program that the laws here reach, in the small language; each is what the translation gives (checked by the kernel).
-/
import Derived.Test.YtdnfcomgdgdifaaMD
import Derived.Test.YtdnfcomgdgdifaaProg
import Derived.KernelRfl
set_option linter.unusedVariables false
namespace Go.Proofs.Ytdnfcomgdgdifaa
def c_laws_FnExactSpaceOk : IFn := ⟨27, [.t 2],
  (.seq (.reg false [⟨some 1, none, .box (.t 0) 87⟩,
 ⟨some 2, none, .mov (.k (.c (.bool false)))⟩])
 (.seq (.reg false [⟨some 3, none, .mov (.k (.c (.int .i64 1048576)))⟩])
 (.seq (.reg false [⟨some 7, none, .loadN (.t 1) 141⟩,
 ⟨some 8, none, .mov (.t 3)⟩,
 ⟨some 9, none, .call 41 [.t 7, .t 8]⟩,
 ⟨some 3, none, .mov (.t 9)⟩])
 (.seq (.seq (.reg false [⟨some 10, none, .mov (.t 3)⟩,
 ⟨some 11, none, .bin .lss (.t 10) (.k (.c (.int .i64 0)))⟩])
 (.cond (.t 11) (.seq (.reg false [⟨some 2, none, .mov (.k (.c (.bool true)))⟩])
 (.ret (some [2]))) .skip))
 (.seq (.reg false [⟨some 12, none, .loadN (.t 1) 141⟩,
 ⟨some 13, none, .call 43 [.t 12]⟩,
 ⟨some 14, none, .call 42 [.t 13]⟩,
 ⟨some 4, none, .mov (.t 14)⟩])
 (.seq (.reg false [⟨some 15, none, .loadN (.t 1) 141⟩,
 ⟨some 16, none, .call 43 [.t 15]⟩,
 ⟨some 5, none, .alloc [.bool false, .int .i64 0, .int .i64 0, .int .i64 0, .bool false, .int .i64 0, .int .i64 0, .int .i64 0, .bool false, .int .i64 0, .int .i64 0, .int .i64 0, .bool false, .int .i64 0, .int .i64 0, .int .i64 0, .bool false, .int .i64 0, .int .i64 0, .int .i64 0, .bool false, .int .i64 0, .int .i64 0, .int .i64 0, .bool false, .int .i64 0, .int .i64 0, .int .i64 0, .bool false, .int .i64 0, .int .i64 0, .int .i64 0, .bool false, .int .i64 0, .int .i64 0, .int .i64 0, .bool false, .int .i64 0, .int .i64 0, .int .i64 0, .bool false, .int .i64 0, .int .i64 0, .int .i64 0, .bool false, .int .i64 0, .int .i64 0, .int .i64 0, .bool false, .int .i64 0, .int .i64 0, .int .i64 0, .bool false, .int .i64 0, .int .i64 0, .int .i64 0, .bool false, .int .i64 0, .int .i64 0, .int .i64 0, .bool false, .int .i64 0, .int .i64 0, .int .i64 0, .int .i64 0, .int .i64 0, .int .i64 0, .int .i64 0, .int .i64 0, .int .i64 0, .int .i64 0, .int .i64 0, .int .i64 0, .int .i64 0, .int .i64 0, .bool false, .int .i64 0, .int .i64 0, .int .i64 0, .bool false, .int .i64 0, .int .i64 0, .int .i64 0, .bool false, .int .i64 0, .int .i64 0, .int .i64 0, .bool false, .int .i64 0, .int .i64 0, .int .i64 0, .bool false, .int .i64 0, .int .i64 0, .int .i64 0, .bool false, .int .i64 0, .int .i64 0, .int .i64 0, .bool false, .int .i64 0, .int .i64 0, .int .i64 0, .bool false, .int .i64 0, .int .i64 0, .int .i64 0, .bool false, .int .i64 0, .int .i64 0, .int .i64 0, .bool false, .int .i64 0, .int .i64 0, .int .i64 0, .bool false, .int .i64 0, .int .i64 0, .int .i64 0, .bool false, .int .i64 0, .int .i64 0, .int .i64 0, .bool false, .int .i64 0, .int .i64 0, .int .i64 0, .bool false, .int .i64 0, .int .i64 0, .int .i64 0, .bool false, .int .i64 0, .int .i64 0, .int .i64 0, .bool false, .int .i64 0, .int .i64 0, .int .i64 0, .int .i64 0, .nils] 91⟩,
 ⟨none, none, .store (.t 5) (.t 16) 141⟩])
 (.seq (.reg false [⟨some 17, none, .loadN (.t 5) 141⟩,
 ⟨some 18, none, .call 44 [.t 17]⟩,
 ⟨some 6, none, .mov (.t 18)⟩])
 (.seq (.seq (.reg false [⟨some 19, none, .mov (.t 6)⟩,
 ⟨some 20, none, .mov (.t 4)⟩,
 ⟨some 21, none, .binb true (.t 19) (.t 20)⟩])
 (.cond (.t 21) (.seq (.reg false [⟨some 2, none, .mov (.k (.c (.bool false)))⟩])
 (.ret (some [2]))) .skip))
 (.seq (.seq (.regE 0 [⟨⟨some 22, none, .loadN (.t 5) 141⟩, 0, 0, false, []⟩,
 ⟨⟨some 23, none, .loadN (.t 1) 141⟩, 1, 0, false, []⟩,
 ⟨⟨some 24, none, .call 43 [.t 23]⟩, 2, 0, false, [0]⟩,
 ⟨⟨some 25, none, .call 45 [.t 22, .t 24]⟩, 3, 0, false, []⟩,
 ⟨⟨some 26, none, .un .not (.t 25)⟩, 4, 0, false, []⟩])
 (.cond (.t 26) (.seq (.reg false [⟨some 2, none, .mov (.k (.c (.bool false)))⟩])
 (.ret (some [2]))) .skip))
 (.seq (.reg false [⟨some 2, none, .mov (.k (.c (.bool true)))⟩])
 (.ret (some [2]))))))))))))⟩
theorem c_laws_FnExactSpaceOk_ok : trF Try.prog ⟨[], [2], true, false⟩ Try.f7 = some c_laws_FnExactSpaceOk := by kernel_rfl
def c_laws_FnSets_b0 : IC :=
  (.seq (.seq (.reg false [⟨some 27, none, .mov (.t 5)⟩,
 ⟨some 28, none, .mov (.t 4)⟩,
 ⟨some 29, none, .len (.t 28)⟩,
 ⟨some 30, none, .bin .lss (.t 27) (.t 29)⟩])
 (.cond (.t 30) .skip (.exit 0)))
 (.seq (.block 1 none none
 (.seq (.regE 0 [⟨⟨some 33, none, .mov (.t 3)⟩, 0, 0, false, []⟩,
 ⟨⟨some 34, none, .mov (.t 4)⟩, 1, 0, false, []⟩,
 ⟨⟨some 35, none, .mov (.t 5)⟩, 2, 0, false, []⟩,
 ⟨⟨some 36, none, .ixs (.t 34) (.t 35) 1⟩, 3, 0, false, []⟩,
 ⟨⟨some 37, none, .load1 (.t 36)⟩, 4, 0, false, []⟩,
 ⟨⟨some 38, none, .call 49 [.t 33, .t 37]⟩, 5, 0, false, []⟩,
 ⟨⟨some 39, none, .un .not (.t 38)⟩, 6, 0, false, []⟩,
 ⟨⟨some 40, none, .mov (.t 39)⟩, 7, 0, false, []⟩,
 ⟨⟨some 41, some (40, false), .mov (.t 5)⟩, 8, 0, false, []⟩,
 ⟨⟨some 42, some (40, false), .bin .gtr (.t 41) (.k (.c (.int .i64 0)))⟩, 9, 0, false, []⟩,
 ⟨⟨some 43, some (40, false), .mov (.t 42)⟩, 10, 0, false, []⟩,
 ⟨⟨some 44, some (43, true), .mov (.t 4)⟩, 11, 0, false, []⟩,
 ⟨⟨some 45, some (43, true), .mov (.t 5)⟩, 12, 0, false, []⟩,
 ⟨⟨some 46, some (43, true), .bin .sub (.t 45) (.k (.c (.int .i64 1)))⟩, 13, 0, false, []⟩,
 ⟨⟨some 47, some (43, true), .ixs (.t 44) (.t 46) 1⟩, 14, 0, false, []⟩,
 ⟨⟨some 48, some (43, true), .load1 (.t 47)⟩, 15, 0, false, []⟩,
 ⟨⟨some 49, some (43, true), .mov (.t 4)⟩, 16, 0, false, []⟩,
 ⟨⟨some 50, some (43, true), .mov (.t 5)⟩, 17, 0, false, []⟩,
 ⟨⟨some 51, some (43, true), .ixs (.t 49) (.t 50) 1⟩, 18, 0, false, []⟩,
 ⟨⟨some 52, some (43, true), .load1 (.t 51)⟩, 19, 0, false, []⟩,
 ⟨⟨some 53, some (43, true), .bin .geq (.t 48) (.t 52)⟩, 20, 0, false, []⟩,
 ⟨⟨some 54, some (40, false), .pick (.t 43) (.t 53) (.k (.c (.bool false)))⟩, 21, 0, false, []⟩,
 ⟨⟨some 55, none, .pick (.t 40) (.k (.c (.bool true))) (.t 54)⟩, 22, 0, false, []⟩])
 (.cond (.t 55) (.seq (.reg false [⟨some 2, none, .mov (.k (.c (.bool false)))⟩])
 (.ret (some [2]))) .skip)))
 (.reg false [⟨some 31, none, .mov (.t 5)⟩,
 ⟨some 32, none, .bin .add (.t 31) (.k (.c (.int .i64 1)))⟩,
 ⟨some 5, none, .mov (.t 32)⟩])))
def c_laws_FnSets_b1 : IC :=
  (.seq (.seq (.reg false [⟨some 135, none, .mov (.t 12)⟩,
 ⟨some 136, none, .bin .lss (.t 135) (.k (.c (.int .i64 4)))⟩])
 (.cond (.t 136) .skip (.exit 2)))
 (.seq (.block 3 none none
 (.reg false [⟨some 140, none, .mov (.t 11)⟩,
 ⟨some 141, none, .mov (.t 0)⟩,
 ⟨some 142, none, .mov (.t 12)⟩,
 ⟨some 143, none, .bin .add (.t 142) (.k (.c (.int .i64 2)))⟩,
 ⟨some 144, none, .call 17 [.t 141, .t 143]⟩,
 ⟨some 145, none, .bin .rem (.t 144) (.k (.c (.int .i64 40)))⟩,
 ⟨some 146, none, .call 50 [.t 140, .t 145]⟩,
 ⟨some 139, none, .mov (.t 146)⟩,
 ⟨some 147, none, .ext (.t 139) 0⟩,
 ⟨some 148, none, .ext (.t 139) 1⟩,
 ⟨some 11, none, .mov (.t 147)⟩]))
 (.reg false [⟨some 137, none, .mov (.t 12)⟩,
 ⟨some 138, none, .bin .add (.t 137) (.k (.c (.int .i64 1)))⟩,
 ⟨some 12, none, .mov (.t 138)⟩])))
def c_laws_FnSets_b2 : IC :=
  (.seq (.seq (.reg false [⟨some 162, none, .mov (.t 16)⟩,
 ⟨some 163, none, .mov (.t 15)⟩,
 ⟨some 164, none, .len (.t 163)⟩,
 ⟨some 165, none, .bin .lss (.t 162) (.t 164)⟩])
 (.cond (.t 165) .skip (.exit 4)))
 (.seq (.block 5 none none
 (.seq (.reg false [⟨some 168, none, .mov (.t 3)⟩,
 ⟨some 169, none, .mov (.t 15)⟩,
 ⟨some 170, none, .mov (.t 16)⟩,
 ⟨some 171, none, .ixs (.t 169) (.t 170) 1⟩,
 ⟨some 172, none, .load1 (.t 171)⟩,
 ⟨some 173, none, .call 49 [.t 168, .t 172]⟩,
 ⟨some 174, none, .un .not (.t 173)⟩,
 ⟨some 175, none, .mov (.t 174)⟩,
 ⟨some 176, some (175, true), .mov (.t 11)⟩,
 ⟨some 177, some (175, true), .mov (.t 15)⟩,
 ⟨some 178, some (175, true), .mov (.t 16)⟩,
 ⟨some 179, some (175, true), .ixs (.t 177) (.t 178) 1⟩,
 ⟨some 180, some (175, true), .load1 (.t 179)⟩,
 ⟨some 181, some (175, true), .call 49 [.t 176, .t 180]⟩,
 ⟨some 182, some (175, true), .un .not (.t 181)⟩,
 ⟨some 183, none, .pick (.t 175) (.t 182) (.k (.c (.bool false)))⟩])
 (.cond (.t 183) (.seq (.reg false [⟨some 2, none, .mov (.k (.c (.bool false)))⟩])
 (.ret (some [2]))) .skip)))
 (.reg false [⟨some 166, none, .mov (.t 16)⟩,
 ⟨some 167, none, .bin .add (.t 166) (.k (.c (.int .i64 1)))⟩,
 ⟨some 16, none, .mov (.t 167)⟩])))
def c_laws_FnSets_b3 : IC :=
  (.seq (.seq (.reg false [⟨some 184, none, .mov (.t 17)⟩,
 ⟨some 185, none, .mov (.t 4)⟩,
 ⟨some 186, none, .len (.t 185)⟩,
 ⟨some 187, none, .bin .lss (.t 184) (.t 186)⟩])
 (.cond (.t 187) .skip (.exit 6)))
 (.seq (.block 7 none none
 (.seq (.reg false [⟨some 190, none, .mov (.t 15)⟩,
 ⟨some 191, none, .mov (.t 4)⟩,
 ⟨some 192, none, .mov (.t 17)⟩,
 ⟨some 193, none, .ixs (.t 191) (.t 192) 1⟩,
 ⟨some 194, none, .load1 (.t 193)⟩,
 ⟨some 195, none, .call 31 [.t 190, .t 194]⟩,
 ⟨some 196, none, .un .not (.t 195)⟩])
 (.cond (.t 196) (.seq (.reg false [⟨some 2, none, .mov (.k (.c (.bool false)))⟩])
 (.ret (some [2]))) .skip)))
 (.reg false [⟨some 188, none, .mov (.t 17)⟩,
 ⟨some 189, none, .bin .add (.t 188) (.k (.c (.int .i64 1)))⟩,
 ⟨some 17, none, .mov (.t 189)⟩])))
def c_laws_FnSets : IFn := ⟨210, [.t 2],
  (.seq (.reg false [⟨some 2, none, .mov (.k (.c (.bool false)))⟩])
 (.seq (.seq (.reg false [⟨some 18, none, .mov (.t 0)⟩,
 ⟨some 19, none, .call 10 [.t 18]⟩])
 (.cond (.t 19) (.seq (.reg false [⟨some 2, none, .mov (.k (.c (.bool true)))⟩])
 (.ret (some [2]))) .skip))
 (.seq (.reg false [⟨some 20, none, .mov (.t 0)⟩,
 ⟨some 21, none, .call 46 [.t 20]⟩,
 ⟨some 3, none, .mov (.t 21)⟩])
 (.seq (.reg false [⟨some 22, none, .mov (.t 3)⟩,
 ⟨some 23, none, .call 47 [.t 22]⟩,
 ⟨some 4, none, .mov (.t 23)⟩])
 (.seq (.seq (.reg false [⟨some 24, none, .mov (.t 3)⟩,
 ⟨some 25, none, .call 48 [.t 24]⟩,
 ⟨some 26, none, .un .not (.t 25)⟩])
 (.cond (.t 26) (.seq (.reg false [⟨some 2, none, .mov (.k (.c (.bool false)))⟩])
 (.ret (some [2]))) .skip))
 (.seq (.seq (.reg false [⟨some 5, none, .mov (.k (.c (.int .i64 0)))⟩])
 (.block 0 (some [0, 3, 4, 5]) (some [0, 3, 4])
 (.loop c_laws_FnSets_b0)))
 (.seq (.reg false [⟨some 56, none, .mov (.t 0)⟩,
 ⟨some 57, none, .call 17 [.t 56, .k (.c (.int .i64 1))]⟩,
 ⟨some 58, none, .bin .rem (.t 57) (.k (.c (.int .i64 60)))⟩,
 ⟨some 59, none, .bin .sub (.t 58) (.k (.c (.int .i64 20)))⟩,
 ⟨some 6, none, .mov (.t 59)⟩])
 (.seq (.reg false [⟨some 61, none, .mov (.t 3)⟩,
 ⟨some 62, none, .mov (.t 6)⟩,
 ⟨some 63, none, .call 50 [.t 61, .t 62]⟩,
 ⟨some 60, none, .mov (.t 63)⟩,
 ⟨some 64, none, .ext (.t 60) 0⟩,
 ⟨some 65, none, .ext (.t 60) 1⟩,
 ⟨some 7, none, .mov (.t 64)⟩,
 ⟨some 8, none, .mov (.t 65)⟩])
 (.seq (.seq (.reg false [⟨some 66, none, .mov (.t 8)⟩,
 ⟨some 67, none, .bin .eql (.t 66) (.k (.c (.int .i64 0)))⟩,
 ⟨some 68, none, .mov (.t 67)⟩,
 ⟨some 69, some (68, true), .mov (.t 7)⟩,
 ⟨some 70, some (68, true), .mov (.t 6)⟩,
 ⟨some 71, some (68, true), .call 49 [.t 69, .t 70]⟩,
 ⟨some 72, some (68, true), .un .not (.t 71)⟩,
 ⟨some 73, none, .pick (.t 68) (.t 72) (.k (.c (.bool false)))⟩,
 ⟨some 74, none, .mov (.t 73)⟩,
 ⟨some 75, some (74, false), .mov (.t 8)⟩,
 ⟨some 76, some (74, false), .bin .eql (.t 75) (.k (.c (.int .i64 2)))⟩,
 ⟨some 77, some (74, false), .mov (.t 4)⟩,
 ⟨some 78, some (74, false), .mov (.t 6)⟩,
 ⟨some 79, some (74, false), .call 31 [.t 77, .t 78]⟩,
 ⟨some 80, some (74, false), .binb true (.t 76) (.t 79)⟩,
 ⟨some 81, none, .pick (.t 74) (.k (.c (.bool true))) (.t 80)⟩,
 ⟨some 82, none, .mov (.t 81)⟩,
 ⟨some 83, some (82, false), .mov (.t 7)⟩,
 ⟨some 84, some (82, false), .call 48 [.t 83]⟩,
 ⟨some 85, some (82, false), .un .not (.t 84)⟩,
 ⟨some 86, none, .pick (.t 82) (.k (.c (.bool true))) (.t 85)⟩,
 ⟨some 87, none, .mov (.t 86)⟩,
 ⟨some 88, some (87, false), .mov (.t 8)⟩,
 ⟨some 89, some (87, false), .bin .neq (.t 88) (.k (.c (.int .i64 0)))⟩,
 ⟨some 90, some (87, false), .mov (.t 89)⟩,
 ⟨some 91, some (90, true), .mov (.t 7)⟩,
 ⟨some 92, some (90, true), .mov (.t 3)⟩,
 ⟨some 93, some (90, true), .call 51 [.t 91, .t 92]⟩,
 ⟨some 94, some (90, true), .un .not (.t 93)⟩,
 ⟨some 95, some (87, false), .pick (.t 90) (.t 94) (.k (.c (.bool false)))⟩,
 ⟨some 96, none, .pick (.t 87) (.k (.c (.bool true))) (.t 95)⟩])
 (.cond (.t 96) (.seq (.reg false [⟨some 2, none, .mov (.k (.c (.bool false)))⟩])
 (.ret (some [2]))) .skip))
 (.seq (.reg false [⟨some 98, none, .mov (.t 7)⟩,
 ⟨some 99, none, .mov (.t 6)⟩,
 ⟨some 100, none, .call 52 [.t 98, .t 99]⟩,
 ⟨some 97, none, .mov (.t 100)⟩,
 ⟨some 101, none, .ext (.t 97) 0⟩,
 ⟨some 102, none, .ext (.t 97) 1⟩,
 ⟨some 9, none, .mov (.t 101)⟩,
 ⟨some 10, none, .mov (.t 102)⟩])
 (.seq (.seq (.reg false [⟨some 103, none, .mov (.t 10)⟩,
 ⟨some 104, none, .bin .eql (.t 103) (.k (.c (.int .i64 0)))⟩,
 ⟨some 105, none, .mov (.t 104)⟩,
 ⟨some 106, some (105, true), .mov (.t 9)⟩,
 ⟨some 107, some (105, true), .mov (.t 6)⟩,
 ⟨some 108, some (105, true), .call 49 [.t 106, .t 107]⟩,
 ⟨some 109, some (105, true), .mov (.t 108)⟩,
 ⟨some 110, some (109, false), .mov (.t 9)⟩,
 ⟨some 111, some (109, false), .call 47 [.t 110]⟩,
 ⟨some 112, some (109, false), .len (.t 111)⟩,
 ⟨some 113, some (109, false), .mov (.t 7)⟩,
 ⟨some 114, some (109, false), .call 47 [.t 113]⟩,
 ⟨some 115, some (109, false), .len (.t 114)⟩,
 ⟨some 116, some (109, false), .bin .sub (.t 115) (.k (.c (.int .i64 1)))⟩,
 ⟨some 117, some (109, false), .bin .neq (.t 112) (.t 116)⟩,
 ⟨some 118, some (105, true), .pick (.t 109) (.k (.c (.bool true))) (.t 117)⟩,
 ⟨some 119, none, .pick (.t 105) (.t 118) (.k (.c (.bool false)))⟩,
 ⟨some 120, none, .mov (.t 119)⟩,
 ⟨some 121, some (120, false), .mov (.t 8)⟩,
 ⟨some 122, some (120, false), .bin .eql (.t 121) (.k (.c (.int .i64 0)))⟩,
 ⟨some 123, some (120, false), .mov (.t 122)⟩,
 ⟨some 124, some (123, true), .mov (.t 10)⟩,
 ⟨some 125, some (123, true), .bin .neq (.t 124) (.k (.c (.int .i64 0)))⟩,
 ⟨some 126, some (123, true), .mov (.t 125)⟩,
 ⟨some 127, some (126, false), .mov (.t 9)⟩,
 ⟨some 128, some (126, false), .mov (.t 3)⟩,
 ⟨some 129, some (126, false), .call 51 [.t 127, .t 128]⟩,
 ⟨some 130, some (126, false), .un .not (.t 129)⟩,
 ⟨some 131, some (123, true), .pick (.t 126) (.k (.c (.bool true))) (.t 130)⟩,
 ⟨some 132, some (120, false), .pick (.t 123) (.t 131) (.k (.c (.bool false)))⟩,
 ⟨some 133, none, .pick (.t 120) (.k (.c (.bool true))) (.t 132)⟩])
 (.cond (.t 133) (.seq (.reg false [⟨some 2, none, .mov (.k (.c (.bool false)))⟩])
 (.ret (some [2]))) .skip))
 (.seq (.reg false [⟨some 134, none, .call 53 []⟩,
 ⟨some 11, none, .mov (.t 134)⟩])
 (.seq (.seq (.reg false [⟨some 12, none, .mov (.k (.c (.int .i64 0)))⟩])
 (.block 2 (some [0, 3, 4, 11, 12]) (some [3, 4, 11])
 (.loop c_laws_FnSets_b1)))
 (.seq (.reg false [⟨some 150, none, .mov (.t 3)⟩,
 ⟨some 151, none, .mov (.t 11)⟩,
 ⟨some 152, none, .call 54 [.t 150, .t 151]⟩,
 ⟨some 149, none, .mov (.t 152)⟩,
 ⟨some 153, none, .ext (.t 149) 0⟩,
 ⟨some 154, none, .ext (.t 149) 1⟩,
 ⟨some 13, none, .mov (.t 153)⟩,
 ⟨some 14, none, .mov (.t 154)⟩])
 (.seq (.seq (.reg false [⟨some 155, none, .mov (.t 14)⟩,
 ⟨some 156, none, .bin .eql (.t 155) (.k (.c (.int .i64 3)))⟩])
 (.cond (.t 156) (.seq (.reg false [⟨some 157, none, .mov (.t 13)⟩,
 ⟨some 158, none, .mov (.t 3)⟩,
 ⟨some 159, none, .call 51 [.t 157, .t 158]⟩,
 ⟨some 2, none, .mov (.t 159)⟩])
 (.ret (some [2]))) .skip))
 (.seq (.reg false [⟨some 160, none, .mov (.t 13)⟩,
 ⟨some 161, none, .call 47 [.t 160]⟩,
 ⟨some 15, none, .mov (.t 161)⟩])
 (.seq (.seq (.reg false [⟨some 16, none, .mov (.k (.c (.int .i64 0)))⟩])
 (.block 4 (some [3, 4, 11, 13, 14, 15, 16]) (some [4, 13, 14, 15])
 (.loop c_laws_FnSets_b2)))
 (.seq (.seq (.reg false [⟨some 17, none, .mov (.k (.c (.int .i64 0)))⟩])
 (.block 6 (some [4, 13, 14, 15, 17]) (some [13, 14])
 (.loop c_laws_FnSets_b3)))
 (.seq (.reg false [⟨some 197, none, .mov (.t 14)⟩,
 ⟨some 198, none, .bin .eql (.t 197) (.k (.c (.int .i64 0)))⟩,
 ⟨some 199, none, .mov (.t 198)⟩,
 ⟨some 200, some (199, true), .mov (.t 13)⟩,
 ⟨some 201, some (199, true), .mov (.t 13)⟩,
 ⟨some 202, some (199, true), .call 51 [.t 200, .t 201]⟩,
 ⟨some 203, none, .pick (.t 199) (.t 202) (.k (.c (.bool false)))⟩,
 ⟨some 204, none, .mov (.t 203)⟩,
 ⟨some 205, some (204, true), .call 53 []⟩,
 ⟨some 206, some (204, true), .call 47 [.t 205]⟩,
 ⟨some 207, some (204, true), .len (.t 206)⟩,
 ⟨some 208, some (204, true), .bin .eql (.t 207) (.k (.c (.int .i64 0)))⟩,
 ⟨some 209, none, .pick (.t 204) (.t 208) (.k (.c (.bool false)))⟩,
 ⟨some 2, none, .mov (.t 209)⟩])
 (.ret (some [2])))))))))))))))))))))⟩
theorem c_laws_FnSets_ok : trF Try.prog ⟨[(0, [0, 3, 4, 5], [0, 3, 4]), (2, [0, 3, 4, 11, 12], [3, 4, 11]), (4, [3, 4, 11, 13, 14, 15, 16], [4, 13, 14, 15]), (6, [4, 13, 14, 15, 17], [13, 14])], [2], true, true⟩ Try.f8 = some c_laws_FnSets := by kernel_rfl
def c_laws_FnExactNewBench : IFn := ⟨36, [.t 0],
  (.seq (.reg false [⟨some 0, none, .mov (.k (.c (.bool false)))⟩])
 (.seq (.reg false [⟨some 6, none, .call 55 []⟩,
 ⟨some 1, none, .alloc [.nils, .nils, .nils, .nils, .nils, .nils, .nils, .bool false, .bool false, .int .i64 0, .int .i64 0, .int .i64 0, .bool false, .int .i64 0, .int .i64 0, .int .i64 0, .bool false, .int .i64 0, .int .i64 0, .int .i64 0, .bool false, .int .i64 0, .int .i64 0, .int .i64 0, .bool false, .int .i64 0, .int .i64 0, .int .i64 0, .bool false, .int .i64 0, .int .i64 0, .int .i64 0, .bool false, .int .i64 0, .int .i64 0, .int .i64 0, .bool false, .int .i64 0, .int .i64 0, .int .i64 0, .bool false, .int .i64 0, .int .i64 0, .int .i64 0, .bool false, .int .i64 0, .int .i64 0, .int .i64 0, .bool false, .int .i64 0, .int .i64 0, .int .i64 0, .bool false, .int .i64 0, .int .i64 0, .int .i64 0, .bool false, .int .i64 0, .int .i64 0, .int .i64 0, .bool false, .int .i64 0, .int .i64 0, .int .i64 0, .bool false, .int .i64 0, .int .i64 0, .int .i64 0, .bool false, .int .i64 0, .int .i64 0, .int .i64 0, .int .i64 0, .int .i64 0, .int .i64 0, .int .i64 0, .int .i64 0, .int .i64 0, .int .i64 0, .int .i64 0, .int .i64 0, .int .i64 0, .int .i64 0, .bool false, .int .i64 0, .int .i64 0, .int .i64 0, .bool false, .int .i64 0, .int .i64 0, .int .i64 0, .bool false, .int .i64 0, .int .i64 0, .int .i64 0, .bool false, .int .i64 0, .int .i64 0, .int .i64 0, .bool false, .int .i64 0, .int .i64 0, .int .i64 0, .bool false, .int .i64 0, .int .i64 0, .int .i64 0, .bool false, .int .i64 0, .int .i64 0, .int .i64 0, .bool false, .int .i64 0, .int .i64 0, .int .i64 0, .bool false, .int .i64 0, .int .i64 0, .int .i64 0, .bool false, .int .i64 0, .int .i64 0, .int .i64 0, .bool false, .int .i64 0, .int .i64 0, .int .i64 0, .bool false, .int .i64 0, .int .i64 0, .int .i64 0, .bool false, .int .i64 0, .int .i64 0, .int .i64 0, .bool false, .int .i64 0, .int .i64 0, .int .i64 0, .bool false, .int .i64 0, .int .i64 0, .int .i64 0, .bool false, .int .i64 0, .int .i64 0, .int .i64 0, .int .i64 0, .nils] 114⟩,
 ⟨none, none, .store (.t 1) (.t 6) 149⟩])
 (.seq (.reg false [⟨some 7, none, .call 56 []⟩,
 ⟨some 2, none, .alloc [.nils, .nils, .nils, .nils, .nils, .nils, .nils, .bool false, .bool false, .int .i64 0, .int .i64 0, .int .i64 0, .bool false, .int .i64 0, .int .i64 0, .int .i64 0, .bool false, .int .i64 0, .int .i64 0, .int .i64 0, .bool false, .int .i64 0, .int .i64 0, .int .i64 0, .bool false, .int .i64 0, .int .i64 0, .int .i64 0, .bool false, .int .i64 0, .int .i64 0, .int .i64 0, .bool false, .int .i64 0, .int .i64 0, .int .i64 0, .bool false, .int .i64 0, .int .i64 0, .int .i64 0, .bool false, .int .i64 0, .int .i64 0, .int .i64 0, .bool false, .int .i64 0, .int .i64 0, .int .i64 0, .bool false, .int .i64 0, .int .i64 0, .int .i64 0, .bool false, .int .i64 0, .int .i64 0, .int .i64 0, .bool false, .int .i64 0, .int .i64 0, .int .i64 0, .bool false, .int .i64 0, .int .i64 0, .int .i64 0, .bool false, .int .i64 0, .int .i64 0, .int .i64 0, .bool false, .int .i64 0, .int .i64 0, .int .i64 0, .int .i64 0, .int .i64 0, .int .i64 0, .int .i64 0, .int .i64 0, .int .i64 0, .int .i64 0, .int .i64 0, .int .i64 0, .int .i64 0, .int .i64 0, .bool false, .int .i64 0, .int .i64 0, .int .i64 0, .bool false, .int .i64 0, .int .i64 0, .int .i64 0, .bool false, .int .i64 0, .int .i64 0, .int .i64 0, .bool false, .int .i64 0, .int .i64 0, .int .i64 0, .bool false, .int .i64 0, .int .i64 0, .int .i64 0, .bool false, .int .i64 0, .int .i64 0, .int .i64 0, .bool false, .int .i64 0, .int .i64 0, .int .i64 0, .bool false, .int .i64 0, .int .i64 0, .int .i64 0, .bool false, .int .i64 0, .int .i64 0, .int .i64 0, .bool false, .int .i64 0, .int .i64 0, .int .i64 0, .bool false, .int .i64 0, .int .i64 0, .int .i64 0, .bool false, .int .i64 0, .int .i64 0, .int .i64 0, .bool false, .int .i64 0, .int .i64 0, .int .i64 0, .bool false, .int .i64 0, .int .i64 0, .int .i64 0, .bool false, .int .i64 0, .int .i64 0, .int .i64 0, .bool false, .int .i64 0, .int .i64 0, .int .i64 0, .int .i64 0, .nils] 114⟩,
 ⟨none, none, .store (.t 2) (.t 7) 149⟩])
 (.seq (.seq (.reg false [⟨some 8, none, .loadN (.t 2) 149⟩,
 ⟨some 9, none, .loadN (.t 1) 149⟩,
 ⟨some 10, none, .call 57 [.t 8, .t 9]⟩,
 ⟨some 11, none, .un .not (.t 10)⟩])
 (.cond (.t 11) (.seq (.reg false [⟨some 0, none, .mov (.k (.c (.bool false)))⟩])
 (.ret (some [0]))) .skip))
 (.seq (.reg false [⟨some 3, none, .mov (.k (.c (.int .i64 1)))⟩])
 (.seq (.reg false [⟨some 12, none, .loadN (.t 2) 149⟩,
 ⟨some 13, none, .mov (.t 3)⟩,
 ⟨some 14, none, .call 58 [.t 12, .t 13]⟩,
 ⟨some 3, none, .mov (.t 14)⟩])
 (.seq (.reg false [⟨some 4, none, .mov (.k (.c (.int .i64 1)))⟩])
 (.seq (.reg false [⟨some 15, none, .loadN (.t 2) 149⟩,
 ⟨some 16, none, .mov (.t 4)⟩,
 ⟨some 17, none, .call 59 [.t 15, .t 16]⟩,
 ⟨some 4, none, .mov (.t 17)⟩])
 (.seq (.seq (.reg false [⟨some 18, none, .mov (.t 4)⟩,
 ⟨some 19, none, .bin .lss (.t 18) (.k (.c (.int .i64 0)))⟩])
 (.cond (.t 19) (.seq (.reg false [⟨some 0, none, .mov (.k (.c (.bool false)))⟩])
 (.ret (some [0]))) .skip))
 (.seq (.seq (.reg false [⟨some 20, none, .mov (.t 4)⟩,
 ⟨some 21, none, .mov (.t 3)⟩,
 ⟨some 22, none, .bin .neq (.t 20) (.t 21)⟩])
 (.cond (.t 22) (.seq (.reg false [⟨some 0, none, .mov (.k (.c (.bool false)))⟩])
 (.ret (some [0]))) .skip))
 (.seq (.reg false [⟨some 23, none, .call 56 []⟩,
 ⟨some 5, none, .alloc [.nils, .nils, .nils, .nils, .nils, .nils, .nils, .bool false, .bool false, .int .i64 0, .int .i64 0, .int .i64 0, .bool false, .int .i64 0, .int .i64 0, .int .i64 0, .bool false, .int .i64 0, .int .i64 0, .int .i64 0, .bool false, .int .i64 0, .int .i64 0, .int .i64 0, .bool false, .int .i64 0, .int .i64 0, .int .i64 0, .bool false, .int .i64 0, .int .i64 0, .int .i64 0, .bool false, .int .i64 0, .int .i64 0, .int .i64 0, .bool false, .int .i64 0, .int .i64 0, .int .i64 0, .bool false, .int .i64 0, .int .i64 0, .int .i64 0, .bool false, .int .i64 0, .int .i64 0, .int .i64 0, .bool false, .int .i64 0, .int .i64 0, .int .i64 0, .bool false, .int .i64 0, .int .i64 0, .int .i64 0, .bool false, .int .i64 0, .int .i64 0, .int .i64 0, .bool false, .int .i64 0, .int .i64 0, .int .i64 0, .bool false, .int .i64 0, .int .i64 0, .int .i64 0, .bool false, .int .i64 0, .int .i64 0, .int .i64 0, .int .i64 0, .int .i64 0, .int .i64 0, .int .i64 0, .int .i64 0, .int .i64 0, .int .i64 0, .int .i64 0, .int .i64 0, .int .i64 0, .int .i64 0, .bool false, .int .i64 0, .int .i64 0, .int .i64 0, .bool false, .int .i64 0, .int .i64 0, .int .i64 0, .bool false, .int .i64 0, .int .i64 0, .int .i64 0, .bool false, .int .i64 0, .int .i64 0, .int .i64 0, .bool false, .int .i64 0, .int .i64 0, .int .i64 0, .bool false, .int .i64 0, .int .i64 0, .int .i64 0, .bool false, .int .i64 0, .int .i64 0, .int .i64 0, .bool false, .int .i64 0, .int .i64 0, .int .i64 0, .bool false, .int .i64 0, .int .i64 0, .int .i64 0, .bool false, .int .i64 0, .int .i64 0, .int .i64 0, .bool false, .int .i64 0, .int .i64 0, .int .i64 0, .bool false, .int .i64 0, .int .i64 0, .int .i64 0, .bool false, .int .i64 0, .int .i64 0, .int .i64 0, .bool false, .int .i64 0, .int .i64 0, .int .i64 0, .bool false, .int .i64 0, .int .i64 0, .int .i64 0, .bool false, .int .i64 0, .int .i64 0, .int .i64 0, .int .i64 0, .nils] 114⟩,
 ⟨none, none, .store (.t 5) (.t 23) 149⟩])
 (.seq (.seq (.reg false [⟨some 24, none, .loadN (.t 5) 149⟩,
 ⟨some 25, none, .loadN (.t 1) 149⟩,
 ⟨some 26, none, .call 57 [.t 24, .t 25]⟩,
 ⟨some 27, none, .un .not (.t 26)⟩])
 (.cond (.t 27) (.seq (.reg false [⟨some 0, none, .mov (.k (.c (.bool false)))⟩])
 (.ret (some [0]))) .skip))
 (.seq (.reg false [⟨some 4, none, .mov (.k (.c (.int .i64 1)))⟩])
 (.seq (.reg false [⟨some 28, none, .loadN (.t 2) 149⟩,
 ⟨some 29, none, .mov (.t 4)⟩,
 ⟨some 30, none, .call 59 [.t 28, .t 29]⟩,
 ⟨some 4, none, .mov (.t 30)⟩])
 (.seq (.seq (.reg false [⟨some 31, none, .mov (.t 4)⟩,
 ⟨some 32, none, .bin .lss (.t 31) (.k (.c (.int .i64 0)))⟩])
 (.cond (.t 32) (.seq (.reg false [⟨some 0, none, .mov (.k (.c (.bool false)))⟩])
 (.ret (some [0]))) .skip))
 (.seq (.seq (.reg false [⟨some 33, none, .mov (.t 4)⟩,
 ⟨some 34, none, .mov (.t 3)⟩,
 ⟨some 35, none, .bin .neq (.t 33) (.t 34)⟩])
 (.cond (.t 35) (.seq (.reg false [⟨some 0, none, .mov (.k (.c (.bool false)))⟩])
 (.ret (some [0]))) .skip))
 (.seq (.reg false [⟨some 0, none, .mov (.k (.c (.bool true)))⟩])
 (.ret (some [0])))))))))))))))))))⟩
theorem c_laws_FnExactNewBench_ok : trF Try.prog ⟨[], [0], false, false⟩ Try.f9 = some c_laws_FnExactNewBench := by kernel_rfl
def c_laws_big : IFn := ⟨6, [.t 2],
  (.seq (.reg false [⟨some 2, none, .mov (.k (.c (.bool false)))⟩])
 (.seq (.reg false [⟨some 3, none, .mov (.t 0)⟩,
 ⟨some 4, none, .len (.t 3)⟩,
 ⟨some 5, none, .bin .gtr (.t 4) (.k (.c (.int .i64 1048576)))⟩,
 ⟨some 2, none, .mov (.t 5)⟩])
 (.ret (some [2]))))⟩
theorem c_laws_big_ok : trF Try.prog ⟨[], [2], false, false⟩ Try.f10 = some c_laws_big := by kernel_rfl
def c_impl_RingOk_b0 : IC :=
  (.seq (.seq (.reg false [⟨some 22, none, .mov (.t 3)⟩,
 ⟨some 23, none, .bin .lss (.t 22) (.k (.c (.int .i64 8)))⟩])
 (.cond (.t 23) .skip (.exit 0)))
 (.seq (.block 1 none none
 (.seq (.reg false [⟨some 26, none, .fld (.t 1) 8⟩,
 ⟨some 27, none, .load1 (.t 26)⟩,
 ⟨some 28, none, .mov (.t 3)⟩,
 ⟨some 29, none, .bin .add (.t 27) (.t 28)⟩,
 ⟨some 30, none, .bin .rem (.t 29) (.k (.c (.int .i64 8)))⟩,
 ⟨some 31, none, .fld (.t 1) 0⟩,
 ⟨some 32, none, .ixa (.t 31) (.t 30) 8 1⟩,
 ⟨some 33, none, .load1 (.t 32)⟩,
 ⟨some 34, none, .bin .neq (.t 33) (.k (.c (.int .i64 0)))⟩])
 (.cond (.t 34) (.seq (.reg false [⟨some 2, none, .mov (.k (.c (.bool false)))⟩])
 (.ret (some [2]))) .skip)))
 (.reg false [⟨some 24, none, .mov (.t 3)⟩,
 ⟨some 25, none, .bin .add (.t 24) (.k (.c (.int .i64 1)))⟩,
 ⟨some 3, none, .mov (.t 25)⟩])))
def c_impl_RingOk : IFn := ⟨35, [.t 2],
  (.seq (.reg false [⟨some 1, none, .box (.t 0) 26⟩,
 ⟨some 2, none, .mov (.k (.c (.bool false)))⟩])
 (.seq (.seq (.reg false [⟨some 4, none, .fld (.t 1) 8⟩,
 ⟨some 5, none, .load1 (.t 4)⟩,
 ⟨some 6, none, .call 63 [.t 5, .k (.c (.int .i64 0)), .k (.c (.int .i64 7))]⟩,
 ⟨some 7, none, .un .not (.t 6)⟩,
 ⟨some 8, none, .mov (.t 7)⟩,
 ⟨some 9, some (8, false), .fld (.t 1) 9⟩,
 ⟨some 10, some (8, false), .load1 (.t 9)⟩,
 ⟨some 11, some (8, false), .call 63 [.t 10, .k (.c (.int .i64 0)), .k (.c (.int .i64 8))]⟩,
 ⟨some 12, some (8, false), .un .not (.t 11)⟩,
 ⟨some 13, none, .pick (.t 8) (.k (.c (.bool true))) (.t 12)⟩,
 ⟨some 14, none, .mov (.t 13)⟩,
 ⟨some 15, some (14, false), .fld (.t 1) 0⟩,
 ⟨some 16, some (14, false), .sla (.t 15) 8 1 none none⟩,
 ⟨some 17, some (14, false), .call 64 [.t 16]⟩,
 ⟨some 18, some (14, false), .un .not (.t 17)⟩,
 ⟨some 19, none, .pick (.t 14) (.k (.c (.bool true))) (.t 18)⟩])
 (.cond (.t 19) (.seq (.reg false [⟨some 2, none, .mov (.k (.c (.bool false)))⟩])
 (.ret (some [2]))) .skip))
 (.seq (.seq (.reg false [⟨some 20, none, .fld (.t 1) 9⟩,
 ⟨some 21, none, .load1 (.t 20)⟩,
 ⟨some 3, none, .mov (.t 21)⟩])
 (.block 0 (some [1, 3]) (some [])
 (.loop c_impl_RingOk_b0)))
 (.seq (.reg false [⟨some 2, none, .mov (.k (.c (.bool true)))⟩])
 (.ret (some [2]))))))⟩
theorem c_impl_RingOk_ok : trF Try.prog ⟨[(0, [1, 3], [])], [2], false, false⟩ Try.f14 = some c_impl_RingOk := by kernel_rfl
def c_laws_at : IFn := ⟨20, [.t 4],
  (.seq (.reg false [⟨some 4, none, .mov (.k (.c (.int .i64 0)))⟩])
 (.seq (.seq (.reg false [⟨some 5, none, .mov (.t 1)⟩,
 ⟨some 6, none, .mov (.t 0)⟩,
 ⟨some 7, none, .len (.t 6)⟩,
 ⟨some 8, none, .bin .lss (.t 5) (.t 7)⟩])
 (.cond (.t 8) (.seq (.reg false [⟨some 9, none, .mov (.t 0)⟩,
 ⟨some 10, none, .mov (.t 1)⟩,
 ⟨some 11, none, .ixs (.t 9) (.t 10) 1⟩,
 ⟨some 12, none, .load1 (.t 11)⟩,
 ⟨some 13, none, .cvt .i64 (.t 12)⟩,
 ⟨some 4, none, .mov (.t 13)⟩])
 (.ret (some [4]))) .skip))
 (.seq (.reg false [⟨some 14, none, .mov (.t 1)⟩,
 ⟨some 15, none, .bin .mul (.t 14) (.k (.c (.int .i64 7)))⟩,
 ⟨some 16, none, .mov (.t 0)⟩,
 ⟨some 17, none, .len (.t 16)⟩,
 ⟨some 18, none, .bin .add (.t 15) (.t 17)⟩,
 ⟨some 19, none, .bin .rem (.t 18) (.k (.c (.int .i64 256)))⟩,
 ⟨some 4, none, .mov (.t 19)⟩])
 (.ret (some [4])))))⟩
theorem c_laws_at_ok : trF Try.prog ⟨[], [4], false, false⟩ Try.f17 = some c_laws_at := by kernel_rfl
def c_laws_toTree : IFn := ⟨12, [.cell 2 65 true],
  (.seq (.reg false [⟨some 1, none, .box (.t 0) 43⟩,
 ⟨some 2, none, .alloc [.bool false, .int .i64 0, .int .i64 0, .int .i64 0, .bool false, .int .i64 0, .int .i64 0, .int .i64 0, .bool false, .int .i64 0, .int .i64 0, .int .i64 0, .bool false, .int .i64 0, .int .i64 0, .int .i64 0, .bool false, .int .i64 0, .int .i64 0, .int .i64 0, .bool false, .int .i64 0, .int .i64 0, .int .i64 0, .bool false, .int .i64 0, .int .i64 0, .int .i64 0, .bool false, .int .i64 0, .int .i64 0, .int .i64 0, .bool false, .int .i64 0, .int .i64 0, .int .i64 0, .bool false, .int .i64 0, .int .i64 0, .int .i64 0, .bool false, .int .i64 0, .int .i64 0, .int .i64 0, .bool false, .int .i64 0, .int .i64 0, .int .i64 0, .bool false, .int .i64 0, .int .i64 0, .int .i64 0, .bool false, .int .i64 0, .int .i64 0, .int .i64 0, .bool false, .int .i64 0, .int .i64 0, .int .i64 0, .bool false, .int .i64 0, .int .i64 0, .int .i64 0, .int .i64 0] 47⟩])
 (.seq (.reg false [⟨some 3, none, .alloc [.bool false, .int .i64 0, .int .i64 0, .int .i64 0, .bool false, .int .i64 0, .int .i64 0, .int .i64 0, .bool false, .int .i64 0, .int .i64 0, .int .i64 0, .bool false, .int .i64 0, .int .i64 0, .int .i64 0, .bool false, .int .i64 0, .int .i64 0, .int .i64 0, .bool false, .int .i64 0, .int .i64 0, .int .i64 0, .bool false, .int .i64 0, .int .i64 0, .int .i64 0, .bool false, .int .i64 0, .int .i64 0, .int .i64 0, .bool false, .int .i64 0, .int .i64 0, .int .i64 0, .bool false, .int .i64 0, .int .i64 0, .int .i64 0, .bool false, .int .i64 0, .int .i64 0, .int .i64 0, .bool false, .int .i64 0, .int .i64 0, .int .i64 0, .bool false, .int .i64 0, .int .i64 0, .int .i64 0, .bool false, .int .i64 0, .int .i64 0, .int .i64 0, .bool false, .int .i64 0, .int .i64 0, .int .i64 0, .bool false, .int .i64 0, .int .i64 0, .int .i64 0, .int .i64 0] 47⟩])
 (.seq (.reg false [⟨some 4, none, .fld (.t 1) 0⟩,
 ⟨some 5, none, .loadN (.t 4) 64⟩,
 ⟨some 6, none, .call 69 [.t 5]⟩,
 ⟨some 7, none, .fld (.t 3) 0⟩,
 ⟨none, none, .store (.t 7) (.t 6) 64⟩])
 (.seq (.reg false [⟨some 8, none, .fld (.t 1) 64⟩,
 ⟨some 9, none, .load1 (.t 8)⟩,
 ⟨some 10, none, .fld (.t 3) 64⟩,
 ⟨none, none, .store (.t 10) (.t 9) 1⟩])
 (.seq (.reg false [⟨some 11, none, .loadN (.t 3) 65⟩,
 ⟨none, none, .store (.t 2) (.t 11) 65⟩])
 (.ret (some [2])))))))⟩
theorem c_laws_toTree_ok : trF Try.prog ⟨[], [2], false, false⟩ Try.f21 = some c_laws_toTree := by kernel_rfl
def c_laws_eqTree : IFn := ⟨16, [.t 4],
  (.seq (.reg false [⟨some 2, none, .box (.t 0) 47⟩,
 ⟨some 3, none, .box (.t 1) 47⟩,
 ⟨some 4, none, .mov (.k (.c (.bool false)))⟩])
 (.seq (.seq (.reg false [⟨some 5, none, .fld (.t 2) 0⟩,
 ⟨some 6, none, .loadN (.t 5) 64⟩,
 ⟨some 7, none, .fld (.t 3) 0⟩,
 ⟨some 8, none, .loadN (.t 7) 64⟩,
 ⟨some 9, none, .call 71 [.t 6, .t 8]⟩,
 ⟨some 10, none, .un .not (.t 9)⟩])
 (.cond (.t 10) (.seq (.reg false [⟨some 4, none, .mov (.k (.c (.bool false)))⟩])
 (.ret (some [4]))) .skip))
 (.seq (.seq (.reg false [⟨some 11, none, .fld (.t 2) 64⟩,
 ⟨some 12, none, .load1 (.t 11)⟩,
 ⟨some 13, none, .fld (.t 3) 64⟩,
 ⟨some 14, none, .load1 (.t 13)⟩,
 ⟨some 15, none, .bin .neq (.t 12) (.t 14)⟩])
 (.cond (.t 15) (.seq (.reg false [⟨some 4, none, .mov (.k (.c (.bool false)))⟩])
 (.ret (some [4]))) .skip))
 (.seq (.reg false [⟨some 4, none, .mov (.k (.c (.bool true)))⟩])
 (.ret (some [4]))))))⟩
theorem c_laws_eqTree_ok : trF Try.prog ⟨[], [4], false, false⟩ Try.f23 = some c_laws_eqTree := by kernel_rfl
def c_impl_ChainOk_b0 : IC :=
  (.seq (.reg false [⟨some 12, none, .bin .lss (.t 11) (.k (.c (.int .i64 16)))⟩])
 (.seq (.cond (.t 12) .skip (.exit 0))
 (.seq (.block 1 none none
 (.seq (.reg false [⟨some 13, none, .idx (.t 10) (.t 11) 16 4 true⟩,
 ⟨some 6, none, .alloc [.bool false, .int .i64 0, .int .i64 0, .int .i64 0] 54⟩,
 ⟨none, none, .store (.t 6) (.t 13) 4⟩])
 (.block 2 none none
 (.seq (.reg false [⟨some 15, none, .fld (.t 6) 0⟩,
 ⟨some 16, none, .load1 (.t 15)⟩,
 ⟨some 14, none, .mov (.t 16)⟩])
 (.cond (.t 14) (.seq (.reg false [⟨some 17, none, .mov (.t 3)⟩,
 ⟨some 18, none, .bin .add (.t 17) (.k (.c (.int .i64 1)))⟩,
 ⟨some 3, none, .mov (.t 18)⟩])
 (.seq (.reg false [⟨some 19, none, .fld (.t 6) 1⟩,
 ⟨some 20, none, .load1 (.t 19)⟩,
 ⟨some 21, none, .call 62 [.t 20]⟩,
 ⟨some 22, none, .un .not (.t 21)⟩,
 ⟨some 23, none, .mov (.t 22)⟩,
 ⟨some 24, some (23, false), .fld (.t 6) 2⟩,
 ⟨some 25, some (23, false), .load1 (.t 24)⟩,
 ⟨some 26, some (23, false), .call 62 [.t 25]⟩,
 ⟨some 27, some (23, false), .un .not (.t 26)⟩,
 ⟨some 28, none, .pick (.t 23) (.k (.c (.bool true))) (.t 27)⟩,
 ⟨some 29, none, .mov (.t 28)⟩,
 ⟨some 30, some (29, false), .fld (.t 6) 3⟩,
 ⟨some 31, some (29, false), .load1 (.t 30)⟩,
 ⟨some 32, some (29, false), .call 63 [.t 31, .k (.c (.int .i64 (-1))), .k (.c (.int .i64 15))]⟩,
 ⟨some 33, some (29, false), .un .not (.t 32)⟩,
 ⟨some 34, none, .pick (.t 29) (.k (.c (.bool true))) (.t 33)⟩])
 (.cond (.t 34) (.seq (.reg false [⟨some 2, none, .mov (.k (.c (.bool false)))⟩])
 (.ret (some [2]))) .skip))) (.seq (.reg false [⟨some 36, none, .loadN (.t 6) 4⟩,
 ⟨some 37, none, .bld [.bool false, .int .i64 0, .int .i64 0, .int .i64 0] []⟩,
 ⟨some 38, none, .eqa true [none, some .i64, some .i64, some .i64] (.t 36) (.t 37)⟩,
 ⟨some 35, none, .mov (.t 38)⟩])
 (.cond (.t 35) (.seq (.reg false [⟨some 2, none, .mov (.k (.c (.bool false)))⟩])
 (.ret (some [2]))) .skip)))))))
 (.reg false [⟨some 39, none, .bin .add (.t 11) (.k (.c (.int .i64 1)))⟩,
 ⟨some 11, none, .mov (.t 39)⟩]))))
def c_impl_ChainOk_b1 : IC :=
  (.seq (.seq (.reg false [⟨some 42, none, .mov (.t 8)⟩,
 ⟨some 43, none, .bin .neq (.t 42) (.k (.c (.int .i64 (-1))))⟩])
 (.cond (.t 43) .skip (.exit 3)))
 (.seq (.block 4 none none
 (.seq (.seq (.reg false [⟨some 49, none, .mov (.t 8)⟩,
 ⟨some 50, none, .call 63 [.t 49, .k (.c (.int .i64 0)), .k (.c (.int .i64 15))]⟩,
 ⟨some 51, none, .un .not (.t 50)⟩,
 ⟨some 52, none, .mov (.t 51)⟩,
 ⟨some 53, some (52, false), .mov (.t 8)⟩,
 ⟨some 54, some (52, false), .fld (.t 1) 0⟩,
 ⟨some 55, some (52, false), .ixa (.t 54) (.t 53) 16 4⟩,
 ⟨some 56, some (52, false), .fld (.t 55) 0⟩,
 ⟨some 57, some (52, false), .load1 (.t 56)⟩,
 ⟨some 58, some (52, false), .un .not (.t 57)⟩,
 ⟨some 59, none, .pick (.t 52) (.k (.c (.bool true))) (.t 58)⟩,
 ⟨some 60, none, .mov (.t 59)⟩,
 ⟨some 61, some (60, false), .mov (.t 8)⟩,
 ⟨some 62, some (60, false), .fld (.t 1) 0⟩,
 ⟨some 63, some (60, false), .ixa (.t 62) (.t 61) 16 4⟩,
 ⟨some 64, some (60, false), .fld (.t 63) 1⟩,
 ⟨some 65, some (60, false), .load1 (.t 64)⟩,
 ⟨some 66, some (60, false), .mov (.t 7)⟩,
 ⟨some 67, some (60, false), .bin .leq (.t 65) (.t 66)⟩,
 ⟨some 68, none, .pick (.t 60) (.k (.c (.bool true))) (.t 67)⟩])
 (.cond (.t 68) (.seq (.reg false [⟨some 2, none, .mov (.k (.c (.bool false)))⟩])
 (.ret (some [2]))) .skip))
 (.seq (.reg false [⟨some 69, none, .mov (.t 8)⟩,
 ⟨some 70, none, .fld (.t 1) 0⟩,
 ⟨some 71, none, .ixa (.t 70) (.t 69) 16 4⟩,
 ⟨some 72, none, .fld (.t 71) 1⟩,
 ⟨some 73, none, .load1 (.t 72)⟩,
 ⟨some 7, none, .mov (.t 73)⟩])
 (.reg false [⟨some 74, none, .mov (.t 4)⟩,
 ⟨some 75, none, .bin .add (.t 74) (.k (.c (.int .i64 1)))⟩,
 ⟨some 4, none, .mov (.t 75)⟩]))))
 (.reg false [⟨some 44, none, .mov (.t 8)⟩,
 ⟨some 45, none, .fld (.t 1) 0⟩,
 ⟨some 46, none, .ixa (.t 45) (.t 44) 16 4⟩,
 ⟨some 47, none, .fld (.t 46) 3⟩,
 ⟨some 48, none, .load1 (.t 47)⟩,
 ⟨some 8, none, .mov (.t 48)⟩])))
def c_impl_ChainOk : IFn := ⟨79, [.t 2],
  (.seq (.reg false [⟨some 1, none, .box (.t 0) 57⟩,
 ⟨some 2, none, .mov (.k (.c (.bool false)))⟩])
 (.seq (.reg false [⟨some 3, none, .mov (.k (.c (.int .i64 0)))⟩,
 ⟨some 4, none, .mov (.k (.c (.int .i64 0)))⟩])
 (.seq (.seq (.reg false [⟨some 9, none, .fld (.t 1) 0⟩,
 ⟨some 10, none, .loadN (.t 9) 64⟩,
 ⟨some 11, none, .mov (.k (.c (.int .i64 0)))⟩])
 (.block 0 (some [1, 3, 4, 10, 11]) (some [1, 3, 4])
 (.loop c_impl_ChainOk_b0)))
 (.seq (.reg false [⟨some 7, none, .mov (.k (.c (.int .i64 (-1000000001))))⟩])
 (.seq (.seq (.reg false [⟨some 40, none, .fld (.t 1) 64⟩,
 ⟨some 41, none, .load1 (.t 40)⟩,
 ⟨some 8, none, .mov (.t 41)⟩])
 (.block 3 (some [1, 3, 4, 7, 8]) (some [3, 4])
 (.loop c_impl_ChainOk_b1)))
 (.seq (.reg false [⟨some 76, none, .mov (.t 4)⟩,
 ⟨some 77, none, .mov (.t 3)⟩,
 ⟨some 78, none, .bin .eql (.t 76) (.t 77)⟩,
 ⟨some 2, none, .mov (.t 78)⟩])
 (.ret (some [2]))))))))⟩
theorem c_impl_ChainOk_ok : trF Try.prog ⟨[(0, [1, 3, 4, 10, 11], [1, 3, 4]), (3, [1, 3, 4, 7, 8], [3, 4])], [2], false, false⟩ Try.f26 = some c_impl_ChainOk := by kernel_rfl
def c_laws_within_b0 : IC :=
  (.seq (.seq (.reg false [⟨some 6, none, .mov (.t 5)⟩,
 ⟨some 7, none, .mov (.t 0)⟩,
 ⟨some 8, none, .len (.t 7)⟩,
 ⟨some 9, none, .bin .lss (.t 6) (.t 8)⟩])
 (.cond (.t 9) .skip (.exit 0)))
 (.seq (.block 1 none none
 (.seq (.reg false [⟨some 12, none, .mov (.t 0)⟩,
 ⟨some 13, none, .mov (.t 5)⟩,
 ⟨some 14, none, .ixs (.t 12) (.t 13) 1⟩,
 ⟨some 15, none, .load1 (.t 14)⟩,
 ⟨some 16, none, .mov (.t 1)⟩,
 ⟨some 17, none, .bin .eql (.t 15) (.t 16)⟩])
 (.cond (.t 17) (.seq (.reg false [⟨some 4, none, .mov (.k (.c (.bool true)))⟩])
 (.ret (some [4]))) .skip)))
 (.reg false [⟨some 10, none, .mov (.t 5)⟩,
 ⟨some 11, none, .bin .add (.t 10) (.k (.c (.int .i64 1)))⟩,
 ⟨some 5, none, .mov (.t 11)⟩])))
def c_laws_within : IFn := ⟨18, [.t 4],
  (.seq (.reg false [⟨some 4, none, .mov (.k (.c (.bool false)))⟩])
 (.seq (.seq (.reg false [⟨some 5, none, .mov (.k (.c (.int .i64 0)))⟩])
 (.block 0 (some [0, 1, 5]) (some [])
 (.loop c_laws_within_b0)))
 (.seq (.reg false [⟨some 4, none, .mov (.k (.c (.bool false)))⟩])
 (.ret (some [4])))))⟩
theorem c_laws_within_ok : trF Try.prog ⟨[(0, [0, 1, 5], [])], [4], false, false⟩ Try.f31 = some c_laws_within := by kernel_rfl
def c_impl_NewChain : IFn := ⟨2, [.cell 0 65 true],
  (.seq (.reg false [⟨some 0, none, .alloc [.bool false, .int .i64 0, .int .i64 0, .int .i64 0, .bool false, .int .i64 0, .int .i64 0, .int .i64 0, .bool false, .int .i64 0, .int .i64 0, .int .i64 0, .bool false, .int .i64 0, .int .i64 0, .int .i64 0, .bool false, .int .i64 0, .int .i64 0, .int .i64 0, .bool false, .int .i64 0, .int .i64 0, .int .i64 0, .bool false, .int .i64 0, .int .i64 0, .int .i64 0, .bool false, .int .i64 0, .int .i64 0, .int .i64 0, .bool false, .int .i64 0, .int .i64 0, .int .i64 0, .bool false, .int .i64 0, .int .i64 0, .int .i64 0, .bool false, .int .i64 0, .int .i64 0, .int .i64 0, .bool false, .int .i64 0, .int .i64 0, .int .i64 0, .bool false, .int .i64 0, .int .i64 0, .int .i64 0, .bool false, .int .i64 0, .int .i64 0, .int .i64 0, .bool false, .int .i64 0, .int .i64 0, .int .i64 0, .bool false, .int .i64 0, .int .i64 0, .int .i64 0, .int .i64 0] 57⟩])
 (.seq (.reg false [⟨some 1, none, .bld [.bool false, .int .i64 0, .int .i64 0, .int .i64 0, .bool false, .int .i64 0, .int .i64 0, .int .i64 0, .bool false, .int .i64 0, .int .i64 0, .int .i64 0, .bool false, .int .i64 0, .int .i64 0, .int .i64 0, .bool false, .int .i64 0, .int .i64 0, .int .i64 0, .bool false, .int .i64 0, .int .i64 0, .int .i64 0, .bool false, .int .i64 0, .int .i64 0, .int .i64 0, .bool false, .int .i64 0, .int .i64 0, .int .i64 0, .bool false, .int .i64 0, .int .i64 0, .int .i64 0, .bool false, .int .i64 0, .int .i64 0, .int .i64 0, .bool false, .int .i64 0, .int .i64 0, .int .i64 0, .bool false, .int .i64 0, .int .i64 0, .int .i64 0, .bool false, .int .i64 0, .int .i64 0, .int .i64 0, .bool false, .int .i64 0, .int .i64 0, .int .i64 0, .bool false, .int .i64 0, .int .i64 0, .int .i64 0, .bool false, .int .i64 0, .int .i64 0, .int .i64 0, .int .i64 0] [(64, (1, .k (.c (.int .i64 (-1)))))]⟩,
 ⟨none, none, .store (.t 0) (.t 1) 65⟩])
 (.ret (some [0]))))⟩
theorem c_impl_NewChain_ok : trF Try.prog ⟨[], [0], false, false⟩ Try.f32 = some c_impl_NewChain := by kernel_rfl
def c_impl_TreeOk_b0 : IC :=
  (.seq (.reg false [⟨some 15, none, .bin .lss (.t 14) (.k (.c (.int .i64 16)))⟩])
 (.seq (.cond (.t 15) .skip (.exit 0))
 (.seq (.block 1 none none
 (.seq (.reg false [⟨some 16, none, .mov (.t 14)⟩,
 ⟨some 17, none, .idx (.t 13) (.t 14) 16 4 true⟩,
 ⟨some 5, none, .alloc [.bool false, .int .i64 0, .int .i64 0, .int .i64 0] 44⟩,
 ⟨some 4, none, .mov (.t 16)⟩,
 ⟨none, none, .store (.t 5) (.t 17) 4⟩])
 (.seq (.reg true [⟨some 18, none, .fld (.t 5) 0⟩,
 ⟨some 19, none, .load1 (.t 18)⟩,
 ⟨some 20, none, .mov (.t 4)⟩,
 ⟨some 21, none, .ixa (.t 3) (.t 20) 16 1⟩,
 ⟨some 22, none, .load1 (.t 21)⟩,
 ⟨some 23, none, .binb true (.t 19) (.t 22)⟩,
 ⟨some 24, none, .mov (.t 23)⟩,
 ⟨some 25, some (24, false), .fld (.t 5) 0⟩,
 ⟨some 26, some (24, false), .load1 (.t 25)⟩,
 ⟨some 27, some (24, false), .un .not (.t 26)⟩,
 ⟨some 28, some (24, false), .mov (.t 27)⟩,
 ⟨some 29, some (28, true), .loadN (.t 5) 4⟩,
 ⟨some 30, some (28, true), .bld [.bool false, .int .i64 0, .int .i64 0, .int .i64 0] []⟩,
 ⟨some 31, some (28, true), .eqa true [none, some .i64, some .i64, some .i64] (.t 29) (.t 30)⟩,
 ⟨some 32, some (24, false), .pick (.t 28) (.t 31) (.k (.c (.bool false)))⟩,
 ⟨some 33, none, .pick (.t 24) (.k (.c (.bool true))) (.t 32)⟩])
 (.cond (.t 33) (.seq (.reg false [⟨some 2, none, .mov (.k (.c (.bool false)))⟩])
 (.ret (some [2]))) .skip))))
 (.reg false [⟨some 34, none, .bin .add (.t 14) (.k (.c (.int .i64 1)))⟩,
 ⟨some 14, none, .mov (.t 34)⟩]))))
def c_impl_TreeOk : IFn := ⟨35, [.t 2],
  (.seq (.reg false [⟨some 1, none, .box (.t 0) 47⟩,
 ⟨some 2, none, .mov (.k (.c (.bool false)))⟩])
 (.seq (.reg false [⟨some 6, none, .bld [.bool false, .bool false, .bool false, .bool false, .bool false, .bool false, .bool false, .bool false, .bool false, .bool false, .bool false, .bool false, .bool false, .bool false, .bool false, .bool false] []⟩,
 ⟨some 3, none, .alloc [.bool false, .bool false, .bool false, .bool false, .bool false, .bool false, .bool false, .bool false, .bool false, .bool false, .bool false, .bool false, .bool false, .bool false, .bool false, .bool false] 141⟩,
 ⟨none, none, .store (.t 3) (.t 6) 16⟩])
 (.seq (.seq (.reg false [⟨some 7, none, .loadN (.t 1) 65⟩,
 ⟨some 8, none, .fld (.t 1) 64⟩,
 ⟨some 9, none, .load1 (.t 8)⟩,
 ⟨some 10, none, .call 78 [.t 7, .t 9, .k (.c (.int .i64 (-1000000000))), .k (.c (.int .i64 1000000000)), .t 3]⟩,
 ⟨some 11, none, .un .not (.t 10)⟩])
 (.cond (.t 11) (.seq (.reg false [⟨some 2, none, .mov (.k (.c (.bool false)))⟩])
 (.ret (some [2]))) .skip))
 (.seq (.seq (.reg false [⟨some 12, none, .fld (.t 1) 0⟩,
 ⟨some 13, none, .loadN (.t 12) 64⟩,
 ⟨some 14, none, .mov (.k (.c (.int .i64 0)))⟩])
 (.block 0 (some [3, 13, 14]) (some [])
 (.loop c_impl_TreeOk_b0)))
 (.seq (.reg false [⟨some 2, none, .mov (.k (.c (.bool true)))⟩])
 (.ret (some [2])))))))⟩
theorem c_impl_TreeOk_ok : trF Try.prog ⟨[(0, [3, 13, 14], [])], [2], false, false⟩ Try.f35 = some c_impl_TreeOk := by kernel_rfl
def c_impl_NewTree : IFn := ⟨2, [.cell 0 65 true],
  (.seq (.reg false [⟨some 0, none, .alloc [.bool false, .int .i64 0, .int .i64 0, .int .i64 0, .bool false, .int .i64 0, .int .i64 0, .int .i64 0, .bool false, .int .i64 0, .int .i64 0, .int .i64 0, .bool false, .int .i64 0, .int .i64 0, .int .i64 0, .bool false, .int .i64 0, .int .i64 0, .int .i64 0, .bool false, .int .i64 0, .int .i64 0, .int .i64 0, .bool false, .int .i64 0, .int .i64 0, .int .i64 0, .bool false, .int .i64 0, .int .i64 0, .int .i64 0, .bool false, .int .i64 0, .int .i64 0, .int .i64 0, .bool false, .int .i64 0, .int .i64 0, .int .i64 0, .bool false, .int .i64 0, .int .i64 0, .int .i64 0, .bool false, .int .i64 0, .int .i64 0, .int .i64 0, .bool false, .int .i64 0, .int .i64 0, .int .i64 0, .bool false, .int .i64 0, .int .i64 0, .int .i64 0, .bool false, .int .i64 0, .int .i64 0, .int .i64 0, .bool false, .int .i64 0, .int .i64 0, .int .i64 0, .int .i64 0] 47⟩])
 (.seq (.reg false [⟨some 1, none, .bld [.bool false, .int .i64 0, .int .i64 0, .int .i64 0, .bool false, .int .i64 0, .int .i64 0, .int .i64 0, .bool false, .int .i64 0, .int .i64 0, .int .i64 0, .bool false, .int .i64 0, .int .i64 0, .int .i64 0, .bool false, .int .i64 0, .int .i64 0, .int .i64 0, .bool false, .int .i64 0, .int .i64 0, .int .i64 0, .bool false, .int .i64 0, .int .i64 0, .int .i64 0, .bool false, .int .i64 0, .int .i64 0, .int .i64 0, .bool false, .int .i64 0, .int .i64 0, .int .i64 0, .bool false, .int .i64 0, .int .i64 0, .int .i64 0, .bool false, .int .i64 0, .int .i64 0, .int .i64 0, .bool false, .int .i64 0, .int .i64 0, .int .i64 0, .bool false, .int .i64 0, .int .i64 0, .int .i64 0, .bool false, .int .i64 0, .int .i64 0, .int .i64 0, .bool false, .int .i64 0, .int .i64 0, .int .i64 0, .bool false, .int .i64 0, .int .i64 0, .int .i64 0, .int .i64 0] [(64, (1, .k (.c (.int .i64 (-1)))))]⟩,
 ⟨none, none, .store (.t 0) (.t 1) 65⟩])
 (.ret (some [0]))))⟩
theorem c_impl_NewTree_ok : trF Try.prog ⟨[], [0], false, false⟩ Try.f40 = some c_impl_NewTree := by kernel_rfl
def c_laws_szSpace : IFn := ⟨12, [.t 4],
  (.seq (.reg false [⟨some 2, none, .box (.t 0) 87⟩,
 ⟨some 4, none, .mov (.k (.c (.int .i64 0)))⟩])
 (.seq (.reg false [⟨some 5, none, .fld (.t 2) 140⟩,
 ⟨some 6, none, .load1 (.t 5)⟩,
 ⟨some 7, none, .mov (.t 1)⟩,
 ⟨some 8, none, .call 81 [.t 6, .t 7]⟩,
 ⟨some 1, none, .mov (.t 8)⟩])
 (.seq (.seq (.reg false [⟨some 9, none, .mov (.t 1)⟩,
 ⟨some 10, none, .bin .lss (.t 9) (.k (.c (.int .i64 0)))⟩])
 (.cond (.t 10) (.seq (.reg false [⟨some 4, none, .mov (.k (.c (.int .i64 (-1))))⟩])
 (.ret (some [4]))) .skip))
 (.seq (.reg false [⟨some 11, none, .mov (.t 1)⟩,
 ⟨some 4, none, .mov (.t 11)⟩])
 (.ret (some [4]))))))⟩
theorem c_laws_szSpace_ok : trF Try.prog ⟨[], [4], false, false⟩ Try.f41 = some c_laws_szSpace := by kernel_rfl
def c_spec_SpaceOk : IFn := ⟨21, [.t 2],
  (.seq (.reg false [⟨some 1, none, .box (.t 0) 91⟩,
 ⟨some 2, none, .mov (.k (.c (.bool false)))⟩])
 (.seq (.reg false [⟨some 3, none, .fld (.t 1) 0⟩,
 ⟨some 4, none, .loadN (.t 3) 65⟩,
 ⟨some 5, none, .call 82 [.t 4]⟩,
 ⟨some 6, none, .mov (.t 5)⟩,
 ⟨some 7, some (6, true), .fld (.t 1) 65⟩,
 ⟨some 8, some (6, true), .loadN (.t 7) 10⟩,
 ⟨some 9, some (6, true), .call 83 [.t 8]⟩,
 ⟨some 10, none, .pick (.t 6) (.t 9) (.k (.c (.bool false)))⟩,
 ⟨some 11, none, .mov (.t 10)⟩,
 ⟨some 12, some (11, true), .fld (.t 1) 75⟩,
 ⟨some 13, some (11, true), .loadN (.t 12) 65⟩,
 ⟨some 14, some (11, true), .call 65 [.t 13]⟩,
 ⟨some 15, none, .pick (.t 11) (.t 14) (.k (.c (.bool false)))⟩,
 ⟨some 16, none, .mov (.t 15)⟩,
 ⟨some 17, some (16, true), .fld (.t 1) 140⟩,
 ⟨some 18, some (16, true), .load1 (.t 17)⟩,
 ⟨some 19, some (16, true), .call 84 [.t 18]⟩,
 ⟨some 20, none, .pick (.t 16) (.t 19) (.k (.c (.bool false)))⟩,
 ⟨some 2, none, .mov (.t 20)⟩])
 (.ret (some [2]))))⟩
theorem c_spec_SpaceOk_ok : trF Try.prog ⟨[], [2], false, false⟩ Try.f42 = some c_spec_SpaceOk := by kernel_rfl
def c_laws_toSpace : IFn := ⟨21, [.cell 2 141 true],
  (.seq (.reg false [⟨some 1, none, .box (.t 0) 87⟩,
 ⟨some 2, none, .alloc [.bool false, .int .i64 0, .int .i64 0, .int .i64 0, .bool false, .int .i64 0, .int .i64 0, .int .i64 0, .bool false, .int .i64 0, .int .i64 0, .int .i64 0, .bool false, .int .i64 0, .int .i64 0, .int .i64 0, .bool false, .int .i64 0, .int .i64 0, .int .i64 0, .bool false, .int .i64 0, .int .i64 0, .int .i64 0, .bool false, .int .i64 0, .int .i64 0, .int .i64 0, .bool false, .int .i64 0, .int .i64 0, .int .i64 0, .bool false, .int .i64 0, .int .i64 0, .int .i64 0, .bool false, .int .i64 0, .int .i64 0, .int .i64 0, .bool false, .int .i64 0, .int .i64 0, .int .i64 0, .bool false, .int .i64 0, .int .i64 0, .int .i64 0, .bool false, .int .i64 0, .int .i64 0, .int .i64 0, .bool false, .int .i64 0, .int .i64 0, .int .i64 0, .bool false, .int .i64 0, .int .i64 0, .int .i64 0, .bool false, .int .i64 0, .int .i64 0, .int .i64 0, .int .i64 0, .int .i64 0, .int .i64 0, .int .i64 0, .int .i64 0, .int .i64 0, .int .i64 0, .int .i64 0, .int .i64 0, .int .i64 0, .int .i64 0, .bool false, .int .i64 0, .int .i64 0, .int .i64 0, .bool false, .int .i64 0, .int .i64 0, .int .i64 0, .bool false, .int .i64 0, .int .i64 0, .int .i64 0, .bool false, .int .i64 0, .int .i64 0, .int .i64 0, .bool false, .int .i64 0, .int .i64 0, .int .i64 0, .bool false, .int .i64 0, .int .i64 0, .int .i64 0, .bool false, .int .i64 0, .int .i64 0, .int .i64 0, .bool false, .int .i64 0, .int .i64 0, .int .i64 0, .bool false, .int .i64 0, .int .i64 0, .int .i64 0, .bool false, .int .i64 0, .int .i64 0, .int .i64 0, .bool false, .int .i64 0, .int .i64 0, .int .i64 0, .bool false, .int .i64 0, .int .i64 0, .int .i64 0, .bool false, .int .i64 0, .int .i64 0, .int .i64 0, .bool false, .int .i64 0, .int .i64 0, .int .i64 0, .bool false, .int .i64 0, .int .i64 0, .int .i64 0, .bool false, .int .i64 0, .int .i64 0, .int .i64 0, .int .i64 0, .nils] 91⟩])
 (.seq (.reg false [⟨some 3, none, .alloc [.bool false, .int .i64 0, .int .i64 0, .int .i64 0, .bool false, .int .i64 0, .int .i64 0, .int .i64 0, .bool false, .int .i64 0, .int .i64 0, .int .i64 0, .bool false, .int .i64 0, .int .i64 0, .int .i64 0, .bool false, .int .i64 0, .int .i64 0, .int .i64 0, .bool false, .int .i64 0, .int .i64 0, .int .i64 0, .bool false, .int .i64 0, .int .i64 0, .int .i64 0, .bool false, .int .i64 0, .int .i64 0, .int .i64 0, .bool false, .int .i64 0, .int .i64 0, .int .i64 0, .bool false, .int .i64 0, .int .i64 0, .int .i64 0, .bool false, .int .i64 0, .int .i64 0, .int .i64 0, .bool false, .int .i64 0, .int .i64 0, .int .i64 0, .bool false, .int .i64 0, .int .i64 0, .int .i64 0, .bool false, .int .i64 0, .int .i64 0, .int .i64 0, .bool false, .int .i64 0, .int .i64 0, .int .i64 0, .bool false, .int .i64 0, .int .i64 0, .int .i64 0, .int .i64 0, .int .i64 0, .int .i64 0, .int .i64 0, .int .i64 0, .int .i64 0, .int .i64 0, .int .i64 0, .int .i64 0, .int .i64 0, .int .i64 0, .bool false, .int .i64 0, .int .i64 0, .int .i64 0, .bool false, .int .i64 0, .int .i64 0, .int .i64 0, .bool false, .int .i64 0, .int .i64 0, .int .i64 0, .bool false, .int .i64 0, .int .i64 0, .int .i64 0, .bool false, .int .i64 0, .int .i64 0, .int .i64 0, .bool false, .int .i64 0, .int .i64 0, .int .i64 0, .bool false, .int .i64 0, .int .i64 0, .int .i64 0, .bool false, .int .i64 0, .int .i64 0, .int .i64 0, .bool false, .int .i64 0, .int .i64 0, .int .i64 0, .bool false, .int .i64 0, .int .i64 0, .int .i64 0, .bool false, .int .i64 0, .int .i64 0, .int .i64 0, .bool false, .int .i64 0, .int .i64 0, .int .i64 0, .bool false, .int .i64 0, .int .i64 0, .int .i64 0, .bool false, .int .i64 0, .int .i64 0, .int .i64 0, .bool false, .int .i64 0, .int .i64 0, .int .i64 0, .bool false, .int .i64 0, .int .i64 0, .int .i64 0, .int .i64 0, .nils] 91⟩])
 (.seq (.reg false [⟨some 4, none, .fld (.t 1) 0⟩,
 ⟨some 5, none, .loadN (.t 4) 65⟩,
 ⟨some 6, none, .call 85 [.t 5]⟩,
 ⟨some 7, none, .fld (.t 3) 0⟩,
 ⟨none, none, .store (.t 7) (.t 6) 65⟩])
 (.seq (.reg false [⟨some 8, none, .fld (.t 1) 65⟩,
 ⟨some 9, none, .loadN (.t 8) 10⟩,
 ⟨some 10, none, .call 86 [.t 9]⟩,
 ⟨some 11, none, .fld (.t 3) 65⟩,
 ⟨none, none, .store (.t 11) (.t 10) 10⟩])
 (.seq (.reg false [⟨some 12, none, .fld (.t 1) 75⟩,
 ⟨some 13, none, .loadN (.t 12) 65⟩,
 ⟨some 14, none, .call 21 [.t 13]⟩,
 ⟨some 15, none, .fld (.t 3) 75⟩,
 ⟨none, none, .store (.t 15) (.t 14) 65⟩])
 (.seq (.reg false [⟨some 16, none, .fld (.t 1) 140⟩,
 ⟨some 17, none, .load1 (.t 16)⟩,
 ⟨some 18, none, .call 87 [.t 17]⟩,
 ⟨some 19, none, .fld (.t 3) 140⟩,
 ⟨none, none, .store (.t 19) (.t 18) 1⟩])
 (.seq (.reg false [⟨some 20, none, .loadN (.t 3) 141⟩,
 ⟨none, none, .store (.t 2) (.t 20) 141⟩])
 (.ret (some [2])))))))))⟩
theorem c_laws_toSpace_ok : trF Try.prog ⟨[], [2], false, false⟩ Try.f43 = some c_laws_toSpace := by kernel_rfl
def c_impl_SpaceOk : IFn := ⟨21, [.t 2],
  (.seq (.reg false [⟨some 1, none, .box (.t 0) 91⟩,
 ⟨some 2, none, .mov (.k (.c (.bool false)))⟩])
 (.seq (.reg false [⟨some 3, none, .fld (.t 1) 0⟩,
 ⟨some 4, none, .loadN (.t 3) 65⟩,
 ⟨some 5, none, .call 26 [.t 4]⟩,
 ⟨some 6, none, .mov (.t 5)⟩,
 ⟨some 7, some (6, true), .fld (.t 1) 65⟩,
 ⟨some 8, some (6, true), .loadN (.t 7) 10⟩,
 ⟨some 9, some (6, true), .call 14 [.t 8]⟩,
 ⟨some 10, none, .pick (.t 6) (.t 9) (.k (.c (.bool false)))⟩,
 ⟨some 11, none, .mov (.t 10)⟩,
 ⟨some 12, some (11, true), .fld (.t 1) 75⟩,
 ⟨some 13, some (11, true), .loadN (.t 12) 65⟩,
 ⟨some 14, some (11, true), .call 35 [.t 13]⟩,
 ⟨some 15, none, .pick (.t 11) (.t 14) (.k (.c (.bool false)))⟩,
 ⟨some 16, none, .mov (.t 15)⟩,
 ⟨some 17, some (16, true), .fld (.t 1) 140⟩,
 ⟨some 18, some (16, true), .load1 (.t 17)⟩,
 ⟨some 19, some (16, true), .call 48 [.t 18]⟩,
 ⟨some 20, none, .pick (.t 16) (.t 19) (.k (.c (.bool false)))⟩,
 ⟨some 2, none, .mov (.t 20)⟩])
 (.ret (some [2]))))⟩
theorem c_impl_SpaceOk_ok : trF Try.prog ⟨[], [2], false, false⟩ Try.f44 = some c_impl_SpaceOk := by kernel_rfl
def c_laws_eqSpace : IFn := ⟨29, [.t 4],
  (.seq (.reg false [⟨some 2, none, .box (.t 0) 91⟩,
 ⟨some 3, none, .box (.t 1) 91⟩,
 ⟨some 4, none, .mov (.k (.c (.bool false)))⟩])
 (.seq (.seq (.reg false [⟨some 5, none, .fld (.t 2) 0⟩,
 ⟨some 6, none, .loadN (.t 5) 65⟩,
 ⟨some 7, none, .fld (.t 3) 0⟩,
 ⟨some 8, none, .loadN (.t 7) 65⟩,
 ⟨some 9, none, .call 88 [.t 6, .t 8]⟩,
 ⟨some 10, none, .un .not (.t 9)⟩])
 (.cond (.t 10) (.seq (.reg false [⟨some 4, none, .mov (.k (.c (.bool false)))⟩])
 (.ret (some [4]))) .skip))
 (.seq (.seq (.reg false [⟨some 11, none, .fld (.t 2) 65⟩,
 ⟨some 12, none, .loadN (.t 11) 10⟩,
 ⟨some 13, none, .fld (.t 3) 65⟩,
 ⟨some 14, none, .loadN (.t 13) 10⟩,
 ⟨some 15, none, .call 89 [.t 12, .t 14]⟩,
 ⟨some 16, none, .un .not (.t 15)⟩])
 (.cond (.t 16) (.seq (.reg false [⟨some 4, none, .mov (.k (.c (.bool false)))⟩])
 (.ret (some [4]))) .skip))
 (.seq (.seq (.reg false [⟨some 17, none, .fld (.t 2) 75⟩,
 ⟨some 18, none, .loadN (.t 17) 65⟩,
 ⟨some 19, none, .fld (.t 3) 75⟩,
 ⟨some 20, none, .loadN (.t 19) 65⟩,
 ⟨some 21, none, .call 23 [.t 18, .t 20]⟩,
 ⟨some 22, none, .un .not (.t 21)⟩])
 (.cond (.t 22) (.seq (.reg false [⟨some 4, none, .mov (.k (.c (.bool false)))⟩])
 (.ret (some [4]))) .skip))
 (.seq (.seq (.reg false [⟨some 23, none, .fld (.t 2) 140⟩,
 ⟨some 24, none, .load1 (.t 23)⟩,
 ⟨some 25, none, .fld (.t 3) 140⟩,
 ⟨some 26, none, .load1 (.t 25)⟩,
 ⟨some 27, none, .call 90 [.t 24, .t 26]⟩,
 ⟨some 28, none, .un .not (.t 27)⟩])
 (.cond (.t 28) (.seq (.reg false [⟨some 4, none, .mov (.k (.c (.bool false)))⟩])
 (.ret (some [4]))) .skip))
 (.seq (.reg false [⟨some 4, none, .mov (.k (.c (.bool true)))⟩])
 (.ret (some [4]))))))))⟩
theorem c_laws_eqSpace_ok : trF Try.prog ⟨[], [4], false, false⟩ Try.f45 = some c_laws_eqSpace := by kernel_rfl
def c_spec_DrawSet : IFn := ⟨6, [.t 2],
  (.seq (.reg false [⟨some 2, none, .mov (.k (.c .nils))⟩])
 (.seq (.reg false [⟨some 3, none, .mov (.t 0)⟩,
 ⟨some 4, none, .call 61 [.t 3]⟩,
 ⟨some 5, none, .call 91 [.t 4]⟩,
 ⟨some 2, none, .mov (.t 5)⟩])
 (.ret (some [2]))))⟩
theorem c_spec_DrawSet_ok : trF Try.prog ⟨[], [2], false, false⟩ Try.f46 = some c_spec_DrawSet := by kernel_rfl
def c_impl_SetList : IFn := ⟨8, [.t 2],
  (.seq (.reg false [⟨some 2, none, .mov (.k (.c .nils))⟩])
 (.seq (.seq (.reg false [⟨some 3, none, .mov (.t 0)⟩,
 ⟨some 4, none, .call 48 [.t 3]⟩,
 ⟨some 5, none, .un .not (.t 4)⟩])
 (.cond (.t 5) (.seq (.reg false [⟨some 2, none, .mov (.k (.c .nils))⟩])
 (.ret (some [2]))) .skip))
 (.seq (.reg false [⟨some 6, none, .mov (.t 0)⟩,
 ⟨some 7, none, .call 92 [.t 6]⟩,
 ⟨some 2, none, .mov (.t 7)⟩])
 (.ret (some [2])))))⟩
theorem c_impl_SetList_ok : trF Try.prog ⟨[], [2], false, false⟩ Try.f47 = some c_impl_SetList := by kernel_rfl
def c_impl_SetOk_b1 : IC :=
  (.seq (.reg false [⟨some 34, none, .bin .lss (.t 33) (.t 32)⟩])
 (.seq (.cond (.t 34) .skip (.exit 2))
 (.seq (.block 3 none none
 (.seq (.reg false [⟨some 35, none, .mov (.t 33)⟩,
 ⟨some 36, none, .ixs (.t 31) (.t 33) 1⟩,
 ⟨some 37, none, .load1 (.t 36)⟩,
 ⟨some 6, none, .mov (.t 35)⟩,
 ⟨some 7, none, .mov (.t 37)⟩])
 (.seq (.reg false [⟨some 38, none, .mov (.t 6)⟩,
 ⟨some 39, none, .bin .geq (.t 38) (.k (.c (.int .i64 3)))⟩,
 ⟨some 40, none, .mov (.t 39)⟩,
 ⟨some 41, some (40, false), .mov (.t 7)⟩,
 ⟨some 42, some (40, false), .call 62 [.t 41]⟩,
 ⟨some 43, some (40, false), .un .not (.t 42)⟩,
 ⟨some 44, none, .pick (.t 40) (.k (.c (.bool true))) (.t 43)⟩,
 ⟨some 45, none, .mov (.t 44)⟩,
 ⟨some 46, some (45, false), .mov (.t 7)⟩,
 ⟨some 47, some (45, false), .mov (.t 3)⟩,
 ⟨some 48, some (45, false), .call 93 [.t 46, .t 47]⟩,
 ⟨some 49, some (45, false), .mov (.t 4)⟩,
 ⟨some 50, some (45, false), .bin .neq (.t 48) (.t 49)⟩,
 ⟨some 51, none, .pick (.t 45) (.k (.c (.bool true))) (.t 50)⟩,
 ⟨some 52, none, .mov (.t 51)⟩,
 ⟨some 53, some (52, false), .mov (.t 6)⟩,
 ⟨some 54, some (52, false), .bin .gtr (.t 53) (.k (.c (.int .i64 0)))⟩,
 ⟨some 55, some (52, false), .mov (.t 54)⟩,
 ⟨some 56, some (55, true), .mov (.t 5)⟩,
 ⟨some 57, some (55, true), .mov (.t 6)⟩,
 ⟨some 58, some (55, true), .bin .sub (.t 57) (.k (.c (.int .i64 1)))⟩,
 ⟨some 59, some (55, true), .ixs (.t 56) (.t 58) 1⟩,
 ⟨some 60, some (55, true), .load1 (.t 59)⟩,
 ⟨some 61, some (55, true), .mov (.t 7)⟩,
 ⟨some 62, some (55, true), .bin .geq (.t 60) (.t 61)⟩,
 ⟨some 63, some (52, false), .pick (.t 55) (.t 62) (.k (.c (.bool false)))⟩,
 ⟨some 64, none, .pick (.t 52) (.k (.c (.bool true))) (.t 63)⟩])
 (.cond (.t 64) (.seq (.reg false [⟨some 2, none, .mov (.k (.c (.bool false)))⟩])
 (.ret (some [2]))) .skip))))
 (.reg false [⟨some 65, none, .bin .add (.t 33) (.k (.c (.int .i64 1)))⟩,
 ⟨some 33, none, .mov (.t 65)⟩]))))
def c_impl_SetOk_b0 : IC :=
  (.seq (.reg false [⟨some 27, none, .bin .lss (.t 26) (.t 25)⟩])
 (.seq (.cond (.t 27) .skip (.exit 0))
 (.seq (.block 1 none none
 (.seq (.reg false [⟨some 28, none, .mov (.t 26)⟩,
 ⟨some 29, none, .ixs (.t 24) (.t 26) 1⟩,
 ⟨some 30, none, .load1 (.t 29)⟩,
 ⟨some 4, none, .mov (.t 28)⟩,
 ⟨some 5, none, .mov (.t 30)⟩])
 (.seq (.reg false [⟨some 31, none, .mov (.t 5)⟩,
 ⟨some 32, none, .len (.t 31)⟩,
 ⟨some 33, none, .mov (.k (.c (.int .i64 0)))⟩])
 (.block 2 (some [3, 4, 5, 24, 25, 26, 31, 32, 33]) (some [3, 24, 25, 26])
 (.loop c_impl_SetOk_b1)))))
 (.reg false [⟨some 66, none, .bin .add (.t 26) (.k (.c (.int .i64 1)))⟩,
 ⟨some 26, none, .mov (.t 66)⟩]))))
def c_impl_SetOk : IFn := ⟨67, [.t 2],
  (.seq (.reg false [⟨some 2, none, .mov (.k (.c (.bool false)))⟩])
 (.seq (.reg false [⟨some 8, none, .mov (.t 0)⟩,
 ⟨some 9, none, .len (.t 8)⟩,
 ⟨some 3, none, .mov (.t 9)⟩])
 (.seq (.seq (.reg false [⟨some 10, none, .mov (.t 3)⟩,
 ⟨some 11, none, .bin .neq (.t 10) (.k (.c (.int .i64 1)))⟩,
 ⟨some 12, none, .mov (.t 11)⟩,
 ⟨some 13, some (12, true), .mov (.t 3)⟩,
 ⟨some 14, some (12, true), .bin .neq (.t 13) (.k (.c (.int .i64 2)))⟩,
 ⟨some 15, none, .pick (.t 12) (.t 14) (.k (.c (.bool false)))⟩,
 ⟨some 16, none, .mov (.t 15)⟩,
 ⟨some 17, some (16, true), .mov (.t 3)⟩,
 ⟨some 18, some (16, true), .bin .neq (.t 17) (.k (.c (.int .i64 4)))⟩,
 ⟨some 19, none, .pick (.t 16) (.t 18) (.k (.c (.bool false)))⟩,
 ⟨some 20, none, .mov (.t 19)⟩,
 ⟨some 21, some (20, true), .mov (.t 3)⟩,
 ⟨some 22, some (20, true), .bin .neq (.t 21) (.k (.c (.int .i64 8)))⟩,
 ⟨some 23, none, .pick (.t 20) (.t 22) (.k (.c (.bool false)))⟩])
 (.cond (.t 23) (.seq (.reg false [⟨some 2, none, .mov (.k (.c (.bool false)))⟩])
 (.ret (some [2]))) .skip))
 (.seq (.seq (.reg false [⟨some 24, none, .mov (.t 0)⟩,
 ⟨some 25, none, .len (.t 24)⟩,
 ⟨some 26, none, .mov (.k (.c (.int .i64 0)))⟩])
 (.block 0 (some [3, 24, 25, 26]) (some [])
 (.loop c_impl_SetOk_b0)))
 (.seq (.reg false [⟨some 2, none, .mov (.k (.c (.bool true)))⟩])
 (.ret (some [2])))))))⟩
theorem c_impl_SetOk_ok : trF Try.prog ⟨[(0, [3, 24, 25, 26], []), (2, [3, 4, 5, 24, 25, 26, 31, 32, 33], [3, 24, 25, 26])], [2], false, false⟩ Try.f48 = some c_impl_SetOk := by kernel_rfl
def c_impl_SetHas16 : IFn := ⟨12, [.t 4],
  (.seq (.reg false [⟨some 4, none, .mov (.k (.c (.bool false)))⟩])
 (.seq (.reg false [⟨some 5, none, .mov (.t 0)⟩,
 ⟨some 6, none, .call 48 [.t 5]⟩,
 ⟨some 7, none, .mov (.t 6)⟩,
 ⟨some 8, some (7, true), .mov (.t 0)⟩,
 ⟨some 9, some (7, true), .mov (.t 1)⟩,
 ⟨some 10, some (7, true), .call 94 [.t 8, .t 9]⟩,
 ⟨some 11, none, .pick (.t 7) (.t 10) (.k (.c (.bool false)))⟩,
 ⟨some 4, none, .mov (.t 11)⟩])
 (.ret (some [4]))))⟩
theorem c_impl_SetHas16_ok : trF Try.prog ⟨[], [4], false, false⟩ Try.f49 = some c_impl_SetHas16 := by kernel_rfl
def c_impl_SetAdd_b0 : IC :=
  (.seq (.seq (.reg false [⟨some 27, none, .mov (.t 6)⟩,
 ⟨some 28, none, .mov (.t 1)⟩,
 ⟨some 29, none, .mov (.t 6)⟩,
 ⟨some 30, none, .len (.t 29)⟩,
 ⟨some 31, none, .call 93 [.t 28, .t 30]⟩,
 ⟨some 32, none, .ixs (.t 27) (.t 31) 1⟩,
 ⟨some 33, none, .load1 (.t 32)⟩,
 ⟨some 34, none, .len (.t 33)⟩,
 ⟨some 35, none, .bin .eql (.t 34) (.k (.c (.int .i64 3)))⟩])
 (.cond (.t 35) .skip (.exit 1)))
 (.block 2 none none
 (.seq (.seq (.reg false [⟨some 36, none, .mov (.t 6)⟩,
 ⟨some 37, none, .len (.t 36)⟩,
 ⟨some 38, none, .bin .eql (.t 37) (.k (.c (.int .i64 8)))⟩])
 (.cond (.t 38) (.seq (.reg false [⟨some 39, none, .mov (.t 0)⟩,
 ⟨some 40, none, .call 95 [.t 39]⟩,
 ⟨some 4, none, .mov (.t 40)⟩,
 ⟨some 5, none, .mov (.k (.c (.int .i64 3)))⟩])
 (.ret (some [4, 5]))) .skip))
 (.reg false [⟨some 41, none, .mov (.t 0)⟩,
 ⟨some 42, none, .call 92 [.t 41]⟩,
 ⟨some 43, none, .mov (.t 6)⟩,
 ⟨some 44, none, .len (.t 43)⟩,
 ⟨some 45, none, .bin .mul (.k (.c (.int .i64 2))) (.t 44)⟩,
 ⟨some 46, none, .call 96 [.t 42, .t 45]⟩,
 ⟨some 6, none, .mov (.t 46)⟩]))))
def c_impl_SetAdd : IFn := ⟨66, [.t 4, .t 5],
  (.seq (.reg false [⟨some 4, none, .mov (.k (.c .nils))⟩,
 ⟨some 5, none, .mov (.k (.c (.int .i64 0)))⟩])
 (.seq (.block 0 none none
 (.seq (.reg false [⟨some 9, none, .mov (.t 0)⟩,
 ⟨some 10, none, .call 48 [.t 9]⟩,
 ⟨some 11, none, .un .not (.t 10)⟩,
 ⟨some 12, none, .mov (.t 11)⟩,
 ⟨some 13, some (12, false), .mov (.t 1)⟩,
 ⟨some 14, some (12, false), .call 62 [.t 13]⟩,
 ⟨some 15, some (12, false), .un .not (.t 14)⟩,
 ⟨some 16, none, .pick (.t 12) (.k (.c (.bool true))) (.t 15)⟩,
 ⟨some 8, none, .mov (.t 16)⟩])
 (.cond (.t 8) (.seq (.reg false [⟨some 17, none, .mov (.t 0)⟩,
 ⟨some 18, none, .call 95 [.t 17]⟩,
 ⟨some 4, none, .mov (.t 18)⟩,
 ⟨some 5, none, .mov (.k (.c (.int .i64 1)))⟩])
 (.ret (some [4, 5]))) (.seq (.reg false [⟨some 20, none, .mov (.t 0)⟩,
 ⟨some 21, none, .mov (.t 1)⟩,
 ⟨some 22, none, .call 94 [.t 20, .t 21]⟩,
 ⟨some 19, none, .mov (.t 22)⟩])
 (.cond (.t 19) (.seq (.reg false [⟨some 23, none, .mov (.t 0)⟩,
 ⟨some 24, none, .call 95 [.t 23]⟩,
 ⟨some 4, none, .mov (.t 24)⟩,
 ⟨some 5, none, .mov (.k (.c (.int .i64 2)))⟩])
 (.ret (some [4, 5]))) .skip)))))
 (.seq (.reg false [⟨some 25, none, .mov (.t 0)⟩,
 ⟨some 26, none, .call 95 [.t 25]⟩,
 ⟨some 6, none, .mov (.t 26)⟩])
 (.seq (.block 1 (some [0, 1, 6]) (some [1, 6])
 (.loop c_impl_SetAdd_b0))
 (.seq (.reg false [⟨some 47, none, .mov (.t 6)⟩,
 ⟨some 48, none, .mov (.t 1)⟩,
 ⟨some 49, none, .mov (.t 6)⟩,
 ⟨some 50, none, .len (.t 49)⟩,
 ⟨some 51, none, .call 93 [.t 48, .t 50]⟩,
 ⟨some 52, none, .ixs (.t 47) (.t 51) 1⟩,
 ⟨some 7, none, .mov (.t 52)⟩])
 (.seq (.reg false [⟨some 53, none, .mov (.t 7)⟩,
 ⟨some 54, none, .mov (.t 7)⟩,
 ⟨some 55, none, .chk (.t 54)⟩,
 ⟨some 56, none, .load1 (.t 55)⟩,
 ⟨some 57, none, .mov (.t 1)⟩,
 ⟨some 58, none, .lit 1 1 [.int .i64 0] [(0, .t 57)] 3⟩,
 ⟨some 59, none, .app (.t 56) (.t 58) 3 1 8⟩,
 ⟨some 60, none, .chk (.t 53)⟩,
 ⟨none, none, .store (.t 60) (.t 59) 1⟩])
 (.seq (.reg false [⟨some 61, none, .mov (.t 7)⟩,
 ⟨some 62, none, .chk (.t 61)⟩,
 ⟨some 63, none, .load1 (.t 62)⟩,
 ⟨some 64, none, .call 97 [.t 63]⟩])
 (.seq (.reg false [⟨some 65, none, .mov (.t 6)⟩,
 ⟨some 4, none, .mov (.t 65)⟩,
 ⟨some 5, none, .mov (.k (.c (.int .i64 0)))⟩])
 (.ret (some [4, 5]))))))))))⟩
theorem c_impl_SetAdd_ok : trF Try.prog ⟨[(1, [0, 1, 6], [1, 6])], [4, 5], false, false⟩ Try.f50 = some c_impl_SetAdd := by kernel_rfl
def c_impl_SetSame : IFn := ⟨18, [.t 4],
  (.seq (.reg false [⟨some 4, none, .mov (.k (.c (.bool false)))⟩])
 (.seq (.reg false [⟨some 5, none, .mov (.t 0)⟩,
 ⟨some 6, none, .call 48 [.t 5]⟩,
 ⟨some 7, none, .mov (.t 6)⟩,
 ⟨some 8, some (7, true), .mov (.t 1)⟩,
 ⟨some 9, some (7, true), .call 48 [.t 8]⟩,
 ⟨some 10, none, .pick (.t 7) (.t 9) (.k (.c (.bool false)))⟩,
 ⟨some 11, none, .mov (.t 10)⟩,
 ⟨some 12, some (11, true), .mov (.t 0)⟩,
 ⟨some 13, some (11, true), .call 92 [.t 12]⟩,
 ⟨some 14, some (11, true), .mov (.t 1)⟩,
 ⟨some 15, some (11, true), .call 92 [.t 14]⟩,
 ⟨some 16, some (11, true), .call 98 [.t 13, .t 15]⟩,
 ⟨some 17, none, .pick (.t 11) (.t 16) (.k (.c (.bool false)))⟩,
 ⟨some 4, none, .mov (.t 17)⟩])
 (.ret (some [4]))))⟩
theorem c_impl_SetSame_ok : trF Try.prog ⟨[], [4], false, false⟩ Try.f51 = some c_impl_SetSame := by kernel_rfl
def c_impl_SetDrop : IFn := ⟨40, [.t 4, .t 5],
  (.seq (.reg false [⟨some 3, none, .box (.t 1) 3⟩,
 ⟨some 4, none, .mov (.k (.c .nils))⟩,
 ⟨some 5, none, .mov (.k (.c (.int .i64 0)))⟩])
 (.seq (.reg false [⟨some 8, none, .mov (.t 0)⟩,
 ⟨some 9, none, .call 95 [.t 8]⟩,
 ⟨some 6, none, .mov (.t 9)⟩])
 (.seq (.block 0 none none
 (.seq (.reg false [⟨some 11, none, .mov (.t 0)⟩,
 ⟨some 12, none, .call 48 [.t 11]⟩,
 ⟨some 13, none, .un .not (.t 12)⟩,
 ⟨some 14, none, .mov (.t 13)⟩,
 ⟨some 15, some (14, false), .load1 (.t 3)⟩,
 ⟨some 16, some (14, false), .call 62 [.t 15]⟩,
 ⟨some 17, some (14, false), .un .not (.t 16)⟩,
 ⟨some 18, none, .pick (.t 14) (.k (.c (.bool true))) (.t 17)⟩,
 ⟨some 10, none, .mov (.t 18)⟩])
 (.cond (.t 10) (.seq (.reg false [⟨some 19, none, .mov (.t 6)⟩,
 ⟨some 4, none, .mov (.t 19)⟩,
 ⟨some 5, none, .mov (.k (.c (.int .i64 1)))⟩])
 (.ret (some [4, 5]))) (.seq (.reg false [⟨some 21, none, .mov (.t 0)⟩,
 ⟨some 22, none, .load1 (.t 3)⟩,
 ⟨some 23, none, .call 94 [.t 21, .t 22]⟩,
 ⟨some 24, none, .un .not (.t 23)⟩,
 ⟨some 20, none, .mov (.t 24)⟩])
 (.cond (.t 20) (.seq (.reg false [⟨some 25, none, .mov (.t 6)⟩,
 ⟨some 4, none, .mov (.t 25)⟩,
 ⟨some 5, none, .mov (.k (.c (.int .i64 4)))⟩])
 (.ret (some [4, 5]))) .skip)))))
 (.seq (.reg false [⟨some 26, none, .load1 (.t 3)⟩,
 ⟨some 27, none, .mov (.t 0)⟩,
 ⟨some 28, none, .len (.t 27)⟩,
 ⟨some 29, none, .call 93 [.t 26, .t 28]⟩,
 ⟨some 7, none, .mov (.t 29)⟩])
 (.seq (.reg false [⟨some 30, none, .mov (.t 6)⟩,
 ⟨some 31, none, .mov (.t 7)⟩,
 ⟨some 32, none, .mov (.t 6)⟩,
 ⟨some 33, none, .mov (.t 7)⟩,
 ⟨some 34, none, .ixs (.t 32) (.t 33) 1⟩,
 ⟨some 35, none, .load1 (.t 34)⟩,
 ⟨some 36, none, .mkc 100 [.t 3]⟩,
 ⟨some 37, none, .call 99 [.t 35, .t 36]⟩,
 ⟨some 38, none, .ixs (.t 30) (.t 31) 1⟩,
 ⟨none, none, .store (.t 38) (.t 37) 1⟩])
 (.seq (.reg false [⟨some 39, none, .mov (.t 6)⟩,
 ⟨some 4, none, .mov (.t 39)⟩,
 ⟨some 5, none, .mov (.k (.c (.int .i64 0)))⟩])
 (.ret (some [4, 5]))))))))⟩
theorem c_impl_SetDrop_ok : trF Try.prog ⟨[], [4, 5], false, false⟩ Try.f52 = some c_impl_SetDrop := by kernel_rfl
def c_impl_NewSet : IFn := ⟨3, [.t 0],
  (.seq (.reg false [⟨some 0, none, .mov (.k (.c .nils))⟩])
 (.seq (.reg false [⟨some 1, none, .lit 0 1 [.int .i64 0] [] 3⟩,
 ⟨some 2, none, .lit 1 1 [.nils] [(0, .t 1)] 28⟩,
 ⟨some 0, none, .mov (.t 2)⟩])
 (.ret (some [0]))))⟩
theorem c_impl_NewSet_ok : trF Try.prog ⟨[], [0], false, false⟩ Try.f53 = some c_impl_NewSet := by kernel_rfl
def c_impl_SetJoin_b0 : IC :=
  (.seq (.reg false [⟨some 27, none, .bin .lss (.t 26) (.t 25)⟩])
 (.seq (.cond (.t 27) .skip (.exit 0))
 (.seq (.block 1 none none
 (.seq (.reg false [⟨some 28, none, .ixs (.t 24) (.t 26) 1⟩,
 ⟨some 29, none, .load1 (.t 28)⟩,
 ⟨some 8, none, .mov (.t 29)⟩])
 (.seq (.reg false [⟨some 31, none, .mov (.t 6)⟩,
 ⟨some 32, none, .mov (.t 8)⟩,
 ⟨some 33, none, .call 50 [.t 31, .t 32]⟩,
 ⟨some 30, none, .mov (.t 33)⟩,
 ⟨some 34, none, .ext (.t 30) 0⟩,
 ⟨some 35, none, .ext (.t 30) 1⟩,
 ⟨some 9, none, .mov (.t 34)⟩,
 ⟨some 10, none, .mov (.t 35)⟩])
 (.seq (.seq (.reg false [⟨some 36, none, .mov (.t 10)⟩,
 ⟨some 37, none, .bin .eql (.t 36) (.k (.c (.int .i64 3)))⟩])
 (.cond (.t 37) (.seq (.reg false [⟨some 38, none, .mov (.t 0)⟩,
 ⟨some 39, none, .call 95 [.t 38]⟩,
 ⟨some 4, none, .mov (.t 39)⟩,
 ⟨some 5, none, .mov (.k (.c (.int .i64 3)))⟩])
 (.ret (some [4, 5]))) .skip))
 (.reg false [⟨some 40, none, .mov (.t 9)⟩,
 ⟨some 6, none, .mov (.t 40)⟩])))))
 (.reg false [⟨some 41, none, .bin .add (.t 26) (.k (.c (.int .i64 1)))⟩,
 ⟨some 26, none, .mov (.t 41)⟩]))))
def c_impl_SetJoin : IFn := ⟨43, [.t 4, .t 5],
  (.seq (.reg false [⟨some 4, none, .mov (.k (.c .nils))⟩,
 ⟨some 5, none, .mov (.k (.c (.int .i64 0)))⟩])
 (.seq (.seq (.reg false [⟨some 11, none, .mov (.t 0)⟩,
 ⟨some 12, none, .call 48 [.t 11]⟩,
 ⟨some 13, none, .un .not (.t 12)⟩,
 ⟨some 14, none, .mov (.t 13)⟩,
 ⟨some 15, some (14, false), .mov (.t 1)⟩,
 ⟨some 16, some (14, false), .call 48 [.t 15]⟩,
 ⟨some 17, some (14, false), .un .not (.t 16)⟩,
 ⟨some 18, none, .pick (.t 14) (.k (.c (.bool true))) (.t 17)⟩])
 (.cond (.t 18) (.seq (.reg false [⟨some 19, none, .mov (.t 0)⟩,
 ⟨some 20, none, .call 95 [.t 19]⟩,
 ⟨some 4, none, .mov (.t 20)⟩,
 ⟨some 5, none, .mov (.k (.c (.int .i64 1)))⟩])
 (.ret (some [4, 5]))) .skip))
 (.seq (.reg false [⟨some 21, none, .mov (.t 0)⟩,
 ⟨some 22, none, .call 95 [.t 21]⟩,
 ⟨some 6, none, .mov (.t 22)⟩])
 (.seq (.seq (.reg false [⟨some 23, none, .mov (.t 1)⟩,
 ⟨some 24, none, .call 92 [.t 23]⟩,
 ⟨some 25, none, .len (.t 24)⟩,
 ⟨some 26, none, .mov (.k (.c (.int .i64 0)))⟩])
 (.block 0 (some [0, 6, 24, 25, 26]) (some [6])
 (.loop c_impl_SetJoin_b0)))
 (.seq (.reg false [⟨some 42, none, .mov (.t 6)⟩,
 ⟨some 4, none, .mov (.t 42)⟩,
 ⟨some 5, none, .mov (.k (.c (.int .i64 0)))⟩])
 (.ret (some [4, 5])))))))⟩
theorem c_impl_SetJoin_ok : trF Try.prog ⟨[(0, [0, 6, 24, 25, 26], [6])], [4, 5], false, false⟩ Try.f54 = some c_impl_SetJoin := by kernel_rfl
def c_spec_NewBench : IFn := ⟨3, [.cell 0 149 true],
  (.seq (.reg false [⟨some 0, none, .alloc [.nils, .nils, .nils, .nils, .nils, .nils, .nils, .bool false, .bool false, .int .i64 0, .int .i64 0, .int .i64 0, .bool false, .int .i64 0, .int .i64 0, .int .i64 0, .bool false, .int .i64 0, .int .i64 0, .int .i64 0, .bool false, .int .i64 0, .int .i64 0, .int .i64 0, .bool false, .int .i64 0, .int .i64 0, .int .i64 0, .bool false, .int .i64 0, .int .i64 0, .int .i64 0, .bool false, .int .i64 0, .int .i64 0, .int .i64 0, .bool false, .int .i64 0, .int .i64 0, .int .i64 0, .bool false, .int .i64 0, .int .i64 0, .int .i64 0, .bool false, .int .i64 0, .int .i64 0, .int .i64 0, .bool false, .int .i64 0, .int .i64 0, .int .i64 0, .bool false, .int .i64 0, .int .i64 0, .int .i64 0, .bool false, .int .i64 0, .int .i64 0, .int .i64 0, .bool false, .int .i64 0, .int .i64 0, .int .i64 0, .bool false, .int .i64 0, .int .i64 0, .int .i64 0, .bool false, .int .i64 0, .int .i64 0, .int .i64 0, .int .i64 0, .int .i64 0, .int .i64 0, .int .i64 0, .int .i64 0, .int .i64 0, .int .i64 0, .int .i64 0, .int .i64 0, .int .i64 0, .int .i64 0, .bool false, .int .i64 0, .int .i64 0, .int .i64 0, .bool false, .int .i64 0, .int .i64 0, .int .i64 0, .bool false, .int .i64 0, .int .i64 0, .int .i64 0, .bool false, .int .i64 0, .int .i64 0, .int .i64 0, .bool false, .int .i64 0, .int .i64 0, .int .i64 0, .bool false, .int .i64 0, .int .i64 0, .int .i64 0, .bool false, .int .i64 0, .int .i64 0, .int .i64 0, .bool false, .int .i64 0, .int .i64 0, .int .i64 0, .bool false, .int .i64 0, .int .i64 0, .int .i64 0, .bool false, .int .i64 0, .int .i64 0, .int .i64 0, .bool false, .int .i64 0, .int .i64 0, .int .i64 0, .bool false, .int .i64 0, .int .i64 0, .int .i64 0, .bool false, .int .i64 0, .int .i64 0, .int .i64 0, .bool false, .int .i64 0, .int .i64 0, .int .i64 0, .bool false, .int .i64 0, .int .i64 0, .int .i64 0, .bool false, .int .i64 0, .int .i64 0, .int .i64 0, .int .i64 0, .nils] 114⟩])
 (.seq (.reg false [⟨some 1, none, .call 101 []⟩,
 ⟨some 2, none, .bld [.nils, .nils, .nils, .nils, .nils, .nils, .nils, .bool false, .bool false, .int .i64 0, .int .i64 0, .int .i64 0, .bool false, .int .i64 0, .int .i64 0, .int .i64 0, .bool false, .int .i64 0, .int .i64 0, .int .i64 0, .bool false, .int .i64 0, .int .i64 0, .int .i64 0, .bool false, .int .i64 0, .int .i64 0, .int .i64 0, .bool false, .int .i64 0, .int .i64 0, .int .i64 0, .bool false, .int .i64 0, .int .i64 0, .int .i64 0, .bool false, .int .i64 0, .int .i64 0, .int .i64 0, .bool false, .int .i64 0, .int .i64 0, .int .i64 0, .bool false, .int .i64 0, .int .i64 0, .int .i64 0, .bool false, .int .i64 0, .int .i64 0, .int .i64 0, .bool false, .int .i64 0, .int .i64 0, .int .i64 0, .bool false, .int .i64 0, .int .i64 0, .int .i64 0, .bool false, .int .i64 0, .int .i64 0, .int .i64 0, .bool false, .int .i64 0, .int .i64 0, .int .i64 0, .bool false, .int .i64 0, .int .i64 0, .int .i64 0, .int .i64 0, .int .i64 0, .int .i64 0, .int .i64 0, .int .i64 0, .int .i64 0, .int .i64 0, .int .i64 0, .int .i64 0, .int .i64 0, .int .i64 0, .bool false, .int .i64 0, .int .i64 0, .int .i64 0, .bool false, .int .i64 0, .int .i64 0, .int .i64 0, .bool false, .int .i64 0, .int .i64 0, .int .i64 0, .bool false, .int .i64 0, .int .i64 0, .int .i64 0, .bool false, .int .i64 0, .int .i64 0, .int .i64 0, .bool false, .int .i64 0, .int .i64 0, .int .i64 0, .bool false, .int .i64 0, .int .i64 0, .int .i64 0, .bool false, .int .i64 0, .int .i64 0, .int .i64 0, .bool false, .int .i64 0, .int .i64 0, .int .i64 0, .bool false, .int .i64 0, .int .i64 0, .int .i64 0, .bool false, .int .i64 0, .int .i64 0, .int .i64 0, .bool false, .int .i64 0, .int .i64 0, .int .i64 0, .bool false, .int .i64 0, .int .i64 0, .int .i64 0, .bool false, .int .i64 0, .int .i64 0, .int .i64 0, .bool false, .int .i64 0, .int .i64 0, .int .i64 0, .bool false, .int .i64 0, .int .i64 0, .int .i64 0, .int .i64 0, .nils] [(8, (141, .t 1))]⟩,
 ⟨none, none, .store (.t 0) (.t 2) 149⟩])
 (.ret (some [0]))))⟩
theorem c_spec_NewBench_ok : trF Try.prog ⟨[], [0], false, false⟩ Try.f55 = some c_spec_NewBench := by kernel_rfl
def c_impl_NewBench : IFn := ⟨3, [.cell 0 149 true],
  (.seq (.reg false [⟨some 0, none, .alloc [.nils, .nils, .nils, .nils, .nils, .nils, .nils, .bool false, .bool false, .int .i64 0, .int .i64 0, .int .i64 0, .bool false, .int .i64 0, .int .i64 0, .int .i64 0, .bool false, .int .i64 0, .int .i64 0, .int .i64 0, .bool false, .int .i64 0, .int .i64 0, .int .i64 0, .bool false, .int .i64 0, .int .i64 0, .int .i64 0, .bool false, .int .i64 0, .int .i64 0, .int .i64 0, .bool false, .int .i64 0, .int .i64 0, .int .i64 0, .bool false, .int .i64 0, .int .i64 0, .int .i64 0, .bool false, .int .i64 0, .int .i64 0, .int .i64 0, .bool false, .int .i64 0, .int .i64 0, .int .i64 0, .bool false, .int .i64 0, .int .i64 0, .int .i64 0, .bool false, .int .i64 0, .int .i64 0, .int .i64 0, .bool false, .int .i64 0, .int .i64 0, .int .i64 0, .bool false, .int .i64 0, .int .i64 0, .int .i64 0, .bool false, .int .i64 0, .int .i64 0, .int .i64 0, .bool false, .int .i64 0, .int .i64 0, .int .i64 0, .int .i64 0, .int .i64 0, .int .i64 0, .int .i64 0, .int .i64 0, .int .i64 0, .int .i64 0, .int .i64 0, .int .i64 0, .int .i64 0, .int .i64 0, .bool false, .int .i64 0, .int .i64 0, .int .i64 0, .bool false, .int .i64 0, .int .i64 0, .int .i64 0, .bool false, .int .i64 0, .int .i64 0, .int .i64 0, .bool false, .int .i64 0, .int .i64 0, .int .i64 0, .bool false, .int .i64 0, .int .i64 0, .int .i64 0, .bool false, .int .i64 0, .int .i64 0, .int .i64 0, .bool false, .int .i64 0, .int .i64 0, .int .i64 0, .bool false, .int .i64 0, .int .i64 0, .int .i64 0, .bool false, .int .i64 0, .int .i64 0, .int .i64 0, .bool false, .int .i64 0, .int .i64 0, .int .i64 0, .bool false, .int .i64 0, .int .i64 0, .int .i64 0, .bool false, .int .i64 0, .int .i64 0, .int .i64 0, .bool false, .int .i64 0, .int .i64 0, .int .i64 0, .bool false, .int .i64 0, .int .i64 0, .int .i64 0, .bool false, .int .i64 0, .int .i64 0, .int .i64 0, .bool false, .int .i64 0, .int .i64 0, .int .i64 0, .int .i64 0, .nils] 114⟩])
 (.seq (.reg false [⟨some 1, none, .call 102 []⟩,
 ⟨some 2, none, .bld [.nils, .nils, .nils, .nils, .nils, .nils, .nils, .bool false, .bool false, .int .i64 0, .int .i64 0, .int .i64 0, .bool false, .int .i64 0, .int .i64 0, .int .i64 0, .bool false, .int .i64 0, .int .i64 0, .int .i64 0, .bool false, .int .i64 0, .int .i64 0, .int .i64 0, .bool false, .int .i64 0, .int .i64 0, .int .i64 0, .bool false, .int .i64 0, .int .i64 0, .int .i64 0, .bool false, .int .i64 0, .int .i64 0, .int .i64 0, .bool false, .int .i64 0, .int .i64 0, .int .i64 0, .bool false, .int .i64 0, .int .i64 0, .int .i64 0, .bool false, .int .i64 0, .int .i64 0, .int .i64 0, .bool false, .int .i64 0, .int .i64 0, .int .i64 0, .bool false, .int .i64 0, .int .i64 0, .int .i64 0, .bool false, .int .i64 0, .int .i64 0, .int .i64 0, .bool false, .int .i64 0, .int .i64 0, .int .i64 0, .bool false, .int .i64 0, .int .i64 0, .int .i64 0, .bool false, .int .i64 0, .int .i64 0, .int .i64 0, .int .i64 0, .int .i64 0, .int .i64 0, .int .i64 0, .int .i64 0, .int .i64 0, .int .i64 0, .int .i64 0, .int .i64 0, .int .i64 0, .int .i64 0, .bool false, .int .i64 0, .int .i64 0, .int .i64 0, .bool false, .int .i64 0, .int .i64 0, .int .i64 0, .bool false, .int .i64 0, .int .i64 0, .int .i64 0, .bool false, .int .i64 0, .int .i64 0, .int .i64 0, .bool false, .int .i64 0, .int .i64 0, .int .i64 0, .bool false, .int .i64 0, .int .i64 0, .int .i64 0, .bool false, .int .i64 0, .int .i64 0, .int .i64 0, .bool false, .int .i64 0, .int .i64 0, .int .i64 0, .bool false, .int .i64 0, .int .i64 0, .int .i64 0, .bool false, .int .i64 0, .int .i64 0, .int .i64 0, .bool false, .int .i64 0, .int .i64 0, .int .i64 0, .bool false, .int .i64 0, .int .i64 0, .int .i64 0, .bool false, .int .i64 0, .int .i64 0, .int .i64 0, .bool false, .int .i64 0, .int .i64 0, .int .i64 0, .bool false, .int .i64 0, .int .i64 0, .int .i64 0, .bool false, .int .i64 0, .int .i64 0, .int .i64 0, .int .i64 0, .nils] [(8, (141, .t 1))]⟩,
 ⟨none, none, .store (.t 0) (.t 2) 149⟩])
 (.ret (some [0]))))⟩
theorem c_impl_NewBench_ok : trF Try.prog ⟨[], [0], false, false⟩ Try.f56 = some c_impl_NewBench := by kernel_rfl
def c_laws_eqBench : IFn := ⟨34, [.t 4],
  (.seq (.reg false [⟨some 2, none, .box (.t 0) 114⟩,
 ⟨some 3, none, .box (.t 1) 114⟩,
 ⟨some 4, none, .mov (.k (.c (.bool false)))⟩])
 (.seq (.seq (.reg false [⟨some 5, none, .fld (.t 2) 0⟩,
 ⟨some 6, none, .load1 (.t 5)⟩,
 ⟨some 7, none, .fld (.t 3) 0⟩,
 ⟨some 8, none, .load1 (.t 7)⟩,
 ⟨some 9, none, .call 103 [.t 6, .t 8]⟩,
 ⟨some 10, none, .un .not (.t 9)⟩])
 (.cond (.t 10) (.seq (.reg false [⟨some 4, none, .mov (.k (.c (.bool false)))⟩])
 (.ret (some [4]))) .skip))
 (.seq (.seq (.reg false [⟨some 11, none, .fld (.t 2) 1⟩,
 ⟨some 12, none, .load1 (.t 11)⟩,
 ⟨some 13, none, .fld (.t 3) 1⟩,
 ⟨some 14, none, .load1 (.t 13)⟩,
 ⟨some 15, none, .call 104 [.t 12, .t 14]⟩,
 ⟨some 16, none, .un .not (.t 15)⟩])
 (.cond (.t 16) (.seq (.reg false [⟨some 4, none, .mov (.k (.c (.bool false)))⟩])
 (.ret (some [4]))) .skip))
 (.seq (.seq (.reg false [⟨some 17, none, .fld (.t 2) 2⟩,
 ⟨some 18, none, .loadN (.t 17) 5⟩,
 ⟨some 19, none, .fld (.t 3) 2⟩,
 ⟨some 20, none, .loadN (.t 19) 5⟩,
 ⟨some 21, none, .call 105 [.t 18, .t 20]⟩,
 ⟨some 22, none, .un .not (.t 21)⟩])
 (.cond (.t 22) (.seq (.reg false [⟨some 4, none, .mov (.k (.c (.bool false)))⟩])
 (.ret (some [4]))) .skip))
 (.seq (.seq (.reg false [⟨some 23, none, .fld (.t 2) 7⟩,
 ⟨some 24, none, .load1 (.t 23)⟩,
 ⟨some 25, none, .fld (.t 3) 7⟩,
 ⟨some 26, none, .load1 (.t 25)⟩,
 ⟨some 27, none, .binb true (.t 24) (.t 26)⟩])
 (.cond (.t 27) (.seq (.reg false [⟨some 4, none, .mov (.k (.c (.bool false)))⟩])
 (.ret (some [4]))) .skip))
 (.seq (.seq (.reg false [⟨some 28, none, .fld (.t 2) 8⟩,
 ⟨some 29, none, .loadN (.t 28) 141⟩,
 ⟨some 30, none, .fld (.t 3) 8⟩,
 ⟨some 31, none, .loadN (.t 30) 141⟩,
 ⟨some 32, none, .call 45 [.t 29, .t 31]⟩,
 ⟨some 33, none, .un .not (.t 32)⟩])
 (.cond (.t 33) (.seq (.reg false [⟨some 4, none, .mov (.k (.c (.bool false)))⟩])
 (.ret (some [4]))) .skip))
 (.seq (.reg false [⟨some 4, none, .mov (.k (.c (.bool true)))⟩])
 (.ret (some [4])))))))))⟩
theorem c_laws_eqBench_ok : trF Try.prog ⟨[], [4], false, false⟩ Try.f57 = some c_laws_eqBench := by kernel_rfl
def c_laws_markBench : IFn := ⟨22, [.t 4],
  (.seq (.reg false [⟨some 2, none, .box (.t 0) 114⟩,
 ⟨some 4, none, .mov (.k (.c (.int .i64 0)))⟩])
 (.seq (.reg false [⟨some 5, none, .fld (.t 2) 0⟩,
 ⟨some 6, none, .load1 (.t 5)⟩,
 ⟨some 7, none, .mov (.t 1)⟩,
 ⟨some 8, none, .call 106 [.t 6, .t 7]⟩,
 ⟨some 1, none, .mov (.t 8)⟩])
 (.seq (.reg false [⟨some 9, none, .fld (.t 2) 1⟩,
 ⟨some 10, none, .load1 (.t 9)⟩,
 ⟨some 11, none, .mov (.t 1)⟩,
 ⟨some 12, none, .call 107 [.t 10, .t 11]⟩,
 ⟨some 1, none, .mov (.t 12)⟩])
 (.seq (.reg false [⟨some 13, none, .fld (.t 2) 2⟩,
 ⟨some 14, none, .loadN (.t 13) 5⟩,
 ⟨some 15, none, .mov (.t 1)⟩,
 ⟨some 16, none, .call 108 [.t 14, .t 15]⟩,
 ⟨some 1, none, .mov (.t 16)⟩])
 (.seq (.reg false [⟨some 17, none, .fld (.t 2) 8⟩,
 ⟨some 18, none, .loadN (.t 17) 141⟩,
 ⟨some 19, none, .mov (.t 1)⟩,
 ⟨some 20, none, .call 109 [.t 18, .t 19]⟩,
 ⟨some 1, none, .mov (.t 20)⟩])
 (.seq (.reg false [⟨some 21, none, .mov (.t 1)⟩,
 ⟨some 4, none, .mov (.t 21)⟩])
 (.ret (some [4]))))))))⟩
theorem c_laws_markBench_ok : trF Try.prog ⟨[], [4], false, false⟩ Try.f58 = some c_laws_markBench := by kernel_rfl
def c_laws_heldBench : IFn := ⟨30, [.t 4],
  (.seq (.reg false [⟨some 2, none, .box (.t 0) 114⟩,
 ⟨some 4, none, .mov (.k (.c (.int .i64 0)))⟩])
 (.seq (.reg false [⟨some 5, none, .fld (.t 2) 0⟩,
 ⟨some 6, none, .load1 (.t 5)⟩,
 ⟨some 7, none, .mov (.t 1)⟩,
 ⟨some 8, none, .call 110 [.t 6, .t 7]⟩,
 ⟨some 1, none, .mov (.t 8)⟩])
 (.seq (.seq (.reg false [⟨some 9, none, .mov (.t 1)⟩,
 ⟨some 10, none, .bin .lss (.t 9) (.k (.c (.int .i64 0)))⟩])
 (.cond (.t 10) (.seq (.reg false [⟨some 4, none, .mov (.k (.c (.int .i64 (-1))))⟩])
 (.ret (some [4]))) .skip))
 (.seq (.reg false [⟨some 11, none, .fld (.t 2) 1⟩,
 ⟨some 12, none, .load1 (.t 11)⟩,
 ⟨some 13, none, .mov (.t 1)⟩,
 ⟨some 14, none, .call 111 [.t 12, .t 13]⟩,
 ⟨some 1, none, .mov (.t 14)⟩])
 (.seq (.seq (.reg false [⟨some 15, none, .mov (.t 1)⟩,
 ⟨some 16, none, .bin .lss (.t 15) (.k (.c (.int .i64 0)))⟩])
 (.cond (.t 16) (.seq (.reg false [⟨some 4, none, .mov (.k (.c (.int .i64 (-1))))⟩])
 (.ret (some [4]))) .skip))
 (.seq (.reg false [⟨some 17, none, .fld (.t 2) 2⟩,
 ⟨some 18, none, .loadN (.t 17) 5⟩,
 ⟨some 19, none, .mov (.t 1)⟩,
 ⟨some 20, none, .call 112 [.t 18, .t 19]⟩,
 ⟨some 1, none, .mov (.t 20)⟩])
 (.seq (.seq (.reg false [⟨some 21, none, .mov (.t 1)⟩,
 ⟨some 22, none, .bin .lss (.t 21) (.k (.c (.int .i64 0)))⟩])
 (.cond (.t 22) (.seq (.reg false [⟨some 4, none, .mov (.k (.c (.int .i64 (-1))))⟩])
 (.ret (some [4]))) .skip))
 (.seq (.reg false [⟨some 23, none, .fld (.t 2) 8⟩,
 ⟨some 24, none, .loadN (.t 23) 141⟩,
 ⟨some 25, none, .mov (.t 1)⟩,
 ⟨some 26, none, .call 113 [.t 24, .t 25]⟩,
 ⟨some 1, none, .mov (.t 26)⟩])
 (.seq (.seq (.reg false [⟨some 27, none, .mov (.t 1)⟩,
 ⟨some 28, none, .bin .lss (.t 27) (.k (.c (.int .i64 0)))⟩])
 (.cond (.t 28) (.seq (.reg false [⟨some 4, none, .mov (.k (.c (.int .i64 (-1))))⟩])
 (.ret (some [4]))) .skip))
 (.seq (.reg false [⟨some 29, none, .mov (.t 1)⟩,
 ⟨some 4, none, .mov (.t 29)⟩])
 (.ret (some [4]))))))))))))⟩
theorem c_laws_heldBench_ok : trF Try.prog ⟨[], [4], false, false⟩ Try.f59 = some c_laws_heldBench := by kernel_rfl
def c_spec_l1New_b0 : IC :=
  (.seq (.seq (.reg false [⟨some 8, none, .mov (.t 4)⟩,
 ⟨some 9, none, .mov (.t 0)⟩,
 ⟨some 10, none, .len (.t 9)⟩,
 ⟨some 11, none, .bin .lss (.t 8) (.t 10)⟩,
 ⟨some 12, none, .mov (.t 11)⟩,
 ⟨some 13, some (12, true), .mov (.t 4)⟩,
 ⟨some 14, some (12, true), .bin .lss (.t 13) (.k (.c (.int .i64 4000)))⟩,
 ⟨some 15, none, .pick (.t 12) (.t 14) (.k (.c (.bool false)))⟩])
 (.cond (.t 15) .skip (.exit 0)))
 (.seq (.block 1 none none
 (.reg false [⟨some 18, none, .mov (.t 3)⟩,
 ⟨some 19, none, .bin .mul (.t 18) (.k (.c (.int .i64 131)))⟩,
 ⟨some 20, none, .mov (.t 0)⟩,
 ⟨some 21, none, .mov (.t 4)⟩,
 ⟨some 22, none, .ixs (.t 20) (.t 21) 1⟩,
 ⟨some 23, none, .load1 (.t 22)⟩,
 ⟨some 24, none, .cvt .i64 (.t 23)⟩,
 ⟨some 25, none, .bin .add (.t 19) (.t 24)⟩,
 ⟨some 26, none, .bin .add (.t 25) (.k (.c (.int .i64 7)))⟩,
 ⟨some 27, none, .bin .and (.t 26) (.k (.c (.int .i64 1073741823)))⟩,
 ⟨some 3, none, .mov (.t 27)⟩]))
 (.reg false [⟨some 16, none, .mov (.t 4)⟩,
 ⟨some 17, none, .bin .add (.t 16) (.k (.c (.int .i64 1)))⟩,
 ⟨some 4, none, .mov (.t 17)⟩])))
def c_spec_l1New : IFn := ⟨32, [.t 2],
  (.seq (.reg false [⟨some 2, none, .mov (.k (.c .nilp))⟩])
 (.seq (.reg false [⟨some 5, none, .mov (.t 0)⟩,
 ⟨some 6, none, .len (.t 5)⟩,
 ⟨some 7, none, .bin .add (.k (.c (.int .i64 87087))) (.t 6)⟩,
 ⟨some 3, none, .mov (.t 7)⟩])
 (.seq (.seq (.reg false [⟨some 4, none, .mov (.k (.c (.int .i64 0)))⟩])
 (.block 0 (some [0, 3, 4]) (some [0, 3])
 (.loop c_spec_l1New_b0)))
 (.seq (.reg false [⟨some 28, none, .mov (.t 0)⟩,
 ⟨some 29, none, .mov (.t 3)⟩,
 ⟨some 30, none, .bld [.nils, .int .i64 0, .int .i64 0] [(0, (1, .t 28)), (2, (1, .t 29))]⟩,
 ⟨some 31, none, .box (.t 30) 168⟩,
 ⟨some 2, none, .mov (.t 31)⟩])
 (.ret (some [2]))))))⟩
theorem c_spec_l1New_ok : trF Try.prog ⟨[(0, [0, 3, 4], [0, 3])], [2], false, false⟩ Try.f61 = some c_spec_l1New := by kernel_rfl
def c_impl_isValue : IFn := ⟨5, [.t 2],
  (.seq (.reg false [⟨some 2, none, .mov (.k (.c (.bool false)))⟩])
 (.seq (.reg false [⟨some 3, none, .mov (.t 0)⟩,
 ⟨some 4, none, .call 63 [.t 3, .k (.c (.int .i64 (-1000000000))), .k (.c (.int .i64 1000000000))]⟩,
 ⟨some 2, none, .mov (.t 4)⟩])
 (.ret (some [2]))))⟩
theorem c_impl_isValue_ok : trF Try.prog ⟨[], [2], false, false⟩ Try.f62 = some c_impl_isValue := by kernel_rfl
def c_impl_in : IFn := ⟨15, [.t 6],
  (.seq (.reg false [⟨some 6, none, .mov (.k (.c (.bool false)))⟩])
 (.seq (.reg false [⟨some 7, none, .mov (.t 1)⟩,
 ⟨some 8, none, .mov (.t 0)⟩,
 ⟨some 9, none, .bin .leq (.t 7) (.t 8)⟩,
 ⟨some 10, none, .mov (.t 9)⟩,
 ⟨some 11, some (10, true), .mov (.t 0)⟩,
 ⟨some 12, some (10, true), .mov (.t 2)⟩,
 ⟨some 13, some (10, true), .bin .leq (.t 11) (.t 12)⟩,
 ⟨some 14, none, .pick (.t 10) (.t 13) (.k (.c (.bool false)))⟩,
 ⟨some 6, none, .mov (.t 14)⟩])
 (.ret (some [6]))))⟩
theorem c_impl_in_ok : trF Try.prog ⟨[], [6], false, false⟩ Try.f63 = some c_impl_in := by kernel_rfl
def c_impl_areValues : IFn := ⟨6, [.t 2],
  (.seq (.reg false [⟨some 2, none, .mov (.k (.c (.bool false)))⟩])
 (.seq (.reg false [⟨some 3, none, .mov (.t 0)⟩,
 ⟨some 4, none, .call 118 [.t 3, .k (.c (.fn 119))]⟩,
 ⟨some 5, none, .un .not (.t 4)⟩,
 ⟨some 2, none, .mov (.t 5)⟩])
 (.ret (some [2]))))⟩
theorem c_impl_areValues_ok : trF Try.prog ⟨[], [2], false, false⟩ Try.f64 = some c_impl_areValues := by kernel_rfl
def c_spec_TreeOk_b0 : IC :=
  (.seq (.seq (.reg false [⟨some 9, none, .mov (.t 4)⟩,
 ⟨some 10, none, .bin .lss (.t 9) (.k (.c (.int .i64 16)))⟩])
 (.cond (.t 10) .skip (.exit 0)))
 (.seq (.block 1 none none
 (.seq (.reg false [⟨some 13, none, .mov (.t 4)⟩,
 ⟨some 14, none, .fld (.t 1) 0⟩,
 ⟨some 15, none, .ixa (.t 14) (.t 13) 16 4⟩,
 ⟨some 16, none, .loadN (.t 15) 4⟩,
 ⟨some 5, none, .alloc [.bool false, .int .i64 0, .int .i64 0, .int .i64 0] 44⟩,
 ⟨none, none, .store (.t 5) (.t 16) 4⟩])
 (.seq (.seq (.reg false [⟨some 17, none, .fld (.t 5) 0⟩,
 ⟨some 18, none, .load1 (.t 17)⟩,
 ⟨some 19, none, .un .not (.t 18)⟩,
 ⟨some 20, none, .mov (.t 19)⟩,
 ⟨some 21, some (20, true), .loadN (.t 5) 4⟩,
 ⟨some 22, some (20, true), .bld [.bool false, .int .i64 0, .int .i64 0, .int .i64 0] []⟩,
 ⟨some 23, some (20, true), .eqa true [none, some .i64, some .i64, some .i64] (.t 21) (.t 22)⟩,
 ⟨some 24, none, .pick (.t 20) (.t 23) (.k (.c (.bool false)))⟩,
 ⟨some 25, none, .mov (.t 24)⟩,
 ⟨some 26, some (25, false), .fld (.t 5) 0⟩,
 ⟨some 27, some (25, false), .load1 (.t 26)⟩,
 ⟨some 28, some (25, false), .mov (.t 27)⟩,
 ⟨some 29, some (28, true), .fld (.t 5) 1⟩,
 ⟨some 30, some (28, true), .load1 (.t 29)⟩,
 ⟨some 31, some (28, true), .call 66 [.t 30]⟩,
 ⟨some 32, some (28, true), .un .not (.t 31)⟩,
 ⟨some 33, some (25, false), .pick (.t 28) (.t 32) (.k (.c (.bool false)))⟩,
 ⟨some 34, none, .pick (.t 25) (.k (.c (.bool true))) (.t 33)⟩])
 (.cond (.t 34) (.seq (.reg false [⟨some 2, none, .mov (.k (.c (.bool false)))⟩])
 (.ret (some [2]))) .skip))
 (.seq (.reg false [⟨some 35, none, .fld (.t 5) 0⟩,
 ⟨some 36, none, .load1 (.t 35)⟩])
 (.cond (.t 36) (.reg false [⟨some 37, none, .mov (.t 3)⟩,
 ⟨some 38, none, .bin .add (.t 37) (.k (.c (.int .i64 1)))⟩,
 ⟨some 3, none, .mov (.t 38)⟩]) .skip)))))
 (.reg false [⟨some 11, none, .mov (.t 4)⟩,
 ⟨some 12, none, .bin .add (.t 11) (.k (.c (.int .i64 1)))⟩,
 ⟨some 4, none, .mov (.t 12)⟩])))
def c_spec_TreeOk_b1 : IC :=
  (.seq (.seq (.reg false [⟨some 47, none, .mov (.t 8)⟩,
 ⟨some 48, none, .mov (.t 6)⟩,
 ⟨some 49, none, .len (.t 48)⟩,
 ⟨some 50, none, .bin .lss (.t 47) (.t 49)⟩])
 (.cond (.t 50) .skip (.exit 2)))
 (.seq (.block 3 none none
 (.seq (.reg true [⟨some 53, none, .mov (.t 6)⟩,
 ⟨some 54, none, .mov (.t 8)⟩,
 ⟨some 55, none, .bin .sub (.t 54) (.k (.c (.int .i64 1)))⟩,
 ⟨some 56, none, .ixs (.t 53) (.t 55) 1⟩,
 ⟨some 57, none, .load1 (.t 56)⟩,
 ⟨some 58, none, .fld (.t 1) 0⟩,
 ⟨some 59, none, .ixa (.t 58) (.t 57) 16 4⟩,
 ⟨some 60, none, .fld (.t 59) 1⟩,
 ⟨some 61, none, .load1 (.t 60)⟩,
 ⟨some 62, none, .mov (.t 6)⟩,
 ⟨some 63, none, .mov (.t 8)⟩,
 ⟨some 64, none, .ixs (.t 62) (.t 63) 1⟩,
 ⟨some 65, none, .load1 (.t 64)⟩,
 ⟨some 66, none, .fld (.t 1) 0⟩,
 ⟨some 67, none, .ixa (.t 66) (.t 65) 16 4⟩,
 ⟨some 68, none, .fld (.t 67) 1⟩,
 ⟨some 69, none, .load1 (.t 68)⟩,
 ⟨some 70, none, .bin .geq (.t 61) (.t 69)⟩])
 (.cond (.t 70) (.seq (.reg false [⟨some 2, none, .mov (.k (.c (.bool false)))⟩])
 (.ret (some [2]))) .skip)))
 (.reg false [⟨some 51, none, .mov (.t 8)⟩,
 ⟨some 52, none, .bin .add (.t 51) (.k (.c (.int .i64 1)))⟩,
 ⟨some 8, none, .mov (.t 52)⟩])))
def c_spec_TreeOk : IFn := ⟨78, [.t 2],
  (.seq (.reg false [⟨some 1, none, .box (.t 0) 47⟩,
 ⟨some 2, none, .mov (.k (.c (.bool false)))⟩])
 (.seq (.reg false [⟨some 3, none, .mov (.k (.c (.int .i64 0)))⟩])
 (.seq (.seq (.reg false [⟨some 4, none, .mov (.k (.c (.int .i64 0)))⟩])
 (.block 0 (some [1, 3, 4]) (some [1, 3])
 (.loop c_spec_TreeOk_b0)))
 (.seq (.reg false [⟨some 40, none, .loadN (.t 1) 65⟩,
 ⟨some 41, none, .fld (.t 1) 64⟩,
 ⟨some 42, none, .load1 (.t 41)⟩,
 ⟨some 43, none, .lit 0 1 [.int .i64 0] [] 3⟩,
 ⟨some 44, none, .call 120 [.t 40, .t 42, .t 43]⟩,
 ⟨some 39, none, .mov (.t 44)⟩,
 ⟨some 45, none, .ext (.t 39) 0⟩,
 ⟨some 46, none, .ext (.t 39) 1⟩,
 ⟨some 6, none, .mov (.t 45)⟩,
 ⟨some 7, none, .mov (.t 46)⟩])
 (.seq (.seq (.reg false [⟨some 8, none, .mov (.k (.c (.int .i64 1)))⟩])
 (.block 2 (some [1, 3, 6, 7, 8]) (some [3, 6, 7])
 (.loop c_spec_TreeOk_b1)))
 (.seq (.reg false [⟨some 71, none, .mov (.t 7)⟩,
 ⟨some 72, none, .mov (.t 71)⟩,
 ⟨some 73, some (72, true), .mov (.t 6)⟩,
 ⟨some 74, some (72, true), .len (.t 73)⟩,
 ⟨some 75, some (72, true), .mov (.t 3)⟩,
 ⟨some 76, some (72, true), .bin .eql (.t 74) (.t 75)⟩,
 ⟨some 77, none, .pick (.t 72) (.t 76) (.k (.c (.bool false)))⟩,
 ⟨some 2, none, .mov (.t 77)⟩])
 (.ret (some [2]))))))))⟩
theorem c_spec_TreeOk_ok : trF Try.prog ⟨[(0, [1, 3, 4], [1, 3]), (2, [1, 3, 6, 7, 8], [3, 6, 7])], [2], false, false⟩ Try.f65 = some c_spec_TreeOk := by kernel_rfl
def c_spec_l1Value : IFn := ⟨5, [.t 2],
  (.seq (.reg false [⟨some 2, none, .mov (.k (.c (.bool false)))⟩])
 (.seq (.reg false [⟨some 3, none, .mov (.t 0)⟩,
 ⟨some 4, none, .call 121 [.t 3, .k (.c (.int .i64 (-1000000000))), .k (.c (.int .i64 1000000000))]⟩,
 ⟨some 2, none, .mov (.t 4)⟩])
 (.ret (some [2]))))⟩
theorem c_spec_l1Value_ok : trF Try.prog ⟨[], [2], false, false⟩ Try.f66 = some c_spec_l1Value := by kernel_rfl
def c_laws_toTwigA16_b0 : IC :=
  (.seq (.seq (.reg false [⟨some 5, none, .mov (.t 4)⟩,
 ⟨some 6, none, .bin .lss (.t 5) (.k (.c (.int .i64 16)))⟩])
 (.cond (.t 6) .skip (.exit 0)))
 (.seq (.block 1 none none
 (.reg false [⟨some 9, none, .mov (.t 4)⟩,
 ⟨some 10, none, .mov (.t 4)⟩,
 ⟨some 11, none, .ixa (.t 1) (.t 10) 16 4⟩,
 ⟨some 12, none, .loadN (.t 11) 4⟩,
 ⟨some 13, none, .call 122 [.t 12]⟩,
 ⟨some 14, none, .ixa (.t 3) (.t 9) 16 4⟩,
 ⟨none, none, .store (.t 14) (.t 13) 4⟩]))
 (.reg false [⟨some 7, none, .mov (.t 4)⟩,
 ⟨some 8, none, .bin .add (.t 7) (.k (.c (.int .i64 1)))⟩,
 ⟨some 4, none, .mov (.t 8)⟩])))
def c_laws_toTwigA16 : IFn := ⟨16, [.cell 2 64 true],
  (.seq (.reg false [⟨some 1, none, .box (.t 0) 41⟩,
 ⟨some 2, none, .alloc [.bool false, .int .i64 0, .int .i64 0, .int .i64 0, .bool false, .int .i64 0, .int .i64 0, .int .i64 0, .bool false, .int .i64 0, .int .i64 0, .int .i64 0, .bool false, .int .i64 0, .int .i64 0, .int .i64 0, .bool false, .int .i64 0, .int .i64 0, .int .i64 0, .bool false, .int .i64 0, .int .i64 0, .int .i64 0, .bool false, .int .i64 0, .int .i64 0, .int .i64 0, .bool false, .int .i64 0, .int .i64 0, .int .i64 0, .bool false, .int .i64 0, .int .i64 0, .int .i64 0, .bool false, .int .i64 0, .int .i64 0, .int .i64 0, .bool false, .int .i64 0, .int .i64 0, .int .i64 0, .bool false, .int .i64 0, .int .i64 0, .int .i64 0, .bool false, .int .i64 0, .int .i64 0, .int .i64 0, .bool false, .int .i64 0, .int .i64 0, .int .i64 0, .bool false, .int .i64 0, .int .i64 0, .int .i64 0, .bool false, .int .i64 0, .int .i64 0, .int .i64 0] 45⟩])
 (.seq (.reg false [⟨some 3, none, .alloc [.bool false, .int .i64 0, .int .i64 0, .int .i64 0, .bool false, .int .i64 0, .int .i64 0, .int .i64 0, .bool false, .int .i64 0, .int .i64 0, .int .i64 0, .bool false, .int .i64 0, .int .i64 0, .int .i64 0, .bool false, .int .i64 0, .int .i64 0, .int .i64 0, .bool false, .int .i64 0, .int .i64 0, .int .i64 0, .bool false, .int .i64 0, .int .i64 0, .int .i64 0, .bool false, .int .i64 0, .int .i64 0, .int .i64 0, .bool false, .int .i64 0, .int .i64 0, .int .i64 0, .bool false, .int .i64 0, .int .i64 0, .int .i64 0, .bool false, .int .i64 0, .int .i64 0, .int .i64 0, .bool false, .int .i64 0, .int .i64 0, .int .i64 0, .bool false, .int .i64 0, .int .i64 0, .int .i64 0, .bool false, .int .i64 0, .int .i64 0, .int .i64 0, .bool false, .int .i64 0, .int .i64 0, .int .i64 0, .bool false, .int .i64 0, .int .i64 0, .int .i64 0] 45⟩])
 (.seq (.seq (.reg false [⟨some 4, none, .mov (.k (.c (.int .i64 0)))⟩])
 (.block 0 (some [1, 2, 3, 4]) (some [2, 3])
 (.loop c_laws_toTwigA16_b0)))
 (.seq (.reg false [⟨some 15, none, .loadN (.t 3) 64⟩,
 ⟨none, none, .store (.t 2) (.t 15) 64⟩])
 (.ret (some [2]))))))⟩
theorem c_laws_toTwigA16_ok : trF Try.prog ⟨[(0, [1, 2, 3, 4], [2, 3])], [2], false, false⟩ Try.f69 = some c_laws_toTwigA16 := by kernel_rfl
def c_laws_eqTwigA16_b0 : IC :=
  (.seq (.seq (.reg false [⟨some 6, none, .mov (.t 5)⟩,
 ⟨some 7, none, .bin .lss (.t 6) (.k (.c (.int .i64 16)))⟩])
 (.cond (.t 7) .skip (.exit 0)))
 (.seq (.block 1 none none
 (.seq (.reg true [⟨some 10, none, .mov (.t 5)⟩,
 ⟨some 11, none, .ixa (.t 2) (.t 10) 16 4⟩,
 ⟨some 12, none, .loadN (.t 11) 4⟩,
 ⟨some 13, none, .mov (.t 5)⟩,
 ⟨some 14, none, .ixa (.t 3) (.t 13) 16 4⟩,
 ⟨some 15, none, .loadN (.t 14) 4⟩,
 ⟨some 16, none, .call 123 [.t 12, .t 15]⟩,
 ⟨some 17, none, .un .not (.t 16)⟩])
 (.cond (.t 17) (.seq (.reg false [⟨some 4, none, .mov (.k (.c (.bool false)))⟩])
 (.ret (some [4]))) .skip)))
 (.reg false [⟨some 8, none, .mov (.t 5)⟩,
 ⟨some 9, none, .bin .add (.t 8) (.k (.c (.int .i64 1)))⟩,
 ⟨some 5, none, .mov (.t 9)⟩])))
def c_laws_eqTwigA16 : IFn := ⟨18, [.t 4],
  (.seq (.reg false [⟨some 2, none, .box (.t 0) 45⟩,
 ⟨some 3, none, .box (.t 1) 45⟩,
 ⟨some 4, none, .mov (.k (.c (.bool false)))⟩])
 (.seq (.seq (.reg false [⟨some 5, none, .mov (.k (.c (.int .i64 0)))⟩])
 (.block 0 (some [2, 3, 5]) (some [])
 (.loop c_laws_eqTwigA16_b0)))
 (.seq (.reg false [⟨some 4, none, .mov (.k (.c (.bool true)))⟩])
 (.ret (some [4])))))⟩
theorem c_laws_eqTwigA16_ok : trF Try.prog ⟨[(0, [2, 3, 5], [])], [4], false, false⟩ Try.f71 = some c_laws_eqTwigA16 := by kernel_rfl
def c_impl_Tree_isPart : IFn := ⟨71, [.t 10],
  (.seq (.reg false [⟨some 5, none, .box (.t 0) 47⟩,
 ⟨some 10, none, .mov (.k (.c (.bool false)))⟩])
 (.seq (.seq (.reg false [⟨some 12, none, .mov (.t 1)⟩,
 ⟨some 13, none, .bin .eql (.t 12) (.k (.c (.int .i64 (-1))))⟩])
 (.cond (.t 13) (.seq (.reg false [⟨some 10, none, .mov (.k (.c (.bool true)))⟩])
 (.ret (some [10]))) .skip))
 (.seq (.seq (.reg false [⟨some 14, none, .mov (.t 1)⟩,
 ⟨some 15, none, .call 63 [.t 14, .k (.c (.int .i64 0)), .k (.c (.int .i64 15))]⟩,
 ⟨some 16, none, .un .not (.t 15)⟩,
 ⟨some 17, none, .mov (.t 16)⟩,
 ⟨some 18, some (17, false), .mov (.t 4)⟩,
 ⟨some 19, some (17, false), .mov (.t 1)⟩,
 ⟨some 20, some (17, false), .chk (.t 18)⟩,
 ⟨some 21, some (17, false), .ixa (.t 20) (.t 19) 16 1⟩,
 ⟨some 22, some (17, false), .load1 (.t 21)⟩,
 ⟨some 23, none, .pick (.t 17) (.k (.c (.bool true))) (.t 22)⟩,
 ⟨some 24, none, .mov (.t 23)⟩,
 ⟨some 25, some (24, false), .mov (.t 1)⟩,
 ⟨some 26, some (24, false), .fld (.t 5) 0⟩,
 ⟨some 27, some (24, false), .ixa (.t 26) (.t 25) 16 4⟩,
 ⟨some 28, some (24, false), .fld (.t 27) 0⟩,
 ⟨some 29, some (24, false), .load1 (.t 28)⟩,
 ⟨some 30, some (24, false), .un .not (.t 29)⟩,
 ⟨some 31, none, .pick (.t 24) (.k (.c (.bool true))) (.t 30)⟩,
 ⟨some 32, none, .mov (.t 31)⟩,
 ⟨some 33, some (32, false), .mov (.t 1)⟩,
 ⟨some 34, some (32, false), .fld (.t 5) 0⟩,
 ⟨some 35, some (32, false), .ixa (.t 34) (.t 33) 16 4⟩,
 ⟨some 36, some (32, false), .fld (.t 35) 1⟩,
 ⟨some 37, some (32, false), .load1 (.t 36)⟩,
 ⟨some 38, some (32, false), .mov (.t 2)⟩,
 ⟨some 39, some (32, false), .mov (.t 3)⟩,
 ⟨some 40, some (32, false), .call 63 [.t 37, .t 38, .t 39]⟩,
 ⟨some 41, some (32, false), .un .not (.t 40)⟩,
 ⟨some 42, none, .pick (.t 32) (.k (.c (.bool true))) (.t 41)⟩])
 (.cond (.t 42) (.seq (.reg false [⟨some 10, none, .mov (.k (.c (.bool false)))⟩])
 (.ret (some [10]))) .skip))
 (.seq (.reg false [⟨some 43, none, .mov (.t 4)⟩,
 ⟨some 44, none, .mov (.t 1)⟩,
 ⟨some 45, none, .chk (.t 43)⟩,
 ⟨some 46, none, .ixa (.t 45) (.t 44) 16 1⟩,
 ⟨none, none, .store (.t 46) (.k (.c (.bool true))) 1⟩])
 (.seq (.reg false [⟨some 47, none, .mov (.t 1)⟩,
 ⟨some 48, none, .fld (.t 5) 0⟩,
 ⟨some 49, none, .ixa (.t 48) (.t 47) 16 4⟩,
 ⟨some 50, none, .loadN (.t 49) 4⟩,
 ⟨some 11, none, .alloc [.bool false, .int .i64 0, .int .i64 0, .int .i64 0] 44⟩,
 ⟨none, none, .store (.t 11) (.t 50) 4⟩])
 (.seq (.reg false [⟨some 51, none, .loadN (.t 5) 65⟩,
 ⟨some 52, none, .fld (.t 11) 2⟩,
 ⟨some 53, none, .load1 (.t 52)⟩,
 ⟨some 54, none, .mov (.t 2)⟩,
 ⟨some 55, none, .fld (.t 11) 1⟩,
 ⟨some 56, none, .load1 (.t 55)⟩,
 ⟨some 57, none, .bin .sub (.t 56) (.k (.c (.int .i64 1)))⟩,
 ⟨some 58, none, .mov (.t 4)⟩,
 ⟨some 59, none, .call 78 [.t 51, .t 53, .t 54, .t 57, .t 58]⟩,
 ⟨some 60, none, .mov (.t 59)⟩,
 ⟨some 61, some (60, true), .loadN (.t 5) 65⟩,
 ⟨some 62, some (60, true), .fld (.t 11) 3⟩,
 ⟨some 63, some (60, true), .load1 (.t 62)⟩,
 ⟨some 64, some (60, true), .fld (.t 11) 1⟩,
 ⟨some 65, some (60, true), .load1 (.t 64)⟩,
 ⟨some 66, some (60, true), .bin .add (.t 65) (.k (.c (.int .i64 1)))⟩,
 ⟨some 67, some (60, true), .mov (.t 3)⟩,
 ⟨some 68, some (60, true), .mov (.t 4)⟩,
 ⟨some 69, some (60, true), .call 78 [.t 61, .t 63, .t 66, .t 67, .t 68]⟩,
 ⟨some 70, none, .pick (.t 60) (.t 69) (.k (.c (.bool false)))⟩,
 ⟨some 10, none, .mov (.t 70)⟩])
 (.ret (some [10]))))))))⟩
theorem c_impl_Tree_isPart_ok : trF Try.prog ⟨[], [10], false, false⟩ Try.f78 = some c_impl_Tree_isPart := by kernel_rfl
def c_laws_szIntSS_b0 : IC :=
  (.seq (.seq (.reg false [⟨some 12, none, .mov (.t 5)⟩,
 ⟨some 13, none, .mov (.t 0)⟩,
 ⟨some 14, none, .len (.t 13)⟩,
 ⟨some 15, none, .bin .lss (.t 12) (.t 14)⟩])
 (.cond (.t 15) .skip (.exit 0)))
 (.seq (.block 1 none none
 (.seq (.reg false [⟨some 18, none, .mov (.t 0)⟩,
 ⟨some 19, none, .mov (.t 5)⟩,
 ⟨some 20, none, .ixs (.t 18) (.t 19) 1⟩,
 ⟨some 21, none, .load1 (.t 20)⟩,
 ⟨some 22, none, .mov (.t 1)⟩,
 ⟨some 23, none, .call 129 [.t 21, .t 22]⟩,
 ⟨some 1, none, .mov (.t 23)⟩])
 (.seq (.reg false [⟨some 24, none, .mov (.t 1)⟩,
 ⟨some 25, none, .bin .lss (.t 24) (.k (.c (.int .i64 0)))⟩])
 (.cond (.t 25) (.seq (.reg false [⟨some 4, none, .mov (.k (.c (.int .i64 (-1))))⟩])
 (.ret (some [4]))) .skip))))
 (.reg false [⟨some 16, none, .mov (.t 5)⟩,
 ⟨some 17, none, .bin .add (.t 16) (.k (.c (.int .i64 1)))⟩,
 ⟨some 5, none, .mov (.t 17)⟩])))
def c_laws_szIntSS : IFn := ⟨27, [.t 4],
  (.seq (.reg false [⟨some 4, none, .mov (.k (.c (.int .i64 0)))⟩])
 (.seq (.reg false [⟨some 6, none, .mov (.t 1)⟩,
 ⟨some 7, none, .mov (.t 0)⟩,
 ⟨some 8, none, .len (.t 7)⟩,
 ⟨some 9, none, .bin .sub (.t 6) (.t 8)⟩,
 ⟨some 1, none, .mov (.t 9)⟩])
 (.seq (.seq (.reg false [⟨some 10, none, .mov (.t 1)⟩,
 ⟨some 11, none, .bin .lss (.t 10) (.k (.c (.int .i64 0)))⟩])
 (.cond (.t 11) (.seq (.reg false [⟨some 4, none, .mov (.k (.c (.int .i64 (-1))))⟩])
 (.ret (some [4]))) .skip))
 (.seq (.seq (.reg false [⟨some 5, none, .mov (.k (.c (.int .i64 0)))⟩])
 (.block 0 (some [0, 1, 5]) (some [1])
 (.loop c_laws_szIntSS_b0)))
 (.seq (.reg false [⟨some 26, none, .mov (.t 1)⟩,
 ⟨some 4, none, .mov (.t 26)⟩])
 (.ret (some [4])))))))⟩
theorem c_laws_szIntSS_ok : trF Try.prog ⟨[(0, [0, 1, 5], [1])], [4], false, false⟩ Try.f81 = some c_laws_szIntSS := by kernel_rfl
def c_spec_ChainOk_b0 : IC :=
  (.seq (.seq (.reg false [⟨some 8, none, .mov (.t 4)⟩,
 ⟨some 9, none, .bin .lss (.t 8) (.k (.c (.int .i64 16)))⟩])
 (.cond (.t 9) .skip (.exit 0)))
 (.seq (.block 1 none none
 (.seq (.reg false [⟨some 12, none, .mov (.t 4)⟩,
 ⟨some 13, none, .fld (.t 1) 0⟩,
 ⟨some 14, none, .ixa (.t 13) (.t 12) 16 4⟩,
 ⟨some 15, none, .loadN (.t 14) 4⟩,
 ⟨some 5, none, .alloc [.bool false, .int .i64 0, .int .i64 0, .int .i64 0] 54⟩,
 ⟨none, none, .store (.t 5) (.t 15) 4⟩])
 (.seq (.seq (.reg false [⟨some 16, none, .fld (.t 5) 0⟩,
 ⟨some 17, none, .load1 (.t 16)⟩,
 ⟨some 18, none, .un .not (.t 17)⟩,
 ⟨some 19, none, .mov (.t 18)⟩,
 ⟨some 20, some (19, true), .loadN (.t 5) 4⟩,
 ⟨some 21, some (19, true), .bld [.bool false, .int .i64 0, .int .i64 0, .int .i64 0] []⟩,
 ⟨some 22, some (19, true), .eqa true [none, some .i64, some .i64, some .i64] (.t 20) (.t 21)⟩,
 ⟨some 23, none, .pick (.t 19) (.t 22) (.k (.c (.bool false)))⟩,
 ⟨some 24, none, .mov (.t 23)⟩,
 ⟨some 25, some (24, false), .fld (.t 5) 0⟩,
 ⟨some 26, some (24, false), .load1 (.t 25)⟩,
 ⟨some 27, some (24, false), .mov (.t 26)⟩,
 ⟨some 28, some (27, true), .fld (.t 5) 1⟩,
 ⟨some 29, some (27, true), .load1 (.t 28)⟩,
 ⟨some 30, some (27, true), .call 66 [.t 29]⟩,
 ⟨some 31, some (27, true), .un .not (.t 30)⟩,
 ⟨some 32, some (27, true), .mov (.t 31)⟩,
 ⟨some 33, some (32, false), .fld (.t 5) 2⟩,
 ⟨some 34, some (32, false), .load1 (.t 33)⟩,
 ⟨some 35, some (32, false), .call 66 [.t 34]⟩,
 ⟨some 36, some (32, false), .un .not (.t 35)⟩,
 ⟨some 37, some (27, true), .pick (.t 32) (.k (.c (.bool true))) (.t 36)⟩,
 ⟨some 38, some (24, false), .pick (.t 27) (.t 37) (.k (.c (.bool false)))⟩,
 ⟨some 39, none, .pick (.t 24) (.k (.c (.bool true))) (.t 38)⟩])
 (.cond (.t 39) (.seq (.reg false [⟨some 2, none, .mov (.k (.c (.bool false)))⟩])
 (.ret (some [2]))) .skip))
 (.seq (.reg false [⟨some 40, none, .fld (.t 5) 0⟩,
 ⟨some 41, none, .load1 (.t 40)⟩])
 (.cond (.t 41) (.reg false [⟨some 42, none, .mov (.t 3)⟩,
 ⟨some 43, none, .bin .add (.t 42) (.k (.c (.int .i64 1)))⟩,
 ⟨some 3, none, .mov (.t 43)⟩]) .skip)))))
 (.reg false [⟨some 10, none, .mov (.t 4)⟩,
 ⟨some 11, none, .bin .add (.t 10) (.k (.c (.int .i64 1)))⟩,
 ⟨some 4, none, .mov (.t 11)⟩])))
def c_spec_ChainOk_b1 : IC :=
  (.seq (.seq (.reg false [⟨some 46, none, .mov (.t 6)⟩,
 ⟨some 47, none, .bin .neq (.t 46) (.k (.c (.int .i64 (-1))))⟩])
 (.cond (.t 47) .skip (.exit 2)))
 (.block 3 none none
 (.seq (.seq (.reg true [⟨some 48, none, .mov (.t 6)⟩,
 ⟨some 49, none, .call 121 [.t 48, .k (.c (.int .i64 0)), .k (.c (.int .i64 15))]⟩,
 ⟨some 50, none, .un .not (.t 49)⟩,
 ⟨some 51, none, .mov (.t 50)⟩,
 ⟨some 52, some (51, false), .mov (.t 6)⟩,
 ⟨some 53, some (51, false), .fld (.t 1) 0⟩,
 ⟨some 54, some (51, false), .ixa (.t 53) (.t 52) 16 4⟩,
 ⟨some 55, some (51, false), .fld (.t 54) 0⟩,
 ⟨some 56, some (51, false), .load1 (.t 55)⟩,
 ⟨some 57, some (51, false), .un .not (.t 56)⟩,
 ⟨some 58, none, .pick (.t 51) (.k (.c (.bool true))) (.t 57)⟩,
 ⟨some 59, none, .mov (.t 58)⟩,
 ⟨some 60, some (59, false), .mov (.t 3)⟩,
 ⟨some 61, some (59, false), .bin .eql (.t 60) (.k (.c (.int .i64 0)))⟩,
 ⟨some 62, none, .pick (.t 59) (.k (.c (.bool true))) (.t 61)⟩,
 ⟨some 63, none, .mov (.t 62)⟩,
 ⟨some 64, some (63, false), .mov (.t 7)⟩,
 ⟨some 65, some (63, false), .bin .geq (.t 64) (.k (.c (.int .i64 0)))⟩,
 ⟨some 66, some (63, false), .mov (.t 65)⟩,
 ⟨some 67, some (66, true), .mov (.t 7)⟩,
 ⟨some 68, some (66, true), .fld (.t 1) 0⟩,
 ⟨some 69, some (66, true), .ixa (.t 68) (.t 67) 16 4⟩,
 ⟨some 70, some (66, true), .fld (.t 69) 1⟩,
 ⟨some 71, some (66, true), .load1 (.t 70)⟩,
 ⟨some 72, some (66, true), .mov (.t 6)⟩,
 ⟨some 73, some (66, true), .fld (.t 1) 0⟩,
 ⟨some 74, some (66, true), .ixa (.t 73) (.t 72) 16 4⟩,
 ⟨some 75, some (66, true), .fld (.t 74) 1⟩,
 ⟨some 76, some (66, true), .load1 (.t 75)⟩,
 ⟨some 77, some (66, true), .bin .geq (.t 71) (.t 76)⟩,
 ⟨some 78, some (63, false), .pick (.t 66) (.t 77) (.k (.c (.bool false)))⟩,
 ⟨some 79, none, .pick (.t 63) (.k (.c (.bool true))) (.t 78)⟩])
 (.cond (.t 79) (.seq (.reg false [⟨some 2, none, .mov (.k (.c (.bool false)))⟩])
 (.ret (some [2]))) .skip))
 (.seq (.reg false [⟨some 80, none, .mov (.t 3)⟩,
 ⟨some 81, none, .bin .sub (.t 80) (.k (.c (.int .i64 1)))⟩,
 ⟨some 3, none, .mov (.t 81)⟩])
 (.seq (.reg false [⟨some 82, none, .mov (.t 6)⟩,
 ⟨some 7, none, .mov (.t 82)⟩])
 (.reg false [⟨some 83, none, .mov (.t 6)⟩,
 ⟨some 84, none, .fld (.t 1) 0⟩,
 ⟨some 85, none, .ixa (.t 84) (.t 83) 16 4⟩,
 ⟨some 86, none, .fld (.t 85) 3⟩,
 ⟨some 87, none, .load1 (.t 86)⟩,
 ⟨some 6, none, .mov (.t 87)⟩]))))))
def c_spec_ChainOk : IFn := ⟨90, [.t 2],
  (.seq (.reg false [⟨some 1, none, .box (.t 0) 57⟩,
 ⟨some 2, none, .mov (.k (.c (.bool false)))⟩])
 (.seq (.reg false [⟨some 3, none, .mov (.k (.c (.int .i64 0)))⟩])
 (.seq (.seq (.reg false [⟨some 4, none, .mov (.k (.c (.int .i64 0)))⟩])
 (.block 0 (some [1, 3, 4]) (some [1, 3])
 (.loop c_spec_ChainOk_b0)))
 (.seq (.reg false [⟨some 44, none, .fld (.t 1) 64⟩,
 ⟨some 45, none, .load1 (.t 44)⟩,
 ⟨some 6, none, .mov (.t 45)⟩,
 ⟨some 7, none, .mov (.k (.c (.int .i64 (-1))))⟩])
 (.seq (.block 2 (some [1, 3, 6, 7]) (some [3])
 (.loop c_spec_ChainOk_b1))
 (.seq (.reg false [⟨some 88, none, .mov (.t 3)⟩,
 ⟨some 89, none, .bin .eql (.t 88) (.k (.c (.int .i64 0)))⟩,
 ⟨some 2, none, .mov (.t 89)⟩])
 (.ret (some [2]))))))))⟩
theorem c_spec_ChainOk_ok : trF Try.prog ⟨[(0, [1, 3, 4], [1, 3]), (2, [1, 3, 6, 7], [3])], [2], false, false⟩ Try.f82 = some c_spec_ChainOk := by kernel_rfl
def c_spec_RingOk_b0 : IC :=
  (.seq (.seq (.reg false [⟨some 15, none, .mov (.t 3)⟩,
 ⟨some 16, none, .bin .lss (.t 15) (.k (.c (.int .i64 8)))⟩])
 (.cond (.t 16) .skip (.exit 0)))
 (.seq (.block 1 none none
 (.seq (.reg false [⟨some 19, none, .fld (.t 1) 8⟩,
 ⟨some 20, none, .load1 (.t 19)⟩,
 ⟨some 21, none, .mov (.t 3)⟩,
 ⟨some 22, none, .bin .add (.t 20) (.t 21)⟩,
 ⟨some 23, none, .bin .rem (.t 22) (.k (.c (.int .i64 8)))⟩,
 ⟨some 24, none, .fld (.t 1) 0⟩,
 ⟨some 25, none, .ixa (.t 24) (.t 23) 8 1⟩,
 ⟨some 26, none, .load1 (.t 25)⟩,
 ⟨some 4, none, .mov (.t 26)⟩])
 (.seq (.reg false [⟨some 27, none, .mov (.t 3)⟩,
 ⟨some 28, none, .fld (.t 1) 9⟩,
 ⟨some 29, none, .load1 (.t 28)⟩,
 ⟨some 30, none, .bin .lss (.t 27) (.t 29)⟩,
 ⟨some 31, none, .mov (.t 30)⟩,
 ⟨some 32, some (31, true), .mov (.t 4)⟩,
 ⟨some 33, some (31, true), .call 66 [.t 32]⟩,
 ⟨some 34, some (31, true), .un .not (.t 33)⟩,
 ⟨some 35, none, .pick (.t 31) (.t 34) (.k (.c (.bool false)))⟩,
 ⟨some 36, none, .mov (.t 35)⟩,
 ⟨some 37, some (36, false), .mov (.t 3)⟩,
 ⟨some 38, some (36, false), .fld (.t 1) 9⟩,
 ⟨some 39, some (36, false), .load1 (.t 38)⟩,
 ⟨some 40, some (36, false), .bin .geq (.t 37) (.t 39)⟩,
 ⟨some 41, some (36, false), .mov (.t 40)⟩,
 ⟨some 42, some (41, true), .mov (.t 4)⟩,
 ⟨some 43, some (41, true), .bin .neq (.t 42) (.k (.c (.int .i64 0)))⟩,
 ⟨some 44, some (36, false), .pick (.t 41) (.t 43) (.k (.c (.bool false)))⟩,
 ⟨some 45, none, .pick (.t 36) (.k (.c (.bool true))) (.t 44)⟩])
 (.cond (.t 45) (.seq (.reg false [⟨some 2, none, .mov (.k (.c (.bool false)))⟩])
 (.ret (some [2]))) .skip))))
 (.reg false [⟨some 17, none, .mov (.t 3)⟩,
 ⟨some 18, none, .bin .add (.t 17) (.k (.c (.int .i64 1)))⟩,
 ⟨some 3, none, .mov (.t 18)⟩])))
def c_spec_RingOk : IFn := ⟨46, [.t 2],
  (.seq (.reg false [⟨some 1, none, .box (.t 0) 26⟩,
 ⟨some 2, none, .mov (.k (.c (.bool false)))⟩])
 (.seq (.seq (.reg false [⟨some 5, none, .fld (.t 1) 8⟩,
 ⟨some 6, none, .load1 (.t 5)⟩,
 ⟨some 7, none, .call 121 [.t 6, .k (.c (.int .i64 0)), .k (.c (.int .i64 7))]⟩,
 ⟨some 8, none, .un .not (.t 7)⟩,
 ⟨some 9, none, .mov (.t 8)⟩,
 ⟨some 10, some (9, false), .fld (.t 1) 9⟩,
 ⟨some 11, some (9, false), .load1 (.t 10)⟩,
 ⟨some 12, some (9, false), .call 121 [.t 11, .k (.c (.int .i64 0)), .k (.c (.int .i64 8))]⟩,
 ⟨some 13, some (9, false), .un .not (.t 12)⟩,
 ⟨some 14, none, .pick (.t 9) (.k (.c (.bool true))) (.t 13)⟩])
 (.cond (.t 14) (.seq (.reg false [⟨some 2, none, .mov (.k (.c (.bool false)))⟩])
 (.ret (some [2]))) .skip))
 (.seq (.seq (.reg false [⟨some 3, none, .mov (.k (.c (.int .i64 0)))⟩])
 (.block 0 (some [1, 3]) (some [])
 (.loop c_spec_RingOk_b0)))
 (.seq (.reg false [⟨some 2, none, .mov (.k (.c (.bool true)))⟩])
 (.ret (some [2]))))))⟩
theorem c_spec_RingOk_ok : trF Try.prog ⟨[(0, [1, 3], [])], [2], false, false⟩ Try.f83 = some c_spec_RingOk := by kernel_rfl
def c_spec_SetOk_b1 : IC :=
  (.seq (.seq (.reg false [⟨some 33, none, .mov (.t 5)⟩,
 ⟨some 34, none, .mov (.t 0)⟩,
 ⟨some 35, none, .mov (.t 4)⟩,
 ⟨some 36, none, .ixs (.t 34) (.t 35) 1⟩,
 ⟨some 37, none, .load1 (.t 36)⟩,
 ⟨some 38, none, .len (.t 37)⟩,
 ⟨some 39, none, .bin .lss (.t 33) (.t 38)⟩])
 (.cond (.t 39) .skip (.exit 2)))
 (.seq (.block 3 none none
 (.seq (.reg true [⟨some 42, none, .mov (.t 0)⟩,
 ⟨some 43, none, .mov (.t 4)⟩,
 ⟨some 44, none, .ixs (.t 42) (.t 43) 1⟩,
 ⟨some 45, none, .load1 (.t 44)⟩,
 ⟨some 46, none, .mov (.t 5)⟩,
 ⟨some 47, none, .ixs (.t 45) (.t 46) 1⟩,
 ⟨some 48, none, .load1 (.t 47)⟩,
 ⟨some 49, none, .call 66 [.t 48]⟩,
 ⟨some 50, none, .un .not (.t 49)⟩,
 ⟨some 51, none, .mov (.t 50)⟩,
 ⟨some 52, some (51, false), .mov (.t 0)⟩,
 ⟨some 53, some (51, false), .mov (.t 4)⟩,
 ⟨some 54, some (51, false), .ixs (.t 52) (.t 53) 1⟩,
 ⟨some 55, some (51, false), .load1 (.t 54)⟩,
 ⟨some 56, some (51, false), .mov (.t 5)⟩,
 ⟨some 57, some (51, false), .ixs (.t 55) (.t 56) 1⟩,
 ⟨some 58, some (51, false), .load1 (.t 57)⟩,
 ⟨some 59, some (51, false), .mov (.t 3)⟩,
 ⟨some 60, some (51, false), .call 130 [.t 58, .t 59]⟩,
 ⟨some 61, some (51, false), .mov (.t 4)⟩,
 ⟨some 62, some (51, false), .bin .neq (.t 60) (.t 61)⟩,
 ⟨some 63, none, .pick (.t 51) (.k (.c (.bool true))) (.t 62)⟩,
 ⟨some 64, none, .mov (.t 63)⟩,
 ⟨some 65, some (64, false), .mov (.t 5)⟩,
 ⟨some 66, some (64, false), .bin .gtr (.t 65) (.k (.c (.int .i64 0)))⟩,
 ⟨some 67, some (64, false), .mov (.t 66)⟩,
 ⟨some 68, some (67, true), .mov (.t 0)⟩,
 ⟨some 69, some (67, true), .mov (.t 4)⟩,
 ⟨some 70, some (67, true), .ixs (.t 68) (.t 69) 1⟩,
 ⟨some 71, some (67, true), .load1 (.t 70)⟩,
 ⟨some 72, some (67, true), .mov (.t 5)⟩,
 ⟨some 73, some (67, true), .bin .sub (.t 72) (.k (.c (.int .i64 1)))⟩,
 ⟨some 74, some (67, true), .ixs (.t 71) (.t 73) 1⟩,
 ⟨some 75, some (67, true), .load1 (.t 74)⟩,
 ⟨some 76, some (67, true), .mov (.t 0)⟩,
 ⟨some 77, some (67, true), .mov (.t 4)⟩,
 ⟨some 78, some (67, true), .ixs (.t 76) (.t 77) 1⟩,
 ⟨some 79, some (67, true), .load1 (.t 78)⟩,
 ⟨some 80, some (67, true), .mov (.t 5)⟩,
 ⟨some 81, some (67, true), .ixs (.t 79) (.t 80) 1⟩,
 ⟨some 82, some (67, true), .load1 (.t 81)⟩,
 ⟨some 83, some (67, true), .bin .geq (.t 75) (.t 82)⟩,
 ⟨some 84, some (64, false), .pick (.t 67) (.t 83) (.k (.c (.bool false)))⟩,
 ⟨some 85, none, .pick (.t 64) (.k (.c (.bool true))) (.t 84)⟩])
 (.cond (.t 85) (.seq (.reg false [⟨some 2, none, .mov (.k (.c (.bool false)))⟩])
 (.ret (some [2]))) .skip)))
 (.reg false [⟨some 40, none, .mov (.t 5)⟩,
 ⟨some 41, none, .bin .add (.t 40) (.k (.c (.int .i64 1)))⟩,
 ⟨some 5, none, .mov (.t 41)⟩])))
def c_spec_SetOk_b0 : IC :=
  (.seq (.seq (.reg false [⟨some 22, none, .mov (.t 4)⟩,
 ⟨some 23, none, .mov (.t 3)⟩,
 ⟨some 24, none, .bin .lss (.t 22) (.t 23)⟩])
 (.cond (.t 24) .skip (.exit 0)))
 (.seq (.block 1 none none
 (.seq (.seq (.reg false [⟨some 27, none, .mov (.t 0)⟩,
 ⟨some 28, none, .mov (.t 4)⟩,
 ⟨some 29, none, .ixs (.t 27) (.t 28) 1⟩,
 ⟨some 30, none, .load1 (.t 29)⟩,
 ⟨some 31, none, .len (.t 30)⟩,
 ⟨some 32, none, .bin .gtr (.t 31) (.k (.c (.int .i64 3)))⟩])
 (.cond (.t 32) (.seq (.reg false [⟨some 2, none, .mov (.k (.c (.bool false)))⟩])
 (.ret (some [2]))) .skip))
 (.seq (.reg false [⟨some 5, none, .mov (.k (.c (.int .i64 0)))⟩])
 (.block 2 (some [0, 3, 4, 5]) (some [0, 3, 4])
 (.loop c_spec_SetOk_b1)))))
 (.reg false [⟨some 25, none, .mov (.t 4)⟩,
 ⟨some 26, none, .bin .add (.t 25) (.k (.c (.int .i64 1)))⟩,
 ⟨some 4, none, .mov (.t 26)⟩])))
def c_spec_SetOk : IFn := ⟨86, [.t 2],
  (.seq (.reg false [⟨some 2, none, .mov (.k (.c (.bool false)))⟩])
 (.seq (.reg false [⟨some 6, none, .mov (.t 0)⟩,
 ⟨some 7, none, .len (.t 6)⟩,
 ⟨some 3, none, .mov (.t 7)⟩])
 (.seq (.seq (.reg false [⟨some 8, none, .mov (.t 3)⟩,
 ⟨some 9, none, .bin .neq (.t 8) (.k (.c (.int .i64 1)))⟩,
 ⟨some 10, none, .mov (.t 9)⟩,
 ⟨some 11, some (10, true), .mov (.t 3)⟩,
 ⟨some 12, some (10, true), .bin .neq (.t 11) (.k (.c (.int .i64 2)))⟩,
 ⟨some 13, none, .pick (.t 10) (.t 12) (.k (.c (.bool false)))⟩,
 ⟨some 14, none, .mov (.t 13)⟩,
 ⟨some 15, some (14, true), .mov (.t 3)⟩,
 ⟨some 16, some (14, true), .bin .neq (.t 15) (.k (.c (.int .i64 4)))⟩,
 ⟨some 17, none, .pick (.t 14) (.t 16) (.k (.c (.bool false)))⟩,
 ⟨some 18, none, .mov (.t 17)⟩,
 ⟨some 19, some (18, true), .mov (.t 3)⟩,
 ⟨some 20, some (18, true), .bin .neq (.t 19) (.k (.c (.int .i64 8)))⟩,
 ⟨some 21, none, .pick (.t 18) (.t 20) (.k (.c (.bool false)))⟩])
 (.cond (.t 21) (.seq (.reg false [⟨some 2, none, .mov (.k (.c (.bool false)))⟩])
 (.ret (some [2]))) .skip))
 (.seq (.seq (.reg false [⟨some 4, none, .mov (.k (.c (.int .i64 0)))⟩])
 (.block 0 (some [0, 3, 4]) (some [])
 (.loop c_spec_SetOk_b0)))
 (.seq (.reg false [⟨some 2, none, .mov (.k (.c (.bool true)))⟩])
 (.ret (some [2])))))))⟩
theorem c_spec_SetOk_ok : trF Try.prog ⟨[(0, [0, 3, 4], []), (2, [0, 3, 4, 5], [0, 3, 4])], [2], false, false⟩ Try.f84 = some c_spec_SetOk := by kernel_rfl
def c_laws_toChain : IFn := ⟨12, [.cell 2 65 true],
  (.seq (.reg false [⟨some 1, none, .box (.t 0) 83⟩,
 ⟨some 2, none, .alloc [.bool false, .int .i64 0, .int .i64 0, .int .i64 0, .bool false, .int .i64 0, .int .i64 0, .int .i64 0, .bool false, .int .i64 0, .int .i64 0, .int .i64 0, .bool false, .int .i64 0, .int .i64 0, .int .i64 0, .bool false, .int .i64 0, .int .i64 0, .int .i64 0, .bool false, .int .i64 0, .int .i64 0, .int .i64 0, .bool false, .int .i64 0, .int .i64 0, .int .i64 0, .bool false, .int .i64 0, .int .i64 0, .int .i64 0, .bool false, .int .i64 0, .int .i64 0, .int .i64 0, .bool false, .int .i64 0, .int .i64 0, .int .i64 0, .bool false, .int .i64 0, .int .i64 0, .int .i64 0, .bool false, .int .i64 0, .int .i64 0, .int .i64 0, .bool false, .int .i64 0, .int .i64 0, .int .i64 0, .bool false, .int .i64 0, .int .i64 0, .int .i64 0, .bool false, .int .i64 0, .int .i64 0, .int .i64 0, .bool false, .int .i64 0, .int .i64 0, .int .i64 0, .int .i64 0] 57⟩])
 (.seq (.reg false [⟨some 3, none, .alloc [.bool false, .int .i64 0, .int .i64 0, .int .i64 0, .bool false, .int .i64 0, .int .i64 0, .int .i64 0, .bool false, .int .i64 0, .int .i64 0, .int .i64 0, .bool false, .int .i64 0, .int .i64 0, .int .i64 0, .bool false, .int .i64 0, .int .i64 0, .int .i64 0, .bool false, .int .i64 0, .int .i64 0, .int .i64 0, .bool false, .int .i64 0, .int .i64 0, .int .i64 0, .bool false, .int .i64 0, .int .i64 0, .int .i64 0, .bool false, .int .i64 0, .int .i64 0, .int .i64 0, .bool false, .int .i64 0, .int .i64 0, .int .i64 0, .bool false, .int .i64 0, .int .i64 0, .int .i64 0, .bool false, .int .i64 0, .int .i64 0, .int .i64 0, .bool false, .int .i64 0, .int .i64 0, .int .i64 0, .bool false, .int .i64 0, .int .i64 0, .int .i64 0, .bool false, .int .i64 0, .int .i64 0, .int .i64 0, .bool false, .int .i64 0, .int .i64 0, .int .i64 0, .int .i64 0] 57⟩])
 (.seq (.reg false [⟨some 4, none, .fld (.t 1) 0⟩,
 ⟨some 5, none, .loadN (.t 4) 64⟩,
 ⟨some 6, none, .call 131 [.t 5]⟩,
 ⟨some 7, none, .fld (.t 3) 0⟩,
 ⟨none, none, .store (.t 7) (.t 6) 64⟩])
 (.seq (.reg false [⟨some 8, none, .fld (.t 1) 64⟩,
 ⟨some 9, none, .load1 (.t 8)⟩,
 ⟨some 10, none, .fld (.t 3) 64⟩,
 ⟨none, none, .store (.t 10) (.t 9) 1⟩])
 (.seq (.reg false [⟨some 11, none, .loadN (.t 3) 65⟩,
 ⟨none, none, .store (.t 2) (.t 11) 65⟩])
 (.ret (some [2])))))))⟩
theorem c_laws_toChain_ok : trF Try.prog ⟨[], [2], false, false⟩ Try.f85 = some c_laws_toChain := by kernel_rfl
def c_laws_toRing : IFn := ⟨15, [.cell 2 10 true],
  (.seq (.reg false [⟨some 1, none, .box (.t 0) 84⟩,
 ⟨some 2, none, .alloc [.int .i64 0, .int .i64 0, .int .i64 0, .int .i64 0, .int .i64 0, .int .i64 0, .int .i64 0, .int .i64 0, .int .i64 0, .int .i64 0] 26⟩])
 (.seq (.reg false [⟨some 3, none, .alloc [.int .i64 0, .int .i64 0, .int .i64 0, .int .i64 0, .int .i64 0, .int .i64 0, .int .i64 0, .int .i64 0, .int .i64 0, .int .i64 0] 26⟩])
 (.seq (.reg false [⟨some 4, none, .fld (.t 1) 0⟩,
 ⟨some 5, none, .loadN (.t 4) 8⟩,
 ⟨some 6, none, .call 132 [.t 5]⟩,
 ⟨some 7, none, .fld (.t 3) 0⟩,
 ⟨none, none, .store (.t 7) (.t 6) 8⟩])
 (.seq (.reg false [⟨some 8, none, .fld (.t 1) 8⟩,
 ⟨some 9, none, .load1 (.t 8)⟩,
 ⟨some 10, none, .fld (.t 3) 8⟩,
 ⟨none, none, .store (.t 10) (.t 9) 1⟩])
 (.seq (.reg false [⟨some 11, none, .fld (.t 1) 9⟩,
 ⟨some 12, none, .load1 (.t 11)⟩,
 ⟨some 13, none, .fld (.t 3) 9⟩,
 ⟨none, none, .store (.t 13) (.t 12) 1⟩])
 (.seq (.reg false [⟨some 14, none, .loadN (.t 3) 10⟩,
 ⟨none, none, .store (.t 2) (.t 14) 10⟩])
 (.ret (some [2]))))))))⟩
theorem c_laws_toRing_ok : trF Try.prog ⟨[], [2], false, false⟩ Try.f86 = some c_laws_toRing := by kernel_rfl
def c_laws_toIntSS_b0 : IC :=
  (.seq (.seq (.reg false [⟨some 8, none, .mov (.t 4)⟩,
 ⟨some 9, none, .mov (.t 0)⟩,
 ⟨some 10, none, .len (.t 9)⟩,
 ⟨some 11, none, .bin .lss (.t 8) (.t 10)⟩])
 (.cond (.t 11) .skip (.exit 0)))
 (.seq (.block 1 none none
 (.reg false [⟨some 14, none, .mov (.t 3)⟩,
 ⟨some 15, none, .mov (.t 4)⟩,
 ⟨some 16, none, .mov (.t 0)⟩,
 ⟨some 17, none, .mov (.t 4)⟩,
 ⟨some 18, none, .ixs (.t 16) (.t 17) 1⟩,
 ⟨some 19, none, .load1 (.t 18)⟩,
 ⟨some 20, none, .call 133 [.t 19]⟩,
 ⟨some 21, none, .ixs (.t 14) (.t 15) 1⟩,
 ⟨none, none, .store (.t 21) (.t 20) 1⟩]))
 (.reg false [⟨some 12, none, .mov (.t 4)⟩,
 ⟨some 13, none, .bin .add (.t 12) (.k (.c (.int .i64 1)))⟩,
 ⟨some 4, none, .mov (.t 13)⟩])))
def c_laws_toIntSS : IFn := ⟨23, [.t 2],
  (.seq (.reg false [⟨some 2, none, .mov (.k (.c .nils))⟩])
 (.seq (.reg false [⟨some 5, none, .mov (.t 0)⟩,
 ⟨some 6, none, .len (.t 5)⟩,
 ⟨some 7, none, .mks (.t 6) [.nils] 28 24⟩,
 ⟨some 3, none, .mov (.t 7)⟩])
 (.seq (.seq (.reg false [⟨some 4, none, .mov (.k (.c (.int .i64 0)))⟩])
 (.block 0 (some [0, 3, 4]) (some [3])
 (.loop c_laws_toIntSS_b0)))
 (.seq (.reg false [⟨some 22, none, .mov (.t 3)⟩,
 ⟨some 2, none, .mov (.t 22)⟩])
 (.ret (some [2]))))))⟩
theorem c_laws_toIntSS_ok : trF Try.prog ⟨[(0, [0, 3, 4], [3])], [2], false, false⟩ Try.f87 = some c_laws_toIntSS := by kernel_rfl
def c_laws_eqChain : IFn := ⟨16, [.t 4],
  (.seq (.reg false [⟨some 2, none, .box (.t 0) 57⟩,
 ⟨some 3, none, .box (.t 1) 57⟩,
 ⟨some 4, none, .mov (.k (.c (.bool false)))⟩])
 (.seq (.seq (.reg false [⟨some 5, none, .fld (.t 2) 0⟩,
 ⟨some 6, none, .loadN (.t 5) 64⟩,
 ⟨some 7, none, .fld (.t 3) 0⟩,
 ⟨some 8, none, .loadN (.t 7) 64⟩,
 ⟨some 9, none, .call 134 [.t 6, .t 8]⟩,
 ⟨some 10, none, .un .not (.t 9)⟩])
 (.cond (.t 10) (.seq (.reg false [⟨some 4, none, .mov (.k (.c (.bool false)))⟩])
 (.ret (some [4]))) .skip))
 (.seq (.seq (.reg false [⟨some 11, none, .fld (.t 2) 64⟩,
 ⟨some 12, none, .load1 (.t 11)⟩,
 ⟨some 13, none, .fld (.t 3) 64⟩,
 ⟨some 14, none, .load1 (.t 13)⟩,
 ⟨some 15, none, .bin .neq (.t 12) (.t 14)⟩])
 (.cond (.t 15) (.seq (.reg false [⟨some 4, none, .mov (.k (.c (.bool false)))⟩])
 (.ret (some [4]))) .skip))
 (.seq (.reg false [⟨some 4, none, .mov (.k (.c (.bool true)))⟩])
 (.ret (some [4]))))))⟩
theorem c_laws_eqChain_ok : trF Try.prog ⟨[], [4], false, false⟩ Try.f88 = some c_laws_eqChain := by kernel_rfl
def c_laws_eqRing : IFn := ⟨21, [.t 4],
  (.seq (.reg false [⟨some 2, none, .box (.t 0) 26⟩,
 ⟨some 3, none, .box (.t 1) 26⟩,
 ⟨some 4, none, .mov (.k (.c (.bool false)))⟩])
 (.seq (.seq (.reg false [⟨some 5, none, .fld (.t 2) 0⟩,
 ⟨some 6, none, .loadN (.t 5) 8⟩,
 ⟨some 7, none, .fld (.t 3) 0⟩,
 ⟨some 8, none, .loadN (.t 7) 8⟩,
 ⟨some 9, none, .call 135 [.t 6, .t 8]⟩,
 ⟨some 10, none, .un .not (.t 9)⟩])
 (.cond (.t 10) (.seq (.reg false [⟨some 4, none, .mov (.k (.c (.bool false)))⟩])
 (.ret (some [4]))) .skip))
 (.seq (.seq (.reg false [⟨some 11, none, .fld (.t 2) 8⟩,
 ⟨some 12, none, .load1 (.t 11)⟩,
 ⟨some 13, none, .fld (.t 3) 8⟩,
 ⟨some 14, none, .load1 (.t 13)⟩,
 ⟨some 15, none, .bin .neq (.t 12) (.t 14)⟩])
 (.cond (.t 15) (.seq (.reg false [⟨some 4, none, .mov (.k (.c (.bool false)))⟩])
 (.ret (some [4]))) .skip))
 (.seq (.seq (.reg false [⟨some 16, none, .fld (.t 2) 9⟩,
 ⟨some 17, none, .load1 (.t 16)⟩,
 ⟨some 18, none, .fld (.t 3) 9⟩,
 ⟨some 19, none, .load1 (.t 18)⟩,
 ⟨some 20, none, .bin .neq (.t 17) (.t 19)⟩])
 (.cond (.t 20) (.seq (.reg false [⟨some 4, none, .mov (.k (.c (.bool false)))⟩])
 (.ret (some [4]))) .skip))
 (.seq (.reg false [⟨some 4, none, .mov (.k (.c (.bool true)))⟩])
 (.ret (some [4])))))))⟩
theorem c_laws_eqRing_ok : trF Try.prog ⟨[], [4], false, false⟩ Try.f89 = some c_laws_eqRing := by kernel_rfl
def c_laws_eqIntSS_b0 : IC :=
  (.seq (.seq (.reg false [⟨some 11, none, .mov (.t 5)⟩,
 ⟨some 12, none, .mov (.t 0)⟩,
 ⟨some 13, none, .len (.t 12)⟩,
 ⟨some 14, none, .bin .lss (.t 11) (.t 13)⟩])
 (.cond (.t 14) .skip (.exit 0)))
 (.seq (.block 1 none none
 (.seq (.reg true [⟨some 17, none, .mov (.t 0)⟩,
 ⟨some 18, none, .mov (.t 5)⟩,
 ⟨some 19, none, .ixs (.t 17) (.t 18) 1⟩,
 ⟨some 20, none, .load1 (.t 19)⟩,
 ⟨some 21, none, .mov (.t 1)⟩,
 ⟨some 22, none, .mov (.t 5)⟩,
 ⟨some 23, none, .ixs (.t 21) (.t 22) 1⟩,
 ⟨some 24, none, .load1 (.t 23)⟩,
 ⟨some 25, none, .call 103 [.t 20, .t 24]⟩,
 ⟨some 26, none, .un .not (.t 25)⟩])
 (.cond (.t 26) (.seq (.reg false [⟨some 4, none, .mov (.k (.c (.bool false)))⟩])
 (.ret (some [4]))) .skip)))
 (.reg false [⟨some 15, none, .mov (.t 5)⟩,
 ⟨some 16, none, .bin .add (.t 15) (.k (.c (.int .i64 1)))⟩,
 ⟨some 5, none, .mov (.t 16)⟩])))
def c_laws_eqIntSS : IFn := ⟨27, [.t 4],
  (.seq (.reg false [⟨some 4, none, .mov (.k (.c (.bool false)))⟩])
 (.seq (.seq (.reg false [⟨some 6, none, .mov (.t 0)⟩,
 ⟨some 7, none, .len (.t 6)⟩,
 ⟨some 8, none, .mov (.t 1)⟩,
 ⟨some 9, none, .len (.t 8)⟩,
 ⟨some 10, none, .bin .neq (.t 7) (.t 9)⟩])
 (.cond (.t 10) (.seq (.reg false [⟨some 4, none, .mov (.k (.c (.bool false)))⟩])
 (.ret (some [4]))) .skip))
 (.seq (.seq (.reg false [⟨some 5, none, .mov (.k (.c (.int .i64 0)))⟩])
 (.block 0 (some [0, 1, 5]) (some [])
 (.loop c_laws_eqIntSS_b0)))
 (.seq (.reg false [⟨some 4, none, .mov (.k (.c (.bool true)))⟩])
 (.ret (some [4]))))))⟩
theorem c_laws_eqIntSS_ok : trF Try.prog ⟨[(0, [0, 1, 5], [])], [4], false, false⟩ Try.f90 = some c_laws_eqIntSS := by kernel_rfl
def c_spec_l16Draw_b0 : IC :=
  (.seq (.seq (.reg false [⟨some 13, none, .mov (.t 5)⟩,
 ⟨some 14, none, .bin .gtr (.t 13) (.k (.c (.int .i64 0)))⟩])
 (.cond (.t 14) .skip (.exit 0)))
 (.seq (.block 1 none none
 (.seq (.reg false [⟨some 17, none, .mov (.t 0)⟩,
 ⟨some 18, none, .mov (.t 4)⟩,
 ⟨some 19, none, .call 114 [.t 17, .t 18]⟩,
 ⟨some 20, none, .mov (.t 4)⟩,
 ⟨some 21, none, .bin .quo (.t 20) (.k (.c (.int .i64 3)))⟩,
 ⟨some 22, none, .bin .sub (.t 19) (.t 21)⟩,
 ⟨some 6, none, .mov (.t 22)⟩])
 (.seq (.reg false [⟨some 23, none, .mov (.t 0)⟩,
 ⟨some 24, none, .call 115 [.t 23, .k (.c (.int .i64 4))]⟩])
 (.cond (.t 24) (.reg false [⟨some 26, none, .mov (.t 3)⟩,
 ⟨some 27, none, .mov (.t 6)⟩,
 ⟨some 28, none, .call 137 [.t 26, .t 27]⟩,
 ⟨some 25, none, .mov (.t 28)⟩,
 ⟨some 29, none, .ext (.t 25) 0⟩,
 ⟨some 30, none, .ext (.t 25) 1⟩,
 ⟨some 3, none, .mov (.t 29)⟩]) (.reg false [⟨some 32, none, .mov (.t 3)⟩,
 ⟨some 33, none, .mov (.t 6)⟩,
 ⟨some 34, none, .call 138 [.t 32, .t 33]⟩,
 ⟨some 31, none, .mov (.t 34)⟩,
 ⟨some 35, none, .ext (.t 31) 0⟩,
 ⟨some 36, none, .ext (.t 31) 1⟩,
 ⟨some 3, none, .mov (.t 35)⟩])))))
 (.reg false [⟨some 15, none, .mov (.t 5)⟩,
 ⟨some 16, none, .bin .sub (.t 15) (.k (.c (.int .i64 1)))⟩,
 ⟨some 5, none, .mov (.t 16)⟩])))
def c_spec_l16Draw : IFn := ⟨38, [.t 2],
  (.seq (.reg false [⟨some 2, none, .mov (.k (.c .nils))⟩])
 (.seq (.reg false [⟨some 7, none, .call 136 []⟩,
 ⟨some 3, none, .mov (.t 7)⟩])
 (.seq (.reg false [⟨some 8, none, .mov (.t 0)⟩,
 ⟨some 9, none, .call 114 [.t 8, .k (.c (.int .i64 40))]⟩,
 ⟨some 10, none, .bin .add (.k (.c (.int .i64 6))) (.t 9)⟩,
 ⟨some 4, none, .mov (.t 10)⟩])
 (.seq (.seq (.reg false [⟨some 11, none, .mov (.t 0)⟩,
 ⟨some 12, none, .call 114 [.t 11, .k (.c (.int .i64 26))]⟩,
 ⟨some 5, none, .mov (.t 12)⟩])
 (.block 0 (some [0, 3, 4, 5]) (some [3])
 (.loop c_spec_l16Draw_b0)))
 (.seq (.reg false [⟨some 37, none, .mov (.t 3)⟩,
 ⟨some 2, none, .mov (.t 37)⟩])
 (.ret (some [2])))))))⟩
theorem c_spec_l16Draw_ok : trF Try.prog ⟨[(0, [0, 3, 4, 5], [3])], [2], false, false⟩ Try.f91 = some c_spec_l16Draw := by kernel_rfl
def c_impl_listed : IFn := ⟨9, [.t 2],
  (.seq (.reg false [⟨some 2, none, .mov (.k (.c .nils))⟩])
 (.seq (.reg false [⟨some 4, none, .mov (.t 0)⟩,
 ⟨some 5, none, .call 139 [.t 4]⟩,
 ⟨some 3, none, .mov (.t 5)⟩])
 (.seq (.reg false [⟨some 6, none, .mov (.t 3)⟩,
 ⟨some 7, none, .call 97 [.t 6]⟩])
 (.seq (.reg false [⟨some 8, none, .mov (.t 3)⟩,
 ⟨some 2, none, .mov (.t 8)⟩])
 (.ret (some [2]))))))⟩
theorem c_impl_listed_ok : trF Try.prog ⟨[], [2], false, false⟩ Try.f92 = some c_impl_listed := by kernel_rfl
def c_impl_placeOf : IFn := ⟨12, [.t 4],
  (.seq (.reg false [⟨some 4, none, .mov (.k (.c (.int .i64 0)))⟩])
 (.seq (.reg false [⟨some 5, none, .mov (.t 0)⟩,
 ⟨some 6, none, .mov (.t 1)⟩,
 ⟨some 7, none, .bin .rem (.t 5) (.t 6)⟩,
 ⟨some 8, none, .mov (.t 1)⟩,
 ⟨some 9, none, .bin .add (.t 7) (.t 8)⟩,
 ⟨some 10, none, .mov (.t 1)⟩,
 ⟨some 11, none, .bin .rem (.t 9) (.t 10)⟩,
 ⟨some 4, none, .mov (.t 11)⟩])
 (.ret (some [4]))))⟩
theorem c_impl_placeOf_ok : trF Try.prog ⟨[], [4], false, false⟩ Try.f93 = some c_impl_placeOf := by kernel_rfl
def c_impl_setHas : IFn := ⟨14, [.t 4],
  (.seq (.reg false [⟨some 4, none, .mov (.k (.c (.bool false)))⟩])
 (.seq (.reg false [⟨some 5, none, .mov (.t 0)⟩,
 ⟨some 6, none, .mov (.t 1)⟩,
 ⟨some 7, none, .mov (.t 0)⟩,
 ⟨some 8, none, .len (.t 7)⟩,
 ⟨some 9, none, .call 93 [.t 6, .t 8]⟩,
 ⟨some 10, none, .ixs (.t 5) (.t 9) 1⟩,
 ⟨some 11, none, .load1 (.t 10)⟩,
 ⟨some 12, none, .mov (.t 1)⟩,
 ⟨some 13, none, .call 140 [.t 11, .t 12]⟩,
 ⟨some 4, none, .mov (.t 13)⟩])
 (.ret (some [4]))))⟩
theorem c_impl_setHas_ok : trF Try.prog ⟨[], [4], false, false⟩ Try.f94 = some c_impl_setHas := by kernel_rfl
def c_impl_ownSet_b0 : IC :=
  (.seq (.reg false [⟨some 10, none, .bin .lss (.t 9) (.t 8)⟩])
 (.seq (.cond (.t 10) .skip (.exit 0))
 (.seq (.block 1 none none
 (.seq (.reg false [⟨some 11, none, .ixs (.t 7) (.t 9) 1⟩,
 ⟨some 12, none, .load1 (.t 11)⟩,
 ⟨some 5, none, .mov (.t 12)⟩])
 (.reg false [⟨some 13, none, .mov (.t 3)⟩,
 ⟨some 14, none, .mov (.t 5)⟩,
 ⟨some 15, none, .call 141 [.t 14]⟩,
 ⟨some 16, none, .lit 1 1 [.nils] [(0, .t 15)] 28⟩,
 ⟨some 17, none, .app (.t 13) (.t 16) 28 1 24⟩,
 ⟨some 3, none, .mov (.t 17)⟩])))
 (.reg false [⟨some 18, none, .bin .add (.t 9) (.k (.c (.int .i64 1)))⟩,
 ⟨some 9, none, .mov (.t 18)⟩]))))
def c_impl_ownSet : IFn := ⟨20, [.t 2],
  (.seq (.reg false [⟨some 2, none, .mov (.k (.c .nils))⟩])
 (.seq (.reg false [⟨some 6, none, .lit 0 1 [.nils] [] 28⟩,
 ⟨some 3, none, .mov (.t 6)⟩])
 (.seq (.seq (.reg false [⟨some 7, none, .mov (.t 0)⟩,
 ⟨some 8, none, .len (.t 7)⟩,
 ⟨some 9, none, .mov (.k (.c (.int .i64 0)))⟩])
 (.block 0 (some [3, 7, 8, 9]) (some [3])
 (.loop c_impl_ownSet_b0)))
 (.seq (.reg false [⟨some 19, none, .mov (.t 3)⟩,
 ⟨some 2, none, .mov (.t 19)⟩])
 (.ret (some [2]))))))⟩
theorem c_impl_ownSet_ok : trF Try.prog ⟨[(0, [3, 7, 8, 9], [3])], [2], false, false⟩ Try.f95 = some c_impl_ownSet := by kernel_rfl
def c_impl_bucketed_b0 : IC :=
  (.seq (.reg false [⟨some 13, none, .bin .lss (.t 12) (.t 11)⟩])
 (.seq (.cond (.t 13) .skip (.exit 0))
 (.seq (.block 1 none none
 (.seq (.reg false [⟨some 14, none, .ixs (.t 10) (.t 12) 1⟩,
 ⟨some 15, none, .load1 (.t 14)⟩,
 ⟨some 7, none, .mov (.t 15)⟩])
 (.reg false [⟨some 16, none, .mov (.t 5)⟩,
 ⟨some 17, none, .mov (.t 7)⟩,
 ⟨some 18, none, .mov (.t 1)⟩,
 ⟨some 19, none, .call 93 [.t 17, .t 18]⟩,
 ⟨some 20, none, .mov (.t 5)⟩,
 ⟨some 21, none, .mov (.t 7)⟩,
 ⟨some 22, none, .mov (.t 1)⟩,
 ⟨some 23, none, .call 93 [.t 21, .t 22]⟩,
 ⟨some 24, none, .ixs (.t 20) (.t 23) 1⟩,
 ⟨some 25, none, .load1 (.t 24)⟩,
 ⟨some 26, none, .mov (.t 7)⟩,
 ⟨some 27, none, .lit 1 1 [.int .i64 0] [(0, .t 26)] 3⟩,
 ⟨some 28, none, .app (.t 25) (.t 27) 3 1 8⟩,
 ⟨some 29, none, .ixs (.t 16) (.t 19) 1⟩,
 ⟨none, none, .store (.t 29) (.t 28) 1⟩])))
 (.reg false [⟨some 30, none, .bin .add (.t 12) (.k (.c (.int .i64 1)))⟩,
 ⟨some 12, none, .mov (.t 30)⟩]))))
def c_impl_bucketed : IFn := ⟨32, [.t 4],
  (.seq (.reg false [⟨some 4, none, .mov (.k (.c .nils))⟩])
 (.seq (.reg false [⟨some 8, none, .mov (.t 1)⟩,
 ⟨some 9, none, .mks (.t 8) [.nils] 28 24⟩,
 ⟨some 5, none, .mov (.t 9)⟩])
 (.seq (.seq (.reg false [⟨some 10, none, .mov (.t 0)⟩,
 ⟨some 11, none, .len (.t 10)⟩,
 ⟨some 12, none, .mov (.k (.c (.int .i64 0)))⟩])
 (.block 0 (some [1, 5, 10, 11, 12]) (some [5])
 (.loop c_impl_bucketed_b0)))
 (.seq (.reg false [⟨some 31, none, .mov (.t 5)⟩,
 ⟨some 4, none, .mov (.t 31)⟩])
 (.ret (some [4]))))))⟩
theorem c_impl_bucketed_ok : trF Try.prog ⟨[(0, [1, 5, 10, 11, 12], [5])], [4], false, false⟩ Try.f96 = some c_impl_bucketed := by kernel_rfl
def c_slices_Equal_int_int_b0 : IC :=
  (.seq (.reg false [⟨some 14, none, .bin .lss (.t 13) (.t 12)⟩])
 (.seq (.cond (.t 14) .skip (.exit 0))
 (.seq (.block 1 none none
 (.seq (.reg false [⟨some 15, none, .mov (.t 13)⟩,
 ⟨some 5, none, .mov (.t 15)⟩])
 (.seq (.reg true [⟨some 16, none, .mov (.t 0)⟩,
 ⟨some 17, none, .mov (.t 5)⟩,
 ⟨some 18, none, .ixs (.t 16) (.t 17) 1⟩,
 ⟨some 19, none, .load1 (.t 18)⟩,
 ⟨some 20, none, .mov (.t 1)⟩,
 ⟨some 21, none, .mov (.t 5)⟩,
 ⟨some 22, none, .ixs (.t 20) (.t 21) 1⟩,
 ⟨some 23, none, .load1 (.t 22)⟩,
 ⟨some 24, none, .bin .neq (.t 19) (.t 23)⟩])
 (.cond (.t 24) (.seq (.reg false [⟨some 4, none, .mov (.k (.c (.bool false)))⟩])
 (.ret (some [4]))) .skip))))
 (.reg false [⟨some 25, none, .bin .add (.t 13) (.k (.c (.int .i64 1)))⟩,
 ⟨some 13, none, .mov (.t 25)⟩]))))
def c_slices_Equal_int_int : IFn := ⟨26, [.t 4],
  (.seq (.reg false [⟨some 4, none, .mov (.k (.c (.bool false)))⟩])
 (.seq (.seq (.reg false [⟨some 6, none, .mov (.t 0)⟩,
 ⟨some 7, none, .len (.t 6)⟩,
 ⟨some 8, none, .mov (.t 1)⟩,
 ⟨some 9, none, .len (.t 8)⟩,
 ⟨some 10, none, .bin .neq (.t 7) (.t 9)⟩])
 (.cond (.t 10) (.seq (.reg false [⟨some 4, none, .mov (.k (.c (.bool false)))⟩])
 (.ret (some [4]))) .skip))
 (.seq (.seq (.reg false [⟨some 11, none, .mov (.t 0)⟩,
 ⟨some 12, none, .len (.t 11)⟩,
 ⟨some 13, none, .mov (.k (.c (.int .i64 0)))⟩])
 (.block 0 (some [0, 1, 12, 13]) (some [])
 (.loop c_slices_Equal_int_int_b0)))
 (.seq (.reg false [⟨some 4, none, .mov (.k (.c (.bool true)))⟩])
 (.ret (some [4]))))))⟩
theorem c_slices_Equal_int_int_ok : trF Try.prog ⟨[(0, [0, 1, 12, 13], [])], [4], false, false⟩ Try.f98 = some c_slices_Equal_int_int := by kernel_rfl
def c_slices_DeleteFunc_int_int_b0 : IC :=
  (.seq (.seq (.reg false [⟨some 16, none, .mov (.t 6)⟩,
 ⟨some 17, none, .mov (.t 0)⟩,
 ⟨some 18, none, .len (.t 17)⟩,
 ⟨some 19, none, .bin .lss (.t 16) (.t 18)⟩])
 (.cond (.t 19) .skip (.exit 0)))
 (.seq (.block 1 none none
 (.seq (.reg false [⟨some 22, none, .mov (.t 0)⟩,
 ⟨some 23, none, .mov (.t 6)⟩,
 ⟨some 24, none, .ixs (.t 22) (.t 23) 1⟩,
 ⟨some 25, none, .load1 (.t 24)⟩,
 ⟨some 7, none, .mov (.t 25)⟩])
 (.seq (.reg false [⟨some 26, none, .mov (.t 1)⟩,
 ⟨some 27, none, .mov (.t 7)⟩,
 ⟨some 28, none, .callv (.t 26) [.t 27]⟩,
 ⟨some 29, none, .un .not (.t 28)⟩])
 (.cond (.t 29) (.seq (.reg false [⟨some 30, none, .mov (.t 0)⟩,
 ⟨some 31, none, .mov (.t 5)⟩,
 ⟨some 32, none, .mov (.t 7)⟩,
 ⟨some 33, none, .ixs (.t 30) (.t 31) 1⟩,
 ⟨none, none, .store (.t 33) (.t 32) 1⟩])
 (.reg false [⟨some 34, none, .mov (.t 5)⟩,
 ⟨some 35, none, .bin .add (.t 34) (.k (.c (.int .i64 1)))⟩,
 ⟨some 5, none, .mov (.t 35)⟩])) .skip))))
 (.reg false [⟨some 20, none, .mov (.t 6)⟩,
 ⟨some 21, none, .bin .add (.t 20) (.k (.c (.int .i64 1)))⟩,
 ⟨some 6, none, .mov (.t 21)⟩])))
def c_slices_DeleteFunc_int_int : IFn := ⟨42, [.t 4],
  (.seq (.reg false [⟨some 4, none, .mov (.k (.c .nils))⟩])
 (.seq (.reg false [⟨some 8, none, .mov (.t 0)⟩,
 ⟨some 9, none, .mov (.t 1)⟩,
 ⟨some 10, none, .call 144 [.t 8, .t 9]⟩,
 ⟨some 5, none, .mov (.t 10)⟩])
 (.seq (.seq (.reg false [⟨some 11, none, .mov (.t 5)⟩,
 ⟨some 12, none, .bin .eql (.t 11) (.k (.c (.int .i64 (-1))))⟩])
 (.cond (.t 12) (.seq (.reg false [⟨some 13, none, .mov (.t 0)⟩,
 ⟨some 4, none, .mov (.t 13)⟩])
 (.ret (some [4]))) .skip))
 (.seq (.seq (.reg false [⟨some 14, none, .mov (.t 5)⟩,
 ⟨some 15, none, .bin .add (.t 14) (.k (.c (.int .i64 1)))⟩,
 ⟨some 6, none, .mov (.t 15)⟩])
 (.block 0 (some [0, 1, 5, 6]) (some [0, 5])
 (.loop c_slices_DeleteFunc_int_int_b0)))
 (.seq (.reg false [⟨some 36, none, .mov (.t 0)⟩,
 ⟨some 37, none, .mov (.t 5)⟩,
 ⟨some 38, none, .sls (.t 36) 1 (some (.t 37)) none⟩,
 ⟨none, none, .clr (.t 38) (.int .i64 0)⟩])
 (.seq (.reg false [⟨some 39, none, .mov (.t 0)⟩,
 ⟨some 40, none, .mov (.t 5)⟩,
 ⟨some 41, none, .sls (.t 39) 1 none (some (.t 40))⟩,
 ⟨some 4, none, .mov (.t 41)⟩])
 (.ret (some [4]))))))))⟩
theorem c_slices_DeleteFunc_int_int_ok : trF Try.prog ⟨[(0, [0, 1, 5, 6], [0, 5])], [4], false, false⟩ Try.f99 = some c_slices_DeleteFunc_int_int := by kernel_rfl
def c_impl_SetDrop_1 : IFn := ⟨7, [.t 3],
  (.seq (.reg false [⟨some 3, none, .mov (.k (.c (.bool false)))⟩])
 (.seq (.reg false [⟨some 4, none, .mov (.t 0)⟩,
 ⟨some 5, none, .load1 (.t 1)⟩,
 ⟨some 6, none, .bin .eql (.t 4) (.t 5)⟩,
 ⟨some 3, none, .mov (.t 6)⟩])
 (.ret (some [3]))))⟩
theorem c_impl_SetDrop_1_ok : trF Try.prog ⟨[], [3], false, false⟩ Try.f100 = some c_impl_SetDrop_1 := by kernel_rfl
def c_spec_NewSpace : IFn := ⟨5, [.cell 0 141 true],
  (.seq (.reg false [⟨some 0, none, .alloc [.bool false, .int .i64 0, .int .i64 0, .int .i64 0, .bool false, .int .i64 0, .int .i64 0, .int .i64 0, .bool false, .int .i64 0, .int .i64 0, .int .i64 0, .bool false, .int .i64 0, .int .i64 0, .int .i64 0, .bool false, .int .i64 0, .int .i64 0, .int .i64 0, .bool false, .int .i64 0, .int .i64 0, .int .i64 0, .bool false, .int .i64 0, .int .i64 0, .int .i64 0, .bool false, .int .i64 0, .int .i64 0, .int .i64 0, .bool false, .int .i64 0, .int .i64 0, .int .i64 0, .bool false, .int .i64 0, .int .i64 0, .int .i64 0, .bool false, .int .i64 0, .int .i64 0, .int .i64 0, .bool false, .int .i64 0, .int .i64 0, .int .i64 0, .bool false, .int .i64 0, .int .i64 0, .int .i64 0, .bool false, .int .i64 0, .int .i64 0, .int .i64 0, .bool false, .int .i64 0, .int .i64 0, .int .i64 0, .bool false, .int .i64 0, .int .i64 0, .int .i64 0, .int .i64 0, .int .i64 0, .int .i64 0, .int .i64 0, .int .i64 0, .int .i64 0, .int .i64 0, .int .i64 0, .int .i64 0, .int .i64 0, .int .i64 0, .bool false, .int .i64 0, .int .i64 0, .int .i64 0, .bool false, .int .i64 0, .int .i64 0, .int .i64 0, .bool false, .int .i64 0, .int .i64 0, .int .i64 0, .bool false, .int .i64 0, .int .i64 0, .int .i64 0, .bool false, .int .i64 0, .int .i64 0, .int .i64 0, .bool false, .int .i64 0, .int .i64 0, .int .i64 0, .bool false, .int .i64 0, .int .i64 0, .int .i64 0, .bool false, .int .i64 0, .int .i64 0, .int .i64 0, .bool false, .int .i64 0, .int .i64 0, .int .i64 0, .bool false, .int .i64 0, .int .i64 0, .int .i64 0, .bool false, .int .i64 0, .int .i64 0, .int .i64 0, .bool false, .int .i64 0, .int .i64 0, .int .i64 0, .bool false, .int .i64 0, .int .i64 0, .int .i64 0, .bool false, .int .i64 0, .int .i64 0, .int .i64 0, .bool false, .int .i64 0, .int .i64 0, .int .i64 0, .bool false, .int .i64 0, .int .i64 0, .int .i64 0, .int .i64 0, .nils] 91⟩])
 (.seq (.reg false [⟨some 1, none, .call 124 []⟩,
 ⟨some 2, none, .call 127 []⟩,
 ⟨some 3, none, .call 136 []⟩,
 ⟨some 4, none, .bld [.bool false, .int .i64 0, .int .i64 0, .int .i64 0, .bool false, .int .i64 0, .int .i64 0, .int .i64 0, .bool false, .int .i64 0, .int .i64 0, .int .i64 0, .bool false, .int .i64 0, .int .i64 0, .int .i64 0, .bool false, .int .i64 0, .int .i64 0, .int .i64 0, .bool false, .int .i64 0, .int .i64 0, .int .i64 0, .bool false, .int .i64 0, .int .i64 0, .int .i64 0, .bool false, .int .i64 0, .int .i64 0, .int .i64 0, .bool false, .int .i64 0, .int .i64 0, .int .i64 0, .bool false, .int .i64 0, .int .i64 0, .int .i64 0, .bool false, .int .i64 0, .int .i64 0, .int .i64 0, .bool false, .int .i64 0, .int .i64 0, .int .i64 0, .bool false, .int .i64 0, .int .i64 0, .int .i64 0, .bool false, .int .i64 0, .int .i64 0, .int .i64 0, .bool false, .int .i64 0, .int .i64 0, .int .i64 0, .bool false, .int .i64 0, .int .i64 0, .int .i64 0, .int .i64 0, .int .i64 0, .int .i64 0, .int .i64 0, .int .i64 0, .int .i64 0, .int .i64 0, .int .i64 0, .int .i64 0, .int .i64 0, .int .i64 0, .bool false, .int .i64 0, .int .i64 0, .int .i64 0, .bool false, .int .i64 0, .int .i64 0, .int .i64 0, .bool false, .int .i64 0, .int .i64 0, .int .i64 0, .bool false, .int .i64 0, .int .i64 0, .int .i64 0, .bool false, .int .i64 0, .int .i64 0, .int .i64 0, .bool false, .int .i64 0, .int .i64 0, .int .i64 0, .bool false, .int .i64 0, .int .i64 0, .int .i64 0, .bool false, .int .i64 0, .int .i64 0, .int .i64 0, .bool false, .int .i64 0, .int .i64 0, .int .i64 0, .bool false, .int .i64 0, .int .i64 0, .int .i64 0, .bool false, .int .i64 0, .int .i64 0, .int .i64 0, .bool false, .int .i64 0, .int .i64 0, .int .i64 0, .bool false, .int .i64 0, .int .i64 0, .int .i64 0, .bool false, .int .i64 0, .int .i64 0, .int .i64 0, .bool false, .int .i64 0, .int .i64 0, .int .i64 0, .bool false, .int .i64 0, .int .i64 0, .int .i64 0, .int .i64 0, .nils] [(0, (65, .t 1)), (75, (65, .t 2)), (140, (1, .t 3))]⟩,
 ⟨none, none, .store (.t 0) (.t 4) 141⟩])
 (.ret (some [0]))))⟩
theorem c_spec_NewSpace_ok : trF Try.prog ⟨[], [0], false, false⟩ Try.f101 = some c_spec_NewSpace := by kernel_rfl
def c_impl_NewSpace : IFn := ⟨5, [.cell 0 141 true],
  (.seq (.reg false [⟨some 0, none, .alloc [.bool false, .int .i64 0, .int .i64 0, .int .i64 0, .bool false, .int .i64 0, .int .i64 0, .int .i64 0, .bool false, .int .i64 0, .int .i64 0, .int .i64 0, .bool false, .int .i64 0, .int .i64 0, .int .i64 0, .bool false, .int .i64 0, .int .i64 0, .int .i64 0, .bool false, .int .i64 0, .int .i64 0, .int .i64 0, .bool false, .int .i64 0, .int .i64 0, .int .i64 0, .bool false, .int .i64 0, .int .i64 0, .int .i64 0, .bool false, .int .i64 0, .int .i64 0, .int .i64 0, .bool false, .int .i64 0, .int .i64 0, .int .i64 0, .bool false, .int .i64 0, .int .i64 0, .int .i64 0, .bool false, .int .i64 0, .int .i64 0, .int .i64 0, .bool false, .int .i64 0, .int .i64 0, .int .i64 0, .bool false, .int .i64 0, .int .i64 0, .int .i64 0, .bool false, .int .i64 0, .int .i64 0, .int .i64 0, .bool false, .int .i64 0, .int .i64 0, .int .i64 0, .int .i64 0, .int .i64 0, .int .i64 0, .int .i64 0, .int .i64 0, .int .i64 0, .int .i64 0, .int .i64 0, .int .i64 0, .int .i64 0, .int .i64 0, .bool false, .int .i64 0, .int .i64 0, .int .i64 0, .bool false, .int .i64 0, .int .i64 0, .int .i64 0, .bool false, .int .i64 0, .int .i64 0, .int .i64 0, .bool false, .int .i64 0, .int .i64 0, .int .i64 0, .bool false, .int .i64 0, .int .i64 0, .int .i64 0, .bool false, .int .i64 0, .int .i64 0, .int .i64 0, .bool false, .int .i64 0, .int .i64 0, .int .i64 0, .bool false, .int .i64 0, .int .i64 0, .int .i64 0, .bool false, .int .i64 0, .int .i64 0, .int .i64 0, .bool false, .int .i64 0, .int .i64 0, .int .i64 0, .bool false, .int .i64 0, .int .i64 0, .int .i64 0, .bool false, .int .i64 0, .int .i64 0, .int .i64 0, .bool false, .int .i64 0, .int .i64 0, .int .i64 0, .bool false, .int .i64 0, .int .i64 0, .int .i64 0, .bool false, .int .i64 0, .int .i64 0, .int .i64 0, .bool false, .int .i64 0, .int .i64 0, .int .i64 0, .int .i64 0, .nils] 91⟩])
 (.seq (.reg false [⟨some 1, none, .call 32 []⟩,
 ⟨some 2, none, .call 40 []⟩,
 ⟨some 3, none, .call 53 []⟩,
 ⟨some 4, none, .bld [.bool false, .int .i64 0, .int .i64 0, .int .i64 0, .bool false, .int .i64 0, .int .i64 0, .int .i64 0, .bool false, .int .i64 0, .int .i64 0, .int .i64 0, .bool false, .int .i64 0, .int .i64 0, .int .i64 0, .bool false, .int .i64 0, .int .i64 0, .int .i64 0, .bool false, .int .i64 0, .int .i64 0, .int .i64 0, .bool false, .int .i64 0, .int .i64 0, .int .i64 0, .bool false, .int .i64 0, .int .i64 0, .int .i64 0, .bool false, .int .i64 0, .int .i64 0, .int .i64 0, .bool false, .int .i64 0, .int .i64 0, .int .i64 0, .bool false, .int .i64 0, .int .i64 0, .int .i64 0, .bool false, .int .i64 0, .int .i64 0, .int .i64 0, .bool false, .int .i64 0, .int .i64 0, .int .i64 0, .bool false, .int .i64 0, .int .i64 0, .int .i64 0, .bool false, .int .i64 0, .int .i64 0, .int .i64 0, .bool false, .int .i64 0, .int .i64 0, .int .i64 0, .int .i64 0, .int .i64 0, .int .i64 0, .int .i64 0, .int .i64 0, .int .i64 0, .int .i64 0, .int .i64 0, .int .i64 0, .int .i64 0, .int .i64 0, .bool false, .int .i64 0, .int .i64 0, .int .i64 0, .bool false, .int .i64 0, .int .i64 0, .int .i64 0, .bool false, .int .i64 0, .int .i64 0, .int .i64 0, .bool false, .int .i64 0, .int .i64 0, .int .i64 0, .bool false, .int .i64 0, .int .i64 0, .int .i64 0, .bool false, .int .i64 0, .int .i64 0, .int .i64 0, .bool false, .int .i64 0, .int .i64 0, .int .i64 0, .bool false, .int .i64 0, .int .i64 0, .int .i64 0, .bool false, .int .i64 0, .int .i64 0, .int .i64 0, .bool false, .int .i64 0, .int .i64 0, .int .i64 0, .bool false, .int .i64 0, .int .i64 0, .int .i64 0, .bool false, .int .i64 0, .int .i64 0, .int .i64 0, .bool false, .int .i64 0, .int .i64 0, .int .i64 0, .bool false, .int .i64 0, .int .i64 0, .int .i64 0, .bool false, .int .i64 0, .int .i64 0, .int .i64 0, .bool false, .int .i64 0, .int .i64 0, .int .i64 0, .int .i64 0, .nils] [(0, (65, .t 1)), (75, (65, .t 2)), (140, (1, .t 3))]⟩,
 ⟨none, none, .store (.t 0) (.t 4) 141⟩])
 (.ret (some [0]))))⟩
theorem c_impl_NewSpace_ok : trF Try.prog ⟨[], [0], false, false⟩ Try.f102 = some c_impl_NewSpace := by kernel_rfl
def c_laws_eqIntS_b0 : IC :=
  (.seq (.seq (.reg false [⟨some 11, none, .mov (.t 5)⟩,
 ⟨some 12, none, .mov (.t 0)⟩,
 ⟨some 13, none, .len (.t 12)⟩,
 ⟨some 14, none, .bin .lss (.t 11) (.t 13)⟩])
 (.cond (.t 14) .skip (.exit 0)))
 (.seq (.block 1 none none
 (.seq (.reg true [⟨some 17, none, .mov (.t 0)⟩,
 ⟨some 18, none, .mov (.t 5)⟩,
 ⟨some 19, none, .ixs (.t 17) (.t 18) 1⟩,
 ⟨some 20, none, .load1 (.t 19)⟩,
 ⟨some 21, none, .mov (.t 1)⟩,
 ⟨some 22, none, .mov (.t 5)⟩,
 ⟨some 23, none, .ixs (.t 21) (.t 22) 1⟩,
 ⟨some 24, none, .load1 (.t 23)⟩,
 ⟨some 25, none, .bin .neq (.t 20) (.t 24)⟩])
 (.cond (.t 25) (.seq (.reg false [⟨some 4, none, .mov (.k (.c (.bool false)))⟩])
 (.ret (some [4]))) .skip)))
 (.reg false [⟨some 15, none, .mov (.t 5)⟩,
 ⟨some 16, none, .bin .add (.t 15) (.k (.c (.int .i64 1)))⟩,
 ⟨some 5, none, .mov (.t 16)⟩])))
def c_laws_eqIntS : IFn := ⟨26, [.t 4],
  (.seq (.reg false [⟨some 4, none, .mov (.k (.c (.bool false)))⟩])
 (.seq (.seq (.reg false [⟨some 6, none, .mov (.t 0)⟩,
 ⟨some 7, none, .len (.t 6)⟩,
 ⟨some 8, none, .mov (.t 1)⟩,
 ⟨some 9, none, .len (.t 8)⟩,
 ⟨some 10, none, .bin .neq (.t 7) (.t 9)⟩])
 (.cond (.t 10) (.seq (.reg false [⟨some 4, none, .mov (.k (.c (.bool false)))⟩])
 (.ret (some [4]))) .skip))
 (.seq (.seq (.reg false [⟨some 5, none, .mov (.k (.c (.int .i64 0)))⟩])
 (.block 0 (some [0, 1, 5]) (some [])
 (.loop c_laws_eqIntS_b0)))
 (.seq (.reg false [⟨some 4, none, .mov (.k (.c (.bool true)))⟩])
 (.ret (some [4]))))))⟩
theorem c_laws_eqIntS_ok : trF Try.prog ⟨[(0, [0, 1, 5], [])], [4], false, false⟩ Try.f103 = some c_laws_eqIntS := by kernel_rfl
def c_laws_eqInstrSS_b0 : IC :=
  (.seq (.seq (.reg false [⟨some 11, none, .mov (.t 5)⟩,
 ⟨some 12, none, .mov (.t 0)⟩,
 ⟨some 13, none, .len (.t 12)⟩,
 ⟨some 14, none, .bin .lss (.t 11) (.t 13)⟩])
 (.cond (.t 14) .skip (.exit 0)))
 (.seq (.block 1 none none
 (.seq (.reg true [⟨some 17, none, .mov (.t 0)⟩,
 ⟨some 18, none, .mov (.t 5)⟩,
 ⟨some 19, none, .ixs (.t 17) (.t 18) 1⟩,
 ⟨some 20, none, .load1 (.t 19)⟩,
 ⟨some 21, none, .mov (.t 1)⟩,
 ⟨some 22, none, .mov (.t 5)⟩,
 ⟨some 23, none, .ixs (.t 21) (.t 22) 1⟩,
 ⟨some 24, none, .load1 (.t 23)⟩,
 ⟨some 25, none, .call 145 [.t 20, .t 24]⟩,
 ⟨some 26, none, .un .not (.t 25)⟩])
 (.cond (.t 26) (.seq (.reg false [⟨some 4, none, .mov (.k (.c (.bool false)))⟩])
 (.ret (some [4]))) .skip)))
 (.reg false [⟨some 15, none, .mov (.t 5)⟩,
 ⟨some 16, none, .bin .add (.t 15) (.k (.c (.int .i64 1)))⟩,
 ⟨some 5, none, .mov (.t 16)⟩])))
def c_laws_eqInstrSS : IFn := ⟨27, [.t 4],
  (.seq (.reg false [⟨some 4, none, .mov (.k (.c (.bool false)))⟩])
 (.seq (.seq (.reg false [⟨some 6, none, .mov (.t 0)⟩,
 ⟨some 7, none, .len (.t 6)⟩,
 ⟨some 8, none, .mov (.t 1)⟩,
 ⟨some 9, none, .len (.t 8)⟩,
 ⟨some 10, none, .bin .neq (.t 7) (.t 9)⟩])
 (.cond (.t 10) (.seq (.reg false [⟨some 4, none, .mov (.k (.c (.bool false)))⟩])
 (.ret (some [4]))) .skip))
 (.seq (.seq (.reg false [⟨some 5, none, .mov (.k (.c (.int .i64 0)))⟩])
 (.block 0 (some [0, 1, 5]) (some [])
 (.loop c_laws_eqInstrSS_b0)))
 (.seq (.reg false [⟨some 4, none, .mov (.k (.c (.bool true)))⟩])
 (.ret (some [4]))))))⟩
theorem c_laws_eqInstrSS_ok : trF Try.prog ⟨[(0, [0, 1, 5], [])], [4], false, false⟩ Try.f104 = some c_laws_eqInstrSS := by kernel_rfl
def c_laws_eqWorld : IFn := ⟨29, [.t 4],
  (.seq (.reg false [⟨some 2, none, .box (.t 0) 112⟩,
 ⟨some 3, none, .box (.t 1) 112⟩,
 ⟨some 4, none, .mov (.k (.c (.bool false)))⟩])
 (.seq (.seq (.reg false [⟨some 5, none, .fld (.t 2) 0⟩,
 ⟨some 6, none, .load1 (.t 5)⟩,
 ⟨some 7, none, .fld (.t 3) 0⟩,
 ⟨some 8, none, .load1 (.t 7)⟩,
 ⟨some 9, none, .call 103 [.t 6, .t 8]⟩,
 ⟨some 10, none, .un .not (.t 9)⟩])
 (.cond (.t 10) (.seq (.reg false [⟨some 4, none, .mov (.k (.c (.bool false)))⟩])
 (.ret (some [4]))) .skip))
 (.seq (.seq (.reg false [⟨some 11, none, .fld (.t 2) 1⟩,
 ⟨some 12, none, .loadN (.t 11) 2⟩,
 ⟨some 13, none, .fld (.t 3) 1⟩,
 ⟨some 14, none, .loadN (.t 13) 2⟩,
 ⟨some 15, none, .call 146 [.t 12, .t 14]⟩,
 ⟨some 16, none, .un .not (.t 15)⟩])
 (.cond (.t 16) (.seq (.reg false [⟨some 4, none, .mov (.k (.c (.bool false)))⟩])
 (.ret (some [4]))) .skip))
 (.seq (.seq (.reg false [⟨some 17, none, .fld (.t 2) 3⟩,
 ⟨some 18, none, .load1 (.t 17)⟩,
 ⟨some 19, none, .fld (.t 3) 3⟩,
 ⟨some 20, none, .load1 (.t 19)⟩,
 ⟨some 21, none, .call 147 [.t 18, .t 20]⟩,
 ⟨some 22, none, .un .not (.t 21)⟩])
 (.cond (.t 22) (.seq (.reg false [⟨some 4, none, .mov (.k (.c (.bool false)))⟩])
 (.ret (some [4]))) .skip))
 (.seq (.seq (.reg false [⟨some 23, none, .fld (.t 2) 4⟩,
 ⟨some 24, none, .load1 (.t 23)⟩,
 ⟨some 25, none, .fld (.t 3) 4⟩,
 ⟨some 26, none, .load1 (.t 25)⟩,
 ⟨some 27, none, .call 148 [.t 24, .t 26]⟩,
 ⟨some 28, none, .un .not (.t 27)⟩])
 (.cond (.t 28) (.seq (.reg false [⟨some 4, none, .mov (.k (.c (.bool false)))⟩])
 (.ret (some [4]))) .skip))
 (.seq (.reg false [⟨some 4, none, .mov (.k (.c (.bool true)))⟩])
 (.ret (some [4]))))))))⟩
theorem c_laws_eqWorld_ok : trF Try.prog ⟨[], [4], false, false⟩ Try.f105 = some c_laws_eqWorld := by kernel_rfl
def c_laws_markIntS_b0 : IC :=
  (.seq (.seq (.reg false [⟨some 6, none, .mov (.t 5)⟩,
 ⟨some 7, none, .mov (.t 0)⟩,
 ⟨some 8, none, .len (.t 7)⟩,
 ⟨some 9, none, .bin .lss (.t 6) (.t 8)⟩])
 (.cond (.t 9) .skip (.exit 0)))
 (.seq (.block 1 none none
 (.seq (.reg false [⟨some 12, none, .mov (.t 0)⟩,
 ⟨some 13, none, .mov (.t 5)⟩,
 ⟨some 14, none, .mov (.t 1)⟩,
 ⟨some 15, none, .ixs (.t 12) (.t 13) 1⟩,
 ⟨none, none, .store (.t 15) (.t 14) 1⟩])
 (.reg false [⟨some 16, none, .mov (.t 1)⟩,
 ⟨some 17, none, .bin .add (.t 16) (.k (.c (.int .i64 1)))⟩,
 ⟨some 1, none, .mov (.t 17)⟩])))
 (.reg false [⟨some 10, none, .mov (.t 5)⟩,
 ⟨some 11, none, .bin .add (.t 10) (.k (.c (.int .i64 1)))⟩,
 ⟨some 5, none, .mov (.t 11)⟩])))
def c_laws_markIntS : IFn := ⟨19, [.t 4],
  (.seq (.reg false [⟨some 4, none, .mov (.k (.c (.int .i64 0)))⟩])
 (.seq (.seq (.reg false [⟨some 5, none, .mov (.k (.c (.int .i64 0)))⟩])
 (.block 0 (some [0, 1, 5]) (some [1])
 (.loop c_laws_markIntS_b0)))
 (.seq (.reg false [⟨some 18, none, .mov (.t 1)⟩,
 ⟨some 4, none, .mov (.t 18)⟩])
 (.ret (some [4])))))⟩
theorem c_laws_markIntS_ok : trF Try.prog ⟨[(0, [0, 1, 5], [1])], [4], false, false⟩ Try.f106 = some c_laws_markIntS := by kernel_rfl
def c_laws_markInstrSS_b0 : IC :=
  (.seq (.seq (.reg false [⟨some 6, none, .mov (.t 5)⟩,
 ⟨some 7, none, .mov (.t 0)⟩,
 ⟨some 8, none, .len (.t 7)⟩,
 ⟨some 9, none, .bin .lss (.t 6) (.t 8)⟩])
 (.cond (.t 9) .skip (.exit 0)))
 (.seq (.block 1 none none
 (.reg false [⟨some 12, none, .mov (.t 0)⟩,
 ⟨some 13, none, .mov (.t 5)⟩,
 ⟨some 14, none, .ixs (.t 12) (.t 13) 1⟩,
 ⟨some 15, none, .load1 (.t 14)⟩,
 ⟨some 16, none, .mov (.t 1)⟩,
 ⟨some 17, none, .call 149 [.t 15, .t 16]⟩,
 ⟨some 1, none, .mov (.t 17)⟩]))
 (.reg false [⟨some 10, none, .mov (.t 5)⟩,
 ⟨some 11, none, .bin .add (.t 10) (.k (.c (.int .i64 1)))⟩,
 ⟨some 5, none, .mov (.t 11)⟩])))
def c_laws_markInstrSS : IFn := ⟨19, [.t 4],
  (.seq (.reg false [⟨some 4, none, .mov (.k (.c (.int .i64 0)))⟩])
 (.seq (.seq (.reg false [⟨some 5, none, .mov (.k (.c (.int .i64 0)))⟩])
 (.block 0 (some [0, 1, 5]) (some [1])
 (.loop c_laws_markInstrSS_b0)))
 (.seq (.reg false [⟨some 18, none, .mov (.t 1)⟩,
 ⟨some 4, none, .mov (.t 18)⟩])
 (.ret (some [4])))))⟩
theorem c_laws_markInstrSS_ok : trF Try.prog ⟨[(0, [0, 1, 5], [1])], [4], false, false⟩ Try.f107 = some c_laws_markInstrSS := by kernel_rfl
def c_laws_markWorld : IFn := ⟨22, [.t 4],
  (.seq (.reg false [⟨some 2, none, .box (.t 0) 112⟩,
 ⟨some 4, none, .mov (.k (.c (.int .i64 0)))⟩])
 (.seq (.reg false [⟨some 5, none, .fld (.t 2) 0⟩,
 ⟨some 6, none, .load1 (.t 5)⟩,
 ⟨some 7, none, .mov (.t 1)⟩,
 ⟨some 8, none, .call 106 [.t 6, .t 7]⟩,
 ⟨some 1, none, .mov (.t 8)⟩])
 (.seq (.reg false [⟨some 9, none, .fld (.t 2) 1⟩,
 ⟨some 10, none, .loadN (.t 9) 2⟩,
 ⟨some 11, none, .mov (.t 1)⟩,
 ⟨some 12, none, .call 150 [.t 10, .t 11]⟩,
 ⟨some 1, none, .mov (.t 12)⟩])
 (.seq (.reg false [⟨some 13, none, .fld (.t 2) 3⟩,
 ⟨some 14, none, .load1 (.t 13)⟩,
 ⟨some 15, none, .mov (.t 1)⟩,
 ⟨some 16, none, .call 151 [.t 14, .t 15]⟩,
 ⟨some 1, none, .mov (.t 16)⟩])
 (.seq (.reg false [⟨some 17, none, .fld (.t 2) 4⟩,
 ⟨some 18, none, .load1 (.t 17)⟩,
 ⟨some 19, none, .mov (.t 1)⟩,
 ⟨some 20, none, .call 152 [.t 18, .t 19]⟩,
 ⟨some 1, none, .mov (.t 20)⟩])
 (.seq (.reg false [⟨some 21, none, .mov (.t 1)⟩,
 ⟨some 4, none, .mov (.t 21)⟩])
 (.ret (some [4]))))))))⟩
theorem c_laws_markWorld_ok : trF Try.prog ⟨[], [4], false, false⟩ Try.f108 = some c_laws_markWorld := by kernel_rfl
def c_laws_markSpace : IFn := ⟨10, [.t 4],
  (.seq (.reg false [⟨some 2, none, .box (.t 0) 91⟩,
 ⟨some 4, none, .mov (.k (.c (.int .i64 0)))⟩])
 (.seq (.reg false [⟨some 5, none, .fld (.t 2) 140⟩,
 ⟨some 6, none, .load1 (.t 5)⟩,
 ⟨some 7, none, .mov (.t 1)⟩,
 ⟨some 8, none, .call 153 [.t 6, .t 7]⟩,
 ⟨some 1, none, .mov (.t 8)⟩])
 (.seq (.reg false [⟨some 9, none, .mov (.t 1)⟩,
 ⟨some 4, none, .mov (.t 9)⟩])
 (.ret (some [4])))))⟩
theorem c_laws_markSpace_ok : trF Try.prog ⟨[], [4], false, false⟩ Try.f109 = some c_laws_markSpace := by kernel_rfl
def c_laws_heldIntS_b0 : IC :=
  (.seq (.seq (.reg false [⟨some 6, none, .mov (.t 5)⟩,
 ⟨some 7, none, .mov (.t 0)⟩,
 ⟨some 8, none, .len (.t 7)⟩,
 ⟨some 9, none, .bin .lss (.t 6) (.t 8)⟩])
 (.cond (.t 9) .skip (.exit 0)))
 (.seq (.block 1 none none
 (.seq (.seq (.reg false [⟨some 12, none, .mov (.t 0)⟩,
 ⟨some 13, none, .mov (.t 5)⟩,
 ⟨some 14, none, .ixs (.t 12) (.t 13) 1⟩,
 ⟨some 15, none, .load1 (.t 14)⟩,
 ⟨some 16, none, .mov (.t 1)⟩,
 ⟨some 17, none, .bin .neq (.t 15) (.t 16)⟩])
 (.cond (.t 17) (.seq (.reg false [⟨some 4, none, .mov (.k (.c (.int .i64 (-1))))⟩])
 (.ret (some [4]))) .skip))
 (.reg false [⟨some 18, none, .mov (.t 1)⟩,
 ⟨some 19, none, .bin .add (.t 18) (.k (.c (.int .i64 1)))⟩,
 ⟨some 1, none, .mov (.t 19)⟩])))
 (.reg false [⟨some 10, none, .mov (.t 5)⟩,
 ⟨some 11, none, .bin .add (.t 10) (.k (.c (.int .i64 1)))⟩,
 ⟨some 5, none, .mov (.t 11)⟩])))
def c_laws_heldIntS : IFn := ⟨21, [.t 4],
  (.seq (.reg false [⟨some 4, none, .mov (.k (.c (.int .i64 0)))⟩])
 (.seq (.seq (.reg false [⟨some 5, none, .mov (.k (.c (.int .i64 0)))⟩])
 (.block 0 (some [0, 1, 5]) (some [1])
 (.loop c_laws_heldIntS_b0)))
 (.seq (.reg false [⟨some 20, none, .mov (.t 1)⟩,
 ⟨some 4, none, .mov (.t 20)⟩])
 (.ret (some [4])))))⟩
theorem c_laws_heldIntS_ok : trF Try.prog ⟨[(0, [0, 1, 5], [1])], [4], false, false⟩ Try.f110 = some c_laws_heldIntS := by kernel_rfl
def c_laws_heldInstrSS_b0 : IC :=
  (.seq (.seq (.reg false [⟨some 6, none, .mov (.t 5)⟩,
 ⟨some 7, none, .mov (.t 0)⟩,
 ⟨some 8, none, .len (.t 7)⟩,
 ⟨some 9, none, .bin .lss (.t 6) (.t 8)⟩])
 (.cond (.t 9) .skip (.exit 0)))
 (.seq (.block 1 none none
 (.seq (.reg false [⟨some 12, none, .mov (.t 0)⟩,
 ⟨some 13, none, .mov (.t 5)⟩,
 ⟨some 14, none, .ixs (.t 12) (.t 13) 1⟩,
 ⟨some 15, none, .load1 (.t 14)⟩,
 ⟨some 16, none, .mov (.t 1)⟩,
 ⟨some 17, none, .call 154 [.t 15, .t 16]⟩,
 ⟨some 1, none, .mov (.t 17)⟩])
 (.seq (.reg false [⟨some 18, none, .mov (.t 1)⟩,
 ⟨some 19, none, .bin .lss (.t 18) (.k (.c (.int .i64 0)))⟩])
 (.cond (.t 19) (.seq (.reg false [⟨some 4, none, .mov (.k (.c (.int .i64 (-1))))⟩])
 (.ret (some [4]))) .skip))))
 (.reg false [⟨some 10, none, .mov (.t 5)⟩,
 ⟨some 11, none, .bin .add (.t 10) (.k (.c (.int .i64 1)))⟩,
 ⟨some 5, none, .mov (.t 11)⟩])))
def c_laws_heldInstrSS : IFn := ⟨21, [.t 4],
  (.seq (.reg false [⟨some 4, none, .mov (.k (.c (.int .i64 0)))⟩])
 (.seq (.seq (.reg false [⟨some 5, none, .mov (.k (.c (.int .i64 0)))⟩])
 (.block 0 (some [0, 1, 5]) (some [1])
 (.loop c_laws_heldInstrSS_b0)))
 (.seq (.reg false [⟨some 20, none, .mov (.t 1)⟩,
 ⟨some 4, none, .mov (.t 20)⟩])
 (.ret (some [4])))))⟩
theorem c_laws_heldInstrSS_ok : trF Try.prog ⟨[(0, [0, 1, 5], [1])], [4], false, false⟩ Try.f111 = some c_laws_heldInstrSS := by kernel_rfl
def c_laws_heldWorld : IFn := ⟨30, [.t 4],
  (.seq (.reg false [⟨some 2, none, .box (.t 0) 112⟩,
 ⟨some 4, none, .mov (.k (.c (.int .i64 0)))⟩])
 (.seq (.reg false [⟨some 5, none, .fld (.t 2) 0⟩,
 ⟨some 6, none, .load1 (.t 5)⟩,
 ⟨some 7, none, .mov (.t 1)⟩,
 ⟨some 8, none, .call 110 [.t 6, .t 7]⟩,
 ⟨some 1, none, .mov (.t 8)⟩])
 (.seq (.seq (.reg false [⟨some 9, none, .mov (.t 1)⟩,
 ⟨some 10, none, .bin .lss (.t 9) (.k (.c (.int .i64 0)))⟩])
 (.cond (.t 10) (.seq (.reg false [⟨some 4, none, .mov (.k (.c (.int .i64 (-1))))⟩])
 (.ret (some [4]))) .skip))
 (.seq (.reg false [⟨some 11, none, .fld (.t 2) 1⟩,
 ⟨some 12, none, .loadN (.t 11) 2⟩,
 ⟨some 13, none, .mov (.t 1)⟩,
 ⟨some 14, none, .call 155 [.t 12, .t 13]⟩,
 ⟨some 1, none, .mov (.t 14)⟩])
 (.seq (.seq (.reg false [⟨some 15, none, .mov (.t 1)⟩,
 ⟨some 16, none, .bin .lss (.t 15) (.k (.c (.int .i64 0)))⟩])
 (.cond (.t 16) (.seq (.reg false [⟨some 4, none, .mov (.k (.c (.int .i64 (-1))))⟩])
 (.ret (some [4]))) .skip))
 (.seq (.reg false [⟨some 17, none, .fld (.t 2) 3⟩,
 ⟨some 18, none, .load1 (.t 17)⟩,
 ⟨some 19, none, .mov (.t 1)⟩,
 ⟨some 20, none, .call 156 [.t 18, .t 19]⟩,
 ⟨some 1, none, .mov (.t 20)⟩])
 (.seq (.seq (.reg false [⟨some 21, none, .mov (.t 1)⟩,
 ⟨some 22, none, .bin .lss (.t 21) (.k (.c (.int .i64 0)))⟩])
 (.cond (.t 22) (.seq (.reg false [⟨some 4, none, .mov (.k (.c (.int .i64 (-1))))⟩])
 (.ret (some [4]))) .skip))
 (.seq (.reg false [⟨some 23, none, .fld (.t 2) 4⟩,
 ⟨some 24, none, .load1 (.t 23)⟩,
 ⟨some 25, none, .mov (.t 1)⟩,
 ⟨some 26, none, .call 157 [.t 24, .t 25]⟩,
 ⟨some 1, none, .mov (.t 26)⟩])
 (.seq (.seq (.reg false [⟨some 27, none, .mov (.t 1)⟩,
 ⟨some 28, none, .bin .lss (.t 27) (.k (.c (.int .i64 0)))⟩])
 (.cond (.t 28) (.seq (.reg false [⟨some 4, none, .mov (.k (.c (.int .i64 (-1))))⟩])
 (.ret (some [4]))) .skip))
 (.seq (.reg false [⟨some 29, none, .mov (.t 1)⟩,
 ⟨some 4, none, .mov (.t 29)⟩])
 (.ret (some [4]))))))))))))⟩
theorem c_laws_heldWorld_ok : trF Try.prog ⟨[], [4], false, false⟩ Try.f112 = some c_laws_heldWorld := by kernel_rfl
def c_laws_heldSpace : IFn := ⟨12, [.t 4],
  (.seq (.reg false [⟨some 2, none, .box (.t 0) 91⟩,
 ⟨some 4, none, .mov (.k (.c (.int .i64 0)))⟩])
 (.seq (.reg false [⟨some 5, none, .fld (.t 2) 140⟩,
 ⟨some 6, none, .load1 (.t 5)⟩,
 ⟨some 7, none, .mov (.t 1)⟩,
 ⟨some 8, none, .call 158 [.t 6, .t 7]⟩,
 ⟨some 1, none, .mov (.t 8)⟩])
 (.seq (.seq (.reg false [⟨some 9, none, .mov (.t 1)⟩,
 ⟨some 10, none, .bin .lss (.t 9) (.k (.c (.int .i64 0)))⟩])
 (.cond (.t 10) (.seq (.reg false [⟨some 4, none, .mov (.k (.c (.int .i64 (-1))))⟩])
 (.ret (some [4]))) .skip))
 (.seq (.reg false [⟨some 11, none, .mov (.t 1)⟩,
 ⟨some 4, none, .mov (.t 11)⟩])
 (.ret (some [4]))))))⟩
theorem c_laws_heldSpace_ok : trF Try.prog ⟨[], [4], false, false⟩ Try.f113 = some c_laws_heldSpace := by kernel_rfl
def c_spec_l1Below : IFn := ⟨37, [.t 4],
  (.seq (.reg false [⟨some 4, none, .mov (.k (.c (.int .i64 0)))⟩])
 (.seq (.seq (.reg false [⟨some 9, none, .mov (.t 1)⟩,
 ⟨some 10, none, .bin .leq (.t 9) (.k (.c (.int .i64 0)))⟩])
 (.cond (.t 10) (.seq (.reg false [⟨some 4, none, .mov (.k (.c (.int .i64 0)))⟩])
 (.ret (some [4]))) .skip))
 (.seq (.seq (.reg false [⟨some 11, none, .mov (.t 1)⟩,
 ⟨some 12, none, .bin .leq (.t 11) (.k (.c (.int .i64 256)))⟩])
 (.cond (.t 12) (.seq (.reg false [⟨some 13, none, .mov (.t 0)⟩,
 ⟨some 14, none, .call 159 [.t 13]⟩,
 ⟨some 15, none, .mov (.t 1)⟩,
 ⟨some 16, none, .bin .rem (.t 14) (.t 15)⟩,
 ⟨some 4, none, .mov (.t 16)⟩])
 (.ret (some [4]))) .skip))
 (.seq (.reg false [⟨some 17, none, .mov (.t 0)⟩,
 ⟨some 18, none, .call 159 [.t 17]⟩,
 ⟨some 5, none, .mov (.t 18)⟩])
 (.seq (.reg false [⟨some 19, none, .mov (.t 0)⟩,
 ⟨some 20, none, .call 159 [.t 19]⟩,
 ⟨some 6, none, .mov (.t 20)⟩])
 (.seq (.reg false [⟨some 21, none, .mov (.t 0)⟩,
 ⟨some 22, none, .call 159 [.t 21]⟩,
 ⟨some 7, none, .mov (.t 22)⟩])
 (.seq (.reg false [⟨some 23, none, .mov (.t 0)⟩,
 ⟨some 24, none, .call 159 [.t 23]⟩,
 ⟨some 8, none, .mov (.t 24)⟩])
 (.seq (.reg false [⟨some 25, none, .mov (.t 5)⟩,
 ⟨some 26, none, .bin .mul (.t 25) (.k (.c (.int .i64 16777216)))⟩,
 ⟨some 27, none, .mov (.t 6)⟩,
 ⟨some 28, none, .bin .mul (.t 27) (.k (.c (.int .i64 65536)))⟩,
 ⟨some 29, none, .bin .add (.t 26) (.t 28)⟩,
 ⟨some 30, none, .mov (.t 7)⟩,
 ⟨some 31, none, .bin .mul (.t 30) (.k (.c (.int .i64 256)))⟩,
 ⟨some 32, none, .bin .add (.t 29) (.t 31)⟩,
 ⟨some 33, none, .mov (.t 8)⟩,
 ⟨some 34, none, .bin .add (.t 32) (.t 33)⟩,
 ⟨some 35, none, .mov (.t 1)⟩,
 ⟨some 36, none, .bin .rem (.t 34) (.t 35)⟩,
 ⟨some 4, none, .mov (.t 36)⟩])
 (.ret (some [4]))))))))))⟩
theorem c_spec_l1Below_ok : trF Try.prog ⟨[], [4], false, false⟩ Try.f114 = some c_spec_l1Below := by kernel_rfl
def c_spec_l1Once : IFn := ⟨9, [.t 4],
  (.seq (.reg false [⟨some 4, none, .mov (.k (.c (.bool false)))⟩])
 (.seq (.reg false [⟨some 5, none, .mov (.t 0)⟩,
 ⟨some 6, none, .mov (.t 1)⟩,
 ⟨some 7, none, .call 114 [.t 5, .t 6]⟩,
 ⟨some 8, none, .bin .eql (.t 7) (.k (.c (.int .i64 0)))⟩,
 ⟨some 4, none, .mov (.t 8)⟩])
 (.ret (some [4]))))⟩
theorem c_spec_l1Once_ok : trF Try.prog ⟨[], [4], false, false⟩ Try.f115 = some c_spec_l1Once := by kernel_rfl
def c_slices_ContainsFunc_int_int : IFn := ⟨9, [.t 4],
  (.seq (.reg false [⟨some 4, none, .mov (.k (.c (.bool false)))⟩])
 (.seq (.reg false [⟨some 5, none, .mov (.t 0)⟩,
 ⟨some 6, none, .mov (.t 1)⟩,
 ⟨some 7, none, .call 144 [.t 5, .t 6]⟩,
 ⟨some 8, none, .bin .geq (.t 7) (.k (.c (.int .i64 0)))⟩,
 ⟨some 4, none, .mov (.t 8)⟩])
 (.ret (some [4]))))⟩
theorem c_slices_ContainsFunc_int_int_ok : trF Try.prog ⟨[], [4], false, false⟩ Try.f118 = some c_slices_ContainsFunc_int_int := by kernel_rfl
def c_impl_areValues_1 : IFn := ⟨6, [.t 2],
  (.seq (.reg false [⟨some 2, none, .mov (.k (.c (.bool false)))⟩])
 (.seq (.reg false [⟨some 3, none, .mov (.t 0)⟩,
 ⟨some 4, none, .call 62 [.t 3]⟩,
 ⟨some 5, none, .un .not (.t 4)⟩,
 ⟨some 2, none, .mov (.t 5)⟩])
 (.ret (some [2]))))⟩
theorem c_impl_areValues_1_ok : trF Try.prog ⟨[], [2], false, false⟩ Try.f119 = some c_impl_areValues_1 := by kernel_rfl
def c_spec_l15Keys : IFn := ⟨65, [.t 6, .t 7],
  (.seq (.reg false [⟨some 3, none, .box (.t 0) 47⟩,
 ⟨some 6, none, .mov (.k (.c .nils))⟩,
 ⟨some 7, none, .mov (.k (.c (.bool false)))⟩])
 (.seq (.seq (.reg false [⟨some 10, none, .mov (.t 1)⟩,
 ⟨some 11, none, .bin .eql (.t 10) (.k (.c (.int .i64 (-1))))⟩])
 (.cond (.t 11) (.seq (.reg false [⟨some 12, none, .mov (.t 2)⟩,
 ⟨some 6, none, .mov (.t 12)⟩,
 ⟨some 7, none, .mov (.k (.c (.bool true)))⟩])
 (.ret (some [6, 7]))) .skip))
 (.seq (.seq (.reg false [⟨some 13, none, .mov (.t 1)⟩,
 ⟨some 14, none, .call 121 [.t 13, .k (.c (.int .i64 0)), .k (.c (.int .i64 15))]⟩,
 ⟨some 15, none, .un .not (.t 14)⟩,
 ⟨some 16, none, .mov (.t 15)⟩,
 ⟨some 17, some (16, false), .mov (.t 1)⟩,
 ⟨some 18, some (16, false), .fld (.t 3) 0⟩,
 ⟨some 19, some (16, false), .ixa (.t 18) (.t 17) 16 4⟩,
 ⟨some 20, some (16, false), .fld (.t 19) 0⟩,
 ⟨some 21, some (16, false), .load1 (.t 20)⟩,
 ⟨some 22, some (16, false), .un .not (.t 21)⟩,
 ⟨some 23, none, .pick (.t 16) (.k (.c (.bool true))) (.t 22)⟩,
 ⟨some 24, none, .mov (.t 23)⟩,
 ⟨some 25, some (24, false), .mov (.t 2)⟩,
 ⟨some 26, some (24, false), .len (.t 25)⟩,
 ⟨some 27, some (24, false), .bin .geq (.t 26) (.k (.c (.int .i64 16)))⟩,
 ⟨some 28, none, .pick (.t 24) (.k (.c (.bool true))) (.t 27)⟩])
 (.cond (.t 28) (.seq (.reg false [⟨some 29, none, .mov (.t 2)⟩,
 ⟨some 6, none, .mov (.t 29)⟩,
 ⟨some 7, none, .mov (.k (.c (.bool false)))⟩])
 (.ret (some [6, 7]))) .skip))
 (.seq (.reg false [⟨some 30, none, .mov (.t 1)⟩,
 ⟨some 31, none, .fld (.t 3) 0⟩,
 ⟨some 32, none, .ixa (.t 31) (.t 30) 16 4⟩,
 ⟨some 33, none, .loadN (.t 32) 4⟩,
 ⟨some 8, none, .alloc [.bool false, .int .i64 0, .int .i64 0, .int .i64 0] 44⟩,
 ⟨none, none, .store (.t 8) (.t 33) 4⟩])
 (.seq (.reg false [⟨some 34, none, .mov (.t 1)⟩,
 ⟨some 35, none, .bld [.bool false, .int .i64 0, .int .i64 0, .int .i64 0] []⟩,
 ⟨some 36, none, .fld (.t 3) 0⟩,
 ⟨some 37, none, .ixa (.t 36) (.t 34) 16 4⟩,
 ⟨none, none, .store (.t 37) (.t 35) 4⟩])
 (.seq (.reg false [⟨some 39, none, .loadN (.t 3) 65⟩,
 ⟨some 40, none, .fld (.t 8) 2⟩,
 ⟨some 41, none, .load1 (.t 40)⟩,
 ⟨some 42, none, .mov (.t 2)⟩,
 ⟨some 43, none, .call 120 [.t 39, .t 41, .t 42]⟩,
 ⟨some 38, none, .mov (.t 43)⟩,
 ⟨some 44, none, .ext (.t 38) 0⟩,
 ⟨some 45, none, .ext (.t 38) 1⟩,
 ⟨some 2, none, .mov (.t 44)⟩,
 ⟨some 9, none, .mov (.t 45)⟩])
 (.seq (.seq (.reg false [⟨some 46, none, .mov (.t 9)⟩,
 ⟨some 47, none, .un .not (.t 46)⟩,
 ⟨some 48, none, .mov (.t 47)⟩,
 ⟨some 49, some (48, false), .mov (.t 2)⟩,
 ⟨some 50, some (48, false), .len (.t 49)⟩,
 ⟨some 51, some (48, false), .bin .geq (.t 50) (.k (.c (.int .i64 16)))⟩,
 ⟨some 52, none, .pick (.t 48) (.k (.c (.bool true))) (.t 51)⟩])
 (.cond (.t 52) (.seq (.reg false [⟨some 53, none, .mov (.t 2)⟩,
 ⟨some 6, none, .mov (.t 53)⟩,
 ⟨some 7, none, .mov (.k (.c (.bool false)))⟩])
 (.ret (some [6, 7]))) .skip))
 (.seq (.reg false [⟨some 54, none, .mov (.t 2)⟩,
 ⟨some 55, none, .mov (.t 1)⟩,
 ⟨some 56, none, .lit 1 1 [.int .i64 0] [(0, .t 55)] 3⟩,
 ⟨some 57, none, .app (.t 54) (.t 56) 3 1 8⟩,
 ⟨some 2, none, .mov (.t 57)⟩])
 (.seq (.reg false [⟨some 58, none, .loadN (.t 3) 65⟩,
 ⟨some 59, none, .fld (.t 8) 3⟩,
 ⟨some 60, none, .load1 (.t 59)⟩,
 ⟨some 61, none, .mov (.t 2)⟩,
 ⟨some 62, none, .call 120 [.t 58, .t 60, .t 61]⟩,
 ⟨some 63, none, .ext (.t 62) 0⟩,
 ⟨some 64, none, .ext (.t 62) 1⟩,
 ⟨some 6, none, .mov (.t 63)⟩,
 ⟨some 7, none, .mov (.t 64)⟩])
 (.ret (some [6, 7])))))))))))⟩
theorem c_spec_l15Keys_ok : trF Try.prog ⟨[], [6, 7], false, false⟩ Try.f120 = some c_spec_l15Keys := by kernel_rfl
def c_spec_l1In : IFn := ⟨15, [.t 6],
  (.seq (.reg false [⟨some 6, none, .mov (.k (.c (.bool false)))⟩])
 (.seq (.reg false [⟨some 7, none, .mov (.t 0)⟩,
 ⟨some 8, none, .mov (.t 1)⟩,
 ⟨some 9, none, .bin .geq (.t 7) (.t 8)⟩,
 ⟨some 10, none, .mov (.t 9)⟩,
 ⟨some 11, some (10, true), .mov (.t 0)⟩,
 ⟨some 12, some (10, true), .mov (.t 2)⟩,
 ⟨some 13, some (10, true), .bin .leq (.t 11) (.t 12)⟩,
 ⟨some 14, none, .pick (.t 10) (.t 13) (.k (.c (.bool false)))⟩,
 ⟨some 6, none, .mov (.t 14)⟩])
 (.ret (some [6]))))⟩
theorem c_spec_l1In_ok : trF Try.prog ⟨[], [6], false, false⟩ Try.f121 = some c_spec_l1In := by kernel_rfl
def c_laws_toTwig : IFn := ⟨17, [.cell 2 4 true],
  (.seq (.reg false [⟨some 1, none, .box (.t 0) 40⟩,
 ⟨some 2, none, .alloc [.bool false, .int .i64 0, .int .i64 0, .int .i64 0] 44⟩])
 (.seq (.reg false [⟨some 3, none, .alloc [.bool false, .int .i64 0, .int .i64 0, .int .i64 0] 44⟩])
 (.seq (.reg false [⟨some 4, none, .fld (.t 1) 0⟩,
 ⟨some 5, none, .load1 (.t 4)⟩,
 ⟨some 6, none, .fld (.t 3) 0⟩,
 ⟨none, none, .store (.t 6) (.t 5) 1⟩])
 (.seq (.reg false [⟨some 7, none, .fld (.t 1) 1⟩,
 ⟨some 8, none, .load1 (.t 7)⟩,
 ⟨some 9, none, .fld (.t 3) 1⟩,
 ⟨none, none, .store (.t 9) (.t 8) 1⟩])
 (.seq (.reg false [⟨some 10, none, .fld (.t 1) 2⟩,
 ⟨some 11, none, .load1 (.t 10)⟩,
 ⟨some 12, none, .fld (.t 3) 2⟩,
 ⟨none, none, .store (.t 12) (.t 11) 1⟩])
 (.seq (.reg false [⟨some 13, none, .fld (.t 1) 3⟩,
 ⟨some 14, none, .load1 (.t 13)⟩,
 ⟨some 15, none, .fld (.t 3) 3⟩,
 ⟨none, none, .store (.t 15) (.t 14) 1⟩])
 (.seq (.reg false [⟨some 16, none, .loadN (.t 3) 4⟩,
 ⟨none, none, .store (.t 2) (.t 16) 4⟩])
 (.ret (some [2])))))))))⟩
theorem c_laws_toTwig_ok : trF Try.prog ⟨[], [2], false, false⟩ Try.f122 = some c_laws_toTwig := by kernel_rfl
def c_laws_eqTwig : IFn := ⟨25, [.t 4],
  (.seq (.reg false [⟨some 2, none, .box (.t 0) 44⟩,
 ⟨some 3, none, .box (.t 1) 44⟩,
 ⟨some 4, none, .mov (.k (.c (.bool false)))⟩])
 (.seq (.seq (.reg false [⟨some 5, none, .fld (.t 2) 0⟩,
 ⟨some 6, none, .load1 (.t 5)⟩,
 ⟨some 7, none, .fld (.t 3) 0⟩,
 ⟨some 8, none, .load1 (.t 7)⟩,
 ⟨some 9, none, .binb true (.t 6) (.t 8)⟩])
 (.cond (.t 9) (.seq (.reg false [⟨some 4, none, .mov (.k (.c (.bool false)))⟩])
 (.ret (some [4]))) .skip))
 (.seq (.seq (.reg false [⟨some 10, none, .fld (.t 2) 1⟩,
 ⟨some 11, none, .load1 (.t 10)⟩,
 ⟨some 12, none, .fld (.t 3) 1⟩,
 ⟨some 13, none, .load1 (.t 12)⟩,
 ⟨some 14, none, .bin .neq (.t 11) (.t 13)⟩])
 (.cond (.t 14) (.seq (.reg false [⟨some 4, none, .mov (.k (.c (.bool false)))⟩])
 (.ret (some [4]))) .skip))
 (.seq (.seq (.reg false [⟨some 15, none, .fld (.t 2) 2⟩,
 ⟨some 16, none, .load1 (.t 15)⟩,
 ⟨some 17, none, .fld (.t 3) 2⟩,
 ⟨some 18, none, .load1 (.t 17)⟩,
 ⟨some 19, none, .bin .neq (.t 16) (.t 18)⟩])
 (.cond (.t 19) (.seq (.reg false [⟨some 4, none, .mov (.k (.c (.bool false)))⟩])
 (.ret (some [4]))) .skip))
 (.seq (.seq (.reg false [⟨some 20, none, .fld (.t 2) 3⟩,
 ⟨some 21, none, .load1 (.t 20)⟩,
 ⟨some 22, none, .fld (.t 3) 3⟩,
 ⟨some 23, none, .load1 (.t 22)⟩,
 ⟨some 24, none, .bin .neq (.t 21) (.t 23)⟩])
 (.cond (.t 24) (.seq (.reg false [⟨some 4, none, .mov (.k (.c (.bool false)))⟩])
 (.ret (some [4]))) .skip))
 (.seq (.reg false [⟨some 4, none, .mov (.k (.c (.bool true)))⟩])
 (.ret (some [4]))))))))⟩
theorem c_laws_eqTwig_ok : trF Try.prog ⟨[], [4], false, false⟩ Try.f123 = some c_laws_eqTwig := by kernel_rfl
def c_spec_NewChain : IFn := ⟨2, [.cell 0 65 true],
  (.seq (.reg false [⟨some 0, none, .alloc [.bool false, .int .i64 0, .int .i64 0, .int .i64 0, .bool false, .int .i64 0, .int .i64 0, .int .i64 0, .bool false, .int .i64 0, .int .i64 0, .int .i64 0, .bool false, .int .i64 0, .int .i64 0, .int .i64 0, .bool false, .int .i64 0, .int .i64 0, .int .i64 0, .bool false, .int .i64 0, .int .i64 0, .int .i64 0, .bool false, .int .i64 0, .int .i64 0, .int .i64 0, .bool false, .int .i64 0, .int .i64 0, .int .i64 0, .bool false, .int .i64 0, .int .i64 0, .int .i64 0, .bool false, .int .i64 0, .int .i64 0, .int .i64 0, .bool false, .int .i64 0, .int .i64 0, .int .i64 0, .bool false, .int .i64 0, .int .i64 0, .int .i64 0, .bool false, .int .i64 0, .int .i64 0, .int .i64 0, .bool false, .int .i64 0, .int .i64 0, .int .i64 0, .bool false, .int .i64 0, .int .i64 0, .int .i64 0, .bool false, .int .i64 0, .int .i64 0, .int .i64 0, .int .i64 0] 57⟩])
 (.seq (.reg false [⟨some 1, none, .bld [.bool false, .int .i64 0, .int .i64 0, .int .i64 0, .bool false, .int .i64 0, .int .i64 0, .int .i64 0, .bool false, .int .i64 0, .int .i64 0, .int .i64 0, .bool false, .int .i64 0, .int .i64 0, .int .i64 0, .bool false, .int .i64 0, .int .i64 0, .int .i64 0, .bool false, .int .i64 0, .int .i64 0, .int .i64 0, .bool false, .int .i64 0, .int .i64 0, .int .i64 0, .bool false, .int .i64 0, .int .i64 0, .int .i64 0, .bool false, .int .i64 0, .int .i64 0, .int .i64 0, .bool false, .int .i64 0, .int .i64 0, .int .i64 0, .bool false, .int .i64 0, .int .i64 0, .int .i64 0, .bool false, .int .i64 0, .int .i64 0, .int .i64 0, .bool false, .int .i64 0, .int .i64 0, .int .i64 0, .bool false, .int .i64 0, .int .i64 0, .int .i64 0, .bool false, .int .i64 0, .int .i64 0, .int .i64 0, .bool false, .int .i64 0, .int .i64 0, .int .i64 0, .int .i64 0] [(64, (1, .k (.c (.int .i64 (-1)))))]⟩,
 ⟨none, none, .store (.t 0) (.t 1) 65⟩])
 (.ret (some [0]))))⟩
theorem c_spec_NewChain_ok : trF Try.prog ⟨[], [0], false, false⟩ Try.f124 = some c_spec_NewChain := by kernel_rfl
def c_spec_NewTree : IFn := ⟨2, [.cell 0 65 true],
  (.seq (.reg false [⟨some 0, none, .alloc [.bool false, .int .i64 0, .int .i64 0, .int .i64 0, .bool false, .int .i64 0, .int .i64 0, .int .i64 0, .bool false, .int .i64 0, .int .i64 0, .int .i64 0, .bool false, .int .i64 0, .int .i64 0, .int .i64 0, .bool false, .int .i64 0, .int .i64 0, .int .i64 0, .bool false, .int .i64 0, .int .i64 0, .int .i64 0, .bool false, .int .i64 0, .int .i64 0, .int .i64 0, .bool false, .int .i64 0, .int .i64 0, .int .i64 0, .bool false, .int .i64 0, .int .i64 0, .int .i64 0, .bool false, .int .i64 0, .int .i64 0, .int .i64 0, .bool false, .int .i64 0, .int .i64 0, .int .i64 0, .bool false, .int .i64 0, .int .i64 0, .int .i64 0, .bool false, .int .i64 0, .int .i64 0, .int .i64 0, .bool false, .int .i64 0, .int .i64 0, .int .i64 0, .bool false, .int .i64 0, .int .i64 0, .int .i64 0, .bool false, .int .i64 0, .int .i64 0, .int .i64 0, .int .i64 0] 47⟩])
 (.seq (.reg false [⟨some 1, none, .bld [.bool false, .int .i64 0, .int .i64 0, .int .i64 0, .bool false, .int .i64 0, .int .i64 0, .int .i64 0, .bool false, .int .i64 0, .int .i64 0, .int .i64 0, .bool false, .int .i64 0, .int .i64 0, .int .i64 0, .bool false, .int .i64 0, .int .i64 0, .int .i64 0, .bool false, .int .i64 0, .int .i64 0, .int .i64 0, .bool false, .int .i64 0, .int .i64 0, .int .i64 0, .bool false, .int .i64 0, .int .i64 0, .int .i64 0, .bool false, .int .i64 0, .int .i64 0, .int .i64 0, .bool false, .int .i64 0, .int .i64 0, .int .i64 0, .bool false, .int .i64 0, .int .i64 0, .int .i64 0, .bool false, .int .i64 0, .int .i64 0, .int .i64 0, .bool false, .int .i64 0, .int .i64 0, .int .i64 0, .bool false, .int .i64 0, .int .i64 0, .int .i64 0, .bool false, .int .i64 0, .int .i64 0, .int .i64 0, .bool false, .int .i64 0, .int .i64 0, .int .i64 0, .int .i64 0] [(64, (1, .k (.c (.int .i64 (-1)))))]⟩,
 ⟨none, none, .store (.t 0) (.t 1) 65⟩])
 (.ret (some [0]))))⟩
theorem c_spec_NewTree_ok : trF Try.prog ⟨[], [0], false, false⟩ Try.f127 = some c_spec_NewTree := by kernel_rfl
def c_laws_szIntS : IFn := ⟨12, [.t 4],
  (.seq (.reg false [⟨some 4, none, .mov (.k (.c (.int .i64 0)))⟩])
 (.seq (.reg false [⟨some 5, none, .mov (.t 1)⟩,
 ⟨some 6, none, .mov (.t 0)⟩,
 ⟨some 7, none, .len (.t 6)⟩,
 ⟨some 8, none, .bin .sub (.t 5) (.t 7)⟩,
 ⟨some 1, none, .mov (.t 8)⟩])
 (.seq (.seq (.reg false [⟨some 9, none, .mov (.t 1)⟩,
 ⟨some 10, none, .bin .lss (.t 9) (.k (.c (.int .i64 0)))⟩])
 (.cond (.t 10) (.seq (.reg false [⟨some 4, none, .mov (.k (.c (.int .i64 (-1))))⟩])
 (.ret (some [4]))) .skip))
 (.seq (.reg false [⟨some 11, none, .mov (.t 1)⟩,
 ⟨some 4, none, .mov (.t 11)⟩])
 (.ret (some [4]))))))⟩
theorem c_laws_szIntS_ok : trF Try.prog ⟨[], [4], false, false⟩ Try.f129 = some c_laws_szIntS := by kernel_rfl
def c_spec_l16Place : IFn := ⟨12, [.t 4],
  (.seq (.reg false [⟨some 4, none, .mov (.k (.c (.int .i64 0)))⟩])
 (.seq (.reg false [⟨some 5, none, .mov (.t 0)⟩,
 ⟨some 6, none, .mov (.t 1)⟩,
 ⟨some 7, none, .bin .rem (.t 5) (.t 6)⟩,
 ⟨some 8, none, .mov (.t 1)⟩,
 ⟨some 9, none, .bin .add (.t 7) (.t 8)⟩,
 ⟨some 10, none, .mov (.t 1)⟩,
 ⟨some 11, none, .bin .rem (.t 9) (.t 10)⟩,
 ⟨some 4, none, .mov (.t 11)⟩])
 (.ret (some [4]))))⟩
theorem c_spec_l16Place_ok : trF Try.prog ⟨[], [4], false, false⟩ Try.f130 = some c_spec_l16Place := by kernel_rfl
def c_laws_toNodeA16_b0 : IC :=
  (.seq (.seq (.reg false [⟨some 5, none, .mov (.t 4)⟩,
 ⟨some 6, none, .bin .lss (.t 5) (.k (.c (.int .i64 16)))⟩])
 (.cond (.t 6) .skip (.exit 0)))
 (.seq (.block 1 none none
 (.reg false [⟨some 9, none, .mov (.t 4)⟩,
 ⟨some 10, none, .mov (.t 4)⟩,
 ⟨some 11, none, .ixa (.t 1) (.t 10) 16 4⟩,
 ⟨some 12, none, .loadN (.t 11) 4⟩,
 ⟨some 13, none, .call 161 [.t 12]⟩,
 ⟨some 14, none, .ixa (.t 3) (.t 9) 16 4⟩,
 ⟨none, none, .store (.t 14) (.t 13) 4⟩]))
 (.reg false [⟨some 7, none, .mov (.t 4)⟩,
 ⟨some 8, none, .bin .add (.t 7) (.k (.c (.int .i64 1)))⟩,
 ⟨some 4, none, .mov (.t 8)⟩])))
def c_laws_toNodeA16 : IFn := ⟨16, [.cell 2 64 true],
  (.seq (.reg false [⟨some 1, none, .box (.t 0) 81⟩,
 ⟨some 2, none, .alloc [.bool false, .int .i64 0, .int .i64 0, .int .i64 0, .bool false, .int .i64 0, .int .i64 0, .int .i64 0, .bool false, .int .i64 0, .int .i64 0, .int .i64 0, .bool false, .int .i64 0, .int .i64 0, .int .i64 0, .bool false, .int .i64 0, .int .i64 0, .int .i64 0, .bool false, .int .i64 0, .int .i64 0, .int .i64 0, .bool false, .int .i64 0, .int .i64 0, .int .i64 0, .bool false, .int .i64 0, .int .i64 0, .int .i64 0, .bool false, .int .i64 0, .int .i64 0, .int .i64 0, .bool false, .int .i64 0, .int .i64 0, .int .i64 0, .bool false, .int .i64 0, .int .i64 0, .int .i64 0, .bool false, .int .i64 0, .int .i64 0, .int .i64 0, .bool false, .int .i64 0, .int .i64 0, .int .i64 0, .bool false, .int .i64 0, .int .i64 0, .int .i64 0, .bool false, .int .i64 0, .int .i64 0, .int .i64 0, .bool false, .int .i64 0, .int .i64 0, .int .i64 0] 55⟩])
 (.seq (.reg false [⟨some 3, none, .alloc [.bool false, .int .i64 0, .int .i64 0, .int .i64 0, .bool false, .int .i64 0, .int .i64 0, .int .i64 0, .bool false, .int .i64 0, .int .i64 0, .int .i64 0, .bool false, .int .i64 0, .int .i64 0, .int .i64 0, .bool false, .int .i64 0, .int .i64 0, .int .i64 0, .bool false, .int .i64 0, .int .i64 0, .int .i64 0, .bool false, .int .i64 0, .int .i64 0, .int .i64 0, .bool false, .int .i64 0, .int .i64 0, .int .i64 0, .bool false, .int .i64 0, .int .i64 0, .int .i64 0, .bool false, .int .i64 0, .int .i64 0, .int .i64 0, .bool false, .int .i64 0, .int .i64 0, .int .i64 0, .bool false, .int .i64 0, .int .i64 0, .int .i64 0, .bool false, .int .i64 0, .int .i64 0, .int .i64 0, .bool false, .int .i64 0, .int .i64 0, .int .i64 0, .bool false, .int .i64 0, .int .i64 0, .int .i64 0, .bool false, .int .i64 0, .int .i64 0, .int .i64 0] 55⟩])
 (.seq (.seq (.reg false [⟨some 4, none, .mov (.k (.c (.int .i64 0)))⟩])
 (.block 0 (some [1, 2, 3, 4]) (some [2, 3])
 (.loop c_laws_toNodeA16_b0)))
 (.seq (.reg false [⟨some 15, none, .loadN (.t 3) 64⟩,
 ⟨none, none, .store (.t 2) (.t 15) 64⟩])
 (.ret (some [2]))))))⟩
theorem c_laws_toNodeA16_ok : trF Try.prog ⟨[(0, [1, 2, 3, 4], [2, 3])], [2], false, false⟩ Try.f131 = some c_laws_toNodeA16 := by kernel_rfl
def c_laws_toIntA8_b0 : IC :=
  (.seq (.seq (.reg false [⟨some 5, none, .mov (.t 4)⟩,
 ⟨some 6, none, .bin .lss (.t 5) (.k (.c (.int .i64 8)))⟩])
 (.cond (.t 6) .skip (.exit 0)))
 (.seq (.block 1 none none
 (.reg false [⟨some 9, none, .mov (.t 4)⟩,
 ⟨some 10, none, .mov (.t 4)⟩,
 ⟨some 11, none, .ixa (.t 1) (.t 10) 8 1⟩,
 ⟨some 12, none, .load1 (.t 11)⟩,
 ⟨some 13, none, .ixa (.t 3) (.t 9) 8 1⟩,
 ⟨none, none, .store (.t 13) (.t 12) 1⟩]))
 (.reg false [⟨some 7, none, .mov (.t 4)⟩,
 ⟨some 8, none, .bin .add (.t 7) (.k (.c (.int .i64 1)))⟩,
 ⟨some 4, none, .mov (.t 8)⟩])))
def c_laws_toIntA8 : IFn := ⟨15, [.cell 2 8 true],
  (.seq (.reg false [⟨some 1, none, .box (.t 0) 24⟩,
 ⟨some 2, none, .alloc [.int .i64 0, .int .i64 0, .int .i64 0, .int .i64 0, .int .i64 0, .int .i64 0, .int .i64 0, .int .i64 0] 24⟩])
 (.seq (.reg false [⟨some 3, none, .alloc [.int .i64 0, .int .i64 0, .int .i64 0, .int .i64 0, .int .i64 0, .int .i64 0, .int .i64 0, .int .i64 0] 24⟩])
 (.seq (.seq (.reg false [⟨some 4, none, .mov (.k (.c (.int .i64 0)))⟩])
 (.block 0 (some [1, 2, 3, 4]) (some [2, 3])
 (.loop c_laws_toIntA8_b0)))
 (.seq (.reg false [⟨some 14, none, .loadN (.t 3) 8⟩,
 ⟨none, none, .store (.t 2) (.t 14) 8⟩])
 (.ret (some [2]))))))⟩
theorem c_laws_toIntA8_ok : trF Try.prog ⟨[(0, [1, 2, 3, 4], [2, 3])], [2], false, false⟩ Try.f132 = some c_laws_toIntA8 := by kernel_rfl
def c_laws_toIntS_b0 : IC :=
  (.seq (.seq (.reg false [⟨some 8, none, .mov (.t 4)⟩,
 ⟨some 9, none, .mov (.t 0)⟩,
 ⟨some 10, none, .len (.t 9)⟩,
 ⟨some 11, none, .bin .lss (.t 8) (.t 10)⟩])
 (.cond (.t 11) .skip (.exit 0)))
 (.seq (.block 1 none none
 (.reg false [⟨some 14, none, .mov (.t 3)⟩,
 ⟨some 15, none, .mov (.t 4)⟩,
 ⟨some 16, none, .mov (.t 0)⟩,
 ⟨some 17, none, .mov (.t 4)⟩,
 ⟨some 18, none, .ixs (.t 16) (.t 17) 1⟩,
 ⟨some 19, none, .load1 (.t 18)⟩,
 ⟨some 20, none, .ixs (.t 14) (.t 15) 1⟩,
 ⟨none, none, .store (.t 20) (.t 19) 1⟩]))
 (.reg false [⟨some 12, none, .mov (.t 4)⟩,
 ⟨some 13, none, .bin .add (.t 12) (.k (.c (.int .i64 1)))⟩,
 ⟨some 4, none, .mov (.t 13)⟩])))
def c_laws_toIntS : IFn := ⟨22, [.t 2],
  (.seq (.reg false [⟨some 2, none, .mov (.k (.c .nils))⟩])
 (.seq (.reg false [⟨some 5, none, .mov (.t 0)⟩,
 ⟨some 6, none, .len (.t 5)⟩,
 ⟨some 7, none, .mks (.t 6) [.int .i64 0] 3 8⟩,
 ⟨some 3, none, .mov (.t 7)⟩])
 (.seq (.seq (.reg false [⟨some 4, none, .mov (.k (.c (.int .i64 0)))⟩])
 (.block 0 (some [0, 3, 4]) (some [3])
 (.loop c_laws_toIntS_b0)))
 (.seq (.reg false [⟨some 21, none, .mov (.t 3)⟩,
 ⟨some 2, none, .mov (.t 21)⟩])
 (.ret (some [2]))))))⟩
theorem c_laws_toIntS_ok : trF Try.prog ⟨[(0, [0, 3, 4], [3])], [2], false, false⟩ Try.f133 = some c_laws_toIntS := by kernel_rfl
def c_laws_eqNodeA16_b0 : IC :=
  (.seq (.seq (.reg false [⟨some 6, none, .mov (.t 5)⟩,
 ⟨some 7, none, .bin .lss (.t 6) (.k (.c (.int .i64 16)))⟩])
 (.cond (.t 7) .skip (.exit 0)))
 (.seq (.block 1 none none
 (.seq (.reg true [⟨some 10, none, .mov (.t 5)⟩,
 ⟨some 11, none, .ixa (.t 2) (.t 10) 16 4⟩,
 ⟨some 12, none, .loadN (.t 11) 4⟩,
 ⟨some 13, none, .mov (.t 5)⟩,
 ⟨some 14, none, .ixa (.t 3) (.t 13) 16 4⟩,
 ⟨some 15, none, .loadN (.t 14) 4⟩,
 ⟨some 16, none, .call 162 [.t 12, .t 15]⟩,
 ⟨some 17, none, .un .not (.t 16)⟩])
 (.cond (.t 17) (.seq (.reg false [⟨some 4, none, .mov (.k (.c (.bool false)))⟩])
 (.ret (some [4]))) .skip)))
 (.reg false [⟨some 8, none, .mov (.t 5)⟩,
 ⟨some 9, none, .bin .add (.t 8) (.k (.c (.int .i64 1)))⟩,
 ⟨some 5, none, .mov (.t 9)⟩])))
def c_laws_eqNodeA16 : IFn := ⟨18, [.t 4],
  (.seq (.reg false [⟨some 2, none, .box (.t 0) 55⟩,
 ⟨some 3, none, .box (.t 1) 55⟩,
 ⟨some 4, none, .mov (.k (.c (.bool false)))⟩])
 (.seq (.seq (.reg false [⟨some 5, none, .mov (.k (.c (.int .i64 0)))⟩])
 (.block 0 (some [2, 3, 5]) (some [])
 (.loop c_laws_eqNodeA16_b0)))
 (.seq (.reg false [⟨some 4, none, .mov (.k (.c (.bool true)))⟩])
 (.ret (some [4])))))⟩
theorem c_laws_eqNodeA16_ok : trF Try.prog ⟨[(0, [2, 3, 5], [])], [4], false, false⟩ Try.f134 = some c_laws_eqNodeA16 := by kernel_rfl
def c_laws_eqIntA8_b0 : IC :=
  (.seq (.seq (.reg false [⟨some 6, none, .mov (.t 5)⟩,
 ⟨some 7, none, .bin .lss (.t 6) (.k (.c (.int .i64 8)))⟩])
 (.cond (.t 7) .skip (.exit 0)))
 (.seq (.block 1 none none
 (.seq (.reg true [⟨some 10, none, .mov (.t 5)⟩,
 ⟨some 11, none, .ixa (.t 2) (.t 10) 8 1⟩,
 ⟨some 12, none, .load1 (.t 11)⟩,
 ⟨some 13, none, .mov (.t 5)⟩,
 ⟨some 14, none, .ixa (.t 3) (.t 13) 8 1⟩,
 ⟨some 15, none, .load1 (.t 14)⟩,
 ⟨some 16, none, .bin .neq (.t 12) (.t 15)⟩])
 (.cond (.t 16) (.seq (.reg false [⟨some 4, none, .mov (.k (.c (.bool false)))⟩])
 (.ret (some [4]))) .skip)))
 (.reg false [⟨some 8, none, .mov (.t 5)⟩,
 ⟨some 9, none, .bin .add (.t 8) (.k (.c (.int .i64 1)))⟩,
 ⟨some 5, none, .mov (.t 9)⟩])))
def c_laws_eqIntA8 : IFn := ⟨17, [.t 4],
  (.seq (.reg false [⟨some 2, none, .box (.t 0) 24⟩,
 ⟨some 3, none, .box (.t 1) 24⟩,
 ⟨some 4, none, .mov (.k (.c (.bool false)))⟩])
 (.seq (.seq (.reg false [⟨some 5, none, .mov (.k (.c (.int .i64 0)))⟩])
 (.block 0 (some [2, 3, 5]) (some [])
 (.loop c_laws_eqIntA8_b0)))
 (.seq (.reg false [⟨some 4, none, .mov (.k (.c (.bool true)))⟩])
 (.ret (some [4])))))⟩
theorem c_laws_eqIntA8_ok : trF Try.prog ⟨[(0, [2, 3, 5], [])], [4], false, false⟩ Try.f135 = some c_laws_eqIntA8 := by kernel_rfl
def c_spec_NewSet : IFn := ⟨3, [.t 0],
  (.seq (.reg false [⟨some 0, none, .mov (.k (.c .nils))⟩])
 (.seq (.reg false [⟨some 1, none, .lit 0 1 [.int .i64 0] [] 3⟩,
 ⟨some 2, none, .lit 1 1 [.nils] [(0, .t 1)] 28⟩,
 ⟨some 0, none, .mov (.t 2)⟩])
 (.ret (some [0]))))⟩
theorem c_spec_NewSet_ok : trF Try.prog ⟨[], [0], false, false⟩ Try.f136 = some c_spec_NewSet := by kernel_rfl
def c_spec_SetDrop_b0 : IC :=
  (.seq (.seq (.reg false [⟨some 33, none, .mov (.t 8)⟩,
 ⟨some 34, none, .mov (.t 0)⟩,
 ⟨some 35, none, .mov (.t 7)⟩,
 ⟨some 36, none, .ixs (.t 34) (.t 35) 1⟩,
 ⟨some 37, none, .load1 (.t 36)⟩,
 ⟨some 38, none, .len (.t 37)⟩,
 ⟨some 39, none, .bin .lss (.t 33) (.t 38)⟩])
 (.cond (.t 39) .skip (.exit 0)))
 (.seq (.block 1 none none
 (.seq (.reg false [⟨some 42, none, .mov (.t 0)⟩,
 ⟨some 43, none, .mov (.t 7)⟩,
 ⟨some 44, none, .ixs (.t 42) (.t 43) 1⟩,
 ⟨some 45, none, .load1 (.t 44)⟩,
 ⟨some 46, none, .mov (.t 8)⟩,
 ⟨some 47, none, .ixs (.t 45) (.t 46) 1⟩,
 ⟨some 48, none, .load1 (.t 47)⟩,
 ⟨some 49, none, .mov (.t 1)⟩,
 ⟨some 50, none, .bin .neq (.t 48) (.t 49)⟩])
 (.cond (.t 50) (.regE 1 [⟨⟨some 51, none, .mov (.t 6)⟩, 0, 0, false, []⟩,
 ⟨⟨some 52, none, .mov (.t 7)⟩, 1, 0, false, []⟩,
 ⟨⟨some 53, none, .mov (.t 6)⟩, 2, 0, false, []⟩,
 ⟨⟨some 54, none, .mov (.t 7)⟩, 3, 0, false, []⟩,
 ⟨⟨some 55, none, .ixs (.t 53) (.t 54) 1⟩, 4, 0, false, []⟩,
 ⟨⟨some 56, none, .load1 (.t 55)⟩, 5, 0, false, []⟩,
 ⟨⟨some 57, none, .mov (.t 0)⟩, 6, 0, false, []⟩,
 ⟨⟨some 58, none, .mov (.t 7)⟩, 7, 0, false, []⟩,
 ⟨⟨some 59, none, .ixs (.t 57) (.t 58) 1⟩, 8, 0, false, []⟩,
 ⟨⟨some 60, none, .load1 (.t 59)⟩, 9, 0, false, []⟩,
 ⟨⟨some 61, none, .mov (.t 8)⟩, 10, 0, false, []⟩,
 ⟨⟨some 62, none, .ixs (.t 60) (.t 61) 1⟩, 11, 0, false, []⟩,
 ⟨⟨some 63, none, .load1 (.t 62)⟩, 12, 0, false, []⟩,
 ⟨⟨some 64, none, .lit 1 1 [.int .i64 0] [(0, .t 63)] 3⟩, 13, 0, false, [4, 5]⟩,
 ⟨⟨some 65, none, .app (.t 56) (.t 64) 3 1 8⟩, 14, 1, false, []⟩,
 ⟨⟨some 66, none, .ixs (.t 51) (.t 52) 1⟩, 15, 1, false, []⟩,
 ⟨⟨none, none, .store (.t 66) (.t 65) 1⟩, 16, 1, false, []⟩]) .skip)))
 (.reg false [⟨some 40, none, .mov (.t 8)⟩,
 ⟨some 41, none, .bin .add (.t 40) (.k (.c (.int .i64 1)))⟩,
 ⟨some 8, none, .mov (.t 41)⟩])))
def c_spec_SetDrop : IFn := ⟨68, [.t 4, .t 5],
  (.seq (.reg false [⟨some 4, none, .mov (.k (.c .nils))⟩,
 ⟨some 5, none, .mov (.k (.c (.int .i64 0)))⟩])
 (.seq (.reg false [⟨some 9, none, .mov (.t 0)⟩,
 ⟨some 10, none, .call 163 [.t 9]⟩,
 ⟨some 6, none, .mov (.t 10)⟩])
 (.seq (.seq (.reg false [⟨some 11, none, .mov (.t 0)⟩,
 ⟨some 12, none, .call 84 [.t 11]⟩,
 ⟨some 13, none, .un .not (.t 12)⟩,
 ⟨some 14, none, .mov (.t 13)⟩,
 ⟨some 15, some (14, false), .mov (.t 1)⟩,
 ⟨some 16, some (14, false), .call 66 [.t 15]⟩,
 ⟨some 17, some (14, false), .un .not (.t 16)⟩,
 ⟨some 18, none, .pick (.t 14) (.k (.c (.bool true))) (.t 17)⟩])
 (.cond (.t 18) (.seq (.reg false [⟨some 19, none, .mov (.t 6)⟩,
 ⟨some 4, none, .mov (.t 19)⟩,
 ⟨some 5, none, .mov (.k (.c (.int .i64 1)))⟩])
 (.ret (some [4, 5]))) .skip))
 (.seq (.seq (.reg false [⟨some 20, none, .mov (.t 0)⟩,
 ⟨some 21, none, .mov (.t 1)⟩,
 ⟨some 22, none, .call 164 [.t 20, .t 21]⟩,
 ⟨some 23, none, .un .not (.t 22)⟩])
 (.cond (.t 23) (.seq (.reg false [⟨some 24, none, .mov (.t 6)⟩,
 ⟨some 4, none, .mov (.t 24)⟩,
 ⟨some 5, none, .mov (.k (.c (.int .i64 4)))⟩])
 (.ret (some [4, 5]))) .skip))
 (.seq (.reg false [⟨some 25, none, .mov (.t 1)⟩,
 ⟨some 26, none, .mov (.t 0)⟩,
 ⟨some 27, none, .len (.t 26)⟩,
 ⟨some 28, none, .call 130 [.t 25, .t 27]⟩,
 ⟨some 7, none, .mov (.t 28)⟩])
 (.seq (.reg false [⟨some 29, none, .mov (.t 6)⟩,
 ⟨some 30, none, .mov (.t 7)⟩,
 ⟨some 31, none, .lit 0 1 [.int .i64 0] [] 3⟩,
 ⟨some 32, none, .ixs (.t 29) (.t 30) 1⟩,
 ⟨none, none, .store (.t 32) (.t 31) 1⟩])
 (.seq (.seq (.reg false [⟨some 8, none, .mov (.k (.c (.int .i64 0)))⟩])
 (.block 0 (some [0, 1, 6, 7, 8]) (some [6])
 (.loop c_spec_SetDrop_b0)))
 (.seq (.reg false [⟨some 67, none, .mov (.t 6)⟩,
 ⟨some 4, none, .mov (.t 67)⟩,
 ⟨some 5, none, .mov (.k (.c (.int .i64 0)))⟩])
 (.ret (some [4, 5]))))))))))⟩
theorem c_spec_SetDrop_ok : trF Try.prog ⟨[(0, [0, 1, 6, 7, 8], [6])], [4, 5], false, false⟩ Try.f137 = some c_spec_SetDrop := by kernel_rfl
def c_spec_SetAdd_b0 : IC :=
  (.seq (.seq (.reg false [⟨some 23, none, .mov (.t 6)⟩,
 ⟨some 24, none, .mov (.t 1)⟩,
 ⟨some 25, none, .mov (.t 6)⟩,
 ⟨some 26, none, .len (.t 25)⟩,
 ⟨some 27, none, .call 130 [.t 24, .t 26]⟩,
 ⟨some 28, none, .ixs (.t 23) (.t 27) 1⟩,
 ⟨some 29, none, .load1 (.t 28)⟩,
 ⟨some 30, none, .len (.t 29)⟩,
 ⟨some 31, none, .bin .eql (.t 30) (.k (.c (.int .i64 3)))⟩])
 (.cond (.t 31) .skip (.exit 0)))
 (.block 1 none none
 (.seq (.seq (.reg false [⟨some 32, none, .mov (.t 6)⟩,
 ⟨some 33, none, .len (.t 32)⟩,
 ⟨some 34, none, .bin .eql (.t 33) (.k (.c (.int .i64 8)))⟩])
 (.cond (.t 34) (.seq (.reg false [⟨some 35, none, .mov (.t 0)⟩,
 ⟨some 36, none, .call 163 [.t 35]⟩,
 ⟨some 4, none, .mov (.t 36)⟩,
 ⟨some 5, none, .mov (.k (.c (.int .i64 3)))⟩])
 (.ret (some [4, 5]))) .skip))
 (.reg false [⟨some 37, none, .mov (.t 6)⟩,
 ⟨some 38, none, .call 165 [.t 37]⟩,
 ⟨some 6, none, .mov (.t 38)⟩]))))
def c_spec_SetAdd : IFn := ⟨53, [.t 4, .t 5],
  (.seq (.reg false [⟨some 4, none, .mov (.k (.c .nils))⟩,
 ⟨some 5, none, .mov (.k (.c (.int .i64 0)))⟩])
 (.seq (.reg false [⟨some 8, none, .mov (.t 0)⟩,
 ⟨some 9, none, .call 163 [.t 8]⟩,
 ⟨some 6, none, .mov (.t 9)⟩])
 (.seq (.seq (.reg false [⟨some 10, none, .mov (.t 0)⟩,
 ⟨some 11, none, .call 84 [.t 10]⟩,
 ⟨some 12, none, .un .not (.t 11)⟩,
 ⟨some 13, none, .mov (.t 12)⟩,
 ⟨some 14, some (13, false), .mov (.t 1)⟩,
 ⟨some 15, some (13, false), .call 66 [.t 14]⟩,
 ⟨some 16, some (13, false), .un .not (.t 15)⟩,
 ⟨some 17, none, .pick (.t 13) (.k (.c (.bool true))) (.t 16)⟩])
 (.cond (.t 17) (.seq (.reg false [⟨some 18, none, .mov (.t 6)⟩,
 ⟨some 4, none, .mov (.t 18)⟩,
 ⟨some 5, none, .mov (.k (.c (.int .i64 1)))⟩])
 (.ret (some [4, 5]))) .skip))
 (.seq (.seq (.reg false [⟨some 19, none, .mov (.t 0)⟩,
 ⟨some 20, none, .mov (.t 1)⟩,
 ⟨some 21, none, .call 164 [.t 19, .t 20]⟩])
 (.cond (.t 21) (.seq (.reg false [⟨some 22, none, .mov (.t 6)⟩,
 ⟨some 4, none, .mov (.t 22)⟩,
 ⟨some 5, none, .mov (.k (.c (.int .i64 2)))⟩])
 (.ret (some [4, 5]))) .skip))
 (.seq (.block 0 (some [0, 1, 6]) (some [1, 6])
 (.loop c_spec_SetAdd_b0))
 (.seq (.reg false [⟨some 39, none, .mov (.t 1)⟩,
 ⟨some 40, none, .mov (.t 6)⟩,
 ⟨some 41, none, .len (.t 40)⟩,
 ⟨some 42, none, .call 130 [.t 39, .t 41]⟩,
 ⟨some 7, none, .mov (.t 42)⟩])
 (.seq (.reg false [⟨some 43, none, .mov (.t 6)⟩,
 ⟨some 44, none, .mov (.t 7)⟩,
 ⟨some 45, none, .mov (.t 6)⟩,
 ⟨some 46, none, .mov (.t 7)⟩,
 ⟨some 47, none, .ixs (.t 45) (.t 46) 1⟩,
 ⟨some 48, none, .load1 (.t 47)⟩,
 ⟨some 49, none, .mov (.t 1)⟩,
 ⟨some 50, none, .call 166 [.t 48, .t 49]⟩,
 ⟨some 51, none, .ixs (.t 43) (.t 44) 1⟩,
 ⟨none, none, .store (.t 51) (.t 50) 1⟩])
 (.seq (.reg false [⟨some 52, none, .mov (.t 6)⟩,
 ⟨some 4, none, .mov (.t 52)⟩,
 ⟨some 5, none, .mov (.k (.c (.int .i64 0)))⟩])
 (.ret (some [4, 5]))))))))))⟩
theorem c_spec_SetAdd_ok : trF Try.prog ⟨[(0, [0, 1, 6], [1, 6])], [4, 5], false, false⟩ Try.f138 = some c_spec_SetAdd := by kernel_rfl
def c_slices_Concat_int_int_b0 : IC :=
  (.seq (.reg false [⟨some 12, none, .bin .lss (.t 11) (.t 10)⟩])
 (.seq (.cond (.t 12) .skip (.exit 0))
 (.seq (.block 1 none none
 (.seq (.reg false [⟨some 13, none, .ixs (.t 9) (.t 11) 1⟩,
 ⟨some 14, none, .load1 (.t 13)⟩,
 ⟨some 5, none, .mov (.t 14)⟩])
 (.seq (.reg false [⟨some 15, none, .mov (.t 3)⟩,
 ⟨some 16, none, .mov (.t 5)⟩,
 ⟨some 17, none, .len (.t 16)⟩,
 ⟨some 18, none, .bin .add (.t 15) (.t 17)⟩,
 ⟨some 3, none, .mov (.t 18)⟩])
 (.seq (.reg false [⟨some 19, none, .mov (.t 3)⟩,
 ⟨some 20, none, .bin .lss (.t 19) (.k (.c (.int .i64 0)))⟩])
 (.cond (.t 20) (.reg false [⟨some 21, none, .bad⟩,
 ⟨none, none, .bad⟩]) .skip)))))
 (.reg false [⟨some 22, none, .bin .add (.t 11) (.k (.c (.int .i64 1)))⟩,
 ⟨some 11, none, .mov (.t 22)⟩]))))
def c_slices_Concat_int_int_b1 : IC :=
  (.seq (.reg false [⟨some 28, none, .bin .lss (.t 27) (.t 26)⟩])
 (.seq (.cond (.t 28) .skip (.exit 2))
 (.seq (.block 3 none none
 (.seq (.reg false [⟨some 29, none, .ixs (.t 25) (.t 27) 1⟩,
 ⟨some 30, none, .load1 (.t 29)⟩,
 ⟨some 8, none, .mov (.t 30)⟩])
 (.reg false [⟨some 31, none, .mov (.t 6)⟩,
 ⟨some 32, none, .mov (.t 8)⟩,
 ⟨some 33, none, .app (.t 31) (.t 32) 3 1 8⟩,
 ⟨some 6, none, .mov (.t 33)⟩])))
 (.reg false [⟨some 34, none, .bin .add (.t 27) (.k (.c (.int .i64 1)))⟩,
 ⟨some 27, none, .mov (.t 34)⟩]))))
def c_slices_Concat_int_int : IFn := ⟨36, [.t 2],
  (.seq (.reg false [⟨some 2, none, .mov (.k (.c .nils))⟩])
 (.seq (.reg false [⟨some 3, none, .mov (.k (.c (.int .i64 0)))⟩])
 (.seq (.seq (.reg false [⟨some 9, none, .mov (.t 0)⟩,
 ⟨some 10, none, .len (.t 9)⟩,
 ⟨some 11, none, .mov (.k (.c (.int .i64 0)))⟩])
 (.block 0 (some [0, 3, 9, 10, 11]) (some [0, 3])
 (.loop c_slices_Concat_int_int_b0)))
 (.seq (.reg false [⟨some 23, none, .mov (.t 3)⟩,
 ⟨some 24, none, .call 167 [.k (.c .nils), .t 23]⟩,
 ⟨some 6, none, .mov (.t 24)⟩])
 (.seq (.seq (.reg false [⟨some 25, none, .mov (.t 0)⟩,
 ⟨some 26, none, .len (.t 25)⟩,
 ⟨some 27, none, .mov (.k (.c (.int .i64 0)))⟩])
 (.block 2 (some [6, 25, 26, 27]) (some [6])
 (.loop c_slices_Concat_int_int_b1)))
 (.seq (.reg false [⟨some 35, none, .mov (.t 6)⟩,
 ⟨some 2, none, .mov (.t 35)⟩])
 (.ret (some [2]))))))))⟩
theorem c_slices_Concat_int_int_ok : trF Try.prog ⟨[(0, [0, 3, 9, 10, 11], [0, 3]), (2, [6, 25, 26, 27], [6])], [2], false, false⟩ Try.f139 = some c_slices_Concat_int_int := by kernel_rfl
def c_slices_Contains_int_int : IFn := ⟨9, [.t 4],
  (.seq (.reg false [⟨some 4, none, .mov (.k (.c (.bool false)))⟩])
 (.seq (.reg false [⟨some 5, none, .mov (.t 0)⟩,
 ⟨some 6, none, .mov (.t 1)⟩,
 ⟨some 7, none, .call 168 [.t 5, .t 6]⟩,
 ⟨some 8, none, .bin .geq (.t 7) (.k (.c (.int .i64 0)))⟩,
 ⟨some 4, none, .mov (.t 8)⟩])
 (.ret (some [4]))))⟩
theorem c_slices_Contains_int_int_ok : trF Try.prog ⟨[], [4], false, false⟩ Try.f140 = some c_slices_Contains_int_int := by kernel_rfl
def c_impl_own : IFn := ⟨6, [.t 2],
  (.seq (.reg false [⟨some 2, none, .mov (.k (.c .nils))⟩])
 (.seq (.reg false [⟨some 3, none, .lit 0 1 [.int .i64 0] [] 3⟩,
 ⟨some 4, none, .mov (.t 0)⟩,
 ⟨some 5, none, .app (.t 3) (.t 4) 3 1 8⟩,
 ⟨some 2, none, .mov (.t 5)⟩])
 (.ret (some [2]))))⟩
theorem c_impl_own_ok : trF Try.prog ⟨[], [2], false, false⟩ Try.f141 = some c_impl_own := by kernel_rfl
def c_slices_IndexFunc_int_int_b0 : IC :=
  (.seq (.reg false [⟨some 9, none, .bin .lss (.t 8) (.t 7)⟩])
 (.seq (.cond (.t 9) .skip (.exit 0))
 (.seq (.block 1 none none
 (.seq (.reg false [⟨some 10, none, .mov (.t 8)⟩,
 ⟨some 5, none, .mov (.t 10)⟩])
 (.seq (.reg false [⟨some 11, none, .mov (.t 1)⟩,
 ⟨some 12, none, .mov (.t 0)⟩,
 ⟨some 13, none, .mov (.t 5)⟩,
 ⟨some 14, none, .ixs (.t 12) (.t 13) 1⟩,
 ⟨some 15, none, .load1 (.t 14)⟩,
 ⟨some 16, none, .callv (.t 11) [.t 15]⟩])
 (.cond (.t 16) (.seq (.reg false [⟨some 17, none, .mov (.t 5)⟩,
 ⟨some 4, none, .mov (.t 17)⟩])
 (.ret (some [4]))) .skip))))
 (.reg false [⟨some 18, none, .bin .add (.t 8) (.k (.c (.int .i64 1)))⟩,
 ⟨some 8, none, .mov (.t 18)⟩]))))
def c_slices_IndexFunc_int_int : IFn := ⟨19, [.t 4],
  (.seq (.reg false [⟨some 4, none, .mov (.k (.c (.int .i64 0)))⟩])
 (.seq (.seq (.reg false [⟨some 6, none, .mov (.t 0)⟩,
 ⟨some 7, none, .len (.t 6)⟩,
 ⟨some 8, none, .mov (.k (.c (.int .i64 0)))⟩])
 (.block 0 (some [0, 1, 7, 8]) (some [])
 (.loop c_slices_IndexFunc_int_int_b0)))
 (.seq (.reg false [⟨some 4, none, .mov (.k (.c (.int .i64 (-1))))⟩])
 (.ret (some [4])))))⟩
theorem c_slices_IndexFunc_int_int_ok : trF Try.prog ⟨[(0, [0, 1, 7, 8], [])], [4], false, false⟩ Try.f144 = some c_slices_IndexFunc_int_int := by kernel_rfl
def c_laws_eqInstrS_b0 : IC :=
  (.seq (.seq (.reg false [⟨some 11, none, .mov (.t 5)⟩,
 ⟨some 12, none, .mov (.t 0)⟩,
 ⟨some 13, none, .len (.t 12)⟩,
 ⟨some 14, none, .bin .lss (.t 11) (.t 13)⟩])
 (.cond (.t 14) .skip (.exit 0)))
 (.seq (.block 1 none none
 (.seq (.reg true [⟨some 17, none, .mov (.t 0)⟩,
 ⟨some 18, none, .mov (.t 5)⟩,
 ⟨some 19, none, .ixs (.t 17) (.t 18) 3⟩,
 ⟨some 20, none, .loadN (.t 19) 3⟩,
 ⟨some 21, none, .mov (.t 1)⟩,
 ⟨some 22, none, .mov (.t 5)⟩,
 ⟨some 23, none, .ixs (.t 21) (.t 22) 3⟩,
 ⟨some 24, none, .loadN (.t 23) 3⟩,
 ⟨some 25, none, .call 180 [.t 20, .t 24]⟩,
 ⟨some 26, none, .un .not (.t 25)⟩])
 (.cond (.t 26) (.seq (.reg false [⟨some 4, none, .mov (.k (.c (.bool false)))⟩])
 (.ret (some [4]))) .skip)))
 (.reg false [⟨some 15, none, .mov (.t 5)⟩,
 ⟨some 16, none, .bin .add (.t 15) (.k (.c (.int .i64 1)))⟩,
 ⟨some 5, none, .mov (.t 16)⟩])))
def c_laws_eqInstrS : IFn := ⟨27, [.t 4],
  (.seq (.reg false [⟨some 4, none, .mov (.k (.c (.bool false)))⟩])
 (.seq (.seq (.reg false [⟨some 6, none, .mov (.t 0)⟩,
 ⟨some 7, none, .len (.t 6)⟩,
 ⟨some 8, none, .mov (.t 1)⟩,
 ⟨some 9, none, .len (.t 8)⟩,
 ⟨some 10, none, .bin .neq (.t 7) (.t 9)⟩])
 (.cond (.t 10) (.seq (.reg false [⟨some 4, none, .mov (.k (.c (.bool false)))⟩])
 (.ret (some [4]))) .skip))
 (.seq (.seq (.reg false [⟨some 5, none, .mov (.k (.c (.int .i64 0)))⟩])
 (.block 0 (some [0, 1, 5]) (some [])
 (.loop c_laws_eqInstrS_b0)))
 (.seq (.reg false [⟨some 4, none, .mov (.k (.c (.bool true)))⟩])
 (.ret (some [4]))))))⟩
theorem c_laws_eqInstrS_ok : trF Try.prog ⟨[(0, [0, 1, 5], [])], [4], false, false⟩ Try.f145 = some c_laws_eqInstrS := by kernel_rfl
def c_laws_eqStore : IFn := ⟨17, [.t 4],
  (.seq (.reg false [⟨some 2, none, .box (.t 0) 108⟩,
 ⟨some 3, none, .box (.t 1) 108⟩,
 ⟨some 4, none, .mov (.k (.c (.bool false)))⟩])
 (.seq (.seq (.reg false [⟨some 5, none, .fld (.t 2) 0⟩,
 ⟨some 6, none, .load1 (.t 5)⟩,
 ⟨some 7, none, .fld (.t 3) 0⟩,
 ⟨some 8, none, .load1 (.t 7)⟩,
 ⟨some 9, none, .call 181 [.t 6, .t 8]⟩,
 ⟨some 10, none, .un .not (.t 9)⟩])
 (.cond (.t 10) (.seq (.reg false [⟨some 4, none, .mov (.k (.c (.bool false)))⟩])
 (.ret (some [4]))) .skip))
 (.seq (.seq (.reg false [⟨some 11, none, .fld (.t 2) 1⟩,
 ⟨some 12, none, .load1 (.t 11)⟩,
 ⟨some 13, none, .fld (.t 3) 1⟩,
 ⟨some 14, none, .load1 (.t 13)⟩,
 ⟨some 15, none, .call 182 [.t 12, .t 14]⟩,
 ⟨some 16, none, .un .not (.t 15)⟩])
 (.cond (.t 16) (.seq (.reg false [⟨some 4, none, .mov (.k (.c (.bool false)))⟩])
 (.ret (some [4]))) .skip))
 (.seq (.reg false [⟨some 4, none, .mov (.k (.c (.bool true)))⟩])
 (.ret (some [4]))))))⟩
theorem c_laws_eqStore_ok : trF Try.prog ⟨[], [4], false, false⟩ Try.f146 = some c_laws_eqStore := by kernel_rfl
def c_laws_eqThreadS_b0 : IC :=
  (.seq (.seq (.reg false [⟨some 11, none, .mov (.t 5)⟩,
 ⟨some 12, none, .mov (.t 0)⟩,
 ⟨some 13, none, .len (.t 12)⟩,
 ⟨some 14, none, .bin .lss (.t 11) (.t 13)⟩])
 (.cond (.t 14) .skip (.exit 0)))
 (.seq (.block 1 none none
 (.seq (.reg true [⟨some 17, none, .mov (.t 0)⟩,
 ⟨some 18, none, .mov (.t 5)⟩,
 ⟨some 19, none, .ixs (.t 17) (.t 18) 14⟩,
 ⟨some 20, none, .loadN (.t 19) 14⟩,
 ⟨some 21, none, .mov (.t 1)⟩,
 ⟨some 22, none, .mov (.t 5)⟩,
 ⟨some 23, none, .ixs (.t 21) (.t 22) 14⟩,
 ⟨some 24, none, .loadN (.t 23) 14⟩,
 ⟨some 25, none, .call 183 [.t 20, .t 24]⟩,
 ⟨some 26, none, .un .not (.t 25)⟩])
 (.cond (.t 26) (.seq (.reg false [⟨some 4, none, .mov (.k (.c (.bool false)))⟩])
 (.ret (some [4]))) .skip)))
 (.reg false [⟨some 15, none, .mov (.t 5)⟩,
 ⟨some 16, none, .bin .add (.t 15) (.k (.c (.int .i64 1)))⟩,
 ⟨some 5, none, .mov (.t 16)⟩])))
def c_laws_eqThreadS : IFn := ⟨27, [.t 4],
  (.seq (.reg false [⟨some 4, none, .mov (.k (.c (.bool false)))⟩])
 (.seq (.seq (.reg false [⟨some 6, none, .mov (.t 0)⟩,
 ⟨some 7, none, .len (.t 6)⟩,
 ⟨some 8, none, .mov (.t 1)⟩,
 ⟨some 9, none, .len (.t 8)⟩,
 ⟨some 10, none, .bin .neq (.t 7) (.t 9)⟩])
 (.cond (.t 10) (.seq (.reg false [⟨some 4, none, .mov (.k (.c (.bool false)))⟩])
 (.ret (some [4]))) .skip))
 (.seq (.seq (.reg false [⟨some 5, none, .mov (.k (.c (.int .i64 0)))⟩])
 (.block 0 (some [0, 1, 5]) (some [])
 (.loop c_laws_eqThreadS_b0)))
 (.seq (.reg false [⟨some 4, none, .mov (.k (.c (.bool true)))⟩])
 (.ret (some [4]))))))⟩
theorem c_laws_eqThreadS_ok : trF Try.prog ⟨[(0, [0, 1, 5], [])], [4], false, false⟩ Try.f147 = some c_laws_eqThreadS := by kernel_rfl
def c_laws_eqEventS_b0 : IC :=
  (.seq (.seq (.reg false [⟨some 11, none, .mov (.t 5)⟩,
 ⟨some 12, none, .mov (.t 0)⟩,
 ⟨some 13, none, .len (.t 12)⟩,
 ⟨some 14, none, .bin .lss (.t 11) (.t 13)⟩])
 (.cond (.t 14) .skip (.exit 0)))
 (.seq (.block 1 none none
 (.seq (.reg true [⟨some 17, none, .mov (.t 0)⟩,
 ⟨some 18, none, .mov (.t 5)⟩,
 ⟨some 19, none, .ixs (.t 17) (.t 18) 4⟩,
 ⟨some 20, none, .loadN (.t 19) 4⟩,
 ⟨some 21, none, .mov (.t 1)⟩,
 ⟨some 22, none, .mov (.t 5)⟩,
 ⟨some 23, none, .ixs (.t 21) (.t 22) 4⟩,
 ⟨some 24, none, .loadN (.t 23) 4⟩,
 ⟨some 25, none, .call 184 [.t 20, .t 24]⟩,
 ⟨some 26, none, .un .not (.t 25)⟩])
 (.cond (.t 26) (.seq (.reg false [⟨some 4, none, .mov (.k (.c (.bool false)))⟩])
 (.ret (some [4]))) .skip)))
 (.reg false [⟨some 15, none, .mov (.t 5)⟩,
 ⟨some 16, none, .bin .add (.t 15) (.k (.c (.int .i64 1)))⟩,
 ⟨some 5, none, .mov (.t 16)⟩])))
def c_laws_eqEventS : IFn := ⟨27, [.t 4],
  (.seq (.reg false [⟨some 4, none, .mov (.k (.c (.bool false)))⟩])
 (.seq (.seq (.reg false [⟨some 6, none, .mov (.t 0)⟩,
 ⟨some 7, none, .len (.t 6)⟩,
 ⟨some 8, none, .mov (.t 1)⟩,
 ⟨some 9, none, .len (.t 8)⟩,
 ⟨some 10, none, .bin .neq (.t 7) (.t 9)⟩])
 (.cond (.t 10) (.seq (.reg false [⟨some 4, none, .mov (.k (.c (.bool false)))⟩])
 (.ret (some [4]))) .skip))
 (.seq (.seq (.reg false [⟨some 5, none, .mov (.k (.c (.int .i64 0)))⟩])
 (.block 0 (some [0, 1, 5]) (some [])
 (.loop c_laws_eqEventS_b0)))
 (.seq (.reg false [⟨some 4, none, .mov (.k (.c (.bool true)))⟩])
 (.ret (some [4]))))))⟩
theorem c_laws_eqEventS_ok : trF Try.prog ⟨[(0, [0, 1, 5], [])], [4], false, false⟩ Try.f148 = some c_laws_eqEventS := by kernel_rfl
def c_laws_markInstrS_b0 : IC :=
  (.seq (.seq (.reg false [⟨some 6, none, .mov (.t 5)⟩,
 ⟨some 7, none, .mov (.t 0)⟩,
 ⟨some 8, none, .len (.t 7)⟩,
 ⟨some 9, none, .bin .lss (.t 6) (.t 8)⟩])
 (.cond (.t 9) .skip (.exit 0)))
 (.seq (.block 1 none none
 (.seq (.reg false [⟨some 12, none, .mov (.t 0)⟩,
 ⟨some 13, none, .mov (.t 5)⟩,
 ⟨some 14, none, .mov (.t 1)⟩,
 ⟨some 15, none, .ixs (.t 12) (.t 13) 3⟩,
 ⟨some 16, none, .fld (.t 15) 0⟩,
 ⟨none, none, .store (.t 16) (.t 14) 1⟩])
 (.seq (.reg false [⟨some 17, none, .mov (.t 1)⟩,
 ⟨some 18, none, .bin .add (.t 17) (.k (.c (.int .i64 1)))⟩,
 ⟨some 1, none, .mov (.t 18)⟩])
 (.seq (.reg false [⟨some 19, none, .mov (.t 0)⟩,
 ⟨some 20, none, .mov (.t 5)⟩,
 ⟨some 21, none, .mov (.t 1)⟩,
 ⟨some 22, none, .ixs (.t 19) (.t 20) 3⟩,
 ⟨some 23, none, .fld (.t 22) 1⟩,
 ⟨none, none, .store (.t 23) (.t 21) 1⟩])
 (.seq (.reg false [⟨some 24, none, .mov (.t 1)⟩,
 ⟨some 25, none, .bin .add (.t 24) (.k (.c (.int .i64 1)))⟩,
 ⟨some 1, none, .mov (.t 25)⟩])
 (.seq (.reg false [⟨some 26, none, .mov (.t 0)⟩,
 ⟨some 27, none, .mov (.t 5)⟩,
 ⟨some 28, none, .mov (.t 1)⟩,
 ⟨some 29, none, .ixs (.t 26) (.t 27) 3⟩,
 ⟨some 30, none, .fld (.t 29) 2⟩,
 ⟨none, none, .store (.t 30) (.t 28) 1⟩])
 (.reg false [⟨some 31, none, .mov (.t 1)⟩,
 ⟨some 32, none, .bin .add (.t 31) (.k (.c (.int .i64 1)))⟩,
 ⟨some 1, none, .mov (.t 32)⟩])))))))
 (.reg false [⟨some 10, none, .mov (.t 5)⟩,
 ⟨some 11, none, .bin .add (.t 10) (.k (.c (.int .i64 1)))⟩,
 ⟨some 5, none, .mov (.t 11)⟩])))
def c_laws_markInstrS : IFn := ⟨34, [.t 4],
  (.seq (.reg false [⟨some 4, none, .mov (.k (.c (.int .i64 0)))⟩])
 (.seq (.seq (.reg false [⟨some 5, none, .mov (.k (.c (.int .i64 0)))⟩])
 (.block 0 (some [0, 1, 5]) (some [1])
 (.loop c_laws_markInstrS_b0)))
 (.seq (.reg false [⟨some 33, none, .mov (.t 1)⟩,
 ⟨some 4, none, .mov (.t 33)⟩])
 (.ret (some [4])))))⟩
theorem c_laws_markInstrS_ok : trF Try.prog ⟨[(0, [0, 1, 5], [1])], [4], false, false⟩ Try.f149 = some c_laws_markInstrS := by kernel_rfl
def c_laws_markStore : IFn := ⟨14, [.t 4],
  (.seq (.reg false [⟨some 2, none, .box (.t 0) 108⟩,
 ⟨some 4, none, .mov (.k (.c (.int .i64 0)))⟩])
 (.seq (.reg false [⟨some 5, none, .fld (.t 2) 0⟩,
 ⟨some 6, none, .load1 (.t 5)⟩,
 ⟨some 7, none, .mov (.t 1)⟩,
 ⟨some 8, none, .call 185 [.t 6, .t 7]⟩,
 ⟨some 1, none, .mov (.t 8)⟩])
 (.seq (.reg false [⟨some 9, none, .fld (.t 2) 1⟩,
 ⟨some 10, none, .load1 (.t 9)⟩,
 ⟨some 11, none, .mov (.t 1)⟩,
 ⟨some 12, none, .call 186 [.t 10, .t 11]⟩,
 ⟨some 1, none, .mov (.t 12)⟩])
 (.seq (.reg false [⟨some 13, none, .mov (.t 1)⟩,
 ⟨some 4, none, .mov (.t 13)⟩])
 (.ret (some [4]))))))⟩
theorem c_laws_markStore_ok : trF Try.prog ⟨[], [4], false, false⟩ Try.f150 = some c_laws_markStore := by kernel_rfl
def c_laws_markThreadS_b1 : IC :=
  (.seq (.seq (.reg false [⟨some 34, none, .mov (.t 6)⟩,
 ⟨some 35, none, .bin .lss (.t 34) (.k (.c (.int .i64 4)))⟩])
 (.cond (.t 35) .skip (.exit 2)))
 (.seq (.block 3 none none
 (.seq (.reg false [⟨some 38, none, .mov (.t 0)⟩,
 ⟨some 39, none, .mov (.t 5)⟩,
 ⟨some 40, none, .mov (.t 6)⟩,
 ⟨some 41, none, .mov (.t 1)⟩,
 ⟨some 42, none, .ixs (.t 38) (.t 39) 14⟩,
 ⟨some 43, none, .fld (.t 42) 3⟩,
 ⟨some 44, none, .ixa (.t 43) (.t 40) 4 1⟩,
 ⟨none, none, .store (.t 44) (.t 41) 1⟩])
 (.reg false [⟨some 45, none, .mov (.t 1)⟩,
 ⟨some 46, none, .bin .add (.t 45) (.k (.c (.int .i64 1)))⟩,
 ⟨some 1, none, .mov (.t 46)⟩])))
 (.reg false [⟨some 36, none, .mov (.t 6)⟩,
 ⟨some 37, none, .bin .add (.t 36) (.k (.c (.int .i64 1)))⟩,
 ⟨some 6, none, .mov (.t 37)⟩])))
def c_laws_markThreadS_b0 : IC :=
  (.seq (.seq (.reg false [⟨some 7, none, .mov (.t 5)⟩,
 ⟨some 8, none, .mov (.t 0)⟩,
 ⟨some 9, none, .len (.t 8)⟩,
 ⟨some 10, none, .bin .lss (.t 7) (.t 9)⟩])
 (.cond (.t 10) .skip (.exit 0)))
 (.seq (.block 1 none none
 (.seq (.reg false [⟨some 13, none, .mov (.t 0)⟩,
 ⟨some 14, none, .mov (.t 5)⟩,
 ⟨some 15, none, .mov (.t 1)⟩,
 ⟨some 16, none, .ixs (.t 13) (.t 14) 14⟩,
 ⟨some 17, none, .fld (.t 16) 0⟩,
 ⟨none, none, .store (.t 17) (.t 15) 1⟩])
 (.seq (.reg false [⟨some 18, none, .mov (.t 1)⟩,
 ⟨some 19, none, .bin .add (.t 18) (.k (.c (.int .i64 1)))⟩,
 ⟨some 1, none, .mov (.t 19)⟩])
 (.seq (.reg false [⟨some 20, none, .mov (.t 0)⟩,
 ⟨some 21, none, .mov (.t 5)⟩,
 ⟨some 22, none, .ixs (.t 20) (.t 21) 14⟩,
 ⟨some 23, none, .fld (.t 22) 1⟩,
 ⟨some 24, none, .load1 (.t 23)⟩,
 ⟨some 25, none, .mov (.t 1)⟩,
 ⟨some 26, none, .call 149 [.t 24, .t 25]⟩,
 ⟨some 1, none, .mov (.t 26)⟩])
 (.seq (.reg false [⟨some 27, none, .mov (.t 0)⟩,
 ⟨some 28, none, .mov (.t 5)⟩,
 ⟨some 29, none, .mov (.t 1)⟩,
 ⟨some 30, none, .ixs (.t 27) (.t 28) 14⟩,
 ⟨some 31, none, .fld (.t 30) 2⟩,
 ⟨none, none, .store (.t 31) (.t 29) 1⟩])
 (.seq (.reg false [⟨some 32, none, .mov (.t 1)⟩,
 ⟨some 33, none, .bin .add (.t 32) (.k (.c (.int .i64 1)))⟩,
 ⟨some 1, none, .mov (.t 33)⟩])
 (.seq (.seq (.reg false [⟨some 6, none, .mov (.k (.c (.int .i64 0)))⟩])
 (.block 2 (some [0, 1, 5, 6]) (some [0, 1, 5])
 (.loop c_laws_markThreadS_b1)))
 (.seq (.reg false [⟨some 47, none, .mov (.t 0)⟩,
 ⟨some 48, none, .mov (.t 5)⟩,
 ⟨some 49, none, .ixs (.t 47) (.t 48) 14⟩,
 ⟨some 50, none, .fld (.t 49) 7⟩,
 ⟨some 51, none, .load1 (.t 50)⟩,
 ⟨some 52, none, .mov (.t 1)⟩,
 ⟨some 53, none, .call 187 [.t 51, .t 52]⟩,
 ⟨some 1, none, .mov (.t 53)⟩])
 (.seq (.reg false [⟨some 54, none, .mov (.t 0)⟩,
 ⟨some 55, none, .mov (.t 5)⟩,
 ⟨some 56, none, .mov (.t 1)⟩,
 ⟨some 57, none, .ixs (.t 54) (.t 55) 14⟩,
 ⟨some 58, none, .fld (.t 57) 8⟩,
 ⟨none, none, .store (.t 58) (.t 56) 1⟩])
 (.seq (.reg false [⟨some 59, none, .mov (.t 1)⟩,
 ⟨some 60, none, .bin .add (.t 59) (.k (.c (.int .i64 1)))⟩,
 ⟨some 1, none, .mov (.t 60)⟩])
 (.seq (.reg false [⟨some 61, none, .mov (.t 0)⟩,
 ⟨some 62, none, .mov (.t 5)⟩,
 ⟨some 63, none, .ixs (.t 61) (.t 62) 14⟩,
 ⟨some 64, none, .fld (.t 63) 9⟩,
 ⟨some 65, none, .load1 (.t 64)⟩,
 ⟨some 66, none, .mov (.t 1)⟩,
 ⟨some 67, none, .call 188 [.t 65, .t 66]⟩,
 ⟨some 1, none, .mov (.t 67)⟩])
 (.seq (.reg false [⟨some 68, none, .mov (.t 0)⟩,
 ⟨some 69, none, .mov (.t 5)⟩,
 ⟨some 70, none, .mov (.t 1)⟩,
 ⟨some 71, none, .ixs (.t 68) (.t 69) 14⟩,
 ⟨some 72, none, .fld (.t 71) 10⟩,
 ⟨none, none, .store (.t 72) (.t 70) 1⟩])
 (.seq (.reg false [⟨some 73, none, .mov (.t 1)⟩,
 ⟨some 74, none, .bin .add (.t 73) (.k (.c (.int .i64 1)))⟩,
 ⟨some 1, none, .mov (.t 74)⟩])
 (.seq (.reg false [⟨some 75, none, .mov (.t 0)⟩,
 ⟨some 76, none, .mov (.t 5)⟩,
 ⟨some 77, none, .mov (.t 1)⟩,
 ⟨some 78, none, .ixs (.t 75) (.t 76) 14⟩,
 ⟨some 79, none, .fld (.t 78) 11⟩,
 ⟨none, none, .store (.t 79) (.t 77) 1⟩])
 (.seq (.reg false [⟨some 80, none, .mov (.t 1)⟩,
 ⟨some 81, none, .bin .add (.t 80) (.k (.c (.int .i64 1)))⟩,
 ⟨some 1, none, .mov (.t 81)⟩])
 (.seq (.reg false [⟨some 82, none, .mov (.t 0)⟩,
 ⟨some 83, none, .mov (.t 5)⟩,
 ⟨some 84, none, .mov (.t 1)⟩,
 ⟨some 85, none, .ixs (.t 82) (.t 83) 14⟩,
 ⟨some 86, none, .fld (.t 85) 12⟩,
 ⟨none, none, .store (.t 86) (.t 84) 1⟩])
 (.seq (.reg false [⟨some 87, none, .mov (.t 1)⟩,
 ⟨some 88, none, .bin .add (.t 87) (.k (.c (.int .i64 1)))⟩,
 ⟨some 1, none, .mov (.t 88)⟩])
 (.seq (.reg false [⟨some 89, none, .mov (.t 0)⟩,
 ⟨some 90, none, .mov (.t 5)⟩,
 ⟨some 91, none, .mov (.t 1)⟩,
 ⟨some 92, none, .ixs (.t 89) (.t 90) 14⟩,
 ⟨some 93, none, .fld (.t 92) 13⟩,
 ⟨none, none, .store (.t 93) (.t 91) 1⟩])
 (.reg false [⟨some 94, none, .mov (.t 1)⟩,
 ⟨some 95, none, .bin .add (.t 94) (.k (.c (.int .i64 1)))⟩,
 ⟨some 1, none, .mov (.t 95)⟩])))))))))))))))))))
 (.reg false [⟨some 11, none, .mov (.t 5)⟩,
 ⟨some 12, none, .bin .add (.t 11) (.k (.c (.int .i64 1)))⟩,
 ⟨some 5, none, .mov (.t 12)⟩])))
def c_laws_markThreadS : IFn := ⟨97, [.t 4],
  (.seq (.reg false [⟨some 4, none, .mov (.k (.c (.int .i64 0)))⟩])
 (.seq (.seq (.reg false [⟨some 5, none, .mov (.k (.c (.int .i64 0)))⟩])
 (.block 0 (some [0, 1, 5]) (some [1])
 (.loop c_laws_markThreadS_b0)))
 (.seq (.reg false [⟨some 96, none, .mov (.t 1)⟩,
 ⟨some 4, none, .mov (.t 96)⟩])
 (.ret (some [4])))))⟩
theorem c_laws_markThreadS_ok : trF Try.prog ⟨[(0, [0, 1, 5], [1]), (2, [0, 1, 5, 6], [0, 1, 5])], [4], false, false⟩ Try.f151 = some c_laws_markThreadS := by kernel_rfl
def c_laws_markEventS_b0 : IC :=
  (.seq (.seq (.reg false [⟨some 6, none, .mov (.t 5)⟩,
 ⟨some 7, none, .mov (.t 0)⟩,
 ⟨some 8, none, .len (.t 7)⟩,
 ⟨some 9, none, .bin .lss (.t 6) (.t 8)⟩])
 (.cond (.t 9) .skip (.exit 0)))
 (.seq (.block 1 none none
 (.seq (.reg false [⟨some 12, none, .mov (.t 0)⟩,
 ⟨some 13, none, .mov (.t 5)⟩,
 ⟨some 14, none, .mov (.t 1)⟩,
 ⟨some 15, none, .ixs (.t 12) (.t 13) 4⟩,
 ⟨some 16, none, .fld (.t 15) 0⟩,
 ⟨none, none, .store (.t 16) (.t 14) 1⟩])
 (.seq (.reg false [⟨some 17, none, .mov (.t 1)⟩,
 ⟨some 18, none, .bin .add (.t 17) (.k (.c (.int .i64 1)))⟩,
 ⟨some 1, none, .mov (.t 18)⟩])
 (.seq (.reg false [⟨some 19, none, .mov (.t 0)⟩,
 ⟨some 20, none, .mov (.t 5)⟩,
 ⟨some 21, none, .mov (.t 1)⟩,
 ⟨some 22, none, .ixs (.t 19) (.t 20) 4⟩,
 ⟨some 23, none, .fld (.t 22) 1⟩,
 ⟨none, none, .store (.t 23) (.t 21) 1⟩])
 (.seq (.reg false [⟨some 24, none, .mov (.t 1)⟩,
 ⟨some 25, none, .bin .add (.t 24) (.k (.c (.int .i64 1)))⟩,
 ⟨some 1, none, .mov (.t 25)⟩])
 (.seq (.reg false [⟨some 26, none, .mov (.t 0)⟩,
 ⟨some 27, none, .mov (.t 5)⟩,
 ⟨some 28, none, .mov (.t 1)⟩,
 ⟨some 29, none, .ixs (.t 26) (.t 27) 4⟩,
 ⟨some 30, none, .fld (.t 29) 2⟩,
 ⟨none, none, .store (.t 30) (.t 28) 1⟩])
 (.seq (.reg false [⟨some 31, none, .mov (.t 1)⟩,
 ⟨some 32, none, .bin .add (.t 31) (.k (.c (.int .i64 1)))⟩,
 ⟨some 1, none, .mov (.t 32)⟩])
 (.seq (.reg false [⟨some 33, none, .mov (.t 0)⟩,
 ⟨some 34, none, .mov (.t 5)⟩,
 ⟨some 35, none, .mov (.t 1)⟩,
 ⟨some 36, none, .ixs (.t 33) (.t 34) 4⟩,
 ⟨some 37, none, .fld (.t 36) 3⟩,
 ⟨none, none, .store (.t 37) (.t 35) 1⟩])
 (.reg false [⟨some 38, none, .mov (.t 1)⟩,
 ⟨some 39, none, .bin .add (.t 38) (.k (.c (.int .i64 1)))⟩,
 ⟨some 1, none, .mov (.t 39)⟩])))))))))
 (.reg false [⟨some 10, none, .mov (.t 5)⟩,
 ⟨some 11, none, .bin .add (.t 10) (.k (.c (.int .i64 1)))⟩,
 ⟨some 5, none, .mov (.t 11)⟩])))
def c_laws_markEventS : IFn := ⟨41, [.t 4],
  (.seq (.reg false [⟨some 4, none, .mov (.k (.c (.int .i64 0)))⟩])
 (.seq (.seq (.reg false [⟨some 5, none, .mov (.k (.c (.int .i64 0)))⟩])
 (.block 0 (some [0, 1, 5]) (some [1])
 (.loop c_laws_markEventS_b0)))
 (.seq (.reg false [⟨some 40, none, .mov (.t 1)⟩,
 ⟨some 4, none, .mov (.t 40)⟩])
 (.ret (some [4])))))⟩
theorem c_laws_markEventS_ok : trF Try.prog ⟨[(0, [0, 1, 5], [1])], [4], false, false⟩ Try.f152 = some c_laws_markEventS := by kernel_rfl
def c_laws_markIntSS_b0 : IC :=
  (.seq (.seq (.reg false [⟨some 6, none, .mov (.t 5)⟩,
 ⟨some 7, none, .mov (.t 0)⟩,
 ⟨some 8, none, .len (.t 7)⟩,
 ⟨some 9, none, .bin .lss (.t 6) (.t 8)⟩])
 (.cond (.t 9) .skip (.exit 0)))
 (.seq (.block 1 none none
 (.reg false [⟨some 12, none, .mov (.t 0)⟩,
 ⟨some 13, none, .mov (.t 5)⟩,
 ⟨some 14, none, .ixs (.t 12) (.t 13) 1⟩,
 ⟨some 15, none, .load1 (.t 14)⟩,
 ⟨some 16, none, .mov (.t 1)⟩,
 ⟨some 17, none, .call 106 [.t 15, .t 16]⟩,
 ⟨some 1, none, .mov (.t 17)⟩]))
 (.reg false [⟨some 10, none, .mov (.t 5)⟩,
 ⟨some 11, none, .bin .add (.t 10) (.k (.c (.int .i64 1)))⟩,
 ⟨some 5, none, .mov (.t 11)⟩])))
def c_laws_markIntSS : IFn := ⟨19, [.t 4],
  (.seq (.reg false [⟨some 4, none, .mov (.k (.c (.int .i64 0)))⟩])
 (.seq (.seq (.reg false [⟨some 5, none, .mov (.k (.c (.int .i64 0)))⟩])
 (.block 0 (some [0, 1, 5]) (some [1])
 (.loop c_laws_markIntSS_b0)))
 (.seq (.reg false [⟨some 18, none, .mov (.t 1)⟩,
 ⟨some 4, none, .mov (.t 18)⟩])
 (.ret (some [4])))))⟩
theorem c_laws_markIntSS_ok : trF Try.prog ⟨[(0, [0, 1, 5], [1])], [4], false, false⟩ Try.f153 = some c_laws_markIntSS := by kernel_rfl
def c_laws_heldInstrS_b0 : IC :=
  (.seq (.seq (.reg false [⟨some 6, none, .mov (.t 5)⟩,
 ⟨some 7, none, .mov (.t 0)⟩,
 ⟨some 8, none, .len (.t 7)⟩,
 ⟨some 9, none, .bin .lss (.t 6) (.t 8)⟩])
 (.cond (.t 9) .skip (.exit 0)))
 (.seq (.block 1 none none
 (.seq (.seq (.reg false [⟨some 12, none, .mov (.t 0)⟩,
 ⟨some 13, none, .mov (.t 5)⟩,
 ⟨some 14, none, .ixs (.t 12) (.t 13) 3⟩,
 ⟨some 15, none, .fld (.t 14) 0⟩,
 ⟨some 16, none, .load1 (.t 15)⟩,
 ⟨some 17, none, .mov (.t 1)⟩,
 ⟨some 18, none, .bin .neq (.t 16) (.t 17)⟩])
 (.cond (.t 18) (.seq (.reg false [⟨some 4, none, .mov (.k (.c (.int .i64 (-1))))⟩])
 (.ret (some [4]))) .skip))
 (.seq (.reg false [⟨some 19, none, .mov (.t 1)⟩,
 ⟨some 20, none, .bin .add (.t 19) (.k (.c (.int .i64 1)))⟩,
 ⟨some 1, none, .mov (.t 20)⟩])
 (.seq (.seq (.reg false [⟨some 21, none, .mov (.t 0)⟩,
 ⟨some 22, none, .mov (.t 5)⟩,
 ⟨some 23, none, .ixs (.t 21) (.t 22) 3⟩,
 ⟨some 24, none, .fld (.t 23) 1⟩,
 ⟨some 25, none, .load1 (.t 24)⟩,
 ⟨some 26, none, .mov (.t 1)⟩,
 ⟨some 27, none, .bin .neq (.t 25) (.t 26)⟩])
 (.cond (.t 27) (.seq (.reg false [⟨some 4, none, .mov (.k (.c (.int .i64 (-1))))⟩])
 (.ret (some [4]))) .skip))
 (.seq (.reg false [⟨some 28, none, .mov (.t 1)⟩,
 ⟨some 29, none, .bin .add (.t 28) (.k (.c (.int .i64 1)))⟩,
 ⟨some 1, none, .mov (.t 29)⟩])
 (.seq (.seq (.reg false [⟨some 30, none, .mov (.t 0)⟩,
 ⟨some 31, none, .mov (.t 5)⟩,
 ⟨some 32, none, .ixs (.t 30) (.t 31) 3⟩,
 ⟨some 33, none, .fld (.t 32) 2⟩,
 ⟨some 34, none, .load1 (.t 33)⟩,
 ⟨some 35, none, .mov (.t 1)⟩,
 ⟨some 36, none, .bin .neq (.t 34) (.t 35)⟩])
 (.cond (.t 36) (.seq (.reg false [⟨some 4, none, .mov (.k (.c (.int .i64 (-1))))⟩])
 (.ret (some [4]))) .skip))
 (.reg false [⟨some 37, none, .mov (.t 1)⟩,
 ⟨some 38, none, .bin .add (.t 37) (.k (.c (.int .i64 1)))⟩,
 ⟨some 1, none, .mov (.t 38)⟩])))))))
 (.reg false [⟨some 10, none, .mov (.t 5)⟩,
 ⟨some 11, none, .bin .add (.t 10) (.k (.c (.int .i64 1)))⟩,
 ⟨some 5, none, .mov (.t 11)⟩])))
def c_laws_heldInstrS : IFn := ⟨40, [.t 4],
  (.seq (.reg false [⟨some 4, none, .mov (.k (.c (.int .i64 0)))⟩])
 (.seq (.seq (.reg false [⟨some 5, none, .mov (.k (.c (.int .i64 0)))⟩])
 (.block 0 (some [0, 1, 5]) (some [1])
 (.loop c_laws_heldInstrS_b0)))
 (.seq (.reg false [⟨some 39, none, .mov (.t 1)⟩,
 ⟨some 4, none, .mov (.t 39)⟩])
 (.ret (some [4])))))⟩
theorem c_laws_heldInstrS_ok : trF Try.prog ⟨[(0, [0, 1, 5], [1])], [4], false, false⟩ Try.f154 = some c_laws_heldInstrS := by kernel_rfl
def c_laws_heldStore : IFn := ⟨18, [.t 4],
  (.seq (.reg false [⟨some 2, none, .box (.t 0) 108⟩,
 ⟨some 4, none, .mov (.k (.c (.int .i64 0)))⟩])
 (.seq (.reg false [⟨some 5, none, .fld (.t 2) 0⟩,
 ⟨some 6, none, .load1 (.t 5)⟩,
 ⟨some 7, none, .mov (.t 1)⟩,
 ⟨some 8, none, .call 189 [.t 6, .t 7]⟩,
 ⟨some 1, none, .mov (.t 8)⟩])
 (.seq (.seq (.reg false [⟨some 9, none, .mov (.t 1)⟩,
 ⟨some 10, none, .bin .lss (.t 9) (.k (.c (.int .i64 0)))⟩])
 (.cond (.t 10) (.seq (.reg false [⟨some 4, none, .mov (.k (.c (.int .i64 (-1))))⟩])
 (.ret (some [4]))) .skip))
 (.seq (.reg false [⟨some 11, none, .fld (.t 2) 1⟩,
 ⟨some 12, none, .load1 (.t 11)⟩,
 ⟨some 13, none, .mov (.t 1)⟩,
 ⟨some 14, none, .call 190 [.t 12, .t 13]⟩,
 ⟨some 1, none, .mov (.t 14)⟩])
 (.seq (.seq (.reg false [⟨some 15, none, .mov (.t 1)⟩,
 ⟨some 16, none, .bin .lss (.t 15) (.k (.c (.int .i64 0)))⟩])
 (.cond (.t 16) (.seq (.reg false [⟨some 4, none, .mov (.k (.c (.int .i64 (-1))))⟩])
 (.ret (some [4]))) .skip))
 (.seq (.reg false [⟨some 17, none, .mov (.t 1)⟩,
 ⟨some 4, none, .mov (.t 17)⟩])
 (.ret (some [4]))))))))⟩
theorem c_laws_heldStore_ok : trF Try.prog ⟨[], [4], false, false⟩ Try.f155 = some c_laws_heldStore := by kernel_rfl
def c_laws_heldThreadS_b1 : IC :=
  (.seq (.seq (.reg false [⟨some 40, none, .mov (.t 6)⟩,
 ⟨some 41, none, .bin .lss (.t 40) (.k (.c (.int .i64 4)))⟩])
 (.cond (.t 41) .skip (.exit 2)))
 (.seq (.block 3 none none
 (.seq (.seq (.reg false [⟨some 44, none, .mov (.t 0)⟩,
 ⟨some 45, none, .mov (.t 5)⟩,
 ⟨some 46, none, .mov (.t 6)⟩,
 ⟨some 47, none, .ixs (.t 44) (.t 45) 14⟩,
 ⟨some 48, none, .fld (.t 47) 3⟩,
 ⟨some 49, none, .ixa (.t 48) (.t 46) 4 1⟩,
 ⟨some 50, none, .load1 (.t 49)⟩,
 ⟨some 51, none, .mov (.t 1)⟩,
 ⟨some 52, none, .bin .neq (.t 50) (.t 51)⟩])
 (.cond (.t 52) (.seq (.reg false [⟨some 4, none, .mov (.k (.c (.int .i64 (-1))))⟩])
 (.ret (some [4]))) .skip))
 (.reg false [⟨some 53, none, .mov (.t 1)⟩,
 ⟨some 54, none, .bin .add (.t 53) (.k (.c (.int .i64 1)))⟩,
 ⟨some 1, none, .mov (.t 54)⟩])))
 (.reg false [⟨some 42, none, .mov (.t 6)⟩,
 ⟨some 43, none, .bin .add (.t 42) (.k (.c (.int .i64 1)))⟩,
 ⟨some 6, none, .mov (.t 43)⟩])))
def c_laws_heldThreadS_b0 : IC :=
  (.seq (.seq (.reg false [⟨some 7, none, .mov (.t 5)⟩,
 ⟨some 8, none, .mov (.t 0)⟩,
 ⟨some 9, none, .len (.t 8)⟩,
 ⟨some 10, none, .bin .lss (.t 7) (.t 9)⟩])
 (.cond (.t 10) .skip (.exit 0)))
 (.seq (.block 1 none none
 (.seq (.seq (.reg false [⟨some 13, none, .mov (.t 0)⟩,
 ⟨some 14, none, .mov (.t 5)⟩,
 ⟨some 15, none, .ixs (.t 13) (.t 14) 14⟩,
 ⟨some 16, none, .fld (.t 15) 0⟩,
 ⟨some 17, none, .load1 (.t 16)⟩,
 ⟨some 18, none, .mov (.t 1)⟩,
 ⟨some 19, none, .bin .neq (.t 17) (.t 18)⟩])
 (.cond (.t 19) (.seq (.reg false [⟨some 4, none, .mov (.k (.c (.int .i64 (-1))))⟩])
 (.ret (some [4]))) .skip))
 (.seq (.reg false [⟨some 20, none, .mov (.t 1)⟩,
 ⟨some 21, none, .bin .add (.t 20) (.k (.c (.int .i64 1)))⟩,
 ⟨some 1, none, .mov (.t 21)⟩])
 (.seq (.reg false [⟨some 22, none, .mov (.t 0)⟩,
 ⟨some 23, none, .mov (.t 5)⟩,
 ⟨some 24, none, .ixs (.t 22) (.t 23) 14⟩,
 ⟨some 25, none, .fld (.t 24) 1⟩,
 ⟨some 26, none, .load1 (.t 25)⟩,
 ⟨some 27, none, .mov (.t 1)⟩,
 ⟨some 28, none, .call 154 [.t 26, .t 27]⟩,
 ⟨some 1, none, .mov (.t 28)⟩])
 (.seq (.seq (.reg false [⟨some 29, none, .mov (.t 1)⟩,
 ⟨some 30, none, .bin .lss (.t 29) (.k (.c (.int .i64 0)))⟩])
 (.cond (.t 30) (.seq (.reg false [⟨some 4, none, .mov (.k (.c (.int .i64 (-1))))⟩])
 (.ret (some [4]))) .skip))
 (.seq (.seq (.reg false [⟨some 31, none, .mov (.t 0)⟩,
 ⟨some 32, none, .mov (.t 5)⟩,
 ⟨some 33, none, .ixs (.t 31) (.t 32) 14⟩,
 ⟨some 34, none, .fld (.t 33) 2⟩,
 ⟨some 35, none, .load1 (.t 34)⟩,
 ⟨some 36, none, .mov (.t 1)⟩,
 ⟨some 37, none, .bin .neq (.t 35) (.t 36)⟩])
 (.cond (.t 37) (.seq (.reg false [⟨some 4, none, .mov (.k (.c (.int .i64 (-1))))⟩])
 (.ret (some [4]))) .skip))
 (.seq (.reg false [⟨some 38, none, .mov (.t 1)⟩,
 ⟨some 39, none, .bin .add (.t 38) (.k (.c (.int .i64 1)))⟩,
 ⟨some 1, none, .mov (.t 39)⟩])
 (.seq (.seq (.reg false [⟨some 6, none, .mov (.k (.c (.int .i64 0)))⟩])
 (.block 2 (some [0, 1, 5, 6]) (some [0, 1, 5])
 (.loop c_laws_heldThreadS_b1)))
 (.seq (.reg false [⟨some 55, none, .mov (.t 0)⟩,
 ⟨some 56, none, .mov (.t 5)⟩,
 ⟨some 57, none, .ixs (.t 55) (.t 56) 14⟩,
 ⟨some 58, none, .fld (.t 57) 7⟩,
 ⟨some 59, none, .load1 (.t 58)⟩,
 ⟨some 60, none, .mov (.t 1)⟩,
 ⟨some 61, none, .call 191 [.t 59, .t 60]⟩,
 ⟨some 1, none, .mov (.t 61)⟩])
 (.seq (.seq (.reg false [⟨some 62, none, .mov (.t 1)⟩,
 ⟨some 63, none, .bin .lss (.t 62) (.k (.c (.int .i64 0)))⟩])
 (.cond (.t 63) (.seq (.reg false [⟨some 4, none, .mov (.k (.c (.int .i64 (-1))))⟩])
 (.ret (some [4]))) .skip))
 (.seq (.seq (.reg false [⟨some 64, none, .mov (.t 0)⟩,
 ⟨some 65, none, .mov (.t 5)⟩,
 ⟨some 66, none, .ixs (.t 64) (.t 65) 14⟩,
 ⟨some 67, none, .fld (.t 66) 8⟩,
 ⟨some 68, none, .load1 (.t 67)⟩,
 ⟨some 69, none, .mov (.t 1)⟩,
 ⟨some 70, none, .bin .neq (.t 68) (.t 69)⟩])
 (.cond (.t 70) (.seq (.reg false [⟨some 4, none, .mov (.k (.c (.int .i64 (-1))))⟩])
 (.ret (some [4]))) .skip))
 (.seq (.reg false [⟨some 71, none, .mov (.t 1)⟩,
 ⟨some 72, none, .bin .add (.t 71) (.k (.c (.int .i64 1)))⟩,
 ⟨some 1, none, .mov (.t 72)⟩])
 (.seq (.reg false [⟨some 73, none, .mov (.t 0)⟩,
 ⟨some 74, none, .mov (.t 5)⟩,
 ⟨some 75, none, .ixs (.t 73) (.t 74) 14⟩,
 ⟨some 76, none, .fld (.t 75) 9⟩,
 ⟨some 77, none, .load1 (.t 76)⟩,
 ⟨some 78, none, .mov (.t 1)⟩,
 ⟨some 79, none, .call 192 [.t 77, .t 78]⟩,
 ⟨some 1, none, .mov (.t 79)⟩])
 (.seq (.seq (.reg false [⟨some 80, none, .mov (.t 1)⟩,
 ⟨some 81, none, .bin .lss (.t 80) (.k (.c (.int .i64 0)))⟩])
 (.cond (.t 81) (.seq (.reg false [⟨some 4, none, .mov (.k (.c (.int .i64 (-1))))⟩])
 (.ret (some [4]))) .skip))
 (.seq (.seq (.reg false [⟨some 82, none, .mov (.t 0)⟩,
 ⟨some 83, none, .mov (.t 5)⟩,
 ⟨some 84, none, .ixs (.t 82) (.t 83) 14⟩,
 ⟨some 85, none, .fld (.t 84) 10⟩,
 ⟨some 86, none, .load1 (.t 85)⟩,
 ⟨some 87, none, .mov (.t 1)⟩,
 ⟨some 88, none, .bin .neq (.t 86) (.t 87)⟩])
 (.cond (.t 88) (.seq (.reg false [⟨some 4, none, .mov (.k (.c (.int .i64 (-1))))⟩])
 (.ret (some [4]))) .skip))
 (.seq (.reg false [⟨some 89, none, .mov (.t 1)⟩,
 ⟨some 90, none, .bin .add (.t 89) (.k (.c (.int .i64 1)))⟩,
 ⟨some 1, none, .mov (.t 90)⟩])
 (.seq (.seq (.reg false [⟨some 91, none, .mov (.t 0)⟩,
 ⟨some 92, none, .mov (.t 5)⟩,
 ⟨some 93, none, .ixs (.t 91) (.t 92) 14⟩,
 ⟨some 94, none, .fld (.t 93) 11⟩,
 ⟨some 95, none, .load1 (.t 94)⟩,
 ⟨some 96, none, .mov (.t 1)⟩,
 ⟨some 97, none, .bin .neq (.t 95) (.t 96)⟩])
 (.cond (.t 97) (.seq (.reg false [⟨some 4, none, .mov (.k (.c (.int .i64 (-1))))⟩])
 (.ret (some [4]))) .skip))
 (.seq (.reg false [⟨some 98, none, .mov (.t 1)⟩,
 ⟨some 99, none, .bin .add (.t 98) (.k (.c (.int .i64 1)))⟩,
 ⟨some 1, none, .mov (.t 99)⟩])
 (.seq (.seq (.reg false [⟨some 100, none, .mov (.t 0)⟩,
 ⟨some 101, none, .mov (.t 5)⟩,
 ⟨some 102, none, .ixs (.t 100) (.t 101) 14⟩,
 ⟨some 103, none, .fld (.t 102) 12⟩,
 ⟨some 104, none, .load1 (.t 103)⟩,
 ⟨some 105, none, .mov (.t 1)⟩,
 ⟨some 106, none, .bin .neq (.t 104) (.t 105)⟩])
 (.cond (.t 106) (.seq (.reg false [⟨some 4, none, .mov (.k (.c (.int .i64 (-1))))⟩])
 (.ret (some [4]))) .skip))
 (.seq (.reg false [⟨some 107, none, .mov (.t 1)⟩,
 ⟨some 108, none, .bin .add (.t 107) (.k (.c (.int .i64 1)))⟩,
 ⟨some 1, none, .mov (.t 108)⟩])
 (.seq (.seq (.reg false [⟨some 109, none, .mov (.t 0)⟩,
 ⟨some 110, none, .mov (.t 5)⟩,
 ⟨some 111, none, .ixs (.t 109) (.t 110) 14⟩,
 ⟨some 112, none, .fld (.t 111) 13⟩,
 ⟨some 113, none, .load1 (.t 112)⟩,
 ⟨some 114, none, .mov (.t 1)⟩,
 ⟨some 115, none, .bin .neq (.t 113) (.t 114)⟩])
 (.cond (.t 115) (.seq (.reg false [⟨some 4, none, .mov (.k (.c (.int .i64 (-1))))⟩])
 (.ret (some [4]))) .skip))
 (.reg false [⟨some 116, none, .mov (.t 1)⟩,
 ⟨some 117, none, .bin .add (.t 116) (.k (.c (.int .i64 1)))⟩,
 ⟨some 1, none, .mov (.t 117)⟩]))))))))))))))))))))))
 (.reg false [⟨some 11, none, .mov (.t 5)⟩,
 ⟨some 12, none, .bin .add (.t 11) (.k (.c (.int .i64 1)))⟩,
 ⟨some 5, none, .mov (.t 12)⟩])))
def c_laws_heldThreadS : IFn := ⟨119, [.t 4],
  (.seq (.reg false [⟨some 4, none, .mov (.k (.c (.int .i64 0)))⟩])
 (.seq (.seq (.reg false [⟨some 5, none, .mov (.k (.c (.int .i64 0)))⟩])
 (.block 0 (some [0, 1, 5]) (some [1])
 (.loop c_laws_heldThreadS_b0)))
 (.seq (.reg false [⟨some 118, none, .mov (.t 1)⟩,
 ⟨some 4, none, .mov (.t 118)⟩])
 (.ret (some [4])))))⟩
theorem c_laws_heldThreadS_ok : trF Try.prog ⟨[(0, [0, 1, 5], [1]), (2, [0, 1, 5, 6], [0, 1, 5])], [4], false, false⟩ Try.f156 = some c_laws_heldThreadS := by kernel_rfl
end Go.Proofs.Ytdnfcomgdgdifaa
