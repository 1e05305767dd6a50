/-
  The functions of the program that the laws here reach, in the small language; each is what the translation gives (checked by the kernel).
-/
import Derived.Test.YtdnfcomgdgdifaaMD
import Derived.Test.YtdnfcomgdgdifaaProg
import Derived.KernelRfl
set_option linter.unusedVariables false
namespace Go.Proofs.Ytdnfcomgdgdifaa
def c_laws_FnRings : IFn := ⟨161, [.t 2],
  (.seq (.reg false [⟨some 2, none, .mov (.k (.c (.bool false)))⟩])
 (.seq (.seq (.reg false [⟨some 18, none, .mov (.t 0)⟩,
 ⟨some 19, none, .call 10 [.t 18]⟩])
 (.cond (.t 19) (.seq (.reg false [⟨some 2, none, .mov (.k (.c (.bool true)))⟩])
 (.ret (some [2]))) .skip))
 (.seq (.reg false [⟨some 20, none, .mov (.t 0)⟩,
 ⟨some 21, none, .call 11 [.t 20]⟩,
 ⟨some 3, none, .alloc [.int .i64 0, .int .i64 0, .int .i64 0, .int .i64 0, .int .i64 0, .int .i64 0, .int .i64 0, .int .i64 0, .int .i64 0, .int .i64 0] 26⟩,
 ⟨none, none, .store (.t 3) (.t 21) 10⟩])
 (.seq (.reg false [⟨some 22, none, .loadN (.t 3) 10⟩,
 ⟨some 23, none, .call 12 [.t 22]⟩,
 ⟨some 4, none, .mov (.t 23)⟩])
 (.seq (.reg false [⟨some 25, none, .loadN (.t 3) 10⟩,
 ⟨some 26, none, .call 13 [.t 25, .k (.c (.int .i64 77))]⟩,
 ⟨some 24, none, .mov (.t 26)⟩,
 ⟨some 27, none, .ext (.t 24) 0⟩,
 ⟨some 28, none, .ext (.t 24) 1⟩,
 ⟨some 5, none, .alloc [.int .i64 0, .int .i64 0, .int .i64 0, .int .i64 0, .int .i64 0, .int .i64 0, .int .i64 0, .int .i64 0, .int .i64 0, .int .i64 0] 26⟩,
 ⟨none, none, .store (.t 5) (.t 27) 10⟩,
 ⟨some 6, none, .mov (.t 28)⟩])
 (.seq (.seq (.reg false [⟨some 29, none, .loadN (.t 3) 10⟩,
 ⟨some 30, none, .call 14 [.t 29]⟩,
 ⟨some 31, none, .un .not (.t 30)⟩,
 ⟨some 32, none, .mov (.t 31)⟩,
 ⟨some 33, some (32, false), .mov (.t 4)⟩,
 ⟨some 34, some (32, false), .len (.t 33)⟩,
 ⟨some 35, some (32, false), .fld (.t 3) 9⟩,
 ⟨some 36, some (32, false), .load1 (.t 35)⟩,
 ⟨some 37, some (32, false), .bin .neq (.t 34) (.t 36)⟩,
 ⟨some 38, none, .pick (.t 32) (.k (.c (.bool true))) (.t 37)⟩,
 ⟨some 39, none, .mov (.t 38)⟩,
 ⟨some 40, some (39, false), .mov (.t 6)⟩,
 ⟨some 41, some (39, false), .bin .eql (.t 40) (.k (.c (.int .i64 2)))⟩,
 ⟨some 42, some (39, false), .mov (.t 4)⟩,
 ⟨some 43, some (39, false), .len (.t 42)⟩,
 ⟨some 44, some (39, false), .bin .eql (.t 43) (.k (.c (.int .i64 8)))⟩,
 ⟨some 45, some (39, false), .binb true (.t 41) (.t 44)⟩,
 ⟨some 46, none, .pick (.t 39) (.k (.c (.bool true))) (.t 45)⟩])
 (.cond (.t 46) (.seq (.reg false [⟨some 2, none, .mov (.k (.c (.bool false)))⟩])
 (.ret (some [2]))) .skip))
 (.seq (.seq (.reg false [⟨some 47, none, .mov (.t 6)⟩,
 ⟨some 48, none, .bin .eql (.t 47) (.k (.c (.int .i64 0)))⟩])
 (.cond (.t 48) (.seq (.reg false [⟨some 49, none, .loadN (.t 5) 10⟩,
 ⟨some 50, none, .call 12 [.t 49]⟩,
 ⟨some 7, none, .mov (.t 50)⟩])
 (.seq (.reg false [⟨some 51, none, .mov (.t 7)⟩,
 ⟨some 52, none, .len (.t 51)⟩,
 ⟨some 53, none, .mov (.t 4)⟩,
 ⟨some 54, none, .len (.t 53)⟩,
 ⟨some 55, none, .bin .add (.t 54) (.k (.c (.int .i64 1)))⟩,
 ⟨some 56, none, .bin .neq (.t 52) (.t 55)⟩,
 ⟨some 57, none, .mov (.t 56)⟩,
 ⟨some 58, some (57, false), .mov (.t 7)⟩,
 ⟨some 59, some (57, false), .mov (.t 4)⟩,
 ⟨some 60, some (57, false), .len (.t 59)⟩,
 ⟨some 61, some (57, false), .ixs (.t 58) (.t 60) 1⟩,
 ⟨some 62, some (57, false), .load1 (.t 61)⟩,
 ⟨some 63, some (57, false), .bin .neq (.t 62) (.k (.c (.int .i64 77)))⟩,
 ⟨some 64, none, .pick (.t 57) (.k (.c (.bool true))) (.t 63)⟩,
 ⟨some 65, none, .mov (.t 64)⟩,
 ⟨some 66, some (65, false), .mov (.t 7)⟩,
 ⟨some 67, some (65, false), .mov (.t 4)⟩,
 ⟨some 68, some (65, false), .len (.t 67)⟩,
 ⟨some 69, some (65, false), .sls (.t 66) 1 none (some (.t 68))⟩,
 ⟨some 70, some (65, false), .mov (.t 4)⟩,
 ⟨some 71, some (65, false), .call 15 [.t 69, .t 70]⟩,
 ⟨some 72, some (65, false), .un .not (.t 71)⟩,
 ⟨some 73, none, .pick (.t 65) (.k (.c (.bool true))) (.t 72)⟩])
 (.cond (.t 73) (.seq (.reg false [⟨some 2, none, .mov (.k (.c (.bool false)))⟩])
 (.ret (some [2]))) .skip))) .skip))
 (.seq (.reg false [⟨some 75, none, .loadN (.t 3) 10⟩,
 ⟨some 76, none, .call 16 [.t 75]⟩,
 ⟨some 74, none, .mov (.t 76)⟩,
 ⟨some 77, none, .ext (.t 74) 0⟩,
 ⟨some 78, none, .ext (.t 74) 1⟩,
 ⟨some 79, none, .ext (.t 74) 2⟩,
 ⟨some 8, none, .alloc [.int .i64 0, .int .i64 0, .int .i64 0, .int .i64 0, .int .i64 0, .int .i64 0, .int .i64 0, .int .i64 0, .int .i64 0, .int .i64 0] 26⟩,
 ⟨none, none, .store (.t 8) (.t 77) 10⟩,
 ⟨some 9, none, .mov (.t 78)⟩,
 ⟨some 10, none, .mov (.t 79)⟩])
 (.seq (.seq (.regE 0 [⟨⟨some 80, none, .mov (.t 10)⟩, 0, 0, false, []⟩,
 ⟨⟨some 81, none, .bin .eql (.t 80) (.k (.c (.int .i64 3)))⟩, 1, 0, false, []⟩,
 ⟨⟨some 82, none, .mov (.t 4)⟩, 2, 0, false, []⟩,
 ⟨⟨some 83, none, .len (.t 82)⟩, 3, 0, false, []⟩,
 ⟨⟨some 84, none, .bin .eql (.t 83) (.k (.c (.int .i64 0)))⟩, 4, 0, false, []⟩,
 ⟨⟨some 85, none, .binb true (.t 81) (.t 84)⟩, 5, 0, false, []⟩,
 ⟨⟨some 86, none, .mov (.t 85)⟩, 6, 0, false, []⟩,
 ⟨⟨some 87, some (86, false), .mov (.t 10)⟩, 7, 0, false, []⟩,
 ⟨⟨some 88, some (86, false), .bin .eql (.t 87) (.k (.c (.int .i64 0)))⟩, 8, 0, false, []⟩,
 ⟨⟨some 89, some (86, false), .mov (.t 88)⟩, 9, 0, false, []⟩,
 ⟨⟨some 90, some (89, true), .mov (.t 9)⟩, 10, 0, false, []⟩,
 ⟨⟨some 91, some (89, true), .mov (.t 4)⟩, 11, 0, false, []⟩,
 ⟨⟨some 92, some (89, true), .ixs (.t 91) (.k (.c (.int .i64 0))) 1⟩, 12, 0, false, []⟩,
 ⟨⟨some 93, some (89, true), .load1 (.t 92)⟩, 13, 0, false, []⟩,
 ⟨⟨some 94, some (89, true), .bin .neq (.t 90) (.t 93)⟩, 14, 0, false, []⟩,
 ⟨⟨some 95, some (89, true), .mov (.t 94)⟩, 15, 0, false, []⟩,
 ⟨⟨some 96, some (95, false), .loadN (.t 8) 10⟩, 16, 0, false, []⟩,
 ⟨⟨some 97, some (95, false), .call 12 [.t 96]⟩, 17, 0, false, []⟩,
 ⟨⟨some 98, some (95, false), .mov (.t 4)⟩, 18, 0, false, []⟩,
 ⟨⟨some 99, some (95, false), .sls (.t 98) 1 (some (.k (.c (.int .i64 1)))) none⟩, 19, 0, false, [17]⟩,
 ⟨⟨some 100, some (95, false), .call 15 [.t 97, .t 99]⟩, 20, 0, false, []⟩,
 ⟨⟨some 101, some (95, false), .un .not (.t 100)⟩, 21, 0, false, []⟩,
 ⟨⟨some 102, some (89, true), .pick (.t 95) (.k (.c (.bool true))) (.t 101)⟩, 22, 0, false, []⟩,
 ⟨⟨some 103, some (86, false), .pick (.t 89) (.t 102) (.k (.c (.bool false)))⟩, 23, 0, false, []⟩,
 ⟨⟨some 104, none, .pick (.t 86) (.k (.c (.bool true))) (.t 103)⟩, 24, 0, false, []⟩])
 (.cond (.t 104) (.seq (.reg false [⟨some 2, none, .mov (.k (.c (.bool false)))⟩])
 (.ret (some [2]))) .skip))
 (.seq (.reg false [⟨some 105, none, .bld [.int .i64 0, .int .i64 0, .int .i64 0, .int .i64 0, .int .i64 0, .int .i64 0, .int .i64 0, .int .i64 0, .int .i64 0, .int .i64 0] [(8, (1, .k (.c (.int .i64 3))))]⟩,
 ⟨some 11, none, .alloc [.int .i64 0, .int .i64 0, .int .i64 0, .int .i64 0, .int .i64 0, .int .i64 0, .int .i64 0, .int .i64 0, .int .i64 0, .int .i64 0] 26⟩,
 ⟨none, none, .store (.t 11) (.t 105) 10⟩])
 (.seq (.reg false [⟨some 106, none, .mov (.t 0)⟩,
 ⟨some 107, none, .call 17 [.t 106, .k (.c (.int .i64 1))]⟩,
 ⟨some 108, none, .bin .rem (.t 107) (.k (.c (.int .i64 9)))⟩,
 ⟨some 12, none, .mov (.t 108)⟩])
 (.seq (.reg false [⟨some 110, none, .loadN (.t 3) 10⟩,
 ⟨some 111, none, .loadN (.t 11) 10⟩,
 ⟨some 112, none, .mov (.t 12)⟩,
 ⟨some 113, none, .call 18 [.t 110, .t 111, .t 112]⟩,
 ⟨some 109, none, .mov (.t 113)⟩,
 ⟨some 114, none, .ext (.t 109) 0⟩,
 ⟨some 115, none, .ext (.t 109) 1⟩,
 ⟨some 116, none, .ext (.t 109) 2⟩,
 ⟨some 13, none, .alloc [.int .i64 0, .int .i64 0, .int .i64 0, .int .i64 0, .int .i64 0, .int .i64 0, .int .i64 0, .int .i64 0, .int .i64 0, .int .i64 0] 26⟩,
 ⟨some 14, none, .alloc [.int .i64 0, .int .i64 0, .int .i64 0, .int .i64 0, .int .i64 0, .int .i64 0, .int .i64 0, .int .i64 0, .int .i64 0, .int .i64 0] 26⟩,
 ⟨none, none, .store (.t 13) (.t 114) 10⟩,
 ⟨none, none, .store (.t 14) (.t 115) 10⟩,
 ⟨some 15, none, .mov (.t 116)⟩])
 (.seq (.seq (.regE 0 [⟨⟨some 117, none, .mov (.t 15)⟩, 0, 0, false, []⟩,
 ⟨⟨some 118, none, .bin .eql (.t 117) (.k (.c (.int .i64 0)))⟩, 1, 0, false, []⟩,
 ⟨⟨some 119, none, .mov (.t 118)⟩, 2, 0, false, []⟩,
 ⟨⟨some 120, some (119, true), .loadN (.t 14) 10⟩, 3, 0, false, []⟩,
 ⟨⟨some 121, some (119, true), .call 12 [.t 120]⟩, 4, 0, false, []⟩,
 ⟨⟨some 122, some (119, true), .mov (.t 4)⟩, 5, 0, false, []⟩,
 ⟨⟨some 123, some (119, true), .mov (.t 12)⟩, 6, 0, false, []⟩,
 ⟨⟨some 124, some (119, true), .sls (.t 122) 1 none (some (.t 123))⟩, 7, 0, false, [4]⟩,
 ⟨⟨some 125, some (119, true), .call 15 [.t 121, .t 124]⟩, 8, 0, false, []⟩,
 ⟨⟨some 126, some (119, true), .un .not (.t 125)⟩, 9, 0, false, []⟩,
 ⟨⟨some 127, some (119, true), .mov (.t 126)⟩, 10, 0, false, []⟩,
 ⟨⟨some 128, some (127, false), .loadN (.t 13) 10⟩, 11, 0, false, []⟩,
 ⟨⟨some 129, some (127, false), .call 12 [.t 128]⟩, 12, 0, false, []⟩,
 ⟨⟨some 130, some (127, false), .mov (.t 4)⟩, 13, 0, false, []⟩,
 ⟨⟨some 131, some (127, false), .mov (.t 12)⟩, 14, 0, false, []⟩,
 ⟨⟨some 132, some (127, false), .sls (.t 130) 1 (some (.t 131)) none⟩, 15, 0, false, [12]⟩,
 ⟨⟨some 133, some (127, false), .call 15 [.t 129, .t 132]⟩, 16, 0, false, []⟩,
 ⟨⟨some 134, some (127, false), .un .not (.t 133)⟩, 17, 0, false, []⟩,
 ⟨⟨some 135, some (119, true), .pick (.t 127) (.k (.c (.bool true))) (.t 134)⟩, 18, 0, false, []⟩,
 ⟨⟨some 136, none, .pick (.t 119) (.t 135) (.k (.c (.bool false)))⟩, 19, 0, false, []⟩,
 ⟨⟨some 137, none, .mov (.t 136)⟩, 20, 0, false, []⟩,
 ⟨⟨some 138, some (137, false), .mov (.t 15)⟩, 21, 0, false, []⟩,
 ⟨⟨some 139, some (137, false), .bin .eql (.t 138) (.k (.c (.int .i64 3)))⟩, 22, 0, false, []⟩,
 ⟨⟨some 140, some (137, false), .mov (.t 12)⟩, 23, 0, false, []⟩,
 ⟨⟨some 141, some (137, false), .mov (.t 4)⟩, 24, 0, false, []⟩,
 ⟨⟨some 142, some (137, false), .len (.t 141)⟩, 25, 0, false, []⟩,
 ⟨⟨some 143, some (137, false), .bin .gtr (.t 140) (.t 142)⟩, 26, 0, false, []⟩,
 ⟨⟨some 144, some (137, false), .binb true (.t 139) (.t 143)⟩, 27, 0, false, []⟩,
 ⟨⟨some 145, none, .pick (.t 137) (.k (.c (.bool true))) (.t 144)⟩, 28, 0, false, []⟩])
 (.cond (.t 145) (.seq (.reg false [⟨some 2, none, .mov (.k (.c (.bool false)))⟩])
 (.ret (some [2]))) .skip))
 (.seq (.reg false [⟨some 147, none, .loadN (.t 3) 10⟩,
 ⟨some 148, none, .mov (.t 4)⟩,
 ⟨some 149, none, .len (.t 148)⟩,
 ⟨some 150, none, .call 19 [.t 147, .t 149]⟩,
 ⟨some 146, none, .mov (.t 150)⟩,
 ⟨some 151, none, .ext (.t 146) 0⟩,
 ⟨some 152, none, .ext (.t 146) 1⟩,
 ⟨some 16, none, .alloc [.int .i64 0, .int .i64 0, .int .i64 0, .int .i64 0, .int .i64 0, .int .i64 0, .int .i64 0, .int .i64 0, .int .i64 0, .int .i64 0] 26⟩,
 ⟨none, none, .store (.t 16) (.t 151) 10⟩,
 ⟨some 17, none, .mov (.t 152)⟩])
 (.seq (.reg false [⟨some 153, none, .mov (.t 17)⟩,
 ⟨some 154, none, .bin .eql (.t 153) (.k (.c (.int .i64 0)))⟩,
 ⟨some 155, none, .mov (.t 154)⟩,
 ⟨some 156, some (155, true), .loadN (.t 16) 10⟩,
 ⟨some 157, some (155, true), .call 12 [.t 156]⟩,
 ⟨some 158, some (155, true), .mov (.t 4)⟩,
 ⟨some 159, some (155, true), .call 15 [.t 157, .t 158]⟩,
 ⟨some 160, none, .pick (.t 155) (.t 159) (.k (.c (.bool false)))⟩,
 ⟨some 2, none, .mov (.t 160)⟩])
 (.ret (some [2])))))))))))))))))⟩
theorem c_laws_FnRings_ok : trF Try.prog ⟨[], [2], true, true⟩ Try.f3 = some c_laws_FnRings := by kernel_rfl
def c_laws_FnExactTreeDrop : IFn := ⟨32, [.t 4],
  (.seq (.reg false [⟨some 2, none, .box (.t 0) 43⟩,
 ⟨some 4, none, .mov (.k (.c (.bool false)))⟩])
 (.seq (.reg false [⟨some 10, none, .loadN (.t 2) 65⟩,
 ⟨some 11, none, .call 21 [.t 10]⟩,
 ⟨some 12, none, .mov (.t 1)⟩,
 ⟨some 13, none, .call 20 [.t 11, .t 12]⟩,
 ⟨some 9, none, .mov (.t 13)⟩,
 ⟨some 14, none, .ext (.t 9) 0⟩,
 ⟨some 15, none, .ext (.t 9) 1⟩,
 ⟨some 5, none, .alloc [.bool false, .int .i64 0, .int .i64 0, .int .i64 0, .bool false, .int .i64 0, .int .i64 0, .int .i64 0, .bool false, .int .i64 0, .int .i64 0, .int .i64 0, .bool false, .int .i64 0, .int .i64 0, .int .i64 0, .bool false, .int .i64 0, .int .i64 0, .int .i64 0, .bool false, .int .i64 0, .int .i64 0, .int .i64 0, .bool false, .int .i64 0, .int .i64 0, .int .i64 0, .bool false, .int .i64 0, .int .i64 0, .int .i64 0, .bool false, .int .i64 0, .int .i64 0, .int .i64 0, .bool false, .int .i64 0, .int .i64 0, .int .i64 0, .bool false, .int .i64 0, .int .i64 0, .int .i64 0, .bool false, .int .i64 0, .int .i64 0, .int .i64 0, .bool false, .int .i64 0, .int .i64 0, .int .i64 0, .bool false, .int .i64 0, .int .i64 0, .int .i64 0, .bool false, .int .i64 0, .int .i64 0, .int .i64 0, .bool false, .int .i64 0, .int .i64 0, .int .i64 0, .int .i64 0] 47⟩,
 ⟨none, none, .store (.t 5) (.t 14) 65⟩,
 ⟨some 6, none, .mov (.t 15)⟩])
 (.seq (.reg false [⟨some 17, none, .loadN (.t 2) 65⟩,
 ⟨some 18, none, .call 21 [.t 17]⟩,
 ⟨some 19, none, .mov (.t 1)⟩,
 ⟨some 20, none, .call 22 [.t 18, .t 19]⟩,
 ⟨some 16, none, .mov (.t 20)⟩,
 ⟨some 21, none, .ext (.t 16) 0⟩,
 ⟨some 22, none, .ext (.t 16) 1⟩,
 ⟨some 7, none, .alloc [.bool false, .int .i64 0, .int .i64 0, .int .i64 0, .bool false, .int .i64 0, .int .i64 0, .int .i64 0, .bool false, .int .i64 0, .int .i64 0, .int .i64 0, .bool false, .int .i64 0, .int .i64 0, .int .i64 0, .bool false, .int .i64 0, .int .i64 0, .int .i64 0, .bool false, .int .i64 0, .int .i64 0, .int .i64 0, .bool false, .int .i64 0, .int .i64 0, .int .i64 0, .bool false, .int .i64 0, .int .i64 0, .int .i64 0, .bool false, .int .i64 0, .int .i64 0, .int .i64 0, .bool false, .int .i64 0, .int .i64 0, .int .i64 0, .bool false, .int .i64 0, .int .i64 0, .int .i64 0, .bool false, .int .i64 0, .int .i64 0, .int .i64 0, .bool false, .int .i64 0, .int .i64 0, .int .i64 0, .bool false, .int .i64 0, .int .i64 0, .int .i64 0, .bool false, .int .i64 0, .int .i64 0, .int .i64 0, .bool false, .int .i64 0, .int .i64 0, .int .i64 0, .int .i64 0] 47⟩,
 ⟨none, none, .store (.t 7) (.t 21) 65⟩,
 ⟨some 8, none, .mov (.t 22)⟩])
 (.seq (.seq (.reg false [⟨some 23, none, .loadN (.t 7) 65⟩,
 ⟨some 24, none, .loadN (.t 5) 65⟩,
 ⟨some 25, none, .call 23 [.t 23, .t 24]⟩,
 ⟨some 26, none, .un .not (.t 25)⟩,
 ⟨some 27, none, .mov (.t 26)⟩,
 ⟨some 28, some (27, false), .mov (.t 8)⟩,
 ⟨some 29, some (27, false), .mov (.t 6)⟩,
 ⟨some 30, some (27, false), .bin .neq (.t 28) (.t 29)⟩,
 ⟨some 31, none, .pick (.t 27) (.k (.c (.bool true))) (.t 30)⟩])
 (.cond (.t 31) (.seq (.reg false [⟨some 4, none, .mov (.k (.c (.bool false)))⟩])
 (.ret (some [4]))) .skip))
 (.seq (.reg false [⟨some 4, none, .mov (.k (.c (.bool true)))⟩])
 (.ret (some [4])))))))⟩
theorem c_laws_FnExactTreeDrop_ok : trF Try.prog ⟨[], [4], false, false⟩ Try.f4 = some c_laws_FnExactTreeDrop := by kernel_rfl
def c_laws_FnMaps_b0 : IC :=
  (.seq (.seq (.reg false [⟨some 47, none, .mov (.t 6)⟩,
 ⟨some 48, none, .mov (.t 4)⟩,
 ⟨some 49, none, .len (.t 48)⟩,
 ⟨some 50, none, .bin .lss (.t 47) (.t 49)⟩])
 (.cond (.t 50) .skip (.exit 0)))
 (.seq (.block 1 none none
 (.seq (.reg true [⟨some 53, none, .mov (.t 4)⟩,
 ⟨some 54, none, .mov (.t 6)⟩,
 ⟨some 55, none, .bin .sub (.t 54) (.k (.c (.int .i64 1)))⟩,
 ⟨some 56, none, .ixs (.t 53) (.t 55) 1⟩,
 ⟨some 57, none, .load1 (.t 56)⟩,
 ⟨some 58, none, .mov (.t 4)⟩,
 ⟨some 59, none, .mov (.t 6)⟩,
 ⟨some 60, none, .ixs (.t 58) (.t 59) 1⟩,
 ⟨some 61, none, .load1 (.t 60)⟩,
 ⟨some 62, none, .bin .geq (.t 57) (.t 61)⟩])
 (.cond (.t 62) (.seq (.reg false [⟨some 2, none, .mov (.k (.c (.bool false)))⟩])
 (.ret (some [2]))) .skip)))
 (.reg false [⟨some 51, none, .mov (.t 6)⟩,
 ⟨some 52, none, .bin .add (.t 51) (.k (.c (.int .i64 1)))⟩,
 ⟨some 6, none, .mov (.t 52)⟩])))
def c_laws_FnMaps_b1 : IC :=
  (.seq (.seq (.reg false [⟨some 154, none, .mov (.t 23)⟩,
 ⟨some 155, none, .mov (.t 21)⟩,
 ⟨some 156, none, .len (.t 155)⟩,
 ⟨some 157, none, .bin .lss (.t 154) (.t 156)⟩])
 (.cond (.t 157) .skip (.exit 2)))
 (.seq (.block 3 none none
 (.seq (.reg false [⟨some 160, none, .mov (.t 4)⟩,
 ⟨some 161, none, .mov (.t 21)⟩,
 ⟨some 162, none, .mov (.t 23)⟩,
 ⟨some 163, none, .ixs (.t 161) (.t 162) 1⟩,
 ⟨some 164, none, .load1 (.t 163)⟩,
 ⟨some 165, none, .call 31 [.t 160, .t 164]⟩,
 ⟨some 166, none, .un .not (.t 165)⟩,
 ⟨some 167, none, .mov (.t 166)⟩,
 ⟨some 168, some (167, false), .mov (.t 21)⟩,
 ⟨some 169, some (167, false), .mov (.t 23)⟩,
 ⟨some 170, some (167, false), .ixs (.t 168) (.t 169) 1⟩,
 ⟨some 171, some (167, false), .load1 (.t 170)⟩,
 ⟨some 172, some (167, false), .bin .lss (.t 171) (.k (.c (.int .i64 3)))⟩,
 ⟨some 173, none, .pick (.t 167) (.k (.c (.bool true))) (.t 172)⟩,
 ⟨some 174, none, .mov (.t 173)⟩,
 ⟨some 175, some (174, false), .mov (.t 21)⟩,
 ⟨some 176, some (174, false), .mov (.t 23)⟩,
 ⟨some 177, some (174, false), .ixs (.t 175) (.t 176) 1⟩,
 ⟨some 178, some (174, false), .load1 (.t 177)⟩,
 ⟨some 179, some (174, false), .bin .gtr (.t 178) (.k (.c (.int .i64 15)))⟩,
 ⟨some 180, none, .pick (.t 174) (.k (.c (.bool true))) (.t 179)⟩])
 (.cond (.t 180) (.seq (.reg false [⟨some 2, none, .mov (.k (.c (.bool false)))⟩])
 (.ret (some [2]))) .skip)))
 (.reg false [⟨some 158, none, .mov (.t 23)⟩,
 ⟨some 159, none, .bin .add (.t 158) (.k (.c (.int .i64 1)))⟩,
 ⟨some 23, none, .mov (.t 159)⟩])))
def c_laws_FnMaps_b2 : IC :=
  (.seq (.seq (.reg false [⟨some 181, none, .mov (.t 25)⟩,
 ⟨some 182, none, .mov (.t 4)⟩,
 ⟨some 183, none, .len (.t 182)⟩,
 ⟨some 184, none, .bin .lss (.t 181) (.t 183)⟩])
 (.cond (.t 184) .skip (.exit 4)))
 (.seq (.block 5 none none
 (.seq (.reg false [⟨some 187, none, .mov (.t 4)⟩,
 ⟨some 188, none, .mov (.t 25)⟩,
 ⟨some 189, none, .ixs (.t 187) (.t 188) 1⟩,
 ⟨some 190, none, .load1 (.t 189)⟩,
 ⟨some 191, none, .bin .geq (.t 190) (.k (.c (.int .i64 3)))⟩,
 ⟨some 192, none, .mov (.t 191)⟩,
 ⟨some 193, some (192, true), .mov (.t 4)⟩,
 ⟨some 194, some (192, true), .mov (.t 25)⟩,
 ⟨some 195, some (192, true), .ixs (.t 193) (.t 194) 1⟩,
 ⟨some 196, some (192, true), .load1 (.t 195)⟩,
 ⟨some 197, some (192, true), .bin .leq (.t 196) (.k (.c (.int .i64 15)))⟩,
 ⟨some 198, none, .pick (.t 192) (.t 197) (.k (.c (.bool false)))⟩])
 (.cond (.t 198) (.reg false [⟨some 199, none, .mov (.t 24)⟩,
 ⟨some 200, none, .bin .add (.t 199) (.k (.c (.int .i64 1)))⟩,
 ⟨some 24, none, .mov (.t 200)⟩]) .skip)))
 (.reg false [⟨some 185, none, .mov (.t 25)⟩,
 ⟨some 186, none, .bin .add (.t 185) (.k (.c (.int .i64 1)))⟩,
 ⟨some 25, none, .mov (.t 186)⟩])))
def c_laws_FnMaps : IFn := ⟨233, [.t 2],
  (.seq (.reg false [⟨some 2, none, .mov (.k (.c (.bool false)))⟩])
 (.seq (.seq (.reg false [⟨some 28, none, .mov (.t 0)⟩,
 ⟨some 29, none, .call 10 [.t 28]⟩])
 (.cond (.t 29) (.seq (.reg false [⟨some 2, none, .mov (.k (.c (.bool true)))⟩])
 (.ret (some [2]))) .skip))
 (.seq (.reg false [⟨some 30, none, .mov (.t 0)⟩,
 ⟨some 31, none, .call 24 [.t 30]⟩,
 ⟨some 3, none, .alloc [.bool false, .int .i64 0, .int .i64 0, .int .i64 0, .bool false, .int .i64 0, .int .i64 0, .int .i64 0, .bool false, .int .i64 0, .int .i64 0, .int .i64 0, .bool false, .int .i64 0, .int .i64 0, .int .i64 0, .bool false, .int .i64 0, .int .i64 0, .int .i64 0, .bool false, .int .i64 0, .int .i64 0, .int .i64 0, .bool false, .int .i64 0, .int .i64 0, .int .i64 0, .bool false, .int .i64 0, .int .i64 0, .int .i64 0, .bool false, .int .i64 0, .int .i64 0, .int .i64 0, .bool false, .int .i64 0, .int .i64 0, .int .i64 0, .bool false, .int .i64 0, .int .i64 0, .int .i64 0, .bool false, .int .i64 0, .int .i64 0, .int .i64 0, .bool false, .int .i64 0, .int .i64 0, .int .i64 0, .bool false, .int .i64 0, .int .i64 0, .int .i64 0, .bool false, .int .i64 0, .int .i64 0, .int .i64 0, .bool false, .int .i64 0, .int .i64 0, .int .i64 0, .int .i64 0] 57⟩,
 ⟨none, none, .store (.t 3) (.t 31) 65⟩])
 (.seq (.reg false [⟨some 33, none, .loadN (.t 3) 65⟩,
 ⟨some 34, none, .call 25 [.t 33]⟩,
 ⟨some 32, none, .mov (.t 34)⟩,
 ⟨some 35, none, .ext (.t 32) 0⟩,
 ⟨some 36, none, .ext (.t 32) 1⟩,
 ⟨some 4, none, .mov (.t 35)⟩,
 ⟨some 5, none, .mov (.t 36)⟩])
 (.seq (.seq (.reg false [⟨some 37, none, .loadN (.t 3) 65⟩,
 ⟨some 38, none, .call 26 [.t 37]⟩,
 ⟨some 39, none, .un .not (.t 38)⟩,
 ⟨some 40, none, .mov (.t 39)⟩,
 ⟨some 41, some (40, false), .mov (.t 4)⟩,
 ⟨some 42, some (40, false), .len (.t 41)⟩,
 ⟨some 43, some (40, false), .mov (.t 5)⟩,
 ⟨some 44, some (40, false), .len (.t 43)⟩,
 ⟨some 45, some (40, false), .bin .neq (.t 42) (.t 44)⟩,
 ⟨some 46, none, .pick (.t 40) (.k (.c (.bool true))) (.t 45)⟩])
 (.cond (.t 46) (.seq (.reg false [⟨some 2, none, .mov (.k (.c (.bool false)))⟩])
 (.ret (some [2]))) .skip))
 (.seq (.seq (.reg false [⟨some 6, none, .mov (.k (.c (.int .i64 1)))⟩])
 (.block 0 (some [0, 3, 4, 6]) (some [0, 3, 4])
 (.loop c_laws_FnMaps_b0)))
 (.seq (.reg false [⟨some 63, none, .mov (.t 0)⟩,
 ⟨some 64, none, .call 17 [.t 63, .k (.c (.int .i64 1))]⟩,
 ⟨some 65, none, .bin .rem (.t 64) (.k (.c (.int .i64 24)))⟩,
 ⟨some 66, none, .mov (.t 0)⟩,
 ⟨some 67, none, .call 17 [.t 66, .k (.c (.int .i64 2))]⟩,
 ⟨some 7, none, .mov (.t 65)⟩,
 ⟨some 8, none, .mov (.t 67)⟩])
 (.seq (.reg false [⟨some 69, none, .loadN (.t 3) 65⟩,
 ⟨some 70, none, .mov (.t 7)⟩,
 ⟨some 71, none, .mov (.t 8)⟩,
 ⟨some 72, none, .call 27 [.t 69, .t 70, .t 71]⟩,
 ⟨some 68, none, .mov (.t 72)⟩,
 ⟨some 73, none, .ext (.t 68) 0⟩,
 ⟨some 74, none, .ext (.t 68) 1⟩,
 ⟨some 75, none, .ext (.t 68) 2⟩,
 ⟨some 9, none, .alloc [.bool false, .int .i64 0, .int .i64 0, .int .i64 0, .bool false, .int .i64 0, .int .i64 0, .int .i64 0, .bool false, .int .i64 0, .int .i64 0, .int .i64 0, .bool false, .int .i64 0, .int .i64 0, .int .i64 0, .bool false, .int .i64 0, .int .i64 0, .int .i64 0, .bool false, .int .i64 0, .int .i64 0, .int .i64 0, .bool false, .int .i64 0, .int .i64 0, .int .i64 0, .bool false, .int .i64 0, .int .i64 0, .int .i64 0, .bool false, .int .i64 0, .int .i64 0, .int .i64 0, .bool false, .int .i64 0, .int .i64 0, .int .i64 0, .bool false, .int .i64 0, .int .i64 0, .int .i64 0, .bool false, .int .i64 0, .int .i64 0, .int .i64 0, .bool false, .int .i64 0, .int .i64 0, .int .i64 0, .bool false, .int .i64 0, .int .i64 0, .int .i64 0, .bool false, .int .i64 0, .int .i64 0, .int .i64 0, .bool false, .int .i64 0, .int .i64 0, .int .i64 0, .int .i64 0] 57⟩,
 ⟨none, none, .store (.t 9) (.t 73) 65⟩,
 ⟨some 10, none, .mov (.t 74)⟩,
 ⟨some 11, none, .mov (.t 75)⟩])
 (.seq (.reg false [⟨some 77, none, .loadN (.t 9) 65⟩,
 ⟨some 78, none, .mov (.t 7)⟩,
 ⟨some 79, none, .call 28 [.t 77, .t 78]⟩,
 ⟨some 76, none, .mov (.t 79)⟩,
 ⟨some 80, none, .ext (.t 76) 0⟩,
 ⟨some 81, none, .ext (.t 76) 1⟩,
 ⟨some 82, none, .ext (.t 76) 2⟩,
 ⟨some 12, none, .mov (.t 80)⟩,
 ⟨some 13, none, .mov (.t 81)⟩,
 ⟨some 14, none, .mov (.t 82)⟩])
 (.seq (.seq (.reg false [⟨some 83, none, .mov (.t 11)⟩,
 ⟨some 84, none, .bin .eql (.t 83) (.k (.c (.int .i64 0)))⟩,
 ⟨some 85, none, .mov (.t 84)⟩,
 ⟨some 86, some (85, true), .mov (.t 14)⟩,
 ⟨some 87, some (85, true), .bin .eql (.t 86) (.k (.c (.int .i64 0)))⟩,
 ⟨some 88, some (85, true), .mov (.t 87)⟩,
 ⟨some 89, some (88, true), .mov (.t 12)⟩,
 ⟨some 90, some (88, true), .mov (.t 8)⟩,
 ⟨some 91, some (88, true), .bin .neq (.t 89) (.t 90)⟩,
 ⟨some 92, some (85, true), .pick (.t 88) (.t 91) (.k (.c (.bool false)))⟩,
 ⟨some 93, some (85, true), .mov (.t 92)⟩,
 ⟨some 94, some (93, false), .mov (.t 14)⟩,
 ⟨some 95, some (93, false), .bin .eql (.t 94) (.k (.c (.int .i64 2)))⟩,
 ⟨some 96, some (93, false), .mov (.t 95)⟩,
 ⟨some 97, some (96, true), .mov (.t 10)⟩,
 ⟨some 98, some (96, true), .bin .lss (.t 97) (.k (.c (.int .i64 10)))⟩,
 ⟨some 99, some (93, false), .pick (.t 96) (.t 98) (.k (.c (.bool false)))⟩,
 ⟨some 100, some (85, true), .pick (.t 93) (.k (.c (.bool true))) (.t 99)⟩,
 ⟨some 101, some (85, true), .mov (.t 100)⟩,
 ⟨some 102, some (101, false), .mov (.t 14)⟩,
 ⟨some 103, some (101, false), .bin .eql (.t 102) (.k (.c (.int .i64 4)))⟩,
 ⟨some 104, some (85, true), .pick (.t 101) (.k (.c (.bool true))) (.t 103)⟩,
 ⟨some 105, none, .pick (.t 85) (.t 104) (.k (.c (.bool false)))⟩,
 ⟨some 106, none, .mov (.t 105)⟩,
 ⟨some 107, some (106, false), .loadN (.t 9) 65⟩,
 ⟨some 108, some (106, false), .call 26 [.t 107]⟩,
 ⟨some 109, some (106, false), .un .not (.t 108)⟩,
 ⟨some 110, none, .pick (.t 106) (.k (.c (.bool true))) (.t 109)⟩,
 ⟨some 111, none, .mov (.t 110)⟩,
 ⟨some 112, some (111, false), .mov (.t 10)⟩,
 ⟨some 113, some (111, false), .bin .gtr (.t 112) (.k (.c (.int .i64 10)))⟩,
 ⟨some 114, none, .pick (.t 111) (.k (.c (.bool true))) (.t 113)⟩,
 ⟨some 115, none, .mov (.t 114)⟩,
 ⟨some 116, some (115, false), .mov (.t 11)⟩,
 ⟨some 117, some (115, false), .bin .neq (.t 116) (.k (.c (.int .i64 0)))⟩,
 ⟨some 118, some (115, false), .mov (.t 117)⟩,
 ⟨some 119, some (118, true), .loadN (.t 9) 65⟩,
 ⟨some 120, some (118, true), .loadN (.t 3) 65⟩,
 ⟨some 121, some (118, true), .eqa true [none, some .i64, some .i64, some .i64, none, some .i64, some .i64, some .i64, none, some .i64, some .i64, some .i64, none, some .i64, some .i64, some .i64, none, some .i64, some .i64, some .i64, none, some .i64, some .i64, some .i64, none, some .i64, some .i64, some .i64, none, some .i64, some .i64, some .i64, none, some .i64, some .i64, some .i64, none, some .i64, some .i64, some .i64, none, some .i64, some .i64, some .i64, none, some .i64, some .i64, some .i64, none, some .i64, some .i64, some .i64, none, some .i64, some .i64, some .i64, none, some .i64, some .i64, some .i64, none, some .i64, some .i64, some .i64, some .i64] (.t 119) (.t 120)⟩,
 ⟨some 122, some (115, false), .pick (.t 118) (.t 121) (.k (.c (.bool false)))⟩,
 ⟨some 123, none, .pick (.t 115) (.k (.c (.bool true))) (.t 122)⟩])
 (.cond (.t 123) (.seq (.reg false [⟨some 2, none, .mov (.k (.c (.bool false)))⟩])
 (.ret (some [2]))) .skip))
 (.seq (.reg false [⟨some 125, none, .loadN (.t 9) 65⟩,
 ⟨some 126, none, .mov (.t 7)⟩,
 ⟨some 127, none, .call 29 [.t 125, .t 126]⟩,
 ⟨some 124, none, .mov (.t 127)⟩,
 ⟨some 128, none, .ext (.t 124) 0⟩,
 ⟨some 129, none, .ext (.t 124) 1⟩,
 ⟨some 130, none, .ext (.t 124) 2⟩,
 ⟨some 15, none, .alloc [.bool false, .int .i64 0, .int .i64 0, .int .i64 0, .bool false, .int .i64 0, .int .i64 0, .int .i64 0, .bool false, .int .i64 0, .int .i64 0, .int .i64 0, .bool false, .int .i64 0, .int .i64 0, .int .i64 0, .bool false, .int .i64 0, .int .i64 0, .int .i64 0, .bool false, .int .i64 0, .int .i64 0, .int .i64 0, .bool false, .int .i64 0, .int .i64 0, .int .i64 0, .bool false, .int .i64 0, .int .i64 0, .int .i64 0, .bool false, .int .i64 0, .int .i64 0, .int .i64 0, .bool false, .int .i64 0, .int .i64 0, .int .i64 0, .bool false, .int .i64 0, .int .i64 0, .int .i64 0, .bool false, .int .i64 0, .int .i64 0, .int .i64 0, .bool false, .int .i64 0, .int .i64 0, .int .i64 0, .bool false, .int .i64 0, .int .i64 0, .int .i64 0, .bool false, .int .i64 0, .int .i64 0, .int .i64 0, .bool false, .int .i64 0, .int .i64 0, .int .i64 0, .int .i64 0] 57⟩,
 ⟨none, none, .store (.t 15) (.t 128) 65⟩,
 ⟨some 16, none, .mov (.t 129)⟩,
 ⟨some 17, none, .mov (.t 130)⟩])
 (.seq (.reg false [⟨some 132, none, .loadN (.t 15) 65⟩,
 ⟨some 133, none, .mov (.t 7)⟩,
 ⟨some 134, none, .call 28 [.t 132, .t 133]⟩,
 ⟨some 131, none, .mov (.t 134)⟩,
 ⟨some 135, none, .ext (.t 131) 0⟩,
 ⟨some 136, none, .ext (.t 131) 1⟩,
 ⟨some 137, none, .ext (.t 131) 2⟩,
 ⟨some 18, none, .mov (.t 135)⟩,
 ⟨some 19, none, .mov (.t 136)⟩,
 ⟨some 20, none, .mov (.t 137)⟩])
 (.seq (.seq (.reg false [⟨some 138, none, .mov (.t 17)⟩,
 ⟨some 139, none, .bin .eql (.t 138) (.k (.c (.int .i64 0)))⟩,
 ⟨some 140, none, .mov (.t 139)⟩,
 ⟨some 141, some (140, true), .mov (.t 20)⟩,
 ⟨some 142, some (140, true), .bin .neq (.t 141) (.k (.c (.int .i64 4)))⟩,
 ⟨some 143, none, .pick (.t 140) (.t 142) (.k (.c (.bool false)))⟩,
 ⟨some 144, none, .mov (.t 143)⟩,
 ⟨some 145, some (144, false), .loadN (.t 15) 65⟩,
 ⟨some 146, some (144, false), .call 26 [.t 145]⟩,
 ⟨some 147, some (144, false), .un .not (.t 146)⟩,
 ⟨some 148, none, .pick (.t 144) (.k (.c (.bool true))) (.t 147)⟩])
 (.cond (.t 148) (.seq (.reg false [⟨some 2, none, .mov (.k (.c (.bool false)))⟩])
 (.ret (some [2]))) .skip))
 (.seq (.reg false [⟨some 150, none, .loadN (.t 3) 65⟩,
 ⟨some 151, none, .call 30 [.t 150, .k (.c (.int .i64 3)), .k (.c (.int .i64 15))]⟩,
 ⟨some 149, none, .mov (.t 151)⟩,
 ⟨some 152, none, .ext (.t 149) 0⟩,
 ⟨some 153, none, .ext (.t 149) 1⟩,
 ⟨some 21, none, .mov (.t 152)⟩,
 ⟨some 22, none, .mov (.t 153)⟩])
 (.seq (.seq (.reg false [⟨some 23, none, .mov (.k (.c (.int .i64 0)))⟩])
 (.block 2 (some [4, 21, 22, 23]) (some [4, 21, 22])
 (.loop c_laws_FnMaps_b1)))
 (.seq (.reg false [⟨some 24, none, .mov (.k (.c (.int .i64 0)))⟩])
 (.seq (.seq (.reg false [⟨some 25, none, .mov (.k (.c (.int .i64 0)))⟩])
 (.block 4 (some [4, 21, 22, 24, 25]) (some [21, 22, 24])
 (.loop c_laws_FnMaps_b2)))
 (.seq (.reg false [⟨some 202, none, .call 32 []⟩,
 ⟨some 203, none, .call 25 [.t 202]⟩,
 ⟨some 201, none, .mov (.t 203)⟩,
 ⟨some 204, none, .ext (.t 201) 0⟩,
 ⟨some 205, none, .ext (.t 201) 1⟩,
 ⟨some 26, none, .mov (.t 204)⟩,
 ⟨some 27, none, .mov (.t 205)⟩])
 (.seq (.reg false [⟨some 206, none, .mov (.t 22)⟩,
 ⟨some 207, none, .bin .eql (.t 206) (.k (.c (.int .i64 0)))⟩,
 ⟨some 208, none, .mov (.t 207)⟩,
 ⟨some 209, some (208, true), .mov (.t 24)⟩,
 ⟨some 210, some (208, true), .mov (.t 21)⟩,
 ⟨some 211, some (208, true), .len (.t 210)⟩,
 ⟨some 212, some (208, true), .bin .eql (.t 209) (.t 211)⟩,
 ⟨some 213, none, .pick (.t 208) (.t 212) (.k (.c (.bool false)))⟩,
 ⟨some 214, none, .mov (.t 213)⟩,
 ⟨some 215, some (214, false), .mov (.t 22)⟩,
 ⟨some 216, some (214, false), .bin .eql (.t 215) (.k (.c (.int .i64 2)))⟩,
 ⟨some 217, some (214, false), .mov (.t 216)⟩,
 ⟨some 218, some (217, true), .mov (.t 21)⟩,
 ⟨some 219, some (217, true), .len (.t 218)⟩,
 ⟨some 220, some (217, true), .bin .eql (.t 219) (.k (.c (.int .i64 0)))⟩,
 ⟨some 221, some (214, false), .pick (.t 217) (.t 220) (.k (.c (.bool false)))⟩,
 ⟨some 222, none, .pick (.t 214) (.k (.c (.bool true))) (.t 221)⟩,
 ⟨some 223, none, .mov (.t 222)⟩,
 ⟨some 224, some (223, true), .mov (.t 26)⟩,
 ⟨some 225, some (223, true), .len (.t 224)⟩,
 ⟨some 226, some (223, true), .bin .eql (.t 225) (.k (.c (.int .i64 0)))⟩,
 ⟨some 227, none, .pick (.t 223) (.t 226) (.k (.c (.bool false)))⟩,
 ⟨some 228, none, .mov (.t 227)⟩,
 ⟨some 229, some (228, true), .call 32 []⟩,
 ⟨some 230, some (228, true), .prt (.t 229) 64 1 false⟩,
 ⟨some 231, some (228, true), .bin .eql (.t 230) (.k (.c (.int .i64 (-1))))⟩,
 ⟨some 232, none, .pick (.t 228) (.t 231) (.k (.c (.bool false)))⟩,
 ⟨some 2, none, .mov (.t 232)⟩])
 (.ret (some [2])))))))))))))))))))))⟩
theorem c_laws_FnMaps_ok : trF Try.prog ⟨[(0, [0, 3, 4, 6], [0, 3, 4]), (2, [4, 21, 22, 23], [4, 21, 22]), (4, [4, 21, 22, 24, 25], [21, 22, 24])], [2], false, false⟩ Try.f5 = some c_laws_FnMaps := by kernel_rfl
def c_laws_FnTrees_b0 : IC :=
  (.seq (.seq (.reg false [⟨some 152, none, .mov (.t 16)⟩,
 ⟨some 153, none, .loadN (.t 13) 65⟩,
 ⟨some 154, none, .call 36 [.t 153]⟩,
 ⟨some 155, none, .bin .lss (.t 152) (.t 154)⟩])
 (.cond (.t 155) .skip (.exit 0)))
 (.seq (.block 1 none none
 (.reg false [⟨some 158, none, .mov (.t 15)⟩,
 ⟨some 159, none, .bin .mul (.k (.c (.int .i64 2))) (.t 158)⟩,
 ⟨some 15, none, .mov (.t 159)⟩]))
 (.reg false [⟨some 156, none, .mov (.t 16)⟩,
 ⟨some 157, none, .bin .add (.t 156) (.k (.c (.int .i64 1)))⟩,
 ⟨some 16, none, .mov (.t 157)⟩])))
def c_laws_FnTrees : IFn := ⟨175, [.t 2],
  (.seq (.reg false [⟨some 2, none, .mov (.k (.c (.bool false)))⟩])
 (.seq (.seq (.reg false [⟨some 17, none, .mov (.t 0)⟩,
 ⟨some 18, none, .call 10 [.t 17]⟩])
 (.cond (.t 18) (.seq (.reg false [⟨some 2, none, .mov (.k (.c (.bool true)))⟩])
 (.ret (some [2]))) .skip))
 (.seq (.reg false [⟨some 19, none, .mov (.t 0)⟩,
 ⟨some 20, none, .call 33 [.t 19]⟩,
 ⟨some 3, none, .alloc [.bool false, .int .i64 0, .int .i64 0, .int .i64 0, .bool false, .int .i64 0, .int .i64 0, .int .i64 0, .bool false, .int .i64 0, .int .i64 0, .int .i64 0, .bool false, .int .i64 0, .int .i64 0, .int .i64 0, .bool false, .int .i64 0, .int .i64 0, .int .i64 0, .bool false, .int .i64 0, .int .i64 0, .int .i64 0, .bool false, .int .i64 0, .int .i64 0, .int .i64 0, .bool false, .int .i64 0, .int .i64 0, .int .i64 0, .bool false, .int .i64 0, .int .i64 0, .int .i64 0, .bool false, .int .i64 0, .int .i64 0, .int .i64 0, .bool false, .int .i64 0, .int .i64 0, .int .i64 0, .bool false, .int .i64 0, .int .i64 0, .int .i64 0, .bool false, .int .i64 0, .int .i64 0, .int .i64 0, .bool false, .int .i64 0, .int .i64 0, .int .i64 0, .bool false, .int .i64 0, .int .i64 0, .int .i64 0, .bool false, .int .i64 0, .int .i64 0, .int .i64 0, .int .i64 0] 47⟩,
 ⟨none, none, .store (.t 3) (.t 20) 65⟩])
 (.seq (.reg false [⟨some 21, none, .loadN (.t 3) 65⟩,
 ⟨some 22, none, .call 34 [.t 21]⟩,
 ⟨some 4, none, .mov (.t 22)⟩])
 (.seq (.seq (.reg false [⟨some 23, none, .loadN (.t 3) 65⟩,
 ⟨some 24, none, .call 35 [.t 23]⟩,
 ⟨some 25, none, .un .not (.t 24)⟩,
 ⟨some 26, none, .mov (.t 25)⟩,
 ⟨some 27, some (26, false), .loadN (.t 3) 65⟩,
 ⟨some 28, some (26, false), .call 36 [.t 27]⟩,
 ⟨some 29, some (26, false), .mov (.t 4)⟩,
 ⟨some 30, some (26, false), .len (.t 29)⟩,
 ⟨some 31, some (26, false), .bin .gtr (.t 28) (.t 30)⟩,
 ⟨some 32, none, .pick (.t 26) (.k (.c (.bool true))) (.t 31)⟩,
 ⟨some 33, none, .mov (.t 32)⟩,
 ⟨some 34, some (33, false), .loadN (.t 3) 65⟩,
 ⟨some 35, some (33, false), .call 36 [.t 34]⟩,
 ⟨some 36, some (33, false), .bin .eql (.t 35) (.k (.c (.int .i64 0)))⟩,
 ⟨some 37, some (33, false), .mov (.t 4)⟩,
 ⟨some 38, some (33, false), .len (.t 37)⟩,
 ⟨some 39, some (33, false), .bin .eql (.t 38) (.k (.c (.int .i64 0)))⟩,
 ⟨some 40, some (33, false), .binb true (.t 36) (.t 39)⟩,
 ⟨some 41, none, .pick (.t 33) (.k (.c (.bool true))) (.t 40)⟩])
 (.cond (.t 41) (.seq (.reg false [⟨some 2, none, .mov (.k (.c (.bool false)))⟩])
 (.ret (some [2]))) .skip))
 (.seq (.reg false [⟨some 42, none, .mov (.t 0)⟩,
 ⟨some 43, none, .call 17 [.t 42, .k (.c (.int .i64 1))]⟩,
 ⟨some 44, none, .bin .rem (.t 43) (.k (.c (.int .i64 30)))⟩,
 ⟨some 5, none, .mov (.t 44)⟩])
 (.seq (.reg false [⟨some 46, none, .loadN (.t 3) 65⟩,
 ⟨some 47, none, .mov (.t 5)⟩,
 ⟨some 48, none, .call 37 [.t 46, .t 47]⟩,
 ⟨some 45, none, .mov (.t 48)⟩,
 ⟨some 49, none, .ext (.t 45) 0⟩,
 ⟨some 50, none, .ext (.t 45) 1⟩,
 ⟨some 6, none, .alloc [.bool false, .int .i64 0, .int .i64 0, .int .i64 0, .bool false, .int .i64 0, .int .i64 0, .int .i64 0, .bool false, .int .i64 0, .int .i64 0, .int .i64 0, .bool false, .int .i64 0, .int .i64 0, .int .i64 0, .bool false, .int .i64 0, .int .i64 0, .int .i64 0, .bool false, .int .i64 0, .int .i64 0, .int .i64 0, .bool false, .int .i64 0, .int .i64 0, .int .i64 0, .bool false, .int .i64 0, .int .i64 0, .int .i64 0, .bool false, .int .i64 0, .int .i64 0, .int .i64 0, .bool false, .int .i64 0, .int .i64 0, .int .i64 0, .bool false, .int .i64 0, .int .i64 0, .int .i64 0, .bool false, .int .i64 0, .int .i64 0, .int .i64 0, .bool false, .int .i64 0, .int .i64 0, .int .i64 0, .bool false, .int .i64 0, .int .i64 0, .int .i64 0, .bool false, .int .i64 0, .int .i64 0, .int .i64 0, .bool false, .int .i64 0, .int .i64 0, .int .i64 0, .int .i64 0] 47⟩,
 ⟨none, none, .store (.t 6) (.t 49) 65⟩,
 ⟨some 7, none, .mov (.t 50)⟩])
 (.seq (.reg false [⟨some 52, none, .loadN (.t 6) 65⟩,
 ⟨some 53, none, .mov (.t 5)⟩,
 ⟨some 54, none, .call 38 [.t 52, .t 53]⟩,
 ⟨some 51, none, .mov (.t 54)⟩,
 ⟨some 55, none, .ext (.t 51) 0⟩,
 ⟨some 56, none, .ext (.t 51) 1⟩,
 ⟨some 8, none, .mov (.t 55)⟩,
 ⟨some 9, none, .mov (.t 56)⟩])
 (.seq (.seq (.reg false [⟨some 57, none, .mov (.t 7)⟩,
 ⟨some 58, none, .bin .eql (.t 57) (.k (.c (.int .i64 0)))⟩,
 ⟨some 59, none, .mov (.t 58)⟩,
 ⟨some 60, some (59, true), .mov (.t 9)⟩,
 ⟨some 61, some (59, true), .bin .neq (.t 60) (.k (.c (.int .i64 4)))⟩,
 ⟨some 62, none, .pick (.t 59) (.t 61) (.k (.c (.bool false)))⟩,
 ⟨some 63, none, .mov (.t 62)⟩,
 ⟨some 64, some (63, true), .mov (.t 9)⟩,
 ⟨some 65, some (63, true), .bin .neq (.t 64) (.k (.c (.int .i64 2)))⟩,
 ⟨some 66, some (63, true), .mov (.t 65)⟩,
 ⟨some 67, some (66, false), .mov (.t 8)⟩,
 ⟨some 68, some (66, false), .bin .neq (.t 67) (.k (.c (.int .i64 8)))⟩,
 ⟨some 69, some (63, true), .pick (.t 66) (.k (.c (.bool true))) (.t 68)⟩,
 ⟨some 70, none, .pick (.t 63) (.t 69) (.k (.c (.bool false)))⟩,
 ⟨some 71, none, .mov (.t 70)⟩,
 ⟨some 72, some (71, false), .mov (.t 7)⟩,
 ⟨some 73, some (71, false), .bin .eql (.t 72) (.k (.c (.int .i64 4)))⟩,
 ⟨some 74, some (71, false), .mov (.t 7)⟩,
 ⟨some 75, some (71, false), .bin .neq (.t 74) (.k (.c (.int .i64 2)))⟩,
 ⟨some 76, some (71, false), .mov (.t 75)⟩,
 ⟨some 77, some (76, true), .mov (.t 4)⟩,
 ⟨some 78, some (76, true), .mov (.t 5)⟩,
 ⟨some 79, some (76, true), .call 31 [.t 77, .t 78]⟩,
 ⟨some 80, some (71, false), .pick (.t 76) (.t 79) (.k (.c (.bool false)))⟩,
 ⟨some 81, some (71, false), .binb true (.t 73) (.t 80)⟩,
 ⟨some 82, none, .pick (.t 71) (.k (.c (.bool true))) (.t 81)⟩,
 ⟨some 83, none, .mov (.t 82)⟩,
 ⟨some 84, some (83, false), .loadN (.t 6) 65⟩,
 ⟨some 85, some (83, false), .call 35 [.t 84]⟩,
 ⟨some 86, some (83, false), .un .not (.t 85)⟩,
 ⟨some 87, none, .pick (.t 83) (.k (.c (.bool true))) (.t 86)⟩])
 (.cond (.t 87) (.seq (.reg false [⟨some 2, none, .mov (.k (.c (.bool false)))⟩])
 (.ret (some [2]))) .skip))
 (.seq (.reg false [⟨some 89, none, .loadN (.t 6) 65⟩,
 ⟨some 90, none, .mov (.t 5)⟩,
 ⟨some 91, none, .call 22 [.t 89, .t 90]⟩,
 ⟨some 88, none, .mov (.t 91)⟩,
 ⟨some 92, none, .ext (.t 88) 0⟩,
 ⟨some 93, none, .ext (.t 88) 1⟩,
 ⟨some 10, none, .alloc [.bool false, .int .i64 0, .int .i64 0, .int .i64 0, .bool false, .int .i64 0, .int .i64 0, .int .i64 0, .bool false, .int .i64 0, .int .i64 0, .int .i64 0, .bool false, .int .i64 0, .int .i64 0, .int .i64 0, .bool false, .int .i64 0, .int .i64 0, .int .i64 0, .bool false, .int .i64 0, .int .i64 0, .int .i64 0, .bool false, .int .i64 0, .int .i64 0, .int .i64 0, .bool false, .int .i64 0, .int .i64 0, .int .i64 0, .bool false, .int .i64 0, .int .i64 0, .int .i64 0, .bool false, .int .i64 0, .int .i64 0, .int .i64 0, .bool false, .int .i64 0, .int .i64 0, .int .i64 0, .bool false, .int .i64 0, .int .i64 0, .int .i64 0, .bool false, .int .i64 0, .int .i64 0, .int .i64 0, .bool false, .int .i64 0, .int .i64 0, .int .i64 0, .bool false, .int .i64 0, .int .i64 0, .int .i64 0, .bool false, .int .i64 0, .int .i64 0, .int .i64 0, .int .i64 0] 47⟩,
 ⟨none, none, .store (.t 10) (.t 92) 65⟩,
 ⟨some 11, none, .mov (.t 93)⟩])
 (.seq (.reg false [⟨some 94, none, .loadN (.t 10) 65⟩,
 ⟨some 95, none, .call 34 [.t 94]⟩,
 ⟨some 12, none, .mov (.t 95)⟩])
 (.seq (.seq (.reg false [⟨some 96, none, .mov (.t 11)⟩,
 ⟨some 97, none, .bin .eql (.t 96) (.k (.c (.int .i64 0)))⟩,
 ⟨some 98, none, .mov (.t 97)⟩,
 ⟨some 99, some (98, true), .mov (.t 12)⟩,
 ⟨some 100, some (98, true), .mov (.t 5)⟩,
 ⟨some 101, some (98, true), .call 31 [.t 99, .t 100]⟩,
 ⟨some 102, some (98, true), .mov (.t 101)⟩,
 ⟨some 103, some (102, false), .mov (.t 12)⟩,
 ⟨some 104, some (102, false), .len (.t 103)⟩,
 ⟨some 105, some (102, false), .loadN (.t 6) 65⟩,
 ⟨some 106, some (102, false), .call 34 [.t 105]⟩,
 ⟨some 107, some (102, false), .len (.t 106)⟩,
 ⟨some 108, some (102, false), .bin .sub (.t 107) (.k (.c (.int .i64 1)))⟩,
 ⟨some 109, some (102, false), .bin .neq (.t 104) (.t 108)⟩,
 ⟨some 110, some (98, true), .pick (.t 102) (.k (.c (.bool true))) (.t 109)⟩,
 ⟨some 111, none, .pick (.t 98) (.t 110) (.k (.c (.bool false)))⟩,
 ⟨some 112, none, .mov (.t 111)⟩,
 ⟨some 113, some (112, false), .loadN (.t 10) 65⟩,
 ⟨some 114, some (112, false), .call 35 [.t 113]⟩,
 ⟨some 115, some (112, false), .un .not (.t 114)⟩,
 ⟨some 116, none, .pick (.t 112) (.k (.c (.bool true))) (.t 115)⟩,
 ⟨some 117, none, .mov (.t 116)⟩,
 ⟨some 118, some (117, false), .mov (.t 11)⟩,
 ⟨some 119, some (117, false), .bin .neq (.t 118) (.k (.c (.int .i64 0)))⟩,
 ⟨some 120, some (117, false), .mov (.t 119)⟩,
 ⟨some 121, some (120, true), .loadN (.t 10) 65⟩,
 ⟨some 122, some (120, true), .loadN (.t 6) 65⟩,
 ⟨some 123, some (120, true), .eqa true [none, some .i64, some .i64, some .i64, none, some .i64, some .i64, some .i64, none, some .i64, some .i64, some .i64, none, some .i64, some .i64, some .i64, none, some .i64, some .i64, some .i64, none, some .i64, some .i64, some .i64, none, some .i64, some .i64, some .i64, none, some .i64, some .i64, some .i64, none, some .i64, some .i64, some .i64, none, some .i64, some .i64, some .i64, none, some .i64, some .i64, some .i64, none, some .i64, some .i64, some .i64, none, some .i64, some .i64, some .i64, none, some .i64, some .i64, some .i64, none, some .i64, some .i64, some .i64, none, some .i64, some .i64, some .i64, some .i64] (.t 121) (.t 122)⟩,
 ⟨some 124, some (117, false), .pick (.t 120) (.t 123) (.k (.c (.bool false)))⟩,
 ⟨some 125, none, .pick (.t 117) (.k (.c (.bool true))) (.t 124)⟩])
 (.cond (.t 125) (.seq (.reg false [⟨some 2, none, .mov (.k (.c (.bool false)))⟩])
 (.ret (some [2]))) .skip))
 (.seq (.reg false [⟨some 127, none, .mov (.t 4)⟩,
 ⟨some 128, none, .call 39 [.t 127]⟩,
 ⟨some 126, none, .mov (.t 128)⟩,
 ⟨some 129, none, .ext (.t 126) 0⟩,
 ⟨some 130, none, .ext (.t 126) 1⟩,
 ⟨some 13, none, .alloc [.bool false, .int .i64 0, .int .i64 0, .int .i64 0, .bool false, .int .i64 0, .int .i64 0, .int .i64 0, .bool false, .int .i64 0, .int .i64 0, .int .i64 0, .bool false, .int .i64 0, .int .i64 0, .int .i64 0, .bool false, .int .i64 0, .int .i64 0, .int .i64 0, .bool false, .int .i64 0, .int .i64 0, .int .i64 0, .bool false, .int .i64 0, .int .i64 0, .int .i64 0, .bool false, .int .i64 0, .int .i64 0, .int .i64 0, .bool false, .int .i64 0, .int .i64 0, .int .i64 0, .bool false, .int .i64 0, .int .i64 0, .int .i64 0, .bool false, .int .i64 0, .int .i64 0, .int .i64 0, .bool false, .int .i64 0, .int .i64 0, .int .i64 0, .bool false, .int .i64 0, .int .i64 0, .int .i64 0, .bool false, .int .i64 0, .int .i64 0, .int .i64 0, .bool false, .int .i64 0, .int .i64 0, .int .i64 0, .bool false, .int .i64 0, .int .i64 0, .int .i64 0, .int .i64 0] 47⟩,
 ⟨none, none, .store (.t 13) (.t 129) 65⟩,
 ⟨some 14, none, .mov (.t 130)⟩])
 (.seq (.seq (.regE 0 [⟨⟨some 131, none, .mov (.t 14)⟩, 0, 0, false, []⟩,
 ⟨⟨some 132, none, .un .not (.t 131)⟩, 1, 0, false, []⟩,
 ⟨⟨some 133, none, .mov (.t 132)⟩, 2, 0, false, []⟩,
 ⟨⟨some 134, some (133, false), .loadN (.t 13) 65⟩, 3, 0, false, []⟩,
 ⟨⟨some 135, some (133, false), .call 35 [.t 134]⟩, 4, 0, false, []⟩,
 ⟨⟨some 136, some (133, false), .un .not (.t 135)⟩, 5, 0, false, []⟩,
 ⟨⟨some 137, none, .pick (.t 133) (.k (.c (.bool true))) (.t 136)⟩, 6, 0, false, []⟩,
 ⟨⟨some 138, none, .mov (.t 137)⟩, 7, 0, false, []⟩,
 ⟨⟨some 139, some (138, false), .loadN (.t 13) 65⟩, 8, 0, false, []⟩,
 ⟨⟨some 140, some (138, false), .call 34 [.t 139]⟩, 9, 0, false, []⟩,
 ⟨⟨some 141, some (138, false), .mov (.t 4)⟩, 10, 0, false, []⟩,
 ⟨⟨some 142, some (138, false), .call 15 [.t 140, .t 141]⟩, 11, 0, false, []⟩,
 ⟨⟨some 143, some (138, false), .un .not (.t 142)⟩, 12, 0, false, []⟩,
 ⟨⟨some 144, none, .pick (.t 138) (.k (.c (.bool true))) (.t 143)⟩, 13, 0, false, []⟩,
 ⟨⟨some 145, none, .mov (.t 144)⟩, 14, 0, false, []⟩,
 ⟨⟨some 146, some (145, false), .loadN (.t 13) 65⟩, 15, 0, false, []⟩,
 ⟨⟨some 147, some (145, false), .call 36 [.t 146]⟩, 16, 0, false, []⟩,
 ⟨⟨some 148, some (145, false), .loadN (.t 3) 65⟩, 17, 0, false, [16]⟩,
 ⟨⟨some 149, some (145, false), .call 36 [.t 148]⟩, 18, 0, false, []⟩,
 ⟨⟨some 150, some (145, false), .bin .gtr (.t 147) (.t 149)⟩, 19, 0, false, []⟩,
 ⟨⟨some 151, none, .pick (.t 145) (.k (.c (.bool true))) (.t 150)⟩, 20, 0, false, []⟩])
 (.cond (.t 151) (.seq (.reg false [⟨some 2, none, .mov (.k (.c (.bool false)))⟩])
 (.ret (some [2]))) .skip))
 (.seq (.reg false [⟨some 15, none, .mov (.k (.c (.int .i64 1)))⟩])
 (.seq (.seq (.reg false [⟨some 16, none, .mov (.k (.c (.int .i64 0)))⟩])
 (.block 0 (some [4, 13, 15, 16]) (some [4, 15])
 (.loop c_laws_FnTrees_b0)))
 (.seq (.reg false [⟨some 160, none, .mov (.t 4)⟩,
 ⟨some 161, none, .len (.t 160)⟩,
 ⟨some 162, none, .bin .eql (.t 161) (.k (.c (.int .i64 0)))⟩,
 ⟨some 163, none, .mov (.t 162)⟩,
 ⟨some 164, some (163, false), .mov (.t 15)⟩,
 ⟨some 165, some (163, false), .bin .quo (.t 164) (.k (.c (.int .i64 2)))⟩,
 ⟨some 166, some (163, false), .mov (.t 4)⟩,
 ⟨some 167, some (163, false), .len (.t 166)⟩,
 ⟨some 168, some (163, false), .bin .leq (.t 165) (.t 167)⟩,
 ⟨some 169, some (163, false), .mov (.t 168)⟩,
 ⟨some 170, some (169, true), .call 40 []⟩,
 ⟨some 171, some (169, true), .prt (.t 170) 64 1 false⟩,
 ⟨some 172, some (169, true), .bin .eql (.t 171) (.k (.c (.int .i64 (-1))))⟩,
 ⟨some 173, some (163, false), .pick (.t 169) (.t 172) (.k (.c (.bool false)))⟩,
 ⟨some 174, none, .pick (.t 163) (.k (.c (.bool true))) (.t 173)⟩,
 ⟨some 2, none, .mov (.t 174)⟩])
 (.ret (some [2])))))))))))))))))))⟩
theorem c_laws_FnTrees_ok : trF Try.prog ⟨[(0, [4, 13, 15, 16], [4, 15])], [2], true, true⟩ Try.f6 = some c_laws_FnTrees := by kernel_rfl
def c_laws_big : IFn := ⟨6, [.t 2],
  (.seq (.reg false [⟨some 2, none, .mov (.k (.c (.bool false)))⟩])
 (.seq (.reg false [⟨some 3, none, .mov (.t 0)⟩,
 ⟨some 4, none, .len (.t 3)⟩,
 ⟨some 5, none, .bin .gtr (.t 4) (.k (.c (.int .i64 1048576)))⟩,
 ⟨some 2, none, .mov (.t 5)⟩])
 (.ret (some [2]))))⟩
theorem c_laws_big_ok : trF Try.prog ⟨[], [2], false, false⟩ Try.f10 = some c_laws_big := by kernel_rfl
def c_spec_DrawRing : IFn := ⟨6, [.cell 2 10 true],
  (.seq (.reg false [⟨some 2, none, .alloc [.int .i64 0, .int .i64 0, .int .i64 0, .int .i64 0, .int .i64 0, .int .i64 0, .int .i64 0, .int .i64 0, .int .i64 0, .int .i64 0] 26⟩])
 (.seq (.reg false [⟨some 3, none, .mov (.t 0)⟩,
 ⟨some 4, none, .call 61 [.t 3]⟩,
 ⟨some 5, none, .call 60 [.t 4]⟩,
 ⟨none, none, .store (.t 2) (.t 5) 10⟩])
 (.ret (some [2]))))⟩
theorem c_spec_DrawRing_ok : trF Try.prog ⟨[], [2], false, false⟩ Try.f11 = some c_spec_DrawRing := by kernel_rfl
def c_impl_RingList_b0 : IC :=
  (.seq (.reg false [⟨some 13, none, .bin .lss (.t 12) (.t 11)⟩])
 (.seq (.cond (.t 13) .skip (.exit 0))
 (.seq (.block 1 none none
 (.seq (.reg false [⟨some 14, none, .mov (.t 12)⟩,
 ⟨some 4, none, .mov (.t 14)⟩])
 (.reg false [⟨some 15, none, .mov (.t 3)⟩,
 ⟨some 16, none, .fld (.t 1) 8⟩,
 ⟨some 17, none, .load1 (.t 16)⟩,
 ⟨some 18, none, .mov (.t 4)⟩,
 ⟨some 19, none, .bin .add (.t 17) (.t 18)⟩,
 ⟨some 20, none, .bin .rem (.t 19) (.k (.c (.int .i64 8)))⟩,
 ⟨some 21, none, .fld (.t 1) 0⟩,
 ⟨some 22, none, .ixa (.t 21) (.t 20) 8 1⟩,
 ⟨some 23, none, .load1 (.t 22)⟩,
 ⟨some 24, none, .lit 1 1 [.int .i64 0] [(0, .t 23)] 3⟩,
 ⟨some 25, none, .app (.t 15) (.t 24) 3 1 8⟩,
 ⟨some 3, none, .mov (.t 25)⟩])))
 (.reg false [⟨some 26, none, .bin .add (.t 12) (.k (.c (.int .i64 1)))⟩,
 ⟨some 12, none, .mov (.t 26)⟩]))))
def c_impl_RingList : IFn := ⟨28, [.t 2],
  (.seq (.reg false [⟨some 1, none, .box (.t 0) 26⟩,
 ⟨some 2, none, .mov (.k (.c .nils))⟩])
 (.seq (.reg false [⟨some 5, none, .lit 0 1 [.int .i64 0] [] 3⟩,
 ⟨some 3, none, .mov (.t 5)⟩])
 (.seq (.seq (.reg false [⟨some 6, none, .loadN (.t 1) 10⟩,
 ⟨some 7, none, .call 14 [.t 6]⟩,
 ⟨some 8, none, .un .not (.t 7)⟩])
 (.cond (.t 8) (.seq (.reg false [⟨some 9, none, .mov (.t 3)⟩,
 ⟨some 2, none, .mov (.t 9)⟩])
 (.ret (some [2]))) .skip))
 (.seq (.seq (.reg false [⟨some 10, none, .fld (.t 1) 9⟩,
 ⟨some 11, none, .load1 (.t 10)⟩,
 ⟨some 12, none, .mov (.k (.c (.int .i64 0)))⟩])
 (.block 0 (some [1, 3, 11, 12]) (some [3])
 (.loop c_impl_RingList_b0)))
 (.seq (.reg false [⟨some 27, none, .mov (.t 3)⟩,
 ⟨some 2, none, .mov (.t 27)⟩])
 (.ret (some [2])))))))⟩
theorem c_impl_RingList_ok : trF Try.prog ⟨[(0, [1, 3, 11, 12], [3])], [2], false, false⟩ Try.f12 = some c_impl_RingList := by kernel_rfl
def c_impl_RingPut : IFn := ⟨35, [.cell 4 10 true, .t 5],
  (.seq (.reg false [⟨some 2, none, .box (.t 0) 26⟩,
 ⟨some 4, none, .alloc [.int .i64 0, .int .i64 0, .int .i64 0, .int .i64 0, .int .i64 0, .int .i64 0, .int .i64 0, .int .i64 0, .int .i64 0, .int .i64 0] 26⟩,
 ⟨some 5, none, .mov (.k (.c (.int .i64 0)))⟩])
 (.seq (.block 0 none none
 (.seq (.reg false [⟨some 7, none, .loadN (.t 2) 10⟩,
 ⟨some 8, none, .call 14 [.t 7]⟩,
 ⟨some 9, none, .un .not (.t 8)⟩,
 ⟨some 10, none, .mov (.t 9)⟩,
 ⟨some 11, some (10, false), .mov (.t 1)⟩,
 ⟨some 12, some (10, false), .call 62 [.t 11]⟩,
 ⟨some 13, some (10, false), .un .not (.t 12)⟩,
 ⟨some 14, none, .pick (.t 10) (.k (.c (.bool true))) (.t 13)⟩,
 ⟨some 6, none, .mov (.t 14)⟩])
 (.cond (.t 6) (.seq (.reg false [⟨some 15, none, .loadN (.t 2) 10⟩,
 ⟨none, none, .store (.t 4) (.t 15) 10⟩,
 ⟨some 5, none, .mov (.k (.c (.int .i64 1)))⟩])
 (.ret (some [4, 5]))) (.seq (.reg false [⟨some 17, none, .fld (.t 2) 9⟩,
 ⟨some 18, none, .load1 (.t 17)⟩,
 ⟨some 19, none, .bin .eql (.t 18) (.k (.c (.int .i64 8)))⟩,
 ⟨some 16, none, .mov (.t 19)⟩])
 (.cond (.t 16) (.seq (.reg false [⟨some 20, none, .loadN (.t 2) 10⟩,
 ⟨none, none, .store (.t 4) (.t 20) 10⟩,
 ⟨some 5, none, .mov (.k (.c (.int .i64 2)))⟩])
 (.ret (some [4, 5]))) .skip)))))
 (.seq (.reg false [⟨some 21, none, .fld (.t 2) 8⟩,
 ⟨some 22, none, .load1 (.t 21)⟩,
 ⟨some 23, none, .fld (.t 2) 9⟩,
 ⟨some 24, none, .load1 (.t 23)⟩,
 ⟨some 25, none, .bin .add (.t 22) (.t 24)⟩,
 ⟨some 26, none, .bin .rem (.t 25) (.k (.c (.int .i64 8)))⟩,
 ⟨some 27, none, .mov (.t 1)⟩,
 ⟨some 28, none, .fld (.t 2) 0⟩,
 ⟨some 29, none, .ixa (.t 28) (.t 26) 8 1⟩,
 ⟨none, none, .store (.t 29) (.t 27) 1⟩])
 (.seq (.reg false [⟨some 30, none, .fld (.t 2) 9⟩,
 ⟨some 31, none, .load1 (.t 30)⟩,
 ⟨some 32, none, .bin .add (.t 31) (.k (.c (.int .i64 1)))⟩,
 ⟨some 33, none, .fld (.t 2) 9⟩,
 ⟨none, none, .store (.t 33) (.t 32) 1⟩])
 (.seq (.reg false [⟨some 34, none, .loadN (.t 2) 10⟩,
 ⟨none, none, .store (.t 4) (.t 34) 10⟩,
 ⟨some 5, none, .mov (.k (.c (.int .i64 0)))⟩])
 (.ret (some [4, 5])))))))⟩
theorem c_impl_RingPut_ok : trF Try.prog ⟨[], [4, 5], false, false⟩ Try.f13 = some c_impl_RingPut := by kernel_rfl
def c_impl_RingOk_b0 : IC :=
  (.seq (.seq (.reg false [⟨some 22, none, .mov (.t 3)⟩,
 ⟨some 23, none, .bin .lss (.t 22) (.k (.c (.int .i64 8)))⟩])
 (.cond (.t 23) .skip (.exit 0)))
 (.seq (.block 1 none none
 (.seq (.reg false [⟨some 26, none, .fld (.t 1) 8⟩,
 ⟨some 27, none, .load1 (.t 26)⟩,
 ⟨some 28, none, .mov (.t 3)⟩,
 ⟨some 29, none, .bin .add (.t 27) (.t 28)⟩,
 ⟨some 30, none, .bin .rem (.t 29) (.k (.c (.int .i64 8)))⟩,
 ⟨some 31, none, .fld (.t 1) 0⟩,
 ⟨some 32, none, .ixa (.t 31) (.t 30) 8 1⟩,
 ⟨some 33, none, .load1 (.t 32)⟩,
 ⟨some 34, none, .bin .neq (.t 33) (.k (.c (.int .i64 0)))⟩])
 (.cond (.t 34) (.seq (.reg false [⟨some 2, none, .mov (.k (.c (.bool false)))⟩])
 (.ret (some [2]))) .skip)))
 (.reg false [⟨some 24, none, .mov (.t 3)⟩,
 ⟨some 25, none, .bin .add (.t 24) (.k (.c (.int .i64 1)))⟩,
 ⟨some 3, none, .mov (.t 25)⟩])))
def c_impl_RingOk : IFn := ⟨35, [.t 2],
  (.seq (.reg false [⟨some 1, none, .box (.t 0) 26⟩,
 ⟨some 2, none, .mov (.k (.c (.bool false)))⟩])
 (.seq (.seq (.reg false [⟨some 4, none, .fld (.t 1) 8⟩,
 ⟨some 5, none, .load1 (.t 4)⟩,
 ⟨some 6, none, .call 63 [.t 5, .k (.c (.int .i64 0)), .k (.c (.int .i64 7))]⟩,
 ⟨some 7, none, .un .not (.t 6)⟩,
 ⟨some 8, none, .mov (.t 7)⟩,
 ⟨some 9, some (8, false), .fld (.t 1) 9⟩,
 ⟨some 10, some (8, false), .load1 (.t 9)⟩,
 ⟨some 11, some (8, false), .call 63 [.t 10, .k (.c (.int .i64 0)), .k (.c (.int .i64 8))]⟩,
 ⟨some 12, some (8, false), .un .not (.t 11)⟩,
 ⟨some 13, none, .pick (.t 8) (.k (.c (.bool true))) (.t 12)⟩,
 ⟨some 14, none, .mov (.t 13)⟩,
 ⟨some 15, some (14, false), .fld (.t 1) 0⟩,
 ⟨some 16, some (14, false), .sla (.t 15) 8 1 none none⟩,
 ⟨some 17, some (14, false), .call 64 [.t 16]⟩,
 ⟨some 18, some (14, false), .un .not (.t 17)⟩,
 ⟨some 19, none, .pick (.t 14) (.k (.c (.bool true))) (.t 18)⟩])
 (.cond (.t 19) (.seq (.reg false [⟨some 2, none, .mov (.k (.c (.bool false)))⟩])
 (.ret (some [2]))) .skip))
 (.seq (.seq (.reg false [⟨some 20, none, .fld (.t 1) 9⟩,
 ⟨some 21, none, .load1 (.t 20)⟩,
 ⟨some 3, none, .mov (.t 21)⟩])
 (.block 0 (some [1, 3]) (some [])
 (.loop c_impl_RingOk_b0)))
 (.seq (.reg false [⟨some 2, none, .mov (.k (.c (.bool true)))⟩])
 (.ret (some [2]))))))⟩
theorem c_impl_RingOk_ok : trF Try.prog ⟨[(0, [1, 3], [])], [2], false, false⟩ Try.f14 = some c_impl_RingOk := by kernel_rfl
def c_laws_sameInts_b0 : IC :=
  (.seq (.seq (.reg false [⟨some 11, none, .mov (.t 5)⟩,
 ⟨some 12, none, .mov (.t 0)⟩,
 ⟨some 13, none, .len (.t 12)⟩,
 ⟨some 14, none, .bin .lss (.t 11) (.t 13)⟩])
 (.cond (.t 14) .skip (.exit 0)))
 (.seq (.block 1 none none
 (.seq (.reg true [⟨some 17, none, .mov (.t 0)⟩,
 ⟨some 18, none, .mov (.t 5)⟩,
 ⟨some 19, none, .ixs (.t 17) (.t 18) 1⟩,
 ⟨some 20, none, .load1 (.t 19)⟩,
 ⟨some 21, none, .mov (.t 1)⟩,
 ⟨some 22, none, .mov (.t 5)⟩,
 ⟨some 23, none, .ixs (.t 21) (.t 22) 1⟩,
 ⟨some 24, none, .load1 (.t 23)⟩,
 ⟨some 25, none, .bin .neq (.t 20) (.t 24)⟩])
 (.cond (.t 25) (.seq (.reg false [⟨some 4, none, .mov (.k (.c (.bool false)))⟩])
 (.ret (some [4]))) .skip)))
 (.reg false [⟨some 15, none, .mov (.t 5)⟩,
 ⟨some 16, none, .bin .add (.t 15) (.k (.c (.int .i64 1)))⟩,
 ⟨some 5, none, .mov (.t 16)⟩])))
def c_laws_sameInts : IFn := ⟨26, [.t 4],
  (.seq (.reg false [⟨some 4, none, .mov (.k (.c (.bool false)))⟩])
 (.seq (.seq (.reg false [⟨some 6, none, .mov (.t 0)⟩,
 ⟨some 7, none, .len (.t 6)⟩,
 ⟨some 8, none, .mov (.t 1)⟩,
 ⟨some 9, none, .len (.t 8)⟩,
 ⟨some 10, none, .bin .neq (.t 7) (.t 9)⟩])
 (.cond (.t 10) (.seq (.reg false [⟨some 4, none, .mov (.k (.c (.bool false)))⟩])
 (.ret (some [4]))) .skip))
 (.seq (.seq (.reg false [⟨some 5, none, .mov (.k (.c (.int .i64 0)))⟩])
 (.block 0 (some [0, 1, 5]) (some [])
 (.loop c_laws_sameInts_b0)))
 (.seq (.reg false [⟨some 4, none, .mov (.k (.c (.bool true)))⟩])
 (.ret (some [4]))))))⟩
theorem c_laws_sameInts_ok : trF Try.prog ⟨[(0, [0, 1, 5], [])], [4], false, false⟩ Try.f15 = some c_laws_sameInts := by kernel_rfl
def c_impl_RingTake : IFn := ⟨36, [.cell 2 10 true, .t 3, .t 4],
  (.seq (.reg false [⟨some 1, none, .box (.t 0) 26⟩,
 ⟨some 2, none, .alloc [.int .i64 0, .int .i64 0, .int .i64 0, .int .i64 0, .int .i64 0, .int .i64 0, .int .i64 0, .int .i64 0, .int .i64 0, .int .i64 0] 26⟩,
 ⟨some 3, none, .mov (.k (.c (.int .i64 0)))⟩,
 ⟨some 4, none, .mov (.k (.c (.int .i64 0)))⟩])
 (.seq (.block 0 none none
 (.seq (.reg false [⟨some 7, none, .loadN (.t 1) 10⟩,
 ⟨some 8, none, .call 14 [.t 7]⟩,
 ⟨some 9, none, .un .not (.t 8)⟩,
 ⟨some 6, none, .mov (.t 9)⟩])
 (.cond (.t 6) (.seq (.reg false [⟨some 10, none, .loadN (.t 1) 10⟩,
 ⟨none, none, .store (.t 2) (.t 10) 10⟩,
 ⟨some 3, none, .mov (.k (.c (.int .i64 0)))⟩,
 ⟨some 4, none, .mov (.k (.c (.int .i64 1)))⟩])
 (.ret (some [2, 3, 4]))) (.seq (.reg false [⟨some 12, none, .fld (.t 1) 9⟩,
 ⟨some 13, none, .load1 (.t 12)⟩,
 ⟨some 14, none, .bin .eql (.t 13) (.k (.c (.int .i64 0)))⟩,
 ⟨some 11, none, .mov (.t 14)⟩])
 (.cond (.t 11) (.seq (.reg false [⟨some 15, none, .loadN (.t 1) 10⟩,
 ⟨none, none, .store (.t 2) (.t 15) 10⟩,
 ⟨some 3, none, .mov (.k (.c (.int .i64 0)))⟩,
 ⟨some 4, none, .mov (.k (.c (.int .i64 3)))⟩])
 (.ret (some [2, 3, 4]))) .skip)))))
 (.seq (.reg false [⟨some 16, none, .fld (.t 1) 8⟩,
 ⟨some 17, none, .load1 (.t 16)⟩,
 ⟨some 18, none, .fld (.t 1) 0⟩,
 ⟨some 19, none, .ixa (.t 18) (.t 17) 8 1⟩,
 ⟨some 20, none, .load1 (.t 19)⟩,
 ⟨some 5, none, .mov (.t 20)⟩])
 (.seq (.reg false [⟨some 21, none, .fld (.t 1) 8⟩,
 ⟨some 22, none, .load1 (.t 21)⟩,
 ⟨some 23, none, .fld (.t 1) 0⟩,
 ⟨some 24, none, .ixa (.t 23) (.t 22) 8 1⟩,
 ⟨none, none, .store (.t 24) (.k (.c (.int .i64 0))) 1⟩])
 (.seq (.reg false [⟨some 25, none, .fld (.t 1) 8⟩,
 ⟨some 26, none, .load1 (.t 25)⟩,
 ⟨some 27, none, .bin .add (.t 26) (.k (.c (.int .i64 1)))⟩,
 ⟨some 28, none, .bin .rem (.t 27) (.k (.c (.int .i64 8)))⟩,
 ⟨some 29, none, .fld (.t 1) 8⟩,
 ⟨none, none, .store (.t 29) (.t 28) 1⟩])
 (.seq (.reg false [⟨some 30, none, .fld (.t 1) 9⟩,
 ⟨some 31, none, .load1 (.t 30)⟩,
 ⟨some 32, none, .bin .sub (.t 31) (.k (.c (.int .i64 1)))⟩,
 ⟨some 33, none, .fld (.t 1) 9⟩,
 ⟨none, none, .store (.t 33) (.t 32) 1⟩])
 (.seq (.reg false [⟨some 34, none, .loadN (.t 1) 10⟩,
 ⟨some 35, none, .mov (.t 5)⟩,
 ⟨none, none, .store (.t 2) (.t 34) 10⟩,
 ⟨some 3, none, .mov (.t 35)⟩,
 ⟨some 4, none, .mov (.k (.c (.int .i64 0)))⟩])
 (.ret (some [2, 3, 4])))))))))⟩
theorem c_impl_RingTake_ok : trF Try.prog ⟨[], [2, 3, 4], false, false⟩ Try.f16 = some c_impl_RingTake := by kernel_rfl
def c_laws_at : IFn := ⟨20, [.t 4],
  (.seq (.reg false [⟨some 4, none, .mov (.k (.c (.int .i64 0)))⟩])
 (.seq (.seq (.reg false [⟨some 5, none, .mov (.t 1)⟩,
 ⟨some 6, none, .mov (.t 0)⟩,
 ⟨some 7, none, .len (.t 6)⟩,
 ⟨some 8, none, .bin .lss (.t 5) (.t 7)⟩])
 (.cond (.t 8) (.seq (.reg false [⟨some 9, none, .mov (.t 0)⟩,
 ⟨some 10, none, .mov (.t 1)⟩,
 ⟨some 11, none, .ixs (.t 9) (.t 10) 1⟩,
 ⟨some 12, none, .load1 (.t 11)⟩,
 ⟨some 13, none, .cvt .i64 (.t 12)⟩,
 ⟨some 4, none, .mov (.t 13)⟩])
 (.ret (some [4]))) .skip))
 (.seq (.reg false [⟨some 14, none, .mov (.t 1)⟩,
 ⟨some 15, none, .bin .mul (.t 14) (.k (.c (.int .i64 7)))⟩,
 ⟨some 16, none, .mov (.t 0)⟩,
 ⟨some 17, none, .len (.t 16)⟩,
 ⟨some 18, none, .bin .add (.t 15) (.t 17)⟩,
 ⟨some 19, none, .bin .rem (.t 18) (.k (.c (.int .i64 256)))⟩,
 ⟨some 4, none, .mov (.t 19)⟩])
 (.ret (some [4])))))⟩
theorem c_laws_at_ok : trF Try.prog ⟨[], [4], false, false⟩ Try.f17 = some c_laws_at := by kernel_rfl
def c_impl_RingMove_b0 : IC :=
  (.seq (.reg false [⟨some 43, none, .bin .lss (.t 42) (.t 41)⟩])
 (.seq (.cond (.t 43) .skip (.exit 1))
 (.seq (.block 2 none none
 (.seq (.reg false [⟨some 9, none, .mov (.k (.c (.int .i64 0)))⟩])
 (.seq (.reg false [⟨some 45, none, .loadN (.t 3) 10⟩,
 ⟨some 46, none, .call 16 [.t 45]⟩,
 ⟨some 44, none, .mov (.t 46)⟩,
 ⟨some 47, none, .ext (.t 44) 0⟩,
 ⟨some 48, none, .ext (.t 44) 1⟩,
 ⟨some 49, none, .ext (.t 44) 2⟩,
 ⟨none, none, .store (.t 3) (.t 47) 10⟩,
 ⟨some 9, none, .mov (.t 48)⟩])
 (.reg false [⟨some 51, none, .loadN (.t 4) 10⟩,
 ⟨some 52, none, .mov (.t 9)⟩,
 ⟨some 53, none, .call 13 [.t 51, .t 52]⟩,
 ⟨some 50, none, .mov (.t 53)⟩,
 ⟨some 54, none, .ext (.t 50) 0⟩,
 ⟨some 55, none, .ext (.t 50) 1⟩,
 ⟨none, none, .store (.t 4) (.t 54) 10⟩]))))
 (.reg false [⟨some 56, none, .bin .add (.t 42) (.k (.c (.int .i64 1)))⟩,
 ⟨some 42, none, .mov (.t 56)⟩]))))
def c_impl_RingMove : IFn := ⟨59, [.cell 6 10 true, .cell 7 10 true, .t 8],
  (.seq (.reg false [⟨some 3, none, .box (.t 0) 26⟩,
 ⟨some 4, none, .box (.t 1) 26⟩,
 ⟨some 6, none, .alloc [.int .i64 0, .int .i64 0, .int .i64 0, .int .i64 0, .int .i64 0, .int .i64 0, .int .i64 0, .int .i64 0, .int .i64 0, .int .i64 0] 26⟩,
 ⟨some 7, none, .alloc [.int .i64 0, .int .i64 0, .int .i64 0, .int .i64 0, .int .i64 0, .int .i64 0, .int .i64 0, .int .i64 0, .int .i64 0, .int .i64 0] 26⟩,
 ⟨some 8, none, .mov (.k (.c (.int .i64 0)))⟩])
 (.seq (.block 0 none none
 (.seq (.reg false [⟨some 11, none, .loadN (.t 3) 10⟩,
 ⟨some 12, none, .call 14 [.t 11]⟩,
 ⟨some 13, none, .un .not (.t 12)⟩,
 ⟨some 14, none, .mov (.t 13)⟩,
 ⟨some 15, some (14, false), .loadN (.t 4) 10⟩,
 ⟨some 16, some (14, false), .call 14 [.t 15]⟩,
 ⟨some 17, some (14, false), .un .not (.t 16)⟩,
 ⟨some 18, none, .pick (.t 14) (.k (.c (.bool true))) (.t 17)⟩,
 ⟨some 19, none, .mov (.t 18)⟩,
 ⟨some 20, some (19, false), .mov (.t 2)⟩,
 ⟨some 21, some (19, false), .call 63 [.t 20, .k (.c (.int .i64 0)), .k (.c (.int .i64 8))]⟩,
 ⟨some 22, some (19, false), .un .not (.t 21)⟩,
 ⟨some 23, none, .pick (.t 19) (.k (.c (.bool true))) (.t 22)⟩,
 ⟨some 10, none, .mov (.t 23)⟩])
 (.cond (.t 10) (.seq (.regE 0 [⟨⟨some 24, none, .loadN (.t 3) 10⟩, 0, 0, false, []⟩,
 ⟨⟨some 25, none, .loadN (.t 4) 10⟩, 1, 0, false, []⟩,
 ⟨⟨none, none, .store (.t 6) (.t 24) 10⟩, 2, 0, false, [1]⟩,
 ⟨⟨none, none, .store (.t 7) (.t 25) 10⟩, 3, 0, false, []⟩,
 ⟨⟨some 8, none, .mov (.k (.c (.int .i64 1)))⟩, 4, 0, false, []⟩])
 (.ret (some [6, 7, 8]))) (.seq (.reg false [⟨some 27, none, .fld (.t 3) 9⟩,
 ⟨some 28, none, .load1 (.t 27)⟩,
 ⟨some 29, none, .mov (.t 2)⟩,
 ⟨some 30, none, .bin .lss (.t 28) (.t 29)⟩,
 ⟨some 26, none, .mov (.t 30)⟩])
 (.cond (.t 26) (.seq (.regE 0 [⟨⟨some 31, none, .loadN (.t 3) 10⟩, 0, 0, false, []⟩,
 ⟨⟨some 32, none, .loadN (.t 4) 10⟩, 1, 0, false, []⟩,
 ⟨⟨none, none, .store (.t 6) (.t 31) 10⟩, 2, 0, false, [1]⟩,
 ⟨⟨none, none, .store (.t 7) (.t 32) 10⟩, 3, 0, false, []⟩,
 ⟨⟨some 8, none, .mov (.k (.c (.int .i64 3)))⟩, 4, 0, false, []⟩])
 (.ret (some [6, 7, 8]))) (.seq (.reg false [⟨some 34, none, .fld (.t 4) 9⟩,
 ⟨some 35, none, .load1 (.t 34)⟩,
 ⟨some 36, none, .mov (.t 2)⟩,
 ⟨some 37, none, .bin .add (.t 35) (.t 36)⟩,
 ⟨some 38, none, .bin .gtr (.t 37) (.k (.c (.int .i64 8)))⟩,
 ⟨some 33, none, .mov (.t 38)⟩])
 (.cond (.t 33) (.seq (.regE 0 [⟨⟨some 39, none, .loadN (.t 3) 10⟩, 0, 0, false, []⟩,
 ⟨⟨some 40, none, .loadN (.t 4) 10⟩, 1, 0, false, []⟩,
 ⟨⟨none, none, .store (.t 6) (.t 39) 10⟩, 2, 0, false, [1]⟩,
 ⟨⟨none, none, .store (.t 7) (.t 40) 10⟩, 3, 0, false, []⟩,
 ⟨⟨some 8, none, .mov (.k (.c (.int .i64 2)))⟩, 4, 0, false, []⟩])
 (.ret (some [6, 7, 8]))) .skip)))))))
 (.seq (.seq (.reg false [⟨some 41, none, .mov (.t 2)⟩,
 ⟨some 42, none, .mov (.k (.c (.int .i64 0)))⟩])
 (.block 1 (some [3, 4, 6, 7, 41, 42]) (some [3, 4, 6, 7])
 (.loop c_impl_RingMove_b0)))
 (.seq (.regE 0 [⟨⟨some 57, none, .loadN (.t 3) 10⟩, 0, 0, false, []⟩,
 ⟨⟨some 58, none, .loadN (.t 4) 10⟩, 1, 0, false, []⟩,
 ⟨⟨none, none, .store (.t 6) (.t 57) 10⟩, 2, 0, false, [1]⟩,
 ⟨⟨none, none, .store (.t 7) (.t 58) 10⟩, 3, 0, false, []⟩,
 ⟨⟨some 8, none, .mov (.k (.c (.int .i64 0)))⟩, 4, 0, false, []⟩])
 (.ret (some [6, 7, 8]))))))⟩
theorem c_impl_RingMove_ok : trF Try.prog ⟨[(1, [3, 4, 6, 7, 41, 42], [3, 4, 6, 7])], [6, 7, 8], false, false⟩ Try.f18 = some c_impl_RingMove := by kernel_rfl
def c_impl_RingTurn_b0 : IC :=
  (.seq (.reg false [⟨some 20, none, .bin .lss (.t 19) (.t 18)⟩])
 (.seq (.cond (.t 20) .skip (.exit 0))
 (.seq (.block 1 none none
 (.seq (.reg false [⟨some 22, none, .loadN (.t 2) 10⟩,
 ⟨some 23, none, .call 16 [.t 22]⟩,
 ⟨some 21, none, .mov (.t 23)⟩,
 ⟨some 24, none, .ext (.t 21) 0⟩,
 ⟨some 25, none, .ext (.t 21) 1⟩,
 ⟨some 26, none, .ext (.t 21) 2⟩,
 ⟨some 6, none, .alloc [.int .i64 0, .int .i64 0, .int .i64 0, .int .i64 0, .int .i64 0, .int .i64 0, .int .i64 0, .int .i64 0, .int .i64 0, .int .i64 0] 26⟩,
 ⟨none, none, .store (.t 6) (.t 24) 10⟩,
 ⟨some 7, none, .mov (.t 25)⟩,
 ⟨some 8, none, .mov (.t 26)⟩])
 (.seq (.reg false [⟨some 27, none, .mov (.t 8)⟩,
 ⟨some 28, none, .bin .eql (.t 27) (.k (.c (.int .i64 0)))⟩])
 (.cond (.t 28) (.reg false [⟨some 30, none, .loadN (.t 6) 10⟩,
 ⟨some 31, none, .mov (.t 7)⟩,
 ⟨some 32, none, .call 13 [.t 30, .t 31]⟩,
 ⟨some 29, none, .mov (.t 32)⟩,
 ⟨some 33, none, .ext (.t 29) 0⟩,
 ⟨some 34, none, .ext (.t 29) 1⟩,
 ⟨none, none, .store (.t 2) (.t 33) 10⟩]) .skip))))
 (.reg false [⟨some 35, none, .bin .add (.t 19) (.k (.c (.int .i64 1)))⟩,
 ⟨some 19, none, .mov (.t 35)⟩]))))
def c_impl_RingTurn : IFn := ⟨37, [.cell 4 10 true, .t 5],
  (.seq (.reg false [⟨some 2, none, .box (.t 0) 26⟩,
 ⟨some 4, none, .alloc [.int .i64 0, .int .i64 0, .int .i64 0, .int .i64 0, .int .i64 0, .int .i64 0, .int .i64 0, .int .i64 0, .int .i64 0, .int .i64 0] 26⟩,
 ⟨some 5, none, .mov (.k (.c (.int .i64 0)))⟩])
 (.seq (.seq (.reg false [⟨some 9, none, .loadN (.t 2) 10⟩,
 ⟨some 10, none, .call 14 [.t 9]⟩,
 ⟨some 11, none, .un .not (.t 10)⟩,
 ⟨some 12, none, .mov (.t 11)⟩,
 ⟨some 13, some (12, false), .mov (.t 1)⟩,
 ⟨some 14, some (12, false), .call 63 [.t 13, .k (.c (.int .i64 0)), .k (.c (.int .i64 1000))]⟩,
 ⟨some 15, some (12, false), .un .not (.t 14)⟩,
 ⟨some 16, none, .pick (.t 12) (.k (.c (.bool true))) (.t 15)⟩])
 (.cond (.t 16) (.seq (.reg false [⟨some 17, none, .loadN (.t 2) 10⟩,
 ⟨none, none, .store (.t 4) (.t 17) 10⟩,
 ⟨some 5, none, .mov (.k (.c (.int .i64 1)))⟩])
 (.ret (some [4, 5]))) .skip))
 (.seq (.seq (.reg false [⟨some 18, none, .mov (.t 1)⟩,
 ⟨some 19, none, .mov (.k (.c (.int .i64 0)))⟩])
 (.block 0 (some [2, 4, 18, 19]) (some [2, 4])
 (.loop c_impl_RingTurn_b0)))
 (.seq (.reg false [⟨some 36, none, .loadN (.t 2) 10⟩,
 ⟨none, none, .store (.t 4) (.t 36) 10⟩,
 ⟨some 5, none, .mov (.k (.c (.int .i64 0)))⟩])
 (.ret (some [4, 5]))))))⟩
theorem c_impl_RingTurn_ok : trF Try.prog ⟨[(0, [2, 4, 18, 19], [2, 4])], [4, 5], false, false⟩ Try.f19 = some c_impl_RingTurn := by kernel_rfl
def c_spec_TreeDrop_b0 : IC :=
  (.seq (.seq (.reg false [⟨some 63, none, .mov (.t 14)⟩,
 ⟨some 64, none, .fld (.t 2) 0⟩,
 ⟨some 65, none, .ixa (.t 64) (.t 63) 16 4⟩,
 ⟨some 66, none, .fld (.t 65) 2⟩,
 ⟨some 67, none, .load1 (.t 66)⟩,
 ⟨some 68, none, .bin .geq (.t 67) (.k (.c (.int .i64 0)))⟩])
 (.cond (.t 68) .skip (.exit 0)))
 (.block 1 none none
 (.seq (.reg false [⟨some 69, none, .mov (.t 14)⟩,
 ⟨some 13, none, .mov (.t 69)⟩])
 (.seq (.reg false [⟨some 70, none, .mov (.t 14)⟩,
 ⟨some 71, none, .fld (.t 2) 0⟩,
 ⟨some 72, none, .ixa (.t 71) (.t 70) 16 4⟩,
 ⟨some 73, none, .fld (.t 72) 2⟩,
 ⟨some 74, none, .load1 (.t 73)⟩,
 ⟨some 14, none, .mov (.t 74)⟩])
 (.reg false [⟨some 75, none, .mov (.t 12)⟩,
 ⟨some 76, none, .bin .add (.t 75) (.k (.c (.int .i64 1)))⟩,
 ⟨some 12, none, .mov (.t 76)⟩])))))
def c_spec_TreeDrop : IFn := ⟨135, [.cell 4 65 true, .t 5],
  (.seq (.reg false [⟨some 2, none, .box (.t 0) 47⟩,
 ⟨some 4, none, .alloc [.bool false, .int .i64 0, .int .i64 0, .int .i64 0, .bool false, .int .i64 0, .int .i64 0, .int .i64 0, .bool false, .int .i64 0, .int .i64 0, .int .i64 0, .bool false, .int .i64 0, .int .i64 0, .int .i64 0, .bool false, .int .i64 0, .int .i64 0, .int .i64 0, .bool false, .int .i64 0, .int .i64 0, .int .i64 0, .bool false, .int .i64 0, .int .i64 0, .int .i64 0, .bool false, .int .i64 0, .int .i64 0, .int .i64 0, .bool false, .int .i64 0, .int .i64 0, .int .i64 0, .bool false, .int .i64 0, .int .i64 0, .int .i64 0, .bool false, .int .i64 0, .int .i64 0, .int .i64 0, .bool false, .int .i64 0, .int .i64 0, .int .i64 0, .bool false, .int .i64 0, .int .i64 0, .int .i64 0, .bool false, .int .i64 0, .int .i64 0, .int .i64 0, .bool false, .int .i64 0, .int .i64 0, .int .i64 0, .bool false, .int .i64 0, .int .i64 0, .int .i64 0, .int .i64 0] 47⟩,
 ⟨some 5, none, .mov (.k (.c (.int .i64 0)))⟩])
 (.seq (.seq (.reg false [⟨some 16, none, .loadN (.t 2) 65⟩,
 ⟨some 17, none, .call 65 [.t 16]⟩,
 ⟨some 18, none, .un .not (.t 17)⟩,
 ⟨some 19, none, .mov (.t 18)⟩,
 ⟨some 20, some (19, false), .mov (.t 1)⟩,
 ⟨some 21, some (19, false), .call 66 [.t 20]⟩,
 ⟨some 22, some (19, false), .un .not (.t 21)⟩,
 ⟨some 23, none, .pick (.t 19) (.k (.c (.bool true))) (.t 22)⟩])
 (.cond (.t 23) (.seq (.reg false [⟨some 24, none, .loadN (.t 2) 65⟩,
 ⟨none, none, .store (.t 4) (.t 24) 65⟩,
 ⟨some 5, none, .mov (.k (.c (.int .i64 1)))⟩])
 (.ret (some [4, 5]))) .skip))
 (.seq (.reg false [⟨some 26, none, .loadN (.t 2) 65⟩,
 ⟨some 27, none, .mov (.t 1)⟩,
 ⟨some 28, none, .call 67 [.t 26, .t 27]⟩,
 ⟨some 25, none, .mov (.t 28)⟩,
 ⟨some 29, none, .ext (.t 25) 0⟩,
 ⟨some 30, none, .ext (.t 25) 1⟩,
 ⟨some 31, none, .ext (.t 25) 2⟩,
 ⟨some 6, none, .mov (.t 29)⟩,
 ⟨some 7, none, .mov (.t 30)⟩,
 ⟨some 8, none, .mov (.t 31)⟩])
 (.seq (.seq (.reg false [⟨some 32, none, .mov (.t 8)⟩,
 ⟨some 33, none, .un .not (.t 32)⟩])
 (.cond (.t 33) (.seq (.reg false [⟨some 34, none, .loadN (.t 2) 65⟩,
 ⟨none, none, .store (.t 4) (.t 34) 65⟩,
 ⟨some 5, none, .mov (.k (.c (.int .i64 2)))⟩])
 (.ret (some [4, 5]))) .skip))
 (.seq (.seq (.reg false [⟨some 35, none, .mov (.t 7)⟩,
 ⟨some 36, none, .un .not (.t 35)⟩])
 (.cond (.t 36) (.seq (.reg false [⟨some 37, none, .loadN (.t 2) 65⟩,
 ⟨none, none, .store (.t 4) (.t 37) 65⟩,
 ⟨some 5, none, .mov (.k (.c (.int .i64 5)))⟩])
 (.ret (some [4, 5]))) .skip))
 (.seq (.reg false [⟨some 38, none, .loadN (.t 2) 65⟩,
 ⟨some 9, none, .alloc [.bool false, .int .i64 0, .int .i64 0, .int .i64 0, .bool false, .int .i64 0, .int .i64 0, .int .i64 0, .bool false, .int .i64 0, .int .i64 0, .int .i64 0, .bool false, .int .i64 0, .int .i64 0, .int .i64 0, .bool false, .int .i64 0, .int .i64 0, .int .i64 0, .bool false, .int .i64 0, .int .i64 0, .int .i64 0, .bool false, .int .i64 0, .int .i64 0, .int .i64 0, .bool false, .int .i64 0, .int .i64 0, .int .i64 0, .bool false, .int .i64 0, .int .i64 0, .int .i64 0, .bool false, .int .i64 0, .int .i64 0, .int .i64 0, .bool false, .int .i64 0, .int .i64 0, .int .i64 0, .bool false, .int .i64 0, .int .i64 0, .int .i64 0, .bool false, .int .i64 0, .int .i64 0, .int .i64 0, .bool false, .int .i64 0, .int .i64 0, .int .i64 0, .bool false, .int .i64 0, .int .i64 0, .int .i64 0, .bool false, .int .i64 0, .int .i64 0, .int .i64 0, .int .i64 0] 47⟩,
 ⟨none, none, .store (.t 9) (.t 38) 65⟩])
 (.seq (.reg false [⟨some 39, none, .mov (.t 6)⟩,
 ⟨some 40, none, .mov (.t 6)⟩,
 ⟨some 41, none, .len (.t 40)⟩,
 ⟨some 42, none, .bin .sub (.t 41) (.k (.c (.int .i64 1)))⟩,
 ⟨some 43, none, .ixs (.t 39) (.t 42) 1⟩,
 ⟨some 44, none, .load1 (.t 43)⟩,
 ⟨some 10, none, .mov (.t 44)⟩])
 (.seq (.reg false [⟨some 45, none, .mov (.t 10)⟩,
 ⟨some 46, none, .fld (.t 2) 0⟩,
 ⟨some 47, none, .ixa (.t 46) (.t 45) 16 4⟩,
 ⟨some 48, none, .loadN (.t 47) 4⟩,
 ⟨some 11, none, .alloc [.bool false, .int .i64 0, .int .i64 0, .int .i64 0] 44⟩,
 ⟨none, none, .store (.t 11) (.t 48) 4⟩])
 (.seq (.seq (.reg false [⟨some 49, none, .fld (.t 11) 2⟩,
 ⟨some 50, none, .load1 (.t 49)⟩,
 ⟨some 51, none, .bin .geq (.t 50) (.k (.c (.int .i64 0)))⟩,
 ⟨some 52, none, .mov (.t 51)⟩,
 ⟨some 53, some (52, true), .fld (.t 11) 3⟩,
 ⟨some 54, some (52, true), .load1 (.t 53)⟩,
 ⟨some 55, some (52, true), .bin .geq (.t 54) (.k (.c (.int .i64 0)))⟩,
 ⟨some 56, none, .pick (.t 52) (.t 55) (.k (.c (.bool false)))⟩])
 (.cond (.t 56) (.seq (.reg false [⟨some 57, none, .mov (.t 6)⟩,
 ⟨some 58, none, .len (.t 57)⟩,
 ⟨some 59, none, .bin .add (.t 58) (.k (.c (.int .i64 1)))⟩,
 ⟨some 12, none, .mov (.t 59)⟩])
 (.seq (.reg true [⟨some 60, none, .mov (.t 10)⟩,
 ⟨some 61, none, .fld (.t 11) 3⟩,
 ⟨some 62, none, .load1 (.t 61)⟩,
 ⟨some 13, none, .mov (.t 60)⟩,
 ⟨some 14, none, .mov (.t 62)⟩])
 (.seq (.block 0 (some [2, 4, 9, 10, 12, 13, 14]) (some [2, 4, 9, 10, 12, 13, 14])
 (.loop c_spec_TreeDrop_b0))
 (.seq (.seq (.reg false [⟨some 77, none, .mov (.t 12)⟩,
 ⟨some 78, none, .bin .gtr (.t 77) (.k (.c (.int .i64 8)))⟩])
 (.cond (.t 78) (.seq (.reg false [⟨some 79, none, .loadN (.t 9) 65⟩,
 ⟨none, none, .store (.t 4) (.t 79) 65⟩,
 ⟨some 5, none, .mov (.k (.c (.int .i64 2)))⟩])
 (.ret (some [4, 5]))) .skip))
 (.seq (.reg false [⟨some 80, none, .mov (.t 10)⟩,
 ⟨some 81, none, .mov (.t 14)⟩,
 ⟨some 82, none, .fld (.t 2) 0⟩,
 ⟨some 83, none, .ixa (.t 82) (.t 81) 16 4⟩,
 ⟨some 84, none, .fld (.t 83) 1⟩,
 ⟨some 85, none, .load1 (.t 84)⟩,
 ⟨some 86, none, .fld (.t 2) 0⟩,
 ⟨some 87, none, .ixa (.t 86) (.t 80) 16 4⟩,
 ⟨some 88, none, .fld (.t 87) 1⟩,
 ⟨none, none, .store (.t 88) (.t 85) 1⟩])
 (.seq (.seq (.reg false [⟨some 89, none, .mov (.t 13)⟩,
 ⟨some 90, none, .mov (.t 10)⟩,
 ⟨some 91, none, .bin .eql (.t 89) (.t 90)⟩])
 (.cond (.t 91) (.reg false [⟨some 92, none, .mov (.t 10)⟩,
 ⟨some 93, none, .mov (.t 14)⟩,
 ⟨some 94, none, .fld (.t 2) 0⟩,
 ⟨some 95, none, .ixa (.t 94) (.t 93) 16 4⟩,
 ⟨some 96, none, .fld (.t 95) 3⟩,
 ⟨some 97, none, .load1 (.t 96)⟩,
 ⟨some 98, none, .fld (.t 2) 0⟩,
 ⟨some 99, none, .ixa (.t 98) (.t 92) 16 4⟩,
 ⟨some 100, none, .fld (.t 99) 3⟩,
 ⟨none, none, .store (.t 100) (.t 97) 1⟩]) (.reg false [⟨some 101, none, .mov (.t 13)⟩,
 ⟨some 102, none, .mov (.t 14)⟩,
 ⟨some 103, none, .fld (.t 2) 0⟩,
 ⟨some 104, none, .ixa (.t 103) (.t 102) 16 4⟩,
 ⟨some 105, none, .fld (.t 104) 3⟩,
 ⟨some 106, none, .load1 (.t 105)⟩,
 ⟨some 107, none, .fld (.t 2) 0⟩,
 ⟨some 108, none, .ixa (.t 107) (.t 101) 16 4⟩,
 ⟨some 109, none, .fld (.t 108) 2⟩,
 ⟨none, none, .store (.t 109) (.t 106) 1⟩])))
 (.seq (.reg false [⟨some 110, none, .mov (.t 14)⟩,
 ⟨some 111, none, .bld [.bool false, .int .i64 0, .int .i64 0, .int .i64 0] []⟩,
 ⟨some 112, none, .fld (.t 2) 0⟩,
 ⟨some 113, none, .ixa (.t 112) (.t 110) 16 4⟩,
 ⟨none, none, .store (.t 113) (.t 111) 4⟩])
 (.seq (.reg false [⟨some 114, none, .loadN (.t 2) 65⟩,
 ⟨none, none, .store (.t 4) (.t 114) 65⟩,
 ⟨some 5, none, .mov (.k (.c (.int .i64 0)))⟩])
 (.ret (some [4, 5])))))))))) .skip))
 (.seq (.reg false [⟨some 115, none, .fld (.t 11) 2⟩,
 ⟨some 116, none, .load1 (.t 115)⟩,
 ⟨some 15, none, .mov (.t 116)⟩])
 (.seq (.seq (.reg false [⟨some 117, none, .mov (.t 15)⟩,
 ⟨some 118, none, .bin .lss (.t 117) (.k (.c (.int .i64 0)))⟩])
 (.cond (.t 118) (.reg false [⟨some 119, none, .fld (.t 11) 3⟩,
 ⟨some 120, none, .load1 (.t 119)⟩,
 ⟨some 15, none, .mov (.t 120)⟩]) .skip))
 (.seq (.regE 0 [⟨⟨some 121, none, .loadN (.t 2) 65⟩, 0, 0, false, []⟩,
 ⟨⟨some 122, none, .mov (.t 6)⟩, 1, 0, false, []⟩,
 ⟨⟨some 123, none, .mov (.t 6)⟩, 2, 0, false, []⟩,
 ⟨⟨some 124, none, .len (.t 123)⟩, 3, 0, false, []⟩,
 ⟨⟨some 125, none, .bin .sub (.t 124) (.k (.c (.int .i64 1)))⟩, 4, 0, false, []⟩,
 ⟨⟨some 126, none, .sls (.t 122) 1 none (some (.t 125))⟩, 5, 0, false, []⟩,
 ⟨⟨some 127, none, .mov (.t 1)⟩, 6, 0, false, []⟩,
 ⟨⟨some 128, none, .mov (.t 15)⟩, 7, 0, false, []⟩,
 ⟨⟨some 129, none, .call 68 [.t 121, .t 126, .t 127, .t 128]⟩, 8, 0, false, []⟩,
 ⟨⟨none, none, .store (.t 2) (.t 129) 65⟩, 9, 0, false, []⟩])
 (.seq (.reg false [⟨some 130, none, .mov (.t 10)⟩,
 ⟨some 131, none, .bld [.bool false, .int .i64 0, .int .i64 0, .int .i64 0] []⟩,
 ⟨some 132, none, .fld (.t 2) 0⟩,
 ⟨some 133, none, .ixa (.t 132) (.t 130) 16 4⟩,
 ⟨none, none, .store (.t 133) (.t 131) 4⟩])
 (.seq (.reg false [⟨some 134, none, .loadN (.t 2) 65⟩,
 ⟨none, none, .store (.t 4) (.t 134) 65⟩,
 ⟨some 5, none, .mov (.k (.c (.int .i64 0)))⟩])
 (.ret (some [4, 5]))))))))))))))))⟩
theorem c_spec_TreeDrop_ok : trF Try.prog ⟨[(0, [2, 4, 9, 10, 12, 13, 14], [2, 4, 9, 10, 12, 13, 14])], [4, 5], false, false⟩ Try.f20 = some c_spec_TreeDrop := by kernel_rfl
def c_laws_toTree : IFn := ⟨12, [.cell 2 65 true],
  (.seq (.reg false [⟨some 1, none, .box (.t 0) 43⟩,
 ⟨some 2, none, .alloc [.bool false, .int .i64 0, .int .i64 0, .int .i64 0, .bool false, .int .i64 0, .int .i64 0, .int .i64 0, .bool false, .int .i64 0, .int .i64 0, .int .i64 0, .bool false, .int .i64 0, .int .i64 0, .int .i64 0, .bool false, .int .i64 0, .int .i64 0, .int .i64 0, .bool false, .int .i64 0, .int .i64 0, .int .i64 0, .bool false, .int .i64 0, .int .i64 0, .int .i64 0, .bool false, .int .i64 0, .int .i64 0, .int .i64 0, .bool false, .int .i64 0, .int .i64 0, .int .i64 0, .bool false, .int .i64 0, .int .i64 0, .int .i64 0, .bool false, .int .i64 0, .int .i64 0, .int .i64 0, .bool false, .int .i64 0, .int .i64 0, .int .i64 0, .bool false, .int .i64 0, .int .i64 0, .int .i64 0, .bool false, .int .i64 0, .int .i64 0, .int .i64 0, .bool false, .int .i64 0, .int .i64 0, .int .i64 0, .bool false, .int .i64 0, .int .i64 0, .int .i64 0, .int .i64 0] 47⟩])
 (.seq (.reg false [⟨some 3, none, .alloc [.bool false, .int .i64 0, .int .i64 0, .int .i64 0, .bool false, .int .i64 0, .int .i64 0, .int .i64 0, .bool false, .int .i64 0, .int .i64 0, .int .i64 0, .bool false, .int .i64 0, .int .i64 0, .int .i64 0, .bool false, .int .i64 0, .int .i64 0, .int .i64 0, .bool false, .int .i64 0, .int .i64 0, .int .i64 0, .bool false, .int .i64 0, .int .i64 0, .int .i64 0, .bool false, .int .i64 0, .int .i64 0, .int .i64 0, .bool false, .int .i64 0, .int .i64 0, .int .i64 0, .bool false, .int .i64 0, .int .i64 0, .int .i64 0, .bool false, .int .i64 0, .int .i64 0, .int .i64 0, .bool false, .int .i64 0, .int .i64 0, .int .i64 0, .bool false, .int .i64 0, .int .i64 0, .int .i64 0, .bool false, .int .i64 0, .int .i64 0, .int .i64 0, .bool false, .int .i64 0, .int .i64 0, .int .i64 0, .bool false, .int .i64 0, .int .i64 0, .int .i64 0, .int .i64 0] 47⟩])
 (.seq (.reg false [⟨some 4, none, .fld (.t 1) 0⟩,
 ⟨some 5, none, .loadN (.t 4) 64⟩,
 ⟨some 6, none, .call 69 [.t 5]⟩,
 ⟨some 7, none, .fld (.t 3) 0⟩,
 ⟨none, none, .store (.t 7) (.t 6) 64⟩])
 (.seq (.reg false [⟨some 8, none, .fld (.t 1) 64⟩,
 ⟨some 9, none, .load1 (.t 8)⟩,
 ⟨some 10, none, .fld (.t 3) 64⟩,
 ⟨none, none, .store (.t 10) (.t 9) 1⟩])
 (.seq (.reg false [⟨some 11, none, .loadN (.t 3) 65⟩,
 ⟨none, none, .store (.t 2) (.t 11) 65⟩])
 (.ret (some [2])))))))⟩
theorem c_laws_toTree_ok : trF Try.prog ⟨[], [2], false, false⟩ Try.f21 = some c_laws_toTree := by kernel_rfl
def c_impl_TreeDrop_b0 : IC :=
  (.seq (.seq (.reg false [⟨some 61, none, .mov (.t 7)⟩,
 ⟨some 62, none, .chk (.t 61)⟩,
 ⟨some 63, none, .load1 (.t 62)⟩,
 ⟨some 64, none, .fld (.t 2) 0⟩,
 ⟨some 65, none, .ixa (.t 64) (.t 63) 16 4⟩,
 ⟨some 66, none, .fld (.t 65) 2⟩,
 ⟨some 67, none, .load1 (.t 66)⟩,
 ⟨some 68, none, .bin .neq (.t 67) (.k (.c (.int .i64 (-1))))⟩])
 (.cond (.t 68) .skip (.exit 1)))
 (.seq (.block 2 none none
 (.reg false [⟨some 71, none, .mov (.t 7)⟩,
 ⟨some 72, none, .chk (.t 71)⟩,
 ⟨some 73, none, .load1 (.t 72)⟩,
 ⟨some 74, none, .fld (.t 2) 0⟩,
 ⟨some 75, none, .ixa (.t 74) (.t 73) 16 4⟩,
 ⟨some 76, none, .fld (.t 75) 2⟩,
 ⟨some 7, none, .mov (.t 76)⟩]))
 (.reg false [⟨some 69, none, .mov (.t 8)⟩,
 ⟨some 70, none, .bin .add (.t 69) (.k (.c (.int .i64 1)))⟩,
 ⟨some 8, none, .mov (.t 70)⟩])))
def c_impl_TreeDrop : IFn := ⟨109, [.cell 4 65 true, .t 5],
  (.seq (.reg false [⟨some 2, none, .box (.t 0) 47⟩,
 ⟨some 4, none, .alloc [.bool false, .int .i64 0, .int .i64 0, .int .i64 0, .bool false, .int .i64 0, .int .i64 0, .int .i64 0, .bool false, .int .i64 0, .int .i64 0, .int .i64 0, .bool false, .int .i64 0, .int .i64 0, .int .i64 0, .bool false, .int .i64 0, .int .i64 0, .int .i64 0, .bool false, .int .i64 0, .int .i64 0, .int .i64 0, .bool false, .int .i64 0, .int .i64 0, .int .i64 0, .bool false, .int .i64 0, .int .i64 0, .int .i64 0, .bool false, .int .i64 0, .int .i64 0, .int .i64 0, .bool false, .int .i64 0, .int .i64 0, .int .i64 0, .bool false, .int .i64 0, .int .i64 0, .int .i64 0, .bool false, .int .i64 0, .int .i64 0, .int .i64 0, .bool false, .int .i64 0, .int .i64 0, .int .i64 0, .bool false, .int .i64 0, .int .i64 0, .int .i64 0, .bool false, .int .i64 0, .int .i64 0, .int .i64 0, .bool false, .int .i64 0, .int .i64 0, .int .i64 0, .int .i64 0] 47⟩,
 ⟨some 5, none, .mov (.k (.c (.int .i64 0)))⟩])
 (.seq (.seq (.reg false [⟨some 13, none, .loadN (.t 2) 65⟩,
 ⟨some 14, none, .call 35 [.t 13]⟩,
 ⟨some 15, none, .un .not (.t 14)⟩,
 ⟨some 16, none, .mov (.t 15)⟩,
 ⟨some 17, some (16, false), .mov (.t 1)⟩,
 ⟨some 18, some (16, false), .call 62 [.t 17]⟩,
 ⟨some 19, some (16, false), .un .not (.t 18)⟩,
 ⟨some 20, none, .pick (.t 16) (.k (.c (.bool true))) (.t 19)⟩])
 (.cond (.t 20) (.seq (.reg false [⟨some 21, none, .loadN (.t 2) 65⟩,
 ⟨none, none, .store (.t 4) (.t 21) 65⟩,
 ⟨some 5, none, .mov (.k (.c (.int .i64 1)))⟩])
 (.ret (some [4, 5]))) .skip))
 (.seq (.reg false [⟨some 22, none, .loadN (.t 2) 65⟩,
 ⟨some 6, none, .alloc [.bool false, .int .i64 0, .int .i64 0, .int .i64 0, .bool false, .int .i64 0, .int .i64 0, .int .i64 0, .bool false, .int .i64 0, .int .i64 0, .int .i64 0, .bool false, .int .i64 0, .int .i64 0, .int .i64 0, .bool false, .int .i64 0, .int .i64 0, .int .i64 0, .bool false, .int .i64 0, .int .i64 0, .int .i64 0, .bool false, .int .i64 0, .int .i64 0, .int .i64 0, .bool false, .int .i64 0, .int .i64 0, .int .i64 0, .bool false, .int .i64 0, .int .i64 0, .int .i64 0, .bool false, .int .i64 0, .int .i64 0, .int .i64 0, .bool false, .int .i64 0, .int .i64 0, .int .i64 0, .bool false, .int .i64 0, .int .i64 0, .int .i64 0, .bool false, .int .i64 0, .int .i64 0, .int .i64 0, .bool false, .int .i64 0, .int .i64 0, .int .i64 0, .bool false, .int .i64 0, .int .i64 0, .int .i64 0, .bool false, .int .i64 0, .int .i64 0, .int .i64 0, .int .i64 0] 47⟩,
 ⟨none, none, .store (.t 6) (.t 22) 65⟩])
 (.seq (.reg false [⟨some 24, none, .mov (.t 1)⟩,
 ⟨some 25, none, .call 70 [.t 2, .t 24]⟩,
 ⟨some 23, none, .mov (.t 25)⟩,
 ⟨some 26, none, .ext (.t 23) 0⟩,
 ⟨some 27, none, .ext (.t 23) 1⟩,
 ⟨some 28, none, .ext (.t 23) 2⟩,
 ⟨some 7, none, .mov (.t 26)⟩,
 ⟨some 8, none, .mov (.t 27)⟩,
 ⟨some 9, none, .mov (.t 28)⟩])
 (.seq (.block 0 none none
 (.seq (.reg false [⟨some 30, none, .mov (.t 9)⟩,
 ⟨some 31, none, .un .not (.t 30)⟩,
 ⟨some 29, none, .mov (.t 31)⟩])
 (.cond (.t 29) (.seq (.reg false [⟨some 32, none, .loadN (.t 6) 65⟩,
 ⟨none, none, .store (.t 4) (.t 32) 65⟩,
 ⟨some 5, none, .mov (.k (.c (.int .i64 2)))⟩])
 (.ret (some [4, 5]))) (.seq (.reg false [⟨some 34, none, .mov (.t 7)⟩,
 ⟨some 35, none, .chk (.t 34)⟩,
 ⟨some 36, none, .load1 (.t 35)⟩,
 ⟨some 37, none, .bin .eql (.t 36) (.k (.c (.int .i64 (-1))))⟩,
 ⟨some 33, none, .mov (.t 37)⟩])
 (.cond (.t 33) (.seq (.reg false [⟨some 38, none, .loadN (.t 6) 65⟩,
 ⟨none, none, .store (.t 4) (.t 38) 65⟩,
 ⟨some 5, none, .mov (.k (.c (.int .i64 5)))⟩])
 (.ret (some [4, 5]))) .skip)))))
 (.seq (.reg false [⟨some 39, none, .mov (.t 7)⟩,
 ⟨some 40, none, .chk (.t 39)⟩,
 ⟨some 41, none, .load1 (.t 40)⟩,
 ⟨some 42, none, .fld (.t 2) 0⟩,
 ⟨some 43, none, .ixa (.t 42) (.t 41) 16 4⟩,
 ⟨some 10, none, .mov (.t 43)⟩])
 (.seq (.seq (.reg false [⟨some 44, none, .mov (.t 10)⟩,
 ⟨some 45, none, .chk (.t 44)⟩,
 ⟨some 46, none, .fld (.t 45) 2⟩,
 ⟨some 47, none, .load1 (.t 46)⟩,
 ⟨some 48, none, .bin .neq (.t 47) (.k (.c (.int .i64 (-1))))⟩,
 ⟨some 49, none, .mov (.t 48)⟩,
 ⟨some 50, some (49, true), .mov (.t 10)⟩,
 ⟨some 51, some (49, true), .chk (.t 50)⟩,
 ⟨some 52, some (49, true), .fld (.t 51) 3⟩,
 ⟨some 53, some (49, true), .load1 (.t 52)⟩,
 ⟨some 54, some (49, true), .bin .neq (.t 53) (.k (.c (.int .i64 (-1))))⟩,
 ⟨some 55, none, .pick (.t 49) (.t 54) (.k (.c (.bool false)))⟩])
 (.cond (.t 55) (.seq (.reg false [⟨some 56, none, .mov (.t 10)⟩,
 ⟨some 57, none, .chk (.t 56)⟩,
 ⟨some 58, none, .fld (.t 57) 3⟩,
 ⟨some 7, none, .mov (.t 58)⟩])
 (.seq (.seq (.reg false [⟨some 59, none, .mov (.t 8)⟩,
 ⟨some 60, none, .bin .add (.t 59) (.k (.c (.int .i64 1)))⟩,
 ⟨some 8, none, .mov (.t 60)⟩])
 (.block 1 (some [2, 4, 6, 7, 8, 10]) (some [2, 4, 6, 7, 8, 10])
 (.loop c_impl_TreeDrop_b0)))
 (.seq (.seq (.reg false [⟨some 77, none, .mov (.t 8)⟩,
 ⟨some 78, none, .bin .gtr (.t 77) (.k (.c (.int .i64 8)))⟩])
 (.cond (.t 78) (.seq (.reg false [⟨some 79, none, .loadN (.t 6) 65⟩,
 ⟨none, none, .store (.t 4) (.t 79) 65⟩,
 ⟨some 5, none, .mov (.k (.c (.int .i64 2)))⟩])
 (.ret (some [4, 5]))) .skip))
 (.reg false [⟨some 80, none, .mov (.t 10)⟩,
 ⟨some 81, none, .mov (.t 7)⟩,
 ⟨some 82, none, .chk (.t 81)⟩,
 ⟨some 83, none, .load1 (.t 82)⟩,
 ⟨some 84, none, .fld (.t 2) 0⟩,
 ⟨some 85, none, .ixa (.t 84) (.t 83) 16 4⟩,
 ⟨some 86, none, .fld (.t 85) 1⟩,
 ⟨some 87, none, .load1 (.t 86)⟩,
 ⟨some 88, none, .chk (.t 80)⟩,
 ⟨some 89, none, .fld (.t 88) 1⟩,
 ⟨none, none, .store (.t 89) (.t 87) 1⟩])))) .skip))
 (.seq (.reg false [⟨some 90, none, .mov (.t 7)⟩,
 ⟨some 91, none, .chk (.t 90)⟩,
 ⟨some 92, none, .load1 (.t 91)⟩,
 ⟨some 11, none, .mov (.t 92)⟩])
 (.seq (.reg false [⟨some 93, none, .mov (.t 11)⟩,
 ⟨some 94, none, .fld (.t 2) 0⟩,
 ⟨some 95, none, .ixa (.t 94) (.t 93) 16 4⟩,
 ⟨some 96, none, .loadN (.t 95) 4⟩,
 ⟨some 12, none, .alloc [.bool false, .int .i64 0, .int .i64 0, .int .i64 0] 44⟩,
 ⟨none, none, .store (.t 12) (.t 96) 4⟩])
 (.seq (.reg false [⟨some 97, none, .mov (.t 7)⟩,
 ⟨some 98, none, .fld (.t 12) 2⟩,
 ⟨some 99, none, .load1 (.t 98)⟩,
 ⟨some 100, none, .fld (.t 12) 3⟩,
 ⟨some 101, none, .load1 (.t 100)⟩,
 ⟨some 102, none, .mxi false (.t 99) (.t 101)⟩,
 ⟨some 103, none, .chk (.t 97)⟩,
 ⟨none, none, .store (.t 103) (.t 102) 1⟩])
 (.seq (.reg false [⟨some 104, none, .mov (.t 11)⟩,
 ⟨some 105, none, .bld [.bool false, .int .i64 0, .int .i64 0, .int .i64 0] []⟩,
 ⟨some 106, none, .fld (.t 2) 0⟩,
 ⟨some 107, none, .ixa (.t 106) (.t 104) 16 4⟩,
 ⟨none, none, .store (.t 107) (.t 105) 4⟩])
 (.seq (.reg false [⟨some 108, none, .loadN (.t 2) 65⟩,
 ⟨none, none, .store (.t 4) (.t 108) 65⟩,
 ⟨some 5, none, .mov (.k (.c (.int .i64 0)))⟩])
 (.ret (some [4, 5]))))))))))))))⟩
theorem c_impl_TreeDrop_ok : trF Try.prog ⟨[(1, [2, 4, 6, 7, 8, 10], [2, 4, 6, 7, 8, 10])], [4, 5], false, false⟩ Try.f22 = some c_impl_TreeDrop := by kernel_rfl
def c_laws_eqTree : IFn := ⟨16, [.t 4],
  (.seq (.reg false [⟨some 2, none, .box (.t 0) 47⟩,
 ⟨some 3, none, .box (.t 1) 47⟩,
 ⟨some 4, none, .mov (.k (.c (.bool false)))⟩])
 (.seq (.seq (.reg false [⟨some 5, none, .fld (.t 2) 0⟩,
 ⟨some 6, none, .loadN (.t 5) 64⟩,
 ⟨some 7, none, .fld (.t 3) 0⟩,
 ⟨some 8, none, .loadN (.t 7) 64⟩,
 ⟨some 9, none, .call 71 [.t 6, .t 8]⟩,
 ⟨some 10, none, .un .not (.t 9)⟩])
 (.cond (.t 10) (.seq (.reg false [⟨some 4, none, .mov (.k (.c (.bool false)))⟩])
 (.ret (some [4]))) .skip))
 (.seq (.seq (.reg false [⟨some 11, none, .fld (.t 2) 64⟩,
 ⟨some 12, none, .load1 (.t 11)⟩,
 ⟨some 13, none, .fld (.t 3) 64⟩,
 ⟨some 14, none, .load1 (.t 13)⟩,
 ⟨some 15, none, .bin .neq (.t 12) (.t 14)⟩])
 (.cond (.t 15) (.seq (.reg false [⟨some 4, none, .mov (.k (.c (.bool false)))⟩])
 (.ret (some [4]))) .skip))
 (.seq (.reg false [⟨some 4, none, .mov (.k (.c (.bool true)))⟩])
 (.ret (some [4]))))))⟩
theorem c_laws_eqTree_ok : trF Try.prog ⟨[], [4], false, false⟩ Try.f23 = some c_laws_eqTree := by kernel_rfl
def c_spec_DrawChain : IFn := ⟨6, [.cell 2 65 true],
  (.seq (.reg false [⟨some 2, none, .alloc [.bool false, .int .i64 0, .int .i64 0, .int .i64 0, .bool false, .int .i64 0, .int .i64 0, .int .i64 0, .bool false, .int .i64 0, .int .i64 0, .int .i64 0, .bool false, .int .i64 0, .int .i64 0, .int .i64 0, .bool false, .int .i64 0, .int .i64 0, .int .i64 0, .bool false, .int .i64 0, .int .i64 0, .int .i64 0, .bool false, .int .i64 0, .int .i64 0, .int .i64 0, .bool false, .int .i64 0, .int .i64 0, .int .i64 0, .bool false, .int .i64 0, .int .i64 0, .int .i64 0, .bool false, .int .i64 0, .int .i64 0, .int .i64 0, .bool false, .int .i64 0, .int .i64 0, .int .i64 0, .bool false, .int .i64 0, .int .i64 0, .int .i64 0, .bool false, .int .i64 0, .int .i64 0, .int .i64 0, .bool false, .int .i64 0, .int .i64 0, .int .i64 0, .bool false, .int .i64 0, .int .i64 0, .int .i64 0, .bool false, .int .i64 0, .int .i64 0, .int .i64 0, .int .i64 0] 57⟩])
 (.seq (.reg false [⟨some 3, none, .mov (.t 0)⟩,
 ⟨some 4, none, .call 61 [.t 3]⟩,
 ⟨some 5, none, .call 72 [.t 4]⟩,
 ⟨none, none, .store (.t 2) (.t 5) 65⟩])
 (.ret (some [2]))))⟩
theorem c_spec_DrawChain_ok : trF Try.prog ⟨[], [2], false, false⟩ Try.f24 = some c_spec_DrawChain := by kernel_rfl
def c_impl_MapPairs_b0 : IC :=
  (.seq (.seq (.reg false [⟨some 16, none, .mov (.t 6)⟩,
 ⟨some 17, none, .bin .neq (.t 16) (.k (.c (.int .i64 (-1))))⟩])
 (.cond (.t 17) .skip (.exit 0)))
 (.seq (.block 1 none none
 (.regE 2 [⟨⟨some 23, none, .mov (.t 4)⟩, 0, 0, false, []⟩,
 ⟨⟨some 24, none, .mov (.t 6)⟩, 1, 0, false, []⟩,
 ⟨⟨some 25, none, .fld (.t 1) 0⟩, 2, 0, false, []⟩,
 ⟨⟨some 26, none, .ixa (.t 25) (.t 24) 16 4⟩, 3, 0, false, []⟩,
 ⟨⟨some 27, none, .fld (.t 26) 1⟩, 4, 0, false, []⟩,
 ⟨⟨some 28, none, .load1 (.t 27)⟩, 5, 0, false, []⟩,
 ⟨⟨some 29, none, .lit 1 1 [.int .i64 0] [(0, .t 28)] 3⟩, 6, 0, false, []⟩,
 ⟨⟨some 30, none, .app (.t 23) (.t 29) 3 1 8⟩, 7, 1, false, []⟩,
 ⟨⟨some 31, none, .mov (.t 5)⟩, 8, 1, false, []⟩,
 ⟨⟨some 32, none, .mov (.t 6)⟩, 9, 1, false, []⟩,
 ⟨⟨some 33, none, .fld (.t 1) 0⟩, 10, 1, false, [6, 7]⟩,
 ⟨⟨some 34, none, .ixa (.t 33) (.t 32) 16 4⟩, 11, 1, false, [6, 7]⟩,
 ⟨⟨some 35, none, .fld (.t 34) 2⟩, 12, 1, false, [6, 7]⟩,
 ⟨⟨some 36, none, .load1 (.t 35)⟩, 13, 1, false, [6, 7]⟩,
 ⟨⟨some 37, none, .lit 1 1 [.int .i64 0] [(0, .t 36)] 3⟩, 14, 1, false, [2, 3, 4, 5, 6, 7]⟩,
 ⟨⟨some 38, none, .app (.t 31) (.t 37) 3 1 8⟩, 15, 2, false, []⟩,
 ⟨⟨some 4, none, .mov (.t 30)⟩, 16, 2, false, []⟩,
 ⟨⟨some 5, none, .mov (.t 38)⟩, 17, 2, false, []⟩]))
 (.reg false [⟨some 18, none, .mov (.t 6)⟩,
 ⟨some 19, none, .fld (.t 1) 0⟩,
 ⟨some 20, none, .ixa (.t 19) (.t 18) 16 4⟩,
 ⟨some 21, none, .fld (.t 20) 3⟩,
 ⟨some 22, none, .load1 (.t 21)⟩,
 ⟨some 6, none, .mov (.t 22)⟩])))
def c_impl_MapPairs : IFn := ⟨41, [.t 2, .t 3],
  (.seq (.reg false [⟨some 1, none, .box (.t 0) 57⟩,
 ⟨some 2, none, .mov (.k (.c .nils))⟩,
 ⟨some 3, none, .mov (.k (.c .nils))⟩])
 (.seq (.reg false [⟨some 7, none, .lit 0 1 [.int .i64 0] [] 3⟩,
 ⟨some 8, none, .lit 0 1 [.int .i64 0] [] 3⟩,
 ⟨some 4, none, .mov (.t 7)⟩,
 ⟨some 5, none, .mov (.t 8)⟩])
 (.seq (.seq (.reg false [⟨some 9, none, .loadN (.t 1) 65⟩,
 ⟨some 10, none, .call 26 [.t 9]⟩,
 ⟨some 11, none, .un .not (.t 10)⟩])
 (.cond (.t 11) (.seq (.reg false [⟨some 12, none, .mov (.t 4)⟩,
 ⟨some 13, none, .mov (.t 5)⟩,
 ⟨some 2, none, .mov (.t 12)⟩,
 ⟨some 3, none, .mov (.t 13)⟩])
 (.ret (some [2, 3]))) .skip))
 (.seq (.seq (.reg false [⟨some 14, none, .fld (.t 1) 64⟩,
 ⟨some 15, none, .load1 (.t 14)⟩,
 ⟨some 6, none, .mov (.t 15)⟩])
 (.block 0 (some [1, 4, 5, 6]) (some [4, 5])
 (.loop c_impl_MapPairs_b0)))
 (.seq (.reg false [⟨some 39, none, .mov (.t 4)⟩,
 ⟨some 40, none, .mov (.t 5)⟩,
 ⟨some 2, none, .mov (.t 39)⟩,
 ⟨some 3, none, .mov (.t 40)⟩])
 (.ret (some [2, 3])))))))⟩
theorem c_impl_MapPairs_ok : trF Try.prog ⟨[(0, [1, 4, 5, 6], [4, 5])], [2, 3], false, false⟩ Try.f25 = some c_impl_MapPairs := by kernel_rfl
def c_impl_ChainOk_b0 : IC :=
  (.seq (.reg false [⟨some 12, none, .bin .lss (.t 11) (.k (.c (.int .i64 16)))⟩])
 (.seq (.cond (.t 12) .skip (.exit 0))
 (.seq (.block 1 none none
 (.seq (.reg false [⟨some 13, none, .idx (.t 10) (.t 11) 16 4 true⟩,
 ⟨some 6, none, .alloc [.bool false, .int .i64 0, .int .i64 0, .int .i64 0] 54⟩,
 ⟨none, none, .store (.t 6) (.t 13) 4⟩])
 (.block 2 none none
 (.seq (.reg false [⟨some 15, none, .fld (.t 6) 0⟩,
 ⟨some 16, none, .load1 (.t 15)⟩,
 ⟨some 14, none, .mov (.t 16)⟩])
 (.cond (.t 14) (.seq (.reg false [⟨some 17, none, .mov (.t 3)⟩,
 ⟨some 18, none, .bin .add (.t 17) (.k (.c (.int .i64 1)))⟩,
 ⟨some 3, none, .mov (.t 18)⟩])
 (.seq (.reg false [⟨some 19, none, .fld (.t 6) 1⟩,
 ⟨some 20, none, .load1 (.t 19)⟩,
 ⟨some 21, none, .call 62 [.t 20]⟩,
 ⟨some 22, none, .un .not (.t 21)⟩,
 ⟨some 23, none, .mov (.t 22)⟩,
 ⟨some 24, some (23, false), .fld (.t 6) 2⟩,
 ⟨some 25, some (23, false), .load1 (.t 24)⟩,
 ⟨some 26, some (23, false), .call 62 [.t 25]⟩,
 ⟨some 27, some (23, false), .un .not (.t 26)⟩,
 ⟨some 28, none, .pick (.t 23) (.k (.c (.bool true))) (.t 27)⟩,
 ⟨some 29, none, .mov (.t 28)⟩,
 ⟨some 30, some (29, false), .fld (.t 6) 3⟩,
 ⟨some 31, some (29, false), .load1 (.t 30)⟩,
 ⟨some 32, some (29, false), .call 63 [.t 31, .k (.c (.int .i64 (-1))), .k (.c (.int .i64 15))]⟩,
 ⟨some 33, some (29, false), .un .not (.t 32)⟩,
 ⟨some 34, none, .pick (.t 29) (.k (.c (.bool true))) (.t 33)⟩])
 (.cond (.t 34) (.seq (.reg false [⟨some 2, none, .mov (.k (.c (.bool false)))⟩])
 (.ret (some [2]))) .skip))) (.seq (.reg false [⟨some 36, none, .loadN (.t 6) 4⟩,
 ⟨some 37, none, .bld [.bool false, .int .i64 0, .int .i64 0, .int .i64 0] []⟩,
 ⟨some 38, none, .eqa true [none, some .i64, some .i64, some .i64] (.t 36) (.t 37)⟩,
 ⟨some 35, none, .mov (.t 38)⟩])
 (.cond (.t 35) (.seq (.reg false [⟨some 2, none, .mov (.k (.c (.bool false)))⟩])
 (.ret (some [2]))) .skip)))))))
 (.reg false [⟨some 39, none, .bin .add (.t 11) (.k (.c (.int .i64 1)))⟩,
 ⟨some 11, none, .mov (.t 39)⟩]))))
def c_impl_ChainOk_b1 : IC :=
  (.seq (.seq (.reg false [⟨some 42, none, .mov (.t 8)⟩,
 ⟨some 43, none, .bin .neq (.t 42) (.k (.c (.int .i64 (-1))))⟩])
 (.cond (.t 43) .skip (.exit 3)))
 (.seq (.block 4 none none
 (.seq (.seq (.reg false [⟨some 49, none, .mov (.t 8)⟩,
 ⟨some 50, none, .call 63 [.t 49, .k (.c (.int .i64 0)), .k (.c (.int .i64 15))]⟩,
 ⟨some 51, none, .un .not (.t 50)⟩,
 ⟨some 52, none, .mov (.t 51)⟩,
 ⟨some 53, some (52, false), .mov (.t 8)⟩,
 ⟨some 54, some (52, false), .fld (.t 1) 0⟩,
 ⟨some 55, some (52, false), .ixa (.t 54) (.t 53) 16 4⟩,
 ⟨some 56, some (52, false), .fld (.t 55) 0⟩,
 ⟨some 57, some (52, false), .load1 (.t 56)⟩,
 ⟨some 58, some (52, false), .un .not (.t 57)⟩,
 ⟨some 59, none, .pick (.t 52) (.k (.c (.bool true))) (.t 58)⟩,
 ⟨some 60, none, .mov (.t 59)⟩,
 ⟨some 61, some (60, false), .mov (.t 8)⟩,
 ⟨some 62, some (60, false), .fld (.t 1) 0⟩,
 ⟨some 63, some (60, false), .ixa (.t 62) (.t 61) 16 4⟩,
 ⟨some 64, some (60, false), .fld (.t 63) 1⟩,
 ⟨some 65, some (60, false), .load1 (.t 64)⟩,
 ⟨some 66, some (60, false), .mov (.t 7)⟩,
 ⟨some 67, some (60, false), .bin .leq (.t 65) (.t 66)⟩,
 ⟨some 68, none, .pick (.t 60) (.k (.c (.bool true))) (.t 67)⟩])
 (.cond (.t 68) (.seq (.reg false [⟨some 2, none, .mov (.k (.c (.bool false)))⟩])
 (.ret (some [2]))) .skip))
 (.seq (.reg false [⟨some 69, none, .mov (.t 8)⟩,
 ⟨some 70, none, .fld (.t 1) 0⟩,
 ⟨some 71, none, .ixa (.t 70) (.t 69) 16 4⟩,
 ⟨some 72, none, .fld (.t 71) 1⟩,
 ⟨some 73, none, .load1 (.t 72)⟩,
 ⟨some 7, none, .mov (.t 73)⟩])
 (.reg false [⟨some 74, none, .mov (.t 4)⟩,
 ⟨some 75, none, .bin .add (.t 74) (.k (.c (.int .i64 1)))⟩,
 ⟨some 4, none, .mov (.t 75)⟩]))))
 (.reg false [⟨some 44, none, .mov (.t 8)⟩,
 ⟨some 45, none, .fld (.t 1) 0⟩,
 ⟨some 46, none, .ixa (.t 45) (.t 44) 16 4⟩,
 ⟨some 47, none, .fld (.t 46) 3⟩,
 ⟨some 48, none, .load1 (.t 47)⟩,
 ⟨some 8, none, .mov (.t 48)⟩])))
def c_impl_ChainOk : IFn := ⟨79, [.t 2],
  (.seq (.reg false [⟨some 1, none, .box (.t 0) 57⟩,
 ⟨some 2, none, .mov (.k (.c (.bool false)))⟩])
 (.seq (.reg false [⟨some 3, none, .mov (.k (.c (.int .i64 0)))⟩,
 ⟨some 4, none, .mov (.k (.c (.int .i64 0)))⟩])
 (.seq (.seq (.reg false [⟨some 9, none, .fld (.t 1) 0⟩,
 ⟨some 10, none, .loadN (.t 9) 64⟩,
 ⟨some 11, none, .mov (.k (.c (.int .i64 0)))⟩])
 (.block 0 (some [1, 3, 4, 10, 11]) (some [1, 3, 4])
 (.loop c_impl_ChainOk_b0)))
 (.seq (.reg false [⟨some 7, none, .mov (.k (.c (.int .i64 (-1000000001))))⟩])
 (.seq (.seq (.reg false [⟨some 40, none, .fld (.t 1) 64⟩,
 ⟨some 41, none, .load1 (.t 40)⟩,
 ⟨some 8, none, .mov (.t 41)⟩])
 (.block 3 (some [1, 3, 4, 7, 8]) (some [3, 4])
 (.loop c_impl_ChainOk_b1)))
 (.seq (.reg false [⟨some 76, none, .mov (.t 4)⟩,
 ⟨some 77, none, .mov (.t 3)⟩,
 ⟨some 78, none, .bin .eql (.t 76) (.t 77)⟩,
 ⟨some 2, none, .mov (.t 78)⟩])
 (.ret (some [2]))))))))⟩
theorem c_impl_ChainOk_ok : trF Try.prog ⟨[(0, [1, 3, 4, 10, 11], [1, 3, 4]), (3, [1, 3, 4, 7, 8], [3, 4])], [2], false, false⟩ Try.f26 = some c_impl_ChainOk := by kernel_rfl
def c_impl_MapPut_b0 : IC :=
  (.seq (.reg false [⟨some 57, none, .bin .lss (.t 56) (.k (.c (.int .i64 16)))⟩])
 (.seq (.cond (.t 57) .skip (.exit 1))
 (.seq (.block 2 none none
 (.seq (.reg false [⟨some 58, none, .mov (.t 56)⟩,
 ⟨some 59, none, .idx (.t 55) (.t 56) 16 4 true⟩,
 ⟨some 14, none, .alloc [.bool false, .int .i64 0, .int .i64 0, .int .i64 0] 54⟩,
 ⟨some 13, none, .mov (.t 58)⟩,
 ⟨none, none, .store (.t 14) (.t 59) 4⟩])
 (.seq (.reg false [⟨some 60, none, .fld (.t 14) 0⟩,
 ⟨some 61, none, .load1 (.t 60)⟩,
 ⟨some 62, none, .un .not (.t 61)⟩])
 (.cond (.t 62) (.seq (.reg false [⟨some 63, none, .mov (.t 13)⟩,
 ⟨some 64, none, .mov (.t 1)⟩,
 ⟨some 65, none, .mov (.t 2)⟩,
 ⟨some 66, none, .mov (.t 10)⟩,
 ⟨some 67, none, .bld [.bool false, .int .i64 0, .int .i64 0, .int .i64 0] [(0, (1, .k (.c (.bool true)))), (1, (1, .t 64)), (2, (1, .t 65)), (3, (1, .t 66))]⟩,
 ⟨some 68, none, .fld (.t 3) 0⟩,
 ⟨some 69, none, .ixa (.t 68) (.t 63) 16 4⟩,
 ⟨none, none, .store (.t 69) (.t 67) 4⟩])
 (.seq (.reg false [⟨some 70, none, .mov (.t 9)⟩,
 ⟨some 71, none, .mov (.t 13)⟩,
 ⟨some 72, none, .call 75 [.t 3, .t 70, .t 71]⟩])
 (.seq (.reg false [⟨some 73, none, .loadN (.t 3) 65⟩,
 ⟨some 74, none, .mov (.t 11)⟩,
 ⟨none, none, .store (.t 6) (.t 73) 65⟩,
 ⟨some 7, none, .mov (.t 74)⟩,
 ⟨some 8, none, .mov (.k (.c (.int .i64 0)))⟩])
 (.ret (some [6, 7, 8]))))) .skip))))
 (.reg false [⟨some 75, none, .bin .add (.t 56) (.k (.c (.int .i64 1)))⟩,
 ⟨some 56, none, .mov (.t 75)⟩]))))
def c_impl_MapPut : IFn := ⟨78, [.cell 6 65 true, .t 7, .t 8],
  (.seq (.reg false [⟨some 3, none, .box (.t 0) 57⟩,
 ⟨some 6, none, .alloc [.bool false, .int .i64 0, .int .i64 0, .int .i64 0, .bool false, .int .i64 0, .int .i64 0, .int .i64 0, .bool false, .int .i64 0, .int .i64 0, .int .i64 0, .bool false, .int .i64 0, .int .i64 0, .int .i64 0, .bool false, .int .i64 0, .int .i64 0, .int .i64 0, .bool false, .int .i64 0, .int .i64 0, .int .i64 0, .bool false, .int .i64 0, .int .i64 0, .int .i64 0, .bool false, .int .i64 0, .int .i64 0, .int .i64 0, .bool false, .int .i64 0, .int .i64 0, .int .i64 0, .bool false, .int .i64 0, .int .i64 0, .int .i64 0, .bool false, .int .i64 0, .int .i64 0, .int .i64 0, .bool false, .int .i64 0, .int .i64 0, .int .i64 0, .bool false, .int .i64 0, .int .i64 0, .int .i64 0, .bool false, .int .i64 0, .int .i64 0, .int .i64 0, .bool false, .int .i64 0, .int .i64 0, .int .i64 0, .bool false, .int .i64 0, .int .i64 0, .int .i64 0, .int .i64 0] 57⟩,
 ⟨some 7, none, .mov (.k (.c (.int .i64 0)))⟩,
 ⟨some 8, none, .mov (.k (.c (.int .i64 0)))⟩])
 (.seq (.seq (.reg false [⟨some 15, none, .loadN (.t 3) 65⟩,
 ⟨some 16, none, .call 26 [.t 15]⟩,
 ⟨some 17, none, .un .not (.t 16)⟩,
 ⟨some 18, none, .mov (.t 17)⟩,
 ⟨some 19, some (18, false), .mov (.t 1)⟩,
 ⟨some 20, some (18, false), .call 62 [.t 19]⟩,
 ⟨some 21, some (18, false), .un .not (.t 20)⟩,
 ⟨some 22, none, .pick (.t 18) (.k (.c (.bool true))) (.t 21)⟩,
 ⟨some 23, none, .mov (.t 22)⟩,
 ⟨some 24, some (23, false), .mov (.t 2)⟩,
 ⟨some 25, some (23, false), .call 62 [.t 24]⟩,
 ⟨some 26, some (23, false), .un .not (.t 25)⟩,
 ⟨some 27, none, .pick (.t 23) (.k (.c (.bool true))) (.t 26)⟩])
 (.cond (.t 27) (.seq (.reg false [⟨some 28, none, .loadN (.t 3) 65⟩,
 ⟨none, none, .store (.t 6) (.t 28) 65⟩,
 ⟨some 7, none, .mov (.k (.c (.int .i64 0)))⟩,
 ⟨some 8, none, .mov (.k (.c (.int .i64 1)))⟩])
 (.ret (some [6, 7, 8]))) .skip))
 (.seq (.reg false [⟨some 30, none, .loadN (.t 3) 65⟩,
 ⟨some 31, none, .mov (.t 1)⟩,
 ⟨some 32, none, .call 73 [.t 30, .t 31]⟩,
 ⟨some 29, none, .mov (.t 32)⟩,
 ⟨some 33, none, .ext (.t 29) 0⟩,
 ⟨some 34, none, .ext (.t 29) 1⟩,
 ⟨some 35, none, .ext (.t 29) 2⟩,
 ⟨some 36, none, .ext (.t 29) 3⟩,
 ⟨some 9, none, .mov (.t 33)⟩,
 ⟨some 10, none, .mov (.t 34)⟩,
 ⟨some 11, none, .mov (.t 35)⟩,
 ⟨some 12, none, .mov (.t 36)⟩])
 (.seq (.block 0 none none
 (.seq (.reg false [⟨some 38, none, .mov (.t 12)⟩,
 ⟨some 39, none, .un .not (.t 38)⟩,
 ⟨some 37, none, .mov (.t 39)⟩])
 (.cond (.t 37) (.seq (.reg false [⟨some 40, none, .loadN (.t 3) 65⟩,
 ⟨some 41, none, .mov (.t 11)⟩,
 ⟨none, none, .store (.t 6) (.t 40) 65⟩,
 ⟨some 7, none, .mov (.t 41)⟩,
 ⟨some 8, none, .mov (.k (.c (.int .i64 2)))⟩])
 (.ret (some [6, 7, 8]))) (.seq (.reg false [⟨some 43, none, .loadN (.t 3) 65⟩,
 ⟨some 44, none, .mov (.t 10)⟩,
 ⟨some 45, none, .mov (.t 1)⟩,
 ⟨some 46, none, .call 74 [.t 43, .t 44, .t 45]⟩,
 ⟨some 42, none, .mov (.t 46)⟩])
 (.cond (.t 42) (.seq (.reg false [⟨some 47, none, .mov (.t 10)⟩,
 ⟨some 48, none, .mov (.t 2)⟩,
 ⟨some 49, none, .fld (.t 3) 0⟩,
 ⟨some 50, none, .ixa (.t 49) (.t 47) 16 4⟩,
 ⟨some 51, none, .fld (.t 50) 2⟩,
 ⟨none, none, .store (.t 51) (.t 48) 1⟩])
 (.seq (.reg false [⟨some 52, none, .loadN (.t 3) 65⟩,
 ⟨some 53, none, .mov (.t 11)⟩,
 ⟨none, none, .store (.t 6) (.t 52) 65⟩,
 ⟨some 7, none, .mov (.t 53)⟩,
 ⟨some 8, none, .mov (.k (.c (.int .i64 0)))⟩])
 (.ret (some [6, 7, 8])))) .skip)))))
 (.seq (.seq (.reg false [⟨some 54, none, .fld (.t 3) 0⟩,
 ⟨some 55, none, .loadN (.t 54) 64⟩,
 ⟨some 56, none, .mov (.k (.c (.int .i64 0)))⟩])
 (.block 1 (some [1, 2, 3, 6, 9, 10, 11, 55, 56]) (some [3, 6, 11])
 (.loop c_impl_MapPut_b0)))
 (.seq (.reg false [⟨some 76, none, .loadN (.t 3) 65⟩,
 ⟨some 77, none, .mov (.t 11)⟩,
 ⟨none, none, .store (.t 6) (.t 76) 65⟩,
 ⟨some 7, none, .mov (.t 77)⟩,
 ⟨some 8, none, .mov (.k (.c (.int .i64 3)))⟩])
 (.ret (some [6, 7, 8]))))))))⟩
theorem c_impl_MapPut_ok : trF Try.prog ⟨[(1, [1, 2, 3, 6, 9, 10, 11, 55, 56], [3, 6, 11])], [6, 7, 8], false, false⟩ Try.f27 = some c_impl_MapPut := by kernel_rfl
def c_impl_MapGet : IFn := ⟨44, [.t 4, .t 5, .t 6],
  (.seq (.reg false [⟨some 2, none, .box (.t 0) 57⟩,
 ⟨some 4, none, .mov (.k (.c (.int .i64 0)))⟩,
 ⟨some 5, none, .mov (.k (.c (.int .i64 0)))⟩,
 ⟨some 6, none, .mov (.k (.c (.int .i64 0)))⟩])
 (.seq (.seq (.reg false [⟨some 11, none, .loadN (.t 2) 65⟩,
 ⟨some 12, none, .call 26 [.t 11]⟩,
 ⟨some 13, none, .un .not (.t 12)⟩,
 ⟨some 14, none, .mov (.t 13)⟩,
 ⟨some 15, some (14, false), .mov (.t 1)⟩,
 ⟨some 16, some (14, false), .call 62 [.t 15]⟩,
 ⟨some 17, some (14, false), .un .not (.t 16)⟩,
 ⟨some 18, none, .pick (.t 14) (.k (.c (.bool true))) (.t 17)⟩])
 (.cond (.t 18) (.seq (.reg false [⟨some 4, none, .mov (.k (.c (.int .i64 0)))⟩,
 ⟨some 5, none, .mov (.k (.c (.int .i64 0)))⟩,
 ⟨some 6, none, .mov (.k (.c (.int .i64 1)))⟩])
 (.ret (some [4, 5, 6]))) .skip))
 (.seq (.reg false [⟨some 20, none, .loadN (.t 2) 65⟩,
 ⟨some 21, none, .mov (.t 1)⟩,
 ⟨some 22, none, .call 73 [.t 20, .t 21]⟩,
 ⟨some 19, none, .mov (.t 22)⟩,
 ⟨some 23, none, .ext (.t 19) 0⟩,
 ⟨some 24, none, .ext (.t 19) 1⟩,
 ⟨some 25, none, .ext (.t 19) 2⟩,
 ⟨some 26, none, .ext (.t 19) 3⟩,
 ⟨some 7, none, .mov (.t 23)⟩,
 ⟨some 8, none, .mov (.t 24)⟩,
 ⟨some 9, none, .mov (.t 25)⟩,
 ⟨some 10, none, .mov (.t 26)⟩])
 (.seq (.block 0 none none
 (.seq (.reg false [⟨some 28, none, .mov (.t 10)⟩,
 ⟨some 29, none, .un .not (.t 28)⟩,
 ⟨some 27, none, .mov (.t 29)⟩])
 (.cond (.t 27) (.seq (.reg false [⟨some 30, none, .mov (.t 9)⟩,
 ⟨some 4, none, .mov (.k (.c (.int .i64 0)))⟩,
 ⟨some 5, none, .mov (.t 30)⟩,
 ⟨some 6, none, .mov (.k (.c (.int .i64 2)))⟩])
 (.ret (some [4, 5, 6]))) (.seq (.reg false [⟨some 32, none, .loadN (.t 2) 65⟩,
 ⟨some 33, none, .mov (.t 8)⟩,
 ⟨some 34, none, .mov (.t 1)⟩,
 ⟨some 35, none, .call 74 [.t 32, .t 33, .t 34]⟩,
 ⟨some 36, none, .un .not (.t 35)⟩,
 ⟨some 31, none, .mov (.t 36)⟩])
 (.cond (.t 31) (.seq (.reg false [⟨some 37, none, .mov (.t 9)⟩,
 ⟨some 4, none, .mov (.k (.c (.int .i64 0)))⟩,
 ⟨some 5, none, .mov (.t 37)⟩,
 ⟨some 6, none, .mov (.k (.c (.int .i64 4)))⟩])
 (.ret (some [4, 5, 6]))) .skip)))))
 (.seq (.reg false [⟨some 38, none, .mov (.t 8)⟩,
 ⟨some 39, none, .fld (.t 2) 0⟩,
 ⟨some 40, none, .ixa (.t 39) (.t 38) 16 4⟩,
 ⟨some 41, none, .fld (.t 40) 2⟩,
 ⟨some 42, none, .load1 (.t 41)⟩,
 ⟨some 43, none, .mov (.t 9)⟩,
 ⟨some 4, none, .mov (.t 42)⟩,
 ⟨some 5, none, .mov (.t 43)⟩,
 ⟨some 6, none, .mov (.k (.c (.int .i64 0)))⟩])
 (.ret (some [4, 5, 6])))))))⟩
theorem c_impl_MapGet_ok : trF Try.prog ⟨[], [4, 5, 6], false, false⟩ Try.f28 = some c_impl_MapGet := by kernel_rfl
def c_impl_MapDrop : IFn := ⟨54, [.cell 4 65 true, .t 5, .t 6],
  (.seq (.reg false [⟨some 2, none, .box (.t 0) 57⟩,
 ⟨some 4, none, .alloc [.bool false, .int .i64 0, .int .i64 0, .int .i64 0, .bool false, .int .i64 0, .int .i64 0, .int .i64 0, .bool false, .int .i64 0, .int .i64 0, .int .i64 0, .bool false, .int .i64 0, .int .i64 0, .int .i64 0, .bool false, .int .i64 0, .int .i64 0, .int .i64 0, .bool false, .int .i64 0, .int .i64 0, .int .i64 0, .bool false, .int .i64 0, .int .i64 0, .int .i64 0, .bool false, .int .i64 0, .int .i64 0, .int .i64 0, .bool false, .int .i64 0, .int .i64 0, .int .i64 0, .bool false, .int .i64 0, .int .i64 0, .int .i64 0, .bool false, .int .i64 0, .int .i64 0, .int .i64 0, .bool false, .int .i64 0, .int .i64 0, .int .i64 0, .bool false, .int .i64 0, .int .i64 0, .int .i64 0, .bool false, .int .i64 0, .int .i64 0, .int .i64 0, .bool false, .int .i64 0, .int .i64 0, .int .i64 0, .bool false, .int .i64 0, .int .i64 0, .int .i64 0, .int .i64 0] 57⟩,
 ⟨some 5, none, .mov (.k (.c (.int .i64 0)))⟩,
 ⟨some 6, none, .mov (.k (.c (.int .i64 0)))⟩])
 (.seq (.seq (.reg false [⟨some 11, none, .loadN (.t 2) 65⟩,
 ⟨some 12, none, .call 26 [.t 11]⟩,
 ⟨some 13, none, .un .not (.t 12)⟩,
 ⟨some 14, none, .mov (.t 13)⟩,
 ⟨some 15, some (14, false), .mov (.t 1)⟩,
 ⟨some 16, some (14, false), .call 62 [.t 15]⟩,
 ⟨some 17, some (14, false), .un .not (.t 16)⟩,
 ⟨some 18, none, .pick (.t 14) (.k (.c (.bool true))) (.t 17)⟩])
 (.cond (.t 18) (.seq (.reg false [⟨some 19, none, .loadN (.t 2) 65⟩,
 ⟨none, none, .store (.t 4) (.t 19) 65⟩,
 ⟨some 5, none, .mov (.k (.c (.int .i64 0)))⟩,
 ⟨some 6, none, .mov (.k (.c (.int .i64 1)))⟩])
 (.ret (some [4, 5, 6]))) .skip))
 (.seq (.reg false [⟨some 21, none, .loadN (.t 2) 65⟩,
 ⟨some 22, none, .mov (.t 1)⟩,
 ⟨some 23, none, .call 73 [.t 21, .t 22]⟩,
 ⟨some 20, none, .mov (.t 23)⟩,
 ⟨some 24, none, .ext (.t 20) 0⟩,
 ⟨some 25, none, .ext (.t 20) 1⟩,
 ⟨some 26, none, .ext (.t 20) 2⟩,
 ⟨some 27, none, .ext (.t 20) 3⟩,
 ⟨some 7, none, .mov (.t 24)⟩,
 ⟨some 8, none, .mov (.t 25)⟩,
 ⟨some 9, none, .mov (.t 26)⟩,
 ⟨some 10, none, .mov (.t 27)⟩])
 (.seq (.block 0 none none
 (.seq (.reg false [⟨some 29, none, .mov (.t 10)⟩,
 ⟨some 30, none, .un .not (.t 29)⟩,
 ⟨some 28, none, .mov (.t 30)⟩])
 (.cond (.t 28) (.seq (.reg false [⟨some 31, none, .loadN (.t 2) 65⟩,
 ⟨some 32, none, .mov (.t 9)⟩,
 ⟨none, none, .store (.t 4) (.t 31) 65⟩,
 ⟨some 5, none, .mov (.t 32)⟩,
 ⟨some 6, none, .mov (.k (.c (.int .i64 2)))⟩])
 (.ret (some [4, 5, 6]))) (.seq (.reg false [⟨some 34, none, .loadN (.t 2) 65⟩,
 ⟨some 35, none, .mov (.t 8)⟩,
 ⟨some 36, none, .mov (.t 1)⟩,
 ⟨some 37, none, .call 74 [.t 34, .t 35, .t 36]⟩,
 ⟨some 38, none, .un .not (.t 37)⟩,
 ⟨some 33, none, .mov (.t 38)⟩])
 (.cond (.t 33) (.seq (.reg false [⟨some 39, none, .loadN (.t 2) 65⟩,
 ⟨some 40, none, .mov (.t 9)⟩,
 ⟨none, none, .store (.t 4) (.t 39) 65⟩,
 ⟨some 5, none, .mov (.t 40)⟩,
 ⟨some 6, none, .mov (.k (.c (.int .i64 4)))⟩])
 (.ret (some [4, 5, 6]))) .skip)))))
 (.seq (.reg false [⟨some 41, none, .mov (.t 7)⟩,
 ⟨some 42, none, .mov (.t 8)⟩,
 ⟨some 43, none, .fld (.t 2) 0⟩,
 ⟨some 44, none, .ixa (.t 43) (.t 42) 16 4⟩,
 ⟨some 45, none, .fld (.t 44) 3⟩,
 ⟨some 46, none, .load1 (.t 45)⟩,
 ⟨some 47, none, .call 75 [.t 2, .t 41, .t 46]⟩])
 (.seq (.reg false [⟨some 48, none, .mov (.t 8)⟩,
 ⟨some 49, none, .bld [.bool false, .int .i64 0, .int .i64 0, .int .i64 0] []⟩,
 ⟨some 50, none, .fld (.t 2) 0⟩,
 ⟨some 51, none, .ixa (.t 50) (.t 48) 16 4⟩,
 ⟨none, none, .store (.t 51) (.t 49) 4⟩])
 (.seq (.reg false [⟨some 52, none, .loadN (.t 2) 65⟩,
 ⟨some 53, none, .mov (.t 9)⟩,
 ⟨none, none, .store (.t 4) (.t 52) 65⟩,
 ⟨some 5, none, .mov (.t 53)⟩,
 ⟨some 6, none, .mov (.k (.c (.int .i64 0)))⟩])
 (.ret (some [4, 5, 6])))))))))⟩
theorem c_impl_MapDrop_ok : trF Try.prog ⟨[], [4, 5, 6], false, false⟩ Try.f29 = some c_impl_MapDrop := by kernel_rfl
def c_impl_MapRange_b0 : IC :=
  (.seq (.reg false [⟨some 25, none, .bin .lss (.t 24) (.t 23)⟩])
 (.seq (.cond (.t 25) .skip (.exit 0))
 (.seq (.block 1 none none
 (.seq (.reg false [⟨some 26, none, .mov (.t 24)⟩,
 ⟨some 27, none, .ixs (.t 22) (.t 24) 1⟩,
 ⟨some 28, none, .load1 (.t 27)⟩,
 ⟨some 11, none, .mov (.t 26)⟩,
 ⟨some 12, none, .mov (.t 28)⟩])
 (.seq (.seq (.reg false [⟨some 29, none, .mov (.t 11)⟩,
 ⟨some 30, none, .bin .eql (.t 29) (.k (.c (.int .i64 10)))⟩])
 (.cond (.t 30) (.seq (.reg false [⟨some 6, none, .mov (.k (.c .nils))⟩,
 ⟨some 7, none, .mov (.k (.c (.int .i64 2)))⟩])
 (.ret (some [6, 7]))) .skip))
 (.seq (.seq (.reg false [⟨some 31, none, .mov (.t 12)⟩,
 ⟨some 32, none, .mov (.t 2)⟩,
 ⟨some 33, none, .bin .gtr (.t 31) (.t 32)⟩])
 (.cond (.t 33) (.exit 0) .skip))
 (.seq (.reg false [⟨some 34, none, .mov (.t 12)⟩,
 ⟨some 35, none, .mov (.t 1)⟩,
 ⟨some 36, none, .bin .geq (.t 34) (.t 35)⟩])
 (.cond (.t 36) (.reg false [⟨some 37, none, .mov (.t 10)⟩,
 ⟨some 38, none, .mov (.t 12)⟩,
 ⟨some 39, none, .lit 1 1 [.int .i64 0] [(0, .t 38)] 3⟩,
 ⟨some 40, none, .app (.t 37) (.t 39) 3 1 8⟩,
 ⟨some 10, none, .mov (.t 40)⟩]) .skip))))))
 (.reg false [⟨some 41, none, .bin .add (.t 24) (.k (.c (.int .i64 1)))⟩,
 ⟨some 24, none, .mov (.t 41)⟩]))))
def c_impl_MapRange : IFn := ⟨43, [.t 6, .t 7],
  (.seq (.reg false [⟨some 3, none, .box (.t 0) 57⟩,
 ⟨some 6, none, .mov (.k (.c .nils))⟩,
 ⟨some 7, none, .mov (.k (.c (.int .i64 0)))⟩])
 (.seq (.reg false [⟨some 14, none, .loadN (.t 3) 65⟩,
 ⟨some 15, none, .call 25 [.t 14]⟩,
 ⟨some 13, none, .mov (.t 15)⟩,
 ⟨some 16, none, .ext (.t 13) 0⟩,
 ⟨some 17, none, .ext (.t 13) 1⟩,
 ⟨some 8, none, .mov (.t 16)⟩,
 ⟨some 9, none, .mov (.t 17)⟩])
 (.seq (.seq (.reg false [⟨some 18, none, .loadN (.t 3) 65⟩,
 ⟨some 19, none, .call 26 [.t 18]⟩,
 ⟨some 20, none, .un .not (.t 19)⟩])
 (.cond (.t 20) (.seq (.reg false [⟨some 6, none, .mov (.k (.c .nils))⟩,
 ⟨some 7, none, .mov (.k (.c (.int .i64 1)))⟩])
 (.ret (some [6, 7]))) .skip))
 (.seq (.reg false [⟨some 21, none, .lit 0 1 [.int .i64 0] [] 3⟩,
 ⟨some 10, none, .mov (.t 21)⟩])
 (.seq (.seq (.reg false [⟨some 22, none, .mov (.t 8)⟩,
 ⟨some 23, none, .len (.t 22)⟩,
 ⟨some 24, none, .mov (.k (.c (.int .i64 0)))⟩])
 (.block 0 (some [1, 2, 10, 22, 23, 24]) (some [10])
 (.loop c_impl_MapRange_b0)))
 (.seq (.reg false [⟨some 42, none, .mov (.t 10)⟩,
 ⟨some 6, none, .mov (.t 42)⟩,
 ⟨some 7, none, .mov (.k (.c (.int .i64 0)))⟩])
 (.ret (some [6, 7]))))))))⟩
theorem c_impl_MapRange_ok : trF Try.prog ⟨[(0, [1, 2, 10, 22, 23, 24], [10])], [6, 7], false, false⟩ Try.f30 = some c_impl_MapRange := by kernel_rfl
def c_laws_within_b0 : IC :=
  (.seq (.seq (.reg false [⟨some 6, none, .mov (.t 5)⟩,
 ⟨some 7, none, .mov (.t 0)⟩,
 ⟨some 8, none, .len (.t 7)⟩,
 ⟨some 9, none, .bin .lss (.t 6) (.t 8)⟩])
 (.cond (.t 9) .skip (.exit 0)))
 (.seq (.block 1 none none
 (.seq (.reg false [⟨some 12, none, .mov (.t 0)⟩,
 ⟨some 13, none, .mov (.t 5)⟩,
 ⟨some 14, none, .ixs (.t 12) (.t 13) 1⟩,
 ⟨some 15, none, .load1 (.t 14)⟩,
 ⟨some 16, none, .mov (.t 1)⟩,
 ⟨some 17, none, .bin .eql (.t 15) (.t 16)⟩])
 (.cond (.t 17) (.seq (.reg false [⟨some 4, none, .mov (.k (.c (.bool true)))⟩])
 (.ret (some [4]))) .skip)))
 (.reg false [⟨some 10, none, .mov (.t 5)⟩,
 ⟨some 11, none, .bin .add (.t 10) (.k (.c (.int .i64 1)))⟩,
 ⟨some 5, none, .mov (.t 11)⟩])))
def c_laws_within : IFn := ⟨18, [.t 4],
  (.seq (.reg false [⟨some 4, none, .mov (.k (.c (.bool false)))⟩])
 (.seq (.seq (.reg false [⟨some 5, none, .mov (.k (.c (.int .i64 0)))⟩])
 (.block 0 (some [0, 1, 5]) (some [])
 (.loop c_laws_within_b0)))
 (.seq (.reg false [⟨some 4, none, .mov (.k (.c (.bool false)))⟩])
 (.ret (some [4])))))⟩
theorem c_laws_within_ok : trF Try.prog ⟨[(0, [0, 1, 5], [])], [4], false, false⟩ Try.f31 = some c_laws_within := by kernel_rfl
def c_impl_NewChain : IFn := ⟨2, [.cell 0 65 true],
  (.seq (.reg false [⟨some 0, none, .alloc [.bool false, .int .i64 0, .int .i64 0, .int .i64 0, .bool false, .int .i64 0, .int .i64 0, .int .i64 0, .bool false, .int .i64 0, .int .i64 0, .int .i64 0, .bool false, .int .i64 0, .int .i64 0, .int .i64 0, .bool false, .int .i64 0, .int .i64 0, .int .i64 0, .bool false, .int .i64 0, .int .i64 0, .int .i64 0, .bool false, .int .i64 0, .int .i64 0, .int .i64 0, .bool false, .int .i64 0, .int .i64 0, .int .i64 0, .bool false, .int .i64 0, .int .i64 0, .int .i64 0, .bool false, .int .i64 0, .int .i64 0, .int .i64 0, .bool false, .int .i64 0, .int .i64 0, .int .i64 0, .bool false, .int .i64 0, .int .i64 0, .int .i64 0, .bool false, .int .i64 0, .int .i64 0, .int .i64 0, .bool false, .int .i64 0, .int .i64 0, .int .i64 0, .bool false, .int .i64 0, .int .i64 0, .int .i64 0, .bool false, .int .i64 0, .int .i64 0, .int .i64 0, .int .i64 0] 57⟩])
 (.seq (.reg false [⟨some 1, none, .bld [.bool false, .int .i64 0, .int .i64 0, .int .i64 0, .bool false, .int .i64 0, .int .i64 0, .int .i64 0, .bool false, .int .i64 0, .int .i64 0, .int .i64 0, .bool false, .int .i64 0, .int .i64 0, .int .i64 0, .bool false, .int .i64 0, .int .i64 0, .int .i64 0, .bool false, .int .i64 0, .int .i64 0, .int .i64 0, .bool false, .int .i64 0, .int .i64 0, .int .i64 0, .bool false, .int .i64 0, .int .i64 0, .int .i64 0, .bool false, .int .i64 0, .int .i64 0, .int .i64 0, .bool false, .int .i64 0, .int .i64 0, .int .i64 0, .bool false, .int .i64 0, .int .i64 0, .int .i64 0, .bool false, .int .i64 0, .int .i64 0, .int .i64 0, .bool false, .int .i64 0, .int .i64 0, .int .i64 0, .bool false, .int .i64 0, .int .i64 0, .int .i64 0, .bool false, .int .i64 0, .int .i64 0, .int .i64 0, .bool false, .int .i64 0, .int .i64 0, .int .i64 0, .int .i64 0] [(64, (1, .k (.c (.int .i64 (-1)))))]⟩,
 ⟨none, none, .store (.t 0) (.t 1) 65⟩])
 (.ret (some [0]))))⟩
theorem c_impl_NewChain_ok : trF Try.prog ⟨[], [0], false, false⟩ Try.f32 = some c_impl_NewChain := by kernel_rfl
def c_spec_DrawTree : IFn := ⟨6, [.cell 2 65 true],
  (.seq (.reg false [⟨some 2, none, .alloc [.bool false, .int .i64 0, .int .i64 0, .int .i64 0, .bool false, .int .i64 0, .int .i64 0, .int .i64 0, .bool false, .int .i64 0, .int .i64 0, .int .i64 0, .bool false, .int .i64 0, .int .i64 0, .int .i64 0, .bool false, .int .i64 0, .int .i64 0, .int .i64 0, .bool false, .int .i64 0, .int .i64 0, .int .i64 0, .bool false, .int .i64 0, .int .i64 0, .int .i64 0, .bool false, .int .i64 0, .int .i64 0, .int .i64 0, .bool false, .int .i64 0, .int .i64 0, .int .i64 0, .bool false, .int .i64 0, .int .i64 0, .int .i64 0, .bool false, .int .i64 0, .int .i64 0, .int .i64 0, .bool false, .int .i64 0, .int .i64 0, .int .i64 0, .bool false, .int .i64 0, .int .i64 0, .int .i64 0, .bool false, .int .i64 0, .int .i64 0, .int .i64 0, .bool false, .int .i64 0, .int .i64 0, .int .i64 0, .bool false, .int .i64 0, .int .i64 0, .int .i64 0, .int .i64 0] 47⟩])
 (.seq (.reg false [⟨some 3, none, .mov (.t 0)⟩,
 ⟨some 4, none, .call 61 [.t 3]⟩,
 ⟨some 5, none, .call 76 [.t 4]⟩,
 ⟨none, none, .store (.t 2) (.t 5) 65⟩])
 (.ret (some [2]))))⟩
theorem c_spec_DrawTree_ok : trF Try.prog ⟨[], [2], false, false⟩ Try.f33 = some c_spec_DrawTree := by kernel_rfl
def c_impl_TreeKeys : IFn := ⟨11, [.t 2],
  (.seq (.reg false [⟨some 1, none, .box (.t 0) 47⟩,
 ⟨some 2, none, .mov (.k (.c .nils))⟩])
 (.seq (.seq (.reg false [⟨some 3, none, .loadN (.t 1) 65⟩,
 ⟨some 4, none, .call 35 [.t 3]⟩,
 ⟨some 5, none, .un .not (.t 4)⟩])
 (.cond (.t 5) (.seq (.reg false [⟨some 2, none, .mov (.k (.c .nils))⟩])
 (.ret (some [2]))) .skip))
 (.seq (.reg false [⟨some 6, none, .loadN (.t 1) 65⟩,
 ⟨some 7, none, .fld (.t 1) 64⟩,
 ⟨some 8, none, .load1 (.t 7)⟩,
 ⟨some 9, none, .lit 0 1 [.int .i64 0] [] 3⟩,
 ⟨some 10, none, .call 77 [.t 6, .t 8, .t 9]⟩,
 ⟨some 2, none, .mov (.t 10)⟩])
 (.ret (some [2])))))⟩
theorem c_impl_TreeKeys_ok : trF Try.prog ⟨[], [2], false, false⟩ Try.f34 = some c_impl_TreeKeys := by kernel_rfl
def c_impl_TreeOk_b0 : IC :=
  (.seq (.reg false [⟨some 15, none, .bin .lss (.t 14) (.k (.c (.int .i64 16)))⟩])
 (.seq (.cond (.t 15) .skip (.exit 0))
 (.seq (.block 1 none none
 (.seq (.reg false [⟨some 16, none, .mov (.t 14)⟩,
 ⟨some 17, none, .idx (.t 13) (.t 14) 16 4 true⟩,
 ⟨some 5, none, .alloc [.bool false, .int .i64 0, .int .i64 0, .int .i64 0] 44⟩,
 ⟨some 4, none, .mov (.t 16)⟩,
 ⟨none, none, .store (.t 5) (.t 17) 4⟩])
 (.seq (.reg true [⟨some 18, none, .fld (.t 5) 0⟩,
 ⟨some 19, none, .load1 (.t 18)⟩,
 ⟨some 20, none, .mov (.t 4)⟩,
 ⟨some 21, none, .ixa (.t 3) (.t 20) 16 1⟩,
 ⟨some 22, none, .load1 (.t 21)⟩,
 ⟨some 23, none, .binb true (.t 19) (.t 22)⟩,
 ⟨some 24, none, .mov (.t 23)⟩,
 ⟨some 25, some (24, false), .fld (.t 5) 0⟩,
 ⟨some 26, some (24, false), .load1 (.t 25)⟩,
 ⟨some 27, some (24, false), .un .not (.t 26)⟩,
 ⟨some 28, some (24, false), .mov (.t 27)⟩,
 ⟨some 29, some (28, true), .loadN (.t 5) 4⟩,
 ⟨some 30, some (28, true), .bld [.bool false, .int .i64 0, .int .i64 0, .int .i64 0] []⟩,
 ⟨some 31, some (28, true), .eqa true [none, some .i64, some .i64, some .i64] (.t 29) (.t 30)⟩,
 ⟨some 32, some (24, false), .pick (.t 28) (.t 31) (.k (.c (.bool false)))⟩,
 ⟨some 33, none, .pick (.t 24) (.k (.c (.bool true))) (.t 32)⟩])
 (.cond (.t 33) (.seq (.reg false [⟨some 2, none, .mov (.k (.c (.bool false)))⟩])
 (.ret (some [2]))) .skip))))
 (.reg false [⟨some 34, none, .bin .add (.t 14) (.k (.c (.int .i64 1)))⟩,
 ⟨some 14, none, .mov (.t 34)⟩]))))
def c_impl_TreeOk : IFn := ⟨35, [.t 2],
  (.seq (.reg false [⟨some 1, none, .box (.t 0) 47⟩,
 ⟨some 2, none, .mov (.k (.c (.bool false)))⟩])
 (.seq (.reg false [⟨some 6, none, .bld [.bool false, .bool false, .bool false, .bool false, .bool false, .bool false, .bool false, .bool false, .bool false, .bool false, .bool false, .bool false, .bool false, .bool false, .bool false, .bool false] []⟩,
 ⟨some 3, none, .alloc [.bool false, .bool false, .bool false, .bool false, .bool false, .bool false, .bool false, .bool false, .bool false, .bool false, .bool false, .bool false, .bool false, .bool false, .bool false, .bool false] 141⟩,
 ⟨none, none, .store (.t 3) (.t 6) 16⟩])
 (.seq (.seq (.reg false [⟨some 7, none, .loadN (.t 1) 65⟩,
 ⟨some 8, none, .fld (.t 1) 64⟩,
 ⟨some 9, none, .load1 (.t 8)⟩,
 ⟨some 10, none, .call 78 [.t 7, .t 9, .k (.c (.int .i64 (-1000000000))), .k (.c (.int .i64 1000000000)), .t 3]⟩,
 ⟨some 11, none, .un .not (.t 10)⟩])
 (.cond (.t 11) (.seq (.reg false [⟨some 2, none, .mov (.k (.c (.bool false)))⟩])
 (.ret (some [2]))) .skip))
 (.seq (.seq (.reg false [⟨some 12, none, .fld (.t 1) 0⟩,
 ⟨some 13, none, .loadN (.t 12) 64⟩,
 ⟨some 14, none, .mov (.k (.c (.int .i64 0)))⟩])
 (.block 0 (some [3, 13, 14]) (some [])
 (.loop c_impl_TreeOk_b0)))
 (.seq (.reg false [⟨some 2, none, .mov (.k (.c (.bool true)))⟩])
 (.ret (some [2])))))))⟩
theorem c_impl_TreeOk_ok : trF Try.prog ⟨[(0, [3, 13, 14], [])], [2], false, false⟩ Try.f35 = some c_impl_TreeOk := by kernel_rfl
def c_impl_TreeHigh : IFn := ⟨10, [.t 2],
  (.seq (.reg false [⟨some 1, none, .box (.t 0) 47⟩,
 ⟨some 2, none, .mov (.k (.c (.int .i64 0)))⟩])
 (.seq (.seq (.reg false [⟨some 3, none, .loadN (.t 1) 65⟩,
 ⟨some 4, none, .call 35 [.t 3]⟩,
 ⟨some 5, none, .un .not (.t 4)⟩])
 (.cond (.t 5) (.seq (.reg false [⟨some 2, none, .mov (.k (.c (.int .i64 (-1))))⟩])
 (.ret (some [2]))) .skip))
 (.seq (.reg false [⟨some 6, none, .loadN (.t 1) 65⟩,
 ⟨some 7, none, .fld (.t 1) 64⟩,
 ⟨some 8, none, .load1 (.t 7)⟩,
 ⟨some 9, none, .call 79 [.t 6, .t 8]⟩,
 ⟨some 2, none, .mov (.t 9)⟩])
 (.ret (some [2])))))⟩
theorem c_impl_TreeHigh_ok : trF Try.prog ⟨[], [2], false, false⟩ Try.f36 = some c_impl_TreeHigh := by kernel_rfl
def c_impl_TreeAdd_b0 : IC :=
  (.seq (.reg false [⟨some 39, none, .bin .lss (.t 38) (.k (.c (.int .i64 16)))⟩])
 (.seq (.cond (.t 39) .skip (.exit 1))
 (.seq (.block 2 none none
 (.seq (.reg false [⟨some 40, none, .mov (.t 38)⟩,
 ⟨some 41, none, .idx (.t 37) (.t 38) 16 4 true⟩,
 ⟨some 10, none, .alloc [.bool false, .int .i64 0, .int .i64 0, .int .i64 0] 44⟩,
 ⟨some 9, none, .mov (.t 40)⟩,
 ⟨none, none, .store (.t 10) (.t 41) 4⟩])
 (.seq (.reg false [⟨some 42, none, .fld (.t 10) 0⟩,
 ⟨some 43, none, .load1 (.t 42)⟩,
 ⟨some 44, none, .un .not (.t 43)⟩])
 (.cond (.t 44) (.seq (.reg false [⟨some 45, none, .mov (.t 6)⟩,
 ⟨some 46, none, .mov (.t 9)⟩,
 ⟨some 47, none, .chk (.t 45)⟩,
 ⟨none, none, .store (.t 47) (.t 46) 1⟩])
 (.seq (.reg false [⟨some 48, none, .mov (.t 9)⟩,
 ⟨some 49, none, .mov (.t 1)⟩,
 ⟨some 50, none, .bld [.bool false, .int .i64 0, .int .i64 0, .int .i64 0] [(0, (1, .k (.c (.bool true)))), (1, (1, .t 49)), (2, (1, .k (.c (.int .i64 (-1))))), (3, (1, .k (.c (.int .i64 (-1)))))]⟩,
 ⟨some 51, none, .fld (.t 2) 0⟩,
 ⟨some 52, none, .ixa (.t 51) (.t 48) 16 4⟩,
 ⟨none, none, .store (.t 52) (.t 50) 4⟩])
 (.seq (.reg false [⟨some 53, none, .loadN (.t 2) 65⟩,
 ⟨none, none, .store (.t 4) (.t 53) 65⟩,
 ⟨some 5, none, .mov (.k (.c (.int .i64 0)))⟩])
 (.ret (some [4, 5]))))) .skip))))
 (.reg false [⟨some 54, none, .bin .add (.t 38) (.k (.c (.int .i64 1)))⟩,
 ⟨some 38, none, .mov (.t 54)⟩]))))
def c_impl_TreeAdd : IFn := ⟨56, [.cell 4 65 true, .t 5],
  (.seq (.reg false [⟨some 2, none, .box (.t 0) 47⟩,
 ⟨some 4, none, .alloc [.bool false, .int .i64 0, .int .i64 0, .int .i64 0, .bool false, .int .i64 0, .int .i64 0, .int .i64 0, .bool false, .int .i64 0, .int .i64 0, .int .i64 0, .bool false, .int .i64 0, .int .i64 0, .int .i64 0, .bool false, .int .i64 0, .int .i64 0, .int .i64 0, .bool false, .int .i64 0, .int .i64 0, .int .i64 0, .bool false, .int .i64 0, .int .i64 0, .int .i64 0, .bool false, .int .i64 0, .int .i64 0, .int .i64 0, .bool false, .int .i64 0, .int .i64 0, .int .i64 0, .bool false, .int .i64 0, .int .i64 0, .int .i64 0, .bool false, .int .i64 0, .int .i64 0, .int .i64 0, .bool false, .int .i64 0, .int .i64 0, .int .i64 0, .bool false, .int .i64 0, .int .i64 0, .int .i64 0, .bool false, .int .i64 0, .int .i64 0, .int .i64 0, .bool false, .int .i64 0, .int .i64 0, .int .i64 0, .bool false, .int .i64 0, .int .i64 0, .int .i64 0, .int .i64 0] 47⟩,
 ⟨some 5, none, .mov (.k (.c (.int .i64 0)))⟩])
 (.seq (.seq (.reg false [⟨some 11, none, .loadN (.t 2) 65⟩,
 ⟨some 12, none, .call 35 [.t 11]⟩,
 ⟨some 13, none, .un .not (.t 12)⟩,
 ⟨some 14, none, .mov (.t 13)⟩,
 ⟨some 15, some (14, false), .mov (.t 1)⟩,
 ⟨some 16, some (14, false), .call 62 [.t 15]⟩,
 ⟨some 17, some (14, false), .un .not (.t 16)⟩,
 ⟨some 18, none, .pick (.t 14) (.k (.c (.bool true))) (.t 17)⟩])
 (.cond (.t 18) (.seq (.reg false [⟨some 19, none, .loadN (.t 2) 65⟩,
 ⟨none, none, .store (.t 4) (.t 19) 65⟩,
 ⟨some 5, none, .mov (.k (.c (.int .i64 1)))⟩])
 (.ret (some [4, 5]))) .skip))
 (.seq (.reg false [⟨some 21, none, .mov (.t 1)⟩,
 ⟨some 22, none, .call 70 [.t 2, .t 21]⟩,
 ⟨some 20, none, .mov (.t 22)⟩,
 ⟨some 23, none, .ext (.t 20) 0⟩,
 ⟨some 24, none, .ext (.t 20) 1⟩,
 ⟨some 25, none, .ext (.t 20) 2⟩,
 ⟨some 6, none, .mov (.t 23)⟩,
 ⟨some 7, none, .mov (.t 24)⟩,
 ⟨some 8, none, .mov (.t 25)⟩])
 (.seq (.block 0 none none
 (.seq (.reg false [⟨some 27, none, .mov (.t 8)⟩,
 ⟨some 28, none, .un .not (.t 27)⟩,
 ⟨some 26, none, .mov (.t 28)⟩])
 (.cond (.t 26) (.seq (.reg false [⟨some 29, none, .loadN (.t 2) 65⟩,
 ⟨none, none, .store (.t 4) (.t 29) 65⟩,
 ⟨some 5, none, .mov (.k (.c (.int .i64 2)))⟩])
 (.ret (some [4, 5]))) (.seq (.reg false [⟨some 31, none, .mov (.t 6)⟩,
 ⟨some 32, none, .chk (.t 31)⟩,
 ⟨some 33, none, .load1 (.t 32)⟩,
 ⟨some 34, none, .bin .neq (.t 33) (.k (.c (.int .i64 (-1))))⟩,
 ⟨some 30, none, .mov (.t 34)⟩])
 (.cond (.t 30) (.seq (.reg false [⟨some 35, none, .loadN (.t 2) 65⟩,
 ⟨none, none, .store (.t 4) (.t 35) 65⟩,
 ⟨some 5, none, .mov (.k (.c (.int .i64 4)))⟩])
 (.ret (some [4, 5]))) .skip)))))
 (.seq (.seq (.reg false [⟨some 36, none, .fld (.t 2) 0⟩,
 ⟨some 37, none, .loadN (.t 36) 64⟩,
 ⟨some 38, none, .mov (.k (.c (.int .i64 0)))⟩])
 (.block 1 (some [1, 2, 4, 6, 37, 38]) (some [2, 4])
 (.loop c_impl_TreeAdd_b0)))
 (.seq (.reg false [⟨some 55, none, .loadN (.t 2) 65⟩,
 ⟨none, none, .store (.t 4) (.t 55) 65⟩,
 ⟨some 5, none, .mov (.k (.c (.int .i64 3)))⟩])
 (.ret (some [4, 5]))))))))⟩
theorem c_impl_TreeAdd_ok : trF Try.prog ⟨[(1, [1, 2, 4, 6, 37, 38], [2, 4])], [4, 5], false, false⟩ Try.f37 = some c_impl_TreeAdd := by kernel_rfl
def c_impl_TreeFind : IFn := ⟨34, [.t 4, .t 5],
  (.seq (.reg false [⟨some 2, none, .box (.t 0) 47⟩,
 ⟨some 4, none, .mov (.k (.c (.int .i64 0)))⟩,
 ⟨some 5, none, .mov (.k (.c (.int .i64 0)))⟩])
 (.seq (.seq (.reg false [⟨some 9, none, .loadN (.t 2) 65⟩,
 ⟨some 10, none, .call 35 [.t 9]⟩,
 ⟨some 11, none, .un .not (.t 10)⟩,
 ⟨some 12, none, .mov (.t 11)⟩,
 ⟨some 13, some (12, false), .mov (.t 1)⟩,
 ⟨some 14, some (12, false), .call 62 [.t 13]⟩,
 ⟨some 15, some (12, false), .un .not (.t 14)⟩,
 ⟨some 16, none, .pick (.t 12) (.k (.c (.bool true))) (.t 15)⟩])
 (.cond (.t 16) (.seq (.reg false [⟨some 4, none, .mov (.k (.c (.int .i64 0)))⟩,
 ⟨some 5, none, .mov (.k (.c (.int .i64 1)))⟩])
 (.ret (some [4, 5]))) .skip))
 (.seq (.reg false [⟨some 18, none, .mov (.t 1)⟩,
 ⟨some 19, none, .call 70 [.t 2, .t 18]⟩,
 ⟨some 17, none, .mov (.t 19)⟩,
 ⟨some 20, none, .ext (.t 17) 0⟩,
 ⟨some 21, none, .ext (.t 17) 1⟩,
 ⟨some 22, none, .ext (.t 17) 2⟩,
 ⟨some 6, none, .mov (.t 20)⟩,
 ⟨some 7, none, .mov (.t 21)⟩,
 ⟨some 8, none, .mov (.t 22)⟩])
 (.seq (.block 0 none none
 (.seq (.reg false [⟨some 24, none, .mov (.t 8)⟩,
 ⟨some 25, none, .un .not (.t 24)⟩,
 ⟨some 23, none, .mov (.t 25)⟩])
 (.cond (.t 23) (.seq (.reg false [⟨some 26, none, .mov (.t 7)⟩,
 ⟨some 4, none, .mov (.t 26)⟩,
 ⟨some 5, none, .mov (.k (.c (.int .i64 2)))⟩])
 (.ret (some [4, 5]))) (.seq (.reg false [⟨some 28, none, .mov (.t 6)⟩,
 ⟨some 29, none, .chk (.t 28)⟩,
 ⟨some 30, none, .load1 (.t 29)⟩,
 ⟨some 31, none, .bin .eql (.t 30) (.k (.c (.int .i64 (-1))))⟩,
 ⟨some 27, none, .mov (.t 31)⟩])
 (.cond (.t 27) (.seq (.reg false [⟨some 32, none, .mov (.t 7)⟩,
 ⟨some 4, none, .mov (.t 32)⟩,
 ⟨some 5, none, .mov (.k (.c (.int .i64 5)))⟩])
 (.ret (some [4, 5]))) .skip)))))
 (.seq (.reg false [⟨some 33, none, .mov (.t 7)⟩,
 ⟨some 4, none, .mov (.t 33)⟩,
 ⟨some 5, none, .mov (.k (.c (.int .i64 4)))⟩])
 (.ret (some [4, 5])))))))⟩
theorem c_impl_TreeFind_ok : trF Try.prog ⟨[], [4, 5], false, false⟩ Try.f38 = some c_impl_TreeFind := by kernel_rfl
def c_impl_TreeBuild_b0 : IC :=
  (.seq (.reg false [⟨some 10, none, .bin .lss (.t 9) (.t 8)⟩])
 (.seq (.cond (.t 10) .skip (.exit 0))
 (.seq (.block 1 none none
 (.seq (.reg false [⟨some 11, none, .mov (.t 9)⟩,
 ⟨some 12, none, .ixs (.t 7) (.t 9) 1⟩,
 ⟨some 13, none, .load1 (.t 12)⟩,
 ⟨some 4, none, .mov (.t 11)⟩,
 ⟨some 5, none, .mov (.t 13)⟩])
 (.seq (.reg false [⟨some 14, none, .mov (.t 4)⟩,
 ⟨some 15, none, .bin .geq (.t 14) (.k (.c (.int .i64 16)))⟩,
 ⟨some 16, none, .mov (.t 15)⟩,
 ⟨some 17, some (16, false), .mov (.t 5)⟩,
 ⟨some 18, some (16, false), .call 62 [.t 17]⟩,
 ⟨some 19, some (16, false), .un .not (.t 18)⟩,
 ⟨some 20, none, .pick (.t 16) (.k (.c (.bool true))) (.t 19)⟩,
 ⟨some 21, none, .mov (.t 20)⟩,
 ⟨some 22, some (21, false), .mov (.t 4)⟩,
 ⟨some 23, some (21, false), .bin .gtr (.t 22) (.k (.c (.int .i64 0)))⟩,
 ⟨some 24, some (21, false), .mov (.t 23)⟩,
 ⟨some 25, some (24, true), .mov (.t 0)⟩,
 ⟨some 26, some (24, true), .mov (.t 4)⟩,
 ⟨some 27, some (24, true), .bin .sub (.t 26) (.k (.c (.int .i64 1)))⟩,
 ⟨some 28, some (24, true), .ixs (.t 25) (.t 27) 1⟩,
 ⟨some 29, some (24, true), .load1 (.t 28)⟩,
 ⟨some 30, some (24, true), .mov (.t 5)⟩,
 ⟨some 31, some (24, true), .bin .geq (.t 29) (.t 30)⟩,
 ⟨some 32, some (21, false), .pick (.t 24) (.t 31) (.k (.c (.bool false)))⟩,
 ⟨some 33, none, .pick (.t 21) (.k (.c (.bool true))) (.t 32)⟩])
 (.cond (.t 33) (.seq (.reg false [⟨some 34, none, .call 40 []⟩,
 ⟨none, none, .store (.t 2) (.t 34) 65⟩,
 ⟨some 3, none, .mov (.k (.c (.bool false)))⟩])
 (.ret (some [2, 3]))) .skip))))
 (.reg false [⟨some 35, none, .bin .add (.t 9) (.k (.c (.int .i64 1)))⟩,
 ⟨some 9, none, .mov (.t 35)⟩]))))
def c_impl_TreeBuild : IFn := ⟨44, [.cell 2 65 true, .t 3],
  (.seq (.reg false [⟨some 2, none, .alloc [.bool false, .int .i64 0, .int .i64 0, .int .i64 0, .bool false, .int .i64 0, .int .i64 0, .int .i64 0, .bool false, .int .i64 0, .int .i64 0, .int .i64 0, .bool false, .int .i64 0, .int .i64 0, .int .i64 0, .bool false, .int .i64 0, .int .i64 0, .int .i64 0, .bool false, .int .i64 0, .int .i64 0, .int .i64 0, .bool false, .int .i64 0, .int .i64 0, .int .i64 0, .bool false, .int .i64 0, .int .i64 0, .int .i64 0, .bool false, .int .i64 0, .int .i64 0, .int .i64 0, .bool false, .int .i64 0, .int .i64 0, .int .i64 0, .bool false, .int .i64 0, .int .i64 0, .int .i64 0, .bool false, .int .i64 0, .int .i64 0, .int .i64 0, .bool false, .int .i64 0, .int .i64 0, .int .i64 0, .bool false, .int .i64 0, .int .i64 0, .int .i64 0, .bool false, .int .i64 0, .int .i64 0, .int .i64 0, .bool false, .int .i64 0, .int .i64 0, .int .i64 0, .int .i64 0] 47⟩,
 ⟨some 3, none, .mov (.k (.c (.bool false)))⟩])
 (.seq (.seq (.reg false [⟨some 7, none, .mov (.t 0)⟩,
 ⟨some 8, none, .len (.t 7)⟩,
 ⟨some 9, none, .mov (.k (.c (.int .i64 0)))⟩])
 (.block 0 (some [0, 2, 7, 8, 9]) (some [0, 2])
 (.loop c_impl_TreeBuild_b0)))
 (.seq (.reg false [⟨some 36, none, .call 40 []⟩,
 ⟨some 6, none, .alloc [.bool false, .int .i64 0, .int .i64 0, .int .i64 0, .bool false, .int .i64 0, .int .i64 0, .int .i64 0, .bool false, .int .i64 0, .int .i64 0, .int .i64 0, .bool false, .int .i64 0, .int .i64 0, .int .i64 0, .bool false, .int .i64 0, .int .i64 0, .int .i64 0, .bool false, .int .i64 0, .int .i64 0, .int .i64 0, .bool false, .int .i64 0, .int .i64 0, .int .i64 0, .bool false, .int .i64 0, .int .i64 0, .int .i64 0, .bool false, .int .i64 0, .int .i64 0, .int .i64 0, .bool false, .int .i64 0, .int .i64 0, .int .i64 0, .bool false, .int .i64 0, .int .i64 0, .int .i64 0, .bool false, .int .i64 0, .int .i64 0, .int .i64 0, .bool false, .int .i64 0, .int .i64 0, .int .i64 0, .bool false, .int .i64 0, .int .i64 0, .int .i64 0, .bool false, .int .i64 0, .int .i64 0, .int .i64 0, .bool false, .int .i64 0, .int .i64 0, .int .i64 0, .int .i64 0] 47⟩,
 ⟨none, none, .store (.t 6) (.t 36) 65⟩])
 (.seq (.reg false [⟨some 38, none, .mov (.t 0)⟩,
 ⟨some 39, none, .call 80 [.t 6, .t 38, .k (.c (.int .i64 0))]⟩,
 ⟨some 37, none, .mov (.t 39)⟩,
 ⟨some 40, none, .ext (.t 37) 0⟩,
 ⟨some 41, none, .ext (.t 37) 1⟩,
 ⟨some 42, none, .fld (.t 6) 64⟩,
 ⟨none, none, .store (.t 42) (.t 40) 1⟩])
 (.seq (.reg false [⟨some 43, none, .loadN (.t 6) 65⟩,
 ⟨none, none, .store (.t 2) (.t 43) 65⟩,
 ⟨some 3, none, .mov (.k (.c (.bool true)))⟩])
 (.ret (some [2, 3])))))))⟩
theorem c_impl_TreeBuild_ok : trF Try.prog ⟨[(0, [0, 2, 7, 8, 9], [0, 2])], [2, 3], false, false⟩ Try.f39 = some c_impl_TreeBuild := by kernel_rfl
def c_impl_NewTree : IFn := ⟨2, [.cell 0 65 true],
  (.seq (.reg false [⟨some 0, none, .alloc [.bool false, .int .i64 0, .int .i64 0, .int .i64 0, .bool false, .int .i64 0, .int .i64 0, .int .i64 0, .bool false, .int .i64 0, .int .i64 0, .int .i64 0, .bool false, .int .i64 0, .int .i64 0, .int .i64 0, .bool false, .int .i64 0, .int .i64 0, .int .i64 0, .bool false, .int .i64 0, .int .i64 0, .int .i64 0, .bool false, .int .i64 0, .int .i64 0, .int .i64 0, .bool false, .int .i64 0, .int .i64 0, .int .i64 0, .bool false, .int .i64 0, .int .i64 0, .int .i64 0, .bool false, .int .i64 0, .int .i64 0, .int .i64 0, .bool false, .int .i64 0, .int .i64 0, .int .i64 0, .bool false, .int .i64 0, .int .i64 0, .int .i64 0, .bool false, .int .i64 0, .int .i64 0, .int .i64 0, .bool false, .int .i64 0, .int .i64 0, .int .i64 0, .bool false, .int .i64 0, .int .i64 0, .int .i64 0, .bool false, .int .i64 0, .int .i64 0, .int .i64 0, .int .i64 0] 47⟩])
 (.seq (.reg false [⟨some 1, none, .bld [.bool false, .int .i64 0, .int .i64 0, .int .i64 0, .bool false, .int .i64 0, .int .i64 0, .int .i64 0, .bool false, .int .i64 0, .int .i64 0, .int .i64 0, .bool false, .int .i64 0, .int .i64 0, .int .i64 0, .bool false, .int .i64 0, .int .i64 0, .int .i64 0, .bool false, .int .i64 0, .int .i64 0, .int .i64 0, .bool false, .int .i64 0, .int .i64 0, .int .i64 0, .bool false, .int .i64 0, .int .i64 0, .int .i64 0, .bool false, .int .i64 0, .int .i64 0, .int .i64 0, .bool false, .int .i64 0, .int .i64 0, .int .i64 0, .bool false, .int .i64 0, .int .i64 0, .int .i64 0, .bool false, .int .i64 0, .int .i64 0, .int .i64 0, .bool false, .int .i64 0, .int .i64 0, .int .i64 0, .bool false, .int .i64 0, .int .i64 0, .int .i64 0, .bool false, .int .i64 0, .int .i64 0, .int .i64 0, .bool false, .int .i64 0, .int .i64 0, .int .i64 0, .int .i64 0] [(64, (1, .k (.c (.int .i64 (-1)))))]⟩,
 ⟨none, none, .store (.t 0) (.t 1) 65⟩])
 (.ret (some [0]))))⟩
theorem c_impl_NewTree_ok : trF Try.prog ⟨[], [0], false, false⟩ Try.f40 = some c_impl_NewTree := by kernel_rfl
def c_spec_l14Draw_b0 : IC :=
  (.seq (.seq (.reg false [⟨some 10, none, .mov (.t 4)⟩,
 ⟨some 11, none, .bin .gtr (.t 10) (.k (.c (.int .i64 0)))⟩])
 (.cond (.t 11) .skip (.exit 0)))
 (.seq (.block 1 none none
 (.seq (.reg false [⟨some 14, none, .mov (.t 0)⟩,
 ⟨some 15, none, .call 115 [.t 14, .k (.c (.int .i64 3))]⟩])
 (.cond (.t 15) (.reg false [⟨some 17, none, .loadN (.t 3) 10⟩,
 ⟨some 18, none, .call 116 [.t 17]⟩,
 ⟨some 16, none, .mov (.t 18)⟩,
 ⟨some 19, none, .ext (.t 16) 0⟩,
 ⟨some 20, none, .ext (.t 16) 1⟩,
 ⟨some 21, none, .ext (.t 16) 2⟩,
 ⟨none, none, .store (.t 3) (.t 19) 10⟩]) (.regE 0 [⟨⟨some 23, none, .loadN (.t 3) 10⟩, 0, 0, false, []⟩,
 ⟨⟨some 24, none, .mov (.t 0)⟩, 1, 0, false, []⟩,
 ⟨⟨some 25, none, .call 114 [.t 24, .k (.c (.int .i64 50))]⟩, 2, 0, false, [0]⟩,
 ⟨⟨some 26, none, .bin .sub (.t 25) (.k (.c (.int .i64 20)))⟩, 3, 0, false, []⟩,
 ⟨⟨some 27, none, .call 117 [.t 23, .t 26]⟩, 4, 0, false, []⟩,
 ⟨⟨some 22, none, .mov (.t 27)⟩, 5, 0, false, []⟩,
 ⟨⟨some 28, none, .ext (.t 22) 0⟩, 6, 0, false, []⟩,
 ⟨⟨some 29, none, .ext (.t 22) 1⟩, 7, 0, false, []⟩,
 ⟨⟨none, none, .store (.t 3) (.t 28) 10⟩, 8, 0, false, []⟩]))))
 (.reg false [⟨some 12, none, .mov (.t 4)⟩,
 ⟨some 13, none, .bin .sub (.t 12) (.k (.c (.int .i64 1)))⟩,
 ⟨some 4, none, .mov (.t 13)⟩])))
def c_spec_l14Draw : IFn := ⟨31, [.cell 2 10 true],
  (.seq (.reg false [⟨some 2, none, .alloc [.int .i64 0, .int .i64 0, .int .i64 0, .int .i64 0, .int .i64 0, .int .i64 0, .int .i64 0, .int .i64 0, .int .i64 0, .int .i64 0] 26⟩])
 (.seq (.reg false [⟨some 5, none, .mov (.t 0)⟩,
 ⟨some 6, none, .call 114 [.t 5, .k (.c (.int .i64 8))]⟩,
 ⟨some 7, none, .bld [.int .i64 0, .int .i64 0, .int .i64 0, .int .i64 0, .int .i64 0, .int .i64 0, .int .i64 0, .int .i64 0, .int .i64 0, .int .i64 0] [(8, (1, .t 6))]⟩,
 ⟨some 3, none, .alloc [.int .i64 0, .int .i64 0, .int .i64 0, .int .i64 0, .int .i64 0, .int .i64 0, .int .i64 0, .int .i64 0, .int .i64 0, .int .i64 0] 26⟩,
 ⟨none, none, .store (.t 3) (.t 7) 10⟩])
 (.seq (.seq (.reg false [⟨some 8, none, .mov (.t 0)⟩,
 ⟨some 9, none, .call 114 [.t 8, .k (.c (.int .i64 14))]⟩,
 ⟨some 4, none, .mov (.t 9)⟩])
 (.block 0 (some [0, 2, 3, 4]) (some [2, 3])
 (.loop c_spec_l14Draw_b0)))
 (.seq (.reg false [⟨some 30, none, .loadN (.t 3) 10⟩,
 ⟨none, none, .store (.t 2) (.t 30) 10⟩])
 (.ret (some [2]))))))⟩
theorem c_spec_l14Draw_ok : trF Try.prog ⟨[(0, [0, 2, 3, 4], [2, 3])], [2], false, false⟩ Try.f60 = some c_spec_l14Draw := by kernel_rfl
def c_spec_l1New_b0 : IC :=
  (.seq (.seq (.reg false [⟨some 8, none, .mov (.t 4)⟩,
 ⟨some 9, none, .mov (.t 0)⟩,
 ⟨some 10, none, .len (.t 9)⟩,
 ⟨some 11, none, .bin .lss (.t 8) (.t 10)⟩,
 ⟨some 12, none, .mov (.t 11)⟩,
 ⟨some 13, some (12, true), .mov (.t 4)⟩,
 ⟨some 14, some (12, true), .bin .lss (.t 13) (.k (.c (.int .i64 4000)))⟩,
 ⟨some 15, none, .pick (.t 12) (.t 14) (.k (.c (.bool false)))⟩])
 (.cond (.t 15) .skip (.exit 0)))
 (.seq (.block 1 none none
 (.reg false [⟨some 18, none, .mov (.t 3)⟩,
 ⟨some 19, none, .bin .mul (.t 18) (.k (.c (.int .i64 131)))⟩,
 ⟨some 20, none, .mov (.t 0)⟩,
 ⟨some 21, none, .mov (.t 4)⟩,
 ⟨some 22, none, .ixs (.t 20) (.t 21) 1⟩,
 ⟨some 23, none, .load1 (.t 22)⟩,
 ⟨some 24, none, .cvt .i64 (.t 23)⟩,
 ⟨some 25, none, .bin .add (.t 19) (.t 24)⟩,
 ⟨some 26, none, .bin .add (.t 25) (.k (.c (.int .i64 7)))⟩,
 ⟨some 27, none, .bin .and (.t 26) (.k (.c (.int .i64 1073741823)))⟩,
 ⟨some 3, none, .mov (.t 27)⟩]))
 (.reg false [⟨some 16, none, .mov (.t 4)⟩,
 ⟨some 17, none, .bin .add (.t 16) (.k (.c (.int .i64 1)))⟩,
 ⟨some 4, none, .mov (.t 17)⟩])))
def c_spec_l1New : IFn := ⟨32, [.t 2],
  (.seq (.reg false [⟨some 2, none, .mov (.k (.c .nilp))⟩])
 (.seq (.reg false [⟨some 5, none, .mov (.t 0)⟩,
 ⟨some 6, none, .len (.t 5)⟩,
 ⟨some 7, none, .bin .add (.k (.c (.int .i64 87087))) (.t 6)⟩,
 ⟨some 3, none, .mov (.t 7)⟩])
 (.seq (.seq (.reg false [⟨some 4, none, .mov (.k (.c (.int .i64 0)))⟩])
 (.block 0 (some [0, 3, 4]) (some [0, 3])
 (.loop c_spec_l1New_b0)))
 (.seq (.reg false [⟨some 28, none, .mov (.t 0)⟩,
 ⟨some 29, none, .mov (.t 3)⟩,
 ⟨some 30, none, .bld [.nils, .int .i64 0, .int .i64 0] [(0, (1, .t 28)), (2, (1, .t 29))]⟩,
 ⟨some 31, none, .box (.t 30) 168⟩,
 ⟨some 2, none, .mov (.t 31)⟩])
 (.ret (some [2]))))))⟩
theorem c_spec_l1New_ok : trF Try.prog ⟨[(0, [0, 3, 4], [0, 3])], [2], false, false⟩ Try.f61 = some c_spec_l1New := by kernel_rfl
def c_impl_isValue : IFn := ⟨5, [.t 2],
  (.seq (.reg false [⟨some 2, none, .mov (.k (.c (.bool false)))⟩])
 (.seq (.reg false [⟨some 3, none, .mov (.t 0)⟩,
 ⟨some 4, none, .call 63 [.t 3, .k (.c (.int .i64 (-1000000000))), .k (.c (.int .i64 1000000000))]⟩,
 ⟨some 2, none, .mov (.t 4)⟩])
 (.ret (some [2]))))⟩
theorem c_impl_isValue_ok : trF Try.prog ⟨[], [2], false, false⟩ Try.f62 = some c_impl_isValue := by kernel_rfl
def c_impl_in : IFn := ⟨15, [.t 6],
  (.seq (.reg false [⟨some 6, none, .mov (.k (.c (.bool false)))⟩])
 (.seq (.reg false [⟨some 7, none, .mov (.t 1)⟩,
 ⟨some 8, none, .mov (.t 0)⟩,
 ⟨some 9, none, .bin .leq (.t 7) (.t 8)⟩,
 ⟨some 10, none, .mov (.t 9)⟩,
 ⟨some 11, some (10, true), .mov (.t 0)⟩,
 ⟨some 12, some (10, true), .mov (.t 2)⟩,
 ⟨some 13, some (10, true), .bin .leq (.t 11) (.t 12)⟩,
 ⟨some 14, none, .pick (.t 10) (.t 13) (.k (.c (.bool false)))⟩,
 ⟨some 6, none, .mov (.t 14)⟩])
 (.ret (some [6]))))⟩
theorem c_impl_in_ok : trF Try.prog ⟨[], [6], false, false⟩ Try.f63 = some c_impl_in := by kernel_rfl
def c_impl_areValues : IFn := ⟨6, [.t 2],
  (.seq (.reg false [⟨some 2, none, .mov (.k (.c (.bool false)))⟩])
 (.seq (.reg false [⟨some 3, none, .mov (.t 0)⟩,
 ⟨some 4, none, .call 118 [.t 3, .k (.c (.fn 119))]⟩,
 ⟨some 5, none, .un .not (.t 4)⟩,
 ⟨some 2, none, .mov (.t 5)⟩])
 (.ret (some [2]))))⟩
theorem c_impl_areValues_ok : trF Try.prog ⟨[], [2], false, false⟩ Try.f64 = some c_impl_areValues := by kernel_rfl
def c_spec_TreeOk_b0 : IC :=
  (.seq (.seq (.reg false [⟨some 9, none, .mov (.t 4)⟩,
 ⟨some 10, none, .bin .lss (.t 9) (.k (.c (.int .i64 16)))⟩])
 (.cond (.t 10) .skip (.exit 0)))
 (.seq (.block 1 none none
 (.seq (.reg false [⟨some 13, none, .mov (.t 4)⟩,
 ⟨some 14, none, .fld (.t 1) 0⟩,
 ⟨some 15, none, .ixa (.t 14) (.t 13) 16 4⟩,
 ⟨some 16, none, .loadN (.t 15) 4⟩,
 ⟨some 5, none, .alloc [.bool false, .int .i64 0, .int .i64 0, .int .i64 0] 44⟩,
 ⟨none, none, .store (.t 5) (.t 16) 4⟩])
 (.seq (.seq (.reg false [⟨some 17, none, .fld (.t 5) 0⟩,
 ⟨some 18, none, .load1 (.t 17)⟩,
 ⟨some 19, none, .un .not (.t 18)⟩,
 ⟨some 20, none, .mov (.t 19)⟩,
 ⟨some 21, some (20, true), .loadN (.t 5) 4⟩,
 ⟨some 22, some (20, true), .bld [.bool false, .int .i64 0, .int .i64 0, .int .i64 0] []⟩,
 ⟨some 23, some (20, true), .eqa true [none, some .i64, some .i64, some .i64] (.t 21) (.t 22)⟩,
 ⟨some 24, none, .pick (.t 20) (.t 23) (.k (.c (.bool false)))⟩,
 ⟨some 25, none, .mov (.t 24)⟩,
 ⟨some 26, some (25, false), .fld (.t 5) 0⟩,
 ⟨some 27, some (25, false), .load1 (.t 26)⟩,
 ⟨some 28, some (25, false), .mov (.t 27)⟩,
 ⟨some 29, some (28, true), .fld (.t 5) 1⟩,
 ⟨some 30, some (28, true), .load1 (.t 29)⟩,
 ⟨some 31, some (28, true), .call 66 [.t 30]⟩,
 ⟨some 32, some (28, true), .un .not (.t 31)⟩,
 ⟨some 33, some (25, false), .pick (.t 28) (.t 32) (.k (.c (.bool false)))⟩,
 ⟨some 34, none, .pick (.t 25) (.k (.c (.bool true))) (.t 33)⟩])
 (.cond (.t 34) (.seq (.reg false [⟨some 2, none, .mov (.k (.c (.bool false)))⟩])
 (.ret (some [2]))) .skip))
 (.seq (.reg false [⟨some 35, none, .fld (.t 5) 0⟩,
 ⟨some 36, none, .load1 (.t 35)⟩])
 (.cond (.t 36) (.reg false [⟨some 37, none, .mov (.t 3)⟩,
 ⟨some 38, none, .bin .add (.t 37) (.k (.c (.int .i64 1)))⟩,
 ⟨some 3, none, .mov (.t 38)⟩]) .skip)))))
 (.reg false [⟨some 11, none, .mov (.t 4)⟩,
 ⟨some 12, none, .bin .add (.t 11) (.k (.c (.int .i64 1)))⟩,
 ⟨some 4, none, .mov (.t 12)⟩])))
def c_spec_TreeOk_b1 : IC :=
  (.seq (.seq (.reg false [⟨some 47, none, .mov (.t 8)⟩,
 ⟨some 48, none, .mov (.t 6)⟩,
 ⟨some 49, none, .len (.t 48)⟩,
 ⟨some 50, none, .bin .lss (.t 47) (.t 49)⟩])
 (.cond (.t 50) .skip (.exit 2)))
 (.seq (.block 3 none none
 (.seq (.reg true [⟨some 53, none, .mov (.t 6)⟩,
 ⟨some 54, none, .mov (.t 8)⟩,
 ⟨some 55, none, .bin .sub (.t 54) (.k (.c (.int .i64 1)))⟩,
 ⟨some 56, none, .ixs (.t 53) (.t 55) 1⟩,
 ⟨some 57, none, .load1 (.t 56)⟩,
 ⟨some 58, none, .fld (.t 1) 0⟩,
 ⟨some 59, none, .ixa (.t 58) (.t 57) 16 4⟩,
 ⟨some 60, none, .fld (.t 59) 1⟩,
 ⟨some 61, none, .load1 (.t 60)⟩,
 ⟨some 62, none, .mov (.t 6)⟩,
 ⟨some 63, none, .mov (.t 8)⟩,
 ⟨some 64, none, .ixs (.t 62) (.t 63) 1⟩,
 ⟨some 65, none, .load1 (.t 64)⟩,
 ⟨some 66, none, .fld (.t 1) 0⟩,
 ⟨some 67, none, .ixa (.t 66) (.t 65) 16 4⟩,
 ⟨some 68, none, .fld (.t 67) 1⟩,
 ⟨some 69, none, .load1 (.t 68)⟩,
 ⟨some 70, none, .bin .geq (.t 61) (.t 69)⟩])
 (.cond (.t 70) (.seq (.reg false [⟨some 2, none, .mov (.k (.c (.bool false)))⟩])
 (.ret (some [2]))) .skip)))
 (.reg false [⟨some 51, none, .mov (.t 8)⟩,
 ⟨some 52, none, .bin .add (.t 51) (.k (.c (.int .i64 1)))⟩,
 ⟨some 8, none, .mov (.t 52)⟩])))
def c_spec_TreeOk : IFn := ⟨78, [.t 2],
  (.seq (.reg false [⟨some 1, none, .box (.t 0) 47⟩,
 ⟨some 2, none, .mov (.k (.c (.bool false)))⟩])
 (.seq (.reg false [⟨some 3, none, .mov (.k (.c (.int .i64 0)))⟩])
 (.seq (.seq (.reg false [⟨some 4, none, .mov (.k (.c (.int .i64 0)))⟩])
 (.block 0 (some [1, 3, 4]) (some [1, 3])
 (.loop c_spec_TreeOk_b0)))
 (.seq (.reg false [⟨some 40, none, .loadN (.t 1) 65⟩,
 ⟨some 41, none, .fld (.t 1) 64⟩,
 ⟨some 42, none, .load1 (.t 41)⟩,
 ⟨some 43, none, .lit 0 1 [.int .i64 0] [] 3⟩,
 ⟨some 44, none, .call 120 [.t 40, .t 42, .t 43]⟩,
 ⟨some 39, none, .mov (.t 44)⟩,
 ⟨some 45, none, .ext (.t 39) 0⟩,
 ⟨some 46, none, .ext (.t 39) 1⟩,
 ⟨some 6, none, .mov (.t 45)⟩,
 ⟨some 7, none, .mov (.t 46)⟩])
 (.seq (.seq (.reg false [⟨some 8, none, .mov (.k (.c (.int .i64 1)))⟩])
 (.block 2 (some [1, 3, 6, 7, 8]) (some [3, 6, 7])
 (.loop c_spec_TreeOk_b1)))
 (.seq (.reg false [⟨some 71, none, .mov (.t 7)⟩,
 ⟨some 72, none, .mov (.t 71)⟩,
 ⟨some 73, some (72, true), .mov (.t 6)⟩,
 ⟨some 74, some (72, true), .len (.t 73)⟩,
 ⟨some 75, some (72, true), .mov (.t 3)⟩,
 ⟨some 76, some (72, true), .bin .eql (.t 74) (.t 75)⟩,
 ⟨some 77, none, .pick (.t 72) (.t 76) (.k (.c (.bool false)))⟩,
 ⟨some 2, none, .mov (.t 77)⟩])
 (.ret (some [2]))))))))⟩
theorem c_spec_TreeOk_ok : trF Try.prog ⟨[(0, [1, 3, 4], [1, 3]), (2, [1, 3, 6, 7, 8], [3, 6, 7])], [2], false, false⟩ Try.f65 = some c_spec_TreeOk := by kernel_rfl
def c_spec_l1Value : IFn := ⟨5, [.t 2],
  (.seq (.reg false [⟨some 2, none, .mov (.k (.c (.bool false)))⟩])
 (.seq (.reg false [⟨some 3, none, .mov (.t 0)⟩,
 ⟨some 4, none, .call 121 [.t 3, .k (.c (.int .i64 (-1000000000))), .k (.c (.int .i64 1000000000))]⟩,
 ⟨some 2, none, .mov (.t 4)⟩])
 (.ret (some [2]))))⟩
theorem c_spec_l1Value_ok : trF Try.prog ⟨[], [2], false, false⟩ Try.f66 = some c_spec_l1Value := by kernel_rfl
def c_spec_l15Walk_b0 : IC :=
  (.seq (.seq (.reg false [⟨some 13, none, .mov (.t 8)⟩,
 ⟨some 14, none, .bin .neq (.t 13) (.k (.c (.int .i64 (-1))))⟩])
 (.cond (.t 14) .skip (.exit 0)))
 (.block 1 none none
 (.seq (.seq (.reg false [⟨some 15, none, .mov (.t 7)⟩,
 ⟨some 16, none, .len (.t 15)⟩,
 ⟨some 17, none, .bin .eql (.t 16) (.k (.c (.int .i64 8)))⟩])
 (.cond (.t 17) (.seq (.reg false [⟨some 18, none, .mov (.t 7)⟩,
 ⟨some 4, none, .mov (.t 18)⟩,
 ⟨some 5, none, .mov (.k (.c (.bool false)))⟩,
 ⟨some 6, none, .mov (.k (.c (.bool false)))⟩])
 (.ret (some [4, 5, 6]))) .skip))
 (.seq (.reg false [⟨some 19, none, .mov (.t 7)⟩,
 ⟨some 20, none, .mov (.t 8)⟩,
 ⟨some 21, none, .lit 1 1 [.int .i64 0] [(0, .t 20)] 3⟩,
 ⟨some 22, none, .app (.t 19) (.t 21) 3 1 8⟩,
 ⟨some 7, none, .mov (.t 22)⟩])
 (.seq (.reg false [⟨some 23, none, .mov (.t 8)⟩,
 ⟨some 24, none, .fld (.t 2) 0⟩,
 ⟨some 25, none, .ixa (.t 24) (.t 23) 16 4⟩,
 ⟨some 26, none, .fld (.t 25) 1⟩,
 ⟨some 27, none, .load1 (.t 26)⟩,
 ⟨some 9, none, .mov (.t 27)⟩])
 (.seq (.seq (.reg false [⟨some 28, none, .mov (.t 9)⟩,
 ⟨some 29, none, .mov (.t 1)⟩,
 ⟨some 30, none, .bin .eql (.t 28) (.t 29)⟩])
 (.cond (.t 30) (.seq (.reg false [⟨some 31, none, .mov (.t 7)⟩,
 ⟨some 4, none, .mov (.t 31)⟩,
 ⟨some 5, none, .mov (.k (.c (.bool true)))⟩,
 ⟨some 6, none, .mov (.k (.c (.bool true)))⟩])
 (.ret (some [4, 5, 6]))) .skip))
 (.seq (.reg false [⟨some 32, none, .mov (.t 1)⟩,
 ⟨some 33, none, .mov (.t 9)⟩,
 ⟨some 34, none, .bin .lss (.t 32) (.t 33)⟩])
 (.cond (.t 34) (.reg false [⟨some 35, none, .mov (.t 8)⟩,
 ⟨some 36, none, .fld (.t 2) 0⟩,
 ⟨some 37, none, .ixa (.t 36) (.t 35) 16 4⟩,
 ⟨some 38, none, .fld (.t 37) 2⟩,
 ⟨some 39, none, .load1 (.t 38)⟩,
 ⟨some 8, none, .mov (.t 39)⟩]) (.reg false [⟨some 40, none, .mov (.t 8)⟩,
 ⟨some 41, none, .fld (.t 2) 0⟩,
 ⟨some 42, none, .ixa (.t 41) (.t 40) 16 4⟩,
 ⟨some 43, none, .fld (.t 42) 3⟩,
 ⟨some 44, none, .load1 (.t 43)⟩,
 ⟨some 8, none, .mov (.t 44)⟩])))))))))
def c_spec_l15Walk : IFn := ⟨46, [.t 4, .t 5, .t 6],
  (.seq (.reg false [⟨some 2, none, .box (.t 0) 47⟩,
 ⟨some 4, none, .mov (.k (.c .nils))⟩,
 ⟨some 5, none, .mov (.k (.c (.bool false)))⟩,
 ⟨some 6, none, .mov (.k (.c (.bool false)))⟩])
 (.seq (.reg false [⟨some 10, none, .lit 0 1 [.int .i64 0] [] 3⟩,
 ⟨some 7, none, .mov (.t 10)⟩])
 (.seq (.seq (.reg false [⟨some 11, none, .fld (.t 2) 64⟩,
 ⟨some 12, none, .load1 (.t 11)⟩,
 ⟨some 8, none, .mov (.t 12)⟩])
 (.block 0 (some [1, 2, 7, 8]) (some [7])
 (.loop c_spec_l15Walk_b0)))
 (.seq (.reg false [⟨some 45, none, .mov (.t 7)⟩,
 ⟨some 4, none, .mov (.t 45)⟩,
 ⟨some 5, none, .mov (.k (.c (.bool false)))⟩,
 ⟨some 6, none, .mov (.k (.c (.bool true)))⟩])
 (.ret (some [4, 5, 6]))))))⟩
theorem c_spec_l15Walk_ok : trF Try.prog ⟨[(0, [1, 2, 7, 8], [7])], [4, 5, 6], false, false⟩ Try.f67 = some c_spec_l15Walk := by kernel_rfl
def c_spec_l15Hang : IFn := ⟨40, [.cell 8 65 true],
  (.seq (.reg false [⟨some 4, none, .box (.t 0) 47⟩,
 ⟨some 8, none, .alloc [.bool false, .int .i64 0, .int .i64 0, .int .i64 0, .bool false, .int .i64 0, .int .i64 0, .int .i64 0, .bool false, .int .i64 0, .int .i64 0, .int .i64 0, .bool false, .int .i64 0, .int .i64 0, .int .i64 0, .bool false, .int .i64 0, .int .i64 0, .int .i64 0, .bool false, .int .i64 0, .int .i64 0, .int .i64 0, .bool false, .int .i64 0, .int .i64 0, .int .i64 0, .bool false, .int .i64 0, .int .i64 0, .int .i64 0, .bool false, .int .i64 0, .int .i64 0, .int .i64 0, .bool false, .int .i64 0, .int .i64 0, .int .i64 0, .bool false, .int .i64 0, .int .i64 0, .int .i64 0, .bool false, .int .i64 0, .int .i64 0, .int .i64 0, .bool false, .int .i64 0, .int .i64 0, .int .i64 0, .bool false, .int .i64 0, .int .i64 0, .int .i64 0, .bool false, .int .i64 0, .int .i64 0, .int .i64 0, .bool false, .int .i64 0, .int .i64 0, .int .i64 0, .int .i64 0] 47⟩])
 (.seq (.seq (.reg false [⟨some 10, none, .mov (.t 1)⟩,
 ⟨some 11, none, .len (.t 10)⟩,
 ⟨some 12, none, .bin .eql (.t 11) (.k (.c (.int .i64 0)))⟩])
 (.cond (.t 12) (.seq (.reg false [⟨some 13, none, .mov (.t 3)⟩,
 ⟨some 14, none, .fld (.t 4) 64⟩,
 ⟨none, none, .store (.t 14) (.t 13) 1⟩])
 (.seq (.reg false [⟨some 15, none, .loadN (.t 4) 65⟩,
 ⟨none, none, .store (.t 8) (.t 15) 65⟩])
 (.ret (some [8])))) .skip))
 (.seq (.reg false [⟨some 16, none, .mov (.t 1)⟩,
 ⟨some 17, none, .mov (.t 1)⟩,
 ⟨some 18, none, .len (.t 17)⟩,
 ⟨some 19, none, .bin .sub (.t 18) (.k (.c (.int .i64 1)))⟩,
 ⟨some 20, none, .ixs (.t 16) (.t 19) 1⟩,
 ⟨some 21, none, .load1 (.t 20)⟩,
 ⟨some 9, none, .mov (.t 21)⟩])
 (.seq (.seq (.reg false [⟨some 22, none, .mov (.t 2)⟩,
 ⟨some 23, none, .mov (.t 9)⟩,
 ⟨some 24, none, .fld (.t 4) 0⟩,
 ⟨some 25, none, .ixa (.t 24) (.t 23) 16 4⟩,
 ⟨some 26, none, .fld (.t 25) 1⟩,
 ⟨some 27, none, .load1 (.t 26)⟩,
 ⟨some 28, none, .bin .lss (.t 22) (.t 27)⟩])
 (.cond (.t 28) (.reg false [⟨some 29, none, .mov (.t 9)⟩,
 ⟨some 30, none, .mov (.t 3)⟩,
 ⟨some 31, none, .fld (.t 4) 0⟩,
 ⟨some 32, none, .ixa (.t 31) (.t 29) 16 4⟩,
 ⟨some 33, none, .fld (.t 32) 2⟩,
 ⟨none, none, .store (.t 33) (.t 30) 1⟩]) (.reg false [⟨some 34, none, .mov (.t 9)⟩,
 ⟨some 35, none, .mov (.t 3)⟩,
 ⟨some 36, none, .fld (.t 4) 0⟩,
 ⟨some 37, none, .ixa (.t 36) (.t 34) 16 4⟩,
 ⟨some 38, none, .fld (.t 37) 3⟩,
 ⟨none, none, .store (.t 38) (.t 35) 1⟩])))
 (.seq (.reg false [⟨some 39, none, .loadN (.t 4) 65⟩,
 ⟨none, none, .store (.t 8) (.t 39) 65⟩])
 (.ret (some [8])))))))⟩
theorem c_spec_l15Hang_ok : trF Try.prog ⟨[], [8], false, false⟩ Try.f68 = some c_spec_l15Hang := by kernel_rfl
def c_laws_toTwigA16_b0 : IC :=
  (.seq (.seq (.reg false [⟨some 5, none, .mov (.t 4)⟩,
 ⟨some 6, none, .bin .lss (.t 5) (.k (.c (.int .i64 16)))⟩])
 (.cond (.t 6) .skip (.exit 0)))
 (.seq (.block 1 none none
 (.reg false [⟨some 9, none, .mov (.t 4)⟩,
 ⟨some 10, none, .mov (.t 4)⟩,
 ⟨some 11, none, .ixa (.t 1) (.t 10) 16 4⟩,
 ⟨some 12, none, .loadN (.t 11) 4⟩,
 ⟨some 13, none, .call 122 [.t 12]⟩,
 ⟨some 14, none, .ixa (.t 3) (.t 9) 16 4⟩,
 ⟨none, none, .store (.t 14) (.t 13) 4⟩]))
 (.reg false [⟨some 7, none, .mov (.t 4)⟩,
 ⟨some 8, none, .bin .add (.t 7) (.k (.c (.int .i64 1)))⟩,
 ⟨some 4, none, .mov (.t 8)⟩])))
def c_laws_toTwigA16 : IFn := ⟨16, [.cell 2 64 true],
  (.seq (.reg false [⟨some 1, none, .box (.t 0) 41⟩,
 ⟨some 2, none, .alloc [.bool false, .int .i64 0, .int .i64 0, .int .i64 0, .bool false, .int .i64 0, .int .i64 0, .int .i64 0, .bool false, .int .i64 0, .int .i64 0, .int .i64 0, .bool false, .int .i64 0, .int .i64 0, .int .i64 0, .bool false, .int .i64 0, .int .i64 0, .int .i64 0, .bool false, .int .i64 0, .int .i64 0, .int .i64 0, .bool false, .int .i64 0, .int .i64 0, .int .i64 0, .bool false, .int .i64 0, .int .i64 0, .int .i64 0, .bool false, .int .i64 0, .int .i64 0, .int .i64 0, .bool false, .int .i64 0, .int .i64 0, .int .i64 0, .bool false, .int .i64 0, .int .i64 0, .int .i64 0, .bool false, .int .i64 0, .int .i64 0, .int .i64 0, .bool false, .int .i64 0, .int .i64 0, .int .i64 0, .bool false, .int .i64 0, .int .i64 0, .int .i64 0, .bool false, .int .i64 0, .int .i64 0, .int .i64 0, .bool false, .int .i64 0, .int .i64 0, .int .i64 0] 45⟩])
 (.seq (.reg false [⟨some 3, none, .alloc [.bool false, .int .i64 0, .int .i64 0, .int .i64 0, .bool false, .int .i64 0, .int .i64 0, .int .i64 0, .bool false, .int .i64 0, .int .i64 0, .int .i64 0, .bool false, .int .i64 0, .int .i64 0, .int .i64 0, .bool false, .int .i64 0, .int .i64 0, .int .i64 0, .bool false, .int .i64 0, .int .i64 0, .int .i64 0, .bool false, .int .i64 0, .int .i64 0, .int .i64 0, .bool false, .int .i64 0, .int .i64 0, .int .i64 0, .bool false, .int .i64 0, .int .i64 0, .int .i64 0, .bool false, .int .i64 0, .int .i64 0, .int .i64 0, .bool false, .int .i64 0, .int .i64 0, .int .i64 0, .bool false, .int .i64 0, .int .i64 0, .int .i64 0, .bool false, .int .i64 0, .int .i64 0, .int .i64 0, .bool false, .int .i64 0, .int .i64 0, .int .i64 0, .bool false, .int .i64 0, .int .i64 0, .int .i64 0, .bool false, .int .i64 0, .int .i64 0, .int .i64 0] 45⟩])
 (.seq (.seq (.reg false [⟨some 4, none, .mov (.k (.c (.int .i64 0)))⟩])
 (.block 0 (some [1, 2, 3, 4]) (some [2, 3])
 (.loop c_laws_toTwigA16_b0)))
 (.seq (.reg false [⟨some 15, none, .loadN (.t 3) 64⟩,
 ⟨none, none, .store (.t 2) (.t 15) 64⟩])
 (.ret (some [2]))))))⟩
theorem c_laws_toTwigA16_ok : trF Try.prog ⟨[(0, [1, 2, 3, 4], [2, 3])], [2], false, false⟩ Try.f69 = some c_laws_toTwigA16 := by kernel_rfl
def c_impl_Tree_walk_b0 : IC :=
  (.seq (.seq (.reg false [⟨some 13, none, .mov (.t 7)⟩,
 ⟨some 14, none, .chk (.t 13)⟩,
 ⟨some 15, none, .load1 (.t 14)⟩,
 ⟨some 16, none, .bin .neq (.t 15) (.k (.c (.int .i64 (-1))))⟩])
 (.cond (.t 16) .skip (.exit 0)))
 (.block 1 none none
 (.seq (.seq (.reg false [⟨some 17, none, .mov (.t 8)⟩,
 ⟨some 18, none, .bin .eql (.t 17) (.k (.c (.int .i64 8)))⟩])
 (.cond (.t 18) (.seq (.reg false [⟨some 19, none, .mov (.t 7)⟩,
 ⟨some 20, none, .mov (.t 8)⟩,
 ⟨some 4, none, .mov (.t 19)⟩,
 ⟨some 5, none, .mov (.t 20)⟩,
 ⟨some 6, none, .mov (.k (.c (.bool false)))⟩])
 (.ret (some [4, 5, 6]))) .skip))
 (.seq (.reg false [⟨some 21, none, .mov (.t 8)⟩,
 ⟨some 22, none, .bin .add (.t 21) (.k (.c (.int .i64 1)))⟩,
 ⟨some 8, none, .mov (.t 22)⟩])
 (.seq (.reg true [⟨some 23, none, .mov (.t 0)⟩,
 ⟨some 24, none, .mov (.t 7)⟩,
 ⟨some 25, none, .chk (.t 24)⟩,
 ⟨some 26, none, .load1 (.t 25)⟩,
 ⟨some 27, none, .chk (.t 23)⟩,
 ⟨some 28, none, .fld (.t 27) 0⟩,
 ⟨some 29, none, .ixa (.t 28) (.t 26) 16 4⟩,
 ⟨some 9, none, .mov (.t 29)⟩])
 (.block 2 none none
 (.seq (.reg false [⟨some 33, none, .mov (.t 1)⟩,
 ⟨some 34, none, .mov (.t 9)⟩,
 ⟨some 35, none, .chk (.t 34)⟩,
 ⟨some 36, none, .fld (.t 35) 1⟩,
 ⟨some 37, none, .load1 (.t 36)⟩,
 ⟨some 38, none, .bin .lss (.t 33) (.t 37)⟩,
 ⟨some 32, none, .mov (.t 38)⟩])
 (.cond (.t 32) (.reg false [⟨some 39, none, .mov (.t 9)⟩,
 ⟨some 40, none, .chk (.t 39)⟩,
 ⟨some 41, none, .fld (.t 40) 2⟩,
 ⟨some 7, none, .mov (.t 41)⟩]) (.seq (.reg false [⟨some 43, none, .mov (.t 1)⟩,
 ⟨some 44, none, .mov (.t 9)⟩,
 ⟨some 45, none, .chk (.t 44)⟩,
 ⟨some 46, none, .fld (.t 45) 1⟩,
 ⟨some 47, none, .load1 (.t 46)⟩,
 ⟨some 48, none, .bin .gtr (.t 43) (.t 47)⟩,
 ⟨some 42, none, .mov (.t 48)⟩])
 (.cond (.t 42) (.reg false [⟨some 49, none, .mov (.t 9)⟩,
 ⟨some 50, none, .chk (.t 49)⟩,
 ⟨some 51, none, .fld (.t 50) 3⟩,
 ⟨some 7, none, .mov (.t 51)⟩]) (.seq (.reg false [⟨some 30, none, .mov (.t 7)⟩,
 ⟨some 31, none, .mov (.t 8)⟩,
 ⟨some 4, none, .mov (.t 30)⟩,
 ⟨some 5, none, .mov (.t 31)⟩,
 ⟨some 6, none, .mov (.k (.c (.bool true)))⟩])
 (.ret (some [4, 5, 6])))))))))))))
def c_impl_Tree_walk : IFn := ⟨54, [.t 4, .t 5, .t 6],
  (.seq (.reg false [⟨some 4, none, .mov (.k (.c .nilp))⟩,
 ⟨some 5, none, .mov (.k (.c (.int .i64 0)))⟩,
 ⟨some 6, none, .mov (.k (.c (.bool false)))⟩])
 (.seq (.reg false [⟨some 10, none, .mov (.t 0)⟩,
 ⟨some 11, none, .chk (.t 10)⟩,
 ⟨some 12, none, .fld (.t 11) 64⟩,
 ⟨some 7, none, .mov (.t 12)⟩,
 ⟨some 8, none, .mov (.k (.c (.int .i64 0)))⟩])
 (.seq (.block 0 (some [0, 1, 7, 8]) (some [7, 8])
 (.loop c_impl_Tree_walk_b0))
 (.seq (.reg false [⟨some 52, none, .mov (.t 7)⟩,
 ⟨some 53, none, .mov (.t 8)⟩,
 ⟨some 4, none, .mov (.t 52)⟩,
 ⟨some 5, none, .mov (.t 53)⟩,
 ⟨some 6, none, .mov (.k (.c (.bool true)))⟩])
 (.ret (some [4, 5, 6]))))))⟩
theorem c_impl_Tree_walk_ok : trF Try.prog ⟨[(0, [0, 1, 7, 8], [7, 8])], [4, 5, 6], false, false⟩ Try.f70 = some c_impl_Tree_walk := by kernel_rfl
def c_laws_eqTwigA16_b0 : IC :=
  (.seq (.seq (.reg false [⟨some 6, none, .mov (.t 5)⟩,
 ⟨some 7, none, .bin .lss (.t 6) (.k (.c (.int .i64 16)))⟩])
 (.cond (.t 7) .skip (.exit 0)))
 (.seq (.block 1 none none
 (.seq (.reg true [⟨some 10, none, .mov (.t 5)⟩,
 ⟨some 11, none, .ixa (.t 2) (.t 10) 16 4⟩,
 ⟨some 12, none, .loadN (.t 11) 4⟩,
 ⟨some 13, none, .mov (.t 5)⟩,
 ⟨some 14, none, .ixa (.t 3) (.t 13) 16 4⟩,
 ⟨some 15, none, .loadN (.t 14) 4⟩,
 ⟨some 16, none, .call 123 [.t 12, .t 15]⟩,
 ⟨some 17, none, .un .not (.t 16)⟩])
 (.cond (.t 17) (.seq (.reg false [⟨some 4, none, .mov (.k (.c (.bool false)))⟩])
 (.ret (some [4]))) .skip)))
 (.reg false [⟨some 8, none, .mov (.t 5)⟩,
 ⟨some 9, none, .bin .add (.t 8) (.k (.c (.int .i64 1)))⟩,
 ⟨some 5, none, .mov (.t 9)⟩])))
def c_laws_eqTwigA16 : IFn := ⟨18, [.t 4],
  (.seq (.reg false [⟨some 2, none, .box (.t 0) 45⟩,
 ⟨some 3, none, .box (.t 1) 45⟩,
 ⟨some 4, none, .mov (.k (.c (.bool false)))⟩])
 (.seq (.seq (.reg false [⟨some 5, none, .mov (.k (.c (.int .i64 0)))⟩])
 (.block 0 (some [2, 3, 5]) (some [])
 (.loop c_laws_eqTwigA16_b0)))
 (.seq (.reg false [⟨some 4, none, .mov (.k (.c (.bool true)))⟩])
 (.ret (some [4])))))⟩
theorem c_laws_eqTwigA16_ok : trF Try.prog ⟨[(0, [2, 3, 5], [])], [4], false, false⟩ Try.f71 = some c_laws_eqTwigA16 := by kernel_rfl
def c_spec_l13Draw_b0 : IC :=
  (.seq (.seq (.reg false [⟨some 13, none, .mov (.t 5)⟩,
 ⟨some 14, none, .bin .gtr (.t 13) (.k (.c (.int .i64 0)))⟩])
 (.cond (.t 14) .skip (.exit 0)))
 (.seq (.block 1 none none
 (.seq (.reg false [⟨some 17, none, .mov (.t 0)⟩,
 ⟨some 18, none, .call 115 [.t 17, .k (.c (.int .i64 4))]⟩])
 (.cond (.t 18) (.regE 0 [⟨⟨some 20, none, .loadN (.t 3) 65⟩, 0, 0, false, []⟩,
 ⟨⟨some 21, none, .mov (.t 0)⟩, 1, 0, false, []⟩,
 ⟨⟨some 22, none, .mov (.t 4)⟩, 2, 0, false, []⟩,
 ⟨⟨some 23, none, .call 114 [.t 21, .t 22]⟩, 3, 0, false, [0]⟩,
 ⟨⟨some 24, none, .call 125 [.t 20, .t 23]⟩, 4, 0, false, []⟩,
 ⟨⟨some 19, none, .mov (.t 24)⟩, 5, 0, false, []⟩,
 ⟨⟨some 25, none, .ext (.t 19) 0⟩, 6, 0, false, []⟩,
 ⟨⟨some 26, none, .ext (.t 19) 1⟩, 7, 0, false, []⟩,
 ⟨⟨some 27, none, .ext (.t 19) 2⟩, 8, 0, false, []⟩,
 ⟨⟨none, none, .store (.t 3) (.t 25) 65⟩, 9, 0, false, []⟩]) (.regE 0 [⟨⟨some 29, none, .loadN (.t 3) 65⟩, 0, 0, false, []⟩,
 ⟨⟨some 30, none, .mov (.t 0)⟩, 1, 0, false, []⟩,
 ⟨⟨some 31, none, .mov (.t 4)⟩, 2, 0, false, []⟩,
 ⟨⟨some 32, none, .call 114 [.t 30, .t 31]⟩, 3, 0, false, [0]⟩,
 ⟨⟨some 33, none, .mov (.t 0)⟩, 4, 0, false, []⟩,
 ⟨⟨some 34, none, .call 114 [.t 33, .k (.c (.int .i64 50))]⟩, 5, 0, false, [0]⟩,
 ⟨⟨some 35, none, .call 126 [.t 29, .t 32, .t 34]⟩, 6, 0, false, []⟩,
 ⟨⟨some 28, none, .mov (.t 35)⟩, 7, 0, false, []⟩,
 ⟨⟨some 36, none, .ext (.t 28) 0⟩, 8, 0, false, []⟩,
 ⟨⟨some 37, none, .ext (.t 28) 1⟩, 9, 0, false, []⟩,
 ⟨⟨some 38, none, .ext (.t 28) 2⟩, 10, 0, false, []⟩,
 ⟨⟨none, none, .store (.t 3) (.t 36) 65⟩, 11, 0, false, []⟩]))))
 (.reg false [⟨some 15, none, .mov (.t 5)⟩,
 ⟨some 16, none, .bin .sub (.t 15) (.k (.c (.int .i64 1)))⟩,
 ⟨some 5, none, .mov (.t 16)⟩])))
def c_spec_l13Draw_b1 : IC :=
  (.seq (.seq (.reg false [⟨some 45, none, .mov (.t 6)⟩,
 ⟨some 46, none, .bin .gtr (.t 45) (.k (.c (.int .i64 0)))⟩])
 (.cond (.t 46) .skip (.exit 2)))
 (.seq (.block 3 none none
 (.reg false [⟨some 50, none, .loadN (.t 3) 65⟩,
 ⟨some 51, none, .mov (.t 6)⟩,
 ⟨some 52, none, .bin .mul (.k (.c (.int .i64 2))) (.t 51)⟩,
 ⟨some 53, none, .mov (.t 6)⟩,
 ⟨some 54, none, .call 126 [.t 50, .t 52, .t 53]⟩,
 ⟨some 49, none, .mov (.t 54)⟩,
 ⟨some 55, none, .ext (.t 49) 0⟩,
 ⟨some 56, none, .ext (.t 49) 1⟩,
 ⟨some 57, none, .ext (.t 49) 2⟩,
 ⟨none, none, .store (.t 3) (.t 55) 65⟩]))
 (.reg false [⟨some 47, none, .mov (.t 6)⟩,
 ⟨some 48, none, .bin .sub (.t 47) (.k (.c (.int .i64 1)))⟩,
 ⟨some 6, none, .mov (.t 48)⟩])))
def c_spec_l13Draw : IFn := ⟨59, [.cell 2 65 true],
  (.seq (.reg false [⟨some 2, none, .alloc [.bool false, .int .i64 0, .int .i64 0, .int .i64 0, .bool false, .int .i64 0, .int .i64 0, .int .i64 0, .bool false, .int .i64 0, .int .i64 0, .int .i64 0, .bool false, .int .i64 0, .int .i64 0, .int .i64 0, .bool false, .int .i64 0, .int .i64 0, .int .i64 0, .bool false, .int .i64 0, .int .i64 0, .int .i64 0, .bool false, .int .i64 0, .int .i64 0, .int .i64 0, .bool false, .int .i64 0, .int .i64 0, .int .i64 0, .bool false, .int .i64 0, .int .i64 0, .int .i64 0, .bool false, .int .i64 0, .int .i64 0, .int .i64 0, .bool false, .int .i64 0, .int .i64 0, .int .i64 0, .bool false, .int .i64 0, .int .i64 0, .int .i64 0, .bool false, .int .i64 0, .int .i64 0, .int .i64 0, .bool false, .int .i64 0, .int .i64 0, .int .i64 0, .bool false, .int .i64 0, .int .i64 0, .int .i64 0, .bool false, .int .i64 0, .int .i64 0, .int .i64 0, .int .i64 0] 57⟩])
 (.seq (.reg false [⟨some 7, none, .call 124 []⟩,
 ⟨some 3, none, .alloc [.bool false, .int .i64 0, .int .i64 0, .int .i64 0, .bool false, .int .i64 0, .int .i64 0, .int .i64 0, .bool false, .int .i64 0, .int .i64 0, .int .i64 0, .bool false, .int .i64 0, .int .i64 0, .int .i64 0, .bool false, .int .i64 0, .int .i64 0, .int .i64 0, .bool false, .int .i64 0, .int .i64 0, .int .i64 0, .bool false, .int .i64 0, .int .i64 0, .int .i64 0, .bool false, .int .i64 0, .int .i64 0, .int .i64 0, .bool false, .int .i64 0, .int .i64 0, .int .i64 0, .bool false, .int .i64 0, .int .i64 0, .int .i64 0, .bool false, .int .i64 0, .int .i64 0, .int .i64 0, .bool false, .int .i64 0, .int .i64 0, .int .i64 0, .bool false, .int .i64 0, .int .i64 0, .int .i64 0, .bool false, .int .i64 0, .int .i64 0, .int .i64 0, .bool false, .int .i64 0, .int .i64 0, .int .i64 0, .bool false, .int .i64 0, .int .i64 0, .int .i64 0, .int .i64 0] 57⟩,
 ⟨none, none, .store (.t 3) (.t 7) 65⟩])
 (.seq (.reg false [⟨some 8, none, .mov (.t 0)⟩,
 ⟨some 9, none, .call 114 [.t 8, .k (.c (.int .i64 14))]⟩,
 ⟨some 10, none, .bin .add (.k (.c (.int .i64 8))) (.t 9)⟩,
 ⟨some 4, none, .mov (.t 10)⟩])
 (.seq (.seq (.reg false [⟨some 11, none, .mov (.t 0)⟩,
 ⟨some 12, none, .call 114 [.t 11, .k (.c (.int .i64 30))]⟩,
 ⟨some 5, none, .mov (.t 12)⟩])
 (.block 0 (some [0, 2, 3, 4, 5]) (some [0, 2, 3])
 (.loop c_spec_l13Draw_b0)))
 (.seq (.seq (.reg false [⟨some 39, none, .mov (.t 0)⟩,
 ⟨some 40, none, .call 115 [.t 39, .k (.c (.int .i64 8))]⟩])
 (.cond (.t 40) (.seq (.reg false [⟨some 41, none, .call 124 []⟩,
 ⟨none, none, .store (.t 3) (.t 41) 65⟩])
 (.seq (.reg false [⟨some 42, none, .mov (.t 0)⟩,
 ⟨some 43, none, .call 114 [.t 42, .k (.c (.int .i64 3))]⟩,
 ⟨some 44, none, .bin .sub (.k (.c (.int .i64 16))) (.t 43)⟩,
 ⟨some 6, none, .mov (.t 44)⟩])
 (.block 2 (some [2, 3, 6]) (some [2, 3])
 (.loop c_spec_l13Draw_b1)))) .skip))
 (.seq (.reg false [⟨some 58, none, .loadN (.t 3) 65⟩,
 ⟨none, none, .store (.t 2) (.t 58) 65⟩])
 (.ret (some [2]))))))))⟩
theorem c_spec_l13Draw_ok : trF Try.prog ⟨[(0, [0, 2, 3, 4, 5], [0, 2, 3]), (2, [2, 3, 6], [2, 3])], [2], false, false⟩ Try.f72 = some c_spec_l13Draw := by kernel_rfl
def c_impl_Chain_walk_b0 : IC :=
  (.seq (.seq (.reg false [⟨some 13, none, .mov (.t 9)⟩,
 ⟨some 14, none, .bin .neq (.t 13) (.k (.c (.int .i64 (-1))))⟩])
 (.cond (.t 14) .skip (.exit 0)))
 (.block 1 none none
 (.seq (.seq (.reg false [⟨some 15, none, .mov (.t 10)⟩,
 ⟨some 16, none, .bin .eql (.t 15) (.k (.c (.int .i64 10)))⟩])
 (.cond (.t 16) (.seq (.reg false [⟨some 17, none, .mov (.t 8)⟩,
 ⟨some 18, none, .mov (.t 9)⟩,
 ⟨some 19, none, .mov (.t 10)⟩,
 ⟨some 4, none, .mov (.t 17)⟩,
 ⟨some 5, none, .mov (.t 18)⟩,
 ⟨some 6, none, .mov (.t 19)⟩,
 ⟨some 7, none, .mov (.k (.c (.bool false)))⟩])
 (.ret (some [4, 5, 6, 7]))) .skip))
 (.seq (.reg false [⟨some 20, none, .mov (.t 10)⟩,
 ⟨some 21, none, .bin .add (.t 20) (.k (.c (.int .i64 1)))⟩,
 ⟨some 10, none, .mov (.t 21)⟩])
 (.seq (.seq (.reg false [⟨some 22, none, .mov (.t 9)⟩,
 ⟨some 23, none, .fld (.t 2) 0⟩,
 ⟨some 24, none, .ixa (.t 23) (.t 22) 16 4⟩,
 ⟨some 25, none, .fld (.t 24) 1⟩,
 ⟨some 26, none, .load1 (.t 25)⟩,
 ⟨some 27, none, .mov (.t 1)⟩,
 ⟨some 28, none, .bin .geq (.t 26) (.t 27)⟩])
 (.cond (.t 28) (.exit 0) .skip))
 (.reg true [⟨some 29, none, .mov (.t 9)⟩,
 ⟨some 30, none, .mov (.t 9)⟩,
 ⟨some 31, none, .fld (.t 2) 0⟩,
 ⟨some 32, none, .ixa (.t 31) (.t 30) 16 4⟩,
 ⟨some 33, none, .fld (.t 32) 3⟩,
 ⟨some 34, none, .load1 (.t 33)⟩,
 ⟨some 8, none, .mov (.t 29)⟩,
 ⟨some 9, none, .mov (.t 34)⟩]))))))
def c_impl_Chain_walk : IFn := ⟨38, [.t 4, .t 5, .t 6, .t 7],
  (.seq (.reg false [⟨some 2, none, .box (.t 0) 57⟩,
 ⟨some 4, none, .mov (.k (.c (.int .i64 0)))⟩,
 ⟨some 5, none, .mov (.k (.c (.int .i64 0)))⟩,
 ⟨some 6, none, .mov (.k (.c (.int .i64 0)))⟩,
 ⟨some 7, none, .mov (.k (.c (.bool false)))⟩])
 (.seq (.reg true [⟨some 11, none, .fld (.t 2) 64⟩,
 ⟨some 12, none, .load1 (.t 11)⟩,
 ⟨some 8, none, .mov (.k (.c (.int .i64 (-1))))⟩,
 ⟨some 9, none, .mov (.t 12)⟩,
 ⟨some 10, none, .mov (.k (.c (.int .i64 0)))⟩])
 (.seq (.block 0 (some [1, 2, 8, 9, 10]) (some [8, 9, 10])
 (.loop c_impl_Chain_walk_b0))
 (.seq (.reg false [⟨some 35, none, .mov (.t 8)⟩,
 ⟨some 36, none, .mov (.t 9)⟩,
 ⟨some 37, none, .mov (.t 10)⟩,
 ⟨some 4, none, .mov (.t 35)⟩,
 ⟨some 5, none, .mov (.t 36)⟩,
 ⟨some 6, none, .mov (.t 37)⟩,
 ⟨some 7, none, .mov (.k (.c (.bool true)))⟩])
 (.ret (some [4, 5, 6, 7]))))))⟩
theorem c_impl_Chain_walk_ok : trF Try.prog ⟨[(0, [1, 2, 8, 9, 10], [8, 9, 10])], [4, 5, 6, 7], false, false⟩ Try.f73 = some c_impl_Chain_walk := by kernel_rfl
def c_impl_Chain_has : IFn := ⟨18, [.t 6],
  (.seq (.reg false [⟨some 3, none, .box (.t 0) 57⟩,
 ⟨some 6, none, .mov (.k (.c (.bool false)))⟩])
 (.seq (.reg false [⟨some 7, none, .mov (.t 1)⟩,
 ⟨some 8, none, .bin .neq (.t 7) (.k (.c (.int .i64 (-1))))⟩,
 ⟨some 9, none, .mov (.t 8)⟩,
 ⟨some 10, some (9, true), .mov (.t 1)⟩,
 ⟨some 11, some (9, true), .fld (.t 3) 0⟩,
 ⟨some 12, some (9, true), .ixa (.t 11) (.t 10) 16 4⟩,
 ⟨some 13, some (9, true), .fld (.t 12) 1⟩,
 ⟨some 14, some (9, true), .load1 (.t 13)⟩,
 ⟨some 15, some (9, true), .mov (.t 2)⟩,
 ⟨some 16, some (9, true), .bin .eql (.t 14) (.t 15)⟩,
 ⟨some 17, none, .pick (.t 9) (.t 16) (.k (.c (.bool false)))⟩,
 ⟨some 6, none, .mov (.t 17)⟩])
 (.ret (some [6]))))⟩
theorem c_impl_Chain_has_ok : trF Try.prog ⟨[], [6], false, false⟩ Try.f74 = some c_impl_Chain_has := by kernel_rfl
def c_impl_Chain_link : IFn := ⟨19, [],
  (.seq (.reg false [⟨some 6, none, .mov (.t 1)⟩,
 ⟨some 7, none, .bin .eql (.t 6) (.k (.c (.int .i64 (-1))))⟩])
 (.cond (.t 7) (.reg false [⟨some 8, none, .mov (.t 0)⟩,
 ⟨some 9, none, .mov (.t 2)⟩,
 ⟨some 10, none, .chk (.t 8)⟩,
 ⟨some 11, none, .fld (.t 10) 64⟩,
 ⟨none, none, .store (.t 11) (.t 9) 1⟩]) (.reg false [⟨some 12, none, .mov (.t 0)⟩,
 ⟨some 13, none, .mov (.t 1)⟩,
 ⟨some 14, none, .mov (.t 2)⟩,
 ⟨some 15, none, .chk (.t 12)⟩,
 ⟨some 16, none, .fld (.t 15) 0⟩,
 ⟨some 17, none, .ixa (.t 16) (.t 13) 16 4⟩,
 ⟨some 18, none, .fld (.t 17) 3⟩,
 ⟨none, none, .store (.t 18) (.t 14) 1⟩])))⟩
theorem c_impl_Chain_link_ok : trF Try.prog ⟨[], [], false, false⟩ Try.f75 = some c_impl_Chain_link := by kernel_rfl
def c_spec_l15Draw_b0 : IC :=
  (.seq (.seq (.reg false [⟨some 13, none, .mov (.t 5)⟩,
 ⟨some 14, none, .bin .gtr (.t 13) (.k (.c (.int .i64 0)))⟩])
 (.cond (.t 14) .skip (.exit 0)))
 (.seq (.block 1 none none
 (.seq (.reg false [⟨some 17, none, .mov (.t 0)⟩,
 ⟨some 18, none, .call 115 [.t 17, .k (.c (.int .i64 4))]⟩])
 (.cond (.t 18) (.regE 0 [⟨⟨some 20, none, .loadN (.t 3) 65⟩, 0, 0, false, []⟩,
 ⟨⟨some 21, none, .mov (.t 0)⟩, 1, 0, false, []⟩,
 ⟨⟨some 22, none, .mov (.t 4)⟩, 2, 0, false, []⟩,
 ⟨⟨some 23, none, .call 114 [.t 21, .t 22]⟩, 3, 0, false, [0]⟩,
 ⟨⟨some 24, none, .call 20 [.t 20, .t 23]⟩, 4, 0, false, []⟩,
 ⟨⟨some 19, none, .mov (.t 24)⟩, 5, 0, false, []⟩,
 ⟨⟨some 25, none, .ext (.t 19) 0⟩, 6, 0, false, []⟩,
 ⟨⟨some 26, none, .ext (.t 19) 1⟩, 7, 0, false, []⟩,
 ⟨⟨none, none, .store (.t 3) (.t 25) 65⟩, 8, 0, false, []⟩]) (.regE 0 [⟨⟨some 28, none, .loadN (.t 3) 65⟩, 0, 0, false, []⟩,
 ⟨⟨some 29, none, .mov (.t 0)⟩, 1, 0, false, []⟩,
 ⟨⟨some 30, none, .mov (.t 4)⟩, 2, 0, false, []⟩,
 ⟨⟨some 31, none, .call 114 [.t 29, .t 30]⟩, 3, 0, false, [0]⟩,
 ⟨⟨some 32, none, .call 128 [.t 28, .t 31]⟩, 4, 0, false, []⟩,
 ⟨⟨some 27, none, .mov (.t 32)⟩, 5, 0, false, []⟩,
 ⟨⟨some 33, none, .ext (.t 27) 0⟩, 6, 0, false, []⟩,
 ⟨⟨some 34, none, .ext (.t 27) 1⟩, 7, 0, false, []⟩,
 ⟨⟨none, none, .store (.t 3) (.t 33) 65⟩, 8, 0, false, []⟩]))))
 (.reg false [⟨some 15, none, .mov (.t 5)⟩,
 ⟨some 16, none, .bin .sub (.t 15) (.k (.c (.int .i64 1)))⟩,
 ⟨some 5, none, .mov (.t 16)⟩])))
def c_spec_l15Draw_b1 : IC :=
  (.seq (.seq (.reg false [⟨some 38, none, .mov (.t 6)⟩,
 ⟨some 39, none, .mov (.t 0)⟩,
 ⟨some 40, none, .call 114 [.t 39, .k (.c (.int .i64 6))]⟩,
 ⟨some 41, none, .bin .add (.k (.c (.int .i64 6))) (.t 40)⟩,
 ⟨some 42, none, .bin .lss (.t 38) (.t 41)⟩])
 (.cond (.t 42) .skip (.exit 2)))
 (.seq (.block 3 none none
 (.reg false [⟨some 46, none, .loadN (.t 3) 65⟩,
 ⟨some 47, none, .mov (.t 6)⟩,
 ⟨some 48, none, .bin .mul (.k (.c (.int .i64 3))) (.t 47)⟩,
 ⟨some 49, none, .call 128 [.t 46, .t 48]⟩,
 ⟨some 45, none, .mov (.t 49)⟩,
 ⟨some 50, none, .ext (.t 45) 0⟩,
 ⟨some 51, none, .ext (.t 45) 1⟩,
 ⟨none, none, .store (.t 3) (.t 50) 65⟩]))
 (.reg false [⟨some 43, none, .mov (.t 6)⟩,
 ⟨some 44, none, .bin .add (.t 43) (.k (.c (.int .i64 1)))⟩,
 ⟨some 6, none, .mov (.t 44)⟩])))
def c_spec_l15Draw : IFn := ⟨53, [.cell 2 65 true],
  (.seq (.reg false [⟨some 2, none, .alloc [.bool false, .int .i64 0, .int .i64 0, .int .i64 0, .bool false, .int .i64 0, .int .i64 0, .int .i64 0, .bool false, .int .i64 0, .int .i64 0, .int .i64 0, .bool false, .int .i64 0, .int .i64 0, .int .i64 0, .bool false, .int .i64 0, .int .i64 0, .int .i64 0, .bool false, .int .i64 0, .int .i64 0, .int .i64 0, .bool false, .int .i64 0, .int .i64 0, .int .i64 0, .bool false, .int .i64 0, .int .i64 0, .int .i64 0, .bool false, .int .i64 0, .int .i64 0, .int .i64 0, .bool false, .int .i64 0, .int .i64 0, .int .i64 0, .bool false, .int .i64 0, .int .i64 0, .int .i64 0, .bool false, .int .i64 0, .int .i64 0, .int .i64 0, .bool false, .int .i64 0, .int .i64 0, .int .i64 0, .bool false, .int .i64 0, .int .i64 0, .int .i64 0, .bool false, .int .i64 0, .int .i64 0, .int .i64 0, .bool false, .int .i64 0, .int .i64 0, .int .i64 0, .int .i64 0] 47⟩])
 (.seq (.reg false [⟨some 7, none, .call 127 []⟩,
 ⟨some 3, none, .alloc [.bool false, .int .i64 0, .int .i64 0, .int .i64 0, .bool false, .int .i64 0, .int .i64 0, .int .i64 0, .bool false, .int .i64 0, .int .i64 0, .int .i64 0, .bool false, .int .i64 0, .int .i64 0, .int .i64 0, .bool false, .int .i64 0, .int .i64 0, .int .i64 0, .bool false, .int .i64 0, .int .i64 0, .int .i64 0, .bool false, .int .i64 0, .int .i64 0, .int .i64 0, .bool false, .int .i64 0, .int .i64 0, .int .i64 0, .bool false, .int .i64 0, .int .i64 0, .int .i64 0, .bool false, .int .i64 0, .int .i64 0, .int .i64 0, .bool false, .int .i64 0, .int .i64 0, .int .i64 0, .bool false, .int .i64 0, .int .i64 0, .int .i64 0, .bool false, .int .i64 0, .int .i64 0, .int .i64 0, .bool false, .int .i64 0, .int .i64 0, .int .i64 0, .bool false, .int .i64 0, .int .i64 0, .int .i64 0, .bool false, .int .i64 0, .int .i64 0, .int .i64 0, .int .i64 0] 47⟩,
 ⟨none, none, .store (.t 3) (.t 7) 65⟩])
 (.seq (.reg false [⟨some 8, none, .mov (.t 0)⟩,
 ⟨some 9, none, .call 114 [.t 8, .k (.c (.int .i64 20))]⟩,
 ⟨some 10, none, .bin .add (.k (.c (.int .i64 10))) (.t 9)⟩,
 ⟨some 4, none, .mov (.t 10)⟩])
 (.seq (.seq (.reg false [⟨some 11, none, .mov (.t 0)⟩,
 ⟨some 12, none, .call 114 [.t 11, .k (.c (.int .i64 30))]⟩,
 ⟨some 5, none, .mov (.t 12)⟩])
 (.block 0 (some [0, 2, 3, 4, 5]) (some [0, 2, 3])
 (.loop c_spec_l15Draw_b0)))
 (.seq (.seq (.reg false [⟨some 35, none, .mov (.t 0)⟩,
 ⟨some 36, none, .call 115 [.t 35, .k (.c (.int .i64 8))]⟩])
 (.cond (.t 36) (.seq (.reg false [⟨some 37, none, .call 127 []⟩,
 ⟨none, none, .store (.t 3) (.t 37) 65⟩])
 (.seq (.reg false [⟨some 6, none, .mov (.k (.c (.int .i64 0)))⟩])
 (.block 2 (some [0, 2, 3, 6]) (some [2, 3])
 (.loop c_spec_l15Draw_b1)))) .skip))
 (.seq (.reg false [⟨some 52, none, .loadN (.t 3) 65⟩,
 ⟨none, none, .store (.t 2) (.t 52) 65⟩])
 (.ret (some [2]))))))))⟩
theorem c_spec_l15Draw_ok : trF Try.prog ⟨[(0, [0, 2, 3, 4, 5], [0, 2, 3]), (2, [0, 2, 3, 6], [2, 3])], [2], false, false⟩ Try.f76 = some c_spec_l15Draw := by kernel_rfl
def c_impl_Tree_keysOf : IFn := ⟨33, [.t 6],
  (.seq (.reg false [⟨some 3, none, .box (.t 0) 47⟩,
 ⟨some 6, none, .mov (.k (.c .nils))⟩])
 (.seq (.seq (.reg false [⟨some 7, none, .mov (.t 1)⟩,
 ⟨some 8, none, .bin .eql (.t 7) (.k (.c (.int .i64 (-1))))⟩])
 (.cond (.t 8) (.seq (.reg false [⟨some 9, none, .mov (.t 2)⟩,
 ⟨some 6, none, .mov (.t 9)⟩])
 (.ret (some [6]))) .skip))
 (.seq (.regE 0 [⟨⟨some 10, none, .loadN (.t 3) 65⟩, 0, 0, false, []⟩,
 ⟨⟨some 11, none, .mov (.t 1)⟩, 1, 0, false, []⟩,
 ⟨⟨some 12, none, .fld (.t 3) 0⟩, 2, 0, false, []⟩,
 ⟨⟨some 13, none, .ixa (.t 12) (.t 11) 16 4⟩, 3, 0, false, []⟩,
 ⟨⟨some 14, none, .fld (.t 13) 2⟩, 4, 0, false, []⟩,
 ⟨⟨some 15, none, .load1 (.t 14)⟩, 5, 0, false, []⟩,
 ⟨⟨some 16, none, .mov (.t 2)⟩, 6, 0, false, []⟩,
 ⟨⟨some 17, none, .call 77 [.t 10, .t 15, .t 16]⟩, 7, 0, false, []⟩,
 ⟨⟨some 2, none, .mov (.t 17)⟩, 8, 0, false, []⟩])
 (.seq (.regE 1 [⟨⟨some 18, none, .loadN (.t 3) 65⟩, 0, 0, false, []⟩,
 ⟨⟨some 19, none, .mov (.t 1)⟩, 1, 0, false, []⟩,
 ⟨⟨some 20, none, .fld (.t 3) 0⟩, 2, 0, false, []⟩,
 ⟨⟨some 21, none, .ixa (.t 20) (.t 19) 16 4⟩, 3, 0, false, []⟩,
 ⟨⟨some 22, none, .fld (.t 21) 3⟩, 4, 0, false, []⟩,
 ⟨⟨some 23, none, .load1 (.t 22)⟩, 5, 0, false, []⟩,
 ⟨⟨some 24, none, .mov (.t 2)⟩, 6, 0, false, []⟩,
 ⟨⟨some 25, none, .mov (.t 1)⟩, 7, 0, false, []⟩,
 ⟨⟨some 26, none, .fld (.t 3) 0⟩, 8, 0, false, []⟩,
 ⟨⟨some 27, none, .ixa (.t 26) (.t 25) 16 4⟩, 9, 0, false, []⟩,
 ⟨⟨some 28, none, .fld (.t 27) 1⟩, 10, 0, false, []⟩,
 ⟨⟨some 29, none, .load1 (.t 28)⟩, 11, 0, false, []⟩,
 ⟨⟨some 30, none, .lit 1 1 [.int .i64 0] [(0, .t 29)] 3⟩, 12, 0, false, [0, 2, 3, 4, 5]⟩,
 ⟨⟨some 31, none, .app (.t 24) (.t 30) 3 1 8⟩, 13, 1, false, [0, 2, 3, 4, 5]⟩,
 ⟨⟨some 32, none, .call 77 [.t 18, .t 23, .t 31]⟩, 14, 1, false, []⟩,
 ⟨⟨some 6, none, .mov (.t 32)⟩, 15, 1, false, []⟩])
 (.ret (some [6]))))))⟩
theorem c_impl_Tree_keysOf_ok : trF Try.prog ⟨[], [6], true, false⟩ Try.f77 = some c_impl_Tree_keysOf := by kernel_rfl
def c_impl_Tree_isPart : IFn := ⟨71, [.t 10],
  (.seq (.reg false [⟨some 5, none, .box (.t 0) 47⟩,
 ⟨some 10, none, .mov (.k (.c (.bool false)))⟩])
 (.seq (.seq (.reg false [⟨some 12, none, .mov (.t 1)⟩,
 ⟨some 13, none, .bin .eql (.t 12) (.k (.c (.int .i64 (-1))))⟩])
 (.cond (.t 13) (.seq (.reg false [⟨some 10, none, .mov (.k (.c (.bool true)))⟩])
 (.ret (some [10]))) .skip))
 (.seq (.seq (.reg false [⟨some 14, none, .mov (.t 1)⟩,
 ⟨some 15, none, .call 63 [.t 14, .k (.c (.int .i64 0)), .k (.c (.int .i64 15))]⟩,
 ⟨some 16, none, .un .not (.t 15)⟩,
 ⟨some 17, none, .mov (.t 16)⟩,
 ⟨some 18, some (17, false), .mov (.t 4)⟩,
 ⟨some 19, some (17, false), .mov (.t 1)⟩,
 ⟨some 20, some (17, false), .chk (.t 18)⟩,
 ⟨some 21, some (17, false), .ixa (.t 20) (.t 19) 16 1⟩,
 ⟨some 22, some (17, false), .load1 (.t 21)⟩,
 ⟨some 23, none, .pick (.t 17) (.k (.c (.bool true))) (.t 22)⟩,
 ⟨some 24, none, .mov (.t 23)⟩,
 ⟨some 25, some (24, false), .mov (.t 1)⟩,
 ⟨some 26, some (24, false), .fld (.t 5) 0⟩,
 ⟨some 27, some (24, false), .ixa (.t 26) (.t 25) 16 4⟩,
 ⟨some 28, some (24, false), .fld (.t 27) 0⟩,
 ⟨some 29, some (24, false), .load1 (.t 28)⟩,
 ⟨some 30, some (24, false), .un .not (.t 29)⟩,
 ⟨some 31, none, .pick (.t 24) (.k (.c (.bool true))) (.t 30)⟩,
 ⟨some 32, none, .mov (.t 31)⟩,
 ⟨some 33, some (32, false), .mov (.t 1)⟩,
 ⟨some 34, some (32, false), .fld (.t 5) 0⟩,
 ⟨some 35, some (32, false), .ixa (.t 34) (.t 33) 16 4⟩,
 ⟨some 36, some (32, false), .fld (.t 35) 1⟩,
 ⟨some 37, some (32, false), .load1 (.t 36)⟩,
 ⟨some 38, some (32, false), .mov (.t 2)⟩,
 ⟨some 39, some (32, false), .mov (.t 3)⟩,
 ⟨some 40, some (32, false), .call 63 [.t 37, .t 38, .t 39]⟩,
 ⟨some 41, some (32, false), .un .not (.t 40)⟩,
 ⟨some 42, none, .pick (.t 32) (.k (.c (.bool true))) (.t 41)⟩])
 (.cond (.t 42) (.seq (.reg false [⟨some 10, none, .mov (.k (.c (.bool false)))⟩])
 (.ret (some [10]))) .skip))
 (.seq (.reg false [⟨some 43, none, .mov (.t 4)⟩,
 ⟨some 44, none, .mov (.t 1)⟩,
 ⟨some 45, none, .chk (.t 43)⟩,
 ⟨some 46, none, .ixa (.t 45) (.t 44) 16 1⟩,
 ⟨none, none, .store (.t 46) (.k (.c (.bool true))) 1⟩])
 (.seq (.reg false [⟨some 47, none, .mov (.t 1)⟩,
 ⟨some 48, none, .fld (.t 5) 0⟩,
 ⟨some 49, none, .ixa (.t 48) (.t 47) 16 4⟩,
 ⟨some 50, none, .loadN (.t 49) 4⟩,
 ⟨some 11, none, .alloc [.bool false, .int .i64 0, .int .i64 0, .int .i64 0] 44⟩,
 ⟨none, none, .store (.t 11) (.t 50) 4⟩])
 (.seq (.reg false [⟨some 51, none, .loadN (.t 5) 65⟩,
 ⟨some 52, none, .fld (.t 11) 2⟩,
 ⟨some 53, none, .load1 (.t 52)⟩,
 ⟨some 54, none, .mov (.t 2)⟩,
 ⟨some 55, none, .fld (.t 11) 1⟩,
 ⟨some 56, none, .load1 (.t 55)⟩,
 ⟨some 57, none, .bin .sub (.t 56) (.k (.c (.int .i64 1)))⟩,
 ⟨some 58, none, .mov (.t 4)⟩,
 ⟨some 59, none, .call 78 [.t 51, .t 53, .t 54, .t 57, .t 58]⟩,
 ⟨some 60, none, .mov (.t 59)⟩,
 ⟨some 61, some (60, true), .loadN (.t 5) 65⟩,
 ⟨some 62, some (60, true), .fld (.t 11) 3⟩,
 ⟨some 63, some (60, true), .load1 (.t 62)⟩,
 ⟨some 64, some (60, true), .fld (.t 11) 1⟩,
 ⟨some 65, some (60, true), .load1 (.t 64)⟩,
 ⟨some 66, some (60, true), .bin .add (.t 65) (.k (.c (.int .i64 1)))⟩,
 ⟨some 67, some (60, true), .mov (.t 3)⟩,
 ⟨some 68, some (60, true), .mov (.t 4)⟩,
 ⟨some 69, some (60, true), .call 78 [.t 61, .t 63, .t 66, .t 67, .t 68]⟩,
 ⟨some 70, none, .pick (.t 60) (.t 69) (.k (.c (.bool false)))⟩,
 ⟨some 10, none, .mov (.t 70)⟩])
 (.ret (some [10]))))))))⟩
theorem c_impl_Tree_isPart_ok : trF Try.prog ⟨[], [10], false, false⟩ Try.f78 = some c_impl_Tree_isPart := by kernel_rfl
def c_impl_Tree_high : IFn := ⟨23, [.t 4],
  (.seq (.reg false [⟨some 2, none, .box (.t 0) 47⟩,
 ⟨some 4, none, .mov (.k (.c (.int .i64 0)))⟩])
 (.seq (.seq (.reg false [⟨some 5, none, .mov (.t 1)⟩,
 ⟨some 6, none, .bin .eql (.t 5) (.k (.c (.int .i64 (-1))))⟩])
 (.cond (.t 6) (.seq (.reg false [⟨some 4, none, .mov (.k (.c (.int .i64 0)))⟩])
 (.ret (some [4]))) .skip))
 (.seq (.reg true [⟨some 7, none, .loadN (.t 2) 65⟩,
 ⟨some 8, none, .mov (.t 1)⟩,
 ⟨some 9, none, .fld (.t 2) 0⟩,
 ⟨some 10, none, .ixa (.t 9) (.t 8) 16 4⟩,
 ⟨some 11, none, .fld (.t 10) 2⟩,
 ⟨some 12, none, .load1 (.t 11)⟩,
 ⟨some 13, none, .call 79 [.t 7, .t 12]⟩,
 ⟨some 14, none, .loadN (.t 2) 65⟩,
 ⟨some 15, none, .mov (.t 1)⟩,
 ⟨some 16, none, .fld (.t 2) 0⟩,
 ⟨some 17, none, .ixa (.t 16) (.t 15) 16 4⟩,
 ⟨some 18, none, .fld (.t 17) 3⟩,
 ⟨some 19, none, .load1 (.t 18)⟩,
 ⟨some 20, none, .call 79 [.t 14, .t 19]⟩,
 ⟨some 21, none, .mxi false (.t 13) (.t 20)⟩,
 ⟨some 22, none, .bin .add (.k (.c (.int .i64 1))) (.t 21)⟩,
 ⟨some 4, none, .mov (.t 22)⟩])
 (.ret (some [4])))))⟩
theorem c_impl_Tree_high_ok : trF Try.prog ⟨[], [4], false, false⟩ Try.f79 = some c_impl_Tree_high := by kernel_rfl
def c_impl_Tree_build : IFn := ⟨56, [.t 6, .t 7],
  (.seq (.reg false [⟨some 6, none, .mov (.k (.c (.int .i64 0)))⟩,
 ⟨some 7, none, .mov (.k (.c (.int .i64 0)))⟩])
 (.seq (.seq (.reg false [⟨some 14, none, .mov (.t 1)⟩,
 ⟨some 15, none, .len (.t 14)⟩,
 ⟨some 16, none, .bin .eql (.t 15) (.k (.c (.int .i64 0)))⟩])
 (.cond (.t 16) (.seq (.reg false [⟨some 17, none, .mov (.t 2)⟩,
 ⟨some 6, none, .mov (.k (.c (.int .i64 (-1))))⟩,
 ⟨some 7, none, .mov (.t 17)⟩])
 (.ret (some [6, 7]))) .skip))
 (.seq (.reg false [⟨some 18, none, .mov (.t 2)⟩,
 ⟨some 19, none, .mov (.t 1)⟩,
 ⟨some 20, none, .len (.t 19)⟩,
 ⟨some 21, none, .bin .quo (.t 20) (.k (.c (.int .i64 2)))⟩,
 ⟨some 8, none, .mov (.t 18)⟩,
 ⟨some 9, none, .mov (.t 21)⟩])
 (.seq (.reg false [⟨some 23, none, .mov (.t 0)⟩,
 ⟨some 24, none, .mov (.t 1)⟩,
 ⟨some 25, none, .mov (.t 9)⟩,
 ⟨some 26, none, .sls (.t 24) 1 none (some (.t 25))⟩,
 ⟨some 27, none, .mov (.t 2)⟩,
 ⟨some 28, none, .bin .add (.t 27) (.k (.c (.int .i64 1)))⟩,
 ⟨some 29, none, .call 80 [.t 23, .t 26, .t 28]⟩,
 ⟨some 22, none, .mov (.t 29)⟩,
 ⟨some 30, none, .ext (.t 22) 0⟩,
 ⟨some 31, none, .ext (.t 22) 1⟩,
 ⟨some 10, none, .mov (.t 30)⟩,
 ⟨some 11, none, .mov (.t 31)⟩])
 (.seq (.reg false [⟨some 33, none, .mov (.t 0)⟩,
 ⟨some 34, none, .mov (.t 1)⟩,
 ⟨some 35, none, .mov (.t 9)⟩,
 ⟨some 36, none, .bin .add (.t 35) (.k (.c (.int .i64 1)))⟩,
 ⟨some 37, none, .sls (.t 34) 1 (some (.t 36)) none⟩,
 ⟨some 38, none, .mov (.t 11)⟩,
 ⟨some 39, none, .call 80 [.t 33, .t 37, .t 38]⟩,
 ⟨some 32, none, .mov (.t 39)⟩,
 ⟨some 40, none, .ext (.t 32) 0⟩,
 ⟨some 41, none, .ext (.t 32) 1⟩,
 ⟨some 12, none, .mov (.t 40)⟩,
 ⟨some 13, none, .mov (.t 41)⟩])
 (.seq (.regE 0 [⟨⟨some 42, none, .mov (.t 0)⟩, 0, 0, false, []⟩,
 ⟨⟨some 43, none, .mov (.t 8)⟩, 1, 0, false, []⟩,
 ⟨⟨some 44, none, .mov (.t 1)⟩, 2, 0, false, []⟩,
 ⟨⟨some 45, none, .mov (.t 9)⟩, 3, 0, false, []⟩,
 ⟨⟨some 46, none, .ixs (.t 44) (.t 45) 1⟩, 4, 0, false, []⟩,
 ⟨⟨some 47, none, .load1 (.t 46)⟩, 5, 0, false, []⟩,
 ⟨⟨some 48, none, .mov (.t 10)⟩, 6, 0, false, []⟩,
 ⟨⟨some 49, none, .mov (.t 12)⟩, 7, 0, false, []⟩,
 ⟨⟨some 50, none, .bld [.bool false, .int .i64 0, .int .i64 0, .int .i64 0] [(0, (1, .k (.c (.bool true)))), (1, (1, .t 47)), (2, (1, .t 48)), (3, (1, .t 49))]⟩, 8, 0, false, []⟩,
 ⟨⟨some 51, none, .chk (.t 42)⟩, 9, 0, false, []⟩,
 ⟨⟨some 52, none, .fld (.t 51) 0⟩, 10, 0, false, []⟩,
 ⟨⟨some 53, none, .ixa (.t 52) (.t 43) 16 4⟩, 11, 0, false, []⟩,
 ⟨⟨none, none, .store (.t 53) (.t 50) 4⟩, 12, 0, false, []⟩])
 (.seq (.reg false [⟨some 54, none, .mov (.t 8)⟩,
 ⟨some 55, none, .mov (.t 13)⟩,
 ⟨some 6, none, .mov (.t 54)⟩,
 ⟨some 7, none, .mov (.t 55)⟩])
 (.ret (some [6, 7])))))))))⟩
theorem c_impl_Tree_build_ok : trF Try.prog ⟨[], [6, 7], false, false⟩ Try.f80 = some c_impl_Tree_build := by kernel_rfl
def c_spec_ChainOk_b0 : IC :=
  (.seq (.seq (.reg false [⟨some 8, none, .mov (.t 4)⟩,
 ⟨some 9, none, .bin .lss (.t 8) (.k (.c (.int .i64 16)))⟩])
 (.cond (.t 9) .skip (.exit 0)))
 (.seq (.block 1 none none
 (.seq (.reg false [⟨some 12, none, .mov (.t 4)⟩,
 ⟨some 13, none, .fld (.t 1) 0⟩,
 ⟨some 14, none, .ixa (.t 13) (.t 12) 16 4⟩,
 ⟨some 15, none, .loadN (.t 14) 4⟩,
 ⟨some 5, none, .alloc [.bool false, .int .i64 0, .int .i64 0, .int .i64 0] 54⟩,
 ⟨none, none, .store (.t 5) (.t 15) 4⟩])
 (.seq (.seq (.reg false [⟨some 16, none, .fld (.t 5) 0⟩,
 ⟨some 17, none, .load1 (.t 16)⟩,
 ⟨some 18, none, .un .not (.t 17)⟩,
 ⟨some 19, none, .mov (.t 18)⟩,
 ⟨some 20, some (19, true), .loadN (.t 5) 4⟩,
 ⟨some 21, some (19, true), .bld [.bool false, .int .i64 0, .int .i64 0, .int .i64 0] []⟩,
 ⟨some 22, some (19, true), .eqa true [none, some .i64, some .i64, some .i64] (.t 20) (.t 21)⟩,
 ⟨some 23, none, .pick (.t 19) (.t 22) (.k (.c (.bool false)))⟩,
 ⟨some 24, none, .mov (.t 23)⟩,
 ⟨some 25, some (24, false), .fld (.t 5) 0⟩,
 ⟨some 26, some (24, false), .load1 (.t 25)⟩,
 ⟨some 27, some (24, false), .mov (.t 26)⟩,
 ⟨some 28, some (27, true), .fld (.t 5) 1⟩,
 ⟨some 29, some (27, true), .load1 (.t 28)⟩,
 ⟨some 30, some (27, true), .call 66 [.t 29]⟩,
 ⟨some 31, some (27, true), .un .not (.t 30)⟩,
 ⟨some 32, some (27, true), .mov (.t 31)⟩,
 ⟨some 33, some (32, false), .fld (.t 5) 2⟩,
 ⟨some 34, some (32, false), .load1 (.t 33)⟩,
 ⟨some 35, some (32, false), .call 66 [.t 34]⟩,
 ⟨some 36, some (32, false), .un .not (.t 35)⟩,
 ⟨some 37, some (27, true), .pick (.t 32) (.k (.c (.bool true))) (.t 36)⟩,
 ⟨some 38, some (24, false), .pick (.t 27) (.t 37) (.k (.c (.bool false)))⟩,
 ⟨some 39, none, .pick (.t 24) (.k (.c (.bool true))) (.t 38)⟩])
 (.cond (.t 39) (.seq (.reg false [⟨some 2, none, .mov (.k (.c (.bool false)))⟩])
 (.ret (some [2]))) .skip))
 (.seq (.reg false [⟨some 40, none, .fld (.t 5) 0⟩,
 ⟨some 41, none, .load1 (.t 40)⟩])
 (.cond (.t 41) (.reg false [⟨some 42, none, .mov (.t 3)⟩,
 ⟨some 43, none, .bin .add (.t 42) (.k (.c (.int .i64 1)))⟩,
 ⟨some 3, none, .mov (.t 43)⟩]) .skip)))))
 (.reg false [⟨some 10, none, .mov (.t 4)⟩,
 ⟨some 11, none, .bin .add (.t 10) (.k (.c (.int .i64 1)))⟩,
 ⟨some 4, none, .mov (.t 11)⟩])))
def c_spec_ChainOk_b1 : IC :=
  (.seq (.seq (.reg false [⟨some 46, none, .mov (.t 6)⟩,
 ⟨some 47, none, .bin .neq (.t 46) (.k (.c (.int .i64 (-1))))⟩])
 (.cond (.t 47) .skip (.exit 2)))
 (.block 3 none none
 (.seq (.seq (.reg true [⟨some 48, none, .mov (.t 6)⟩,
 ⟨some 49, none, .call 121 [.t 48, .k (.c (.int .i64 0)), .k (.c (.int .i64 15))]⟩,
 ⟨some 50, none, .un .not (.t 49)⟩,
 ⟨some 51, none, .mov (.t 50)⟩,
 ⟨some 52, some (51, false), .mov (.t 6)⟩,
 ⟨some 53, some (51, false), .fld (.t 1) 0⟩,
 ⟨some 54, some (51, false), .ixa (.t 53) (.t 52) 16 4⟩,
 ⟨some 55, some (51, false), .fld (.t 54) 0⟩,
 ⟨some 56, some (51, false), .load1 (.t 55)⟩,
 ⟨some 57, some (51, false), .un .not (.t 56)⟩,
 ⟨some 58, none, .pick (.t 51) (.k (.c (.bool true))) (.t 57)⟩,
 ⟨some 59, none, .mov (.t 58)⟩,
 ⟨some 60, some (59, false), .mov (.t 3)⟩,
 ⟨some 61, some (59, false), .bin .eql (.t 60) (.k (.c (.int .i64 0)))⟩,
 ⟨some 62, none, .pick (.t 59) (.k (.c (.bool true))) (.t 61)⟩,
 ⟨some 63, none, .mov (.t 62)⟩,
 ⟨some 64, some (63, false), .mov (.t 7)⟩,
 ⟨some 65, some (63, false), .bin .geq (.t 64) (.k (.c (.int .i64 0)))⟩,
 ⟨some 66, some (63, false), .mov (.t 65)⟩,
 ⟨some 67, some (66, true), .mov (.t 7)⟩,
 ⟨some 68, some (66, true), .fld (.t 1) 0⟩,
 ⟨some 69, some (66, true), .ixa (.t 68) (.t 67) 16 4⟩,
 ⟨some 70, some (66, true), .fld (.t 69) 1⟩,
 ⟨some 71, some (66, true), .load1 (.t 70)⟩,
 ⟨some 72, some (66, true), .mov (.t 6)⟩,
 ⟨some 73, some (66, true), .fld (.t 1) 0⟩,
 ⟨some 74, some (66, true), .ixa (.t 73) (.t 72) 16 4⟩,
 ⟨some 75, some (66, true), .fld (.t 74) 1⟩,
 ⟨some 76, some (66, true), .load1 (.t 75)⟩,
 ⟨some 77, some (66, true), .bin .geq (.t 71) (.t 76)⟩,
 ⟨some 78, some (63, false), .pick (.t 66) (.t 77) (.k (.c (.bool false)))⟩,
 ⟨some 79, none, .pick (.t 63) (.k (.c (.bool true))) (.t 78)⟩])
 (.cond (.t 79) (.seq (.reg false [⟨some 2, none, .mov (.k (.c (.bool false)))⟩])
 (.ret (some [2]))) .skip))
 (.seq (.reg false [⟨some 80, none, .mov (.t 3)⟩,
 ⟨some 81, none, .bin .sub (.t 80) (.k (.c (.int .i64 1)))⟩,
 ⟨some 3, none, .mov (.t 81)⟩])
 (.seq (.reg false [⟨some 82, none, .mov (.t 6)⟩,
 ⟨some 7, none, .mov (.t 82)⟩])
 (.reg false [⟨some 83, none, .mov (.t 6)⟩,
 ⟨some 84, none, .fld (.t 1) 0⟩,
 ⟨some 85, none, .ixa (.t 84) (.t 83) 16 4⟩,
 ⟨some 86, none, .fld (.t 85) 3⟩,
 ⟨some 87, none, .load1 (.t 86)⟩,
 ⟨some 6, none, .mov (.t 87)⟩]))))))
def c_spec_ChainOk : IFn := ⟨90, [.t 2],
  (.seq (.reg false [⟨some 1, none, .box (.t 0) 57⟩,
 ⟨some 2, none, .mov (.k (.c (.bool false)))⟩])
 (.seq (.reg false [⟨some 3, none, .mov (.k (.c (.int .i64 0)))⟩])
 (.seq (.seq (.reg false [⟨some 4, none, .mov (.k (.c (.int .i64 0)))⟩])
 (.block 0 (some [1, 3, 4]) (some [1, 3])
 (.loop c_spec_ChainOk_b0)))
 (.seq (.reg false [⟨some 44, none, .fld (.t 1) 64⟩,
 ⟨some 45, none, .load1 (.t 44)⟩,
 ⟨some 6, none, .mov (.t 45)⟩,
 ⟨some 7, none, .mov (.k (.c (.int .i64 (-1))))⟩])
 (.seq (.block 2 (some [1, 3, 6, 7]) (some [3])
 (.loop c_spec_ChainOk_b1))
 (.seq (.reg false [⟨some 88, none, .mov (.t 3)⟩,
 ⟨some 89, none, .bin .eql (.t 88) (.k (.c (.int .i64 0)))⟩,
 ⟨some 2, none, .mov (.t 89)⟩])
 (.ret (some [2]))))))))⟩
theorem c_spec_ChainOk_ok : trF Try.prog ⟨[(0, [1, 3, 4], [1, 3]), (2, [1, 3, 6, 7], [3])], [2], false, false⟩ Try.f82 = some c_spec_ChainOk := by kernel_rfl
def c_spec_RingOk_b0 : IC :=
  (.seq (.seq (.reg false [⟨some 15, none, .mov (.t 3)⟩,
 ⟨some 16, none, .bin .lss (.t 15) (.k (.c (.int .i64 8)))⟩])
 (.cond (.t 16) .skip (.exit 0)))
 (.seq (.block 1 none none
 (.seq (.reg false [⟨some 19, none, .fld (.t 1) 8⟩,
 ⟨some 20, none, .load1 (.t 19)⟩,
 ⟨some 21, none, .mov (.t 3)⟩,
 ⟨some 22, none, .bin .add (.t 20) (.t 21)⟩,
 ⟨some 23, none, .bin .rem (.t 22) (.k (.c (.int .i64 8)))⟩,
 ⟨some 24, none, .fld (.t 1) 0⟩,
 ⟨some 25, none, .ixa (.t 24) (.t 23) 8 1⟩,
 ⟨some 26, none, .load1 (.t 25)⟩,
 ⟨some 4, none, .mov (.t 26)⟩])
 (.seq (.reg false [⟨some 27, none, .mov (.t 3)⟩,
 ⟨some 28, none, .fld (.t 1) 9⟩,
 ⟨some 29, none, .load1 (.t 28)⟩,
 ⟨some 30, none, .bin .lss (.t 27) (.t 29)⟩,
 ⟨some 31, none, .mov (.t 30)⟩,
 ⟨some 32, some (31, true), .mov (.t 4)⟩,
 ⟨some 33, some (31, true), .call 66 [.t 32]⟩,
 ⟨some 34, some (31, true), .un .not (.t 33)⟩,
 ⟨some 35, none, .pick (.t 31) (.t 34) (.k (.c (.bool false)))⟩,
 ⟨some 36, none, .mov (.t 35)⟩,
 ⟨some 37, some (36, false), .mov (.t 3)⟩,
 ⟨some 38, some (36, false), .fld (.t 1) 9⟩,
 ⟨some 39, some (36, false), .load1 (.t 38)⟩,
 ⟨some 40, some (36, false), .bin .geq (.t 37) (.t 39)⟩,
 ⟨some 41, some (36, false), .mov (.t 40)⟩,
 ⟨some 42, some (41, true), .mov (.t 4)⟩,
 ⟨some 43, some (41, true), .bin .neq (.t 42) (.k (.c (.int .i64 0)))⟩,
 ⟨some 44, some (36, false), .pick (.t 41) (.t 43) (.k (.c (.bool false)))⟩,
 ⟨some 45, none, .pick (.t 36) (.k (.c (.bool true))) (.t 44)⟩])
 (.cond (.t 45) (.seq (.reg false [⟨some 2, none, .mov (.k (.c (.bool false)))⟩])
 (.ret (some [2]))) .skip))))
 (.reg false [⟨some 17, none, .mov (.t 3)⟩,
 ⟨some 18, none, .bin .add (.t 17) (.k (.c (.int .i64 1)))⟩,
 ⟨some 3, none, .mov (.t 18)⟩])))
def c_spec_RingOk : IFn := ⟨46, [.t 2],
  (.seq (.reg false [⟨some 1, none, .box (.t 0) 26⟩,
 ⟨some 2, none, .mov (.k (.c (.bool false)))⟩])
 (.seq (.seq (.reg false [⟨some 5, none, .fld (.t 1) 8⟩,
 ⟨some 6, none, .load1 (.t 5)⟩,
 ⟨some 7, none, .call 121 [.t 6, .k (.c (.int .i64 0)), .k (.c (.int .i64 7))]⟩,
 ⟨some 8, none, .un .not (.t 7)⟩,
 ⟨some 9, none, .mov (.t 8)⟩,
 ⟨some 10, some (9, false), .fld (.t 1) 9⟩,
 ⟨some 11, some (9, false), .load1 (.t 10)⟩,
 ⟨some 12, some (9, false), .call 121 [.t 11, .k (.c (.int .i64 0)), .k (.c (.int .i64 8))]⟩,
 ⟨some 13, some (9, false), .un .not (.t 12)⟩,
 ⟨some 14, none, .pick (.t 9) (.k (.c (.bool true))) (.t 13)⟩])
 (.cond (.t 14) (.seq (.reg false [⟨some 2, none, .mov (.k (.c (.bool false)))⟩])
 (.ret (some [2]))) .skip))
 (.seq (.seq (.reg false [⟨some 3, none, .mov (.k (.c (.int .i64 0)))⟩])
 (.block 0 (some [1, 3]) (some [])
 (.loop c_spec_RingOk_b0)))
 (.seq (.reg false [⟨some 2, none, .mov (.k (.c (.bool true)))⟩])
 (.ret (some [2]))))))⟩
theorem c_spec_RingOk_ok : trF Try.prog ⟨[(0, [1, 3], [])], [2], false, false⟩ Try.f83 = some c_spec_RingOk := by kernel_rfl
def c_spec_l1Below : IFn := ⟨37, [.t 4],
  (.seq (.reg false [⟨some 4, none, .mov (.k (.c (.int .i64 0)))⟩])
 (.seq (.seq (.reg false [⟨some 9, none, .mov (.t 1)⟩,
 ⟨some 10, none, .bin .leq (.t 9) (.k (.c (.int .i64 0)))⟩])
 (.cond (.t 10) (.seq (.reg false [⟨some 4, none, .mov (.k (.c (.int .i64 0)))⟩])
 (.ret (some [4]))) .skip))
 (.seq (.seq (.reg false [⟨some 11, none, .mov (.t 1)⟩,
 ⟨some 12, none, .bin .leq (.t 11) (.k (.c (.int .i64 256)))⟩])
 (.cond (.t 12) (.seq (.reg false [⟨some 13, none, .mov (.t 0)⟩,
 ⟨some 14, none, .call 159 [.t 13]⟩,
 ⟨some 15, none, .mov (.t 1)⟩,
 ⟨some 16, none, .bin .rem (.t 14) (.t 15)⟩,
 ⟨some 4, none, .mov (.t 16)⟩])
 (.ret (some [4]))) .skip))
 (.seq (.reg false [⟨some 17, none, .mov (.t 0)⟩,
 ⟨some 18, none, .call 159 [.t 17]⟩,
 ⟨some 5, none, .mov (.t 18)⟩])
 (.seq (.reg false [⟨some 19, none, .mov (.t 0)⟩,
 ⟨some 20, none, .call 159 [.t 19]⟩,
 ⟨some 6, none, .mov (.t 20)⟩])
 (.seq (.reg false [⟨some 21, none, .mov (.t 0)⟩,
 ⟨some 22, none, .call 159 [.t 21]⟩,
 ⟨some 7, none, .mov (.t 22)⟩])
 (.seq (.reg false [⟨some 23, none, .mov (.t 0)⟩,
 ⟨some 24, none, .call 159 [.t 23]⟩,
 ⟨some 8, none, .mov (.t 24)⟩])
 (.seq (.reg false [⟨some 25, none, .mov (.t 5)⟩,
 ⟨some 26, none, .bin .mul (.t 25) (.k (.c (.int .i64 16777216)))⟩,
 ⟨some 27, none, .mov (.t 6)⟩,
 ⟨some 28, none, .bin .mul (.t 27) (.k (.c (.int .i64 65536)))⟩,
 ⟨some 29, none, .bin .add (.t 26) (.t 28)⟩,
 ⟨some 30, none, .mov (.t 7)⟩,
 ⟨some 31, none, .bin .mul (.t 30) (.k (.c (.int .i64 256)))⟩,
 ⟨some 32, none, .bin .add (.t 29) (.t 31)⟩,
 ⟨some 33, none, .mov (.t 8)⟩,
 ⟨some 34, none, .bin .add (.t 32) (.t 33)⟩,
 ⟨some 35, none, .mov (.t 1)⟩,
 ⟨some 36, none, .bin .rem (.t 34) (.t 35)⟩,
 ⟨some 4, none, .mov (.t 36)⟩])
 (.ret (some [4]))))))))))⟩
theorem c_spec_l1Below_ok : trF Try.prog ⟨[], [4], false, false⟩ Try.f114 = some c_spec_l1Below := by kernel_rfl
def c_spec_l1Once : IFn := ⟨9, [.t 4],
  (.seq (.reg false [⟨some 4, none, .mov (.k (.c (.bool false)))⟩])
 (.seq (.reg false [⟨some 5, none, .mov (.t 0)⟩,
 ⟨some 6, none, .mov (.t 1)⟩,
 ⟨some 7, none, .call 114 [.t 5, .t 6]⟩,
 ⟨some 8, none, .bin .eql (.t 7) (.k (.c (.int .i64 0)))⟩,
 ⟨some 4, none, .mov (.t 8)⟩])
 (.ret (some [4]))))⟩
theorem c_spec_l1Once_ok : trF Try.prog ⟨[], [4], false, false⟩ Try.f115 = some c_spec_l1Once := by kernel_rfl
def c_spec_RingTake : IFn := ⟨36, [.cell 2 10 true, .t 3, .t 4],
  (.seq (.reg false [⟨some 1, none, .box (.t 0) 26⟩,
 ⟨some 2, none, .alloc [.int .i64 0, .int .i64 0, .int .i64 0, .int .i64 0, .int .i64 0, .int .i64 0, .int .i64 0, .int .i64 0, .int .i64 0, .int .i64 0] 26⟩,
 ⟨some 3, none, .mov (.k (.c (.int .i64 0)))⟩,
 ⟨some 4, none, .mov (.k (.c (.int .i64 0)))⟩])
 (.seq (.block 0 none none
 (.seq (.reg false [⟨some 7, none, .loadN (.t 1) 10⟩,
 ⟨some 8, none, .call 83 [.t 7]⟩,
 ⟨some 9, none, .un .not (.t 8)⟩,
 ⟨some 6, none, .mov (.t 9)⟩])
 (.cond (.t 6) (.seq (.reg false [⟨some 10, none, .loadN (.t 1) 10⟩,
 ⟨none, none, .store (.t 2) (.t 10) 10⟩,
 ⟨some 3, none, .mov (.k (.c (.int .i64 0)))⟩,
 ⟨some 4, none, .mov (.k (.c (.int .i64 1)))⟩])
 (.ret (some [2, 3, 4]))) (.seq (.reg false [⟨some 12, none, .fld (.t 1) 9⟩,
 ⟨some 13, none, .load1 (.t 12)⟩,
 ⟨some 14, none, .bin .eql (.t 13) (.k (.c (.int .i64 0)))⟩,
 ⟨some 11, none, .mov (.t 14)⟩])
 (.cond (.t 11) (.seq (.reg false [⟨some 15, none, .loadN (.t 1) 10⟩,
 ⟨none, none, .store (.t 2) (.t 15) 10⟩,
 ⟨some 3, none, .mov (.k (.c (.int .i64 0)))⟩,
 ⟨some 4, none, .mov (.k (.c (.int .i64 3)))⟩])
 (.ret (some [2, 3, 4]))) .skip)))))
 (.seq (.reg false [⟨some 16, none, .fld (.t 1) 8⟩,
 ⟨some 17, none, .load1 (.t 16)⟩,
 ⟨some 18, none, .fld (.t 1) 0⟩,
 ⟨some 19, none, .ixa (.t 18) (.t 17) 8 1⟩,
 ⟨some 20, none, .load1 (.t 19)⟩,
 ⟨some 5, none, .mov (.t 20)⟩])
 (.seq (.reg false [⟨some 21, none, .fld (.t 1) 8⟩,
 ⟨some 22, none, .load1 (.t 21)⟩,
 ⟨some 23, none, .fld (.t 1) 0⟩,
 ⟨some 24, none, .ixa (.t 23) (.t 22) 8 1⟩,
 ⟨none, none, .store (.t 24) (.k (.c (.int .i64 0))) 1⟩])
 (.seq (.reg false [⟨some 25, none, .fld (.t 1) 8⟩,
 ⟨some 26, none, .load1 (.t 25)⟩,
 ⟨some 27, none, .bin .add (.t 26) (.k (.c (.int .i64 1)))⟩,
 ⟨some 28, none, .bin .rem (.t 27) (.k (.c (.int .i64 8)))⟩,
 ⟨some 29, none, .fld (.t 1) 8⟩,
 ⟨none, none, .store (.t 29) (.t 28) 1⟩])
 (.seq (.reg false [⟨some 30, none, .fld (.t 1) 9⟩,
 ⟨some 31, none, .load1 (.t 30)⟩,
 ⟨some 32, none, .bin .sub (.t 31) (.k (.c (.int .i64 1)))⟩,
 ⟨some 33, none, .fld (.t 1) 9⟩,
 ⟨none, none, .store (.t 33) (.t 32) 1⟩])
 (.seq (.reg false [⟨some 34, none, .loadN (.t 1) 10⟩,
 ⟨some 35, none, .mov (.t 5)⟩,
 ⟨none, none, .store (.t 2) (.t 34) 10⟩,
 ⟨some 3, none, .mov (.t 35)⟩,
 ⟨some 4, none, .mov (.k (.c (.int .i64 0)))⟩])
 (.ret (some [2, 3, 4])))))))))⟩
theorem c_spec_RingTake_ok : trF Try.prog ⟨[], [2, 3, 4], false, false⟩ Try.f116 = some c_spec_RingTake := by kernel_rfl
def c_spec_RingPut : IFn := ⟨35, [.cell 4 10 true, .t 5],
  (.seq (.reg false [⟨some 2, none, .box (.t 0) 26⟩,
 ⟨some 4, none, .alloc [.int .i64 0, .int .i64 0, .int .i64 0, .int .i64 0, .int .i64 0, .int .i64 0, .int .i64 0, .int .i64 0, .int .i64 0, .int .i64 0] 26⟩,
 ⟨some 5, none, .mov (.k (.c (.int .i64 0)))⟩])
 (.seq (.block 0 none none
 (.seq (.reg false [⟨some 7, none, .loadN (.t 2) 10⟩,
 ⟨some 8, none, .call 83 [.t 7]⟩,
 ⟨some 9, none, .un .not (.t 8)⟩,
 ⟨some 10, none, .mov (.t 9)⟩,
 ⟨some 11, some (10, false), .mov (.t 1)⟩,
 ⟨some 12, some (10, false), .call 66 [.t 11]⟩,
 ⟨some 13, some (10, false), .un .not (.t 12)⟩,
 ⟨some 14, none, .pick (.t 10) (.k (.c (.bool true))) (.t 13)⟩,
 ⟨some 6, none, .mov (.t 14)⟩])
 (.cond (.t 6) (.seq (.reg false [⟨some 15, none, .loadN (.t 2) 10⟩,
 ⟨none, none, .store (.t 4) (.t 15) 10⟩,
 ⟨some 5, none, .mov (.k (.c (.int .i64 1)))⟩])
 (.ret (some [4, 5]))) (.seq (.reg false [⟨some 17, none, .fld (.t 2) 9⟩,
 ⟨some 18, none, .load1 (.t 17)⟩,
 ⟨some 19, none, .bin .eql (.t 18) (.k (.c (.int .i64 8)))⟩,
 ⟨some 16, none, .mov (.t 19)⟩])
 (.cond (.t 16) (.seq (.reg false [⟨some 20, none, .loadN (.t 2) 10⟩,
 ⟨none, none, .store (.t 4) (.t 20) 10⟩,
 ⟨some 5, none, .mov (.k (.c (.int .i64 2)))⟩])
 (.ret (some [4, 5]))) .skip)))))
 (.seq (.reg false [⟨some 21, none, .fld (.t 2) 8⟩,
 ⟨some 22, none, .load1 (.t 21)⟩,
 ⟨some 23, none, .fld (.t 2) 9⟩,
 ⟨some 24, none, .load1 (.t 23)⟩,
 ⟨some 25, none, .bin .add (.t 22) (.t 24)⟩,
 ⟨some 26, none, .bin .rem (.t 25) (.k (.c (.int .i64 8)))⟩,
 ⟨some 27, none, .mov (.t 1)⟩,
 ⟨some 28, none, .fld (.t 2) 0⟩,
 ⟨some 29, none, .ixa (.t 28) (.t 26) 8 1⟩,
 ⟨none, none, .store (.t 29) (.t 27) 1⟩])
 (.seq (.reg false [⟨some 30, none, .fld (.t 2) 9⟩,
 ⟨some 31, none, .load1 (.t 30)⟩,
 ⟨some 32, none, .bin .add (.t 31) (.k (.c (.int .i64 1)))⟩,
 ⟨some 33, none, .fld (.t 2) 9⟩,
 ⟨none, none, .store (.t 33) (.t 32) 1⟩])
 (.seq (.reg false [⟨some 34, none, .loadN (.t 2) 10⟩,
 ⟨none, none, .store (.t 4) (.t 34) 10⟩,
 ⟨some 5, none, .mov (.k (.c (.int .i64 0)))⟩])
 (.ret (some [4, 5])))))))⟩
theorem c_spec_RingPut_ok : trF Try.prog ⟨[], [4, 5], false, false⟩ Try.f117 = some c_spec_RingPut := by kernel_rfl
def c_slices_ContainsFunc_int_int : IFn := ⟨9, [.t 4],
  (.seq (.reg false [⟨some 4, none, .mov (.k (.c (.bool false)))⟩])
 (.seq (.reg false [⟨some 5, none, .mov (.t 0)⟩,
 ⟨some 6, none, .mov (.t 1)⟩,
 ⟨some 7, none, .call 144 [.t 5, .t 6]⟩,
 ⟨some 8, none, .bin .geq (.t 7) (.k (.c (.int .i64 0)))⟩,
 ⟨some 4, none, .mov (.t 8)⟩])
 (.ret (some [4]))))⟩
theorem c_slices_ContainsFunc_int_int_ok : trF Try.prog ⟨[], [4], false, false⟩ Try.f118 = some c_slices_ContainsFunc_int_int := by kernel_rfl
def c_impl_areValues_1 : IFn := ⟨6, [.t 2],
  (.seq (.reg false [⟨some 2, none, .mov (.k (.c (.bool false)))⟩])
 (.seq (.reg false [⟨some 3, none, .mov (.t 0)⟩,
 ⟨some 4, none, .call 62 [.t 3]⟩,
 ⟨some 5, none, .un .not (.t 4)⟩,
 ⟨some 2, none, .mov (.t 5)⟩])
 (.ret (some [2]))))⟩
theorem c_impl_areValues_1_ok : trF Try.prog ⟨[], [2], false, false⟩ Try.f119 = some c_impl_areValues_1 := by kernel_rfl
def c_spec_l15Keys : IFn := ⟨65, [.t 6, .t 7],
  (.seq (.reg false [⟨some 3, none, .box (.t 0) 47⟩,
 ⟨some 6, none, .mov (.k (.c .nils))⟩,
 ⟨some 7, none, .mov (.k (.c (.bool false)))⟩])
 (.seq (.seq (.reg false [⟨some 10, none, .mov (.t 1)⟩,
 ⟨some 11, none, .bin .eql (.t 10) (.k (.c (.int .i64 (-1))))⟩])
 (.cond (.t 11) (.seq (.reg false [⟨some 12, none, .mov (.t 2)⟩,
 ⟨some 6, none, .mov (.t 12)⟩,
 ⟨some 7, none, .mov (.k (.c (.bool true)))⟩])
 (.ret (some [6, 7]))) .skip))
 (.seq (.seq (.reg false [⟨some 13, none, .mov (.t 1)⟩,
 ⟨some 14, none, .call 121 [.t 13, .k (.c (.int .i64 0)), .k (.c (.int .i64 15))]⟩,
 ⟨some 15, none, .un .not (.t 14)⟩,
 ⟨some 16, none, .mov (.t 15)⟩,
 ⟨some 17, some (16, false), .mov (.t 1)⟩,
 ⟨some 18, some (16, false), .fld (.t 3) 0⟩,
 ⟨some 19, some (16, false), .ixa (.t 18) (.t 17) 16 4⟩,
 ⟨some 20, some (16, false), .fld (.t 19) 0⟩,
 ⟨some 21, some (16, false), .load1 (.t 20)⟩,
 ⟨some 22, some (16, false), .un .not (.t 21)⟩,
 ⟨some 23, none, .pick (.t 16) (.k (.c (.bool true))) (.t 22)⟩,
 ⟨some 24, none, .mov (.t 23)⟩,
 ⟨some 25, some (24, false), .mov (.t 2)⟩,
 ⟨some 26, some (24, false), .len (.t 25)⟩,
 ⟨some 27, some (24, false), .bin .geq (.t 26) (.k (.c (.int .i64 16)))⟩,
 ⟨some 28, none, .pick (.t 24) (.k (.c (.bool true))) (.t 27)⟩])
 (.cond (.t 28) (.seq (.reg false [⟨some 29, none, .mov (.t 2)⟩,
 ⟨some 6, none, .mov (.t 29)⟩,
 ⟨some 7, none, .mov (.k (.c (.bool false)))⟩])
 (.ret (some [6, 7]))) .skip))
 (.seq (.reg false [⟨some 30, none, .mov (.t 1)⟩,
 ⟨some 31, none, .fld (.t 3) 0⟩,
 ⟨some 32, none, .ixa (.t 31) (.t 30) 16 4⟩,
 ⟨some 33, none, .loadN (.t 32) 4⟩,
 ⟨some 8, none, .alloc [.bool false, .int .i64 0, .int .i64 0, .int .i64 0] 44⟩,
 ⟨none, none, .store (.t 8) (.t 33) 4⟩])
 (.seq (.reg false [⟨some 34, none, .mov (.t 1)⟩,
 ⟨some 35, none, .bld [.bool false, .int .i64 0, .int .i64 0, .int .i64 0] []⟩,
 ⟨some 36, none, .fld (.t 3) 0⟩,
 ⟨some 37, none, .ixa (.t 36) (.t 34) 16 4⟩,
 ⟨none, none, .store (.t 37) (.t 35) 4⟩])
 (.seq (.reg false [⟨some 39, none, .loadN (.t 3) 65⟩,
 ⟨some 40, none, .fld (.t 8) 2⟩,
 ⟨some 41, none, .load1 (.t 40)⟩,
 ⟨some 42, none, .mov (.t 2)⟩,
 ⟨some 43, none, .call 120 [.t 39, .t 41, .t 42]⟩,
 ⟨some 38, none, .mov (.t 43)⟩,
 ⟨some 44, none, .ext (.t 38) 0⟩,
 ⟨some 45, none, .ext (.t 38) 1⟩,
 ⟨some 2, none, .mov (.t 44)⟩,
 ⟨some 9, none, .mov (.t 45)⟩])
 (.seq (.seq (.reg false [⟨some 46, none, .mov (.t 9)⟩,
 ⟨some 47, none, .un .not (.t 46)⟩,
 ⟨some 48, none, .mov (.t 47)⟩,
 ⟨some 49, some (48, false), .mov (.t 2)⟩,
 ⟨some 50, some (48, false), .len (.t 49)⟩,
 ⟨some 51, some (48, false), .bin .geq (.t 50) (.k (.c (.int .i64 16)))⟩,
 ⟨some 52, none, .pick (.t 48) (.k (.c (.bool true))) (.t 51)⟩])
 (.cond (.t 52) (.seq (.reg false [⟨some 53, none, .mov (.t 2)⟩,
 ⟨some 6, none, .mov (.t 53)⟩,
 ⟨some 7, none, .mov (.k (.c (.bool false)))⟩])
 (.ret (some [6, 7]))) .skip))
 (.seq (.reg false [⟨some 54, none, .mov (.t 2)⟩,
 ⟨some 55, none, .mov (.t 1)⟩,
 ⟨some 56, none, .lit 1 1 [.int .i64 0] [(0, .t 55)] 3⟩,
 ⟨some 57, none, .app (.t 54) (.t 56) 3 1 8⟩,
 ⟨some 2, none, .mov (.t 57)⟩])
 (.seq (.reg false [⟨some 58, none, .loadN (.t 3) 65⟩,
 ⟨some 59, none, .fld (.t 8) 3⟩,
 ⟨some 60, none, .load1 (.t 59)⟩,
 ⟨some 61, none, .mov (.t 2)⟩,
 ⟨some 62, none, .call 120 [.t 58, .t 60, .t 61]⟩,
 ⟨some 63, none, .ext (.t 62) 0⟩,
 ⟨some 64, none, .ext (.t 62) 1⟩,
 ⟨some 6, none, .mov (.t 63)⟩,
 ⟨some 7, none, .mov (.t 64)⟩])
 (.ret (some [6, 7])))))))))))⟩
theorem c_spec_l15Keys_ok : trF Try.prog ⟨[], [6, 7], false, false⟩ Try.f120 = some c_spec_l15Keys := by kernel_rfl
def c_spec_l1In : IFn := ⟨15, [.t 6],
  (.seq (.reg false [⟨some 6, none, .mov (.k (.c (.bool false)))⟩])
 (.seq (.reg false [⟨some 7, none, .mov (.t 0)⟩,
 ⟨some 8, none, .mov (.t 1)⟩,
 ⟨some 9, none, .bin .geq (.t 7) (.t 8)⟩,
 ⟨some 10, none, .mov (.t 9)⟩,
 ⟨some 11, some (10, true), .mov (.t 0)⟩,
 ⟨some 12, some (10, true), .mov (.t 2)⟩,
 ⟨some 13, some (10, true), .bin .leq (.t 11) (.t 12)⟩,
 ⟨some 14, none, .pick (.t 10) (.t 13) (.k (.c (.bool false)))⟩,
 ⟨some 6, none, .mov (.t 14)⟩])
 (.ret (some [6]))))⟩
theorem c_spec_l1In_ok : trF Try.prog ⟨[], [6], false, false⟩ Try.f121 = some c_spec_l1In := by kernel_rfl
def c_laws_toTwig : IFn := ⟨17, [.cell 2 4 true],
  (.seq (.reg false [⟨some 1, none, .box (.t 0) 40⟩,
 ⟨some 2, none, .alloc [.bool false, .int .i64 0, .int .i64 0, .int .i64 0] 44⟩])
 (.seq (.reg false [⟨some 3, none, .alloc [.bool false, .int .i64 0, .int .i64 0, .int .i64 0] 44⟩])
 (.seq (.reg false [⟨some 4, none, .fld (.t 1) 0⟩,
 ⟨some 5, none, .load1 (.t 4)⟩,
 ⟨some 6, none, .fld (.t 3) 0⟩,
 ⟨none, none, .store (.t 6) (.t 5) 1⟩])
 (.seq (.reg false [⟨some 7, none, .fld (.t 1) 1⟩,
 ⟨some 8, none, .load1 (.t 7)⟩,
 ⟨some 9, none, .fld (.t 3) 1⟩,
 ⟨none, none, .store (.t 9) (.t 8) 1⟩])
 (.seq (.reg false [⟨some 10, none, .fld (.t 1) 2⟩,
 ⟨some 11, none, .load1 (.t 10)⟩,
 ⟨some 12, none, .fld (.t 3) 2⟩,
 ⟨none, none, .store (.t 12) (.t 11) 1⟩])
 (.seq (.reg false [⟨some 13, none, .fld (.t 1) 3⟩,
 ⟨some 14, none, .load1 (.t 13)⟩,
 ⟨some 15, none, .fld (.t 3) 3⟩,
 ⟨none, none, .store (.t 15) (.t 14) 1⟩])
 (.seq (.reg false [⟨some 16, none, .loadN (.t 3) 4⟩,
 ⟨none, none, .store (.t 2) (.t 16) 4⟩])
 (.ret (some [2])))))))))⟩
theorem c_laws_toTwig_ok : trF Try.prog ⟨[], [2], false, false⟩ Try.f122 = some c_laws_toTwig := by kernel_rfl
def c_laws_eqTwig : IFn := ⟨25, [.t 4],
  (.seq (.reg false [⟨some 2, none, .box (.t 0) 44⟩,
 ⟨some 3, none, .box (.t 1) 44⟩,
 ⟨some 4, none, .mov (.k (.c (.bool false)))⟩])
 (.seq (.seq (.reg false [⟨some 5, none, .fld (.t 2) 0⟩,
 ⟨some 6, none, .load1 (.t 5)⟩,
 ⟨some 7, none, .fld (.t 3) 0⟩,
 ⟨some 8, none, .load1 (.t 7)⟩,
 ⟨some 9, none, .binb true (.t 6) (.t 8)⟩])
 (.cond (.t 9) (.seq (.reg false [⟨some 4, none, .mov (.k (.c (.bool false)))⟩])
 (.ret (some [4]))) .skip))
 (.seq (.seq (.reg false [⟨some 10, none, .fld (.t 2) 1⟩,
 ⟨some 11, none, .load1 (.t 10)⟩,
 ⟨some 12, none, .fld (.t 3) 1⟩,
 ⟨some 13, none, .load1 (.t 12)⟩,
 ⟨some 14, none, .bin .neq (.t 11) (.t 13)⟩])
 (.cond (.t 14) (.seq (.reg false [⟨some 4, none, .mov (.k (.c (.bool false)))⟩])
 (.ret (some [4]))) .skip))
 (.seq (.seq (.reg false [⟨some 15, none, .fld (.t 2) 2⟩,
 ⟨some 16, none, .load1 (.t 15)⟩,
 ⟨some 17, none, .fld (.t 3) 2⟩,
 ⟨some 18, none, .load1 (.t 17)⟩,
 ⟨some 19, none, .bin .neq (.t 16) (.t 18)⟩])
 (.cond (.t 19) (.seq (.reg false [⟨some 4, none, .mov (.k (.c (.bool false)))⟩])
 (.ret (some [4]))) .skip))
 (.seq (.seq (.reg false [⟨some 20, none, .fld (.t 2) 3⟩,
 ⟨some 21, none, .load1 (.t 20)⟩,
 ⟨some 22, none, .fld (.t 3) 3⟩,
 ⟨some 23, none, .load1 (.t 22)⟩,
 ⟨some 24, none, .bin .neq (.t 21) (.t 23)⟩])
 (.cond (.t 24) (.seq (.reg false [⟨some 4, none, .mov (.k (.c (.bool false)))⟩])
 (.ret (some [4]))) .skip))
 (.seq (.reg false [⟨some 4, none, .mov (.k (.c (.bool true)))⟩])
 (.ret (some [4]))))))))⟩
theorem c_laws_eqTwig_ok : trF Try.prog ⟨[], [4], false, false⟩ Try.f123 = some c_laws_eqTwig := by kernel_rfl
def c_spec_NewChain : IFn := ⟨2, [.cell 0 65 true],
  (.seq (.reg false [⟨some 0, none, .alloc [.bool false, .int .i64 0, .int .i64 0, .int .i64 0, .bool false, .int .i64 0, .int .i64 0, .int .i64 0, .bool false, .int .i64 0, .int .i64 0, .int .i64 0, .bool false, .int .i64 0, .int .i64 0, .int .i64 0, .bool false, .int .i64 0, .int .i64 0, .int .i64 0, .bool false, .int .i64 0, .int .i64 0, .int .i64 0, .bool false, .int .i64 0, .int .i64 0, .int .i64 0, .bool false, .int .i64 0, .int .i64 0, .int .i64 0, .bool false, .int .i64 0, .int .i64 0, .int .i64 0, .bool false, .int .i64 0, .int .i64 0, .int .i64 0, .bool false, .int .i64 0, .int .i64 0, .int .i64 0, .bool false, .int .i64 0, .int .i64 0, .int .i64 0, .bool false, .int .i64 0, .int .i64 0, .int .i64 0, .bool false, .int .i64 0, .int .i64 0, .int .i64 0, .bool false, .int .i64 0, .int .i64 0, .int .i64 0, .bool false, .int .i64 0, .int .i64 0, .int .i64 0, .int .i64 0] 57⟩])
 (.seq (.reg false [⟨some 1, none, .bld [.bool false, .int .i64 0, .int .i64 0, .int .i64 0, .bool false, .int .i64 0, .int .i64 0, .int .i64 0, .bool false, .int .i64 0, .int .i64 0, .int .i64 0, .bool false, .int .i64 0, .int .i64 0, .int .i64 0, .bool false, .int .i64 0, .int .i64 0, .int .i64 0, .bool false, .int .i64 0, .int .i64 0, .int .i64 0, .bool false, .int .i64 0, .int .i64 0, .int .i64 0, .bool false, .int .i64 0, .int .i64 0, .int .i64 0, .bool false, .int .i64 0, .int .i64 0, .int .i64 0, .bool false, .int .i64 0, .int .i64 0, .int .i64 0, .bool false, .int .i64 0, .int .i64 0, .int .i64 0, .bool false, .int .i64 0, .int .i64 0, .int .i64 0, .bool false, .int .i64 0, .int .i64 0, .int .i64 0, .bool false, .int .i64 0, .int .i64 0, .int .i64 0, .bool false, .int .i64 0, .int .i64 0, .int .i64 0, .bool false, .int .i64 0, .int .i64 0, .int .i64 0, .int .i64 0] [(64, (1, .k (.c (.int .i64 (-1)))))]⟩,
 ⟨none, none, .store (.t 0) (.t 1) 65⟩])
 (.ret (some [0]))))⟩
theorem c_spec_NewChain_ok : trF Try.prog ⟨[], [0], false, false⟩ Try.f124 = some c_spec_NewChain := by kernel_rfl
def c_spec_MapDrop : IFn := ⟨68, [.cell 4 65 true, .t 5, .t 6],
  (.seq (.reg false [⟨some 2, none, .box (.t 0) 57⟩,
 ⟨some 4, none, .alloc [.bool false, .int .i64 0, .int .i64 0, .int .i64 0, .bool false, .int .i64 0, .int .i64 0, .int .i64 0, .bool false, .int .i64 0, .int .i64 0, .int .i64 0, .bool false, .int .i64 0, .int .i64 0, .int .i64 0, .bool false, .int .i64 0, .int .i64 0, .int .i64 0, .bool false, .int .i64 0, .int .i64 0, .int .i64 0, .bool false, .int .i64 0, .int .i64 0, .int .i64 0, .bool false, .int .i64 0, .int .i64 0, .int .i64 0, .bool false, .int .i64 0, .int .i64 0, .int .i64 0, .bool false, .int .i64 0, .int .i64 0, .int .i64 0, .bool false, .int .i64 0, .int .i64 0, .int .i64 0, .bool false, .int .i64 0, .int .i64 0, .int .i64 0, .bool false, .int .i64 0, .int .i64 0, .int .i64 0, .bool false, .int .i64 0, .int .i64 0, .int .i64 0, .bool false, .int .i64 0, .int .i64 0, .int .i64 0, .bool false, .int .i64 0, .int .i64 0, .int .i64 0, .int .i64 0] 57⟩,
 ⟨some 5, none, .mov (.k (.c (.int .i64 0)))⟩,
 ⟨some 6, none, .mov (.k (.c (.int .i64 0)))⟩])
 (.seq (.seq (.reg false [⟨some 11, none, .loadN (.t 2) 65⟩,
 ⟨some 12, none, .call 82 [.t 11]⟩,
 ⟨some 13, none, .un .not (.t 12)⟩,
 ⟨some 14, none, .mov (.t 13)⟩,
 ⟨some 15, some (14, false), .mov (.t 1)⟩,
 ⟨some 16, some (14, false), .call 66 [.t 15]⟩,
 ⟨some 17, some (14, false), .un .not (.t 16)⟩,
 ⟨some 18, none, .pick (.t 14) (.k (.c (.bool true))) (.t 17)⟩])
 (.cond (.t 18) (.seq (.reg false [⟨some 19, none, .loadN (.t 2) 65⟩,
 ⟨none, none, .store (.t 4) (.t 19) 65⟩,
 ⟨some 5, none, .mov (.k (.c (.int .i64 0)))⟩,
 ⟨some 6, none, .mov (.k (.c (.int .i64 1)))⟩])
 (.ret (some [4, 5, 6]))) .skip))
 (.seq (.reg false [⟨some 21, none, .loadN (.t 2) 65⟩,
 ⟨some 22, none, .mov (.t 1)⟩,
 ⟨some 23, none, .call 160 [.t 21, .t 22]⟩,
 ⟨some 20, none, .mov (.t 23)⟩,
 ⟨some 24, none, .ext (.t 20) 0⟩,
 ⟨some 25, none, .ext (.t 20) 1⟩,
 ⟨some 26, none, .ext (.t 20) 2⟩,
 ⟨some 27, none, .ext (.t 20) 3⟩,
 ⟨some 7, none, .mov (.t 24)⟩,
 ⟨some 8, none, .mov (.t 25)⟩,
 ⟨some 9, none, .mov (.t 26)⟩,
 ⟨some 10, none, .mov (.t 27)⟩])
 (.seq (.seq (.reg false [⟨some 28, none, .mov (.t 10)⟩,
 ⟨some 29, none, .un .not (.t 28)⟩])
 (.cond (.t 29) (.seq (.reg false [⟨some 30, none, .loadN (.t 2) 65⟩,
 ⟨some 31, none, .mov (.t 9)⟩,
 ⟨none, none, .store (.t 4) (.t 30) 65⟩,
 ⟨some 5, none, .mov (.t 31)⟩,
 ⟨some 6, none, .mov (.k (.c (.int .i64 2)))⟩])
 (.ret (some [4, 5, 6]))) .skip))
 (.seq (.seq (.reg false [⟨some 32, none, .mov (.t 7)⟩,
 ⟨some 33, none, .bin .lss (.t 32) (.k (.c (.int .i64 0)))⟩,
 ⟨some 34, none, .mov (.t 33)⟩,
 ⟨some 35, some (34, false), .mov (.t 7)⟩,
 ⟨some 36, some (34, false), .fld (.t 2) 0⟩,
 ⟨some 37, some (34, false), .ixa (.t 36) (.t 35) 16 4⟩,
 ⟨some 38, some (34, false), .fld (.t 37) 1⟩,
 ⟨some 39, some (34, false), .load1 (.t 38)⟩,
 ⟨some 40, some (34, false), .mov (.t 1)⟩,
 ⟨some 41, some (34, false), .bin .neq (.t 39) (.t 40)⟩,
 ⟨some 42, none, .pick (.t 34) (.k (.c (.bool true))) (.t 41)⟩])
 (.cond (.t 42) (.seq (.reg false [⟨some 43, none, .loadN (.t 2) 65⟩,
 ⟨some 44, none, .mov (.t 9)⟩,
 ⟨none, none, .store (.t 4) (.t 43) 65⟩,
 ⟨some 5, none, .mov (.t 44)⟩,
 ⟨some 6, none, .mov (.k (.c (.int .i64 4)))⟩])
 (.ret (some [4, 5, 6]))) .skip))
 (.seq (.seq (.reg false [⟨some 45, none, .mov (.t 8)⟩,
 ⟨some 46, none, .bin .lss (.t 45) (.k (.c (.int .i64 0)))⟩])
 (.cond (.t 46) (.reg false [⟨some 47, none, .mov (.t 7)⟩,
 ⟨some 48, none, .fld (.t 2) 0⟩,
 ⟨some 49, none, .ixa (.t 48) (.t 47) 16 4⟩,
 ⟨some 50, none, .fld (.t 49) 3⟩,
 ⟨some 51, none, .load1 (.t 50)⟩,
 ⟨some 52, none, .fld (.t 2) 64⟩,
 ⟨none, none, .store (.t 52) (.t 51) 1⟩]) (.reg false [⟨some 53, none, .mov (.t 8)⟩,
 ⟨some 54, none, .mov (.t 7)⟩,
 ⟨some 55, none, .fld (.t 2) 0⟩,
 ⟨some 56, none, .ixa (.t 55) (.t 54) 16 4⟩,
 ⟨some 57, none, .fld (.t 56) 3⟩,
 ⟨some 58, none, .load1 (.t 57)⟩,
 ⟨some 59, none, .fld (.t 2) 0⟩,
 ⟨some 60, none, .ixa (.t 59) (.t 53) 16 4⟩,
 ⟨some 61, none, .fld (.t 60) 3⟩,
 ⟨none, none, .store (.t 61) (.t 58) 1⟩])))
 (.seq (.reg false [⟨some 62, none, .mov (.t 7)⟩,
 ⟨some 63, none, .bld [.bool false, .int .i64 0, .int .i64 0, .int .i64 0] []⟩,
 ⟨some 64, none, .fld (.t 2) 0⟩,
 ⟨some 65, none, .ixa (.t 64) (.t 62) 16 4⟩,
 ⟨none, none, .store (.t 65) (.t 63) 4⟩])
 (.seq (.reg false [⟨some 66, none, .loadN (.t 2) 65⟩,
 ⟨some 67, none, .mov (.t 9)⟩,
 ⟨none, none, .store (.t 4) (.t 66) 65⟩,
 ⟨some 5, none, .mov (.t 67)⟩,
 ⟨some 6, none, .mov (.k (.c (.int .i64 0)))⟩])
 (.ret (some [4, 5, 6]))))))))))⟩
theorem c_spec_MapDrop_ok : trF Try.prog ⟨[], [4, 5, 6], false, false⟩ Try.f125 = some c_spec_MapDrop := by kernel_rfl
def c_spec_MapPut_b0 : IC :=
  (.seq (.seq (.reg false [⟨some 58, none, .mov (.t 13)⟩,
 ⟨some 59, none, .bin .lss (.t 58) (.k (.c (.int .i64 16)))⟩,
 ⟨some 60, none, .mov (.t 59)⟩,
 ⟨some 61, some (60, true), .mov (.t 13)⟩,
 ⟨some 62, some (60, true), .fld (.t 3) 0⟩,
 ⟨some 63, some (60, true), .ixa (.t 62) (.t 61) 16 4⟩,
 ⟨some 64, some (60, true), .fld (.t 63) 0⟩,
 ⟨some 65, some (60, true), .load1 (.t 64)⟩,
 ⟨some 66, none, .pick (.t 60) (.t 65) (.k (.c (.bool false)))⟩])
 (.cond (.t 66) .skip (.exit 0)))
 (.block 1 none none
 (.reg false [⟨some 67, none, .mov (.t 13)⟩,
 ⟨some 68, none, .bin .add (.t 67) (.k (.c (.int .i64 1)))⟩,
 ⟨some 13, none, .mov (.t 68)⟩])))
def c_spec_MapPut : IFn := ⟨91, [.cell 6 65 true, .t 7, .t 8],
  (.seq (.reg false [⟨some 3, none, .box (.t 0) 57⟩,
 ⟨some 6, none, .alloc [.bool false, .int .i64 0, .int .i64 0, .int .i64 0, .bool false, .int .i64 0, .int .i64 0, .int .i64 0, .bool false, .int .i64 0, .int .i64 0, .int .i64 0, .bool false, .int .i64 0, .int .i64 0, .int .i64 0, .bool false, .int .i64 0, .int .i64 0, .int .i64 0, .bool false, .int .i64 0, .int .i64 0, .int .i64 0, .bool false, .int .i64 0, .int .i64 0, .int .i64 0, .bool false, .int .i64 0, .int .i64 0, .int .i64 0, .bool false, .int .i64 0, .int .i64 0, .int .i64 0, .bool false, .int .i64 0, .int .i64 0, .int .i64 0, .bool false, .int .i64 0, .int .i64 0, .int .i64 0, .bool false, .int .i64 0, .int .i64 0, .int .i64 0, .bool false, .int .i64 0, .int .i64 0, .int .i64 0, .bool false, .int .i64 0, .int .i64 0, .int .i64 0, .bool false, .int .i64 0, .int .i64 0, .int .i64 0, .bool false, .int .i64 0, .int .i64 0, .int .i64 0, .int .i64 0] 57⟩,
 ⟨some 7, none, .mov (.k (.c (.int .i64 0)))⟩,
 ⟨some 8, none, .mov (.k (.c (.int .i64 0)))⟩])
 (.seq (.seq (.reg false [⟨some 14, none, .loadN (.t 3) 65⟩,
 ⟨some 15, none, .call 82 [.t 14]⟩,
 ⟨some 16, none, .un .not (.t 15)⟩,
 ⟨some 17, none, .mov (.t 16)⟩,
 ⟨some 18, some (17, false), .mov (.t 1)⟩,
 ⟨some 19, some (17, false), .call 66 [.t 18]⟩,
 ⟨some 20, some (17, false), .un .not (.t 19)⟩,
 ⟨some 21, none, .pick (.t 17) (.k (.c (.bool true))) (.t 20)⟩,
 ⟨some 22, none, .mov (.t 21)⟩,
 ⟨some 23, some (22, false), .mov (.t 2)⟩,
 ⟨some 24, some (22, false), .call 66 [.t 23]⟩,
 ⟨some 25, some (22, false), .un .not (.t 24)⟩,
 ⟨some 26, none, .pick (.t 22) (.k (.c (.bool true))) (.t 25)⟩])
 (.cond (.t 26) (.seq (.reg false [⟨some 27, none, .loadN (.t 3) 65⟩,
 ⟨none, none, .store (.t 6) (.t 27) 65⟩,
 ⟨some 7, none, .mov (.k (.c (.int .i64 0)))⟩,
 ⟨some 8, none, .mov (.k (.c (.int .i64 1)))⟩])
 (.ret (some [6, 7, 8]))) .skip))
 (.seq (.reg false [⟨some 29, none, .loadN (.t 3) 65⟩,
 ⟨some 30, none, .mov (.t 1)⟩,
 ⟨some 31, none, .call 160 [.t 29, .t 30]⟩,
 ⟨some 28, none, .mov (.t 31)⟩,
 ⟨some 32, none, .ext (.t 28) 0⟩,
 ⟨some 33, none, .ext (.t 28) 1⟩,
 ⟨some 34, none, .ext (.t 28) 2⟩,
 ⟨some 35, none, .ext (.t 28) 3⟩,
 ⟨some 9, none, .mov (.t 32)⟩,
 ⟨some 10, none, .mov (.t 33)⟩,
 ⟨some 11, none, .mov (.t 34)⟩,
 ⟨some 12, none, .mov (.t 35)⟩])
 (.seq (.seq (.reg false [⟨some 36, none, .mov (.t 12)⟩,
 ⟨some 37, none, .un .not (.t 36)⟩])
 (.cond (.t 37) (.seq (.reg false [⟨some 38, none, .loadN (.t 3) 65⟩,
 ⟨some 39, none, .mov (.t 11)⟩,
 ⟨none, none, .store (.t 6) (.t 38) 65⟩,
 ⟨some 7, none, .mov (.t 39)⟩,
 ⟨some 8, none, .mov (.k (.c (.int .i64 2)))⟩])
 (.ret (some [6, 7, 8]))) .skip))
 (.seq (.seq (.reg false [⟨some 40, none, .mov (.t 9)⟩,
 ⟨some 41, none, .bin .geq (.t 40) (.k (.c (.int .i64 0)))⟩,
 ⟨some 42, none, .mov (.t 41)⟩,
 ⟨some 43, some (42, true), .mov (.t 9)⟩,
 ⟨some 44, some (42, true), .fld (.t 3) 0⟩,
 ⟨some 45, some (42, true), .ixa (.t 44) (.t 43) 16 4⟩,
 ⟨some 46, some (42, true), .fld (.t 45) 1⟩,
 ⟨some 47, some (42, true), .load1 (.t 46)⟩,
 ⟨some 48, some (42, true), .mov (.t 1)⟩,
 ⟨some 49, some (42, true), .bin .eql (.t 47) (.t 48)⟩,
 ⟨some 50, none, .pick (.t 42) (.t 49) (.k (.c (.bool false)))⟩])
 (.cond (.t 50) (.seq (.reg false [⟨some 51, none, .mov (.t 9)⟩,
 ⟨some 52, none, .mov (.t 2)⟩,
 ⟨some 53, none, .fld (.t 3) 0⟩,
 ⟨some 54, none, .ixa (.t 53) (.t 51) 16 4⟩,
 ⟨some 55, none, .fld (.t 54) 2⟩,
 ⟨none, none, .store (.t 55) (.t 52) 1⟩])
 (.seq (.reg false [⟨some 56, none, .loadN (.t 3) 65⟩,
 ⟨some 57, none, .mov (.t 11)⟩,
 ⟨none, none, .store (.t 6) (.t 56) 65⟩,
 ⟨some 7, none, .mov (.t 57)⟩,
 ⟨some 8, none, .mov (.k (.c (.int .i64 0)))⟩])
 (.ret (some [6, 7, 8])))) .skip))
 (.seq (.reg false [⟨some 13, none, .mov (.k (.c (.int .i64 0)))⟩])
 (.seq (.block 0 (some [1, 2, 3, 6, 9, 10, 11, 13]) (some [1, 2, 3, 6, 9, 10, 11, 13])
 (.loop c_spec_MapPut_b0))
 (.seq (.seq (.reg false [⟨some 69, none, .mov (.t 13)⟩,
 ⟨some 70, none, .bin .eql (.t 69) (.k (.c (.int .i64 16)))⟩])
 (.cond (.t 70) (.seq (.reg false [⟨some 71, none, .loadN (.t 3) 65⟩,
 ⟨some 72, none, .mov (.t 11)⟩,
 ⟨none, none, .store (.t 6) (.t 71) 65⟩,
 ⟨some 7, none, .mov (.t 72)⟩,
 ⟨some 8, none, .mov (.k (.c (.int .i64 3)))⟩])
 (.ret (some [6, 7, 8]))) .skip))
 (.seq (.reg false [⟨some 73, none, .mov (.t 13)⟩,
 ⟨some 74, none, .mov (.t 1)⟩,
 ⟨some 75, none, .mov (.t 2)⟩,
 ⟨some 76, none, .mov (.t 9)⟩,
 ⟨some 77, none, .bld [.bool false, .int .i64 0, .int .i64 0, .int .i64 0] [(0, (1, .k (.c (.bool true)))), (1, (1, .t 74)), (2, (1, .t 75)), (3, (1, .t 76))]⟩,
 ⟨some 78, none, .fld (.t 3) 0⟩,
 ⟨some 79, none, .ixa (.t 78) (.t 73) 16 4⟩,
 ⟨none, none, .store (.t 79) (.t 77) 4⟩])
 (.seq (.seq (.reg false [⟨some 80, none, .mov (.t 10)⟩,
 ⟨some 81, none, .bin .lss (.t 80) (.k (.c (.int .i64 0)))⟩])
 (.cond (.t 81) (.reg false [⟨some 82, none, .mov (.t 13)⟩,
 ⟨some 83, none, .fld (.t 3) 64⟩,
 ⟨none, none, .store (.t 83) (.t 82) 1⟩]) (.reg false [⟨some 84, none, .mov (.t 10)⟩,
 ⟨some 85, none, .mov (.t 13)⟩,
 ⟨some 86, none, .fld (.t 3) 0⟩,
 ⟨some 87, none, .ixa (.t 86) (.t 84) 16 4⟩,
 ⟨some 88, none, .fld (.t 87) 3⟩,
 ⟨none, none, .store (.t 88) (.t 85) 1⟩])))
 (.seq (.reg false [⟨some 89, none, .loadN (.t 3) 65⟩,
 ⟨some 90, none, .mov (.t 11)⟩,
 ⟨none, none, .store (.t 6) (.t 89) 65⟩,
 ⟨some 7, none, .mov (.t 90)⟩,
 ⟨some 8, none, .mov (.k (.c (.int .i64 0)))⟩])
 (.ret (some [6, 7, 8])))))))))))))⟩
theorem c_spec_MapPut_ok : trF Try.prog ⟨[(0, [1, 2, 3, 6, 9, 10, 11, 13], [1, 2, 3, 6, 9, 10, 11, 13])], [6, 7, 8], false, false⟩ Try.f126 = some c_spec_MapPut := by kernel_rfl
def c_spec_NewTree : IFn := ⟨2, [.cell 0 65 true],
  (.seq (.reg false [⟨some 0, none, .alloc [.bool false, .int .i64 0, .int .i64 0, .int .i64 0, .bool false, .int .i64 0, .int .i64 0, .int .i64 0, .bool false, .int .i64 0, .int .i64 0, .int .i64 0, .bool false, .int .i64 0, .int .i64 0, .int .i64 0, .bool false, .int .i64 0, .int .i64 0, .int .i64 0, .bool false, .int .i64 0, .int .i64 0, .int .i64 0, .bool false, .int .i64 0, .int .i64 0, .int .i64 0, .bool false, .int .i64 0, .int .i64 0, .int .i64 0, .bool false, .int .i64 0, .int .i64 0, .int .i64 0, .bool false, .int .i64 0, .int .i64 0, .int .i64 0, .bool false, .int .i64 0, .int .i64 0, .int .i64 0, .bool false, .int .i64 0, .int .i64 0, .int .i64 0, .bool false, .int .i64 0, .int .i64 0, .int .i64 0, .bool false, .int .i64 0, .int .i64 0, .int .i64 0, .bool false, .int .i64 0, .int .i64 0, .int .i64 0, .bool false, .int .i64 0, .int .i64 0, .int .i64 0, .int .i64 0] 47⟩])
 (.seq (.reg false [⟨some 1, none, .bld [.bool false, .int .i64 0, .int .i64 0, .int .i64 0, .bool false, .int .i64 0, .int .i64 0, .int .i64 0, .bool false, .int .i64 0, .int .i64 0, .int .i64 0, .bool false, .int .i64 0, .int .i64 0, .int .i64 0, .bool false, .int .i64 0, .int .i64 0, .int .i64 0, .bool false, .int .i64 0, .int .i64 0, .int .i64 0, .bool false, .int .i64 0, .int .i64 0, .int .i64 0, .bool false, .int .i64 0, .int .i64 0, .int .i64 0, .bool false, .int .i64 0, .int .i64 0, .int .i64 0, .bool false, .int .i64 0, .int .i64 0, .int .i64 0, .bool false, .int .i64 0, .int .i64 0, .int .i64 0, .bool false, .int .i64 0, .int .i64 0, .int .i64 0, .bool false, .int .i64 0, .int .i64 0, .int .i64 0, .bool false, .int .i64 0, .int .i64 0, .int .i64 0, .bool false, .int .i64 0, .int .i64 0, .int .i64 0, .bool false, .int .i64 0, .int .i64 0, .int .i64 0, .int .i64 0] [(64, (1, .k (.c (.int .i64 (-1)))))]⟩,
 ⟨none, none, .store (.t 0) (.t 1) 65⟩])
 (.ret (some [0]))))⟩
theorem c_spec_NewTree_ok : trF Try.prog ⟨[], [0], false, false⟩ Try.f127 = some c_spec_NewTree := by kernel_rfl
end Go.Proofs.Ytdnfcomgdgdifaa
