/-
  The functions of the program that the laws here reach, in the small language; each is what the translation gives (checked by the kernel).
-/
import Derived.Test.YtfbeplbcaanimaaGreatMD
import Derived.Test.YtfbeplbcaanimaaGreatProg
import Derived.KernelRfl
set_option linter.unusedVariables false
namespace Go.Proofs.YtfbeplbcaanimaaGreat
def c_laws_FnExactDoDeed : IFn := ⟨107, [.t 4],
  (.seq (.reg false [⟨some 2, none, .box (.t 0) 37⟩,
 ⟨some 3, none, .box (.t 1) 39⟩,
 ⟨some 4, none, .mov (.k (.c (.bool false)))⟩])
 (.seq (.reg false [⟨some 5, none, .mov (.k (.c (.int .i64 1048576)))⟩])
 (.seq (.reg false [⟨some 16, none, .loadN (.t 2) 141⟩,
 ⟨some 17, none, .mov (.t 5)⟩,
 ⟨some 18, none, .call 6 [.t 16, .t 17]⟩,
 ⟨some 5, none, .mov (.t 18)⟩])
 (.seq (.seq (.reg false [⟨some 19, none, .mov (.t 5)⟩,
 ⟨some 20, none, .bin .lss (.t 19) (.k (.c (.int .i64 0)))⟩])
 (.cond (.t 20) (.seq (.reg false [⟨some 4, none, .mov (.k (.c (.bool true)))⟩])
 (.ret (some [4]))) .skip))
 (.seq (.regE 2 [⟨⟨some 22, none, .loadN (.t 2) 141⟩, 0, 0, false, []⟩,
 ⟨⟨some 23, none, .call 8 [.t 22]⟩, 1, 0, false, []⟩,
 ⟨⟨some 24, none, .loadN (.t 3) 3⟩, 2, 0, false, [1]⟩,
 ⟨⟨some 25, none, .call 9 [.t 24]⟩, 3, 0, false, []⟩,
 ⟨⟨some 26, none, .call 7 [.t 23, .t 25]⟩, 4, 0, false, []⟩,
 ⟨⟨some 21, none, .mov (.t 26)⟩, 5, 0, false, []⟩,
 ⟨⟨some 27, none, .ext (.t 21) 0⟩, 6, 0, false, []⟩,
 ⟨⟨some 28, none, .ext (.t 21) 1⟩, 7, 0, false, []⟩,
 ⟨⟨some 6, none, .alloc [.bool false, .int .i64 0, .int .i64 0, .int .i64 0, .bool false, .int .i64 0, .int .i64 0, .int .i64 0, .bool false, .int .i64 0, .int .i64 0, .int .i64 0, .bool false, .int .i64 0, .int .i64 0, .int .i64 0, .bool false, .int .i64 0, .int .i64 0, .int .i64 0, .bool false, .int .i64 0, .int .i64 0, .int .i64 0, .bool false, .int .i64 0, .int .i64 0, .int .i64 0, .bool false, .int .i64 0, .int .i64 0, .int .i64 0, .bool false, .int .i64 0, .int .i64 0, .int .i64 0, .bool false, .int .i64 0, .int .i64 0, .int .i64 0, .bool false, .int .i64 0, .int .i64 0, .int .i64 0, .bool false, .int .i64 0, .int .i64 0, .int .i64 0, .bool false, .int .i64 0, .int .i64 0, .int .i64 0, .bool false, .int .i64 0, .int .i64 0, .int .i64 0, .bool false, .int .i64 0, .int .i64 0, .int .i64 0, .bool false, .int .i64 0, .int .i64 0, .int .i64 0, .int .i64 0, .int .i64 0, .int .i64 0, .int .i64 0, .int .i64 0, .int .i64 0, .int .i64 0, .int .i64 0, .int .i64 0, .int .i64 0, .int .i64 0, .bool false, .int .i64 0, .int .i64 0, .int .i64 0, .bool false, .int .i64 0, .int .i64 0, .int .i64 0, .bool false, .int .i64 0, .int .i64 0, .int .i64 0, .bool false, .int .i64 0, .int .i64 0, .int .i64 0, .bool false, .int .i64 0, .int .i64 0, .int .i64 0, .bool false, .int .i64 0, .int .i64 0, .int .i64 0, .bool false, .int .i64 0, .int .i64 0, .int .i64 0, .bool false, .int .i64 0, .int .i64 0, .int .i64 0, .bool false, .int .i64 0, .int .i64 0, .int .i64 0, .bool false, .int .i64 0, .int .i64 0, .int .i64 0, .bool false, .int .i64 0, .int .i64 0, .int .i64 0, .bool false, .int .i64 0, .int .i64 0, .int .i64 0, .bool false, .int .i64 0, .int .i64 0, .int .i64 0, .bool false, .int .i64 0, .int .i64 0, .int .i64 0, .bool false, .int .i64 0, .int .i64 0, .int .i64 0, .bool false, .int .i64 0, .int .i64 0, .int .i64 0, .int .i64 0, .nils] 51⟩, 8, 0, false, [0, 2]⟩,
 ⟨⟨some 7, none, .alloc [.int .i64 0, .int .i64 0] 53⟩, 9, 1, false, [0, 2, 8]⟩,
 ⟨⟨none, none, .store (.t 6) (.t 27) 141⟩, 10, 2, false, []⟩,
 ⟨⟨none, none, .store (.t 7) (.t 28) 2⟩, 11, 2, false, []⟩])
 (.seq (.reg false [⟨some 29, none, .loadN (.t 2) 141⟩,
 ⟨some 30, none, .call 8 [.t 29]⟩,
 ⟨some 8, none, .alloc [.bool false, .int .i64 0, .int .i64 0, .int .i64 0, .bool false, .int .i64 0, .int .i64 0, .int .i64 0, .bool false, .int .i64 0, .int .i64 0, .int .i64 0, .bool false, .int .i64 0, .int .i64 0, .int .i64 0, .bool false, .int .i64 0, .int .i64 0, .int .i64 0, .bool false, .int .i64 0, .int .i64 0, .int .i64 0, .bool false, .int .i64 0, .int .i64 0, .int .i64 0, .bool false, .int .i64 0, .int .i64 0, .int .i64 0, .bool false, .int .i64 0, .int .i64 0, .int .i64 0, .bool false, .int .i64 0, .int .i64 0, .int .i64 0, .bool false, .int .i64 0, .int .i64 0, .int .i64 0, .bool false, .int .i64 0, .int .i64 0, .int .i64 0, .bool false, .int .i64 0, .int .i64 0, .int .i64 0, .bool false, .int .i64 0, .int .i64 0, .int .i64 0, .bool false, .int .i64 0, .int .i64 0, .int .i64 0, .bool false, .int .i64 0, .int .i64 0, .int .i64 0, .int .i64 0, .int .i64 0, .int .i64 0, .int .i64 0, .int .i64 0, .int .i64 0, .int .i64 0, .int .i64 0, .int .i64 0, .int .i64 0, .int .i64 0, .bool false, .int .i64 0, .int .i64 0, .int .i64 0, .bool false, .int .i64 0, .int .i64 0, .int .i64 0, .bool false, .int .i64 0, .int .i64 0, .int .i64 0, .bool false, .int .i64 0, .int .i64 0, .int .i64 0, .bool false, .int .i64 0, .int .i64 0, .int .i64 0, .bool false, .int .i64 0, .int .i64 0, .int .i64 0, .bool false, .int .i64 0, .int .i64 0, .int .i64 0, .bool false, .int .i64 0, .int .i64 0, .int .i64 0, .bool false, .int .i64 0, .int .i64 0, .int .i64 0, .bool false, .int .i64 0, .int .i64 0, .int .i64 0, .bool false, .int .i64 0, .int .i64 0, .int .i64 0, .bool false, .int .i64 0, .int .i64 0, .int .i64 0, .bool false, .int .i64 0, .int .i64 0, .int .i64 0, .bool false, .int .i64 0, .int .i64 0, .int .i64 0, .bool false, .int .i64 0, .int .i64 0, .int .i64 0, .bool false, .int .i64 0, .int .i64 0, .int .i64 0, .int .i64 0, .nils] 51⟩,
 ⟨none, none, .store (.t 8) (.t 30) 141⟩])
 (.seq (.regE 2 [⟨⟨some 32, none, .loadN (.t 8) 141⟩, 0, 0, false, []⟩,
 ⟨⟨some 33, none, .loadN (.t 3) 3⟩, 1, 0, false, []⟩,
 ⟨⟨some 34, none, .call 9 [.t 33]⟩, 2, 0, false, [0]⟩,
 ⟨⟨some 35, none, .call 10 [.t 32, .t 34]⟩, 3, 0, false, []⟩,
 ⟨⟨some 31, none, .mov (.t 35)⟩, 4, 0, false, []⟩,
 ⟨⟨some 36, none, .ext (.t 31) 0⟩, 5, 0, false, []⟩,
 ⟨⟨some 37, none, .ext (.t 31) 1⟩, 6, 0, false, []⟩,
 ⟨⟨some 9, none, .alloc [.bool false, .int .i64 0, .int .i64 0, .int .i64 0, .bool false, .int .i64 0, .int .i64 0, .int .i64 0, .bool false, .int .i64 0, .int .i64 0, .int .i64 0, .bool false, .int .i64 0, .int .i64 0, .int .i64 0, .bool false, .int .i64 0, .int .i64 0, .int .i64 0, .bool false, .int .i64 0, .int .i64 0, .int .i64 0, .bool false, .int .i64 0, .int .i64 0, .int .i64 0, .bool false, .int .i64 0, .int .i64 0, .int .i64 0, .bool false, .int .i64 0, .int .i64 0, .int .i64 0, .bool false, .int .i64 0, .int .i64 0, .int .i64 0, .bool false, .int .i64 0, .int .i64 0, .int .i64 0, .bool false, .int .i64 0, .int .i64 0, .int .i64 0, .bool false, .int .i64 0, .int .i64 0, .int .i64 0, .bool false, .int .i64 0, .int .i64 0, .int .i64 0, .bool false, .int .i64 0, .int .i64 0, .int .i64 0, .bool false, .int .i64 0, .int .i64 0, .int .i64 0, .int .i64 0, .int .i64 0, .int .i64 0, .int .i64 0, .int .i64 0, .int .i64 0, .int .i64 0, .int .i64 0, .int .i64 0, .int .i64 0, .int .i64 0, .bool false, .int .i64 0, .int .i64 0, .int .i64 0, .bool false, .int .i64 0, .int .i64 0, .int .i64 0, .bool false, .int .i64 0, .int .i64 0, .int .i64 0, .bool false, .int .i64 0, .int .i64 0, .int .i64 0, .bool false, .int .i64 0, .int .i64 0, .int .i64 0, .bool false, .int .i64 0, .int .i64 0, .int .i64 0, .bool false, .int .i64 0, .int .i64 0, .int .i64 0, .bool false, .int .i64 0, .int .i64 0, .int .i64 0, .bool false, .int .i64 0, .int .i64 0, .int .i64 0, .bool false, .int .i64 0, .int .i64 0, .int .i64 0, .bool false, .int .i64 0, .int .i64 0, .int .i64 0, .bool false, .int .i64 0, .int .i64 0, .int .i64 0, .bool false, .int .i64 0, .int .i64 0, .int .i64 0, .bool false, .int .i64 0, .int .i64 0, .int .i64 0, .bool false, .int .i64 0, .int .i64 0, .int .i64 0, .bool false, .int .i64 0, .int .i64 0, .int .i64 0, .int .i64 0, .nils] 51⟩, 7, 0, false, [0, 1]⟩,
 ⟨⟨some 10, none, .alloc [.int .i64 0, .int .i64 0] 53⟩, 8, 1, false, [0, 1, 7]⟩,
 ⟨⟨none, none, .store (.t 9) (.t 36) 141⟩, 9, 2, false, []⟩,
 ⟨⟨none, none, .store (.t 10) (.t 37) 2⟩, 10, 2, false, []⟩])
 (.seq (.seq (.reg false [⟨some 38, none, .loadN (.t 9) 141⟩,
 ⟨some 39, none, .loadN (.t 6) 141⟩,
 ⟨some 40, none, .call 11 [.t 38, .t 39]⟩,
 ⟨some 41, none, .un .not (.t 40)⟩,
 ⟨some 42, none, .mov (.t 41)⟩,
 ⟨some 43, some (42, false), .loadN (.t 10) 2⟩,
 ⟨some 44, some (42, false), .loadN (.t 7) 2⟩,
 ⟨some 45, some (42, false), .call 12 [.t 43, .t 44]⟩,
 ⟨some 46, some (42, false), .un .not (.t 45)⟩,
 ⟨some 47, none, .pick (.t 42) (.k (.c (.bool true))) (.t 46)⟩])
 (.cond (.t 47) (.seq (.reg false [⟨some 4, none, .mov (.k (.c (.bool false)))⟩])
 (.ret (some [4]))) .skip))
 (.seq (.seq (.regE 0 [⟨⟨some 48, none, .loadN (.t 8) 141⟩, 0, 0, false, []⟩,
 ⟨⟨some 49, none, .loadN (.t 2) 141⟩, 1, 0, false, []⟩,
 ⟨⟨some 50, none, .call 8 [.t 49]⟩, 2, 0, false, [0]⟩,
 ⟨⟨some 51, none, .call 11 [.t 48, .t 50]⟩, 3, 0, false, []⟩,
 ⟨⟨some 52, none, .un .not (.t 51)⟩, 4, 0, false, []⟩])
 (.cond (.t 52) (.seq (.reg false [⟨some 4, none, .mov (.k (.c (.bool false)))⟩])
 (.ret (some [4]))) .skip))
 (.seq (.reg false [⟨some 11, none, .mov (.k (.c (.int .i64 1)))⟩])
 (.seq (.reg false [⟨some 53, none, .loadN (.t 8) 141⟩,
 ⟨some 54, none, .mov (.t 11)⟩,
 ⟨some 55, none, .call 13 [.t 53, .t 54]⟩,
 ⟨some 11, none, .mov (.t 55)⟩])
 (.seq (.seq (.reg false [⟨some 56, none, .mov (.t 11)⟩,
 ⟨some 57, none, .bin .lss (.t 56) (.k (.c (.int .i64 0)))⟩,
 ⟨some 58, none, .mov (.t 57)⟩,
 ⟨some 59, some (58, false), .loadN (.t 9) 141⟩,
 ⟨some 60, some (58, false), .loadN (.t 6) 141⟩,
 ⟨some 61, some (58, false), .call 11 [.t 59, .t 60]⟩,
 ⟨some 62, some (58, false), .un .not (.t 61)⟩,
 ⟨some 63, none, .pick (.t 58) (.k (.c (.bool true))) (.t 62)⟩,
 ⟨some 64, none, .mov (.t 63)⟩,
 ⟨some 65, some (64, false), .loadN (.t 10) 2⟩,
 ⟨some 66, some (64, false), .loadN (.t 7) 2⟩,
 ⟨some 67, some (64, false), .call 12 [.t 65, .t 66]⟩,
 ⟨some 68, some (64, false), .un .not (.t 67)⟩,
 ⟨some 69, none, .pick (.t 64) (.k (.c (.bool true))) (.t 68)⟩])
 (.cond (.t 69) (.seq (.reg false [⟨some 4, none, .mov (.k (.c (.bool false)))⟩])
 (.ret (some [4]))) .skip))
 (.seq (.reg false [⟨some 12, none, .mov (.k (.c (.int .i64 1)))⟩])
 (.seq (.reg false [⟨some 70, none, .loadN (.t 9) 141⟩,
 ⟨some 71, none, .mov (.t 12)⟩,
 ⟨some 72, none, .call 13 [.t 70, .t 71]⟩,
 ⟨some 12, none, .mov (.t 72)⟩])
 (.seq (.reg false [⟨some 13, none, .mov (.k (.c (.int .i64 1)))⟩])
 (.seq (.reg false [⟨some 73, none, .loadN (.t 9) 141⟩,
 ⟨some 74, none, .mov (.t 13)⟩,
 ⟨some 75, none, .call 14 [.t 73, .t 74]⟩,
 ⟨some 13, none, .mov (.t 75)⟩])
 (.seq (.seq (.reg false [⟨some 76, none, .mov (.t 13)⟩,
 ⟨some 77, none, .bin .lss (.t 76) (.k (.c (.int .i64 0)))⟩])
 (.cond (.t 77) (.seq (.reg false [⟨some 4, none, .mov (.k (.c (.bool false)))⟩])
 (.ret (some [4]))) .skip))
 (.seq (.seq (.reg false [⟨some 78, none, .mov (.t 13)⟩,
 ⟨some 79, none, .mov (.t 12)⟩,
 ⟨some 80, none, .bin .neq (.t 78) (.t 79)⟩])
 (.cond (.t 80) (.seq (.reg false [⟨some 4, none, .mov (.k (.c (.bool false)))⟩])
 (.ret (some [4]))) .skip))
 (.seq (.regE 2 [⟨⟨some 82, none, .loadN (.t 2) 141⟩, 0, 0, false, []⟩,
 ⟨⟨some 83, none, .call 8 [.t 82]⟩, 1, 0, false, []⟩,
 ⟨⟨some 84, none, .loadN (.t 3) 3⟩, 2, 0, false, [1]⟩,
 ⟨⟨some 85, none, .call 9 [.t 84]⟩, 3, 0, false, []⟩,
 ⟨⟨some 86, none, .call 10 [.t 83, .t 85]⟩, 4, 0, false, []⟩,
 ⟨⟨some 81, none, .mov (.t 86)⟩, 5, 0, false, []⟩,
 ⟨⟨some 87, none, .ext (.t 81) 0⟩, 6, 0, false, []⟩,
 ⟨⟨some 88, none, .ext (.t 81) 1⟩, 7, 0, false, []⟩,
 ⟨⟨some 14, none, .alloc [.bool false, .int .i64 0, .int .i64 0, .int .i64 0, .bool false, .int .i64 0, .int .i64 0, .int .i64 0, .bool false, .int .i64 0, .int .i64 0, .int .i64 0, .bool false, .int .i64 0, .int .i64 0, .int .i64 0, .bool false, .int .i64 0, .int .i64 0, .int .i64 0, .bool false, .int .i64 0, .int .i64 0, .int .i64 0, .bool false, .int .i64 0, .int .i64 0, .int .i64 0, .bool false, .int .i64 0, .int .i64 0, .int .i64 0, .bool false, .int .i64 0, .int .i64 0, .int .i64 0, .bool false, .int .i64 0, .int .i64 0, .int .i64 0, .bool false, .int .i64 0, .int .i64 0, .int .i64 0, .bool false, .int .i64 0, .int .i64 0, .int .i64 0, .bool false, .int .i64 0, .int .i64 0, .int .i64 0, .bool false, .int .i64 0, .int .i64 0, .int .i64 0, .bool false, .int .i64 0, .int .i64 0, .int .i64 0, .bool false, .int .i64 0, .int .i64 0, .int .i64 0, .int .i64 0, .int .i64 0, .int .i64 0, .int .i64 0, .int .i64 0, .int .i64 0, .int .i64 0, .int .i64 0, .int .i64 0, .int .i64 0, .int .i64 0, .bool false, .int .i64 0, .int .i64 0, .int .i64 0, .bool false, .int .i64 0, .int .i64 0, .int .i64 0, .bool false, .int .i64 0, .int .i64 0, .int .i64 0, .bool false, .int .i64 0, .int .i64 0, .int .i64 0, .bool false, .int .i64 0, .int .i64 0, .int .i64 0, .bool false, .int .i64 0, .int .i64 0, .int .i64 0, .bool false, .int .i64 0, .int .i64 0, .int .i64 0, .bool false, .int .i64 0, .int .i64 0, .int .i64 0, .bool false, .int .i64 0, .int .i64 0, .int .i64 0, .bool false, .int .i64 0, .int .i64 0, .int .i64 0, .bool false, .int .i64 0, .int .i64 0, .int .i64 0, .bool false, .int .i64 0, .int .i64 0, .int .i64 0, .bool false, .int .i64 0, .int .i64 0, .int .i64 0, .bool false, .int .i64 0, .int .i64 0, .int .i64 0, .bool false, .int .i64 0, .int .i64 0, .int .i64 0, .bool false, .int .i64 0, .int .i64 0, .int .i64 0, .int .i64 0, .nils] 51⟩, 8, 0, false, [0, 2]⟩,
 ⟨⟨some 15, none, .alloc [.int .i64 0, .int .i64 0] 53⟩, 9, 1, false, [0, 2, 8]⟩,
 ⟨⟨none, none, .store (.t 14) (.t 87) 141⟩, 10, 2, false, []⟩,
 ⟨⟨none, none, .store (.t 15) (.t 88) 2⟩, 11, 2, false, []⟩])
 (.seq (.seq (.reg false [⟨some 89, none, .loadN (.t 14) 141⟩,
 ⟨some 90, none, .loadN (.t 6) 141⟩,
 ⟨some 91, none, .call 11 [.t 89, .t 90]⟩,
 ⟨some 92, none, .un .not (.t 91)⟩,
 ⟨some 93, none, .mov (.t 92)⟩,
 ⟨some 94, some (93, false), .loadN (.t 15) 2⟩,
 ⟨some 95, some (93, false), .loadN (.t 7) 2⟩,
 ⟨some 96, some (93, false), .call 12 [.t 94, .t 95]⟩,
 ⟨some 97, some (93, false), .un .not (.t 96)⟩,
 ⟨some 98, none, .pick (.t 93) (.k (.c (.bool true))) (.t 97)⟩])
 (.cond (.t 98) (.seq (.reg false [⟨some 4, none, .mov (.k (.c (.bool false)))⟩])
 (.ret (some [4]))) .skip))
 (.seq (.reg false [⟨some 13, none, .mov (.k (.c (.int .i64 1)))⟩])
 (.seq (.reg false [⟨some 99, none, .loadN (.t 9) 141⟩,
 ⟨some 100, none, .mov (.t 13)⟩,
 ⟨some 101, none, .call 14 [.t 99, .t 100]⟩,
 ⟨some 13, none, .mov (.t 101)⟩])
 (.seq (.seq (.reg false [⟨some 102, none, .mov (.t 13)⟩,
 ⟨some 103, none, .bin .lss (.t 102) (.k (.c (.int .i64 0)))⟩])
 (.cond (.t 103) (.seq (.reg false [⟨some 4, none, .mov (.k (.c (.bool false)))⟩])
 (.ret (some [4]))) .skip))
 (.seq (.seq (.reg false [⟨some 104, none, .mov (.t 13)⟩,
 ⟨some 105, none, .mov (.t 12)⟩,
 ⟨some 106, none, .bin .neq (.t 104) (.t 105)⟩])
 (.cond (.t 106) (.seq (.reg false [⟨some 4, none, .mov (.k (.c (.bool false)))⟩])
 (.ret (some [4]))) .skip))
 (.seq (.reg false [⟨some 4, none, .mov (.k (.c (.bool true)))⟩])
 (.ret (some [4])))))))))))))))))))))))))))⟩
theorem c_laws_FnExactDoDeed_ok : trF Tryz.prog ⟨[], [4], true, true⟩ Tryz.f3 = some c_laws_FnExactDoDeed := by kernel_rfl
def c_laws_szSpace : IFn := ⟨12, [.t 4],
  (.seq (.reg false [⟨some 2, none, .box (.t 0) 37⟩,
 ⟨some 4, none, .mov (.k (.c (.int .i64 0)))⟩])
 (.seq (.reg false [⟨some 5, none, .fld (.t 2) 140⟩,
 ⟨some 6, none, .load1 (.t 5)⟩,
 ⟨some 7, none, .mov (.t 1)⟩,
 ⟨some 8, none, .call 33 [.t 6, .t 7]⟩,
 ⟨some 1, none, .mov (.t 8)⟩])
 (.seq (.seq (.reg false [⟨some 9, none, .mov (.t 1)⟩,
 ⟨some 10, none, .bin .lss (.t 9) (.k (.c (.int .i64 0)))⟩])
 (.cond (.t 10) (.seq (.reg false [⟨some 4, none, .mov (.k (.c (.int .i64 (-1))))⟩])
 (.ret (some [4]))) .skip))
 (.seq (.reg false [⟨some 11, none, .mov (.t 1)⟩,
 ⟨some 4, none, .mov (.t 11)⟩])
 (.ret (some [4]))))))⟩
theorem c_laws_szSpace_ok : trF Tryz.prog ⟨[], [4], false, false⟩ Tryz.f6 = some c_laws_szSpace := by kernel_rfl
def c_spec_DoDeed : IFn := ⟨47, [.cell 4 141 true, .cell 5 2 true],
  (.seq (.reg false [⟨some 2, none, .box (.t 0) 51⟩,
 ⟨some 3, none, .box (.t 1) 57⟩,
 ⟨some 4, none, .alloc [.bool false, .int .i64 0, .int .i64 0, .int .i64 0, .bool false, .int .i64 0, .int .i64 0, .int .i64 0, .bool false, .int .i64 0, .int .i64 0, .int .i64 0, .bool false, .int .i64 0, .int .i64 0, .int .i64 0, .bool false, .int .i64 0, .int .i64 0, .int .i64 0, .bool false, .int .i64 0, .int .i64 0, .int .i64 0, .bool false, .int .i64 0, .int .i64 0, .int .i64 0, .bool false, .int .i64 0, .int .i64 0, .int .i64 0, .bool false, .int .i64 0, .int .i64 0, .int .i64 0, .bool false, .int .i64 0, .int .i64 0, .int .i64 0, .bool false, .int .i64 0, .int .i64 0, .int .i64 0, .bool false, .int .i64 0, .int .i64 0, .int .i64 0, .bool false, .int .i64 0, .int .i64 0, .int .i64 0, .bool false, .int .i64 0, .int .i64 0, .int .i64 0, .bool false, .int .i64 0, .int .i64 0, .int .i64 0, .bool false, .int .i64 0, .int .i64 0, .int .i64 0, .int .i64 0, .int .i64 0, .int .i64 0, .int .i64 0, .int .i64 0, .int .i64 0, .int .i64 0, .int .i64 0, .int .i64 0, .int .i64 0, .int .i64 0, .bool false, .int .i64 0, .int .i64 0, .int .i64 0, .bool false, .int .i64 0, .int .i64 0, .int .i64 0, .bool false, .int .i64 0, .int .i64 0, .int .i64 0, .bool false, .int .i64 0, .int .i64 0, .int .i64 0, .bool false, .int .i64 0, .int .i64 0, .int .i64 0, .bool false, .int .i64 0, .int .i64 0, .int .i64 0, .bool false, .int .i64 0, .int .i64 0, .int .i64 0, .bool false, .int .i64 0, .int .i64 0, .int .i64 0, .bool false, .int .i64 0, .int .i64 0, .int .i64 0, .bool false, .int .i64 0, .int .i64 0, .int .i64 0, .bool false, .int .i64 0, .int .i64 0, .int .i64 0, .bool false, .int .i64 0, .int .i64 0, .int .i64 0, .bool false, .int .i64 0, .int .i64 0, .int .i64 0, .bool false, .int .i64 0, .int .i64 0, .int .i64 0, .bool false, .int .i64 0, .int .i64 0, .int .i64 0, .bool false, .int .i64 0, .int .i64 0, .int .i64 0, .int .i64 0, .nils] 51⟩,
 ⟨some 5, none, .alloc [.int .i64 0, .int .i64 0] 53⟩])
 (.seq (.reg false [⟨some 7, none, .loadN (.t 2) 141⟩,
 ⟨some 8, none, .call 34 [.t 7]⟩,
 ⟨some 6, none, .alloc [.bool false, .int .i64 0, .int .i64 0, .int .i64 0, .bool false, .int .i64 0, .int .i64 0, .int .i64 0, .bool false, .int .i64 0, .int .i64 0, .int .i64 0, .bool false, .int .i64 0, .int .i64 0, .int .i64 0, .bool false, .int .i64 0, .int .i64 0, .int .i64 0, .bool false, .int .i64 0, .int .i64 0, .int .i64 0, .bool false, .int .i64 0, .int .i64 0, .int .i64 0, .bool false, .int .i64 0, .int .i64 0, .int .i64 0, .bool false, .int .i64 0, .int .i64 0, .int .i64 0, .bool false, .int .i64 0, .int .i64 0, .int .i64 0, .bool false, .int .i64 0, .int .i64 0, .int .i64 0, .bool false, .int .i64 0, .int .i64 0, .int .i64 0, .bool false, .int .i64 0, .int .i64 0, .int .i64 0, .bool false, .int .i64 0, .int .i64 0, .int .i64 0, .bool false, .int .i64 0, .int .i64 0, .int .i64 0, .bool false, .int .i64 0, .int .i64 0, .int .i64 0, .int .i64 0, .int .i64 0, .int .i64 0, .int .i64 0, .int .i64 0, .int .i64 0, .int .i64 0, .int .i64 0, .int .i64 0, .int .i64 0, .int .i64 0, .bool false, .int .i64 0, .int .i64 0, .int .i64 0, .bool false, .int .i64 0, .int .i64 0, .int .i64 0, .bool false, .int .i64 0, .int .i64 0, .int .i64 0, .bool false, .int .i64 0, .int .i64 0, .int .i64 0, .bool false, .int .i64 0, .int .i64 0, .int .i64 0, .bool false, .int .i64 0, .int .i64 0, .int .i64 0, .bool false, .int .i64 0, .int .i64 0, .int .i64 0, .bool false, .int .i64 0, .int .i64 0, .int .i64 0, .bool false, .int .i64 0, .int .i64 0, .int .i64 0, .bool false, .int .i64 0, .int .i64 0, .int .i64 0, .bool false, .int .i64 0, .int .i64 0, .int .i64 0, .bool false, .int .i64 0, .int .i64 0, .int .i64 0, .bool false, .int .i64 0, .int .i64 0, .int .i64 0, .bool false, .int .i64 0, .int .i64 0, .int .i64 0, .bool false, .int .i64 0, .int .i64 0, .int .i64 0, .bool false, .int .i64 0, .int .i64 0, .int .i64 0, .int .i64 0, .nils] 51⟩,
 ⟨none, none, .store (.t 6) (.t 8) 141⟩])
 (.seq (.seq (.reg false [⟨some 9, none, .loadN (.t 2) 141⟩,
 ⟨some 10, none, .call 35 [.t 9]⟩,
 ⟨some 11, none, .un .not (.t 10)⟩,
 ⟨some 12, none, .mov (.t 11)⟩,
 ⟨some 13, some (12, false), .fld (.t 3) 0⟩,
 ⟨some 14, some (12, false), .load1 (.t 13)⟩,
 ⟨some 15, some (12, false), .call 36 [.t 14, .k (.c (.int .i64 1)), .k (.c (.int .i64 9))]⟩,
 ⟨some 16, some (12, false), .un .not (.t 15)⟩,
 ⟨some 17, none, .pick (.t 12) (.k (.c (.bool true))) (.t 16)⟩,
 ⟨some 18, none, .mov (.t 17)⟩,
 ⟨some 19, some (18, false), .fld (.t 3) 0⟩,
 ⟨some 20, some (18, false), .load1 (.t 19)⟩,
 ⟨some 21, some (18, false), .bin .neq (.t 20) (.k (.c (.int .i64 5)))⟩,
 ⟨some 22, some (18, false), .mov (.t 21)⟩,
 ⟨some 23, some (22, true), .fld (.t 3) 1⟩,
 ⟨some 24, some (22, true), .load1 (.t 23)⟩,
 ⟨some 25, some (22, true), .call 37 [.t 24]⟩,
 ⟨some 26, some (22, true), .un .not (.t 25)⟩,
 ⟨some 27, some (18, false), .pick (.t 22) (.t 26) (.k (.c (.bool false)))⟩,
 ⟨some 28, none, .pick (.t 18) (.k (.c (.bool true))) (.t 27)⟩,
 ⟨some 29, none, .mov (.t 28)⟩,
 ⟨some 30, some (29, false), .fld (.t 3) 0⟩,
 ⟨some 31, some (29, false), .load1 (.t 30)⟩,
 ⟨some 32, some (29, false), .bin .eql (.t 31) (.k (.c (.int .i64 1)))⟩,
 ⟨some 33, some (29, false), .mov (.t 32)⟩,
 ⟨some 34, some (33, true), .fld (.t 3) 2⟩,
 ⟨some 35, some (33, true), .load1 (.t 34)⟩,
 ⟨some 36, some (33, true), .call 37 [.t 35]⟩,
 ⟨some 37, some (33, true), .un .not (.t 36)⟩,
 ⟨some 38, some (29, false), .pick (.t 33) (.t 37) (.k (.c (.bool false)))⟩,
 ⟨some 39, none, .pick (.t 29) (.k (.c (.bool true))) (.t 38)⟩])
 (.cond (.t 39) (.seq (.reg false [⟨some 40, none, .loadN (.t 6) 141⟩,
 ⟨some 41, none, .bld [.int .i64 0, .int .i64 0] [(0, (1, .k (.c (.int .i64 4))))]⟩,
 ⟨none, none, .store (.t 4) (.t 40) 141⟩,
 ⟨none, none, .store (.t 5) (.t 41) 2⟩])
 (.ret (some [4, 5]))) .skip))
 (.seq (.reg false [⟨some 42, none, .loadN (.t 6) 141⟩,
 ⟨some 43, none, .loadN (.t 3) 3⟩,
 ⟨some 44, none, .call 38 [.t 42, .t 43]⟩,
 ⟨some 45, none, .ext (.t 44) 0⟩,
 ⟨some 46, none, .ext (.t 44) 1⟩,
 ⟨none, none, .store (.t 4) (.t 45) 141⟩,
 ⟨none, none, .store (.t 5) (.t 46) 2⟩])
 (.ret (some [4, 5]))))))⟩
theorem c_spec_DoDeed_ok : trF Tryz.prog ⟨[], [4, 5], false, false⟩ Tryz.f7 = some c_spec_DoDeed := by kernel_rfl
def c_laws_toSpace : IFn := ⟨21, [.cell 2 141 true],
  (.seq (.reg false [⟨some 1, none, .box (.t 0) 37⟩,
 ⟨some 2, none, .alloc [.bool false, .int .i64 0, .int .i64 0, .int .i64 0, .bool false, .int .i64 0, .int .i64 0, .int .i64 0, .bool false, .int .i64 0, .int .i64 0, .int .i64 0, .bool false, .int .i64 0, .int .i64 0, .int .i64 0, .bool false, .int .i64 0, .int .i64 0, .int .i64 0, .bool false, .int .i64 0, .int .i64 0, .int .i64 0, .bool false, .int .i64 0, .int .i64 0, .int .i64 0, .bool false, .int .i64 0, .int .i64 0, .int .i64 0, .bool false, .int .i64 0, .int .i64 0, .int .i64 0, .bool false, .int .i64 0, .int .i64 0, .int .i64 0, .bool false, .int .i64 0, .int .i64 0, .int .i64 0, .bool false, .int .i64 0, .int .i64 0, .int .i64 0, .bool false, .int .i64 0, .int .i64 0, .int .i64 0, .bool false, .int .i64 0, .int .i64 0, .int .i64 0, .bool false, .int .i64 0, .int .i64 0, .int .i64 0, .bool false, .int .i64 0, .int .i64 0, .int .i64 0, .int .i64 0, .int .i64 0, .int .i64 0, .int .i64 0, .int .i64 0, .int .i64 0, .int .i64 0, .int .i64 0, .int .i64 0, .int .i64 0, .int .i64 0, .bool false, .int .i64 0, .int .i64 0, .int .i64 0, .bool false, .int .i64 0, .int .i64 0, .int .i64 0, .bool false, .int .i64 0, .int .i64 0, .int .i64 0, .bool false, .int .i64 0, .int .i64 0, .int .i64 0, .bool false, .int .i64 0, .int .i64 0, .int .i64 0, .bool false, .int .i64 0, .int .i64 0, .int .i64 0, .bool false, .int .i64 0, .int .i64 0, .int .i64 0, .bool false, .int .i64 0, .int .i64 0, .int .i64 0, .bool false, .int .i64 0, .int .i64 0, .int .i64 0, .bool false, .int .i64 0, .int .i64 0, .int .i64 0, .bool false, .int .i64 0, .int .i64 0, .int .i64 0, .bool false, .int .i64 0, .int .i64 0, .int .i64 0, .bool false, .int .i64 0, .int .i64 0, .int .i64 0, .bool false, .int .i64 0, .int .i64 0, .int .i64 0, .bool false, .int .i64 0, .int .i64 0, .int .i64 0, .bool false, .int .i64 0, .int .i64 0, .int .i64 0, .int .i64 0, .nils] 51⟩])
 (.seq (.reg false [⟨some 3, none, .alloc [.bool false, .int .i64 0, .int .i64 0, .int .i64 0, .bool false, .int .i64 0, .int .i64 0, .int .i64 0, .bool false, .int .i64 0, .int .i64 0, .int .i64 0, .bool false, .int .i64 0, .int .i64 0, .int .i64 0, .bool false, .int .i64 0, .int .i64 0, .int .i64 0, .bool false, .int .i64 0, .int .i64 0, .int .i64 0, .bool false, .int .i64 0, .int .i64 0, .int .i64 0, .bool false, .int .i64 0, .int .i64 0, .int .i64 0, .bool false, .int .i64 0, .int .i64 0, .int .i64 0, .bool false, .int .i64 0, .int .i64 0, .int .i64 0, .bool false, .int .i64 0, .int .i64 0, .int .i64 0, .bool false, .int .i64 0, .int .i64 0, .int .i64 0, .bool false, .int .i64 0, .int .i64 0, .int .i64 0, .bool false, .int .i64 0, .int .i64 0, .int .i64 0, .bool false, .int .i64 0, .int .i64 0, .int .i64 0, .bool false, .int .i64 0, .int .i64 0, .int .i64 0, .int .i64 0, .int .i64 0, .int .i64 0, .int .i64 0, .int .i64 0, .int .i64 0, .int .i64 0, .int .i64 0, .int .i64 0, .int .i64 0, .int .i64 0, .bool false, .int .i64 0, .int .i64 0, .int .i64 0, .bool false, .int .i64 0, .int .i64 0, .int .i64 0, .bool false, .int .i64 0, .int .i64 0, .int .i64 0, .bool false, .int .i64 0, .int .i64 0, .int .i64 0, .bool false, .int .i64 0, .int .i64 0, .int .i64 0, .bool false, .int .i64 0, .int .i64 0, .int .i64 0, .bool false, .int .i64 0, .int .i64 0, .int .i64 0, .bool false, .int .i64 0, .int .i64 0, .int .i64 0, .bool false, .int .i64 0, .int .i64 0, .int .i64 0, .bool false, .int .i64 0, .int .i64 0, .int .i64 0, .bool false, .int .i64 0, .int .i64 0, .int .i64 0, .bool false, .int .i64 0, .int .i64 0, .int .i64 0, .bool false, .int .i64 0, .int .i64 0, .int .i64 0, .bool false, .int .i64 0, .int .i64 0, .int .i64 0, .bool false, .int .i64 0, .int .i64 0, .int .i64 0, .bool false, .int .i64 0, .int .i64 0, .int .i64 0, .int .i64 0, .nils] 51⟩])
 (.seq (.reg false [⟨some 4, none, .fld (.t 1) 0⟩,
 ⟨some 5, none, .loadN (.t 4) 65⟩,
 ⟨some 6, none, .call 39 [.t 5]⟩,
 ⟨some 7, none, .fld (.t 3) 0⟩,
 ⟨none, none, .store (.t 7) (.t 6) 65⟩])
 (.seq (.reg false [⟨some 8, none, .fld (.t 1) 65⟩,
 ⟨some 9, none, .loadN (.t 8) 10⟩,
 ⟨some 10, none, .call 40 [.t 9]⟩,
 ⟨some 11, none, .fld (.t 3) 65⟩,
 ⟨none, none, .store (.t 11) (.t 10) 10⟩])
 (.seq (.reg false [⟨some 12, none, .fld (.t 1) 75⟩,
 ⟨some 13, none, .loadN (.t 12) 65⟩,
 ⟨some 14, none, .call 41 [.t 13]⟩,
 ⟨some 15, none, .fld (.t 3) 75⟩,
 ⟨none, none, .store (.t 15) (.t 14) 65⟩])
 (.seq (.reg false [⟨some 16, none, .fld (.t 1) 140⟩,
 ⟨some 17, none, .load1 (.t 16)⟩,
 ⟨some 18, none, .call 42 [.t 17]⟩,
 ⟨some 19, none, .fld (.t 3) 140⟩,
 ⟨none, none, .store (.t 19) (.t 18) 1⟩])
 (.seq (.reg false [⟨some 20, none, .loadN (.t 3) 141⟩,
 ⟨none, none, .store (.t 2) (.t 20) 141⟩])
 (.ret (some [2])))))))))⟩
theorem c_laws_toSpace_ok : trF Tryz.prog ⟨[], [2], false, false⟩ Tryz.f8 = some c_laws_toSpace := by kernel_rfl
def c_laws_toDeed : IFn := ⟨14, [.cell 2 3 true],
  (.seq (.reg false [⟨some 1, none, .box (.t 0) 39⟩,
 ⟨some 2, none, .alloc [.int .i64 0, .int .i64 0, .int .i64 0] 57⟩])
 (.seq (.reg false [⟨some 3, none, .alloc [.int .i64 0, .int .i64 0, .int .i64 0] 57⟩])
 (.seq (.reg false [⟨some 4, none, .fld (.t 1) 0⟩,
 ⟨some 5, none, .load1 (.t 4)⟩,
 ⟨some 6, none, .fld (.t 3) 0⟩,
 ⟨none, none, .store (.t 6) (.t 5) 1⟩])
 (.seq (.reg false [⟨some 7, none, .fld (.t 1) 1⟩,
 ⟨some 8, none, .load1 (.t 7)⟩,
 ⟨some 9, none, .fld (.t 3) 1⟩,
 ⟨none, none, .store (.t 9) (.t 8) 1⟩])
 (.seq (.reg false [⟨some 10, none, .fld (.t 1) 2⟩,
 ⟨some 11, none, .load1 (.t 10)⟩,
 ⟨some 12, none, .fld (.t 3) 2⟩,
 ⟨none, none, .store (.t 12) (.t 11) 1⟩])
 (.seq (.reg false [⟨some 13, none, .loadN (.t 3) 3⟩,
 ⟨none, none, .store (.t 2) (.t 13) 3⟩])
 (.ret (some [2]))))))))⟩
theorem c_laws_toDeed_ok : trF Tryz.prog ⟨[], [2], false, false⟩ Tryz.f9 = some c_laws_toDeed := by kernel_rfl
def c_impl_DoDeed : IFn := ⟨47, [.cell 4 141 true, .cell 5 2 true],
  (.seq (.reg false [⟨some 2, none, .box (.t 0) 51⟩,
 ⟨some 3, none, .box (.t 1) 57⟩,
 ⟨some 4, none, .alloc [.bool false, .int .i64 0, .int .i64 0, .int .i64 0, .bool false, .int .i64 0, .int .i64 0, .int .i64 0, .bool false, .int .i64 0, .int .i64 0, .int .i64 0, .bool false, .int .i64 0, .int .i64 0, .int .i64 0, .bool false, .int .i64 0, .int .i64 0, .int .i64 0, .bool false, .int .i64 0, .int .i64 0, .int .i64 0, .bool false, .int .i64 0, .int .i64 0, .int .i64 0, .bool false, .int .i64 0, .int .i64 0, .int .i64 0, .bool false, .int .i64 0, .int .i64 0, .int .i64 0, .bool false, .int .i64 0, .int .i64 0, .int .i64 0, .bool false, .int .i64 0, .int .i64 0, .int .i64 0, .bool false, .int .i64 0, .int .i64 0, .int .i64 0, .bool false, .int .i64 0, .int .i64 0, .int .i64 0, .bool false, .int .i64 0, .int .i64 0, .int .i64 0, .bool false, .int .i64 0, .int .i64 0, .int .i64 0, .bool false, .int .i64 0, .int .i64 0, .int .i64 0, .int .i64 0, .int .i64 0, .int .i64 0, .int .i64 0, .int .i64 0, .int .i64 0, .int .i64 0, .int .i64 0, .int .i64 0, .int .i64 0, .int .i64 0, .bool false, .int .i64 0, .int .i64 0, .int .i64 0, .bool false, .int .i64 0, .int .i64 0, .int .i64 0, .bool false, .int .i64 0, .int .i64 0, .int .i64 0, .bool false, .int .i64 0, .int .i64 0, .int .i64 0, .bool false, .int .i64 0, .int .i64 0, .int .i64 0, .bool false, .int .i64 0, .int .i64 0, .int .i64 0, .bool false, .int .i64 0, .int .i64 0, .int .i64 0, .bool false, .int .i64 0, .int .i64 0, .int .i64 0, .bool false, .int .i64 0, .int .i64 0, .int .i64 0, .bool false, .int .i64 0, .int .i64 0, .int .i64 0, .bool false, .int .i64 0, .int .i64 0, .int .i64 0, .bool false, .int .i64 0, .int .i64 0, .int .i64 0, .bool false, .int .i64 0, .int .i64 0, .int .i64 0, .bool false, .int .i64 0, .int .i64 0, .int .i64 0, .bool false, .int .i64 0, .int .i64 0, .int .i64 0, .bool false, .int .i64 0, .int .i64 0, .int .i64 0, .int .i64 0, .nils] 51⟩,
 ⟨some 5, none, .alloc [.int .i64 0, .int .i64 0] 53⟩])
 (.seq (.reg false [⟨some 8, none, .loadN (.t 2) 141⟩,
 ⟨some 9, none, .call 43 [.t 8]⟩,
 ⟨some 6, none, .alloc [.bool false, .int .i64 0, .int .i64 0, .int .i64 0, .bool false, .int .i64 0, .int .i64 0, .int .i64 0, .bool false, .int .i64 0, .int .i64 0, .int .i64 0, .bool false, .int .i64 0, .int .i64 0, .int .i64 0, .bool false, .int .i64 0, .int .i64 0, .int .i64 0, .bool false, .int .i64 0, .int .i64 0, .int .i64 0, .bool false, .int .i64 0, .int .i64 0, .int .i64 0, .bool false, .int .i64 0, .int .i64 0, .int .i64 0, .bool false, .int .i64 0, .int .i64 0, .int .i64 0, .bool false, .int .i64 0, .int .i64 0, .int .i64 0, .bool false, .int .i64 0, .int .i64 0, .int .i64 0, .bool false, .int .i64 0, .int .i64 0, .int .i64 0, .bool false, .int .i64 0, .int .i64 0, .int .i64 0, .bool false, .int .i64 0, .int .i64 0, .int .i64 0, .bool false, .int .i64 0, .int .i64 0, .int .i64 0, .bool false, .int .i64 0, .int .i64 0, .int .i64 0, .int .i64 0, .int .i64 0, .int .i64 0, .int .i64 0, .int .i64 0, .int .i64 0, .int .i64 0, .int .i64 0, .int .i64 0, .int .i64 0, .int .i64 0, .bool false, .int .i64 0, .int .i64 0, .int .i64 0, .bool false, .int .i64 0, .int .i64 0, .int .i64 0, .bool false, .int .i64 0, .int .i64 0, .int .i64 0, .bool false, .int .i64 0, .int .i64 0, .int .i64 0, .bool false, .int .i64 0, .int .i64 0, .int .i64 0, .bool false, .int .i64 0, .int .i64 0, .int .i64 0, .bool false, .int .i64 0, .int .i64 0, .int .i64 0, .bool false, .int .i64 0, .int .i64 0, .int .i64 0, .bool false, .int .i64 0, .int .i64 0, .int .i64 0, .bool false, .int .i64 0, .int .i64 0, .int .i64 0, .bool false, .int .i64 0, .int .i64 0, .int .i64 0, .bool false, .int .i64 0, .int .i64 0, .int .i64 0, .bool false, .int .i64 0, .int .i64 0, .int .i64 0, .bool false, .int .i64 0, .int .i64 0, .int .i64 0, .bool false, .int .i64 0, .int .i64 0, .int .i64 0, .bool false, .int .i64 0, .int .i64 0, .int .i64 0, .int .i64 0, .nils] 51⟩,
 ⟨none, none, .store (.t 6) (.t 9) 141⟩])
 (.seq (.seq (.reg false [⟨some 10, none, .loadN (.t 2) 141⟩,
 ⟨some 11, none, .call 44 [.t 10]⟩,
 ⟨some 12, none, .un .not (.t 11)⟩,
 ⟨some 13, none, .mov (.t 12)⟩,
 ⟨some 14, some (13, false), .fld (.t 3) 0⟩,
 ⟨some 15, some (13, false), .load1 (.t 14)⟩,
 ⟨some 16, some (13, false), .call 45 [.t 15, .k (.c (.int .i64 1)), .k (.c (.int .i64 9))]⟩,
 ⟨some 17, some (13, false), .un .not (.t 16)⟩,
 ⟨some 18, none, .pick (.t 13) (.k (.c (.bool true))) (.t 17)⟩,
 ⟨some 19, none, .mov (.t 18)⟩,
 ⟨some 20, some (19, false), .fld (.t 3) 0⟩,
 ⟨some 21, some (19, false), .load1 (.t 20)⟩,
 ⟨some 22, some (19, false), .bin .neq (.t 21) (.k (.c (.int .i64 5)))⟩,
 ⟨some 23, some (19, false), .mov (.t 22)⟩,
 ⟨some 24, some (23, true), .fld (.t 3) 1⟩,
 ⟨some 25, some (23, true), .load1 (.t 24)⟩,
 ⟨some 26, some (23, true), .call 46 [.t 25]⟩,
 ⟨some 27, some (23, true), .un .not (.t 26)⟩,
 ⟨some 28, some (19, false), .pick (.t 23) (.t 27) (.k (.c (.bool false)))⟩,
 ⟨some 29, none, .pick (.t 19) (.k (.c (.bool true))) (.t 28)⟩,
 ⟨some 30, none, .mov (.t 29)⟩,
 ⟨some 31, some (30, false), .fld (.t 3) 0⟩,
 ⟨some 32, some (30, false), .load1 (.t 31)⟩,
 ⟨some 33, some (30, false), .bin .eql (.t 32) (.k (.c (.int .i64 1)))⟩,
 ⟨some 34, some (30, false), .mov (.t 33)⟩,
 ⟨some 35, some (34, true), .fld (.t 3) 2⟩,
 ⟨some 36, some (34, true), .load1 (.t 35)⟩,
 ⟨some 37, some (34, true), .call 46 [.t 36]⟩,
 ⟨some 38, some (34, true), .un .not (.t 37)⟩,
 ⟨some 39, some (30, false), .pick (.t 34) (.t 38) (.k (.c (.bool false)))⟩,
 ⟨some 40, none, .pick (.t 30) (.k (.c (.bool true))) (.t 39)⟩])
 (.cond (.t 40) (.seq (.reg false [⟨some 41, none, .loadN (.t 6) 141⟩,
 ⟨some 42, none, .bld [.int .i64 0, .int .i64 0] [(0, (1, .k (.c (.int .i64 4))))]⟩,
 ⟨none, none, .store (.t 4) (.t 41) 141⟩,
 ⟨none, none, .store (.t 5) (.t 42) 2⟩])
 (.ret (some [4, 5]))) .skip))
 (.seq (.reg false [⟨some 43, none, .loadN (.t 3) 3⟩,
 ⟨some 44, none, .call 47 [.t 6, .t 43]⟩,
 ⟨some 7, none, .alloc [.int .i64 0, .int .i64 0] 53⟩,
 ⟨none, none, .store (.t 7) (.t 44) 2⟩])
 (.seq (.regE 0 [⟨⟨some 45, none, .loadN (.t 6) 141⟩, 0, 0, false, []⟩,
 ⟨⟨some 46, none, .loadN (.t 7) 2⟩, 1, 0, false, []⟩,
 ⟨⟨none, none, .store (.t 4) (.t 45) 141⟩, 2, 0, false, [1]⟩,
 ⟨⟨none, none, .store (.t 5) (.t 46) 2⟩, 3, 0, false, []⟩])
 (.ret (some [4, 5])))))))⟩
theorem c_impl_DoDeed_ok : trF Tryz.prog ⟨[], [4, 5], false, false⟩ Tryz.f10 = some c_impl_DoDeed := by kernel_rfl
def c_laws_eqSpace : IFn := ⟨29, [.t 4],
  (.seq (.reg false [⟨some 2, none, .box (.t 0) 51⟩,
 ⟨some 3, none, .box (.t 1) 51⟩,
 ⟨some 4, none, .mov (.k (.c (.bool false)))⟩])
 (.seq (.seq (.reg false [⟨some 5, none, .fld (.t 2) 0⟩,
 ⟨some 6, none, .loadN (.t 5) 65⟩,
 ⟨some 7, none, .fld (.t 3) 0⟩,
 ⟨some 8, none, .loadN (.t 7) 65⟩,
 ⟨some 9, none, .call 48 [.t 6, .t 8]⟩,
 ⟨some 10, none, .un .not (.t 9)⟩])
 (.cond (.t 10) (.seq (.reg false [⟨some 4, none, .mov (.k (.c (.bool false)))⟩])
 (.ret (some [4]))) .skip))
 (.seq (.seq (.reg false [⟨some 11, none, .fld (.t 2) 65⟩,
 ⟨some 12, none, .loadN (.t 11) 10⟩,
 ⟨some 13, none, .fld (.t 3) 65⟩,
 ⟨some 14, none, .loadN (.t 13) 10⟩,
 ⟨some 15, none, .call 49 [.t 12, .t 14]⟩,
 ⟨some 16, none, .un .not (.t 15)⟩])
 (.cond (.t 16) (.seq (.reg false [⟨some 4, none, .mov (.k (.c (.bool false)))⟩])
 (.ret (some [4]))) .skip))
 (.seq (.seq (.reg false [⟨some 17, none, .fld (.t 2) 75⟩,
 ⟨some 18, none, .loadN (.t 17) 65⟩,
 ⟨some 19, none, .fld (.t 3) 75⟩,
 ⟨some 20, none, .loadN (.t 19) 65⟩,
 ⟨some 21, none, .call 50 [.t 18, .t 20]⟩,
 ⟨some 22, none, .un .not (.t 21)⟩])
 (.cond (.t 22) (.seq (.reg false [⟨some 4, none, .mov (.k (.c (.bool false)))⟩])
 (.ret (some [4]))) .skip))
 (.seq (.seq (.reg false [⟨some 23, none, .fld (.t 2) 140⟩,
 ⟨some 24, none, .load1 (.t 23)⟩,
 ⟨some 25, none, .fld (.t 3) 140⟩,
 ⟨some 26, none, .load1 (.t 25)⟩,
 ⟨some 27, none, .call 51 [.t 24, .t 26]⟩,
 ⟨some 28, none, .un .not (.t 27)⟩])
 (.cond (.t 28) (.seq (.reg false [⟨some 4, none, .mov (.k (.c (.bool false)))⟩])
 (.ret (some [4]))) .skip))
 (.seq (.reg false [⟨some 4, none, .mov (.k (.c (.bool true)))⟩])
 (.ret (some [4]))))))))⟩
theorem c_laws_eqSpace_ok : trF Tryz.prog ⟨[], [4], false, false⟩ Tryz.f11 = some c_laws_eqSpace := by kernel_rfl
def c_laws_eqTold : IFn := ⟨15, [.t 4],
  (.seq (.reg false [⟨some 2, none, .box (.t 0) 53⟩,
 ⟨some 3, none, .box (.t 1) 53⟩,
 ⟨some 4, none, .mov (.k (.c (.bool false)))⟩])
 (.seq (.seq (.reg false [⟨some 5, none, .fld (.t 2) 0⟩,
 ⟨some 6, none, .load1 (.t 5)⟩,
 ⟨some 7, none, .fld (.t 3) 0⟩,
 ⟨some 8, none, .load1 (.t 7)⟩,
 ⟨some 9, none, .bin .neq (.t 6) (.t 8)⟩])
 (.cond (.t 9) (.seq (.reg false [⟨some 4, none, .mov (.k (.c (.bool false)))⟩])
 (.ret (some [4]))) .skip))
 (.seq (.seq (.reg false [⟨some 10, none, .fld (.t 2) 1⟩,
 ⟨some 11, none, .load1 (.t 10)⟩,
 ⟨some 12, none, .fld (.t 3) 1⟩,
 ⟨some 13, none, .load1 (.t 12)⟩,
 ⟨some 14, none, .bin .neq (.t 11) (.t 13)⟩])
 (.cond (.t 14) (.seq (.reg false [⟨some 4, none, .mov (.k (.c (.bool false)))⟩])
 (.ret (some [4]))) .skip))
 (.seq (.reg false [⟨some 4, none, .mov (.k (.c (.bool true)))⟩])
 (.ret (some [4]))))))⟩
theorem c_laws_eqTold_ok : trF Tryz.prog ⟨[], [4], false, false⟩ Tryz.f12 = some c_laws_eqTold := by kernel_rfl
def c_laws_markSpace : IFn := ⟨10, [.t 4],
  (.seq (.reg false [⟨some 2, none, .box (.t 0) 51⟩,
 ⟨some 4, none, .mov (.k (.c (.int .i64 0)))⟩])
 (.seq (.reg false [⟨some 5, none, .fld (.t 2) 140⟩,
 ⟨some 6, none, .load1 (.t 5)⟩,
 ⟨some 7, none, .mov (.t 1)⟩,
 ⟨some 8, none, .call 52 [.t 6, .t 7]⟩,
 ⟨some 1, none, .mov (.t 8)⟩])
 (.seq (.reg false [⟨some 9, none, .mov (.t 1)⟩,
 ⟨some 4, none, .mov (.t 9)⟩])
 (.ret (some [4])))))⟩
theorem c_laws_markSpace_ok : trF Tryz.prog ⟨[], [4], false, false⟩ Tryz.f13 = some c_laws_markSpace := by kernel_rfl
def c_laws_heldSpace : IFn := ⟨12, [.t 4],
  (.seq (.reg false [⟨some 2, none, .box (.t 0) 51⟩,
 ⟨some 4, none, .mov (.k (.c (.int .i64 0)))⟩])
 (.seq (.reg false [⟨some 5, none, .fld (.t 2) 140⟩,
 ⟨some 6, none, .load1 (.t 5)⟩,
 ⟨some 7, none, .mov (.t 1)⟩,
 ⟨some 8, none, .call 53 [.t 6, .t 7]⟩,
 ⟨some 1, none, .mov (.t 8)⟩])
 (.seq (.seq (.reg false [⟨some 9, none, .mov (.t 1)⟩,
 ⟨some 10, none, .bin .lss (.t 9) (.k (.c (.int .i64 0)))⟩])
 (.cond (.t 10) (.seq (.reg false [⟨some 4, none, .mov (.k (.c (.int .i64 (-1))))⟩])
 (.ret (some [4]))) .skip))
 (.seq (.reg false [⟨some 11, none, .mov (.t 1)⟩,
 ⟨some 4, none, .mov (.t 11)⟩])
 (.ret (some [4]))))))⟩
theorem c_laws_heldSpace_ok : trF Tryz.prog ⟨[], [4], false, false⟩ Tryz.f14 = some c_laws_heldSpace := by kernel_rfl
def c_laws_szIntSS_b0 : IC :=
  (.seq (.seq (.reg false [⟨some 12, none, .mov (.t 5)⟩,
 ⟨some 13, none, .mov (.t 0)⟩,
 ⟨some 14, none, .len (.t 13)⟩,
 ⟨some 15, none, .bin .lss (.t 12) (.t 14)⟩])
 (.cond (.t 15) .skip (.exit 0)))
 (.seq (.block 1 none none
 (.seq (.reg false [⟨some 18, none, .mov (.t 0)⟩,
 ⟨some 19, none, .mov (.t 5)⟩,
 ⟨some 20, none, .ixs (.t 18) (.t 19) 1⟩,
 ⟨some 21, none, .load1 (.t 20)⟩,
 ⟨some 22, none, .mov (.t 1)⟩,
 ⟨some 23, none, .call 55 [.t 21, .t 22]⟩,
 ⟨some 1, none, .mov (.t 23)⟩])
 (.seq (.reg false [⟨some 24, none, .mov (.t 1)⟩,
 ⟨some 25, none, .bin .lss (.t 24) (.k (.c (.int .i64 0)))⟩])
 (.cond (.t 25) (.seq (.reg false [⟨some 4, none, .mov (.k (.c (.int .i64 (-1))))⟩])
 (.ret (some [4]))) .skip))))
 (.reg false [⟨some 16, none, .mov (.t 5)⟩,
 ⟨some 17, none, .bin .add (.t 16) (.k (.c (.int .i64 1)))⟩,
 ⟨some 5, none, .mov (.t 17)⟩])))
def c_laws_szIntSS : IFn := ⟨27, [.t 4],
  (.seq (.reg false [⟨some 4, none, .mov (.k (.c (.int .i64 0)))⟩])
 (.seq (.reg false [⟨some 6, none, .mov (.t 1)⟩,
 ⟨some 7, none, .mov (.t 0)⟩,
 ⟨some 8, none, .len (.t 7)⟩,
 ⟨some 9, none, .bin .sub (.t 6) (.t 8)⟩,
 ⟨some 1, none, .mov (.t 9)⟩])
 (.seq (.seq (.reg false [⟨some 10, none, .mov (.t 1)⟩,
 ⟨some 11, none, .bin .lss (.t 10) (.k (.c (.int .i64 0)))⟩])
 (.cond (.t 11) (.seq (.reg false [⟨some 4, none, .mov (.k (.c (.int .i64 (-1))))⟩])
 (.ret (some [4]))) .skip))
 (.seq (.seq (.reg false [⟨some 5, none, .mov (.k (.c (.int .i64 0)))⟩])
 (.block 0 (some [0, 1, 5]) (some [1])
 (.loop c_laws_szIntSS_b0)))
 (.seq (.reg false [⟨some 26, none, .mov (.t 1)⟩,
 ⟨some 4, none, .mov (.t 26)⟩])
 (.ret (some [4])))))))⟩
theorem c_laws_szIntSS_ok : trF Tryz.prog ⟨[(0, [0, 1, 5], [1])], [4], false, false⟩ Tryz.f33 = some c_laws_szIntSS := by kernel_rfl
def c_spec_l17Copy : IFn := ⟨8, [.cell 2 141 true],
  (.seq (.reg false [⟨some 1, none, .box (.t 0) 51⟩,
 ⟨some 2, none, .alloc [.bool false, .int .i64 0, .int .i64 0, .int .i64 0, .bool false, .int .i64 0, .int .i64 0, .int .i64 0, .bool false, .int .i64 0, .int .i64 0, .int .i64 0, .bool false, .int .i64 0, .int .i64 0, .int .i64 0, .bool false, .int .i64 0, .int .i64 0, .int .i64 0, .bool false, .int .i64 0, .int .i64 0, .int .i64 0, .bool false, .int .i64 0, .int .i64 0, .int .i64 0, .bool false, .int .i64 0, .int .i64 0, .int .i64 0, .bool false, .int .i64 0, .int .i64 0, .int .i64 0, .bool false, .int .i64 0, .int .i64 0, .int .i64 0, .bool false, .int .i64 0, .int .i64 0, .int .i64 0, .bool false, .int .i64 0, .int .i64 0, .int .i64 0, .bool false, .int .i64 0, .int .i64 0, .int .i64 0, .bool false, .int .i64 0, .int .i64 0, .int .i64 0, .bool false, .int .i64 0, .int .i64 0, .int .i64 0, .bool false, .int .i64 0, .int .i64 0, .int .i64 0, .int .i64 0, .int .i64 0, .int .i64 0, .int .i64 0, .int .i64 0, .int .i64 0, .int .i64 0, .int .i64 0, .int .i64 0, .int .i64 0, .int .i64 0, .bool false, .int .i64 0, .int .i64 0, .int .i64 0, .bool false, .int .i64 0, .int .i64 0, .int .i64 0, .bool false, .int .i64 0, .int .i64 0, .int .i64 0, .bool false, .int .i64 0, .int .i64 0, .int .i64 0, .bool false, .int .i64 0, .int .i64 0, .int .i64 0, .bool false, .int .i64 0, .int .i64 0, .int .i64 0, .bool false, .int .i64 0, .int .i64 0, .int .i64 0, .bool false, .int .i64 0, .int .i64 0, .int .i64 0, .bool false, .int .i64 0, .int .i64 0, .int .i64 0, .bool false, .int .i64 0, .int .i64 0, .int .i64 0, .bool false, .int .i64 0, .int .i64 0, .int .i64 0, .bool false, .int .i64 0, .int .i64 0, .int .i64 0, .bool false, .int .i64 0, .int .i64 0, .int .i64 0, .bool false, .int .i64 0, .int .i64 0, .int .i64 0, .bool false, .int .i64 0, .int .i64 0, .int .i64 0, .bool false, .int .i64 0, .int .i64 0, .int .i64 0, .int .i64 0, .nils] 51⟩])
 (.seq (.reg false [⟨some 3, none, .fld (.t 1) 140⟩,
 ⟨some 4, none, .load1 (.t 3)⟩,
 ⟨some 5, none, .call 56 [.t 4]⟩,
 ⟨some 6, none, .fld (.t 1) 140⟩,
 ⟨none, none, .store (.t 6) (.t 5) 1⟩])
 (.seq (.reg false [⟨some 7, none, .loadN (.t 1) 141⟩,
 ⟨none, none, .store (.t 2) (.t 7) 141⟩])
 (.ret (some [2])))))⟩
theorem c_spec_l17Copy_ok : trF Tryz.prog ⟨[], [2], false, false⟩ Tryz.f34 = some c_spec_l17Copy := by kernel_rfl
def c_spec_SpaceOk : IFn := ⟨21, [.t 2],
  (.seq (.reg false [⟨some 1, none, .box (.t 0) 51⟩,
 ⟨some 2, none, .mov (.k (.c (.bool false)))⟩])
 (.seq (.reg false [⟨some 3, none, .fld (.t 1) 0⟩,
 ⟨some 4, none, .loadN (.t 3) 65⟩,
 ⟨some 5, none, .call 57 [.t 4]⟩,
 ⟨some 6, none, .mov (.t 5)⟩,
 ⟨some 7, some (6, true), .fld (.t 1) 65⟩,
 ⟨some 8, some (6, true), .loadN (.t 7) 10⟩,
 ⟨some 9, some (6, true), .call 58 [.t 8]⟩,
 ⟨some 10, none, .pick (.t 6) (.t 9) (.k (.c (.bool false)))⟩,
 ⟨some 11, none, .mov (.t 10)⟩,
 ⟨some 12, some (11, true), .fld (.t 1) 75⟩,
 ⟨some 13, some (11, true), .loadN (.t 12) 65⟩,
 ⟨some 14, some (11, true), .call 59 [.t 13]⟩,
 ⟨some 15, none, .pick (.t 11) (.t 14) (.k (.c (.bool false)))⟩,
 ⟨some 16, none, .mov (.t 15)⟩,
 ⟨some 17, some (16, true), .fld (.t 1) 140⟩,
 ⟨some 18, some (16, true), .load1 (.t 17)⟩,
 ⟨some 19, some (16, true), .call 60 [.t 18]⟩,
 ⟨some 20, none, .pick (.t 16) (.t 19) (.k (.c (.bool false)))⟩,
 ⟨some 2, none, .mov (.t 20)⟩])
 (.ret (some [2]))))⟩
theorem c_spec_SpaceOk_ok : trF Tryz.prog ⟨[], [2], false, false⟩ Tryz.f35 = some c_spec_SpaceOk := by kernel_rfl
def c_spec_l1In : IFn := ⟨15, [.t 6],
  (.seq (.reg false [⟨some 6, none, .mov (.k (.c (.bool false)))⟩])
 (.seq (.reg false [⟨some 7, none, .mov (.t 0)⟩,
 ⟨some 8, none, .mov (.t 1)⟩,
 ⟨some 9, none, .bin .geq (.t 7) (.t 8)⟩,
 ⟨some 10, none, .mov (.t 9)⟩,
 ⟨some 11, some (10, true), .mov (.t 0)⟩,
 ⟨some 12, some (10, true), .mov (.t 2)⟩,
 ⟨some 13, some (10, true), .bin .leq (.t 11) (.t 12)⟩,
 ⟨some 14, none, .pick (.t 10) (.t 13) (.k (.c (.bool false)))⟩,
 ⟨some 6, none, .mov (.t 14)⟩])
 (.ret (some [6]))))⟩
theorem c_spec_l1In_ok : trF Tryz.prog ⟨[], [6], false, false⟩ Tryz.f36 = some c_spec_l1In := by kernel_rfl
def c_spec_l1Value : IFn := ⟨5, [.t 2],
  (.seq (.reg false [⟨some 2, none, .mov (.k (.c (.bool false)))⟩])
 (.seq (.reg false [⟨some 3, none, .mov (.t 0)⟩,
 ⟨some 4, none, .call 36 [.t 3, .k (.c (.int .i64 (-1000000000))), .k (.c (.int .i64 1000000000))]⟩,
 ⟨some 2, none, .mov (.t 4)⟩])
 (.ret (some [2]))))⟩
theorem c_spec_l1Value_ok : trF Tryz.prog ⟨[], [2], false, false⟩ Tryz.f37 = some c_spec_l1Value := by kernel_rfl
def c_spec_l17Deed : IFn := ⟨176, [.cell 4 141 true, .cell 5 2 true],
  (.seq (.reg false [⟨some 2, none, .box (.t 0) 51⟩,
 ⟨some 3, none, .box (.t 1) 57⟩,
 ⟨some 4, none, .alloc [.bool false, .int .i64 0, .int .i64 0, .int .i64 0, .bool false, .int .i64 0, .int .i64 0, .int .i64 0, .bool false, .int .i64 0, .int .i64 0, .int .i64 0, .bool false, .int .i64 0, .int .i64 0, .int .i64 0, .bool false, .int .i64 0, .int .i64 0, .int .i64 0, .bool false, .int .i64 0, .int .i64 0, .int .i64 0, .bool false, .int .i64 0, .int .i64 0, .int .i64 0, .bool false, .int .i64 0, .int .i64 0, .int .i64 0, .bool false, .int .i64 0, .int .i64 0, .int .i64 0, .bool false, .int .i64 0, .int .i64 0, .int .i64 0, .bool false, .int .i64 0, .int .i64 0, .int .i64 0, .bool false, .int .i64 0, .int .i64 0, .int .i64 0, .bool false, .int .i64 0, .int .i64 0, .int .i64 0, .bool false, .int .i64 0, .int .i64 0, .int .i64 0, .bool false, .int .i64 0, .int .i64 0, .int .i64 0, .bool false, .int .i64 0, .int .i64 0, .int .i64 0, .int .i64 0, .int .i64 0, .int .i64 0, .int .i64 0, .int .i64 0, .int .i64 0, .int .i64 0, .int .i64 0, .int .i64 0, .int .i64 0, .int .i64 0, .bool false, .int .i64 0, .int .i64 0, .int .i64 0, .bool false, .int .i64 0, .int .i64 0, .int .i64 0, .bool false, .int .i64 0, .int .i64 0, .int .i64 0, .bool false, .int .i64 0, .int .i64 0, .int .i64 0, .bool false, .int .i64 0, .int .i64 0, .int .i64 0, .bool false, .int .i64 0, .int .i64 0, .int .i64 0, .bool false, .int .i64 0, .int .i64 0, .int .i64 0, .bool false, .int .i64 0, .int .i64 0, .int .i64 0, .bool false, .int .i64 0, .int .i64 0, .int .i64 0, .bool false, .int .i64 0, .int .i64 0, .int .i64 0, .bool false, .int .i64 0, .int .i64 0, .int .i64 0, .bool false, .int .i64 0, .int .i64 0, .int .i64 0, .bool false, .int .i64 0, .int .i64 0, .int .i64 0, .bool false, .int .i64 0, .int .i64 0, .int .i64 0, .bool false, .int .i64 0, .int .i64 0, .int .i64 0, .bool false, .int .i64 0, .int .i64 0, .int .i64 0, .int .i64 0, .nils] 51⟩,
 ⟨some 5, none, .alloc [.int .i64 0, .int .i64 0] 53⟩])
 (.seq (.seq (.reg false [⟨some 28, none, .fld (.t 3) 0⟩,
 ⟨some 29, none, .load1 (.t 28)⟩])
 (.block 0 none none
 (.seq (.reg false [⟨some 31, none, .bin .eql (.t 29) (.k (.c (.int .i64 1)))⟩,
 ⟨some 30, none, .mov (.t 31)⟩])
 (.cond (.t 30) (.seq (.reg false [⟨some 33, none, .fld (.t 2) 0⟩,
 ⟨some 34, none, .loadN (.t 33) 65⟩,
 ⟨some 35, none, .fld (.t 3) 1⟩,
 ⟨some 36, none, .load1 (.t 35)⟩,
 ⟨some 37, none, .fld (.t 3) 2⟩,
 ⟨some 38, none, .load1 (.t 37)⟩,
 ⟨some 39, none, .call 61 [.t 34, .t 36, .t 38]⟩,
 ⟨some 32, none, .mov (.t 39)⟩,
 ⟨some 40, none, .ext (.t 32) 0⟩,
 ⟨some 41, none, .ext (.t 32) 1⟩,
 ⟨some 42, none, .ext (.t 32) 2⟩,
 ⟨some 6, none, .alloc [.bool false, .int .i64 0, .int .i64 0, .int .i64 0, .bool false, .int .i64 0, .int .i64 0, .int .i64 0, .bool false, .int .i64 0, .int .i64 0, .int .i64 0, .bool false, .int .i64 0, .int .i64 0, .int .i64 0, .bool false, .int .i64 0, .int .i64 0, .int .i64 0, .bool false, .int .i64 0, .int .i64 0, .int .i64 0, .bool false, .int .i64 0, .int .i64 0, .int .i64 0, .bool false, .int .i64 0, .int .i64 0, .int .i64 0, .bool false, .int .i64 0, .int .i64 0, .int .i64 0, .bool false, .int .i64 0, .int .i64 0, .int .i64 0, .bool false, .int .i64 0, .int .i64 0, .int .i64 0, .bool false, .int .i64 0, .int .i64 0, .int .i64 0, .bool false, .int .i64 0, .int .i64 0, .int .i64 0, .bool false, .int .i64 0, .int .i64 0, .int .i64 0, .bool false, .int .i64 0, .int .i64 0, .int .i64 0, .bool false, .int .i64 0, .int .i64 0, .int .i64 0, .int .i64 0] 44⟩,
 ⟨none, none, .store (.t 6) (.t 40) 65⟩,
 ⟨some 7, none, .mov (.t 41)⟩,
 ⟨some 8, none, .mov (.t 42)⟩])
 (.seq (.reg false [⟨some 43, none, .loadN (.t 6) 65⟩,
 ⟨some 44, none, .fld (.t 2) 0⟩,
 ⟨none, none, .store (.t 44) (.t 43) 65⟩])
 (.seq (.regE 0 [⟨⟨some 45, none, .loadN (.t 2) 141⟩, 0, 0, false, []⟩,
 ⟨⟨some 46, none, .mov (.t 8)⟩, 1, 0, false, []⟩,
 ⟨⟨some 47, none, .call 62 [.t 46]⟩, 2, 0, false, [0]⟩,
 ⟨⟨some 48, none, .bld [.int .i64 0, .int .i64 0] [(0, (1, .t 47))]⟩, 3, 0, false, []⟩,
 ⟨⟨none, none, .store (.t 4) (.t 45) 141⟩, 4, 0, false, []⟩,
 ⟨⟨none, none, .store (.t 5) (.t 48) 2⟩, 5, 0, false, []⟩])
 (.ret (some [4, 5]))))) (.seq (.reg false [⟨some 50, none, .bin .eql (.t 29) (.k (.c (.int .i64 2)))⟩,
 ⟨some 49, none, .mov (.t 50)⟩])
 (.cond (.t 49) (.seq (.reg false [⟨some 52, none, .fld (.t 2) 0⟩,
 ⟨some 53, none, .loadN (.t 52) 65⟩,
 ⟨some 54, none, .fld (.t 3) 1⟩,
 ⟨some 55, none, .load1 (.t 54)⟩,
 ⟨some 56, none, .call 63 [.t 53, .t 55]⟩,
 ⟨some 51, none, .mov (.t 56)⟩,
 ⟨some 57, none, .ext (.t 51) 0⟩,
 ⟨some 58, none, .ext (.t 51) 1⟩,
 ⟨some 59, none, .ext (.t 51) 2⟩,
 ⟨some 9, none, .alloc [.bool false, .int .i64 0, .int .i64 0, .int .i64 0, .bool false, .int .i64 0, .int .i64 0, .int .i64 0, .bool false, .int .i64 0, .int .i64 0, .int .i64 0, .bool false, .int .i64 0, .int .i64 0, .int .i64 0, .bool false, .int .i64 0, .int .i64 0, .int .i64 0, .bool false, .int .i64 0, .int .i64 0, .int .i64 0, .bool false, .int .i64 0, .int .i64 0, .int .i64 0, .bool false, .int .i64 0, .int .i64 0, .int .i64 0, .bool false, .int .i64 0, .int .i64 0, .int .i64 0, .bool false, .int .i64 0, .int .i64 0, .int .i64 0, .bool false, .int .i64 0, .int .i64 0, .int .i64 0, .bool false, .int .i64 0, .int .i64 0, .int .i64 0, .bool false, .int .i64 0, .int .i64 0, .int .i64 0, .bool false, .int .i64 0, .int .i64 0, .int .i64 0, .bool false, .int .i64 0, .int .i64 0, .int .i64 0, .bool false, .int .i64 0, .int .i64 0, .int .i64 0, .int .i64 0] 44⟩,
 ⟨none, none, .store (.t 9) (.t 57) 65⟩,
 ⟨some 10, none, .mov (.t 58)⟩,
 ⟨some 11, none, .mov (.t 59)⟩])
 (.seq (.reg false [⟨some 60, none, .loadN (.t 9) 65⟩,
 ⟨some 61, none, .fld (.t 2) 0⟩,
 ⟨none, none, .store (.t 61) (.t 60) 65⟩])
 (.seq (.regE 0 [⟨⟨some 62, none, .loadN (.t 2) 141⟩, 0, 0, false, []⟩,
 ⟨⟨some 63, none, .mov (.t 11)⟩, 1, 0, false, []⟩,
 ⟨⟨some 64, none, .call 62 [.t 63]⟩, 2, 0, false, [0]⟩,
 ⟨⟨some 65, none, .bld [.int .i64 0, .int .i64 0] [(0, (1, .t 64))]⟩, 3, 0, false, []⟩,
 ⟨⟨none, none, .store (.t 4) (.t 62) 141⟩, 4, 0, false, []⟩,
 ⟨⟨none, none, .store (.t 5) (.t 65) 2⟩, 5, 0, false, []⟩])
 (.ret (some [4, 5]))))) (.seq (.reg false [⟨some 67, none, .bin .eql (.t 29) (.k (.c (.int .i64 3)))⟩,
 ⟨some 66, none, .mov (.t 67)⟩])
 (.cond (.t 66) (.seq (.reg false [⟨some 69, none, .fld (.t 2) 0⟩,
 ⟨some 70, none, .loadN (.t 69) 65⟩,
 ⟨some 71, none, .fld (.t 3) 1⟩,
 ⟨some 72, none, .load1 (.t 71)⟩,
 ⟨some 73, none, .call 64 [.t 70, .t 72]⟩,
 ⟨some 68, none, .mov (.t 73)⟩,
 ⟨some 74, none, .ext (.t 68) 0⟩,
 ⟨some 75, none, .ext (.t 68) 1⟩,
 ⟨some 76, none, .ext (.t 68) 2⟩,
 ⟨some 12, none, .mov (.t 74)⟩,
 ⟨some 13, none, .mov (.t 75)⟩,
 ⟨some 14, none, .mov (.t 76)⟩])
 (.seq (.regE 0 [⟨⟨some 77, none, .loadN (.t 2) 141⟩, 0, 0, false, []⟩,
 ⟨⟨some 78, none, .mov (.t 14)⟩, 1, 0, false, []⟩,
 ⟨⟨some 79, none, .call 62 [.t 78]⟩, 2, 0, false, [0]⟩,
 ⟨⟨some 80, none, .mov (.t 12)⟩, 3, 0, false, []⟩,
 ⟨⟨some 81, none, .bld [.int .i64 0, .int .i64 0] [(0, (1, .t 79)), (1, (1, .t 80))]⟩, 4, 0, false, []⟩,
 ⟨⟨none, none, .store (.t 4) (.t 77) 141⟩, 5, 0, false, []⟩,
 ⟨⟨none, none, .store (.t 5) (.t 81) 2⟩, 6, 0, false, []⟩])
 (.ret (some [4, 5])))) (.seq (.reg false [⟨some 83, none, .bin .eql (.t 29) (.k (.c (.int .i64 4)))⟩,
 ⟨some 82, none, .mov (.t 83)⟩])
 (.cond (.t 82) (.seq (.reg false [⟨some 85, none, .fld (.t 2) 65⟩,
 ⟨some 86, none, .loadN (.t 85) 10⟩,
 ⟨some 87, none, .fld (.t 3) 1⟩,
 ⟨some 88, none, .load1 (.t 87)⟩,
 ⟨some 89, none, .call 65 [.t 86, .t 88]⟩,
 ⟨some 84, none, .mov (.t 89)⟩,
 ⟨some 90, none, .ext (.t 84) 0⟩,
 ⟨some 91, none, .ext (.t 84) 1⟩,
 ⟨some 15, none, .alloc [.int .i64 0, .int .i64 0, .int .i64 0, .int .i64 0, .int .i64 0, .int .i64 0, .int .i64 0, .int .i64 0, .int .i64 0, .int .i64 0] 45⟩,
 ⟨none, none, .store (.t 15) (.t 90) 10⟩,
 ⟨some 16, none, .mov (.t 91)⟩])
 (.seq (.reg false [⟨some 92, none, .loadN (.t 15) 10⟩,
 ⟨some 93, none, .fld (.t 2) 65⟩,
 ⟨none, none, .store (.t 93) (.t 92) 10⟩])
 (.seq (.regE 0 [⟨⟨some 94, none, .loadN (.t 2) 141⟩, 0, 0, false, []⟩,
 ⟨⟨some 95, none, .mov (.t 16)⟩, 1, 0, false, []⟩,
 ⟨⟨some 96, none, .call 66 [.t 95]⟩, 2, 0, false, [0]⟩,
 ⟨⟨some 97, none, .bld [.int .i64 0, .int .i64 0] [(0, (1, .t 96))]⟩, 3, 0, false, []⟩,
 ⟨⟨none, none, .store (.t 4) (.t 94) 141⟩, 4, 0, false, []⟩,
 ⟨⟨none, none, .store (.t 5) (.t 97) 2⟩, 5, 0, false, []⟩])
 (.ret (some [4, 5]))))) (.seq (.reg false [⟨some 99, none, .bin .eql (.t 29) (.k (.c (.int .i64 5)))⟩,
 ⟨some 98, none, .mov (.t 99)⟩])
 (.cond (.t 98) (.seq (.reg false [⟨some 101, none, .fld (.t 2) 65⟩,
 ⟨some 102, none, .loadN (.t 101) 10⟩,
 ⟨some 103, none, .call 67 [.t 102]⟩,
 ⟨some 100, none, .mov (.t 103)⟩,
 ⟨some 104, none, .ext (.t 100) 0⟩,
 ⟨some 105, none, .ext (.t 100) 1⟩,
 ⟨some 106, none, .ext (.t 100) 2⟩,
 ⟨some 17, none, .alloc [.int .i64 0, .int .i64 0, .int .i64 0, .int .i64 0, .int .i64 0, .int .i64 0, .int .i64 0, .int .i64 0, .int .i64 0, .int .i64 0] 45⟩,
 ⟨none, none, .store (.t 17) (.t 104) 10⟩,
 ⟨some 18, none, .mov (.t 105)⟩,
 ⟨some 19, none, .mov (.t 106)⟩])
 (.seq (.reg false [⟨some 107, none, .loadN (.t 17) 10⟩,
 ⟨some 108, none, .fld (.t 2) 65⟩,
 ⟨none, none, .store (.t 108) (.t 107) 10⟩])
 (.seq (.regE 0 [⟨⟨some 109, none, .loadN (.t 2) 141⟩, 0, 0, false, []⟩,
 ⟨⟨some 110, none, .mov (.t 19)⟩, 1, 0, false, []⟩,
 ⟨⟨some 111, none, .call 66 [.t 110]⟩, 2, 0, false, [0]⟩,
 ⟨⟨some 112, none, .mov (.t 18)⟩, 3, 0, false, []⟩,
 ⟨⟨some 113, none, .bld [.int .i64 0, .int .i64 0] [(0, (1, .t 111)), (1, (1, .t 112))]⟩, 4, 0, false, []⟩,
 ⟨⟨none, none, .store (.t 4) (.t 109) 141⟩, 5, 0, false, []⟩,
 ⟨⟨none, none, .store (.t 5) (.t 113) 2⟩, 6, 0, false, []⟩])
 (.ret (some [4, 5]))))) (.seq (.reg false [⟨some 115, none, .bin .eql (.t 29) (.k (.c (.int .i64 6)))⟩,
 ⟨some 114, none, .mov (.t 115)⟩])
 (.cond (.t 114) (.seq (.reg false [⟨some 117, none, .fld (.t 2) 75⟩,
 ⟨some 118, none, .loadN (.t 117) 65⟩,
 ⟨some 119, none, .fld (.t 3) 1⟩,
 ⟨some 120, none, .load1 (.t 119)⟩,
 ⟨some 121, none, .call 68 [.t 118, .t 120]⟩,
 ⟨some 116, none, .mov (.t 121)⟩,
 ⟨some 122, none, .ext (.t 116) 0⟩,
 ⟨some 123, none, .ext (.t 116) 1⟩,
 ⟨some 20, none, .alloc [.bool false, .int .i64 0, .int .i64 0, .int .i64 0, .bool false, .int .i64 0, .int .i64 0, .int .i64 0, .bool false, .int .i64 0, .int .i64 0, .int .i64 0, .bool false, .int .i64 0, .int .i64 0, .int .i64 0, .bool false, .int .i64 0, .int .i64 0, .int .i64 0, .bool false, .int .i64 0, .int .i64 0, .int .i64 0, .bool false, .int .i64 0, .int .i64 0, .int .i64 0, .bool false, .int .i64 0, .int .i64 0, .int .i64 0, .bool false, .int .i64 0, .int .i64 0, .int .i64 0, .bool false, .int .i64 0, .int .i64 0, .int .i64 0, .bool false, .int .i64 0, .int .i64 0, .int .i64 0, .bool false, .int .i64 0, .int .i64 0, .int .i64 0, .bool false, .int .i64 0, .int .i64 0, .int .i64 0, .bool false, .int .i64 0, .int .i64 0, .int .i64 0, .bool false, .int .i64 0, .int .i64 0, .int .i64 0, .bool false, .int .i64 0, .int .i64 0, .int .i64 0, .int .i64 0] 49⟩,
 ⟨none, none, .store (.t 20) (.t 122) 65⟩,
 ⟨some 21, none, .mov (.t 123)⟩])
 (.seq (.reg false [⟨some 124, none, .loadN (.t 20) 65⟩,
 ⟨some 125, none, .fld (.t 2) 75⟩,
 ⟨none, none, .store (.t 125) (.t 124) 65⟩])
 (.seq (.regE 0 [⟨⟨some 126, none, .loadN (.t 2) 141⟩, 0, 0, false, []⟩,
 ⟨⟨some 127, none, .mov (.t 21)⟩, 1, 0, false, []⟩,
 ⟨⟨some 128, none, .call 69 [.t 127]⟩, 2, 0, false, [0]⟩,
 ⟨⟨some 129, none, .bld [.int .i64 0, .int .i64 0] [(0, (1, .t 128))]⟩, 3, 0, false, []⟩,
 ⟨⟨none, none, .store (.t 4) (.t 126) 141⟩, 4, 0, false, []⟩,
 ⟨⟨none, none, .store (.t 5) (.t 129) 2⟩, 5, 0, false, []⟩])
 (.ret (some [4, 5]))))) (.seq (.reg false [⟨some 131, none, .bin .eql (.t 29) (.k (.c (.int .i64 7)))⟩,
 ⟨some 130, none, .mov (.t 131)⟩])
 (.cond (.t 130) (.seq (.reg false [⟨some 133, none, .fld (.t 2) 75⟩,
 ⟨some 134, none, .loadN (.t 133) 65⟩,
 ⟨some 135, none, .fld (.t 3) 1⟩,
 ⟨some 136, none, .load1 (.t 135)⟩,
 ⟨some 137, none, .call 70 [.t 134, .t 136]⟩,
 ⟨some 132, none, .mov (.t 137)⟩,
 ⟨some 138, none, .ext (.t 132) 0⟩,
 ⟨some 139, none, .ext (.t 132) 1⟩,
 ⟨some 22, none, .alloc [.bool false, .int .i64 0, .int .i64 0, .int .i64 0, .bool false, .int .i64 0, .int .i64 0, .int .i64 0, .bool false, .int .i64 0, .int .i64 0, .int .i64 0, .bool false, .int .i64 0, .int .i64 0, .int .i64 0, .bool false, .int .i64 0, .int .i64 0, .int .i64 0, .bool false, .int .i64 0, .int .i64 0, .int .i64 0, .bool false, .int .i64 0, .int .i64 0, .int .i64 0, .bool false, .int .i64 0, .int .i64 0, .int .i64 0, .bool false, .int .i64 0, .int .i64 0, .int .i64 0, .bool false, .int .i64 0, .int .i64 0, .int .i64 0, .bool false, .int .i64 0, .int .i64 0, .int .i64 0, .bool false, .int .i64 0, .int .i64 0, .int .i64 0, .bool false, .int .i64 0, .int .i64 0, .int .i64 0, .bool false, .int .i64 0, .int .i64 0, .int .i64 0, .bool false, .int .i64 0, .int .i64 0, .int .i64 0, .bool false, .int .i64 0, .int .i64 0, .int .i64 0, .int .i64 0] 49⟩,
 ⟨none, none, .store (.t 22) (.t 138) 65⟩,
 ⟨some 23, none, .mov (.t 139)⟩])
 (.seq (.reg false [⟨some 140, none, .loadN (.t 22) 65⟩,
 ⟨some 141, none, .fld (.t 2) 75⟩,
 ⟨none, none, .store (.t 141) (.t 140) 65⟩])
 (.seq (.regE 0 [⟨⟨some 142, none, .loadN (.t 2) 141⟩, 0, 0, false, []⟩,
 ⟨⟨some 143, none, .mov (.t 23)⟩, 1, 0, false, []⟩,
 ⟨⟨some 144, none, .call 69 [.t 143]⟩, 2, 0, false, [0]⟩,
 ⟨⟨some 145, none, .bld [.int .i64 0, .int .i64 0] [(0, (1, .t 144))]⟩, 3, 0, false, []⟩,
 ⟨⟨none, none, .store (.t 4) (.t 142) 141⟩, 4, 0, false, []⟩,
 ⟨⟨none, none, .store (.t 5) (.t 145) 2⟩, 5, 0, false, []⟩])
 (.ret (some [4, 5]))))) (.seq (.reg false [⟨some 147, none, .bin .eql (.t 29) (.k (.c (.int .i64 8)))⟩,
 ⟨some 146, none, .mov (.t 147)⟩])
 (.cond (.t 146) (.seq (.reg false [⟨some 149, none, .fld (.t 2) 140⟩,
 ⟨some 150, none, .load1 (.t 149)⟩,
 ⟨some 151, none, .fld (.t 3) 1⟩,
 ⟨some 152, none, .load1 (.t 151)⟩,
 ⟨some 153, none, .call 71 [.t 150, .t 152]⟩,
 ⟨some 148, none, .mov (.t 153)⟩,
 ⟨some 154, none, .ext (.t 148) 0⟩,
 ⟨some 155, none, .ext (.t 148) 1⟩,
 ⟨some 24, none, .mov (.t 154)⟩,
 ⟨some 25, none, .mov (.t 155)⟩])
 (.seq (.reg false [⟨some 156, none, .mov (.t 24)⟩,
 ⟨some 157, none, .fld (.t 2) 140⟩,
 ⟨none, none, .store (.t 157) (.t 156) 1⟩])
 (.seq (.regE 0 [⟨⟨some 158, none, .loadN (.t 2) 141⟩, 0, 0, false, []⟩,
 ⟨⟨some 159, none, .mov (.t 25)⟩, 1, 0, false, []⟩,
 ⟨⟨some 160, none, .call 72 [.t 159]⟩, 2, 0, false, [0]⟩,
 ⟨⟨some 161, none, .bld [.int .i64 0, .int .i64 0] [(0, (1, .t 160))]⟩, 3, 0, false, []⟩,
 ⟨⟨none, none, .store (.t 4) (.t 158) 141⟩, 4, 0, false, []⟩,
 ⟨⟨none, none, .store (.t 5) (.t 161) 2⟩, 5, 0, false, []⟩])
 (.ret (some [4, 5]))))) .skip))))))))))))))))))
 (.seq (.reg false [⟨some 163, none, .fld (.t 2) 140⟩,
 ⟨some 164, none, .load1 (.t 163)⟩,
 ⟨some 165, none, .fld (.t 3) 1⟩,
 ⟨some 166, none, .load1 (.t 165)⟩,
 ⟨some 167, none, .call 73 [.t 164, .t 166]⟩,
 ⟨some 162, none, .mov (.t 167)⟩,
 ⟨some 168, none, .ext (.t 162) 0⟩,
 ⟨some 169, none, .ext (.t 162) 1⟩,
 ⟨some 26, none, .mov (.t 168)⟩,
 ⟨some 27, none, .mov (.t 169)⟩])
 (.seq (.reg false [⟨some 170, none, .mov (.t 26)⟩,
 ⟨some 171, none, .fld (.t 2) 140⟩,
 ⟨none, none, .store (.t 171) (.t 170) 1⟩])
 (.seq (.regE 0 [⟨⟨some 172, none, .loadN (.t 2) 141⟩, 0, 0, false, []⟩,
 ⟨⟨some 173, none, .mov (.t 27)⟩, 1, 0, false, []⟩,
 ⟨⟨some 174, none, .call 72 [.t 173]⟩, 2, 0, false, [0]⟩,
 ⟨⟨some 175, none, .bld [.int .i64 0, .int .i64 0] [(0, (1, .t 174))]⟩, 3, 0, false, []⟩,
 ⟨⟨none, none, .store (.t 4) (.t 172) 141⟩, 4, 0, false, []⟩,
 ⟨⟨none, none, .store (.t 5) (.t 175) 2⟩, 5, 0, false, []⟩])
 (.ret (some [4, 5])))))))⟩
theorem c_spec_l17Deed_ok : trF Tryz.prog ⟨[], [4, 5], false, false⟩ Tryz.f38 = some c_spec_l17Deed := by kernel_rfl
def c_laws_toChain : IFn := ⟨12, [.cell 2 65 true],
  (.seq (.reg false [⟨some 1, none, .box (.t 0) 26⟩,
 ⟨some 2, none, .alloc [.bool false, .int .i64 0, .int .i64 0, .int .i64 0, .bool false, .int .i64 0, .int .i64 0, .int .i64 0, .bool false, .int .i64 0, .int .i64 0, .int .i64 0, .bool false, .int .i64 0, .int .i64 0, .int .i64 0, .bool false, .int .i64 0, .int .i64 0, .int .i64 0, .bool false, .int .i64 0, .int .i64 0, .int .i64 0, .bool false, .int .i64 0, .int .i64 0, .int .i64 0, .bool false, .int .i64 0, .int .i64 0, .int .i64 0, .bool false, .int .i64 0, .int .i64 0, .int .i64 0, .bool false, .int .i64 0, .int .i64 0, .int .i64 0, .bool false, .int .i64 0, .int .i64 0, .int .i64 0, .bool false, .int .i64 0, .int .i64 0, .int .i64 0, .bool false, .int .i64 0, .int .i64 0, .int .i64 0, .bool false, .int .i64 0, .int .i64 0, .int .i64 0, .bool false, .int .i64 0, .int .i64 0, .int .i64 0, .bool false, .int .i64 0, .int .i64 0, .int .i64 0, .int .i64 0] 44⟩])
 (.seq (.reg false [⟨some 3, none, .alloc [.bool false, .int .i64 0, .int .i64 0, .int .i64 0, .bool false, .int .i64 0, .int .i64 0, .int .i64 0, .bool false, .int .i64 0, .int .i64 0, .int .i64 0, .bool false, .int .i64 0, .int .i64 0, .int .i64 0, .bool false, .int .i64 0, .int .i64 0, .int .i64 0, .bool false, .int .i64 0, .int .i64 0, .int .i64 0, .bool false, .int .i64 0, .int .i64 0, .int .i64 0, .bool false, .int .i64 0, .int .i64 0, .int .i64 0, .bool false, .int .i64 0, .int .i64 0, .int .i64 0, .bool false, .int .i64 0, .int .i64 0, .int .i64 0, .bool false, .int .i64 0, .int .i64 0, .int .i64 0, .bool false, .int .i64 0, .int .i64 0, .int .i64 0, .bool false, .int .i64 0, .int .i64 0, .int .i64 0, .bool false, .int .i64 0, .int .i64 0, .int .i64 0, .bool false, .int .i64 0, .int .i64 0, .int .i64 0, .bool false, .int .i64 0, .int .i64 0, .int .i64 0, .int .i64 0] 44⟩])
 (.seq (.reg false [⟨some 4, none, .fld (.t 1) 0⟩,
 ⟨some 5, none, .loadN (.t 4) 64⟩,
 ⟨some 6, none, .call 74 [.t 5]⟩,
 ⟨some 7, none, .fld (.t 3) 0⟩,
 ⟨none, none, .store (.t 7) (.t 6) 64⟩])
 (.seq (.reg false [⟨some 8, none, .fld (.t 1) 64⟩,
 ⟨some 9, none, .load1 (.t 8)⟩,
 ⟨some 10, none, .fld (.t 3) 64⟩,
 ⟨none, none, .store (.t 10) (.t 9) 1⟩])
 (.seq (.reg false [⟨some 11, none, .loadN (.t 3) 65⟩,
 ⟨none, none, .store (.t 2) (.t 11) 65⟩])
 (.ret (some [2])))))))⟩
theorem c_laws_toChain_ok : trF Tryz.prog ⟨[], [2], false, false⟩ Tryz.f39 = some c_laws_toChain := by kernel_rfl
def c_laws_toRing : IFn := ⟨15, [.cell 2 10 true],
  (.seq (.reg false [⟨some 1, none, .box (.t 0) 29⟩,
 ⟨some 2, none, .alloc [.int .i64 0, .int .i64 0, .int .i64 0, .int .i64 0, .int .i64 0, .int .i64 0, .int .i64 0, .int .i64 0, .int .i64 0, .int .i64 0] 45⟩])
 (.seq (.reg false [⟨some 3, none, .alloc [.int .i64 0, .int .i64 0, .int .i64 0, .int .i64 0, .int .i64 0, .int .i64 0, .int .i64 0, .int .i64 0, .int .i64 0, .int .i64 0] 45⟩])
 (.seq (.reg false [⟨some 4, none, .fld (.t 1) 0⟩,
 ⟨some 5, none, .loadN (.t 4) 8⟩,
 ⟨some 6, none, .call 75 [.t 5]⟩,
 ⟨some 7, none, .fld (.t 3) 0⟩,
 ⟨none, none, .store (.t 7) (.t 6) 8⟩])
 (.seq (.reg false [⟨some 8, none, .fld (.t 1) 8⟩,
 ⟨some 9, none, .load1 (.t 8)⟩,
 ⟨some 10, none, .fld (.t 3) 8⟩,
 ⟨none, none, .store (.t 10) (.t 9) 1⟩])
 (.seq (.reg false [⟨some 11, none, .fld (.t 1) 9⟩,
 ⟨some 12, none, .load1 (.t 11)⟩,
 ⟨some 13, none, .fld (.t 3) 9⟩,
 ⟨none, none, .store (.t 13) (.t 12) 1⟩])
 (.seq (.reg false [⟨some 14, none, .loadN (.t 3) 10⟩,
 ⟨none, none, .store (.t 2) (.t 14) 10⟩])
 (.ret (some [2]))))))))⟩
theorem c_laws_toRing_ok : trF Tryz.prog ⟨[], [2], false, false⟩ Tryz.f40 = some c_laws_toRing := by kernel_rfl
def c_laws_toTree : IFn := ⟨12, [.cell 2 65 true],
  (.seq (.reg false [⟨some 1, none, .box (.t 0) 34⟩,
 ⟨some 2, none, .alloc [.bool false, .int .i64 0, .int .i64 0, .int .i64 0, .bool false, .int .i64 0, .int .i64 0, .int .i64 0, .bool false, .int .i64 0, .int .i64 0, .int .i64 0, .bool false, .int .i64 0, .int .i64 0, .int .i64 0, .bool false, .int .i64 0, .int .i64 0, .int .i64 0, .bool false, .int .i64 0, .int .i64 0, .int .i64 0, .bool false, .int .i64 0, .int .i64 0, .int .i64 0, .bool false, .int .i64 0, .int .i64 0, .int .i64 0, .bool false, .int .i64 0, .int .i64 0, .int .i64 0, .bool false, .int .i64 0, .int .i64 0, .int .i64 0, .bool false, .int .i64 0, .int .i64 0, .int .i64 0, .bool false, .int .i64 0, .int .i64 0, .int .i64 0, .bool false, .int .i64 0, .int .i64 0, .int .i64 0, .bool false, .int .i64 0, .int .i64 0, .int .i64 0, .bool false, .int .i64 0, .int .i64 0, .int .i64 0, .bool false, .int .i64 0, .int .i64 0, .int .i64 0, .int .i64 0] 49⟩])
 (.seq (.reg false [⟨some 3, none, .alloc [.bool false, .int .i64 0, .int .i64 0, .int .i64 0, .bool false, .int .i64 0, .int .i64 0, .int .i64 0, .bool false, .int .i64 0, .int .i64 0, .int .i64 0, .bool false, .int .i64 0, .int .i64 0, .int .i64 0, .bool false, .int .i64 0, .int .i64 0, .int .i64 0, .bool false, .int .i64 0, .int .i64 0, .int .i64 0, .bool false, .int .i64 0, .int .i64 0, .int .i64 0, .bool false, .int .i64 0, .int .i64 0, .int .i64 0, .bool false, .int .i64 0, .int .i64 0, .int .i64 0, .bool false, .int .i64 0, .int .i64 0, .int .i64 0, .bool false, .int .i64 0, .int .i64 0, .int .i64 0, .bool false, .int .i64 0, .int .i64 0, .int .i64 0, .bool false, .int .i64 0, .int .i64 0, .int .i64 0, .bool false, .int .i64 0, .int .i64 0, .int .i64 0, .bool false, .int .i64 0, .int .i64 0, .int .i64 0, .bool false, .int .i64 0, .int .i64 0, .int .i64 0, .int .i64 0] 49⟩])
 (.seq (.reg false [⟨some 4, none, .fld (.t 1) 0⟩,
 ⟨some 5, none, .loadN (.t 4) 64⟩,
 ⟨some 6, none, .call 76 [.t 5]⟩,
 ⟨some 7, none, .fld (.t 3) 0⟩,
 ⟨none, none, .store (.t 7) (.t 6) 64⟩])
 (.seq (.reg false [⟨some 8, none, .fld (.t 1) 64⟩,
 ⟨some 9, none, .load1 (.t 8)⟩,
 ⟨some 10, none, .fld (.t 3) 64⟩,
 ⟨none, none, .store (.t 10) (.t 9) 1⟩])
 (.seq (.reg false [⟨some 11, none, .loadN (.t 3) 65⟩,
 ⟨none, none, .store (.t 2) (.t 11) 65⟩])
 (.ret (some [2])))))))⟩
theorem c_laws_toTree_ok : trF Tryz.prog ⟨[], [2], false, false⟩ Tryz.f41 = some c_laws_toTree := by kernel_rfl
def c_laws_toIntSS_b0 : IC :=
  (.seq (.seq (.reg false [⟨some 8, none, .mov (.t 4)⟩,
 ⟨some 9, none, .mov (.t 0)⟩,
 ⟨some 10, none, .len (.t 9)⟩,
 ⟨some 11, none, .bin .lss (.t 8) (.t 10)⟩])
 (.cond (.t 11) .skip (.exit 0)))
 (.seq (.block 1 none none
 (.reg false [⟨some 14, none, .mov (.t 3)⟩,
 ⟨some 15, none, .mov (.t 4)⟩,
 ⟨some 16, none, .mov (.t 0)⟩,
 ⟨some 17, none, .mov (.t 4)⟩,
 ⟨some 18, none, .ixs (.t 16) (.t 17) 1⟩,
 ⟨some 19, none, .load1 (.t 18)⟩,
 ⟨some 20, none, .call 77 [.t 19]⟩,
 ⟨some 21, none, .ixs (.t 14) (.t 15) 1⟩,
 ⟨none, none, .store (.t 21) (.t 20) 1⟩]))
 (.reg false [⟨some 12, none, .mov (.t 4)⟩,
 ⟨some 13, none, .bin .add (.t 12) (.k (.c (.int .i64 1)))⟩,
 ⟨some 4, none, .mov (.t 13)⟩])))
def c_laws_toIntSS : IFn := ⟨23, [.t 2],
  (.seq (.reg false [⟨some 2, none, .mov (.k (.c .nils))⟩])
 (.seq (.reg false [⟨some 5, none, .mov (.t 0)⟩,
 ⟨some 6, none, .len (.t 5)⟩,
 ⟨some 7, none, .mks (.t 6) [.nils] 103 24⟩,
 ⟨some 3, none, .mov (.t 7)⟩])
 (.seq (.seq (.reg false [⟨some 4, none, .mov (.k (.c (.int .i64 0)))⟩])
 (.block 0 (some [0, 3, 4]) (some [3])
 (.loop c_laws_toIntSS_b0)))
 (.seq (.reg false [⟨some 22, none, .mov (.t 3)⟩,
 ⟨some 2, none, .mov (.t 22)⟩])
 (.ret (some [2]))))))⟩
theorem c_laws_toIntSS_ok : trF Tryz.prog ⟨[(0, [0, 3, 4], [3])], [2], false, false⟩ Tryz.f42 = some c_laws_toIntSS := by kernel_rfl
def c_impl_ownSpace : IFn := ⟨8, [.cell 2 141 true],
  (.seq (.reg false [⟨some 1, none, .box (.t 0) 51⟩,
 ⟨some 2, none, .alloc [.bool false, .int .i64 0, .int .i64 0, .int .i64 0, .bool false, .int .i64 0, .int .i64 0, .int .i64 0, .bool false, .int .i64 0, .int .i64 0, .int .i64 0, .bool false, .int .i64 0, .int .i64 0, .int .i64 0, .bool false, .int .i64 0, .int .i64 0, .int .i64 0, .bool false, .int .i64 0, .int .i64 0, .int .i64 0, .bool false, .int .i64 0, .int .i64 0, .int .i64 0, .bool false, .int .i64 0, .int .i64 0, .int .i64 0, .bool false, .int .i64 0, .int .i64 0, .int .i64 0, .bool false, .int .i64 0, .int .i64 0, .int .i64 0, .bool false, .int .i64 0, .int .i64 0, .int .i64 0, .bool false, .int .i64 0, .int .i64 0, .int .i64 0, .bool false, .int .i64 0, .int .i64 0, .int .i64 0, .bool false, .int .i64 0, .int .i64 0, .int .i64 0, .bool false, .int .i64 0, .int .i64 0, .int .i64 0, .bool false, .int .i64 0, .int .i64 0, .int .i64 0, .int .i64 0, .int .i64 0, .int .i64 0, .int .i64 0, .int .i64 0, .int .i64 0, .int .i64 0, .int .i64 0, .int .i64 0, .int .i64 0, .int .i64 0, .bool false, .int .i64 0, .int .i64 0, .int .i64 0, .bool false, .int .i64 0, .int .i64 0, .int .i64 0, .bool false, .int .i64 0, .int .i64 0, .int .i64 0, .bool false, .int .i64 0, .int .i64 0, .int .i64 0, .bool false, .int .i64 0, .int .i64 0, .int .i64 0, .bool false, .int .i64 0, .int .i64 0, .int .i64 0, .bool false, .int .i64 0, .int .i64 0, .int .i64 0, .bool false, .int .i64 0, .int .i64 0, .int .i64 0, .bool false, .int .i64 0, .int .i64 0, .int .i64 0, .bool false, .int .i64 0, .int .i64 0, .int .i64 0, .bool false, .int .i64 0, .int .i64 0, .int .i64 0, .bool false, .int .i64 0, .int .i64 0, .int .i64 0, .bool false, .int .i64 0, .int .i64 0, .int .i64 0, .bool false, .int .i64 0, .int .i64 0, .int .i64 0, .bool false, .int .i64 0, .int .i64 0, .int .i64 0, .bool false, .int .i64 0, .int .i64 0, .int .i64 0, .int .i64 0, .nils] 51⟩])
 (.seq (.reg false [⟨some 3, none, .fld (.t 1) 140⟩,
 ⟨some 4, none, .load1 (.t 3)⟩,
 ⟨some 5, none, .call 78 [.t 4]⟩,
 ⟨some 6, none, .fld (.t 1) 140⟩,
 ⟨none, none, .store (.t 6) (.t 5) 1⟩])
 (.seq (.reg false [⟨some 7, none, .loadN (.t 1) 141⟩,
 ⟨none, none, .store (.t 2) (.t 7) 141⟩])
 (.ret (some [2])))))⟩
theorem c_impl_ownSpace_ok : trF Tryz.prog ⟨[], [2], false, false⟩ Tryz.f43 = some c_impl_ownSpace := by kernel_rfl
def c_impl_SpaceOk : IFn := ⟨21, [.t 2],
  (.seq (.reg false [⟨some 1, none, .box (.t 0) 51⟩,
 ⟨some 2, none, .mov (.k (.c (.bool false)))⟩])
 (.seq (.reg false [⟨some 3, none, .fld (.t 1) 0⟩,
 ⟨some 4, none, .loadN (.t 3) 65⟩,
 ⟨some 5, none, .call 79 [.t 4]⟩,
 ⟨some 6, none, .mov (.t 5)⟩,
 ⟨some 7, some (6, true), .fld (.t 1) 65⟩,
 ⟨some 8, some (6, true), .loadN (.t 7) 10⟩,
 ⟨some 9, some (6, true), .call 80 [.t 8]⟩,
 ⟨some 10, none, .pick (.t 6) (.t 9) (.k (.c (.bool false)))⟩,
 ⟨some 11, none, .mov (.t 10)⟩,
 ⟨some 12, some (11, true), .fld (.t 1) 75⟩,
 ⟨some 13, some (11, true), .loadN (.t 12) 65⟩,
 ⟨some 14, some (11, true), .call 81 [.t 13]⟩,
 ⟨some 15, none, .pick (.t 11) (.t 14) (.k (.c (.bool false)))⟩,
 ⟨some 16, none, .mov (.t 15)⟩,
 ⟨some 17, some (16, true), .fld (.t 1) 140⟩,
 ⟨some 18, some (16, true), .load1 (.t 17)⟩,
 ⟨some 19, some (16, true), .call 82 [.t 18]⟩,
 ⟨some 20, none, .pick (.t 16) (.t 19) (.k (.c (.bool false)))⟩,
 ⟨some 2, none, .mov (.t 20)⟩])
 (.ret (some [2]))))⟩
theorem c_impl_SpaceOk_ok : trF Tryz.prog ⟨[], [2], false, false⟩ Tryz.f44 = some c_impl_SpaceOk := by kernel_rfl
def c_impl_in : IFn := ⟨15, [.t 6],
  (.seq (.reg false [⟨some 6, none, .mov (.k (.c (.bool false)))⟩])
 (.seq (.reg false [⟨some 7, none, .mov (.t 1)⟩,
 ⟨some 8, none, .mov (.t 0)⟩,
 ⟨some 9, none, .bin .leq (.t 7) (.t 8)⟩,
 ⟨some 10, none, .mov (.t 9)⟩,
 ⟨some 11, some (10, true), .mov (.t 0)⟩,
 ⟨some 12, some (10, true), .mov (.t 2)⟩,
 ⟨some 13, some (10, true), .bin .leq (.t 11) (.t 12)⟩,
 ⟨some 14, none, .pick (.t 10) (.t 13) (.k (.c (.bool false)))⟩,
 ⟨some 6, none, .mov (.t 14)⟩])
 (.ret (some [6]))))⟩
theorem c_impl_in_ok : trF Tryz.prog ⟨[], [6], false, false⟩ Tryz.f45 = some c_impl_in := by kernel_rfl
def c_impl_isValue : IFn := ⟨5, [.t 2],
  (.seq (.reg false [⟨some 2, none, .mov (.k (.c (.bool false)))⟩])
 (.seq (.reg false [⟨some 3, none, .mov (.t 0)⟩,
 ⟨some 4, none, .call 45 [.t 3, .k (.c (.int .i64 (-1000000000))), .k (.c (.int .i64 1000000000))]⟩,
 ⟨some 2, none, .mov (.t 4)⟩])
 (.ret (some [2]))))⟩
theorem c_impl_isValue_ok : trF Tryz.prog ⟨[], [2], false, false⟩ Tryz.f46 = some c_impl_isValue := by kernel_rfl
def c_impl_Space_deed : IFn := ⟨177, [.cell 4 2 true],
  (.seq (.reg false [⟨some 3, none, .box (.t 1) 57⟩,
 ⟨some 4, none, .alloc [.int .i64 0, .int .i64 0] 53⟩])
 (.seq (.reg false [⟨some 5, none, .mov (.k (.c (.int .i64 0)))⟩,
 ⟨some 6, none, .mov (.k (.c (.int .i64 0)))⟩])
 (.seq (.seq (.reg false [⟨some 7, none, .fld (.t 3) 0⟩,
 ⟨some 8, none, .load1 (.t 7)⟩])
 (.block 0 none none
 (.seq (.reg false [⟨some 10, none, .bin .eql (.t 8) (.k (.c (.int .i64 1)))⟩,
 ⟨some 9, none, .mov (.t 10)⟩])
 (.cond (.t 9) (.regE 0 [⟨⟨some 12, none, .mov (.t 0)⟩, 0, 0, false, []⟩,
 ⟨⟨some 13, none, .mov (.t 0)⟩, 1, 0, false, []⟩,
 ⟨⟨some 14, none, .chk (.t 13)⟩, 2, 0, false, []⟩,
 ⟨⟨some 15, none, .fld (.t 14) 0⟩, 3, 0, false, []⟩,
 ⟨⟨some 16, none, .loadN (.t 15) 65⟩, 4, 0, false, []⟩,
 ⟨⟨some 17, none, .fld (.t 3) 1⟩, 5, 0, false, []⟩,
 ⟨⟨some 18, none, .load1 (.t 17)⟩, 6, 0, false, []⟩,
 ⟨⟨some 19, none, .fld (.t 3) 2⟩, 7, 0, false, []⟩,
 ⟨⟨some 20, none, .load1 (.t 19)⟩, 8, 0, false, []⟩,
 ⟨⟨some 21, none, .call 83 [.t 16, .t 18, .t 20]⟩, 9, 0, false, []⟩,
 ⟨⟨some 11, none, .mov (.t 21)⟩, 10, 0, false, []⟩,
 ⟨⟨some 22, none, .ext (.t 11) 0⟩, 11, 0, false, []⟩,
 ⟨⟨some 23, none, .ext (.t 11) 1⟩, 12, 0, false, []⟩,
 ⟨⟨some 24, none, .ext (.t 11) 2⟩, 13, 0, false, []⟩,
 ⟨⟨some 25, none, .chk (.t 12)⟩, 14, 0, false, []⟩,
 ⟨⟨some 26, none, .fld (.t 25) 0⟩, 15, 0, false, []⟩,
 ⟨⟨none, none, .store (.t 26) (.t 22) 65⟩, 16, 0, false, []⟩,
 ⟨⟨some 5, none, .mov (.t 24)⟩, 17, 0, false, []⟩]) (.seq (.reg false [⟨some 28, none, .bin .eql (.t 8) (.k (.c (.int .i64 2)))⟩,
 ⟨some 27, none, .mov (.t 28)⟩])
 (.cond (.t 27) (.regE 0 [⟨⟨some 30, none, .mov (.t 0)⟩, 0, 0, false, []⟩,
 ⟨⟨some 31, none, .mov (.t 0)⟩, 1, 0, false, []⟩,
 ⟨⟨some 32, none, .chk (.t 31)⟩, 2, 0, false, []⟩,
 ⟨⟨some 33, none, .fld (.t 32) 0⟩, 3, 0, false, []⟩,
 ⟨⟨some 34, none, .loadN (.t 33) 65⟩, 4, 0, false, []⟩,
 ⟨⟨some 35, none, .fld (.t 3) 1⟩, 5, 0, false, []⟩,
 ⟨⟨some 36, none, .load1 (.t 35)⟩, 6, 0, false, []⟩,
 ⟨⟨some 37, none, .call 84 [.t 34, .t 36]⟩, 7, 0, false, []⟩,
 ⟨⟨some 29, none, .mov (.t 37)⟩, 8, 0, false, []⟩,
 ⟨⟨some 38, none, .ext (.t 29) 0⟩, 9, 0, false, []⟩,
 ⟨⟨some 39, none, .ext (.t 29) 1⟩, 10, 0, false, []⟩,
 ⟨⟨some 40, none, .ext (.t 29) 2⟩, 11, 0, false, []⟩,
 ⟨⟨some 41, none, .chk (.t 30)⟩, 12, 0, false, []⟩,
 ⟨⟨some 42, none, .fld (.t 41) 0⟩, 13, 0, false, []⟩,
 ⟨⟨none, none, .store (.t 42) (.t 38) 65⟩, 14, 0, false, []⟩,
 ⟨⟨some 5, none, .mov (.t 40)⟩, 15, 0, false, []⟩]) (.seq (.reg false [⟨some 44, none, .bin .eql (.t 8) (.k (.c (.int .i64 3)))⟩,
 ⟨some 43, none, .mov (.t 44)⟩])
 (.cond (.t 43) (.reg true [⟨some 46, none, .mov (.t 0)⟩,
 ⟨some 47, none, .chk (.t 46)⟩,
 ⟨some 48, none, .fld (.t 47) 0⟩,
 ⟨some 49, none, .loadN (.t 48) 65⟩,
 ⟨some 50, none, .fld (.t 3) 1⟩,
 ⟨some 51, none, .load1 (.t 50)⟩,
 ⟨some 52, none, .call 85 [.t 49, .t 51]⟩,
 ⟨some 45, none, .mov (.t 52)⟩,
 ⟨some 53, none, .ext (.t 45) 0⟩,
 ⟨some 54, none, .ext (.t 45) 1⟩,
 ⟨some 55, none, .ext (.t 45) 2⟩,
 ⟨some 6, none, .mov (.t 53)⟩,
 ⟨some 5, none, .mov (.t 55)⟩]) (.seq (.reg false [⟨some 57, none, .bin .eql (.t 8) (.k (.c (.int .i64 4)))⟩,
 ⟨some 56, none, .mov (.t 57)⟩])
 (.cond (.t 56) (.regE 0 [⟨⟨some 59, none, .mov (.t 0)⟩, 0, 0, false, []⟩,
 ⟨⟨some 60, none, .mov (.t 0)⟩, 1, 0, false, []⟩,
 ⟨⟨some 61, none, .chk (.t 60)⟩, 2, 0, false, []⟩,
 ⟨⟨some 62, none, .fld (.t 61) 65⟩, 3, 0, false, []⟩,
 ⟨⟨some 63, none, .loadN (.t 62) 10⟩, 4, 0, false, []⟩,
 ⟨⟨some 64, none, .fld (.t 3) 1⟩, 5, 0, false, []⟩,
 ⟨⟨some 65, none, .load1 (.t 64)⟩, 6, 0, false, []⟩,
 ⟨⟨some 66, none, .call 86 [.t 63, .t 65]⟩, 7, 0, false, []⟩,
 ⟨⟨some 58, none, .mov (.t 66)⟩, 8, 0, false, []⟩,
 ⟨⟨some 67, none, .ext (.t 58) 0⟩, 9, 0, false, []⟩,
 ⟨⟨some 68, none, .ext (.t 58) 1⟩, 10, 0, false, []⟩,
 ⟨⟨some 69, none, .chk (.t 59)⟩, 11, 0, false, []⟩,
 ⟨⟨some 70, none, .fld (.t 69) 65⟩, 12, 0, false, []⟩,
 ⟨⟨none, none, .store (.t 70) (.t 67) 10⟩, 13, 0, false, []⟩,
 ⟨⟨some 5, none, .mov (.t 68)⟩, 14, 0, false, []⟩]) (.seq (.reg false [⟨some 72, none, .bin .eql (.t 8) (.k (.c (.int .i64 5)))⟩,
 ⟨some 71, none, .mov (.t 72)⟩])
 (.cond (.t 71) (.reg false [⟨some 74, none, .mov (.t 0)⟩,
 ⟨some 75, none, .mov (.t 0)⟩,
 ⟨some 76, none, .chk (.t 75)⟩,
 ⟨some 77, none, .fld (.t 76) 65⟩,
 ⟨some 78, none, .loadN (.t 77) 10⟩,
 ⟨some 79, none, .call 87 [.t 78]⟩,
 ⟨some 73, none, .mov (.t 79)⟩,
 ⟨some 80, none, .ext (.t 73) 0⟩,
 ⟨some 81, none, .ext (.t 73) 1⟩,
 ⟨some 82, none, .ext (.t 73) 2⟩,
 ⟨some 83, none, .chk (.t 74)⟩,
 ⟨some 84, none, .fld (.t 83) 65⟩,
 ⟨none, none, .store (.t 84) (.t 80) 10⟩,
 ⟨some 6, none, .mov (.t 81)⟩,
 ⟨some 5, none, .mov (.t 82)⟩]) (.seq (.reg false [⟨some 86, none, .bin .eql (.t 8) (.k (.c (.int .i64 6)))⟩,
 ⟨some 85, none, .mov (.t 86)⟩])
 (.cond (.t 85) (.regE 0 [⟨⟨some 88, none, .mov (.t 0)⟩, 0, 0, false, []⟩,
 ⟨⟨some 89, none, .mov (.t 0)⟩, 1, 0, false, []⟩,
 ⟨⟨some 90, none, .chk (.t 89)⟩, 2, 0, false, []⟩,
 ⟨⟨some 91, none, .fld (.t 90) 75⟩, 3, 0, false, []⟩,
 ⟨⟨some 92, none, .loadN (.t 91) 65⟩, 4, 0, false, []⟩,
 ⟨⟨some 93, none, .fld (.t 3) 1⟩, 5, 0, false, []⟩,
 ⟨⟨some 94, none, .load1 (.t 93)⟩, 6, 0, false, []⟩,
 ⟨⟨some 95, none, .call 88 [.t 92, .t 94]⟩, 7, 0, false, []⟩,
 ⟨⟨some 87, none, .mov (.t 95)⟩, 8, 0, false, []⟩,
 ⟨⟨some 96, none, .ext (.t 87) 0⟩, 9, 0, false, []⟩,
 ⟨⟨some 97, none, .ext (.t 87) 1⟩, 10, 0, false, []⟩,
 ⟨⟨some 98, none, .chk (.t 88)⟩, 11, 0, false, []⟩,
 ⟨⟨some 99, none, .fld (.t 98) 75⟩, 12, 0, false, []⟩,
 ⟨⟨none, none, .store (.t 99) (.t 96) 65⟩, 13, 0, false, []⟩,
 ⟨⟨some 5, none, .mov (.t 97)⟩, 14, 0, false, []⟩]) (.seq (.reg false [⟨some 101, none, .bin .eql (.t 8) (.k (.c (.int .i64 7)))⟩,
 ⟨some 100, none, .mov (.t 101)⟩])
 (.cond (.t 100) (.regE 0 [⟨⟨some 103, none, .mov (.t 0)⟩, 0, 0, false, []⟩,
 ⟨⟨some 104, none, .mov (.t 0)⟩, 1, 0, false, []⟩,
 ⟨⟨some 105, none, .chk (.t 104)⟩, 2, 0, false, []⟩,
 ⟨⟨some 106, none, .fld (.t 105) 75⟩, 3, 0, false, []⟩,
 ⟨⟨some 107, none, .loadN (.t 106) 65⟩, 4, 0, false, []⟩,
 ⟨⟨some 108, none, .fld (.t 3) 1⟩, 5, 0, false, []⟩,
 ⟨⟨some 109, none, .load1 (.t 108)⟩, 6, 0, false, []⟩,
 ⟨⟨some 110, none, .call 89 [.t 107, .t 109]⟩, 7, 0, false, []⟩,
 ⟨⟨some 102, none, .mov (.t 110)⟩, 8, 0, false, []⟩,
 ⟨⟨some 111, none, .ext (.t 102) 0⟩, 9, 0, false, []⟩,
 ⟨⟨some 112, none, .ext (.t 102) 1⟩, 10, 0, false, []⟩,
 ⟨⟨some 113, none, .chk (.t 103)⟩, 11, 0, false, []⟩,
 ⟨⟨some 114, none, .fld (.t 113) 75⟩, 12, 0, false, []⟩,
 ⟨⟨none, none, .store (.t 114) (.t 111) 65⟩, 13, 0, false, []⟩,
 ⟨⟨some 5, none, .mov (.t 112)⟩, 14, 0, false, []⟩]) (.seq (.reg false [⟨some 116, none, .bin .eql (.t 8) (.k (.c (.int .i64 8)))⟩,
 ⟨some 115, none, .mov (.t 116)⟩])
 (.cond (.t 115) (.regE 0 [⟨⟨some 118, none, .mov (.t 0)⟩, 0, 0, false, []⟩,
 ⟨⟨some 119, none, .mov (.t 0)⟩, 1, 0, false, []⟩,
 ⟨⟨some 120, none, .chk (.t 119)⟩, 2, 0, false, []⟩,
 ⟨⟨some 121, none, .fld (.t 120) 140⟩, 3, 0, false, []⟩,
 ⟨⟨some 122, none, .load1 (.t 121)⟩, 4, 0, false, []⟩,
 ⟨⟨some 123, none, .fld (.t 3) 1⟩, 5, 0, false, []⟩,
 ⟨⟨some 124, none, .load1 (.t 123)⟩, 6, 0, false, []⟩,
 ⟨⟨some 125, none, .call 90 [.t 122, .t 124]⟩, 7, 0, false, []⟩,
 ⟨⟨some 117, none, .mov (.t 125)⟩, 8, 0, false, []⟩,
 ⟨⟨some 126, none, .ext (.t 117) 0⟩, 9, 0, false, []⟩,
 ⟨⟨some 127, none, .ext (.t 117) 1⟩, 10, 0, false, []⟩,
 ⟨⟨some 128, none, .chk (.t 118)⟩, 11, 0, false, []⟩,
 ⟨⟨some 129, none, .fld (.t 128) 140⟩, 12, 0, false, []⟩,
 ⟨⟨none, none, .store (.t 129) (.t 126) 1⟩, 13, 0, false, []⟩,
 ⟨⟨some 5, none, .mov (.t 127)⟩, 14, 0, false, []⟩]) (.seq (.reg false [⟨some 131, none, .bin .eql (.t 8) (.k (.c (.int .i64 9)))⟩,
 ⟨some 130, none, .mov (.t 131)⟩])
 (.cond (.t 130) (.regE 0 [⟨⟨some 133, none, .mov (.t 0)⟩, 0, 0, false, []⟩,
 ⟨⟨some 134, none, .mov (.t 0)⟩, 1, 0, false, []⟩,
 ⟨⟨some 135, none, .chk (.t 134)⟩, 2, 0, false, []⟩,
 ⟨⟨some 136, none, .fld (.t 135) 140⟩, 3, 0, false, []⟩,
 ⟨⟨some 137, none, .load1 (.t 136)⟩, 4, 0, false, []⟩,
 ⟨⟨some 138, none, .fld (.t 3) 1⟩, 5, 0, false, []⟩,
 ⟨⟨some 139, none, .load1 (.t 138)⟩, 6, 0, false, []⟩,
 ⟨⟨some 140, none, .call 91 [.t 137, .t 139]⟩, 7, 0, false, []⟩,
 ⟨⟨some 132, none, .mov (.t 140)⟩, 8, 0, false, []⟩,
 ⟨⟨some 141, none, .ext (.t 132) 0⟩, 9, 0, false, []⟩,
 ⟨⟨some 142, none, .ext (.t 132) 1⟩, 10, 0, false, []⟩,
 ⟨⟨some 143, none, .chk (.t 133)⟩, 11, 0, false, []⟩,
 ⟨⟨some 144, none, .fld (.t 143) 140⟩, 12, 0, false, []⟩,
 ⟨⟨none, none, .store (.t 144) (.t 141) 1⟩, 13, 0, false, []⟩,
 ⟨⟨some 5, none, .mov (.t 142)⟩, 14, 0, false, []⟩]) .skip))))))))))))))))))))
 (.seq (.block 1 none none
 (.seq (.reg false [⟨some 146, none, .fld (.t 3) 0⟩,
 ⟨some 147, none, .load1 (.t 146)⟩,
 ⟨some 148, none, .bin .leq (.t 147) (.k (.c (.int .i64 3)))⟩,
 ⟨some 145, none, .mov (.t 148)⟩])
 (.cond (.t 145) (.seq (.reg false [⟨some 149, none, .mov (.t 5)⟩,
 ⟨some 150, none, .lit 1 1 [.int .i64 0] [(0, .k (.c (.int .i64 4)))] 3⟩,
 ⟨some 151, none, .call 92 [.t 149, .t 150, .k (.c (.int .i64 2)), .k (.c (.int .i64 3))]⟩,
 ⟨some 152, none, .mov (.t 6)⟩,
 ⟨some 153, none, .bld [.int .i64 0, .int .i64 0] [(0, (1, .t 151)), (1, (1, .t 152))]⟩,
 ⟨none, none, .store (.t 4) (.t 153) 2⟩])
 (.ret (some [4]))) (.seq (.reg false [⟨some 155, none, .fld (.t 3) 0⟩,
 ⟨some 156, none, .load1 (.t 155)⟩,
 ⟨some 157, none, .bin .leq (.t 156) (.k (.c (.int .i64 5)))⟩,
 ⟨some 154, none, .mov (.t 157)⟩])
 (.cond (.t 154) (.seq (.reg false [⟨some 158, none, .mov (.t 5)⟩,
 ⟨some 159, none, .lit 1 1 [.int .i64 0] [(0, .k (.c (.int .i64 3)))] 3⟩,
 ⟨some 160, none, .call 92 [.t 158, .t 159, .k (.c (.int .i64 (-1))), .k (.c (.int .i64 2))]⟩,
 ⟨some 161, none, .mov (.t 6)⟩,
 ⟨some 162, none, .bld [.int .i64 0, .int .i64 0] [(0, (1, .t 160)), (1, (1, .t 161))]⟩,
 ⟨none, none, .store (.t 4) (.t 162) 2⟩])
 (.ret (some [4]))) (.seq (.reg false [⟨some 164, none, .fld (.t 3) 0⟩,
 ⟨some 165, none, .load1 (.t 164)⟩,
 ⟨some 166, none, .bin .leq (.t 165) (.k (.c (.int .i64 7)))⟩,
 ⟨some 163, none, .mov (.t 166)⟩])
 (.cond (.t 163) (.seq (.reg false [⟨some 167, none, .mov (.t 5)⟩,
 ⟨some 168, none, .lit 2 1 [.int .i64 0] [(0, .k (.c (.int .i64 4))), (1, .k (.c (.int .i64 5)))] 3⟩,
 ⟨some 169, none, .call 92 [.t 167, .t 168, .k (.c (.int .i64 2)), .k (.c (.int .i64 3))]⟩,
 ⟨some 170, none, .mov (.t 6)⟩,
 ⟨some 171, none, .bld [.int .i64 0, .int .i64 0] [(0, (1, .t 169)), (1, (1, .t 170))]⟩,
 ⟨none, none, .store (.t 4) (.t 171) 2⟩])
 (.ret (some [4]))) .skip)))))))
 (.seq (.reg false [⟨some 172, none, .mov (.t 5)⟩,
 ⟨some 173, none, .lit 2 1 [.int .i64 0] [(0, .k (.c (.int .i64 2))), (1, .k (.c (.int .i64 4)))] 3⟩,
 ⟨some 174, none, .call 92 [.t 172, .t 173, .k (.c (.int .i64 (-1))), .k (.c (.int .i64 3))]⟩,
 ⟨some 175, none, .mov (.t 6)⟩,
 ⟨some 176, none, .bld [.int .i64 0, .int .i64 0] [(0, (1, .t 174)), (1, (1, .t 175))]⟩,
 ⟨none, none, .store (.t 4) (.t 176) 2⟩])
 (.ret (some [4])))))))⟩
theorem c_impl_Space_deed_ok : trF Tryz.prog ⟨[], [4], false, false⟩ Tryz.f47 = some c_impl_Space_deed := by kernel_rfl
def c_laws_eqChain : IFn := ⟨16, [.t 4],
  (.seq (.reg false [⟨some 2, none, .box (.t 0) 44⟩,
 ⟨some 3, none, .box (.t 1) 44⟩,
 ⟨some 4, none, .mov (.k (.c (.bool false)))⟩])
 (.seq (.seq (.reg false [⟨some 5, none, .fld (.t 2) 0⟩,
 ⟨some 6, none, .loadN (.t 5) 64⟩,
 ⟨some 7, none, .fld (.t 3) 0⟩,
 ⟨some 8, none, .loadN (.t 7) 64⟩,
 ⟨some 9, none, .call 93 [.t 6, .t 8]⟩,
 ⟨some 10, none, .un .not (.t 9)⟩])
 (.cond (.t 10) (.seq (.reg false [⟨some 4, none, .mov (.k (.c (.bool false)))⟩])
 (.ret (some [4]))) .skip))
 (.seq (.seq (.reg false [⟨some 11, none, .fld (.t 2) 64⟩,
 ⟨some 12, none, .load1 (.t 11)⟩,
 ⟨some 13, none, .fld (.t 3) 64⟩,
 ⟨some 14, none, .load1 (.t 13)⟩,
 ⟨some 15, none, .bin .neq (.t 12) (.t 14)⟩])
 (.cond (.t 15) (.seq (.reg false [⟨some 4, none, .mov (.k (.c (.bool false)))⟩])
 (.ret (some [4]))) .skip))
 (.seq (.reg false [⟨some 4, none, .mov (.k (.c (.bool true)))⟩])
 (.ret (some [4]))))))⟩
theorem c_laws_eqChain_ok : trF Tryz.prog ⟨[], [4], false, false⟩ Tryz.f48 = some c_laws_eqChain := by kernel_rfl
def c_laws_eqRing : IFn := ⟨21, [.t 4],
  (.seq (.reg false [⟨some 2, none, .box (.t 0) 45⟩,
 ⟨some 3, none, .box (.t 1) 45⟩,
 ⟨some 4, none, .mov (.k (.c (.bool false)))⟩])
 (.seq (.seq (.reg false [⟨some 5, none, .fld (.t 2) 0⟩,
 ⟨some 6, none, .loadN (.t 5) 8⟩,
 ⟨some 7, none, .fld (.t 3) 0⟩,
 ⟨some 8, none, .loadN (.t 7) 8⟩,
 ⟨some 9, none, .call 94 [.t 6, .t 8]⟩,
 ⟨some 10, none, .un .not (.t 9)⟩])
 (.cond (.t 10) (.seq (.reg false [⟨some 4, none, .mov (.k (.c (.bool false)))⟩])
 (.ret (some [4]))) .skip))
 (.seq (.seq (.reg false [⟨some 11, none, .fld (.t 2) 8⟩,
 ⟨some 12, none, .load1 (.t 11)⟩,
 ⟨some 13, none, .fld (.t 3) 8⟩,
 ⟨some 14, none, .load1 (.t 13)⟩,
 ⟨some 15, none, .bin .neq (.t 12) (.t 14)⟩])
 (.cond (.t 15) (.seq (.reg false [⟨some 4, none, .mov (.k (.c (.bool false)))⟩])
 (.ret (some [4]))) .skip))
 (.seq (.seq (.reg false [⟨some 16, none, .fld (.t 2) 9⟩,
 ⟨some 17, none, .load1 (.t 16)⟩,
 ⟨some 18, none, .fld (.t 3) 9⟩,
 ⟨some 19, none, .load1 (.t 18)⟩,
 ⟨some 20, none, .bin .neq (.t 17) (.t 19)⟩])
 (.cond (.t 20) (.seq (.reg false [⟨some 4, none, .mov (.k (.c (.bool false)))⟩])
 (.ret (some [4]))) .skip))
 (.seq (.reg false [⟨some 4, none, .mov (.k (.c (.bool true)))⟩])
 (.ret (some [4])))))))⟩
theorem c_laws_eqRing_ok : trF Tryz.prog ⟨[], [4], false, false⟩ Tryz.f49 = some c_laws_eqRing := by kernel_rfl
def c_laws_eqTree : IFn := ⟨16, [.t 4],
  (.seq (.reg false [⟨some 2, none, .box (.t 0) 49⟩,
 ⟨some 3, none, .box (.t 1) 49⟩,
 ⟨some 4, none, .mov (.k (.c (.bool false)))⟩])
 (.seq (.seq (.reg false [⟨some 5, none, .fld (.t 2) 0⟩,
 ⟨some 6, none, .loadN (.t 5) 64⟩,
 ⟨some 7, none, .fld (.t 3) 0⟩,
 ⟨some 8, none, .loadN (.t 7) 64⟩,
 ⟨some 9, none, .call 95 [.t 6, .t 8]⟩,
 ⟨some 10, none, .un .not (.t 9)⟩])
 (.cond (.t 10) (.seq (.reg false [⟨some 4, none, .mov (.k (.c (.bool false)))⟩])
 (.ret (some [4]))) .skip))
 (.seq (.seq (.reg false [⟨some 11, none, .fld (.t 2) 64⟩,
 ⟨some 12, none, .load1 (.t 11)⟩,
 ⟨some 13, none, .fld (.t 3) 64⟩,
 ⟨some 14, none, .load1 (.t 13)⟩,
 ⟨some 15, none, .bin .neq (.t 12) (.t 14)⟩])
 (.cond (.t 15) (.seq (.reg false [⟨some 4, none, .mov (.k (.c (.bool false)))⟩])
 (.ret (some [4]))) .skip))
 (.seq (.reg false [⟨some 4, none, .mov (.k (.c (.bool true)))⟩])
 (.ret (some [4]))))))⟩
theorem c_laws_eqTree_ok : trF Tryz.prog ⟨[], [4], false, false⟩ Tryz.f50 = some c_laws_eqTree := by kernel_rfl
def c_laws_eqIntSS_b0 : IC :=
  (.seq (.seq (.reg false [⟨some 11, none, .mov (.t 5)⟩,
 ⟨some 12, none, .mov (.t 0)⟩,
 ⟨some 13, none, .len (.t 12)⟩,
 ⟨some 14, none, .bin .lss (.t 11) (.t 13)⟩])
 (.cond (.t 14) .skip (.exit 0)))
 (.seq (.block 1 none none
 (.seq (.reg true [⟨some 17, none, .mov (.t 0)⟩,
 ⟨some 18, none, .mov (.t 5)⟩,
 ⟨some 19, none, .ixs (.t 17) (.t 18) 1⟩,
 ⟨some 20, none, .load1 (.t 19)⟩,
 ⟨some 21, none, .mov (.t 1)⟩,
 ⟨some 22, none, .mov (.t 5)⟩,
 ⟨some 23, none, .ixs (.t 21) (.t 22) 1⟩,
 ⟨some 24, none, .load1 (.t 23)⟩,
 ⟨some 25, none, .call 96 [.t 20, .t 24]⟩,
 ⟨some 26, none, .un .not (.t 25)⟩])
 (.cond (.t 26) (.seq (.reg false [⟨some 4, none, .mov (.k (.c (.bool false)))⟩])
 (.ret (some [4]))) .skip)))
 (.reg false [⟨some 15, none, .mov (.t 5)⟩,
 ⟨some 16, none, .bin .add (.t 15) (.k (.c (.int .i64 1)))⟩,
 ⟨some 5, none, .mov (.t 16)⟩])))
def c_laws_eqIntSS : IFn := ⟨27, [.t 4],
  (.seq (.reg false [⟨some 4, none, .mov (.k (.c (.bool false)))⟩])
 (.seq (.seq (.reg false [⟨some 6, none, .mov (.t 0)⟩,
 ⟨some 7, none, .len (.t 6)⟩,
 ⟨some 8, none, .mov (.t 1)⟩,
 ⟨some 9, none, .len (.t 8)⟩,
 ⟨some 10, none, .bin .neq (.t 7) (.t 9)⟩])
 (.cond (.t 10) (.seq (.reg false [⟨some 4, none, .mov (.k (.c (.bool false)))⟩])
 (.ret (some [4]))) .skip))
 (.seq (.seq (.reg false [⟨some 5, none, .mov (.k (.c (.int .i64 0)))⟩])
 (.block 0 (some [0, 1, 5]) (some [])
 (.loop c_laws_eqIntSS_b0)))
 (.seq (.reg false [⟨some 4, none, .mov (.k (.c (.bool true)))⟩])
 (.ret (some [4]))))))⟩
theorem c_laws_eqIntSS_ok : trF Tryz.prog ⟨[(0, [0, 1, 5], [])], [4], false, false⟩ Tryz.f51 = some c_laws_eqIntSS := by kernel_rfl
def c_laws_markIntSS_b0 : IC :=
  (.seq (.seq (.reg false [⟨some 6, none, .mov (.t 5)⟩,
 ⟨some 7, none, .mov (.t 0)⟩,
 ⟨some 8, none, .len (.t 7)⟩,
 ⟨some 9, none, .bin .lss (.t 6) (.t 8)⟩])
 (.cond (.t 9) .skip (.exit 0)))
 (.seq (.block 1 none none
 (.reg false [⟨some 12, none, .mov (.t 0)⟩,
 ⟨some 13, none, .mov (.t 5)⟩,
 ⟨some 14, none, .ixs (.t 12) (.t 13) 1⟩,
 ⟨some 15, none, .load1 (.t 14)⟩,
 ⟨some 16, none, .mov (.t 1)⟩,
 ⟨some 17, none, .call 97 [.t 15, .t 16]⟩,
 ⟨some 1, none, .mov (.t 17)⟩]))
 (.reg false [⟨some 10, none, .mov (.t 5)⟩,
 ⟨some 11, none, .bin .add (.t 10) (.k (.c (.int .i64 1)))⟩,
 ⟨some 5, none, .mov (.t 11)⟩])))
def c_laws_markIntSS : IFn := ⟨19, [.t 4],
  (.seq (.reg false [⟨some 4, none, .mov (.k (.c (.int .i64 0)))⟩])
 (.seq (.seq (.reg false [⟨some 5, none, .mov (.k (.c (.int .i64 0)))⟩])
 (.block 0 (some [0, 1, 5]) (some [1])
 (.loop c_laws_markIntSS_b0)))
 (.seq (.reg false [⟨some 18, none, .mov (.t 1)⟩,
 ⟨some 4, none, .mov (.t 18)⟩])
 (.ret (some [4])))))⟩
theorem c_laws_markIntSS_ok : trF Tryz.prog ⟨[(0, [0, 1, 5], [1])], [4], false, false⟩ Tryz.f52 = some c_laws_markIntSS := by kernel_rfl
def c_laws_heldIntSS_b0 : IC :=
  (.seq (.seq (.reg false [⟨some 6, none, .mov (.t 5)⟩,
 ⟨some 7, none, .mov (.t 0)⟩,
 ⟨some 8, none, .len (.t 7)⟩,
 ⟨some 9, none, .bin .lss (.t 6) (.t 8)⟩])
 (.cond (.t 9) .skip (.exit 0)))
 (.seq (.block 1 none none
 (.seq (.reg false [⟨some 12, none, .mov (.t 0)⟩,
 ⟨some 13, none, .mov (.t 5)⟩,
 ⟨some 14, none, .ixs (.t 12) (.t 13) 1⟩,
 ⟨some 15, none, .load1 (.t 14)⟩,
 ⟨some 16, none, .mov (.t 1)⟩,
 ⟨some 17, none, .call 98 [.t 15, .t 16]⟩,
 ⟨some 1, none, .mov (.t 17)⟩])
 (.seq (.reg false [⟨some 18, none, .mov (.t 1)⟩,
 ⟨some 19, none, .bin .lss (.t 18) (.k (.c (.int .i64 0)))⟩])
 (.cond (.t 19) (.seq (.reg false [⟨some 4, none, .mov (.k (.c (.int .i64 (-1))))⟩])
 (.ret (some [4]))) .skip))))
 (.reg false [⟨some 10, none, .mov (.t 5)⟩,
 ⟨some 11, none, .bin .add (.t 10) (.k (.c (.int .i64 1)))⟩,
 ⟨some 5, none, .mov (.t 11)⟩])))
def c_laws_heldIntSS : IFn := ⟨21, [.t 4],
  (.seq (.reg false [⟨some 4, none, .mov (.k (.c (.int .i64 0)))⟩])
 (.seq (.seq (.reg false [⟨some 5, none, .mov (.k (.c (.int .i64 0)))⟩])
 (.block 0 (some [0, 1, 5]) (some [1])
 (.loop c_laws_heldIntSS_b0)))
 (.seq (.reg false [⟨some 20, none, .mov (.t 1)⟩,
 ⟨some 4, none, .mov (.t 20)⟩])
 (.ret (some [4])))))⟩
theorem c_laws_heldIntSS_ok : trF Tryz.prog ⟨[(0, [0, 1, 5], [1])], [4], false, false⟩ Tryz.f53 = some c_laws_heldIntSS := by kernel_rfl
def c_laws_szIntS : IFn := ⟨12, [.t 4],
  (.seq (.reg false [⟨some 4, none, .mov (.k (.c (.int .i64 0)))⟩])
 (.seq (.reg false [⟨some 5, none, .mov (.t 1)⟩,
 ⟨some 6, none, .mov (.t 0)⟩,
 ⟨some 7, none, .len (.t 6)⟩,
 ⟨some 8, none, .bin .sub (.t 5) (.t 7)⟩,
 ⟨some 1, none, .mov (.t 8)⟩])
 (.seq (.seq (.reg false [⟨some 9, none, .mov (.t 1)⟩,
 ⟨some 10, none, .bin .lss (.t 9) (.k (.c (.int .i64 0)))⟩])
 (.cond (.t 10) (.seq (.reg false [⟨some 4, none, .mov (.k (.c (.int .i64 (-1))))⟩])
 (.ret (some [4]))) .skip))
 (.seq (.reg false [⟨some 11, none, .mov (.t 1)⟩,
 ⟨some 4, none, .mov (.t 11)⟩])
 (.ret (some [4]))))))⟩
theorem c_laws_szIntS_ok : trF Tryz.prog ⟨[], [4], false, false⟩ Tryz.f55 = some c_laws_szIntS := by kernel_rfl
def c_spec_l16Copy_b0 : IC :=
  (.seq (.seq (.reg false [⟨some 6, none, .mov (.t 4)⟩,
 ⟨some 7, none, .mov (.t 0)⟩,
 ⟨some 8, none, .len (.t 7)⟩,
 ⟨some 9, none, .bin .lss (.t 6) (.t 8)⟩])
 (.cond (.t 9) .skip (.exit 0)))
 (.seq (.block 1 none none
 (.reg false [⟨some 12, none, .mov (.t 3)⟩,
 ⟨some 13, none, .mov (.t 0)⟩,
 ⟨some 14, none, .mov (.t 4)⟩,
 ⟨some 15, none, .ixs (.t 13) (.t 14) 1⟩,
 ⟨some 16, none, .load1 (.t 15)⟩,
 ⟨some 17, none, .call 99 [.t 16]⟩,
 ⟨some 18, none, .lit 1 1 [.nils] [(0, .t 17)] 103⟩,
 ⟨some 19, none, .app (.t 12) (.t 18) 103 1 24⟩,
 ⟨some 3, none, .mov (.t 19)⟩]))
 (.reg false [⟨some 10, none, .mov (.t 4)⟩,
 ⟨some 11, none, .bin .add (.t 10) (.k (.c (.int .i64 1)))⟩,
 ⟨some 4, none, .mov (.t 11)⟩])))
def c_spec_l16Copy : IFn := ⟨21, [.t 2],
  (.seq (.reg false [⟨some 2, none, .mov (.k (.c .nils))⟩])
 (.seq (.reg false [⟨some 5, none, .lit 0 1 [.nils] [] 103⟩,
 ⟨some 3, none, .mov (.t 5)⟩])
 (.seq (.seq (.reg false [⟨some 4, none, .mov (.k (.c (.int .i64 0)))⟩])
 (.block 0 (some [0, 3, 4]) (some [3])
 (.loop c_spec_l16Copy_b0)))
 (.seq (.reg false [⟨some 20, none, .mov (.t 3)⟩,
 ⟨some 2, none, .mov (.t 20)⟩])
 (.ret (some [2]))))))⟩
theorem c_spec_l16Copy_ok : trF Tryz.prog ⟨[(0, [0, 3, 4], [3])], [2], false, false⟩ Tryz.f56 = some c_spec_l16Copy := by kernel_rfl
def c_spec_ChainOk_b0 : IC :=
  (.seq (.seq (.reg false [⟨some 8, none, .mov (.t 4)⟩,
 ⟨some 9, none, .bin .lss (.t 8) (.k (.c (.int .i64 16)))⟩])
 (.cond (.t 9) .skip (.exit 0)))
 (.seq (.block 1 none none
 (.seq (.reg false [⟨some 12, none, .mov (.t 4)⟩,
 ⟨some 13, none, .fld (.t 1) 0⟩,
 ⟨some 14, none, .ixa (.t 13) (.t 12) 16 4⟩,
 ⟨some 15, none, .loadN (.t 14) 4⟩,
 ⟨some 5, none, .alloc [.bool false, .int .i64 0, .int .i64 0, .int .i64 0] 41⟩,
 ⟨none, none, .store (.t 5) (.t 15) 4⟩])
 (.seq (.seq (.reg false [⟨some 16, none, .fld (.t 5) 0⟩,
 ⟨some 17, none, .load1 (.t 16)⟩,
 ⟨some 18, none, .un .not (.t 17)⟩,
 ⟨some 19, none, .mov (.t 18)⟩,
 ⟨some 20, some (19, true), .loadN (.t 5) 4⟩,
 ⟨some 21, some (19, true), .bld [.bool false, .int .i64 0, .int .i64 0, .int .i64 0] []⟩,
 ⟨some 22, some (19, true), .eqa true [none, some .i64, some .i64, some .i64] (.t 20) (.t 21)⟩,
 ⟨some 23, none, .pick (.t 19) (.t 22) (.k (.c (.bool false)))⟩,
 ⟨some 24, none, .mov (.t 23)⟩,
 ⟨some 25, some (24, false), .fld (.t 5) 0⟩,
 ⟨some 26, some (24, false), .load1 (.t 25)⟩,
 ⟨some 27, some (24, false), .mov (.t 26)⟩,
 ⟨some 28, some (27, true), .fld (.t 5) 1⟩,
 ⟨some 29, some (27, true), .load1 (.t 28)⟩,
 ⟨some 30, some (27, true), .call 37 [.t 29]⟩,
 ⟨some 31, some (27, true), .un .not (.t 30)⟩,
 ⟨some 32, some (27, true), .mov (.t 31)⟩,
 ⟨some 33, some (32, false), .fld (.t 5) 2⟩,
 ⟨some 34, some (32, false), .load1 (.t 33)⟩,
 ⟨some 35, some (32, false), .call 37 [.t 34]⟩,
 ⟨some 36, some (32, false), .un .not (.t 35)⟩,
 ⟨some 37, some (27, true), .pick (.t 32) (.k (.c (.bool true))) (.t 36)⟩,
 ⟨some 38, some (24, false), .pick (.t 27) (.t 37) (.k (.c (.bool false)))⟩,
 ⟨some 39, none, .pick (.t 24) (.k (.c (.bool true))) (.t 38)⟩])
 (.cond (.t 39) (.seq (.reg false [⟨some 2, none, .mov (.k (.c (.bool false)))⟩])
 (.ret (some [2]))) .skip))
 (.seq (.reg false [⟨some 40, none, .fld (.t 5) 0⟩,
 ⟨some 41, none, .load1 (.t 40)⟩])
 (.cond (.t 41) (.reg false [⟨some 42, none, .mov (.t 3)⟩,
 ⟨some 43, none, .bin .add (.t 42) (.k (.c (.int .i64 1)))⟩,
 ⟨some 3, none, .mov (.t 43)⟩]) .skip)))))
 (.reg false [⟨some 10, none, .mov (.t 4)⟩,
 ⟨some 11, none, .bin .add (.t 10) (.k (.c (.int .i64 1)))⟩,
 ⟨some 4, none, .mov (.t 11)⟩])))
def c_spec_ChainOk_b1 : IC :=
  (.seq (.seq (.reg false [⟨some 46, none, .mov (.t 6)⟩,
 ⟨some 47, none, .bin .neq (.t 46) (.k (.c (.int .i64 (-1))))⟩])
 (.cond (.t 47) .skip (.exit 2)))
 (.block 3 none none
 (.seq (.seq (.reg true [⟨some 48, none, .mov (.t 6)⟩,
 ⟨some 49, none, .call 36 [.t 48, .k (.c (.int .i64 0)), .k (.c (.int .i64 15))]⟩,
 ⟨some 50, none, .un .not (.t 49)⟩,
 ⟨some 51, none, .mov (.t 50)⟩,
 ⟨some 52, some (51, false), .mov (.t 6)⟩,
 ⟨some 53, some (51, false), .fld (.t 1) 0⟩,
 ⟨some 54, some (51, false), .ixa (.t 53) (.t 52) 16 4⟩,
 ⟨some 55, some (51, false), .fld (.t 54) 0⟩,
 ⟨some 56, some (51, false), .load1 (.t 55)⟩,
 ⟨some 57, some (51, false), .un .not (.t 56)⟩,
 ⟨some 58, none, .pick (.t 51) (.k (.c (.bool true))) (.t 57)⟩,
 ⟨some 59, none, .mov (.t 58)⟩,
 ⟨some 60, some (59, false), .mov (.t 3)⟩,
 ⟨some 61, some (59, false), .bin .eql (.t 60) (.k (.c (.int .i64 0)))⟩,
 ⟨some 62, none, .pick (.t 59) (.k (.c (.bool true))) (.t 61)⟩,
 ⟨some 63, none, .mov (.t 62)⟩,
 ⟨some 64, some (63, false), .mov (.t 7)⟩,
 ⟨some 65, some (63, false), .bin .geq (.t 64) (.k (.c (.int .i64 0)))⟩,
 ⟨some 66, some (63, false), .mov (.t 65)⟩,
 ⟨some 67, some (66, true), .mov (.t 7)⟩,
 ⟨some 68, some (66, true), .fld (.t 1) 0⟩,
 ⟨some 69, some (66, true), .ixa (.t 68) (.t 67) 16 4⟩,
 ⟨some 70, some (66, true), .fld (.t 69) 1⟩,
 ⟨some 71, some (66, true), .load1 (.t 70)⟩,
 ⟨some 72, some (66, true), .mov (.t 6)⟩,
 ⟨some 73, some (66, true), .fld (.t 1) 0⟩,
 ⟨some 74, some (66, true), .ixa (.t 73) (.t 72) 16 4⟩,
 ⟨some 75, some (66, true), .fld (.t 74) 1⟩,
 ⟨some 76, some (66, true), .load1 (.t 75)⟩,
 ⟨some 77, some (66, true), .bin .geq (.t 71) (.t 76)⟩,
 ⟨some 78, some (63, false), .pick (.t 66) (.t 77) (.k (.c (.bool false)))⟩,
 ⟨some 79, none, .pick (.t 63) (.k (.c (.bool true))) (.t 78)⟩])
 (.cond (.t 79) (.seq (.reg false [⟨some 2, none, .mov (.k (.c (.bool false)))⟩])
 (.ret (some [2]))) .skip))
 (.seq (.reg false [⟨some 80, none, .mov (.t 3)⟩,
 ⟨some 81, none, .bin .sub (.t 80) (.k (.c (.int .i64 1)))⟩,
 ⟨some 3, none, .mov (.t 81)⟩])
 (.seq (.reg false [⟨some 82, none, .mov (.t 6)⟩,
 ⟨some 7, none, .mov (.t 82)⟩])
 (.reg false [⟨some 83, none, .mov (.t 6)⟩,
 ⟨some 84, none, .fld (.t 1) 0⟩,
 ⟨some 85, none, .ixa (.t 84) (.t 83) 16 4⟩,
 ⟨some 86, none, .fld (.t 85) 3⟩,
 ⟨some 87, none, .load1 (.t 86)⟩,
 ⟨some 6, none, .mov (.t 87)⟩]))))))
def c_spec_ChainOk : IFn := ⟨90, [.t 2],
  (.seq (.reg false [⟨some 1, none, .box (.t 0) 44⟩,
 ⟨some 2, none, .mov (.k (.c (.bool false)))⟩])
 (.seq (.reg false [⟨some 3, none, .mov (.k (.c (.int .i64 0)))⟩])
 (.seq (.seq (.reg false [⟨some 4, none, .mov (.k (.c (.int .i64 0)))⟩])
 (.block 0 (some [1, 3, 4]) (some [1, 3])
 (.loop c_spec_ChainOk_b0)))
 (.seq (.reg false [⟨some 44, none, .fld (.t 1) 64⟩,
 ⟨some 45, none, .load1 (.t 44)⟩,
 ⟨some 6, none, .mov (.t 45)⟩,
 ⟨some 7, none, .mov (.k (.c (.int .i64 (-1))))⟩])
 (.seq (.block 2 (some [1, 3, 6, 7]) (some [3])
 (.loop c_spec_ChainOk_b1))
 (.seq (.reg false [⟨some 88, none, .mov (.t 3)⟩,
 ⟨some 89, none, .bin .eql (.t 88) (.k (.c (.int .i64 0)))⟩,
 ⟨some 2, none, .mov (.t 89)⟩])
 (.ret (some [2]))))))))⟩
theorem c_spec_ChainOk_ok : trF Tryz.prog ⟨[(0, [1, 3, 4], [1, 3]), (2, [1, 3, 6, 7], [3])], [2], false, false⟩ Tryz.f57 = some c_spec_ChainOk := by kernel_rfl
def c_spec_RingOk_b0 : IC :=
  (.seq (.seq (.reg false [⟨some 15, none, .mov (.t 3)⟩,
 ⟨some 16, none, .bin .lss (.t 15) (.k (.c (.int .i64 8)))⟩])
 (.cond (.t 16) .skip (.exit 0)))
 (.seq (.block 1 none none
 (.seq (.reg false [⟨some 19, none, .fld (.t 1) 8⟩,
 ⟨some 20, none, .load1 (.t 19)⟩,
 ⟨some 21, none, .mov (.t 3)⟩,
 ⟨some 22, none, .bin .add (.t 20) (.t 21)⟩,
 ⟨some 23, none, .bin .rem (.t 22) (.k (.c (.int .i64 8)))⟩,
 ⟨some 24, none, .fld (.t 1) 0⟩,
 ⟨some 25, none, .ixa (.t 24) (.t 23) 8 1⟩,
 ⟨some 26, none, .load1 (.t 25)⟩,
 ⟨some 4, none, .mov (.t 26)⟩])
 (.seq (.reg false [⟨some 27, none, .mov (.t 3)⟩,
 ⟨some 28, none, .fld (.t 1) 9⟩,
 ⟨some 29, none, .load1 (.t 28)⟩,
 ⟨some 30, none, .bin .lss (.t 27) (.t 29)⟩,
 ⟨some 31, none, .mov (.t 30)⟩,
 ⟨some 32, some (31, true), .mov (.t 4)⟩,
 ⟨some 33, some (31, true), .call 37 [.t 32]⟩,
 ⟨some 34, some (31, true), .un .not (.t 33)⟩,
 ⟨some 35, none, .pick (.t 31) (.t 34) (.k (.c (.bool false)))⟩,
 ⟨some 36, none, .mov (.t 35)⟩,
 ⟨some 37, some (36, false), .mov (.t 3)⟩,
 ⟨some 38, some (36, false), .fld (.t 1) 9⟩,
 ⟨some 39, some (36, false), .load1 (.t 38)⟩,
 ⟨some 40, some (36, false), .bin .geq (.t 37) (.t 39)⟩,
 ⟨some 41, some (36, false), .mov (.t 40)⟩,
 ⟨some 42, some (41, true), .mov (.t 4)⟩,
 ⟨some 43, some (41, true), .bin .neq (.t 42) (.k (.c (.int .i64 0)))⟩,
 ⟨some 44, some (36, false), .pick (.t 41) (.t 43) (.k (.c (.bool false)))⟩,
 ⟨some 45, none, .pick (.t 36) (.k (.c (.bool true))) (.t 44)⟩])
 (.cond (.t 45) (.seq (.reg false [⟨some 2, none, .mov (.k (.c (.bool false)))⟩])
 (.ret (some [2]))) .skip))))
 (.reg false [⟨some 17, none, .mov (.t 3)⟩,
 ⟨some 18, none, .bin .add (.t 17) (.k (.c (.int .i64 1)))⟩,
 ⟨some 3, none, .mov (.t 18)⟩])))
def c_spec_RingOk : IFn := ⟨46, [.t 2],
  (.seq (.reg false [⟨some 1, none, .box (.t 0) 45⟩,
 ⟨some 2, none, .mov (.k (.c (.bool false)))⟩])
 (.seq (.seq (.reg false [⟨some 5, none, .fld (.t 1) 8⟩,
 ⟨some 6, none, .load1 (.t 5)⟩,
 ⟨some 7, none, .call 36 [.t 6, .k (.c (.int .i64 0)), .k (.c (.int .i64 7))]⟩,
 ⟨some 8, none, .un .not (.t 7)⟩,
 ⟨some 9, none, .mov (.t 8)⟩,
 ⟨some 10, some (9, false), .fld (.t 1) 9⟩,
 ⟨some 11, some (9, false), .load1 (.t 10)⟩,
 ⟨some 12, some (9, false), .call 36 [.t 11, .k (.c (.int .i64 0)), .k (.c (.int .i64 8))]⟩,
 ⟨some 13, some (9, false), .un .not (.t 12)⟩,
 ⟨some 14, none, .pick (.t 9) (.k (.c (.bool true))) (.t 13)⟩])
 (.cond (.t 14) (.seq (.reg false [⟨some 2, none, .mov (.k (.c (.bool false)))⟩])
 (.ret (some [2]))) .skip))
 (.seq (.seq (.reg false [⟨some 3, none, .mov (.k (.c (.int .i64 0)))⟩])
 (.block 0 (some [1, 3]) (some [])
 (.loop c_spec_RingOk_b0)))
 (.seq (.reg false [⟨some 2, none, .mov (.k (.c (.bool true)))⟩])
 (.ret (some [2]))))))⟩
theorem c_spec_RingOk_ok : trF Tryz.prog ⟨[(0, [1, 3], [])], [2], false, false⟩ Tryz.f58 = some c_spec_RingOk := by kernel_rfl
def c_spec_TreeOk_b0 : IC :=
  (.seq (.seq (.reg false [⟨some 9, none, .mov (.t 4)⟩,
 ⟨some 10, none, .bin .lss (.t 9) (.k (.c (.int .i64 16)))⟩])
 (.cond (.t 10) .skip (.exit 0)))
 (.seq (.block 1 none none
 (.seq (.reg false [⟨some 13, none, .mov (.t 4)⟩,
 ⟨some 14, none, .fld (.t 1) 0⟩,
 ⟨some 15, none, .ixa (.t 14) (.t 13) 16 4⟩,
 ⟨some 16, none, .loadN (.t 15) 4⟩,
 ⟨some 5, none, .alloc [.bool false, .int .i64 0, .int .i64 0, .int .i64 0] 46⟩,
 ⟨none, none, .store (.t 5) (.t 16) 4⟩])
 (.seq (.seq (.reg false [⟨some 17, none, .fld (.t 5) 0⟩,
 ⟨some 18, none, .load1 (.t 17)⟩,
 ⟨some 19, none, .un .not (.t 18)⟩,
 ⟨some 20, none, .mov (.t 19)⟩,
 ⟨some 21, some (20, true), .loadN (.t 5) 4⟩,
 ⟨some 22, some (20, true), .bld [.bool false, .int .i64 0, .int .i64 0, .int .i64 0] []⟩,
 ⟨some 23, some (20, true), .eqa true [none, some .i64, some .i64, some .i64] (.t 21) (.t 22)⟩,
 ⟨some 24, none, .pick (.t 20) (.t 23) (.k (.c (.bool false)))⟩,
 ⟨some 25, none, .mov (.t 24)⟩,
 ⟨some 26, some (25, false), .fld (.t 5) 0⟩,
 ⟨some 27, some (25, false), .load1 (.t 26)⟩,
 ⟨some 28, some (25, false), .mov (.t 27)⟩,
 ⟨some 29, some (28, true), .fld (.t 5) 1⟩,
 ⟨some 30, some (28, true), .load1 (.t 29)⟩,
 ⟨some 31, some (28, true), .call 37 [.t 30]⟩,
 ⟨some 32, some (28, true), .un .not (.t 31)⟩,
 ⟨some 33, some (25, false), .pick (.t 28) (.t 32) (.k (.c (.bool false)))⟩,
 ⟨some 34, none, .pick (.t 25) (.k (.c (.bool true))) (.t 33)⟩])
 (.cond (.t 34) (.seq (.reg false [⟨some 2, none, .mov (.k (.c (.bool false)))⟩])
 (.ret (some [2]))) .skip))
 (.seq (.reg false [⟨some 35, none, .fld (.t 5) 0⟩,
 ⟨some 36, none, .load1 (.t 35)⟩])
 (.cond (.t 36) (.reg false [⟨some 37, none, .mov (.t 3)⟩,
 ⟨some 38, none, .bin .add (.t 37) (.k (.c (.int .i64 1)))⟩,
 ⟨some 3, none, .mov (.t 38)⟩]) .skip)))))
 (.reg false [⟨some 11, none, .mov (.t 4)⟩,
 ⟨some 12, none, .bin .add (.t 11) (.k (.c (.int .i64 1)))⟩,
 ⟨some 4, none, .mov (.t 12)⟩])))
def c_spec_TreeOk_b1 : IC :=
  (.seq (.seq (.reg false [⟨some 47, none, .mov (.t 8)⟩,
 ⟨some 48, none, .mov (.t 6)⟩,
 ⟨some 49, none, .len (.t 48)⟩,
 ⟨some 50, none, .bin .lss (.t 47) (.t 49)⟩])
 (.cond (.t 50) .skip (.exit 2)))
 (.seq (.block 3 none none
 (.seq (.reg true [⟨some 53, none, .mov (.t 6)⟩,
 ⟨some 54, none, .mov (.t 8)⟩,
 ⟨some 55, none, .bin .sub (.t 54) (.k (.c (.int .i64 1)))⟩,
 ⟨some 56, none, .ixs (.t 53) (.t 55) 1⟩,
 ⟨some 57, none, .load1 (.t 56)⟩,
 ⟨some 58, none, .fld (.t 1) 0⟩,
 ⟨some 59, none, .ixa (.t 58) (.t 57) 16 4⟩,
 ⟨some 60, none, .fld (.t 59) 1⟩,
 ⟨some 61, none, .load1 (.t 60)⟩,
 ⟨some 62, none, .mov (.t 6)⟩,
 ⟨some 63, none, .mov (.t 8)⟩,
 ⟨some 64, none, .ixs (.t 62) (.t 63) 1⟩,
 ⟨some 65, none, .load1 (.t 64)⟩,
 ⟨some 66, none, .fld (.t 1) 0⟩,
 ⟨some 67, none, .ixa (.t 66) (.t 65) 16 4⟩,
 ⟨some 68, none, .fld (.t 67) 1⟩,
 ⟨some 69, none, .load1 (.t 68)⟩,
 ⟨some 70, none, .bin .geq (.t 61) (.t 69)⟩])
 (.cond (.t 70) (.seq (.reg false [⟨some 2, none, .mov (.k (.c (.bool false)))⟩])
 (.ret (some [2]))) .skip)))
 (.reg false [⟨some 51, none, .mov (.t 8)⟩,
 ⟨some 52, none, .bin .add (.t 51) (.k (.c (.int .i64 1)))⟩,
 ⟨some 8, none, .mov (.t 52)⟩])))
def c_spec_TreeOk : IFn := ⟨78, [.t 2],
  (.seq (.reg false [⟨some 1, none, .box (.t 0) 49⟩,
 ⟨some 2, none, .mov (.k (.c (.bool false)))⟩])
 (.seq (.reg false [⟨some 3, none, .mov (.k (.c (.int .i64 0)))⟩])
 (.seq (.seq (.reg false [⟨some 4, none, .mov (.k (.c (.int .i64 0)))⟩])
 (.block 0 (some [1, 3, 4]) (some [1, 3])
 (.loop c_spec_TreeOk_b0)))
 (.seq (.reg false [⟨some 40, none, .loadN (.t 1) 65⟩,
 ⟨some 41, none, .fld (.t 1) 64⟩,
 ⟨some 42, none, .load1 (.t 41)⟩,
 ⟨some 43, none, .lit 0 1 [.int .i64 0] [] 3⟩,
 ⟨some 44, none, .call 100 [.t 40, .t 42, .t 43]⟩,
 ⟨some 39, none, .mov (.t 44)⟩,
 ⟨some 45, none, .ext (.t 39) 0⟩,
 ⟨some 46, none, .ext (.t 39) 1⟩,
 ⟨some 6, none, .mov (.t 45)⟩,
 ⟨some 7, none, .mov (.t 46)⟩])
 (.seq (.seq (.reg false [⟨some 8, none, .mov (.k (.c (.int .i64 1)))⟩])
 (.block 2 (some [1, 3, 6, 7, 8]) (some [3, 6, 7])
 (.loop c_spec_TreeOk_b1)))
 (.seq (.reg false [⟨some 71, none, .mov (.t 7)⟩,
 ⟨some 72, none, .mov (.t 71)⟩,
 ⟨some 73, some (72, true), .mov (.t 6)⟩,
 ⟨some 74, some (72, true), .len (.t 73)⟩,
 ⟨some 75, some (72, true), .mov (.t 3)⟩,
 ⟨some 76, some (72, true), .bin .eql (.t 74) (.t 75)⟩,
 ⟨some 77, none, .pick (.t 72) (.t 76) (.k (.c (.bool false)))⟩,
 ⟨some 2, none, .mov (.t 77)⟩])
 (.ret (some [2]))))))))⟩
theorem c_spec_TreeOk_ok : trF Tryz.prog ⟨[(0, [1, 3, 4], [1, 3]), (2, [1, 3, 6, 7, 8], [3, 6, 7])], [2], false, false⟩ Tryz.f59 = some c_spec_TreeOk := by kernel_rfl
def c_spec_SetOk_b1 : IC :=
  (.seq (.seq (.reg false [⟨some 33, none, .mov (.t 5)⟩,
 ⟨some 34, none, .mov (.t 0)⟩,
 ⟨some 35, none, .mov (.t 4)⟩,
 ⟨some 36, none, .ixs (.t 34) (.t 35) 1⟩,
 ⟨some 37, none, .load1 (.t 36)⟩,
 ⟨some 38, none, .len (.t 37)⟩,
 ⟨some 39, none, .bin .lss (.t 33) (.t 38)⟩])
 (.cond (.t 39) .skip (.exit 2)))
 (.seq (.block 3 none none
 (.seq (.reg true [⟨some 42, none, .mov (.t 0)⟩,
 ⟨some 43, none, .mov (.t 4)⟩,
 ⟨some 44, none, .ixs (.t 42) (.t 43) 1⟩,
 ⟨some 45, none, .load1 (.t 44)⟩,
 ⟨some 46, none, .mov (.t 5)⟩,
 ⟨some 47, none, .ixs (.t 45) (.t 46) 1⟩,
 ⟨some 48, none, .load1 (.t 47)⟩,
 ⟨some 49, none, .call 37 [.t 48]⟩,
 ⟨some 50, none, .un .not (.t 49)⟩,
 ⟨some 51, none, .mov (.t 50)⟩,
 ⟨some 52, some (51, false), .mov (.t 0)⟩,
 ⟨some 53, some (51, false), .mov (.t 4)⟩,
 ⟨some 54, some (51, false), .ixs (.t 52) (.t 53) 1⟩,
 ⟨some 55, some (51, false), .load1 (.t 54)⟩,
 ⟨some 56, some (51, false), .mov (.t 5)⟩,
 ⟨some 57, some (51, false), .ixs (.t 55) (.t 56) 1⟩,
 ⟨some 58, some (51, false), .load1 (.t 57)⟩,
 ⟨some 59, some (51, false), .mov (.t 3)⟩,
 ⟨some 60, some (51, false), .call 101 [.t 58, .t 59]⟩,
 ⟨some 61, some (51, false), .mov (.t 4)⟩,
 ⟨some 62, some (51, false), .bin .neq (.t 60) (.t 61)⟩,
 ⟨some 63, none, .pick (.t 51) (.k (.c (.bool true))) (.t 62)⟩,
 ⟨some 64, none, .mov (.t 63)⟩,
 ⟨some 65, some (64, false), .mov (.t 5)⟩,
 ⟨some 66, some (64, false), .bin .gtr (.t 65) (.k (.c (.int .i64 0)))⟩,
 ⟨some 67, some (64, false), .mov (.t 66)⟩,
 ⟨some 68, some (67, true), .mov (.t 0)⟩,
 ⟨some 69, some (67, true), .mov (.t 4)⟩,
 ⟨some 70, some (67, true), .ixs (.t 68) (.t 69) 1⟩,
 ⟨some 71, some (67, true), .load1 (.t 70)⟩,
 ⟨some 72, some (67, true), .mov (.t 5)⟩,
 ⟨some 73, some (67, true), .bin .sub (.t 72) (.k (.c (.int .i64 1)))⟩,
 ⟨some 74, some (67, true), .ixs (.t 71) (.t 73) 1⟩,
 ⟨some 75, some (67, true), .load1 (.t 74)⟩,
 ⟨some 76, some (67, true), .mov (.t 0)⟩,
 ⟨some 77, some (67, true), .mov (.t 4)⟩,
 ⟨some 78, some (67, true), .ixs (.t 76) (.t 77) 1⟩,
 ⟨some 79, some (67, true), .load1 (.t 78)⟩,
 ⟨some 80, some (67, true), .mov (.t 5)⟩,
 ⟨some 81, some (67, true), .ixs (.t 79) (.t 80) 1⟩,
 ⟨some 82, some (67, true), .load1 (.t 81)⟩,
 ⟨some 83, some (67, true), .bin .geq (.t 75) (.t 82)⟩,
 ⟨some 84, some (64, false), .pick (.t 67) (.t 83) (.k (.c (.bool false)))⟩,
 ⟨some 85, none, .pick (.t 64) (.k (.c (.bool true))) (.t 84)⟩])
 (.cond (.t 85) (.seq (.reg false [⟨some 2, none, .mov (.k (.c (.bool false)))⟩])
 (.ret (some [2]))) .skip)))
 (.reg false [⟨some 40, none, .mov (.t 5)⟩,
 ⟨some 41, none, .bin .add (.t 40) (.k (.c (.int .i64 1)))⟩,
 ⟨some 5, none, .mov (.t 41)⟩])))
def c_spec_SetOk_b0 : IC :=
  (.seq (.seq (.reg false [⟨some 22, none, .mov (.t 4)⟩,
 ⟨some 23, none, .mov (.t 3)⟩,
 ⟨some 24, none, .bin .lss (.t 22) (.t 23)⟩])
 (.cond (.t 24) .skip (.exit 0)))
 (.seq (.block 1 none none
 (.seq (.seq (.reg false [⟨some 27, none, .mov (.t 0)⟩,
 ⟨some 28, none, .mov (.t 4)⟩,
 ⟨some 29, none, .ixs (.t 27) (.t 28) 1⟩,
 ⟨some 30, none, .load1 (.t 29)⟩,
 ⟨some 31, none, .len (.t 30)⟩,
 ⟨some 32, none, .bin .gtr (.t 31) (.k (.c (.int .i64 3)))⟩])
 (.cond (.t 32) (.seq (.reg false [⟨some 2, none, .mov (.k (.c (.bool false)))⟩])
 (.ret (some [2]))) .skip))
 (.seq (.reg false [⟨some 5, none, .mov (.k (.c (.int .i64 0)))⟩])
 (.block 2 (some [0, 3, 4, 5]) (some [0, 3, 4])
 (.loop c_spec_SetOk_b1)))))
 (.reg false [⟨some 25, none, .mov (.t 4)⟩,
 ⟨some 26, none, .bin .add (.t 25) (.k (.c (.int .i64 1)))⟩,
 ⟨some 4, none, .mov (.t 26)⟩])))
def c_spec_SetOk : IFn := ⟨86, [.t 2],
  (.seq (.reg false [⟨some 2, none, .mov (.k (.c (.bool false)))⟩])
 (.seq (.reg false [⟨some 6, none, .mov (.t 0)⟩,
 ⟨some 7, none, .len (.t 6)⟩,
 ⟨some 3, none, .mov (.t 7)⟩])
 (.seq (.seq (.reg false [⟨some 8, none, .mov (.t 3)⟩,
 ⟨some 9, none, .bin .neq (.t 8) (.k (.c (.int .i64 1)))⟩,
 ⟨some 10, none, .mov (.t 9)⟩,
 ⟨some 11, some (10, true), .mov (.t 3)⟩,
 ⟨some 12, some (10, true), .bin .neq (.t 11) (.k (.c (.int .i64 2)))⟩,
 ⟨some 13, none, .pick (.t 10) (.t 12) (.k (.c (.bool false)))⟩,
 ⟨some 14, none, .mov (.t 13)⟩,
 ⟨some 15, some (14, true), .mov (.t 3)⟩,
 ⟨some 16, some (14, true), .bin .neq (.t 15) (.k (.c (.int .i64 4)))⟩,
 ⟨some 17, none, .pick (.t 14) (.t 16) (.k (.c (.bool false)))⟩,
 ⟨some 18, none, .mov (.t 17)⟩,
 ⟨some 19, some (18, true), .mov (.t 3)⟩,
 ⟨some 20, some (18, true), .bin .neq (.t 19) (.k (.c (.int .i64 8)))⟩,
 ⟨some 21, none, .pick (.t 18) (.t 20) (.k (.c (.bool false)))⟩])
 (.cond (.t 21) (.seq (.reg false [⟨some 2, none, .mov (.k (.c (.bool false)))⟩])
 (.ret (some [2]))) .skip))
 (.seq (.seq (.reg false [⟨some 4, none, .mov (.k (.c (.int .i64 0)))⟩])
 (.block 0 (some [0, 3, 4]) (some [])
 (.loop c_spec_SetOk_b0)))
 (.seq (.reg false [⟨some 2, none, .mov (.k (.c (.bool true)))⟩])
 (.ret (some [2])))))))⟩
theorem c_spec_SetOk_ok : trF Tryz.prog ⟨[(0, [0, 3, 4], []), (2, [0, 3, 4, 5], [0, 3, 4])], [2], false, false⟩ Tryz.f60 = some c_spec_SetOk := by kernel_rfl
def c_spec_MapPut_b0 : IC :=
  (.seq (.seq (.reg false [⟨some 58, none, .mov (.t 13)⟩,
 ⟨some 59, none, .bin .lss (.t 58) (.k (.c (.int .i64 16)))⟩,
 ⟨some 60, none, .mov (.t 59)⟩,
 ⟨some 61, some (60, true), .mov (.t 13)⟩,
 ⟨some 62, some (60, true), .fld (.t 3) 0⟩,
 ⟨some 63, some (60, true), .ixa (.t 62) (.t 61) 16 4⟩,
 ⟨some 64, some (60, true), .fld (.t 63) 0⟩,
 ⟨some 65, some (60, true), .load1 (.t 64)⟩,
 ⟨some 66, none, .pick (.t 60) (.t 65) (.k (.c (.bool false)))⟩])
 (.cond (.t 66) .skip (.exit 0)))
 (.block 1 none none
 (.reg false [⟨some 67, none, .mov (.t 13)⟩,
 ⟨some 68, none, .bin .add (.t 67) (.k (.c (.int .i64 1)))⟩,
 ⟨some 13, none, .mov (.t 68)⟩])))
def c_spec_MapPut : IFn := ⟨91, [.cell 6 65 true, .t 7, .t 8],
  (.seq (.reg false [⟨some 3, none, .box (.t 0) 44⟩,
 ⟨some 6, none, .alloc [.bool false, .int .i64 0, .int .i64 0, .int .i64 0, .bool false, .int .i64 0, .int .i64 0, .int .i64 0, .bool false, .int .i64 0, .int .i64 0, .int .i64 0, .bool false, .int .i64 0, .int .i64 0, .int .i64 0, .bool false, .int .i64 0, .int .i64 0, .int .i64 0, .bool false, .int .i64 0, .int .i64 0, .int .i64 0, .bool false, .int .i64 0, .int .i64 0, .int .i64 0, .bool false, .int .i64 0, .int .i64 0, .int .i64 0, .bool false, .int .i64 0, .int .i64 0, .int .i64 0, .bool false, .int .i64 0, .int .i64 0, .int .i64 0, .bool false, .int .i64 0, .int .i64 0, .int .i64 0, .bool false, .int .i64 0, .int .i64 0, .int .i64 0, .bool false, .int .i64 0, .int .i64 0, .int .i64 0, .bool false, .int .i64 0, .int .i64 0, .int .i64 0, .bool false, .int .i64 0, .int .i64 0, .int .i64 0, .bool false, .int .i64 0, .int .i64 0, .int .i64 0, .int .i64 0] 44⟩,
 ⟨some 7, none, .mov (.k (.c (.int .i64 0)))⟩,
 ⟨some 8, none, .mov (.k (.c (.int .i64 0)))⟩])
 (.seq (.seq (.reg false [⟨some 14, none, .loadN (.t 3) 65⟩,
 ⟨some 15, none, .call 57 [.t 14]⟩,
 ⟨some 16, none, .un .not (.t 15)⟩,
 ⟨some 17, none, .mov (.t 16)⟩,
 ⟨some 18, some (17, false), .mov (.t 1)⟩,
 ⟨some 19, some (17, false), .call 37 [.t 18]⟩,
 ⟨some 20, some (17, false), .un .not (.t 19)⟩,
 ⟨some 21, none, .pick (.t 17) (.k (.c (.bool true))) (.t 20)⟩,
 ⟨some 22, none, .mov (.t 21)⟩,
 ⟨some 23, some (22, false), .mov (.t 2)⟩,
 ⟨some 24, some (22, false), .call 37 [.t 23]⟩,
 ⟨some 25, some (22, false), .un .not (.t 24)⟩,
 ⟨some 26, none, .pick (.t 22) (.k (.c (.bool true))) (.t 25)⟩])
 (.cond (.t 26) (.seq (.reg false [⟨some 27, none, .loadN (.t 3) 65⟩,
 ⟨none, none, .store (.t 6) (.t 27) 65⟩,
 ⟨some 7, none, .mov (.k (.c (.int .i64 0)))⟩,
 ⟨some 8, none, .mov (.k (.c (.int .i64 1)))⟩])
 (.ret (some [6, 7, 8]))) .skip))
 (.seq (.reg false [⟨some 29, none, .loadN (.t 3) 65⟩,
 ⟨some 30, none, .mov (.t 1)⟩,
 ⟨some 31, none, .call 102 [.t 29, .t 30]⟩,
 ⟨some 28, none, .mov (.t 31)⟩,
 ⟨some 32, none, .ext (.t 28) 0⟩,
 ⟨some 33, none, .ext (.t 28) 1⟩,
 ⟨some 34, none, .ext (.t 28) 2⟩,
 ⟨some 35, none, .ext (.t 28) 3⟩,
 ⟨some 9, none, .mov (.t 32)⟩,
 ⟨some 10, none, .mov (.t 33)⟩,
 ⟨some 11, none, .mov (.t 34)⟩,
 ⟨some 12, none, .mov (.t 35)⟩])
 (.seq (.seq (.reg false [⟨some 36, none, .mov (.t 12)⟩,
 ⟨some 37, none, .un .not (.t 36)⟩])
 (.cond (.t 37) (.seq (.reg false [⟨some 38, none, .loadN (.t 3) 65⟩,
 ⟨some 39, none, .mov (.t 11)⟩,
 ⟨none, none, .store (.t 6) (.t 38) 65⟩,
 ⟨some 7, none, .mov (.t 39)⟩,
 ⟨some 8, none, .mov (.k (.c (.int .i64 2)))⟩])
 (.ret (some [6, 7, 8]))) .skip))
 (.seq (.seq (.reg false [⟨some 40, none, .mov (.t 9)⟩,
 ⟨some 41, none, .bin .geq (.t 40) (.k (.c (.int .i64 0)))⟩,
 ⟨some 42, none, .mov (.t 41)⟩,
 ⟨some 43, some (42, true), .mov (.t 9)⟩,
 ⟨some 44, some (42, true), .fld (.t 3) 0⟩,
 ⟨some 45, some (42, true), .ixa (.t 44) (.t 43) 16 4⟩,
 ⟨some 46, some (42, true), .fld (.t 45) 1⟩,
 ⟨some 47, some (42, true), .load1 (.t 46)⟩,
 ⟨some 48, some (42, true), .mov (.t 1)⟩,
 ⟨some 49, some (42, true), .bin .eql (.t 47) (.t 48)⟩,
 ⟨some 50, none, .pick (.t 42) (.t 49) (.k (.c (.bool false)))⟩])
 (.cond (.t 50) (.seq (.reg false [⟨some 51, none, .mov (.t 9)⟩,
 ⟨some 52, none, .mov (.t 2)⟩,
 ⟨some 53, none, .fld (.t 3) 0⟩,
 ⟨some 54, none, .ixa (.t 53) (.t 51) 16 4⟩,
 ⟨some 55, none, .fld (.t 54) 2⟩,
 ⟨none, none, .store (.t 55) (.t 52) 1⟩])
 (.seq (.reg false [⟨some 56, none, .loadN (.t 3) 65⟩,
 ⟨some 57, none, .mov (.t 11)⟩,
 ⟨none, none, .store (.t 6) (.t 56) 65⟩,
 ⟨some 7, none, .mov (.t 57)⟩,
 ⟨some 8, none, .mov (.k (.c (.int .i64 0)))⟩])
 (.ret (some [6, 7, 8])))) .skip))
 (.seq (.reg false [⟨some 13, none, .mov (.k (.c (.int .i64 0)))⟩])
 (.seq (.block 0 (some [1, 2, 3, 6, 9, 10, 11, 13]) (some [1, 2, 3, 6, 9, 10, 11, 13])
 (.loop c_spec_MapPut_b0))
 (.seq (.seq (.reg false [⟨some 69, none, .mov (.t 13)⟩,
 ⟨some 70, none, .bin .eql (.t 69) (.k (.c (.int .i64 16)))⟩])
 (.cond (.t 70) (.seq (.reg false [⟨some 71, none, .loadN (.t 3) 65⟩,
 ⟨some 72, none, .mov (.t 11)⟩,
 ⟨none, none, .store (.t 6) (.t 71) 65⟩,
 ⟨some 7, none, .mov (.t 72)⟩,
 ⟨some 8, none, .mov (.k (.c (.int .i64 3)))⟩])
 (.ret (some [6, 7, 8]))) .skip))
 (.seq (.reg false [⟨some 73, none, .mov (.t 13)⟩,
 ⟨some 74, none, .mov (.t 1)⟩,
 ⟨some 75, none, .mov (.t 2)⟩,
 ⟨some 76, none, .mov (.t 9)⟩,
 ⟨some 77, none, .bld [.bool false, .int .i64 0, .int .i64 0, .int .i64 0] [(0, (1, .k (.c (.bool true)))), (1, (1, .t 74)), (2, (1, .t 75)), (3, (1, .t 76))]⟩,
 ⟨some 78, none, .fld (.t 3) 0⟩,
 ⟨some 79, none, .ixa (.t 78) (.t 73) 16 4⟩,
 ⟨none, none, .store (.t 79) (.t 77) 4⟩])
 (.seq (.seq (.reg false [⟨some 80, none, .mov (.t 10)⟩,
 ⟨some 81, none, .bin .lss (.t 80) (.k (.c (.int .i64 0)))⟩])
 (.cond (.t 81) (.reg false [⟨some 82, none, .mov (.t 13)⟩,
 ⟨some 83, none, .fld (.t 3) 64⟩,
 ⟨none, none, .store (.t 83) (.t 82) 1⟩]) (.reg false [⟨some 84, none, .mov (.t 10)⟩,
 ⟨some 85, none, .mov (.t 13)⟩,
 ⟨some 86, none, .fld (.t 3) 0⟩,
 ⟨some 87, none, .ixa (.t 86) (.t 84) 16 4⟩,
 ⟨some 88, none, .fld (.t 87) 3⟩,
 ⟨none, none, .store (.t 88) (.t 85) 1⟩])))
 (.seq (.reg false [⟨some 89, none, .loadN (.t 3) 65⟩,
 ⟨some 90, none, .mov (.t 11)⟩,
 ⟨none, none, .store (.t 6) (.t 89) 65⟩,
 ⟨some 7, none, .mov (.t 90)⟩,
 ⟨some 8, none, .mov (.k (.c (.int .i64 0)))⟩])
 (.ret (some [6, 7, 8])))))))))))))⟩
theorem c_spec_MapPut_ok : trF Tryz.prog ⟨[(0, [1, 2, 3, 6, 9, 10, 11, 13], [1, 2, 3, 6, 9, 10, 11, 13])], [6, 7, 8], false, false⟩ Tryz.f61 = some c_spec_MapPut := by kernel_rfl
def c_spec_l17Map : IFn := ⟨7, [.t 2],
  (.seq (.reg false [⟨some 2, none, .mov (.k (.c (.int .i64 0)))⟩])
 (.seq (.reg false [⟨some 3, none, .lit 5 1 [.int .i64 0] [(0, .k (.c (.int .i64 0))), (1, .k (.c (.int .i64 4))), (2, .k (.c (.int .i64 2))), (3, .k (.c (.int .i64 3))), (4, .k (.c (.int .i64 1)))] 3⟩,
 ⟨some 4, none, .mov (.t 0)⟩,
 ⟨some 5, none, .ixs (.t 3) (.t 4) 1⟩,
 ⟨some 6, none, .load1 (.t 5)⟩,
 ⟨some 2, none, .mov (.t 6)⟩])
 (.ret (some [2]))))⟩
theorem c_spec_l17Map_ok : trF Tryz.prog ⟨[], [2], false, false⟩ Tryz.f62 = some c_spec_l17Map := by kernel_rfl
def c_spec_MapDrop : IFn := ⟨68, [.cell 4 65 true, .t 5, .t 6],
  (.seq (.reg false [⟨some 2, none, .box (.t 0) 44⟩,
 ⟨some 4, none, .alloc [.bool false, .int .i64 0, .int .i64 0, .int .i64 0, .bool false, .int .i64 0, .int .i64 0, .int .i64 0, .bool false, .int .i64 0, .int .i64 0, .int .i64 0, .bool false, .int .i64 0, .int .i64 0, .int .i64 0, .bool false, .int .i64 0, .int .i64 0, .int .i64 0, .bool false, .int .i64 0, .int .i64 0, .int .i64 0, .bool false, .int .i64 0, .int .i64 0, .int .i64 0, .bool false, .int .i64 0, .int .i64 0, .int .i64 0, .bool false, .int .i64 0, .int .i64 0, .int .i64 0, .bool false, .int .i64 0, .int .i64 0, .int .i64 0, .bool false, .int .i64 0, .int .i64 0, .int .i64 0, .bool false, .int .i64 0, .int .i64 0, .int .i64 0, .bool false, .int .i64 0, .int .i64 0, .int .i64 0, .bool false, .int .i64 0, .int .i64 0, .int .i64 0, .bool false, .int .i64 0, .int .i64 0, .int .i64 0, .bool false, .int .i64 0, .int .i64 0, .int .i64 0, .int .i64 0] 44⟩,
 ⟨some 5, none, .mov (.k (.c (.int .i64 0)))⟩,
 ⟨some 6, none, .mov (.k (.c (.int .i64 0)))⟩])
 (.seq (.seq (.reg false [⟨some 11, none, .loadN (.t 2) 65⟩,
 ⟨some 12, none, .call 57 [.t 11]⟩,
 ⟨some 13, none, .un .not (.t 12)⟩,
 ⟨some 14, none, .mov (.t 13)⟩,
 ⟨some 15, some (14, false), .mov (.t 1)⟩,
 ⟨some 16, some (14, false), .call 37 [.t 15]⟩,
 ⟨some 17, some (14, false), .un .not (.t 16)⟩,
 ⟨some 18, none, .pick (.t 14) (.k (.c (.bool true))) (.t 17)⟩])
 (.cond (.t 18) (.seq (.reg false [⟨some 19, none, .loadN (.t 2) 65⟩,
 ⟨none, none, .store (.t 4) (.t 19) 65⟩,
 ⟨some 5, none, .mov (.k (.c (.int .i64 0)))⟩,
 ⟨some 6, none, .mov (.k (.c (.int .i64 1)))⟩])
 (.ret (some [4, 5, 6]))) .skip))
 (.seq (.reg false [⟨some 21, none, .loadN (.t 2) 65⟩,
 ⟨some 22, none, .mov (.t 1)⟩,
 ⟨some 23, none, .call 102 [.t 21, .t 22]⟩,
 ⟨some 20, none, .mov (.t 23)⟩,
 ⟨some 24, none, .ext (.t 20) 0⟩,
 ⟨some 25, none, .ext (.t 20) 1⟩,
 ⟨some 26, none, .ext (.t 20) 2⟩,
 ⟨some 27, none, .ext (.t 20) 3⟩,
 ⟨some 7, none, .mov (.t 24)⟩,
 ⟨some 8, none, .mov (.t 25)⟩,
 ⟨some 9, none, .mov (.t 26)⟩,
 ⟨some 10, none, .mov (.t 27)⟩])
 (.seq (.seq (.reg false [⟨some 28, none, .mov (.t 10)⟩,
 ⟨some 29, none, .un .not (.t 28)⟩])
 (.cond (.t 29) (.seq (.reg false [⟨some 30, none, .loadN (.t 2) 65⟩,
 ⟨some 31, none, .mov (.t 9)⟩,
 ⟨none, none, .store (.t 4) (.t 30) 65⟩,
 ⟨some 5, none, .mov (.t 31)⟩,
 ⟨some 6, none, .mov (.k (.c (.int .i64 2)))⟩])
 (.ret (some [4, 5, 6]))) .skip))
 (.seq (.seq (.reg false [⟨some 32, none, .mov (.t 7)⟩,
 ⟨some 33, none, .bin .lss (.t 32) (.k (.c (.int .i64 0)))⟩,
 ⟨some 34, none, .mov (.t 33)⟩,
 ⟨some 35, some (34, false), .mov (.t 7)⟩,
 ⟨some 36, some (34, false), .fld (.t 2) 0⟩,
 ⟨some 37, some (34, false), .ixa (.t 36) (.t 35) 16 4⟩,
 ⟨some 38, some (34, false), .fld (.t 37) 1⟩,
 ⟨some 39, some (34, false), .load1 (.t 38)⟩,
 ⟨some 40, some (34, false), .mov (.t 1)⟩,
 ⟨some 41, some (34, false), .bin .neq (.t 39) (.t 40)⟩,
 ⟨some 42, none, .pick (.t 34) (.k (.c (.bool true))) (.t 41)⟩])
 (.cond (.t 42) (.seq (.reg false [⟨some 43, none, .loadN (.t 2) 65⟩,
 ⟨some 44, none, .mov (.t 9)⟩,
 ⟨none, none, .store (.t 4) (.t 43) 65⟩,
 ⟨some 5, none, .mov (.t 44)⟩,
 ⟨some 6, none, .mov (.k (.c (.int .i64 4)))⟩])
 (.ret (some [4, 5, 6]))) .skip))
 (.seq (.seq (.reg false [⟨some 45, none, .mov (.t 8)⟩,
 ⟨some 46, none, .bin .lss (.t 45) (.k (.c (.int .i64 0)))⟩])
 (.cond (.t 46) (.reg false [⟨some 47, none, .mov (.t 7)⟩,
 ⟨some 48, none, .fld (.t 2) 0⟩,
 ⟨some 49, none, .ixa (.t 48) (.t 47) 16 4⟩,
 ⟨some 50, none, .fld (.t 49) 3⟩,
 ⟨some 51, none, .load1 (.t 50)⟩,
 ⟨some 52, none, .fld (.t 2) 64⟩,
 ⟨none, none, .store (.t 52) (.t 51) 1⟩]) (.reg false [⟨some 53, none, .mov (.t 8)⟩,
 ⟨some 54, none, .mov (.t 7)⟩,
 ⟨some 55, none, .fld (.t 2) 0⟩,
 ⟨some 56, none, .ixa (.t 55) (.t 54) 16 4⟩,
 ⟨some 57, none, .fld (.t 56) 3⟩,
 ⟨some 58, none, .load1 (.t 57)⟩,
 ⟨some 59, none, .fld (.t 2) 0⟩,
 ⟨some 60, none, .ixa (.t 59) (.t 53) 16 4⟩,
 ⟨some 61, none, .fld (.t 60) 3⟩,
 ⟨none, none, .store (.t 61) (.t 58) 1⟩])))
 (.seq (.reg false [⟨some 62, none, .mov (.t 7)⟩,
 ⟨some 63, none, .bld [.bool false, .int .i64 0, .int .i64 0, .int .i64 0] []⟩,
 ⟨some 64, none, .fld (.t 2) 0⟩,
 ⟨some 65, none, .ixa (.t 64) (.t 62) 16 4⟩,
 ⟨none, none, .store (.t 65) (.t 63) 4⟩])
 (.seq (.reg false [⟨some 66, none, .loadN (.t 2) 65⟩,
 ⟨some 67, none, .mov (.t 9)⟩,
 ⟨none, none, .store (.t 4) (.t 66) 65⟩,
 ⟨some 5, none, .mov (.t 67)⟩,
 ⟨some 6, none, .mov (.k (.c (.int .i64 0)))⟩])
 (.ret (some [4, 5, 6]))))))))))⟩
theorem c_spec_MapDrop_ok : trF Tryz.prog ⟨[], [4, 5, 6], false, false⟩ Tryz.f63 = some c_spec_MapDrop := by kernel_rfl
def c_spec_MapGet : IFn := ⟨48, [.t 4, .t 5, .t 6],
  (.seq (.reg false [⟨some 2, none, .box (.t 0) 44⟩,
 ⟨some 4, none, .mov (.k (.c (.int .i64 0)))⟩,
 ⟨some 5, none, .mov (.k (.c (.int .i64 0)))⟩,
 ⟨some 6, none, .mov (.k (.c (.int .i64 0)))⟩])
 (.seq (.seq (.reg false [⟨some 11, none, .loadN (.t 2) 65⟩,
 ⟨some 12, none, .call 57 [.t 11]⟩,
 ⟨some 13, none, .un .not (.t 12)⟩,
 ⟨some 14, none, .mov (.t 13)⟩,
 ⟨some 15, some (14, false), .mov (.t 1)⟩,
 ⟨some 16, some (14, false), .call 37 [.t 15]⟩,
 ⟨some 17, some (14, false), .un .not (.t 16)⟩,
 ⟨some 18, none, .pick (.t 14) (.k (.c (.bool true))) (.t 17)⟩])
 (.cond (.t 18) (.seq (.reg false [⟨some 4, none, .mov (.k (.c (.int .i64 0)))⟩,
 ⟨some 5, none, .mov (.k (.c (.int .i64 0)))⟩,
 ⟨some 6, none, .mov (.k (.c (.int .i64 1)))⟩])
 (.ret (some [4, 5, 6]))) .skip))
 (.seq (.reg false [⟨some 20, none, .loadN (.t 2) 65⟩,
 ⟨some 21, none, .mov (.t 1)⟩,
 ⟨some 22, none, .call 102 [.t 20, .t 21]⟩,
 ⟨some 19, none, .mov (.t 22)⟩,
 ⟨some 23, none, .ext (.t 19) 0⟩,
 ⟨some 24, none, .ext (.t 19) 1⟩,
 ⟨some 25, none, .ext (.t 19) 2⟩,
 ⟨some 26, none, .ext (.t 19) 3⟩,
 ⟨some 7, none, .mov (.t 23)⟩,
 ⟨some 8, none, .mov (.t 24)⟩,
 ⟨some 9, none, .mov (.t 25)⟩,
 ⟨some 10, none, .mov (.t 26)⟩])
 (.seq (.seq (.reg false [⟨some 27, none, .mov (.t 10)⟩,
 ⟨some 28, none, .un .not (.t 27)⟩])
 (.cond (.t 28) (.seq (.reg false [⟨some 29, none, .mov (.t 9)⟩,
 ⟨some 4, none, .mov (.k (.c (.int .i64 0)))⟩,
 ⟨some 5, none, .mov (.t 29)⟩,
 ⟨some 6, none, .mov (.k (.c (.int .i64 2)))⟩])
 (.ret (some [4, 5, 6]))) .skip))
 (.seq (.seq (.reg false [⟨some 30, none, .mov (.t 7)⟩,
 ⟨some 31, none, .bin .lss (.t 30) (.k (.c (.int .i64 0)))⟩,
 ⟨some 32, none, .mov (.t 31)⟩,
 ⟨some 33, some (32, false), .mov (.t 7)⟩,
 ⟨some 34, some (32, false), .fld (.t 2) 0⟩,
 ⟨some 35, some (32, false), .ixa (.t 34) (.t 33) 16 4⟩,
 ⟨some 36, some (32, false), .fld (.t 35) 1⟩,
 ⟨some 37, some (32, false), .load1 (.t 36)⟩,
 ⟨some 38, some (32, false), .mov (.t 1)⟩,
 ⟨some 39, some (32, false), .bin .neq (.t 37) (.t 38)⟩,
 ⟨some 40, none, .pick (.t 32) (.k (.c (.bool true))) (.t 39)⟩])
 (.cond (.t 40) (.seq (.reg false [⟨some 41, none, .mov (.t 9)⟩,
 ⟨some 4, none, .mov (.k (.c (.int .i64 0)))⟩,
 ⟨some 5, none, .mov (.t 41)⟩,
 ⟨some 6, none, .mov (.k (.c (.int .i64 4)))⟩])
 (.ret (some [4, 5, 6]))) .skip))
 (.seq (.reg false [⟨some 42, none, .mov (.t 7)⟩,
 ⟨some 43, none, .fld (.t 2) 0⟩,
 ⟨some 44, none, .ixa (.t 43) (.t 42) 16 4⟩,
 ⟨some 45, none, .fld (.t 44) 2⟩,
 ⟨some 46, none, .load1 (.t 45)⟩,
 ⟨some 47, none, .mov (.t 9)⟩,
 ⟨some 4, none, .mov (.t 46)⟩,
 ⟨some 5, none, .mov (.t 47)⟩,
 ⟨some 6, none, .mov (.k (.c (.int .i64 0)))⟩])
 (.ret (some [4, 5, 6]))))))))⟩
theorem c_spec_MapGet_ok : trF Tryz.prog ⟨[], [4, 5, 6], false, false⟩ Tryz.f64 = some c_spec_MapGet := by kernel_rfl
def c_spec_RingPut : IFn := ⟨35, [.cell 4 10 true, .t 5],
  (.seq (.reg false [⟨some 2, none, .box (.t 0) 45⟩,
 ⟨some 4, none, .alloc [.int .i64 0, .int .i64 0, .int .i64 0, .int .i64 0, .int .i64 0, .int .i64 0, .int .i64 0, .int .i64 0, .int .i64 0, .int .i64 0] 45⟩,
 ⟨some 5, none, .mov (.k (.c (.int .i64 0)))⟩])
 (.seq (.block 0 none none
 (.seq (.reg false [⟨some 7, none, .loadN (.t 2) 10⟩,
 ⟨some 8, none, .call 58 [.t 7]⟩,
 ⟨some 9, none, .un .not (.t 8)⟩,
 ⟨some 10, none, .mov (.t 9)⟩,
 ⟨some 11, some (10, false), .mov (.t 1)⟩,
 ⟨some 12, some (10, false), .call 37 [.t 11]⟩,
 ⟨some 13, some (10, false), .un .not (.t 12)⟩,
 ⟨some 14, none, .pick (.t 10) (.k (.c (.bool true))) (.t 13)⟩,
 ⟨some 6, none, .mov (.t 14)⟩])
 (.cond (.t 6) (.seq (.reg false [⟨some 15, none, .loadN (.t 2) 10⟩,
 ⟨none, none, .store (.t 4) (.t 15) 10⟩,
 ⟨some 5, none, .mov (.k (.c (.int .i64 1)))⟩])
 (.ret (some [4, 5]))) (.seq (.reg false [⟨some 17, none, .fld (.t 2) 9⟩,
 ⟨some 18, none, .load1 (.t 17)⟩,
 ⟨some 19, none, .bin .eql (.t 18) (.k (.c (.int .i64 8)))⟩,
 ⟨some 16, none, .mov (.t 19)⟩])
 (.cond (.t 16) (.seq (.reg false [⟨some 20, none, .loadN (.t 2) 10⟩,
 ⟨none, none, .store (.t 4) (.t 20) 10⟩,
 ⟨some 5, none, .mov (.k (.c (.int .i64 2)))⟩])
 (.ret (some [4, 5]))) .skip)))))
 (.seq (.reg false [⟨some 21, none, .fld (.t 2) 8⟩,
 ⟨some 22, none, .load1 (.t 21)⟩,
 ⟨some 23, none, .fld (.t 2) 9⟩,
 ⟨some 24, none, .load1 (.t 23)⟩,
 ⟨some 25, none, .bin .add (.t 22) (.t 24)⟩,
 ⟨some 26, none, .bin .rem (.t 25) (.k (.c (.int .i64 8)))⟩,
 ⟨some 27, none, .mov (.t 1)⟩,
 ⟨some 28, none, .fld (.t 2) 0⟩,
 ⟨some 29, none, .ixa (.t 28) (.t 26) 8 1⟩,
 ⟨none, none, .store (.t 29) (.t 27) 1⟩])
 (.seq (.reg false [⟨some 30, none, .fld (.t 2) 9⟩,
 ⟨some 31, none, .load1 (.t 30)⟩,
 ⟨some 32, none, .bin .add (.t 31) (.k (.c (.int .i64 1)))⟩,
 ⟨some 33, none, .fld (.t 2) 9⟩,
 ⟨none, none, .store (.t 33) (.t 32) 1⟩])
 (.seq (.reg false [⟨some 34, none, .loadN (.t 2) 10⟩,
 ⟨none, none, .store (.t 4) (.t 34) 10⟩,
 ⟨some 5, none, .mov (.k (.c (.int .i64 0)))⟩])
 (.ret (some [4, 5])))))))⟩
theorem c_spec_RingPut_ok : trF Tryz.prog ⟨[], [4, 5], false, false⟩ Tryz.f65 = some c_spec_RingPut := by kernel_rfl
def c_spec_l17Ring : IFn := ⟨7, [.t 2],
  (.seq (.reg false [⟨some 2, none, .mov (.k (.c (.int .i64 0)))⟩])
 (.seq (.reg false [⟨some 3, none, .lit 4 1 [.int .i64 0] [(0, .k (.c (.int .i64 0))), (1, .k (.c (.int .i64 4))), (2, .k (.c (.int .i64 3))), (3, .k (.c (.int .i64 1)))] 3⟩,
 ⟨some 4, none, .mov (.t 0)⟩,
 ⟨some 5, none, .ixs (.t 3) (.t 4) 1⟩,
 ⟨some 6, none, .load1 (.t 5)⟩,
 ⟨some 2, none, .mov (.t 6)⟩])
 (.ret (some [2]))))⟩
theorem c_spec_l17Ring_ok : trF Tryz.prog ⟨[], [2], false, false⟩ Tryz.f66 = some c_spec_l17Ring := by kernel_rfl
def c_spec_RingTake : IFn := ⟨36, [.cell 2 10 true, .t 3, .t 4],
  (.seq (.reg false [⟨some 1, none, .box (.t 0) 45⟩,
 ⟨some 2, none, .alloc [.int .i64 0, .int .i64 0, .int .i64 0, .int .i64 0, .int .i64 0, .int .i64 0, .int .i64 0, .int .i64 0, .int .i64 0, .int .i64 0] 45⟩,
 ⟨some 3, none, .mov (.k (.c (.int .i64 0)))⟩,
 ⟨some 4, none, .mov (.k (.c (.int .i64 0)))⟩])
 (.seq (.block 0 none none
 (.seq (.reg false [⟨some 7, none, .loadN (.t 1) 10⟩,
 ⟨some 8, none, .call 58 [.t 7]⟩,
 ⟨some 9, none, .un .not (.t 8)⟩,
 ⟨some 6, none, .mov (.t 9)⟩])
 (.cond (.t 6) (.seq (.reg false [⟨some 10, none, .loadN (.t 1) 10⟩,
 ⟨none, none, .store (.t 2) (.t 10) 10⟩,
 ⟨some 3, none, .mov (.k (.c (.int .i64 0)))⟩,
 ⟨some 4, none, .mov (.k (.c (.int .i64 1)))⟩])
 (.ret (some [2, 3, 4]))) (.seq (.reg false [⟨some 12, none, .fld (.t 1) 9⟩,
 ⟨some 13, none, .load1 (.t 12)⟩,
 ⟨some 14, none, .bin .eql (.t 13) (.k (.c (.int .i64 0)))⟩,
 ⟨some 11, none, .mov (.t 14)⟩])
 (.cond (.t 11) (.seq (.reg false [⟨some 15, none, .loadN (.t 1) 10⟩,
 ⟨none, none, .store (.t 2) (.t 15) 10⟩,
 ⟨some 3, none, .mov (.k (.c (.int .i64 0)))⟩,
 ⟨some 4, none, .mov (.k (.c (.int .i64 3)))⟩])
 (.ret (some [2, 3, 4]))) .skip)))))
 (.seq (.reg false [⟨some 16, none, .fld (.t 1) 8⟩,
 ⟨some 17, none, .load1 (.t 16)⟩,
 ⟨some 18, none, .fld (.t 1) 0⟩,
 ⟨some 19, none, .ixa (.t 18) (.t 17) 8 1⟩,
 ⟨some 20, none, .load1 (.t 19)⟩,
 ⟨some 5, none, .mov (.t 20)⟩])
 (.seq (.reg false [⟨some 21, none, .fld (.t 1) 8⟩,
 ⟨some 22, none, .load1 (.t 21)⟩,
 ⟨some 23, none, .fld (.t 1) 0⟩,
 ⟨some 24, none, .ixa (.t 23) (.t 22) 8 1⟩,
 ⟨none, none, .store (.t 24) (.k (.c (.int .i64 0))) 1⟩])
 (.seq (.reg false [⟨some 25, none, .fld (.t 1) 8⟩,
 ⟨some 26, none, .load1 (.t 25)⟩,
 ⟨some 27, none, .bin .add (.t 26) (.k (.c (.int .i64 1)))⟩,
 ⟨some 28, none, .bin .rem (.t 27) (.k (.c (.int .i64 8)))⟩,
 ⟨some 29, none, .fld (.t 1) 8⟩,
 ⟨none, none, .store (.t 29) (.t 28) 1⟩])
 (.seq (.reg false [⟨some 30, none, .fld (.t 1) 9⟩,
 ⟨some 31, none, .load1 (.t 30)⟩,
 ⟨some 32, none, .bin .sub (.t 31) (.k (.c (.int .i64 1)))⟩,
 ⟨some 33, none, .fld (.t 1) 9⟩,
 ⟨none, none, .store (.t 33) (.t 32) 1⟩])
 (.seq (.reg false [⟨some 34, none, .loadN (.t 1) 10⟩,
 ⟨some 35, none, .mov (.t 5)⟩,
 ⟨none, none, .store (.t 2) (.t 34) 10⟩,
 ⟨some 3, none, .mov (.t 35)⟩,
 ⟨some 4, none, .mov (.k (.c (.int .i64 0)))⟩])
 (.ret (some [2, 3, 4])))))))))⟩
theorem c_spec_RingTake_ok : trF Tryz.prog ⟨[], [2, 3, 4], false, false⟩ Tryz.f67 = some c_spec_RingTake := by kernel_rfl
def c_spec_TreeAdd_b0 : IC :=
  (.seq (.seq (.reg false [⟨some 31, none, .mov (.t 9)⟩,
 ⟨some 32, none, .bin .lss (.t 31) (.k (.c (.int .i64 16)))⟩,
 ⟨some 33, none, .mov (.t 32)⟩,
 ⟨some 34, some (33, true), .mov (.t 9)⟩,
 ⟨some 35, some (33, true), .fld (.t 2) 0⟩,
 ⟨some 36, some (33, true), .ixa (.t 35) (.t 34) 16 4⟩,
 ⟨some 37, some (33, true), .fld (.t 36) 0⟩,
 ⟨some 38, some (33, true), .load1 (.t 37)⟩,
 ⟨some 39, none, .pick (.t 33) (.t 38) (.k (.c (.bool false)))⟩])
 (.cond (.t 39) .skip (.exit 0)))
 (.block 1 none none
 (.reg false [⟨some 40, none, .mov (.t 9)⟩,
 ⟨some 41, none, .bin .add (.t 40) (.k (.c (.int .i64 1)))⟩,
 ⟨some 9, none, .mov (.t 41)⟩])))
def c_spec_TreeAdd : IFn := ⟨55, [.cell 4 65 true, .t 5],
  (.seq (.reg false [⟨some 2, none, .box (.t 0) 49⟩,
 ⟨some 4, none, .alloc [.bool false, .int .i64 0, .int .i64 0, .int .i64 0, .bool false, .int .i64 0, .int .i64 0, .int .i64 0, .bool false, .int .i64 0, .int .i64 0, .int .i64 0, .bool false, .int .i64 0, .int .i64 0, .int .i64 0, .bool false, .int .i64 0, .int .i64 0, .int .i64 0, .bool false, .int .i64 0, .int .i64 0, .int .i64 0, .bool false, .int .i64 0, .int .i64 0, .int .i64 0, .bool false, .int .i64 0, .int .i64 0, .int .i64 0, .bool false, .int .i64 0, .int .i64 0, .int .i64 0, .bool false, .int .i64 0, .int .i64 0, .int .i64 0, .bool false, .int .i64 0, .int .i64 0, .int .i64 0, .bool false, .int .i64 0, .int .i64 0, .int .i64 0, .bool false, .int .i64 0, .int .i64 0, .int .i64 0, .bool false, .int .i64 0, .int .i64 0, .int .i64 0, .bool false, .int .i64 0, .int .i64 0, .int .i64 0, .bool false, .int .i64 0, .int .i64 0, .int .i64 0, .int .i64 0] 49⟩,
 ⟨some 5, none, .mov (.k (.c (.int .i64 0)))⟩])
 (.seq (.seq (.reg false [⟨some 10, none, .loadN (.t 2) 65⟩,
 ⟨some 11, none, .call 59 [.t 10]⟩,
 ⟨some 12, none, .un .not (.t 11)⟩,
 ⟨some 13, none, .mov (.t 12)⟩,
 ⟨some 14, some (13, false), .mov (.t 1)⟩,
 ⟨some 15, some (13, false), .call 37 [.t 14]⟩,
 ⟨some 16, some (13, false), .un .not (.t 15)⟩,
 ⟨some 17, none, .pick (.t 13) (.k (.c (.bool true))) (.t 16)⟩])
 (.cond (.t 17) (.seq (.reg false [⟨some 18, none, .loadN (.t 2) 65⟩,
 ⟨none, none, .store (.t 4) (.t 18) 65⟩,
 ⟨some 5, none, .mov (.k (.c (.int .i64 1)))⟩])
 (.ret (some [4, 5]))) .skip))
 (.seq (.reg false [⟨some 20, none, .loadN (.t 2) 65⟩,
 ⟨some 21, none, .mov (.t 1)⟩,
 ⟨some 22, none, .call 103 [.t 20, .t 21]⟩,
 ⟨some 19, none, .mov (.t 22)⟩,
 ⟨some 23, none, .ext (.t 19) 0⟩,
 ⟨some 24, none, .ext (.t 19) 1⟩,
 ⟨some 25, none, .ext (.t 19) 2⟩,
 ⟨some 6, none, .mov (.t 23)⟩,
 ⟨some 7, none, .mov (.t 24)⟩,
 ⟨some 8, none, .mov (.t 25)⟩])
 (.seq (.seq (.reg false [⟨some 26, none, .mov (.t 8)⟩,
 ⟨some 27, none, .un .not (.t 26)⟩])
 (.cond (.t 27) (.seq (.reg false [⟨some 28, none, .loadN (.t 2) 65⟩,
 ⟨none, none, .store (.t 4) (.t 28) 65⟩,
 ⟨some 5, none, .mov (.k (.c (.int .i64 2)))⟩])
 (.ret (some [4, 5]))) .skip))
 (.seq (.seq (.reg false [⟨some 29, none, .mov (.t 7)⟩])
 (.cond (.t 29) (.seq (.reg false [⟨some 30, none, .loadN (.t 2) 65⟩,
 ⟨none, none, .store (.t 4) (.t 30) 65⟩,
 ⟨some 5, none, .mov (.k (.c (.int .i64 4)))⟩])
 (.ret (some [4, 5]))) .skip))
 (.seq (.reg false [⟨some 9, none, .mov (.k (.c (.int .i64 0)))⟩])
 (.seq (.block 0 (some [1, 2, 4, 6, 9]) (some [1, 2, 4, 6, 9])
 (.loop c_spec_TreeAdd_b0))
 (.seq (.seq (.reg false [⟨some 42, none, .mov (.t 9)⟩,
 ⟨some 43, none, .bin .eql (.t 42) (.k (.c (.int .i64 16)))⟩])
 (.cond (.t 43) (.seq (.reg false [⟨some 44, none, .loadN (.t 2) 65⟩,
 ⟨none, none, .store (.t 4) (.t 44) 65⟩,
 ⟨some 5, none, .mov (.k (.c (.int .i64 3)))⟩])
 (.ret (some [4, 5]))) .skip))
 (.seq (.reg false [⟨some 45, none, .mov (.t 9)⟩,
 ⟨some 46, none, .mov (.t 1)⟩,
 ⟨some 47, none, .bld [.bool false, .int .i64 0, .int .i64 0, .int .i64 0] [(0, (1, .k (.c (.bool true)))), (1, (1, .t 46)), (2, (1, .k (.c (.int .i64 (-1))))), (3, (1, .k (.c (.int .i64 (-1)))))]⟩,
 ⟨some 48, none, .fld (.t 2) 0⟩,
 ⟨some 49, none, .ixa (.t 48) (.t 45) 16 4⟩,
 ⟨none, none, .store (.t 49) (.t 47) 4⟩])
 (.seq (.reg false [⟨some 50, none, .loadN (.t 2) 65⟩,
 ⟨some 51, none, .mov (.t 6)⟩,
 ⟨some 52, none, .mov (.t 1)⟩,
 ⟨some 53, none, .mov (.t 9)⟩,
 ⟨some 54, none, .call 104 [.t 50, .t 51, .t 52, .t 53]⟩,
 ⟨none, none, .store (.t 4) (.t 54) 65⟩,
 ⟨some 5, none, .mov (.k (.c (.int .i64 0)))⟩])
 (.ret (some [4, 5]))))))))))))⟩
theorem c_spec_TreeAdd_ok : trF Tryz.prog ⟨[(0, [1, 2, 4, 6, 9], [1, 2, 4, 6, 9])], [4, 5], false, false⟩ Tryz.f68 = some c_spec_TreeAdd := by kernel_rfl
def c_spec_l17Tree : IFn := ⟨7, [.t 2],
  (.seq (.reg false [⟨some 2, none, .mov (.k (.c (.int .i64 0)))⟩])
 (.seq (.reg false [⟨some 3, none, .lit 6 1 [.int .i64 0] [(0, .k (.c (.int .i64 0))), (1, .k (.c (.int .i64 4))), (2, .k (.c (.int .i64 2))), (3, .k (.c (.int .i64 3))), (4, .k (.c (.int .i64 1))), (5, .k (.c (.int .i64 1)))] 3⟩,
 ⟨some 4, none, .mov (.t 0)⟩,
 ⟨some 5, none, .ixs (.t 3) (.t 4) 1⟩,
 ⟨some 6, none, .load1 (.t 5)⟩,
 ⟨some 2, none, .mov (.t 6)⟩])
 (.ret (some [2]))))⟩
theorem c_spec_l17Tree_ok : trF Tryz.prog ⟨[], [2], false, false⟩ Tryz.f69 = some c_spec_l17Tree := by kernel_rfl
def c_spec_TreeDrop_b0 : IC :=
  (.seq (.seq (.reg false [⟨some 63, none, .mov (.t 14)⟩,
 ⟨some 64, none, .fld (.t 2) 0⟩,
 ⟨some 65, none, .ixa (.t 64) (.t 63) 16 4⟩,
 ⟨some 66, none, .fld (.t 65) 2⟩,
 ⟨some 67, none, .load1 (.t 66)⟩,
 ⟨some 68, none, .bin .geq (.t 67) (.k (.c (.int .i64 0)))⟩])
 (.cond (.t 68) .skip (.exit 0)))
 (.block 1 none none
 (.seq (.reg false [⟨some 69, none, .mov (.t 14)⟩,
 ⟨some 13, none, .mov (.t 69)⟩])
 (.seq (.reg false [⟨some 70, none, .mov (.t 14)⟩,
 ⟨some 71, none, .fld (.t 2) 0⟩,
 ⟨some 72, none, .ixa (.t 71) (.t 70) 16 4⟩,
 ⟨some 73, none, .fld (.t 72) 2⟩,
 ⟨some 74, none, .load1 (.t 73)⟩,
 ⟨some 14, none, .mov (.t 74)⟩])
 (.reg false [⟨some 75, none, .mov (.t 12)⟩,
 ⟨some 76, none, .bin .add (.t 75) (.k (.c (.int .i64 1)))⟩,
 ⟨some 12, none, .mov (.t 76)⟩])))))
def c_spec_TreeDrop : IFn := ⟨135, [.cell 4 65 true, .t 5],
  (.seq (.reg false [⟨some 2, none, .box (.t 0) 49⟩,
 ⟨some 4, none, .alloc [.bool false, .int .i64 0, .int .i64 0, .int .i64 0, .bool false, .int .i64 0, .int .i64 0, .int .i64 0, .bool false, .int .i64 0, .int .i64 0, .int .i64 0, .bool false, .int .i64 0, .int .i64 0, .int .i64 0, .bool false, .int .i64 0, .int .i64 0, .int .i64 0, .bool false, .int .i64 0, .int .i64 0, .int .i64 0, .bool false, .int .i64 0, .int .i64 0, .int .i64 0, .bool false, .int .i64 0, .int .i64 0, .int .i64 0, .bool false, .int .i64 0, .int .i64 0, .int .i64 0, .bool false, .int .i64 0, .int .i64 0, .int .i64 0, .bool false, .int .i64 0, .int .i64 0, .int .i64 0, .bool false, .int .i64 0, .int .i64 0, .int .i64 0, .bool false, .int .i64 0, .int .i64 0, .int .i64 0, .bool false, .int .i64 0, .int .i64 0, .int .i64 0, .bool false, .int .i64 0, .int .i64 0, .int .i64 0, .bool false, .int .i64 0, .int .i64 0, .int .i64 0, .int .i64 0] 49⟩,
 ⟨some 5, none, .mov (.k (.c (.int .i64 0)))⟩])
 (.seq (.seq (.reg false [⟨some 16, none, .loadN (.t 2) 65⟩,
 ⟨some 17, none, .call 59 [.t 16]⟩,
 ⟨some 18, none, .un .not (.t 17)⟩,
 ⟨some 19, none, .mov (.t 18)⟩,
 ⟨some 20, some (19, false), .mov (.t 1)⟩,
 ⟨some 21, some (19, false), .call 37 [.t 20]⟩,
 ⟨some 22, some (19, false), .un .not (.t 21)⟩,
 ⟨some 23, none, .pick (.t 19) (.k (.c (.bool true))) (.t 22)⟩])
 (.cond (.t 23) (.seq (.reg false [⟨some 24, none, .loadN (.t 2) 65⟩,
 ⟨none, none, .store (.t 4) (.t 24) 65⟩,
 ⟨some 5, none, .mov (.k (.c (.int .i64 1)))⟩])
 (.ret (some [4, 5]))) .skip))
 (.seq (.reg false [⟨some 26, none, .loadN (.t 2) 65⟩,
 ⟨some 27, none, .mov (.t 1)⟩,
 ⟨some 28, none, .call 103 [.t 26, .t 27]⟩,
 ⟨some 25, none, .mov (.t 28)⟩,
 ⟨some 29, none, .ext (.t 25) 0⟩,
 ⟨some 30, none, .ext (.t 25) 1⟩,
 ⟨some 31, none, .ext (.t 25) 2⟩,
 ⟨some 6, none, .mov (.t 29)⟩,
 ⟨some 7, none, .mov (.t 30)⟩,
 ⟨some 8, none, .mov (.t 31)⟩])
 (.seq (.seq (.reg false [⟨some 32, none, .mov (.t 8)⟩,
 ⟨some 33, none, .un .not (.t 32)⟩])
 (.cond (.t 33) (.seq (.reg false [⟨some 34, none, .loadN (.t 2) 65⟩,
 ⟨none, none, .store (.t 4) (.t 34) 65⟩,
 ⟨some 5, none, .mov (.k (.c (.int .i64 2)))⟩])
 (.ret (some [4, 5]))) .skip))
 (.seq (.seq (.reg false [⟨some 35, none, .mov (.t 7)⟩,
 ⟨some 36, none, .un .not (.t 35)⟩])
 (.cond (.t 36) (.seq (.reg false [⟨some 37, none, .loadN (.t 2) 65⟩,
 ⟨none, none, .store (.t 4) (.t 37) 65⟩,
 ⟨some 5, none, .mov (.k (.c (.int .i64 5)))⟩])
 (.ret (some [4, 5]))) .skip))
 (.seq (.reg false [⟨some 38, none, .loadN (.t 2) 65⟩,
 ⟨some 9, none, .alloc [.bool false, .int .i64 0, .int .i64 0, .int .i64 0, .bool false, .int .i64 0, .int .i64 0, .int .i64 0, .bool false, .int .i64 0, .int .i64 0, .int .i64 0, .bool false, .int .i64 0, .int .i64 0, .int .i64 0, .bool false, .int .i64 0, .int .i64 0, .int .i64 0, .bool false, .int .i64 0, .int .i64 0, .int .i64 0, .bool false, .int .i64 0, .int .i64 0, .int .i64 0, .bool false, .int .i64 0, .int .i64 0, .int .i64 0, .bool false, .int .i64 0, .int .i64 0, .int .i64 0, .bool false, .int .i64 0, .int .i64 0, .int .i64 0, .bool false, .int .i64 0, .int .i64 0, .int .i64 0, .bool false, .int .i64 0, .int .i64 0, .int .i64 0, .bool false, .int .i64 0, .int .i64 0, .int .i64 0, .bool false, .int .i64 0, .int .i64 0, .int .i64 0, .bool false, .int .i64 0, .int .i64 0, .int .i64 0, .bool false, .int .i64 0, .int .i64 0, .int .i64 0, .int .i64 0] 49⟩,
 ⟨none, none, .store (.t 9) (.t 38) 65⟩])
 (.seq (.reg false [⟨some 39, none, .mov (.t 6)⟩,
 ⟨some 40, none, .mov (.t 6)⟩,
 ⟨some 41, none, .len (.t 40)⟩,
 ⟨some 42, none, .bin .sub (.t 41) (.k (.c (.int .i64 1)))⟩,
 ⟨some 43, none, .ixs (.t 39) (.t 42) 1⟩,
 ⟨some 44, none, .load1 (.t 43)⟩,
 ⟨some 10, none, .mov (.t 44)⟩])
 (.seq (.reg false [⟨some 45, none, .mov (.t 10)⟩,
 ⟨some 46, none, .fld (.t 2) 0⟩,
 ⟨some 47, none, .ixa (.t 46) (.t 45) 16 4⟩,
 ⟨some 48, none, .loadN (.t 47) 4⟩,
 ⟨some 11, none, .alloc [.bool false, .int .i64 0, .int .i64 0, .int .i64 0] 46⟩,
 ⟨none, none, .store (.t 11) (.t 48) 4⟩])
 (.seq (.seq (.reg false [⟨some 49, none, .fld (.t 11) 2⟩,
 ⟨some 50, none, .load1 (.t 49)⟩,
 ⟨some 51, none, .bin .geq (.t 50) (.k (.c (.int .i64 0)))⟩,
 ⟨some 52, none, .mov (.t 51)⟩,
 ⟨some 53, some (52, true), .fld (.t 11) 3⟩,
 ⟨some 54, some (52, true), .load1 (.t 53)⟩,
 ⟨some 55, some (52, true), .bin .geq (.t 54) (.k (.c (.int .i64 0)))⟩,
 ⟨some 56, none, .pick (.t 52) (.t 55) (.k (.c (.bool false)))⟩])
 (.cond (.t 56) (.seq (.reg false [⟨some 57, none, .mov (.t 6)⟩,
 ⟨some 58, none, .len (.t 57)⟩,
 ⟨some 59, none, .bin .add (.t 58) (.k (.c (.int .i64 1)))⟩,
 ⟨some 12, none, .mov (.t 59)⟩])
 (.seq (.reg true [⟨some 60, none, .mov (.t 10)⟩,
 ⟨some 61, none, .fld (.t 11) 3⟩,
 ⟨some 62, none, .load1 (.t 61)⟩,
 ⟨some 13, none, .mov (.t 60)⟩,
 ⟨some 14, none, .mov (.t 62)⟩])
 (.seq (.block 0 (some [2, 4, 9, 10, 12, 13, 14]) (some [2, 4, 9, 10, 12, 13, 14])
 (.loop c_spec_TreeDrop_b0))
 (.seq (.seq (.reg false [⟨some 77, none, .mov (.t 12)⟩,
 ⟨some 78, none, .bin .gtr (.t 77) (.k (.c (.int .i64 8)))⟩])
 (.cond (.t 78) (.seq (.reg false [⟨some 79, none, .loadN (.t 9) 65⟩,
 ⟨none, none, .store (.t 4) (.t 79) 65⟩,
 ⟨some 5, none, .mov (.k (.c (.int .i64 2)))⟩])
 (.ret (some [4, 5]))) .skip))
 (.seq (.reg false [⟨some 80, none, .mov (.t 10)⟩,
 ⟨some 81, none, .mov (.t 14)⟩,
 ⟨some 82, none, .fld (.t 2) 0⟩,
 ⟨some 83, none, .ixa (.t 82) (.t 81) 16 4⟩,
 ⟨some 84, none, .fld (.t 83) 1⟩,
 ⟨some 85, none, .load1 (.t 84)⟩,
 ⟨some 86, none, .fld (.t 2) 0⟩,
 ⟨some 87, none, .ixa (.t 86) (.t 80) 16 4⟩,
 ⟨some 88, none, .fld (.t 87) 1⟩,
 ⟨none, none, .store (.t 88) (.t 85) 1⟩])
 (.seq (.seq (.reg false [⟨some 89, none, .mov (.t 13)⟩,
 ⟨some 90, none, .mov (.t 10)⟩,
 ⟨some 91, none, .bin .eql (.t 89) (.t 90)⟩])
 (.cond (.t 91) (.reg false [⟨some 92, none, .mov (.t 10)⟩,
 ⟨some 93, none, .mov (.t 14)⟩,
 ⟨some 94, none, .fld (.t 2) 0⟩,
 ⟨some 95, none, .ixa (.t 94) (.t 93) 16 4⟩,
 ⟨some 96, none, .fld (.t 95) 3⟩,
 ⟨some 97, none, .load1 (.t 96)⟩,
 ⟨some 98, none, .fld (.t 2) 0⟩,
 ⟨some 99, none, .ixa (.t 98) (.t 92) 16 4⟩,
 ⟨some 100, none, .fld (.t 99) 3⟩,
 ⟨none, none, .store (.t 100) (.t 97) 1⟩]) (.reg false [⟨some 101, none, .mov (.t 13)⟩,
 ⟨some 102, none, .mov (.t 14)⟩,
 ⟨some 103, none, .fld (.t 2) 0⟩,
 ⟨some 104, none, .ixa (.t 103) (.t 102) 16 4⟩,
 ⟨some 105, none, .fld (.t 104) 3⟩,
 ⟨some 106, none, .load1 (.t 105)⟩,
 ⟨some 107, none, .fld (.t 2) 0⟩,
 ⟨some 108, none, .ixa (.t 107) (.t 101) 16 4⟩,
 ⟨some 109, none, .fld (.t 108) 2⟩,
 ⟨none, none, .store (.t 109) (.t 106) 1⟩])))
 (.seq (.reg false [⟨some 110, none, .mov (.t 14)⟩,
 ⟨some 111, none, .bld [.bool false, .int .i64 0, .int .i64 0, .int .i64 0] []⟩,
 ⟨some 112, none, .fld (.t 2) 0⟩,
 ⟨some 113, none, .ixa (.t 112) (.t 110) 16 4⟩,
 ⟨none, none, .store (.t 113) (.t 111) 4⟩])
 (.seq (.reg false [⟨some 114, none, .loadN (.t 2) 65⟩,
 ⟨none, none, .store (.t 4) (.t 114) 65⟩,
 ⟨some 5, none, .mov (.k (.c (.int .i64 0)))⟩])
 (.ret (some [4, 5])))))))))) .skip))
 (.seq (.reg false [⟨some 115, none, .fld (.t 11) 2⟩,
 ⟨some 116, none, .load1 (.t 115)⟩,
 ⟨some 15, none, .mov (.t 116)⟩])
 (.seq (.seq (.reg false [⟨some 117, none, .mov (.t 15)⟩,
 ⟨some 118, none, .bin .lss (.t 117) (.k (.c (.int .i64 0)))⟩])
 (.cond (.t 118) (.reg false [⟨some 119, none, .fld (.t 11) 3⟩,
 ⟨some 120, none, .load1 (.t 119)⟩,
 ⟨some 15, none, .mov (.t 120)⟩]) .skip))
 (.seq (.regE 0 [⟨⟨some 121, none, .loadN (.t 2) 65⟩, 0, 0, false, []⟩,
 ⟨⟨some 122, none, .mov (.t 6)⟩, 1, 0, false, []⟩,
 ⟨⟨some 123, none, .mov (.t 6)⟩, 2, 0, false, []⟩,
 ⟨⟨some 124, none, .len (.t 123)⟩, 3, 0, false, []⟩,
 ⟨⟨some 125, none, .bin .sub (.t 124) (.k (.c (.int .i64 1)))⟩, 4, 0, false, []⟩,
 ⟨⟨some 126, none, .sls (.t 122) 1 none (some (.t 125))⟩, 5, 0, false, []⟩,
 ⟨⟨some 127, none, .mov (.t 1)⟩, 6, 0, false, []⟩,
 ⟨⟨some 128, none, .mov (.t 15)⟩, 7, 0, false, []⟩,
 ⟨⟨some 129, none, .call 104 [.t 121, .t 126, .t 127, .t 128]⟩, 8, 0, false, []⟩,
 ⟨⟨none, none, .store (.t 2) (.t 129) 65⟩, 9, 0, false, []⟩])
 (.seq (.reg false [⟨some 130, none, .mov (.t 10)⟩,
 ⟨some 131, none, .bld [.bool false, .int .i64 0, .int .i64 0, .int .i64 0] []⟩,
 ⟨some 132, none, .fld (.t 2) 0⟩,
 ⟨some 133, none, .ixa (.t 132) (.t 130) 16 4⟩,
 ⟨none, none, .store (.t 133) (.t 131) 4⟩])
 (.seq (.reg false [⟨some 134, none, .loadN (.t 2) 65⟩,
 ⟨none, none, .store (.t 4) (.t 134) 65⟩,
 ⟨some 5, none, .mov (.k (.c (.int .i64 0)))⟩])
 (.ret (some [4, 5]))))))))))))))))⟩
theorem c_spec_TreeDrop_ok : trF Tryz.prog ⟨[(0, [2, 4, 9, 10, 12, 13, 14], [2, 4, 9, 10, 12, 13, 14])], [4, 5], false, false⟩ Tryz.f70 = some c_spec_TreeDrop := by kernel_rfl
def c_spec_SetAdd_b0 : IC :=
  (.seq (.seq (.reg false [⟨some 23, none, .mov (.t 6)⟩,
 ⟨some 24, none, .mov (.t 1)⟩,
 ⟨some 25, none, .mov (.t 6)⟩,
 ⟨some 26, none, .len (.t 25)⟩,
 ⟨some 27, none, .call 101 [.t 24, .t 26]⟩,
 ⟨some 28, none, .ixs (.t 23) (.t 27) 1⟩,
 ⟨some 29, none, .load1 (.t 28)⟩,
 ⟨some 30, none, .len (.t 29)⟩,
 ⟨some 31, none, .bin .eql (.t 30) (.k (.c (.int .i64 3)))⟩])
 (.cond (.t 31) .skip (.exit 0)))
 (.block 1 none none
 (.seq (.seq (.reg false [⟨some 32, none, .mov (.t 6)⟩,
 ⟨some 33, none, .len (.t 32)⟩,
 ⟨some 34, none, .bin .eql (.t 33) (.k (.c (.int .i64 8)))⟩])
 (.cond (.t 34) (.seq (.reg false [⟨some 35, none, .mov (.t 0)⟩,
 ⟨some 36, none, .call 56 [.t 35]⟩,
 ⟨some 4, none, .mov (.t 36)⟩,
 ⟨some 5, none, .mov (.k (.c (.int .i64 3)))⟩])
 (.ret (some [4, 5]))) .skip))
 (.reg false [⟨some 37, none, .mov (.t 6)⟩,
 ⟨some 38, none, .call 106 [.t 37]⟩,
 ⟨some 6, none, .mov (.t 38)⟩]))))
def c_spec_SetAdd : IFn := ⟨53, [.t 4, .t 5],
  (.seq (.reg false [⟨some 4, none, .mov (.k (.c .nils))⟩,
 ⟨some 5, none, .mov (.k (.c (.int .i64 0)))⟩])
 (.seq (.reg false [⟨some 8, none, .mov (.t 0)⟩,
 ⟨some 9, none, .call 56 [.t 8]⟩,
 ⟨some 6, none, .mov (.t 9)⟩])
 (.seq (.seq (.reg false [⟨some 10, none, .mov (.t 0)⟩,
 ⟨some 11, none, .call 60 [.t 10]⟩,
 ⟨some 12, none, .un .not (.t 11)⟩,
 ⟨some 13, none, .mov (.t 12)⟩,
 ⟨some 14, some (13, false), .mov (.t 1)⟩,
 ⟨some 15, some (13, false), .call 37 [.t 14]⟩,
 ⟨some 16, some (13, false), .un .not (.t 15)⟩,
 ⟨some 17, none, .pick (.t 13) (.k (.c (.bool true))) (.t 16)⟩])
 (.cond (.t 17) (.seq (.reg false [⟨some 18, none, .mov (.t 6)⟩,
 ⟨some 4, none, .mov (.t 18)⟩,
 ⟨some 5, none, .mov (.k (.c (.int .i64 1)))⟩])
 (.ret (some [4, 5]))) .skip))
 (.seq (.seq (.reg false [⟨some 19, none, .mov (.t 0)⟩,
 ⟨some 20, none, .mov (.t 1)⟩,
 ⟨some 21, none, .call 105 [.t 19, .t 20]⟩])
 (.cond (.t 21) (.seq (.reg false [⟨some 22, none, .mov (.t 6)⟩,
 ⟨some 4, none, .mov (.t 22)⟩,
 ⟨some 5, none, .mov (.k (.c (.int .i64 2)))⟩])
 (.ret (some [4, 5]))) .skip))
 (.seq (.block 0 (some [0, 1, 6]) (some [1, 6])
 (.loop c_spec_SetAdd_b0))
 (.seq (.reg false [⟨some 39, none, .mov (.t 1)⟩,
 ⟨some 40, none, .mov (.t 6)⟩,
 ⟨some 41, none, .len (.t 40)⟩,
 ⟨some 42, none, .call 101 [.t 39, .t 41]⟩,
 ⟨some 7, none, .mov (.t 42)⟩])
 (.seq (.reg false [⟨some 43, none, .mov (.t 6)⟩,
 ⟨some 44, none, .mov (.t 7)⟩,
 ⟨some 45, none, .mov (.t 6)⟩,
 ⟨some 46, none, .mov (.t 7)⟩,
 ⟨some 47, none, .ixs (.t 45) (.t 46) 1⟩,
 ⟨some 48, none, .load1 (.t 47)⟩,
 ⟨some 49, none, .mov (.t 1)⟩,
 ⟨some 50, none, .call 107 [.t 48, .t 49]⟩,
 ⟨some 51, none, .ixs (.t 43) (.t 44) 1⟩,
 ⟨none, none, .store (.t 51) (.t 50) 1⟩])
 (.seq (.reg false [⟨some 52, none, .mov (.t 6)⟩,
 ⟨some 4, none, .mov (.t 52)⟩,
 ⟨some 5, none, .mov (.k (.c (.int .i64 0)))⟩])
 (.ret (some [4, 5]))))))))))⟩
theorem c_spec_SetAdd_ok : trF Tryz.prog ⟨[(0, [0, 1, 6], [1, 6])], [4, 5], false, false⟩ Tryz.f71 = some c_spec_SetAdd := by kernel_rfl
def c_spec_l17Set : IFn := ⟨7, [.t 2],
  (.seq (.reg false [⟨some 2, none, .mov (.k (.c (.int .i64 0)))⟩])
 (.seq (.reg false [⟨some 3, none, .lit 5 1 [.int .i64 0] [(0, .k (.c (.int .i64 0))), (1, .k (.c (.int .i64 4))), (2, .k (.c (.int .i64 1))), (3, .k (.c (.int .i64 3))), (4, .k (.c (.int .i64 1)))] 3⟩,
 ⟨some 4, none, .mov (.t 0)⟩,
 ⟨some 5, none, .ixs (.t 3) (.t 4) 1⟩,
 ⟨some 6, none, .load1 (.t 5)⟩,
 ⟨some 2, none, .mov (.t 6)⟩])
 (.ret (some [2]))))⟩
theorem c_spec_l17Set_ok : trF Tryz.prog ⟨[], [2], false, false⟩ Tryz.f72 = some c_spec_l17Set := by kernel_rfl
def c_spec_SetDrop_b0 : IC :=
  (.seq (.seq (.reg false [⟨some 33, none, .mov (.t 8)⟩,
 ⟨some 34, none, .mov (.t 0)⟩,
 ⟨some 35, none, .mov (.t 7)⟩,
 ⟨some 36, none, .ixs (.t 34) (.t 35) 1⟩,
 ⟨some 37, none, .load1 (.t 36)⟩,
 ⟨some 38, none, .len (.t 37)⟩,
 ⟨some 39, none, .bin .lss (.t 33) (.t 38)⟩])
 (.cond (.t 39) .skip (.exit 0)))
 (.seq (.block 1 none none
 (.seq (.reg false [⟨some 42, none, .mov (.t 0)⟩,
 ⟨some 43, none, .mov (.t 7)⟩,
 ⟨some 44, none, .ixs (.t 42) (.t 43) 1⟩,
 ⟨some 45, none, .load1 (.t 44)⟩,
 ⟨some 46, none, .mov (.t 8)⟩,
 ⟨some 47, none, .ixs (.t 45) (.t 46) 1⟩,
 ⟨some 48, none, .load1 (.t 47)⟩,
 ⟨some 49, none, .mov (.t 1)⟩,
 ⟨some 50, none, .bin .neq (.t 48) (.t 49)⟩])
 (.cond (.t 50) (.regE 1 [⟨⟨some 51, none, .mov (.t 6)⟩, 0, 0, false, []⟩,
 ⟨⟨some 52, none, .mov (.t 7)⟩, 1, 0, false, []⟩,
 ⟨⟨some 53, none, .mov (.t 6)⟩, 2, 0, false, []⟩,
 ⟨⟨some 54, none, .mov (.t 7)⟩, 3, 0, false, []⟩,
 ⟨⟨some 55, none, .ixs (.t 53) (.t 54) 1⟩, 4, 0, false, []⟩,
 ⟨⟨some 56, none, .load1 (.t 55)⟩, 5, 0, false, []⟩,
 ⟨⟨some 57, none, .mov (.t 0)⟩, 6, 0, false, []⟩,
 ⟨⟨some 58, none, .mov (.t 7)⟩, 7, 0, false, []⟩,
 ⟨⟨some 59, none, .ixs (.t 57) (.t 58) 1⟩, 8, 0, false, []⟩,
 ⟨⟨some 60, none, .load1 (.t 59)⟩, 9, 0, false, []⟩,
 ⟨⟨some 61, none, .mov (.t 8)⟩, 10, 0, false, []⟩,
 ⟨⟨some 62, none, .ixs (.t 60) (.t 61) 1⟩, 11, 0, false, []⟩,
 ⟨⟨some 63, none, .load1 (.t 62)⟩, 12, 0, false, []⟩,
 ⟨⟨some 64, none, .lit 1 1 [.int .i64 0] [(0, .t 63)] 3⟩, 13, 0, false, [4, 5]⟩,
 ⟨⟨some 65, none, .app (.t 56) (.t 64) 3 1 8⟩, 14, 1, false, []⟩,
 ⟨⟨some 66, none, .ixs (.t 51) (.t 52) 1⟩, 15, 1, false, []⟩,
 ⟨⟨none, none, .store (.t 66) (.t 65) 1⟩, 16, 1, false, []⟩]) .skip)))
 (.reg false [⟨some 40, none, .mov (.t 8)⟩,
 ⟨some 41, none, .bin .add (.t 40) (.k (.c (.int .i64 1)))⟩,
 ⟨some 8, none, .mov (.t 41)⟩])))
def c_spec_SetDrop : IFn := ⟨68, [.t 4, .t 5],
  (.seq (.reg false [⟨some 4, none, .mov (.k (.c .nils))⟩,
 ⟨some 5, none, .mov (.k (.c (.int .i64 0)))⟩])
 (.seq (.reg false [⟨some 9, none, .mov (.t 0)⟩,
 ⟨some 10, none, .call 56 [.t 9]⟩,
 ⟨some 6, none, .mov (.t 10)⟩])
 (.seq (.seq (.reg false [⟨some 11, none, .mov (.t 0)⟩,
 ⟨some 12, none, .call 60 [.t 11]⟩,
 ⟨some 13, none, .un .not (.t 12)⟩,
 ⟨some 14, none, .mov (.t 13)⟩,
 ⟨some 15, some (14, false), .mov (.t 1)⟩,
 ⟨some 16, some (14, false), .call 37 [.t 15]⟩,
 ⟨some 17, some (14, false), .un .not (.t 16)⟩,
 ⟨some 18, none, .pick (.t 14) (.k (.c (.bool true))) (.t 17)⟩])
 (.cond (.t 18) (.seq (.reg false [⟨some 19, none, .mov (.t 6)⟩,
 ⟨some 4, none, .mov (.t 19)⟩,
 ⟨some 5, none, .mov (.k (.c (.int .i64 1)))⟩])
 (.ret (some [4, 5]))) .skip))
 (.seq (.seq (.reg false [⟨some 20, none, .mov (.t 0)⟩,
 ⟨some 21, none, .mov (.t 1)⟩,
 ⟨some 22, none, .call 105 [.t 20, .t 21]⟩,
 ⟨some 23, none, .un .not (.t 22)⟩])
 (.cond (.t 23) (.seq (.reg false [⟨some 24, none, .mov (.t 6)⟩,
 ⟨some 4, none, .mov (.t 24)⟩,
 ⟨some 5, none, .mov (.k (.c (.int .i64 4)))⟩])
 (.ret (some [4, 5]))) .skip))
 (.seq (.reg false [⟨some 25, none, .mov (.t 1)⟩,
 ⟨some 26, none, .mov (.t 0)⟩,
 ⟨some 27, none, .len (.t 26)⟩,
 ⟨some 28, none, .call 101 [.t 25, .t 27]⟩,
 ⟨some 7, none, .mov (.t 28)⟩])
 (.seq (.reg false [⟨some 29, none, .mov (.t 6)⟩,
 ⟨some 30, none, .mov (.t 7)⟩,
 ⟨some 31, none, .lit 0 1 [.int .i64 0] [] 3⟩,
 ⟨some 32, none, .ixs (.t 29) (.t 30) 1⟩,
 ⟨none, none, .store (.t 32) (.t 31) 1⟩])
 (.seq (.seq (.reg false [⟨some 8, none, .mov (.k (.c (.int .i64 0)))⟩])
 (.block 0 (some [0, 1, 6, 7, 8]) (some [6])
 (.loop c_spec_SetDrop_b0)))
 (.seq (.reg false [⟨some 67, none, .mov (.t 6)⟩,
 ⟨some 4, none, .mov (.t 67)⟩,
 ⟨some 5, none, .mov (.k (.c (.int .i64 0)))⟩])
 (.ret (some [4, 5]))))))))))⟩
theorem c_spec_SetDrop_ok : trF Tryz.prog ⟨[(0, [0, 1, 6, 7, 8], [6])], [4, 5], false, false⟩ Tryz.f73 = some c_spec_SetDrop := by kernel_rfl
def c_laws_toNodeA16_b0 : IC :=
  (.seq (.seq (.reg false [⟨some 5, none, .mov (.t 4)⟩,
 ⟨some 6, none, .bin .lss (.t 5) (.k (.c (.int .i64 16)))⟩])
 (.cond (.t 6) .skip (.exit 0)))
 (.seq (.block 1 none none
 (.reg false [⟨some 9, none, .mov (.t 4)⟩,
 ⟨some 10, none, .mov (.t 4)⟩,
 ⟨some 11, none, .ixa (.t 1) (.t 10) 16 4⟩,
 ⟨some 12, none, .loadN (.t 11) 4⟩,
 ⟨some 13, none, .call 108 [.t 12]⟩,
 ⟨some 14, none, .ixa (.t 3) (.t 9) 16 4⟩,
 ⟨none, none, .store (.t 14) (.t 13) 4⟩]))
 (.reg false [⟨some 7, none, .mov (.t 4)⟩,
 ⟨some 8, none, .bin .add (.t 7) (.k (.c (.int .i64 1)))⟩,
 ⟨some 4, none, .mov (.t 8)⟩])))
def c_laws_toNodeA16 : IFn := ⟨16, [.cell 2 64 true],
  (.seq (.reg false [⟨some 1, none, .box (.t 0) 24⟩,
 ⟨some 2, none, .alloc [.bool false, .int .i64 0, .int .i64 0, .int .i64 0, .bool false, .int .i64 0, .int .i64 0, .int .i64 0, .bool false, .int .i64 0, .int .i64 0, .int .i64 0, .bool false, .int .i64 0, .int .i64 0, .int .i64 0, .bool false, .int .i64 0, .int .i64 0, .int .i64 0, .bool false, .int .i64 0, .int .i64 0, .int .i64 0, .bool false, .int .i64 0, .int .i64 0, .int .i64 0, .bool false, .int .i64 0, .int .i64 0, .int .i64 0, .bool false, .int .i64 0, .int .i64 0, .int .i64 0, .bool false, .int .i64 0, .int .i64 0, .int .i64 0, .bool false, .int .i64 0, .int .i64 0, .int .i64 0, .bool false, .int .i64 0, .int .i64 0, .int .i64 0, .bool false, .int .i64 0, .int .i64 0, .int .i64 0, .bool false, .int .i64 0, .int .i64 0, .int .i64 0, .bool false, .int .i64 0, .int .i64 0, .int .i64 0, .bool false, .int .i64 0, .int .i64 0, .int .i64 0] 42⟩])
 (.seq (.reg false [⟨some 3, none, .alloc [.bool false, .int .i64 0, .int .i64 0, .int .i64 0, .bool false, .int .i64 0, .int .i64 0, .int .i64 0, .bool false, .int .i64 0, .int .i64 0, .int .i64 0, .bool false, .int .i64 0, .int .i64 0, .int .i64 0, .bool false, .int .i64 0, .int .i64 0, .int .i64 0, .bool false, .int .i64 0, .int .i64 0, .int .i64 0, .bool false, .int .i64 0, .int .i64 0, .int .i64 0, .bool false, .int .i64 0, .int .i64 0, .int .i64 0, .bool false, .int .i64 0, .int .i64 0, .int .i64 0, .bool false, .int .i64 0, .int .i64 0, .int .i64 0, .bool false, .int .i64 0, .int .i64 0, .int .i64 0, .bool false, .int .i64 0, .int .i64 0, .int .i64 0, .bool false, .int .i64 0, .int .i64 0, .int .i64 0, .bool false, .int .i64 0, .int .i64 0, .int .i64 0, .bool false, .int .i64 0, .int .i64 0, .int .i64 0, .bool false, .int .i64 0, .int .i64 0, .int .i64 0] 42⟩])
 (.seq (.seq (.reg false [⟨some 4, none, .mov (.k (.c (.int .i64 0)))⟩])
 (.block 0 (some [1, 2, 3, 4]) (some [2, 3])
 (.loop c_laws_toNodeA16_b0)))
 (.seq (.reg false [⟨some 15, none, .loadN (.t 3) 64⟩,
 ⟨none, none, .store (.t 2) (.t 15) 64⟩])
 (.ret (some [2]))))))⟩
theorem c_laws_toNodeA16_ok : trF Tryz.prog ⟨[(0, [1, 2, 3, 4], [2, 3])], [2], false, false⟩ Tryz.f74 = some c_laws_toNodeA16 := by kernel_rfl
def c_laws_toIntA8_b0 : IC :=
  (.seq (.seq (.reg false [⟨some 5, none, .mov (.t 4)⟩,
 ⟨some 6, none, .bin .lss (.t 5) (.k (.c (.int .i64 8)))⟩])
 (.cond (.t 6) .skip (.exit 0)))
 (.seq (.block 1 none none
 (.reg false [⟨some 9, none, .mov (.t 4)⟩,
 ⟨some 10, none, .mov (.t 4)⟩,
 ⟨some 11, none, .ixa (.t 1) (.t 10) 8 1⟩,
 ⟨some 12, none, .load1 (.t 11)⟩,
 ⟨some 13, none, .ixa (.t 3) (.t 9) 8 1⟩,
 ⟨none, none, .store (.t 13) (.t 12) 1⟩]))
 (.reg false [⟨some 7, none, .mov (.t 4)⟩,
 ⟨some 8, none, .bin .add (.t 7) (.k (.c (.int .i64 1)))⟩,
 ⟨some 4, none, .mov (.t 8)⟩])))
def c_laws_toIntA8 : IFn := ⟨15, [.cell 2 8 true],
  (.seq (.reg false [⟨some 1, none, .box (.t 0) 27⟩,
 ⟨some 2, none, .alloc [.int .i64 0, .int .i64 0, .int .i64 0, .int .i64 0, .int .i64 0, .int .i64 0, .int .i64 0, .int .i64 0] 27⟩])
 (.seq (.reg false [⟨some 3, none, .alloc [.int .i64 0, .int .i64 0, .int .i64 0, .int .i64 0, .int .i64 0, .int .i64 0, .int .i64 0, .int .i64 0] 27⟩])
 (.seq (.seq (.reg false [⟨some 4, none, .mov (.k (.c (.int .i64 0)))⟩])
 (.block 0 (some [1, 2, 3, 4]) (some [2, 3])
 (.loop c_laws_toIntA8_b0)))
 (.seq (.reg false [⟨some 14, none, .loadN (.t 3) 8⟩,
 ⟨none, none, .store (.t 2) (.t 14) 8⟩])
 (.ret (some [2]))))))⟩
theorem c_laws_toIntA8_ok : trF Tryz.prog ⟨[(0, [1, 2, 3, 4], [2, 3])], [2], false, false⟩ Tryz.f75 = some c_laws_toIntA8 := by kernel_rfl
def c_laws_toTwigA16_b0 : IC :=
  (.seq (.seq (.reg false [⟨some 5, none, .mov (.t 4)⟩,
 ⟨some 6, none, .bin .lss (.t 5) (.k (.c (.int .i64 16)))⟩])
 (.cond (.t 6) .skip (.exit 0)))
 (.seq (.block 1 none none
 (.reg false [⟨some 9, none, .mov (.t 4)⟩,
 ⟨some 10, none, .mov (.t 4)⟩,
 ⟨some 11, none, .ixa (.t 1) (.t 10) 16 4⟩,
 ⟨some 12, none, .loadN (.t 11) 4⟩,
 ⟨some 13, none, .call 109 [.t 12]⟩,
 ⟨some 14, none, .ixa (.t 3) (.t 9) 16 4⟩,
 ⟨none, none, .store (.t 14) (.t 13) 4⟩]))
 (.reg false [⟨some 7, none, .mov (.t 4)⟩,
 ⟨some 8, none, .bin .add (.t 7) (.k (.c (.int .i64 1)))⟩,
 ⟨some 4, none, .mov (.t 8)⟩])))
def c_laws_toTwigA16 : IFn := ⟨16, [.cell 2 64 true],
  (.seq (.reg false [⟨some 1, none, .box (.t 0) 32⟩,
 ⟨some 2, none, .alloc [.bool false, .int .i64 0, .int .i64 0, .int .i64 0, .bool false, .int .i64 0, .int .i64 0, .int .i64 0, .bool false, .int .i64 0, .int .i64 0, .int .i64 0, .bool false, .int .i64 0, .int .i64 0, .int .i64 0, .bool false, .int .i64 0, .int .i64 0, .int .i64 0, .bool false, .int .i64 0, .int .i64 0, .int .i64 0, .bool false, .int .i64 0, .int .i64 0, .int .i64 0, .bool false, .int .i64 0, .int .i64 0, .int .i64 0, .bool false, .int .i64 0, .int .i64 0, .int .i64 0, .bool false, .int .i64 0, .int .i64 0, .int .i64 0, .bool false, .int .i64 0, .int .i64 0, .int .i64 0, .bool false, .int .i64 0, .int .i64 0, .int .i64 0, .bool false, .int .i64 0, .int .i64 0, .int .i64 0, .bool false, .int .i64 0, .int .i64 0, .int .i64 0, .bool false, .int .i64 0, .int .i64 0, .int .i64 0, .bool false, .int .i64 0, .int .i64 0, .int .i64 0] 47⟩])
 (.seq (.reg false [⟨some 3, none, .alloc [.bool false, .int .i64 0, .int .i64 0, .int .i64 0, .bool false, .int .i64 0, .int .i64 0, .int .i64 0, .bool false, .int .i64 0, .int .i64 0, .int .i64 0, .bool false, .int .i64 0, .int .i64 0, .int .i64 0, .bool false, .int .i64 0, .int .i64 0, .int .i64 0, .bool false, .int .i64 0, .int .i64 0, .int .i64 0, .bool false, .int .i64 0, .int .i64 0, .int .i64 0, .bool false, .int .i64 0, .int .i64 0, .int .i64 0, .bool false, .int .i64 0, .int .i64 0, .int .i64 0, .bool false, .int .i64 0, .int .i64 0, .int .i64 0, .bool false, .int .i64 0, .int .i64 0, .int .i64 0, .bool false, .int .i64 0, .int .i64 0, .int .i64 0, .bool false, .int .i64 0, .int .i64 0, .int .i64 0, .bool false, .int .i64 0, .int .i64 0, .int .i64 0, .bool false, .int .i64 0, .int .i64 0, .int .i64 0, .bool false, .int .i64 0, .int .i64 0, .int .i64 0] 47⟩])
 (.seq (.seq (.reg false [⟨some 4, none, .mov (.k (.c (.int .i64 0)))⟩])
 (.block 0 (some [1, 2, 3, 4]) (some [2, 3])
 (.loop c_laws_toTwigA16_b0)))
 (.seq (.reg false [⟨some 15, none, .loadN (.t 3) 64⟩,
 ⟨none, none, .store (.t 2) (.t 15) 64⟩])
 (.ret (some [2]))))))⟩
theorem c_laws_toTwigA16_ok : trF Tryz.prog ⟨[(0, [1, 2, 3, 4], [2, 3])], [2], false, false⟩ Tryz.f76 = some c_laws_toTwigA16 := by kernel_rfl
def c_laws_toIntS_b0 : IC :=
  (.seq (.seq (.reg false [⟨some 8, none, .mov (.t 4)⟩,
 ⟨some 9, none, .mov (.t 0)⟩,
 ⟨some 10, none, .len (.t 9)⟩,
 ⟨some 11, none, .bin .lss (.t 8) (.t 10)⟩])
 (.cond (.t 11) .skip (.exit 0)))
 (.seq (.block 1 none none
 (.reg false [⟨some 14, none, .mov (.t 3)⟩,
 ⟨some 15, none, .mov (.t 4)⟩,
 ⟨some 16, none, .mov (.t 0)⟩,
 ⟨some 17, none, .mov (.t 4)⟩,
 ⟨some 18, none, .ixs (.t 16) (.t 17) 1⟩,
 ⟨some 19, none, .load1 (.t 18)⟩,
 ⟨some 20, none, .ixs (.t 14) (.t 15) 1⟩,
 ⟨none, none, .store (.t 20) (.t 19) 1⟩]))
 (.reg false [⟨some 12, none, .mov (.t 4)⟩,
 ⟨some 13, none, .bin .add (.t 12) (.k (.c (.int .i64 1)))⟩,
 ⟨some 4, none, .mov (.t 13)⟩])))
def c_laws_toIntS : IFn := ⟨22, [.t 2],
  (.seq (.reg false [⟨some 2, none, .mov (.k (.c .nils))⟩])
 (.seq (.reg false [⟨some 5, none, .mov (.t 0)⟩,
 ⟨some 6, none, .len (.t 5)⟩,
 ⟨some 7, none, .mks (.t 6) [.int .i64 0] 3 8⟩,
 ⟨some 3, none, .mov (.t 7)⟩])
 (.seq (.seq (.reg false [⟨some 4, none, .mov (.k (.c (.int .i64 0)))⟩])
 (.block 0 (some [0, 3, 4]) (some [3])
 (.loop c_laws_toIntS_b0)))
 (.seq (.reg false [⟨some 21, none, .mov (.t 3)⟩,
 ⟨some 2, none, .mov (.t 21)⟩])
 (.ret (some [2]))))))⟩
theorem c_laws_toIntS_ok : trF Tryz.prog ⟨[(0, [0, 3, 4], [3])], [2], false, false⟩ Tryz.f77 = some c_laws_toIntS := by kernel_rfl
def c_impl_ownSet_b0 : IC :=
  (.seq (.reg false [⟨some 10, none, .bin .lss (.t 9) (.t 8)⟩])
 (.seq (.cond (.t 10) .skip (.exit 0))
 (.seq (.block 1 none none
 (.seq (.reg false [⟨some 11, none, .ixs (.t 7) (.t 9) 1⟩,
 ⟨some 12, none, .load1 (.t 11)⟩,
 ⟨some 5, none, .mov (.t 12)⟩])
 (.reg false [⟨some 13, none, .mov (.t 3)⟩,
 ⟨some 14, none, .mov (.t 5)⟩,
 ⟨some 15, none, .call 110 [.t 14]⟩,
 ⟨some 16, none, .lit 1 1 [.nils] [(0, .t 15)] 103⟩,
 ⟨some 17, none, .app (.t 13) (.t 16) 103 1 24⟩,
 ⟨some 3, none, .mov (.t 17)⟩])))
 (.reg false [⟨some 18, none, .bin .add (.t 9) (.k (.c (.int .i64 1)))⟩,
 ⟨some 9, none, .mov (.t 18)⟩]))))
def c_impl_ownSet : IFn := ⟨20, [.t 2],
  (.seq (.reg false [⟨some 2, none, .mov (.k (.c .nils))⟩])
 (.seq (.reg false [⟨some 6, none, .lit 0 1 [.nils] [] 103⟩,
 ⟨some 3, none, .mov (.t 6)⟩])
 (.seq (.seq (.reg false [⟨some 7, none, .mov (.t 0)⟩,
 ⟨some 8, none, .len (.t 7)⟩,
 ⟨some 9, none, .mov (.k (.c (.int .i64 0)))⟩])
 (.block 0 (some [3, 7, 8, 9]) (some [3])
 (.loop c_impl_ownSet_b0)))
 (.seq (.reg false [⟨some 19, none, .mov (.t 3)⟩,
 ⟨some 2, none, .mov (.t 19)⟩])
 (.ret (some [2]))))))⟩
theorem c_impl_ownSet_ok : trF Tryz.prog ⟨[(0, [3, 7, 8, 9], [3])], [2], false, false⟩ Tryz.f78 = some c_impl_ownSet := by kernel_rfl
def c_impl_ChainOk_b0 : IC :=
  (.seq (.reg false [⟨some 12, none, .bin .lss (.t 11) (.k (.c (.int .i64 16)))⟩])
 (.seq (.cond (.t 12) .skip (.exit 0))
 (.seq (.block 1 none none
 (.seq (.reg false [⟨some 13, none, .idx (.t 10) (.t 11) 16 4 true⟩,
 ⟨some 6, none, .alloc [.bool false, .int .i64 0, .int .i64 0, .int .i64 0] 41⟩,
 ⟨none, none, .store (.t 6) (.t 13) 4⟩])
 (.block 2 none none
 (.seq (.reg false [⟨some 15, none, .fld (.t 6) 0⟩,
 ⟨some 16, none, .load1 (.t 15)⟩,
 ⟨some 14, none, .mov (.t 16)⟩])
 (.cond (.t 14) (.seq (.reg false [⟨some 17, none, .mov (.t 3)⟩,
 ⟨some 18, none, .bin .add (.t 17) (.k (.c (.int .i64 1)))⟩,
 ⟨some 3, none, .mov (.t 18)⟩])
 (.seq (.reg false [⟨some 19, none, .fld (.t 6) 1⟩,
 ⟨some 20, none, .load1 (.t 19)⟩,
 ⟨some 21, none, .call 46 [.t 20]⟩,
 ⟨some 22, none, .un .not (.t 21)⟩,
 ⟨some 23, none, .mov (.t 22)⟩,
 ⟨some 24, some (23, false), .fld (.t 6) 2⟩,
 ⟨some 25, some (23, false), .load1 (.t 24)⟩,
 ⟨some 26, some (23, false), .call 46 [.t 25]⟩,
 ⟨some 27, some (23, false), .un .not (.t 26)⟩,
 ⟨some 28, none, .pick (.t 23) (.k (.c (.bool true))) (.t 27)⟩,
 ⟨some 29, none, .mov (.t 28)⟩,
 ⟨some 30, some (29, false), .fld (.t 6) 3⟩,
 ⟨some 31, some (29, false), .load1 (.t 30)⟩,
 ⟨some 32, some (29, false), .call 45 [.t 31, .k (.c (.int .i64 (-1))), .k (.c (.int .i64 15))]⟩,
 ⟨some 33, some (29, false), .un .not (.t 32)⟩,
 ⟨some 34, none, .pick (.t 29) (.k (.c (.bool true))) (.t 33)⟩])
 (.cond (.t 34) (.seq (.reg false [⟨some 2, none, .mov (.k (.c (.bool false)))⟩])
 (.ret (some [2]))) .skip))) (.seq (.reg false [⟨some 36, none, .loadN (.t 6) 4⟩,
 ⟨some 37, none, .bld [.bool false, .int .i64 0, .int .i64 0, .int .i64 0] []⟩,
 ⟨some 38, none, .eqa true [none, some .i64, some .i64, some .i64] (.t 36) (.t 37)⟩,
 ⟨some 35, none, .mov (.t 38)⟩])
 (.cond (.t 35) (.seq (.reg false [⟨some 2, none, .mov (.k (.c (.bool false)))⟩])
 (.ret (some [2]))) .skip)))))))
 (.reg false [⟨some 39, none, .bin .add (.t 11) (.k (.c (.int .i64 1)))⟩,
 ⟨some 11, none, .mov (.t 39)⟩]))))
def c_impl_ChainOk_b1 : IC :=
  (.seq (.seq (.reg false [⟨some 42, none, .mov (.t 8)⟩,
 ⟨some 43, none, .bin .neq (.t 42) (.k (.c (.int .i64 (-1))))⟩])
 (.cond (.t 43) .skip (.exit 3)))
 (.seq (.block 4 none none
 (.seq (.seq (.reg false [⟨some 49, none, .mov (.t 8)⟩,
 ⟨some 50, none, .call 45 [.t 49, .k (.c (.int .i64 0)), .k (.c (.int .i64 15))]⟩,
 ⟨some 51, none, .un .not (.t 50)⟩,
 ⟨some 52, none, .mov (.t 51)⟩,
 ⟨some 53, some (52, false), .mov (.t 8)⟩,
 ⟨some 54, some (52, false), .fld (.t 1) 0⟩,
 ⟨some 55, some (52, false), .ixa (.t 54) (.t 53) 16 4⟩,
 ⟨some 56, some (52, false), .fld (.t 55) 0⟩,
 ⟨some 57, some (52, false), .load1 (.t 56)⟩,
 ⟨some 58, some (52, false), .un .not (.t 57)⟩,
 ⟨some 59, none, .pick (.t 52) (.k (.c (.bool true))) (.t 58)⟩,
 ⟨some 60, none, .mov (.t 59)⟩,
 ⟨some 61, some (60, false), .mov (.t 8)⟩,
 ⟨some 62, some (60, false), .fld (.t 1) 0⟩,
 ⟨some 63, some (60, false), .ixa (.t 62) (.t 61) 16 4⟩,
 ⟨some 64, some (60, false), .fld (.t 63) 1⟩,
 ⟨some 65, some (60, false), .load1 (.t 64)⟩,
 ⟨some 66, some (60, false), .mov (.t 7)⟩,
 ⟨some 67, some (60, false), .bin .leq (.t 65) (.t 66)⟩,
 ⟨some 68, none, .pick (.t 60) (.k (.c (.bool true))) (.t 67)⟩])
 (.cond (.t 68) (.seq (.reg false [⟨some 2, none, .mov (.k (.c (.bool false)))⟩])
 (.ret (some [2]))) .skip))
 (.seq (.reg false [⟨some 69, none, .mov (.t 8)⟩,
 ⟨some 70, none, .fld (.t 1) 0⟩,
 ⟨some 71, none, .ixa (.t 70) (.t 69) 16 4⟩,
 ⟨some 72, none, .fld (.t 71) 1⟩,
 ⟨some 73, none, .load1 (.t 72)⟩,
 ⟨some 7, none, .mov (.t 73)⟩])
 (.reg false [⟨some 74, none, .mov (.t 4)⟩,
 ⟨some 75, none, .bin .add (.t 74) (.k (.c (.int .i64 1)))⟩,
 ⟨some 4, none, .mov (.t 75)⟩]))))
 (.reg false [⟨some 44, none, .mov (.t 8)⟩,
 ⟨some 45, none, .fld (.t 1) 0⟩,
 ⟨some 46, none, .ixa (.t 45) (.t 44) 16 4⟩,
 ⟨some 47, none, .fld (.t 46) 3⟩,
 ⟨some 48, none, .load1 (.t 47)⟩,
 ⟨some 8, none, .mov (.t 48)⟩])))
def c_impl_ChainOk : IFn := ⟨79, [.t 2],
  (.seq (.reg false [⟨some 1, none, .box (.t 0) 44⟩,
 ⟨some 2, none, .mov (.k (.c (.bool false)))⟩])
 (.seq (.reg false [⟨some 3, none, .mov (.k (.c (.int .i64 0)))⟩,
 ⟨some 4, none, .mov (.k (.c (.int .i64 0)))⟩])
 (.seq (.seq (.reg false [⟨some 9, none, .fld (.t 1) 0⟩,
 ⟨some 10, none, .loadN (.t 9) 64⟩,
 ⟨some 11, none, .mov (.k (.c (.int .i64 0)))⟩])
 (.block 0 (some [1, 3, 4, 10, 11]) (some [1, 3, 4])
 (.loop c_impl_ChainOk_b0)))
 (.seq (.reg false [⟨some 7, none, .mov (.k (.c (.int .i64 (-1000000001))))⟩])
 (.seq (.seq (.reg false [⟨some 40, none, .fld (.t 1) 64⟩,
 ⟨some 41, none, .load1 (.t 40)⟩,
 ⟨some 8, none, .mov (.t 41)⟩])
 (.block 3 (some [1, 3, 4, 7, 8]) (some [3, 4])
 (.loop c_impl_ChainOk_b1)))
 (.seq (.reg false [⟨some 76, none, .mov (.t 4)⟩,
 ⟨some 77, none, .mov (.t 3)⟩,
 ⟨some 78, none, .bin .eql (.t 76) (.t 77)⟩,
 ⟨some 2, none, .mov (.t 78)⟩])
 (.ret (some [2]))))))))⟩
theorem c_impl_ChainOk_ok : trF Tryz.prog ⟨[(0, [1, 3, 4, 10, 11], [1, 3, 4]), (3, [1, 3, 4, 7, 8], [3, 4])], [2], false, false⟩ Tryz.f79 = some c_impl_ChainOk := by kernel_rfl
def c_impl_RingOk_b0 : IC :=
  (.seq (.seq (.reg false [⟨some 22, none, .mov (.t 3)⟩,
 ⟨some 23, none, .bin .lss (.t 22) (.k (.c (.int .i64 8)))⟩])
 (.cond (.t 23) .skip (.exit 0)))
 (.seq (.block 1 none none
 (.seq (.reg false [⟨some 26, none, .fld (.t 1) 8⟩,
 ⟨some 27, none, .load1 (.t 26)⟩,
 ⟨some 28, none, .mov (.t 3)⟩,
 ⟨some 29, none, .bin .add (.t 27) (.t 28)⟩,
 ⟨some 30, none, .bin .rem (.t 29) (.k (.c (.int .i64 8)))⟩,
 ⟨some 31, none, .fld (.t 1) 0⟩,
 ⟨some 32, none, .ixa (.t 31) (.t 30) 8 1⟩,
 ⟨some 33, none, .load1 (.t 32)⟩,
 ⟨some 34, none, .bin .neq (.t 33) (.k (.c (.int .i64 0)))⟩])
 (.cond (.t 34) (.seq (.reg false [⟨some 2, none, .mov (.k (.c (.bool false)))⟩])
 (.ret (some [2]))) .skip)))
 (.reg false [⟨some 24, none, .mov (.t 3)⟩,
 ⟨some 25, none, .bin .add (.t 24) (.k (.c (.int .i64 1)))⟩,
 ⟨some 3, none, .mov (.t 25)⟩])))
def c_impl_RingOk : IFn := ⟨35, [.t 2],
  (.seq (.reg false [⟨some 1, none, .box (.t 0) 45⟩,
 ⟨some 2, none, .mov (.k (.c (.bool false)))⟩])
 (.seq (.seq (.reg false [⟨some 4, none, .fld (.t 1) 8⟩,
 ⟨some 5, none, .load1 (.t 4)⟩,
 ⟨some 6, none, .call 45 [.t 5, .k (.c (.int .i64 0)), .k (.c (.int .i64 7))]⟩,
 ⟨some 7, none, .un .not (.t 6)⟩,
 ⟨some 8, none, .mov (.t 7)⟩,
 ⟨some 9, some (8, false), .fld (.t 1) 9⟩,
 ⟨some 10, some (8, false), .load1 (.t 9)⟩,
 ⟨some 11, some (8, false), .call 45 [.t 10, .k (.c (.int .i64 0)), .k (.c (.int .i64 8))]⟩,
 ⟨some 12, some (8, false), .un .not (.t 11)⟩,
 ⟨some 13, none, .pick (.t 8) (.k (.c (.bool true))) (.t 12)⟩,
 ⟨some 14, none, .mov (.t 13)⟩,
 ⟨some 15, some (14, false), .fld (.t 1) 0⟩,
 ⟨some 16, some (14, false), .sla (.t 15) 8 1 none none⟩,
 ⟨some 17, some (14, false), .call 111 [.t 16]⟩,
 ⟨some 18, some (14, false), .un .not (.t 17)⟩,
 ⟨some 19, none, .pick (.t 14) (.k (.c (.bool true))) (.t 18)⟩])
 (.cond (.t 19) (.seq (.reg false [⟨some 2, none, .mov (.k (.c (.bool false)))⟩])
 (.ret (some [2]))) .skip))
 (.seq (.seq (.reg false [⟨some 20, none, .fld (.t 1) 9⟩,
 ⟨some 21, none, .load1 (.t 20)⟩,
 ⟨some 3, none, .mov (.t 21)⟩])
 (.block 0 (some [1, 3]) (some [])
 (.loop c_impl_RingOk_b0)))
 (.seq (.reg false [⟨some 2, none, .mov (.k (.c (.bool true)))⟩])
 (.ret (some [2]))))))⟩
theorem c_impl_RingOk_ok : trF Tryz.prog ⟨[(0, [1, 3], [])], [2], false, false⟩ Tryz.f80 = some c_impl_RingOk := by kernel_rfl
def c_impl_TreeOk_b0 : IC :=
  (.seq (.reg false [⟨some 15, none, .bin .lss (.t 14) (.k (.c (.int .i64 16)))⟩])
 (.seq (.cond (.t 15) .skip (.exit 0))
 (.seq (.block 1 none none
 (.seq (.reg false [⟨some 16, none, .mov (.t 14)⟩,
 ⟨some 17, none, .idx (.t 13) (.t 14) 16 4 true⟩,
 ⟨some 5, none, .alloc [.bool false, .int .i64 0, .int .i64 0, .int .i64 0] 46⟩,
 ⟨some 4, none, .mov (.t 16)⟩,
 ⟨none, none, .store (.t 5) (.t 17) 4⟩])
 (.seq (.reg true [⟨some 18, none, .fld (.t 5) 0⟩,
 ⟨some 19, none, .load1 (.t 18)⟩,
 ⟨some 20, none, .mov (.t 4)⟩,
 ⟨some 21, none, .ixa (.t 3) (.t 20) 16 1⟩,
 ⟨some 22, none, .load1 (.t 21)⟩,
 ⟨some 23, none, .binb true (.t 19) (.t 22)⟩,
 ⟨some 24, none, .mov (.t 23)⟩,
 ⟨some 25, some (24, false), .fld (.t 5) 0⟩,
 ⟨some 26, some (24, false), .load1 (.t 25)⟩,
 ⟨some 27, some (24, false), .un .not (.t 26)⟩,
 ⟨some 28, some (24, false), .mov (.t 27)⟩,
 ⟨some 29, some (28, true), .loadN (.t 5) 4⟩,
 ⟨some 30, some (28, true), .bld [.bool false, .int .i64 0, .int .i64 0, .int .i64 0] []⟩,
 ⟨some 31, some (28, true), .eqa true [none, some .i64, some .i64, some .i64] (.t 29) (.t 30)⟩,
 ⟨some 32, some (24, false), .pick (.t 28) (.t 31) (.k (.c (.bool false)))⟩,
 ⟨some 33, none, .pick (.t 24) (.k (.c (.bool true))) (.t 32)⟩])
 (.cond (.t 33) (.seq (.reg false [⟨some 2, none, .mov (.k (.c (.bool false)))⟩])
 (.ret (some [2]))) .skip))))
 (.reg false [⟨some 34, none, .bin .add (.t 14) (.k (.c (.int .i64 1)))⟩,
 ⟨some 14, none, .mov (.t 34)⟩]))))
def c_impl_TreeOk : IFn := ⟨35, [.t 2],
  (.seq (.reg false [⟨some 1, none, .box (.t 0) 49⟩,
 ⟨some 2, none, .mov (.k (.c (.bool false)))⟩])
 (.seq (.reg false [⟨some 6, none, .bld [.bool false, .bool false, .bool false, .bool false, .bool false, .bool false, .bool false, .bool false, .bool false, .bool false, .bool false, .bool false, .bool false, .bool false, .bool false, .bool false] []⟩,
 ⟨some 3, none, .alloc [.bool false, .bool false, .bool false, .bool false, .bool false, .bool false, .bool false, .bool false, .bool false, .bool false, .bool false, .bool false, .bool false, .bool false, .bool false, .bool false] 145⟩,
 ⟨none, none, .store (.t 3) (.t 6) 16⟩])
 (.seq (.seq (.reg false [⟨some 7, none, .loadN (.t 1) 65⟩,
 ⟨some 8, none, .fld (.t 1) 64⟩,
 ⟨some 9, none, .load1 (.t 8)⟩,
 ⟨some 10, none, .call 112 [.t 7, .t 9, .k (.c (.int .i64 (-1000000000))), .k (.c (.int .i64 1000000000)), .t 3]⟩,
 ⟨some 11, none, .un .not (.t 10)⟩])
 (.cond (.t 11) (.seq (.reg false [⟨some 2, none, .mov (.k (.c (.bool false)))⟩])
 (.ret (some [2]))) .skip))
 (.seq (.seq (.reg false [⟨some 12, none, .fld (.t 1) 0⟩,
 ⟨some 13, none, .loadN (.t 12) 64⟩,
 ⟨some 14, none, .mov (.k (.c (.int .i64 0)))⟩])
 (.block 0 (some [3, 13, 14]) (some [])
 (.loop c_impl_TreeOk_b0)))
 (.seq (.reg false [⟨some 2, none, .mov (.k (.c (.bool true)))⟩])
 (.ret (some [2])))))))⟩
theorem c_impl_TreeOk_ok : trF Tryz.prog ⟨[(0, [3, 13, 14], [])], [2], false, false⟩ Tryz.f81 = some c_impl_TreeOk := by kernel_rfl
def c_impl_SetOk_b1 : IC :=
  (.seq (.reg false [⟨some 34, none, .bin .lss (.t 33) (.t 32)⟩])
 (.seq (.cond (.t 34) .skip (.exit 2))
 (.seq (.block 3 none none
 (.seq (.reg false [⟨some 35, none, .mov (.t 33)⟩,
 ⟨some 36, none, .ixs (.t 31) (.t 33) 1⟩,
 ⟨some 37, none, .load1 (.t 36)⟩,
 ⟨some 6, none, .mov (.t 35)⟩,
 ⟨some 7, none, .mov (.t 37)⟩])
 (.seq (.reg false [⟨some 38, none, .mov (.t 6)⟩,
 ⟨some 39, none, .bin .geq (.t 38) (.k (.c (.int .i64 3)))⟩,
 ⟨some 40, none, .mov (.t 39)⟩,
 ⟨some 41, some (40, false), .mov (.t 7)⟩,
 ⟨some 42, some (40, false), .call 46 [.t 41]⟩,
 ⟨some 43, some (40, false), .un .not (.t 42)⟩,
 ⟨some 44, none, .pick (.t 40) (.k (.c (.bool true))) (.t 43)⟩,
 ⟨some 45, none, .mov (.t 44)⟩,
 ⟨some 46, some (45, false), .mov (.t 7)⟩,
 ⟨some 47, some (45, false), .mov (.t 3)⟩,
 ⟨some 48, some (45, false), .call 113 [.t 46, .t 47]⟩,
 ⟨some 49, some (45, false), .mov (.t 4)⟩,
 ⟨some 50, some (45, false), .bin .neq (.t 48) (.t 49)⟩,
 ⟨some 51, none, .pick (.t 45) (.k (.c (.bool true))) (.t 50)⟩,
 ⟨some 52, none, .mov (.t 51)⟩,
 ⟨some 53, some (52, false), .mov (.t 6)⟩,
 ⟨some 54, some (52, false), .bin .gtr (.t 53) (.k (.c (.int .i64 0)))⟩,
 ⟨some 55, some (52, false), .mov (.t 54)⟩,
 ⟨some 56, some (55, true), .mov (.t 5)⟩,
 ⟨some 57, some (55, true), .mov (.t 6)⟩,
 ⟨some 58, some (55, true), .bin .sub (.t 57) (.k (.c (.int .i64 1)))⟩,
 ⟨some 59, some (55, true), .ixs (.t 56) (.t 58) 1⟩,
 ⟨some 60, some (55, true), .load1 (.t 59)⟩,
 ⟨some 61, some (55, true), .mov (.t 7)⟩,
 ⟨some 62, some (55, true), .bin .geq (.t 60) (.t 61)⟩,
 ⟨some 63, some (52, false), .pick (.t 55) (.t 62) (.k (.c (.bool false)))⟩,
 ⟨some 64, none, .pick (.t 52) (.k (.c (.bool true))) (.t 63)⟩])
 (.cond (.t 64) (.seq (.reg false [⟨some 2, none, .mov (.k (.c (.bool false)))⟩])
 (.ret (some [2]))) .skip))))
 (.reg false [⟨some 65, none, .bin .add (.t 33) (.k (.c (.int .i64 1)))⟩,
 ⟨some 33, none, .mov (.t 65)⟩]))))
def c_impl_SetOk_b0 : IC :=
  (.seq (.reg false [⟨some 27, none, .bin .lss (.t 26) (.t 25)⟩])
 (.seq (.cond (.t 27) .skip (.exit 0))
 (.seq (.block 1 none none
 (.seq (.reg false [⟨some 28, none, .mov (.t 26)⟩,
 ⟨some 29, none, .ixs (.t 24) (.t 26) 1⟩,
 ⟨some 30, none, .load1 (.t 29)⟩,
 ⟨some 4, none, .mov (.t 28)⟩,
 ⟨some 5, none, .mov (.t 30)⟩])
 (.seq (.reg false [⟨some 31, none, .mov (.t 5)⟩,
 ⟨some 32, none, .len (.t 31)⟩,
 ⟨some 33, none, .mov (.k (.c (.int .i64 0)))⟩])
 (.block 2 (some [3, 4, 5, 24, 25, 26, 31, 32, 33]) (some [3, 24, 25, 26])
 (.loop c_impl_SetOk_b1)))))
 (.reg false [⟨some 66, none, .bin .add (.t 26) (.k (.c (.int .i64 1)))⟩,
 ⟨some 26, none, .mov (.t 66)⟩]))))
def c_impl_SetOk : IFn := ⟨67, [.t 2],
  (.seq (.reg false [⟨some 2, none, .mov (.k (.c (.bool false)))⟩])
 (.seq (.reg false [⟨some 8, none, .mov (.t 0)⟩,
 ⟨some 9, none, .len (.t 8)⟩,
 ⟨some 3, none, .mov (.t 9)⟩])
 (.seq (.seq (.reg false [⟨some 10, none, .mov (.t 3)⟩,
 ⟨some 11, none, .bin .neq (.t 10) (.k (.c (.int .i64 1)))⟩,
 ⟨some 12, none, .mov (.t 11)⟩,
 ⟨some 13, some (12, true), .mov (.t 3)⟩,
 ⟨some 14, some (12, true), .bin .neq (.t 13) (.k (.c (.int .i64 2)))⟩,
 ⟨some 15, none, .pick (.t 12) (.t 14) (.k (.c (.bool false)))⟩,
 ⟨some 16, none, .mov (.t 15)⟩,
 ⟨some 17, some (16, true), .mov (.t 3)⟩,
 ⟨some 18, some (16, true), .bin .neq (.t 17) (.k (.c (.int .i64 4)))⟩,
 ⟨some 19, none, .pick (.t 16) (.t 18) (.k (.c (.bool false)))⟩,
 ⟨some 20, none, .mov (.t 19)⟩,
 ⟨some 21, some (20, true), .mov (.t 3)⟩,
 ⟨some 22, some (20, true), .bin .neq (.t 21) (.k (.c (.int .i64 8)))⟩,
 ⟨some 23, none, .pick (.t 20) (.t 22) (.k (.c (.bool false)))⟩])
 (.cond (.t 23) (.seq (.reg false [⟨some 2, none, .mov (.k (.c (.bool false)))⟩])
 (.ret (some [2]))) .skip))
 (.seq (.seq (.reg false [⟨some 24, none, .mov (.t 0)⟩,
 ⟨some 25, none, .len (.t 24)⟩,
 ⟨some 26, none, .mov (.k (.c (.int .i64 0)))⟩])
 (.block 0 (some [3, 24, 25, 26]) (some [])
 (.loop c_impl_SetOk_b0)))
 (.seq (.reg false [⟨some 2, none, .mov (.k (.c (.bool true)))⟩])
 (.ret (some [2])))))))⟩
theorem c_impl_SetOk_ok : trF Tryz.prog ⟨[(0, [3, 24, 25, 26], []), (2, [3, 4, 5, 24, 25, 26, 31, 32, 33], [3, 24, 25, 26])], [2], false, false⟩ Tryz.f82 = some c_impl_SetOk := by kernel_rfl
def c_impl_MapPut_b0 : IC :=
  (.seq (.reg false [⟨some 57, none, .bin .lss (.t 56) (.k (.c (.int .i64 16)))⟩])
 (.seq (.cond (.t 57) .skip (.exit 1))
 (.seq (.block 2 none none
 (.seq (.reg false [⟨some 58, none, .mov (.t 56)⟩,
 ⟨some 59, none, .idx (.t 55) (.t 56) 16 4 true⟩,
 ⟨some 14, none, .alloc [.bool false, .int .i64 0, .int .i64 0, .int .i64 0] 41⟩,
 ⟨some 13, none, .mov (.t 58)⟩,
 ⟨none, none, .store (.t 14) (.t 59) 4⟩])
 (.seq (.reg false [⟨some 60, none, .fld (.t 14) 0⟩,
 ⟨some 61, none, .load1 (.t 60)⟩,
 ⟨some 62, none, .un .not (.t 61)⟩])
 (.cond (.t 62) (.seq (.reg false [⟨some 63, none, .mov (.t 13)⟩,
 ⟨some 64, none, .mov (.t 1)⟩,
 ⟨some 65, none, .mov (.t 2)⟩,
 ⟨some 66, none, .mov (.t 10)⟩,
 ⟨some 67, none, .bld [.bool false, .int .i64 0, .int .i64 0, .int .i64 0] [(0, (1, .k (.c (.bool true)))), (1, (1, .t 64)), (2, (1, .t 65)), (3, (1, .t 66))]⟩,
 ⟨some 68, none, .fld (.t 3) 0⟩,
 ⟨some 69, none, .ixa (.t 68) (.t 63) 16 4⟩,
 ⟨none, none, .store (.t 69) (.t 67) 4⟩])
 (.seq (.reg false [⟨some 70, none, .mov (.t 9)⟩,
 ⟨some 71, none, .mov (.t 13)⟩,
 ⟨some 72, none, .call 116 [.t 3, .t 70, .t 71]⟩])
 (.seq (.reg false [⟨some 73, none, .loadN (.t 3) 65⟩,
 ⟨some 74, none, .mov (.t 11)⟩,
 ⟨none, none, .store (.t 6) (.t 73) 65⟩,
 ⟨some 7, none, .mov (.t 74)⟩,
 ⟨some 8, none, .mov (.k (.c (.int .i64 0)))⟩])
 (.ret (some [6, 7, 8]))))) .skip))))
 (.reg false [⟨some 75, none, .bin .add (.t 56) (.k (.c (.int .i64 1)))⟩,
 ⟨some 56, none, .mov (.t 75)⟩]))))
def c_impl_MapPut : IFn := ⟨78, [.cell 6 65 true, .t 7, .t 8],
  (.seq (.reg false [⟨some 3, none, .box (.t 0) 44⟩,
 ⟨some 6, none, .alloc [.bool false, .int .i64 0, .int .i64 0, .int .i64 0, .bool false, .int .i64 0, .int .i64 0, .int .i64 0, .bool false, .int .i64 0, .int .i64 0, .int .i64 0, .bool false, .int .i64 0, .int .i64 0, .int .i64 0, .bool false, .int .i64 0, .int .i64 0, .int .i64 0, .bool false, .int .i64 0, .int .i64 0, .int .i64 0, .bool false, .int .i64 0, .int .i64 0, .int .i64 0, .bool false, .int .i64 0, .int .i64 0, .int .i64 0, .bool false, .int .i64 0, .int .i64 0, .int .i64 0, .bool false, .int .i64 0, .int .i64 0, .int .i64 0, .bool false, .int .i64 0, .int .i64 0, .int .i64 0, .bool false, .int .i64 0, .int .i64 0, .int .i64 0, .bool false, .int .i64 0, .int .i64 0, .int .i64 0, .bool false, .int .i64 0, .int .i64 0, .int .i64 0, .bool false, .int .i64 0, .int .i64 0, .int .i64 0, .bool false, .int .i64 0, .int .i64 0, .int .i64 0, .int .i64 0] 44⟩,
 ⟨some 7, none, .mov (.k (.c (.int .i64 0)))⟩,
 ⟨some 8, none, .mov (.k (.c (.int .i64 0)))⟩])
 (.seq (.seq (.reg false [⟨some 15, none, .loadN (.t 3) 65⟩,
 ⟨some 16, none, .call 79 [.t 15]⟩,
 ⟨some 17, none, .un .not (.t 16)⟩,
 ⟨some 18, none, .mov (.t 17)⟩,
 ⟨some 19, some (18, false), .mov (.t 1)⟩,
 ⟨some 20, some (18, false), .call 46 [.t 19]⟩,
 ⟨some 21, some (18, false), .un .not (.t 20)⟩,
 ⟨some 22, none, .pick (.t 18) (.k (.c (.bool true))) (.t 21)⟩,
 ⟨some 23, none, .mov (.t 22)⟩,
 ⟨some 24, some (23, false), .mov (.t 2)⟩,
 ⟨some 25, some (23, false), .call 46 [.t 24]⟩,
 ⟨some 26, some (23, false), .un .not (.t 25)⟩,
 ⟨some 27, none, .pick (.t 23) (.k (.c (.bool true))) (.t 26)⟩])
 (.cond (.t 27) (.seq (.reg false [⟨some 28, none, .loadN (.t 3) 65⟩,
 ⟨none, none, .store (.t 6) (.t 28) 65⟩,
 ⟨some 7, none, .mov (.k (.c (.int .i64 0)))⟩,
 ⟨some 8, none, .mov (.k (.c (.int .i64 1)))⟩])
 (.ret (some [6, 7, 8]))) .skip))
 (.seq (.reg false [⟨some 30, none, .loadN (.t 3) 65⟩,
 ⟨some 31, none, .mov (.t 1)⟩,
 ⟨some 32, none, .call 114 [.t 30, .t 31]⟩,
 ⟨some 29, none, .mov (.t 32)⟩,
 ⟨some 33, none, .ext (.t 29) 0⟩,
 ⟨some 34, none, .ext (.t 29) 1⟩,
 ⟨some 35, none, .ext (.t 29) 2⟩,
 ⟨some 36, none, .ext (.t 29) 3⟩,
 ⟨some 9, none, .mov (.t 33)⟩,
 ⟨some 10, none, .mov (.t 34)⟩,
 ⟨some 11, none, .mov (.t 35)⟩,
 ⟨some 12, none, .mov (.t 36)⟩])
 (.seq (.block 0 none none
 (.seq (.reg false [⟨some 38, none, .mov (.t 12)⟩,
 ⟨some 39, none, .un .not (.t 38)⟩,
 ⟨some 37, none, .mov (.t 39)⟩])
 (.cond (.t 37) (.seq (.reg false [⟨some 40, none, .loadN (.t 3) 65⟩,
 ⟨some 41, none, .mov (.t 11)⟩,
 ⟨none, none, .store (.t 6) (.t 40) 65⟩,
 ⟨some 7, none, .mov (.t 41)⟩,
 ⟨some 8, none, .mov (.k (.c (.int .i64 2)))⟩])
 (.ret (some [6, 7, 8]))) (.seq (.reg false [⟨some 43, none, .loadN (.t 3) 65⟩,
 ⟨some 44, none, .mov (.t 10)⟩,
 ⟨some 45, none, .mov (.t 1)⟩,
 ⟨some 46, none, .call 115 [.t 43, .t 44, .t 45]⟩,
 ⟨some 42, none, .mov (.t 46)⟩])
 (.cond (.t 42) (.seq (.reg false [⟨some 47, none, .mov (.t 10)⟩,
 ⟨some 48, none, .mov (.t 2)⟩,
 ⟨some 49, none, .fld (.t 3) 0⟩,
 ⟨some 50, none, .ixa (.t 49) (.t 47) 16 4⟩,
 ⟨some 51, none, .fld (.t 50) 2⟩,
 ⟨none, none, .store (.t 51) (.t 48) 1⟩])
 (.seq (.reg false [⟨some 52, none, .loadN (.t 3) 65⟩,
 ⟨some 53, none, .mov (.t 11)⟩,
 ⟨none, none, .store (.t 6) (.t 52) 65⟩,
 ⟨some 7, none, .mov (.t 53)⟩,
 ⟨some 8, none, .mov (.k (.c (.int .i64 0)))⟩])
 (.ret (some [6, 7, 8])))) .skip)))))
 (.seq (.seq (.reg false [⟨some 54, none, .fld (.t 3) 0⟩,
 ⟨some 55, none, .loadN (.t 54) 64⟩,
 ⟨some 56, none, .mov (.k (.c (.int .i64 0)))⟩])
 (.block 1 (some [1, 2, 3, 6, 9, 10, 11, 55, 56]) (some [3, 6, 11])
 (.loop c_impl_MapPut_b0)))
 (.seq (.reg false [⟨some 76, none, .loadN (.t 3) 65⟩,
 ⟨some 77, none, .mov (.t 11)⟩,
 ⟨none, none, .store (.t 6) (.t 76) 65⟩,
 ⟨some 7, none, .mov (.t 77)⟩,
 ⟨some 8, none, .mov (.k (.c (.int .i64 3)))⟩])
 (.ret (some [6, 7, 8]))))))))⟩
theorem c_impl_MapPut_ok : trF Tryz.prog ⟨[(1, [1, 2, 3, 6, 9, 10, 11, 55, 56], [3, 6, 11])], [6, 7, 8], false, false⟩ Tryz.f83 = some c_impl_MapPut := by kernel_rfl
def c_impl_MapDrop : IFn := ⟨54, [.cell 4 65 true, .t 5, .t 6],
  (.seq (.reg false [⟨some 2, none, .box (.t 0) 44⟩,
 ⟨some 4, none, .alloc [.bool false, .int .i64 0, .int .i64 0, .int .i64 0, .bool false, .int .i64 0, .int .i64 0, .int .i64 0, .bool false, .int .i64 0, .int .i64 0, .int .i64 0, .bool false, .int .i64 0, .int .i64 0, .int .i64 0, .bool false, .int .i64 0, .int .i64 0, .int .i64 0, .bool false, .int .i64 0, .int .i64 0, .int .i64 0, .bool false, .int .i64 0, .int .i64 0, .int .i64 0, .bool false, .int .i64 0, .int .i64 0, .int .i64 0, .bool false, .int .i64 0, .int .i64 0, .int .i64 0, .bool false, .int .i64 0, .int .i64 0, .int .i64 0, .bool false, .int .i64 0, .int .i64 0, .int .i64 0, .bool false, .int .i64 0, .int .i64 0, .int .i64 0, .bool false, .int .i64 0, .int .i64 0, .int .i64 0, .bool false, .int .i64 0, .int .i64 0, .int .i64 0, .bool false, .int .i64 0, .int .i64 0, .int .i64 0, .bool false, .int .i64 0, .int .i64 0, .int .i64 0, .int .i64 0] 44⟩,
 ⟨some 5, none, .mov (.k (.c (.int .i64 0)))⟩,
 ⟨some 6, none, .mov (.k (.c (.int .i64 0)))⟩])
 (.seq (.seq (.reg false [⟨some 11, none, .loadN (.t 2) 65⟩,
 ⟨some 12, none, .call 79 [.t 11]⟩,
 ⟨some 13, none, .un .not (.t 12)⟩,
 ⟨some 14, none, .mov (.t 13)⟩,
 ⟨some 15, some (14, false), .mov (.t 1)⟩,
 ⟨some 16, some (14, false), .call 46 [.t 15]⟩,
 ⟨some 17, some (14, false), .un .not (.t 16)⟩,
 ⟨some 18, none, .pick (.t 14) (.k (.c (.bool true))) (.t 17)⟩])
 (.cond (.t 18) (.seq (.reg false [⟨some 19, none, .loadN (.t 2) 65⟩,
 ⟨none, none, .store (.t 4) (.t 19) 65⟩,
 ⟨some 5, none, .mov (.k (.c (.int .i64 0)))⟩,
 ⟨some 6, none, .mov (.k (.c (.int .i64 1)))⟩])
 (.ret (some [4, 5, 6]))) .skip))
 (.seq (.reg false [⟨some 21, none, .loadN (.t 2) 65⟩,
 ⟨some 22, none, .mov (.t 1)⟩,
 ⟨some 23, none, .call 114 [.t 21, .t 22]⟩,
 ⟨some 20, none, .mov (.t 23)⟩,
 ⟨some 24, none, .ext (.t 20) 0⟩,
 ⟨some 25, none, .ext (.t 20) 1⟩,
 ⟨some 26, none, .ext (.t 20) 2⟩,
 ⟨some 27, none, .ext (.t 20) 3⟩,
 ⟨some 7, none, .mov (.t 24)⟩,
 ⟨some 8, none, .mov (.t 25)⟩,
 ⟨some 9, none, .mov (.t 26)⟩,
 ⟨some 10, none, .mov (.t 27)⟩])
 (.seq (.block 0 none none
 (.seq (.reg false [⟨some 29, none, .mov (.t 10)⟩,
 ⟨some 30, none, .un .not (.t 29)⟩,
 ⟨some 28, none, .mov (.t 30)⟩])
 (.cond (.t 28) (.seq (.reg false [⟨some 31, none, .loadN (.t 2) 65⟩,
 ⟨some 32, none, .mov (.t 9)⟩,
 ⟨none, none, .store (.t 4) (.t 31) 65⟩,
 ⟨some 5, none, .mov (.t 32)⟩,
 ⟨some 6, none, .mov (.k (.c (.int .i64 2)))⟩])
 (.ret (some [4, 5, 6]))) (.seq (.reg false [⟨some 34, none, .loadN (.t 2) 65⟩,
 ⟨some 35, none, .mov (.t 8)⟩,
 ⟨some 36, none, .mov (.t 1)⟩,
 ⟨some 37, none, .call 115 [.t 34, .t 35, .t 36]⟩,
 ⟨some 38, none, .un .not (.t 37)⟩,
 ⟨some 33, none, .mov (.t 38)⟩])
 (.cond (.t 33) (.seq (.reg false [⟨some 39, none, .loadN (.t 2) 65⟩,
 ⟨some 40, none, .mov (.t 9)⟩,
 ⟨none, none, .store (.t 4) (.t 39) 65⟩,
 ⟨some 5, none, .mov (.t 40)⟩,
 ⟨some 6, none, .mov (.k (.c (.int .i64 4)))⟩])
 (.ret (some [4, 5, 6]))) .skip)))))
 (.seq (.reg false [⟨some 41, none, .mov (.t 7)⟩,
 ⟨some 42, none, .mov (.t 8)⟩,
 ⟨some 43, none, .fld (.t 2) 0⟩,
 ⟨some 44, none, .ixa (.t 43) (.t 42) 16 4⟩,
 ⟨some 45, none, .fld (.t 44) 3⟩,
 ⟨some 46, none, .load1 (.t 45)⟩,
 ⟨some 47, none, .call 116 [.t 2, .t 41, .t 46]⟩])
 (.seq (.reg false [⟨some 48, none, .mov (.t 8)⟩,
 ⟨some 49, none, .bld [.bool false, .int .i64 0, .int .i64 0, .int .i64 0] []⟩,
 ⟨some 50, none, .fld (.t 2) 0⟩,
 ⟨some 51, none, .ixa (.t 50) (.t 48) 16 4⟩,
 ⟨none, none, .store (.t 51) (.t 49) 4⟩])
 (.seq (.reg false [⟨some 52, none, .loadN (.t 2) 65⟩,
 ⟨some 53, none, .mov (.t 9)⟩,
 ⟨none, none, .store (.t 4) (.t 52) 65⟩,
 ⟨some 5, none, .mov (.t 53)⟩,
 ⟨some 6, none, .mov (.k (.c (.int .i64 0)))⟩])
 (.ret (some [4, 5, 6])))))))))⟩
theorem c_impl_MapDrop_ok : trF Tryz.prog ⟨[], [4, 5, 6], false, false⟩ Tryz.f84 = some c_impl_MapDrop := by kernel_rfl
def c_impl_MapGet : IFn := ⟨44, [.t 4, .t 5, .t 6],
  (.seq (.reg false [⟨some 2, none, .box (.t 0) 44⟩,
 ⟨some 4, none, .mov (.k (.c (.int .i64 0)))⟩,
 ⟨some 5, none, .mov (.k (.c (.int .i64 0)))⟩,
 ⟨some 6, none, .mov (.k (.c (.int .i64 0)))⟩])
 (.seq (.seq (.reg false [⟨some 11, none, .loadN (.t 2) 65⟩,
 ⟨some 12, none, .call 79 [.t 11]⟩,
 ⟨some 13, none, .un .not (.t 12)⟩,
 ⟨some 14, none, .mov (.t 13)⟩,
 ⟨some 15, some (14, false), .mov (.t 1)⟩,
 ⟨some 16, some (14, false), .call 46 [.t 15]⟩,
 ⟨some 17, some (14, false), .un .not (.t 16)⟩,
 ⟨some 18, none, .pick (.t 14) (.k (.c (.bool true))) (.t 17)⟩])
 (.cond (.t 18) (.seq (.reg false [⟨some 4, none, .mov (.k (.c (.int .i64 0)))⟩,
 ⟨some 5, none, .mov (.k (.c (.int .i64 0)))⟩,
 ⟨some 6, none, .mov (.k (.c (.int .i64 1)))⟩])
 (.ret (some [4, 5, 6]))) .skip))
 (.seq (.reg false [⟨some 20, none, .loadN (.t 2) 65⟩,
 ⟨some 21, none, .mov (.t 1)⟩,
 ⟨some 22, none, .call 114 [.t 20, .t 21]⟩,
 ⟨some 19, none, .mov (.t 22)⟩,
 ⟨some 23, none, .ext (.t 19) 0⟩,
 ⟨some 24, none, .ext (.t 19) 1⟩,
 ⟨some 25, none, .ext (.t 19) 2⟩,
 ⟨some 26, none, .ext (.t 19) 3⟩,
 ⟨some 7, none, .mov (.t 23)⟩,
 ⟨some 8, none, .mov (.t 24)⟩,
 ⟨some 9, none, .mov (.t 25)⟩,
 ⟨some 10, none, .mov (.t 26)⟩])
 (.seq (.block 0 none none
 (.seq (.reg false [⟨some 28, none, .mov (.t 10)⟩,
 ⟨some 29, none, .un .not (.t 28)⟩,
 ⟨some 27, none, .mov (.t 29)⟩])
 (.cond (.t 27) (.seq (.reg false [⟨some 30, none, .mov (.t 9)⟩,
 ⟨some 4, none, .mov (.k (.c (.int .i64 0)))⟩,
 ⟨some 5, none, .mov (.t 30)⟩,
 ⟨some 6, none, .mov (.k (.c (.int .i64 2)))⟩])
 (.ret (some [4, 5, 6]))) (.seq (.reg false [⟨some 32, none, .loadN (.t 2) 65⟩,
 ⟨some 33, none, .mov (.t 8)⟩,
 ⟨some 34, none, .mov (.t 1)⟩,
 ⟨some 35, none, .call 115 [.t 32, .t 33, .t 34]⟩,
 ⟨some 36, none, .un .not (.t 35)⟩,
 ⟨some 31, none, .mov (.t 36)⟩])
 (.cond (.t 31) (.seq (.reg false [⟨some 37, none, .mov (.t 9)⟩,
 ⟨some 4, none, .mov (.k (.c (.int .i64 0)))⟩,
 ⟨some 5, none, .mov (.t 37)⟩,
 ⟨some 6, none, .mov (.k (.c (.int .i64 4)))⟩])
 (.ret (some [4, 5, 6]))) .skip)))))
 (.seq (.reg false [⟨some 38, none, .mov (.t 8)⟩,
 ⟨some 39, none, .fld (.t 2) 0⟩,
 ⟨some 40, none, .ixa (.t 39) (.t 38) 16 4⟩,
 ⟨some 41, none, .fld (.t 40) 2⟩,
 ⟨some 42, none, .load1 (.t 41)⟩,
 ⟨some 43, none, .mov (.t 9)⟩,
 ⟨some 4, none, .mov (.t 42)⟩,
 ⟨some 5, none, .mov (.t 43)⟩,
 ⟨some 6, none, .mov (.k (.c (.int .i64 0)))⟩])
 (.ret (some [4, 5, 6])))))))⟩
theorem c_impl_MapGet_ok : trF Tryz.prog ⟨[], [4, 5, 6], false, false⟩ Tryz.f85 = some c_impl_MapGet := by kernel_rfl
def c_impl_RingPut : IFn := ⟨35, [.cell 4 10 true, .t 5],
  (.seq (.reg false [⟨some 2, none, .box (.t 0) 45⟩,
 ⟨some 4, none, .alloc [.int .i64 0, .int .i64 0, .int .i64 0, .int .i64 0, .int .i64 0, .int .i64 0, .int .i64 0, .int .i64 0, .int .i64 0, .int .i64 0] 45⟩,
 ⟨some 5, none, .mov (.k (.c (.int .i64 0)))⟩])
 (.seq (.block 0 none none
 (.seq (.reg false [⟨some 7, none, .loadN (.t 2) 10⟩,
 ⟨some 8, none, .call 80 [.t 7]⟩,
 ⟨some 9, none, .un .not (.t 8)⟩,
 ⟨some 10, none, .mov (.t 9)⟩,
 ⟨some 11, some (10, false), .mov (.t 1)⟩,
 ⟨some 12, some (10, false), .call 46 [.t 11]⟩,
 ⟨some 13, some (10, false), .un .not (.t 12)⟩,
 ⟨some 14, none, .pick (.t 10) (.k (.c (.bool true))) (.t 13)⟩,
 ⟨some 6, none, .mov (.t 14)⟩])
 (.cond (.t 6) (.seq (.reg false [⟨some 15, none, .loadN (.t 2) 10⟩,
 ⟨none, none, .store (.t 4) (.t 15) 10⟩,
 ⟨some 5, none, .mov (.k (.c (.int .i64 1)))⟩])
 (.ret (some [4, 5]))) (.seq (.reg false [⟨some 17, none, .fld (.t 2) 9⟩,
 ⟨some 18, none, .load1 (.t 17)⟩,
 ⟨some 19, none, .bin .eql (.t 18) (.k (.c (.int .i64 8)))⟩,
 ⟨some 16, none, .mov (.t 19)⟩])
 (.cond (.t 16) (.seq (.reg false [⟨some 20, none, .loadN (.t 2) 10⟩,
 ⟨none, none, .store (.t 4) (.t 20) 10⟩,
 ⟨some 5, none, .mov (.k (.c (.int .i64 2)))⟩])
 (.ret (some [4, 5]))) .skip)))))
 (.seq (.reg false [⟨some 21, none, .fld (.t 2) 8⟩,
 ⟨some 22, none, .load1 (.t 21)⟩,
 ⟨some 23, none, .fld (.t 2) 9⟩,
 ⟨some 24, none, .load1 (.t 23)⟩,
 ⟨some 25, none, .bin .add (.t 22) (.t 24)⟩,
 ⟨some 26, none, .bin .rem (.t 25) (.k (.c (.int .i64 8)))⟩,
 ⟨some 27, none, .mov (.t 1)⟩,
 ⟨some 28, none, .fld (.t 2) 0⟩,
 ⟨some 29, none, .ixa (.t 28) (.t 26) 8 1⟩,
 ⟨none, none, .store (.t 29) (.t 27) 1⟩])
 (.seq (.reg false [⟨some 30, none, .fld (.t 2) 9⟩,
 ⟨some 31, none, .load1 (.t 30)⟩,
 ⟨some 32, none, .bin .add (.t 31) (.k (.c (.int .i64 1)))⟩,
 ⟨some 33, none, .fld (.t 2) 9⟩,
 ⟨none, none, .store (.t 33) (.t 32) 1⟩])
 (.seq (.reg false [⟨some 34, none, .loadN (.t 2) 10⟩,
 ⟨none, none, .store (.t 4) (.t 34) 10⟩,
 ⟨some 5, none, .mov (.k (.c (.int .i64 0)))⟩])
 (.ret (some [4, 5])))))))⟩
theorem c_impl_RingPut_ok : trF Tryz.prog ⟨[], [4, 5], false, false⟩ Tryz.f86 = some c_impl_RingPut := by kernel_rfl
def c_impl_RingTake : IFn := ⟨36, [.cell 2 10 true, .t 3, .t 4],
  (.seq (.reg false [⟨some 1, none, .box (.t 0) 45⟩,
 ⟨some 2, none, .alloc [.int .i64 0, .int .i64 0, .int .i64 0, .int .i64 0, .int .i64 0, .int .i64 0, .int .i64 0, .int .i64 0, .int .i64 0, .int .i64 0] 45⟩,
 ⟨some 3, none, .mov (.k (.c (.int .i64 0)))⟩,
 ⟨some 4, none, .mov (.k (.c (.int .i64 0)))⟩])
 (.seq (.block 0 none none
 (.seq (.reg false [⟨some 7, none, .loadN (.t 1) 10⟩,
 ⟨some 8, none, .call 80 [.t 7]⟩,
 ⟨some 9, none, .un .not (.t 8)⟩,
 ⟨some 6, none, .mov (.t 9)⟩])
 (.cond (.t 6) (.seq (.reg false [⟨some 10, none, .loadN (.t 1) 10⟩,
 ⟨none, none, .store (.t 2) (.t 10) 10⟩,
 ⟨some 3, none, .mov (.k (.c (.int .i64 0)))⟩,
 ⟨some 4, none, .mov (.k (.c (.int .i64 1)))⟩])
 (.ret (some [2, 3, 4]))) (.seq (.reg false [⟨some 12, none, .fld (.t 1) 9⟩,
 ⟨some 13, none, .load1 (.t 12)⟩,
 ⟨some 14, none, .bin .eql (.t 13) (.k (.c (.int .i64 0)))⟩,
 ⟨some 11, none, .mov (.t 14)⟩])
 (.cond (.t 11) (.seq (.reg false [⟨some 15, none, .loadN (.t 1) 10⟩,
 ⟨none, none, .store (.t 2) (.t 15) 10⟩,
 ⟨some 3, none, .mov (.k (.c (.int .i64 0)))⟩,
 ⟨some 4, none, .mov (.k (.c (.int .i64 3)))⟩])
 (.ret (some [2, 3, 4]))) .skip)))))
 (.seq (.reg false [⟨some 16, none, .fld (.t 1) 8⟩,
 ⟨some 17, none, .load1 (.t 16)⟩,
 ⟨some 18, none, .fld (.t 1) 0⟩,
 ⟨some 19, none, .ixa (.t 18) (.t 17) 8 1⟩,
 ⟨some 20, none, .load1 (.t 19)⟩,
 ⟨some 5, none, .mov (.t 20)⟩])
 (.seq (.reg false [⟨some 21, none, .fld (.t 1) 8⟩,
 ⟨some 22, none, .load1 (.t 21)⟩,
 ⟨some 23, none, .fld (.t 1) 0⟩,
 ⟨some 24, none, .ixa (.t 23) (.t 22) 8 1⟩,
 ⟨none, none, .store (.t 24) (.k (.c (.int .i64 0))) 1⟩])
 (.seq (.reg false [⟨some 25, none, .fld (.t 1) 8⟩,
 ⟨some 26, none, .load1 (.t 25)⟩,
 ⟨some 27, none, .bin .add (.t 26) (.k (.c (.int .i64 1)))⟩,
 ⟨some 28, none, .bin .rem (.t 27) (.k (.c (.int .i64 8)))⟩,
 ⟨some 29, none, .fld (.t 1) 8⟩,
 ⟨none, none, .store (.t 29) (.t 28) 1⟩])
 (.seq (.reg false [⟨some 30, none, .fld (.t 1) 9⟩,
 ⟨some 31, none, .load1 (.t 30)⟩,
 ⟨some 32, none, .bin .sub (.t 31) (.k (.c (.int .i64 1)))⟩,
 ⟨some 33, none, .fld (.t 1) 9⟩,
 ⟨none, none, .store (.t 33) (.t 32) 1⟩])
 (.seq (.reg false [⟨some 34, none, .loadN (.t 1) 10⟩,
 ⟨some 35, none, .mov (.t 5)⟩,
 ⟨none, none, .store (.t 2) (.t 34) 10⟩,
 ⟨some 3, none, .mov (.t 35)⟩,
 ⟨some 4, none, .mov (.k (.c (.int .i64 0)))⟩])
 (.ret (some [2, 3, 4])))))))))⟩
theorem c_impl_RingTake_ok : trF Tryz.prog ⟨[], [2, 3, 4], false, false⟩ Tryz.f87 = some c_impl_RingTake := by kernel_rfl
def c_impl_TreeAdd_b0 : IC :=
  (.seq (.reg false [⟨some 39, none, .bin .lss (.t 38) (.k (.c (.int .i64 16)))⟩])
 (.seq (.cond (.t 39) .skip (.exit 1))
 (.seq (.block 2 none none
 (.seq (.reg false [⟨some 40, none, .mov (.t 38)⟩,
 ⟨some 41, none, .idx (.t 37) (.t 38) 16 4 true⟩,
 ⟨some 10, none, .alloc [.bool false, .int .i64 0, .int .i64 0, .int .i64 0] 46⟩,
 ⟨some 9, none, .mov (.t 40)⟩,
 ⟨none, none, .store (.t 10) (.t 41) 4⟩])
 (.seq (.reg false [⟨some 42, none, .fld (.t 10) 0⟩,
 ⟨some 43, none, .load1 (.t 42)⟩,
 ⟨some 44, none, .un .not (.t 43)⟩])
 (.cond (.t 44) (.seq (.reg false [⟨some 45, none, .mov (.t 6)⟩,
 ⟨some 46, none, .mov (.t 9)⟩,
 ⟨some 47, none, .chk (.t 45)⟩,
 ⟨none, none, .store (.t 47) (.t 46) 1⟩])
 (.seq (.reg false [⟨some 48, none, .mov (.t 9)⟩,
 ⟨some 49, none, .mov (.t 1)⟩,
 ⟨some 50, none, .bld [.bool false, .int .i64 0, .int .i64 0, .int .i64 0] [(0, (1, .k (.c (.bool true)))), (1, (1, .t 49)), (2, (1, .k (.c (.int .i64 (-1))))), (3, (1, .k (.c (.int .i64 (-1)))))]⟩,
 ⟨some 51, none, .fld (.t 2) 0⟩,
 ⟨some 52, none, .ixa (.t 51) (.t 48) 16 4⟩,
 ⟨none, none, .store (.t 52) (.t 50) 4⟩])
 (.seq (.reg false [⟨some 53, none, .loadN (.t 2) 65⟩,
 ⟨none, none, .store (.t 4) (.t 53) 65⟩,
 ⟨some 5, none, .mov (.k (.c (.int .i64 0)))⟩])
 (.ret (some [4, 5]))))) .skip))))
 (.reg false [⟨some 54, none, .bin .add (.t 38) (.k (.c (.int .i64 1)))⟩,
 ⟨some 38, none, .mov (.t 54)⟩]))))
def c_impl_TreeAdd : IFn := ⟨56, [.cell 4 65 true, .t 5],
  (.seq (.reg false [⟨some 2, none, .box (.t 0) 49⟩,
 ⟨some 4, none, .alloc [.bool false, .int .i64 0, .int .i64 0, .int .i64 0, .bool false, .int .i64 0, .int .i64 0, .int .i64 0, .bool false, .int .i64 0, .int .i64 0, .int .i64 0, .bool false, .int .i64 0, .int .i64 0, .int .i64 0, .bool false, .int .i64 0, .int .i64 0, .int .i64 0, .bool false, .int .i64 0, .int .i64 0, .int .i64 0, .bool false, .int .i64 0, .int .i64 0, .int .i64 0, .bool false, .int .i64 0, .int .i64 0, .int .i64 0, .bool false, .int .i64 0, .int .i64 0, .int .i64 0, .bool false, .int .i64 0, .int .i64 0, .int .i64 0, .bool false, .int .i64 0, .int .i64 0, .int .i64 0, .bool false, .int .i64 0, .int .i64 0, .int .i64 0, .bool false, .int .i64 0, .int .i64 0, .int .i64 0, .bool false, .int .i64 0, .int .i64 0, .int .i64 0, .bool false, .int .i64 0, .int .i64 0, .int .i64 0, .bool false, .int .i64 0, .int .i64 0, .int .i64 0, .int .i64 0] 49⟩,
 ⟨some 5, none, .mov (.k (.c (.int .i64 0)))⟩])
 (.seq (.seq (.reg false [⟨some 11, none, .loadN (.t 2) 65⟩,
 ⟨some 12, none, .call 81 [.t 11]⟩,
 ⟨some 13, none, .un .not (.t 12)⟩,
 ⟨some 14, none, .mov (.t 13)⟩,
 ⟨some 15, some (14, false), .mov (.t 1)⟩,
 ⟨some 16, some (14, false), .call 46 [.t 15]⟩,
 ⟨some 17, some (14, false), .un .not (.t 16)⟩,
 ⟨some 18, none, .pick (.t 14) (.k (.c (.bool true))) (.t 17)⟩])
 (.cond (.t 18) (.seq (.reg false [⟨some 19, none, .loadN (.t 2) 65⟩,
 ⟨none, none, .store (.t 4) (.t 19) 65⟩,
 ⟨some 5, none, .mov (.k (.c (.int .i64 1)))⟩])
 (.ret (some [4, 5]))) .skip))
 (.seq (.reg false [⟨some 21, none, .mov (.t 1)⟩,
 ⟨some 22, none, .call 117 [.t 2, .t 21]⟩,
 ⟨some 20, none, .mov (.t 22)⟩,
 ⟨some 23, none, .ext (.t 20) 0⟩,
 ⟨some 24, none, .ext (.t 20) 1⟩,
 ⟨some 25, none, .ext (.t 20) 2⟩,
 ⟨some 6, none, .mov (.t 23)⟩,
 ⟨some 7, none, .mov (.t 24)⟩,
 ⟨some 8, none, .mov (.t 25)⟩])
 (.seq (.block 0 none none
 (.seq (.reg false [⟨some 27, none, .mov (.t 8)⟩,
 ⟨some 28, none, .un .not (.t 27)⟩,
 ⟨some 26, none, .mov (.t 28)⟩])
 (.cond (.t 26) (.seq (.reg false [⟨some 29, none, .loadN (.t 2) 65⟩,
 ⟨none, none, .store (.t 4) (.t 29) 65⟩,
 ⟨some 5, none, .mov (.k (.c (.int .i64 2)))⟩])
 (.ret (some [4, 5]))) (.seq (.reg false [⟨some 31, none, .mov (.t 6)⟩,
 ⟨some 32, none, .chk (.t 31)⟩,
 ⟨some 33, none, .load1 (.t 32)⟩,
 ⟨some 34, none, .bin .neq (.t 33) (.k (.c (.int .i64 (-1))))⟩,
 ⟨some 30, none, .mov (.t 34)⟩])
 (.cond (.t 30) (.seq (.reg false [⟨some 35, none, .loadN (.t 2) 65⟩,
 ⟨none, none, .store (.t 4) (.t 35) 65⟩,
 ⟨some 5, none, .mov (.k (.c (.int .i64 4)))⟩])
 (.ret (some [4, 5]))) .skip)))))
 (.seq (.seq (.reg false [⟨some 36, none, .fld (.t 2) 0⟩,
 ⟨some 37, none, .loadN (.t 36) 64⟩,
 ⟨some 38, none, .mov (.k (.c (.int .i64 0)))⟩])
 (.block 1 (some [1, 2, 4, 6, 37, 38]) (some [2, 4])
 (.loop c_impl_TreeAdd_b0)))
 (.seq (.reg false [⟨some 55, none, .loadN (.t 2) 65⟩,
 ⟨none, none, .store (.t 4) (.t 55) 65⟩,
 ⟨some 5, none, .mov (.k (.c (.int .i64 3)))⟩])
 (.ret (some [4, 5]))))))))⟩
theorem c_impl_TreeAdd_ok : trF Tryz.prog ⟨[(1, [1, 2, 4, 6, 37, 38], [2, 4])], [4, 5], false, false⟩ Tryz.f88 = some c_impl_TreeAdd := by kernel_rfl
def c_impl_TreeDrop_b0 : IC :=
  (.seq (.seq (.reg false [⟨some 61, none, .mov (.t 7)⟩,
 ⟨some 62, none, .chk (.t 61)⟩,
 ⟨some 63, none, .load1 (.t 62)⟩,
 ⟨some 64, none, .fld (.t 2) 0⟩,
 ⟨some 65, none, .ixa (.t 64) (.t 63) 16 4⟩,
 ⟨some 66, none, .fld (.t 65) 2⟩,
 ⟨some 67, none, .load1 (.t 66)⟩,
 ⟨some 68, none, .bin .neq (.t 67) (.k (.c (.int .i64 (-1))))⟩])
 (.cond (.t 68) .skip (.exit 1)))
 (.seq (.block 2 none none
 (.reg false [⟨some 71, none, .mov (.t 7)⟩,
 ⟨some 72, none, .chk (.t 71)⟩,
 ⟨some 73, none, .load1 (.t 72)⟩,
 ⟨some 74, none, .fld (.t 2) 0⟩,
 ⟨some 75, none, .ixa (.t 74) (.t 73) 16 4⟩,
 ⟨some 76, none, .fld (.t 75) 2⟩,
 ⟨some 7, none, .mov (.t 76)⟩]))
 (.reg false [⟨some 69, none, .mov (.t 8)⟩,
 ⟨some 70, none, .bin .add (.t 69) (.k (.c (.int .i64 1)))⟩,
 ⟨some 8, none, .mov (.t 70)⟩])))
def c_impl_TreeDrop : IFn := ⟨109, [.cell 4 65 true, .t 5],
  (.seq (.reg false [⟨some 2, none, .box (.t 0) 49⟩,
 ⟨some 4, none, .alloc [.bool false, .int .i64 0, .int .i64 0, .int .i64 0, .bool false, .int .i64 0, .int .i64 0, .int .i64 0, .bool false, .int .i64 0, .int .i64 0, .int .i64 0, .bool false, .int .i64 0, .int .i64 0, .int .i64 0, .bool false, .int .i64 0, .int .i64 0, .int .i64 0, .bool false, .int .i64 0, .int .i64 0, .int .i64 0, .bool false, .int .i64 0, .int .i64 0, .int .i64 0, .bool false, .int .i64 0, .int .i64 0, .int .i64 0, .bool false, .int .i64 0, .int .i64 0, .int .i64 0, .bool false, .int .i64 0, .int .i64 0, .int .i64 0, .bool false, .int .i64 0, .int .i64 0, .int .i64 0, .bool false, .int .i64 0, .int .i64 0, .int .i64 0, .bool false, .int .i64 0, .int .i64 0, .int .i64 0, .bool false, .int .i64 0, .int .i64 0, .int .i64 0, .bool false, .int .i64 0, .int .i64 0, .int .i64 0, .bool false, .int .i64 0, .int .i64 0, .int .i64 0, .int .i64 0] 49⟩,
 ⟨some 5, none, .mov (.k (.c (.int .i64 0)))⟩])
 (.seq (.seq (.reg false [⟨some 13, none, .loadN (.t 2) 65⟩,
 ⟨some 14, none, .call 81 [.t 13]⟩,
 ⟨some 15, none, .un .not (.t 14)⟩,
 ⟨some 16, none, .mov (.t 15)⟩,
 ⟨some 17, some (16, false), .mov (.t 1)⟩,
 ⟨some 18, some (16, false), .call 46 [.t 17]⟩,
 ⟨some 19, some (16, false), .un .not (.t 18)⟩,
 ⟨some 20, none, .pick (.t 16) (.k (.c (.bool true))) (.t 19)⟩])
 (.cond (.t 20) (.seq (.reg false [⟨some 21, none, .loadN (.t 2) 65⟩,
 ⟨none, none, .store (.t 4) (.t 21) 65⟩,
 ⟨some 5, none, .mov (.k (.c (.int .i64 1)))⟩])
 (.ret (some [4, 5]))) .skip))
 (.seq (.reg false [⟨some 22, none, .loadN (.t 2) 65⟩,
 ⟨some 6, none, .alloc [.bool false, .int .i64 0, .int .i64 0, .int .i64 0, .bool false, .int .i64 0, .int .i64 0, .int .i64 0, .bool false, .int .i64 0, .int .i64 0, .int .i64 0, .bool false, .int .i64 0, .int .i64 0, .int .i64 0, .bool false, .int .i64 0, .int .i64 0, .int .i64 0, .bool false, .int .i64 0, .int .i64 0, .int .i64 0, .bool false, .int .i64 0, .int .i64 0, .int .i64 0, .bool false, .int .i64 0, .int .i64 0, .int .i64 0, .bool false, .int .i64 0, .int .i64 0, .int .i64 0, .bool false, .int .i64 0, .int .i64 0, .int .i64 0, .bool false, .int .i64 0, .int .i64 0, .int .i64 0, .bool false, .int .i64 0, .int .i64 0, .int .i64 0, .bool false, .int .i64 0, .int .i64 0, .int .i64 0, .bool false, .int .i64 0, .int .i64 0, .int .i64 0, .bool false, .int .i64 0, .int .i64 0, .int .i64 0, .bool false, .int .i64 0, .int .i64 0, .int .i64 0, .int .i64 0] 49⟩,
 ⟨none, none, .store (.t 6) (.t 22) 65⟩])
 (.seq (.reg false [⟨some 24, none, .mov (.t 1)⟩,
 ⟨some 25, none, .call 117 [.t 2, .t 24]⟩,
 ⟨some 23, none, .mov (.t 25)⟩,
 ⟨some 26, none, .ext (.t 23) 0⟩,
 ⟨some 27, none, .ext (.t 23) 1⟩,
 ⟨some 28, none, .ext (.t 23) 2⟩,
 ⟨some 7, none, .mov (.t 26)⟩,
 ⟨some 8, none, .mov (.t 27)⟩,
 ⟨some 9, none, .mov (.t 28)⟩])
 (.seq (.block 0 none none
 (.seq (.reg false [⟨some 30, none, .mov (.t 9)⟩,
 ⟨some 31, none, .un .not (.t 30)⟩,
 ⟨some 29, none, .mov (.t 31)⟩])
 (.cond (.t 29) (.seq (.reg false [⟨some 32, none, .loadN (.t 6) 65⟩,
 ⟨none, none, .store (.t 4) (.t 32) 65⟩,
 ⟨some 5, none, .mov (.k (.c (.int .i64 2)))⟩])
 (.ret (some [4, 5]))) (.seq (.reg false [⟨some 34, none, .mov (.t 7)⟩,
 ⟨some 35, none, .chk (.t 34)⟩,
 ⟨some 36, none, .load1 (.t 35)⟩,
 ⟨some 37, none, .bin .eql (.t 36) (.k (.c (.int .i64 (-1))))⟩,
 ⟨some 33, none, .mov (.t 37)⟩])
 (.cond (.t 33) (.seq (.reg false [⟨some 38, none, .loadN (.t 6) 65⟩,
 ⟨none, none, .store (.t 4) (.t 38) 65⟩,
 ⟨some 5, none, .mov (.k (.c (.int .i64 5)))⟩])
 (.ret (some [4, 5]))) .skip)))))
 (.seq (.reg false [⟨some 39, none, .mov (.t 7)⟩,
 ⟨some 40, none, .chk (.t 39)⟩,
 ⟨some 41, none, .load1 (.t 40)⟩,
 ⟨some 42, none, .fld (.t 2) 0⟩,
 ⟨some 43, none, .ixa (.t 42) (.t 41) 16 4⟩,
 ⟨some 10, none, .mov (.t 43)⟩])
 (.seq (.seq (.reg false [⟨some 44, none, .mov (.t 10)⟩,
 ⟨some 45, none, .chk (.t 44)⟩,
 ⟨some 46, none, .fld (.t 45) 2⟩,
 ⟨some 47, none, .load1 (.t 46)⟩,
 ⟨some 48, none, .bin .neq (.t 47) (.k (.c (.int .i64 (-1))))⟩,
 ⟨some 49, none, .mov (.t 48)⟩,
 ⟨some 50, some (49, true), .mov (.t 10)⟩,
 ⟨some 51, some (49, true), .chk (.t 50)⟩,
 ⟨some 52, some (49, true), .fld (.t 51) 3⟩,
 ⟨some 53, some (49, true), .load1 (.t 52)⟩,
 ⟨some 54, some (49, true), .bin .neq (.t 53) (.k (.c (.int .i64 (-1))))⟩,
 ⟨some 55, none, .pick (.t 49) (.t 54) (.k (.c (.bool false)))⟩])
 (.cond (.t 55) (.seq (.reg false [⟨some 56, none, .mov (.t 10)⟩,
 ⟨some 57, none, .chk (.t 56)⟩,
 ⟨some 58, none, .fld (.t 57) 3⟩,
 ⟨some 7, none, .mov (.t 58)⟩])
 (.seq (.seq (.reg false [⟨some 59, none, .mov (.t 8)⟩,
 ⟨some 60, none, .bin .add (.t 59) (.k (.c (.int .i64 1)))⟩,
 ⟨some 8, none, .mov (.t 60)⟩])
 (.block 1 (some [2, 4, 6, 7, 8, 10]) (some [2, 4, 6, 7, 8, 10])
 (.loop c_impl_TreeDrop_b0)))
 (.seq (.seq (.reg false [⟨some 77, none, .mov (.t 8)⟩,
 ⟨some 78, none, .bin .gtr (.t 77) (.k (.c (.int .i64 8)))⟩])
 (.cond (.t 78) (.seq (.reg false [⟨some 79, none, .loadN (.t 6) 65⟩,
 ⟨none, none, .store (.t 4) (.t 79) 65⟩,
 ⟨some 5, none, .mov (.k (.c (.int .i64 2)))⟩])
 (.ret (some [4, 5]))) .skip))
 (.reg false [⟨some 80, none, .mov (.t 10)⟩,
 ⟨some 81, none, .mov (.t 7)⟩,
 ⟨some 82, none, .chk (.t 81)⟩,
 ⟨some 83, none, .load1 (.t 82)⟩,
 ⟨some 84, none, .fld (.t 2) 0⟩,
 ⟨some 85, none, .ixa (.t 84) (.t 83) 16 4⟩,
 ⟨some 86, none, .fld (.t 85) 1⟩,
 ⟨some 87, none, .load1 (.t 86)⟩,
 ⟨some 88, none, .chk (.t 80)⟩,
 ⟨some 89, none, .fld (.t 88) 1⟩,
 ⟨none, none, .store (.t 89) (.t 87) 1⟩])))) .skip))
 (.seq (.reg false [⟨some 90, none, .mov (.t 7)⟩,
 ⟨some 91, none, .chk (.t 90)⟩,
 ⟨some 92, none, .load1 (.t 91)⟩,
 ⟨some 11, none, .mov (.t 92)⟩])
 (.seq (.reg false [⟨some 93, none, .mov (.t 11)⟩,
 ⟨some 94, none, .fld (.t 2) 0⟩,
 ⟨some 95, none, .ixa (.t 94) (.t 93) 16 4⟩,
 ⟨some 96, none, .loadN (.t 95) 4⟩,
 ⟨some 12, none, .alloc [.bool false, .int .i64 0, .int .i64 0, .int .i64 0] 46⟩,
 ⟨none, none, .store (.t 12) (.t 96) 4⟩])
 (.seq (.reg false [⟨some 97, none, .mov (.t 7)⟩,
 ⟨some 98, none, .fld (.t 12) 2⟩,
 ⟨some 99, none, .load1 (.t 98)⟩,
 ⟨some 100, none, .fld (.t 12) 3⟩,
 ⟨some 101, none, .load1 (.t 100)⟩,
 ⟨some 102, none, .mxi false (.t 99) (.t 101)⟩,
 ⟨some 103, none, .chk (.t 97)⟩,
 ⟨none, none, .store (.t 103) (.t 102) 1⟩])
 (.seq (.reg false [⟨some 104, none, .mov (.t 11)⟩,
 ⟨some 105, none, .bld [.bool false, .int .i64 0, .int .i64 0, .int .i64 0] []⟩,
 ⟨some 106, none, .fld (.t 2) 0⟩,
 ⟨some 107, none, .ixa (.t 106) (.t 104) 16 4⟩,
 ⟨none, none, .store (.t 107) (.t 105) 4⟩])
 (.seq (.reg false [⟨some 108, none, .loadN (.t 2) 65⟩,
 ⟨none, none, .store (.t 4) (.t 108) 65⟩,
 ⟨some 5, none, .mov (.k (.c (.int .i64 0)))⟩])
 (.ret (some [4, 5]))))))))))))))⟩
theorem c_impl_TreeDrop_ok : trF Tryz.prog ⟨[(1, [2, 4, 6, 7, 8, 10], [2, 4, 6, 7, 8, 10])], [4, 5], false, false⟩ Tryz.f89 = some c_impl_TreeDrop := by kernel_rfl
def c_impl_SetAdd_b0 : IC :=
  (.seq (.seq (.reg false [⟨some 27, none, .mov (.t 6)⟩,
 ⟨some 28, none, .mov (.t 1)⟩,
 ⟨some 29, none, .mov (.t 6)⟩,
 ⟨some 30, none, .len (.t 29)⟩,
 ⟨some 31, none, .call 113 [.t 28, .t 30]⟩,
 ⟨some 32, none, .ixs (.t 27) (.t 31) 1⟩,
 ⟨some 33, none, .load1 (.t 32)⟩,
 ⟨some 34, none, .len (.t 33)⟩,
 ⟨some 35, none, .bin .eql (.t 34) (.k (.c (.int .i64 3)))⟩])
 (.cond (.t 35) .skip (.exit 1)))
 (.block 2 none none
 (.seq (.seq (.reg false [⟨some 36, none, .mov (.t 6)⟩,
 ⟨some 37, none, .len (.t 36)⟩,
 ⟨some 38, none, .bin .eql (.t 37) (.k (.c (.int .i64 8)))⟩])
 (.cond (.t 38) (.seq (.reg false [⟨some 39, none, .mov (.t 0)⟩,
 ⟨some 40, none, .call 78 [.t 39]⟩,
 ⟨some 4, none, .mov (.t 40)⟩,
 ⟨some 5, none, .mov (.k (.c (.int .i64 3)))⟩])
 (.ret (some [4, 5]))) .skip))
 (.reg false [⟨some 41, none, .mov (.t 0)⟩,
 ⟨some 42, none, .call 120 [.t 41]⟩,
 ⟨some 43, none, .mov (.t 6)⟩,
 ⟨some 44, none, .len (.t 43)⟩,
 ⟨some 45, none, .bin .mul (.k (.c (.int .i64 2))) (.t 44)⟩,
 ⟨some 46, none, .call 119 [.t 42, .t 45]⟩,
 ⟨some 6, none, .mov (.t 46)⟩]))))
def c_impl_SetAdd : IFn := ⟨66, [.t 4, .t 5],
  (.seq (.reg false [⟨some 4, none, .mov (.k (.c .nils))⟩,
 ⟨some 5, none, .mov (.k (.c (.int .i64 0)))⟩])
 (.seq (.block 0 none none
 (.seq (.reg false [⟨some 9, none, .mov (.t 0)⟩,
 ⟨some 10, none, .call 82 [.t 9]⟩,
 ⟨some 11, none, .un .not (.t 10)⟩,
 ⟨some 12, none, .mov (.t 11)⟩,
 ⟨some 13, some (12, false), .mov (.t 1)⟩,
 ⟨some 14, some (12, false), .call 46 [.t 13]⟩,
 ⟨some 15, some (12, false), .un .not (.t 14)⟩,
 ⟨some 16, none, .pick (.t 12) (.k (.c (.bool true))) (.t 15)⟩,
 ⟨some 8, none, .mov (.t 16)⟩])
 (.cond (.t 8) (.seq (.reg false [⟨some 17, none, .mov (.t 0)⟩,
 ⟨some 18, none, .call 78 [.t 17]⟩,
 ⟨some 4, none, .mov (.t 18)⟩,
 ⟨some 5, none, .mov (.k (.c (.int .i64 1)))⟩])
 (.ret (some [4, 5]))) (.seq (.reg false [⟨some 20, none, .mov (.t 0)⟩,
 ⟨some 21, none, .mov (.t 1)⟩,
 ⟨some 22, none, .call 118 [.t 20, .t 21]⟩,
 ⟨some 19, none, .mov (.t 22)⟩])
 (.cond (.t 19) (.seq (.reg false [⟨some 23, none, .mov (.t 0)⟩,
 ⟨some 24, none, .call 78 [.t 23]⟩,
 ⟨some 4, none, .mov (.t 24)⟩,
 ⟨some 5, none, .mov (.k (.c (.int .i64 2)))⟩])
 (.ret (some [4, 5]))) .skip)))))
 (.seq (.reg false [⟨some 25, none, .mov (.t 0)⟩,
 ⟨some 26, none, .call 78 [.t 25]⟩,
 ⟨some 6, none, .mov (.t 26)⟩])
 (.seq (.block 1 (some [0, 1, 6]) (some [1, 6])
 (.loop c_impl_SetAdd_b0))
 (.seq (.reg false [⟨some 47, none, .mov (.t 6)⟩,
 ⟨some 48, none, .mov (.t 1)⟩,
 ⟨some 49, none, .mov (.t 6)⟩,
 ⟨some 50, none, .len (.t 49)⟩,
 ⟨some 51, none, .call 113 [.t 48, .t 50]⟩,
 ⟨some 52, none, .ixs (.t 47) (.t 51) 1⟩,
 ⟨some 7, none, .mov (.t 52)⟩])
 (.seq (.reg false [⟨some 53, none, .mov (.t 7)⟩,
 ⟨some 54, none, .mov (.t 7)⟩,
 ⟨some 55, none, .chk (.t 54)⟩,
 ⟨some 56, none, .load1 (.t 55)⟩,
 ⟨some 57, none, .mov (.t 1)⟩,
 ⟨some 58, none, .lit 1 1 [.int .i64 0] [(0, .t 57)] 3⟩,
 ⟨some 59, none, .app (.t 56) (.t 58) 3 1 8⟩,
 ⟨some 60, none, .chk (.t 53)⟩,
 ⟨none, none, .store (.t 60) (.t 59) 1⟩])
 (.seq (.reg false [⟨some 61, none, .mov (.t 7)⟩,
 ⟨some 62, none, .chk (.t 61)⟩,
 ⟨some 63, none, .load1 (.t 62)⟩,
 ⟨some 64, none, .call 121 [.t 63]⟩])
 (.seq (.reg false [⟨some 65, none, .mov (.t 6)⟩,
 ⟨some 4, none, .mov (.t 65)⟩,
 ⟨some 5, none, .mov (.k (.c (.int .i64 0)))⟩])
 (.ret (some [4, 5]))))))))))⟩
theorem c_impl_SetAdd_ok : trF Tryz.prog ⟨[(1, [0, 1, 6], [1, 6])], [4, 5], false, false⟩ Tryz.f90 = some c_impl_SetAdd := by kernel_rfl
def c_impl_SetDrop : IFn := ⟨40, [.t 4, .t 5],
  (.seq (.reg false [⟨some 3, none, .box (.t 1) 3⟩,
 ⟨some 4, none, .mov (.k (.c .nils))⟩,
 ⟨some 5, none, .mov (.k (.c (.int .i64 0)))⟩])
 (.seq (.reg false [⟨some 8, none, .mov (.t 0)⟩,
 ⟨some 9, none, .call 78 [.t 8]⟩,
 ⟨some 6, none, .mov (.t 9)⟩])
 (.seq (.block 0 none none
 (.seq (.reg false [⟨some 11, none, .mov (.t 0)⟩,
 ⟨some 12, none, .call 82 [.t 11]⟩,
 ⟨some 13, none, .un .not (.t 12)⟩,
 ⟨some 14, none, .mov (.t 13)⟩,
 ⟨some 15, some (14, false), .load1 (.t 3)⟩,
 ⟨some 16, some (14, false), .call 46 [.t 15]⟩,
 ⟨some 17, some (14, false), .un .not (.t 16)⟩,
 ⟨some 18, none, .pick (.t 14) (.k (.c (.bool true))) (.t 17)⟩,
 ⟨some 10, none, .mov (.t 18)⟩])
 (.cond (.t 10) (.seq (.reg false [⟨some 19, none, .mov (.t 6)⟩,
 ⟨some 4, none, .mov (.t 19)⟩,
 ⟨some 5, none, .mov (.k (.c (.int .i64 1)))⟩])
 (.ret (some [4, 5]))) (.seq (.reg false [⟨some 21, none, .mov (.t 0)⟩,
 ⟨some 22, none, .load1 (.t 3)⟩,
 ⟨some 23, none, .call 118 [.t 21, .t 22]⟩,
 ⟨some 24, none, .un .not (.t 23)⟩,
 ⟨some 20, none, .mov (.t 24)⟩])
 (.cond (.t 20) (.seq (.reg false [⟨some 25, none, .mov (.t 6)⟩,
 ⟨some 4, none, .mov (.t 25)⟩,
 ⟨some 5, none, .mov (.k (.c (.int .i64 4)))⟩])
 (.ret (some [4, 5]))) .skip)))))
 (.seq (.reg false [⟨some 26, none, .load1 (.t 3)⟩,
 ⟨some 27, none, .mov (.t 0)⟩,
 ⟨some 28, none, .len (.t 27)⟩,
 ⟨some 29, none, .call 113 [.t 26, .t 28]⟩,
 ⟨some 7, none, .mov (.t 29)⟩])
 (.seq (.reg false [⟨some 30, none, .mov (.t 6)⟩,
 ⟨some 31, none, .mov (.t 7)⟩,
 ⟨some 32, none, .mov (.t 6)⟩,
 ⟨some 33, none, .mov (.t 7)⟩,
 ⟨some 34, none, .ixs (.t 32) (.t 33) 1⟩,
 ⟨some 35, none, .load1 (.t 34)⟩,
 ⟨some 36, none, .mkc 123 [.t 3]⟩,
 ⟨some 37, none, .call 122 [.t 35, .t 36]⟩,
 ⟨some 38, none, .ixs (.t 30) (.t 31) 1⟩,
 ⟨none, none, .store (.t 38) (.t 37) 1⟩])
 (.seq (.reg false [⟨some 39, none, .mov (.t 6)⟩,
 ⟨some 4, none, .mov (.t 39)⟩,
 ⟨some 5, none, .mov (.k (.c (.int .i64 0)))⟩])
 (.ret (some [4, 5]))))))))⟩
theorem c_impl_SetDrop_ok : trF Tryz.prog ⟨[], [4, 5], false, false⟩ Tryz.f91 = some c_impl_SetDrop := by kernel_rfl
def c_impl_toldBy_b0 : IC :=
  (.seq (.reg false [⟨some 14, none, .bin .lss (.t 13) (.t 12)⟩])
 (.seq (.cond (.t 14) .skip (.exit 0))
 (.seq (.block 1 none none
 (.seq (.reg false [⟨some 15, none, .ixs (.t 11) (.t 13) 1⟩,
 ⟨some 16, none, .load1 (.t 15)⟩,
 ⟨some 10, none, .mov (.t 16)⟩])
 (.seq (.reg false [⟨some 17, none, .mov (.t 0)⟩,
 ⟨some 18, none, .mov (.t 10)⟩,
 ⟨some 19, none, .bin .eql (.t 17) (.t 18)⟩])
 (.cond (.t 19) (.seq (.reg false [⟨some 8, none, .mov (.k (.c (.int .i64 1)))⟩])
 (.ret (some [8]))) .skip))))
 (.reg false [⟨some 20, none, .bin .add (.t 13) (.k (.c (.int .i64 1)))⟩,
 ⟨some 13, none, .mov (.t 20)⟩]))))
def c_impl_toldBy : IFn := ⟨30, [.t 8],
  (.seq (.reg false [⟨some 8, none, .mov (.k (.c (.int .i64 0)))⟩])
 (.seq (.seq (.reg false [⟨some 11, none, .mov (.t 1)⟩,
 ⟨some 12, none, .len (.t 11)⟩,
 ⟨some 13, none, .mov (.k (.c (.int .i64 0)))⟩])
 (.block 0 (some [0, 2, 3, 11, 12, 13]) (some [0, 2, 3])
 (.loop c_impl_toldBy_b0)))
 (.seq (.seq (.reg false [⟨some 21, none, .mov (.t 0)⟩])
 (.block 2 none none
 (.seq (.reg false [⟨some 23, none, .bin .eql (.t 21) (.k (.c (.int .i64 0)))⟩,
 ⟨some 22, none, .mov (.t 23)⟩])
 (.cond (.t 22) (.seq (.reg false [⟨some 8, none, .mov (.k (.c (.int .i64 0)))⟩])
 (.ret (some [8]))) (.seq (.reg false [⟨some 25, none, .mov (.t 2)⟩,
 ⟨some 26, none, .bin .eql (.t 21) (.t 25)⟩,
 ⟨some 24, none, .mov (.t 26)⟩])
 (.cond (.t 24) (.seq (.reg false [⟨some 8, none, .mov (.k (.c (.int .i64 2)))⟩])
 (.ret (some [8]))) (.seq (.reg false [⟨some 28, none, .mov (.t 3)⟩,
 ⟨some 29, none, .bin .eql (.t 21) (.t 28)⟩,
 ⟨some 27, none, .mov (.t 29)⟩])
 (.cond (.t 27) (.seq (.reg false [⟨some 8, none, .mov (.k (.c (.int .i64 3)))⟩])
 (.ret (some [8]))) .skip))))))))
 (.seq (.reg false [⟨some 8, none, .mov (.k (.c (.int .i64 4)))⟩])
 (.ret (some [8]))))))⟩
theorem c_impl_toldBy_ok : trF Tryz.prog ⟨[(0, [0, 2, 3, 11, 12, 13], [0, 2, 3])], [8], false, false⟩ Tryz.f92 = some c_impl_toldBy := by kernel_rfl
def c_laws_eqNodeA16_b0 : IC :=
  (.seq (.seq (.reg false [⟨some 6, none, .mov (.t 5)⟩,
 ⟨some 7, none, .bin .lss (.t 6) (.k (.c (.int .i64 16)))⟩])
 (.cond (.t 7) .skip (.exit 0)))
 (.seq (.block 1 none none
 (.seq (.reg true [⟨some 10, none, .mov (.t 5)⟩,
 ⟨some 11, none, .ixa (.t 2) (.t 10) 16 4⟩,
 ⟨some 12, none, .loadN (.t 11) 4⟩,
 ⟨some 13, none, .mov (.t 5)⟩,
 ⟨some 14, none, .ixa (.t 3) (.t 13) 16 4⟩,
 ⟨some 15, none, .loadN (.t 14) 4⟩,
 ⟨some 16, none, .call 124 [.t 12, .t 15]⟩,
 ⟨some 17, none, .un .not (.t 16)⟩])
 (.cond (.t 17) (.seq (.reg false [⟨some 4, none, .mov (.k (.c (.bool false)))⟩])
 (.ret (some [4]))) .skip)))
 (.reg false [⟨some 8, none, .mov (.t 5)⟩,
 ⟨some 9, none, .bin .add (.t 8) (.k (.c (.int .i64 1)))⟩,
 ⟨some 5, none, .mov (.t 9)⟩])))
def c_laws_eqNodeA16 : IFn := ⟨18, [.t 4],
  (.seq (.reg false [⟨some 2, none, .box (.t 0) 42⟩,
 ⟨some 3, none, .box (.t 1) 42⟩,
 ⟨some 4, none, .mov (.k (.c (.bool false)))⟩])
 (.seq (.seq (.reg false [⟨some 5, none, .mov (.k (.c (.int .i64 0)))⟩])
 (.block 0 (some [2, 3, 5]) (some [])
 (.loop c_laws_eqNodeA16_b0)))
 (.seq (.reg false [⟨some 4, none, .mov (.k (.c (.bool true)))⟩])
 (.ret (some [4])))))⟩
theorem c_laws_eqNodeA16_ok : trF Tryz.prog ⟨[(0, [2, 3, 5], [])], [4], false, false⟩ Tryz.f93 = some c_laws_eqNodeA16 := by kernel_rfl
def c_laws_eqIntA8_b0 : IC :=
  (.seq (.seq (.reg false [⟨some 6, none, .mov (.t 5)⟩,
 ⟨some 7, none, .bin .lss (.t 6) (.k (.c (.int .i64 8)))⟩])
 (.cond (.t 7) .skip (.exit 0)))
 (.seq (.block 1 none none
 (.seq (.reg true [⟨some 10, none, .mov (.t 5)⟩,
 ⟨some 11, none, .ixa (.t 2) (.t 10) 8 1⟩,
 ⟨some 12, none, .load1 (.t 11)⟩,
 ⟨some 13, none, .mov (.t 5)⟩,
 ⟨some 14, none, .ixa (.t 3) (.t 13) 8 1⟩,
 ⟨some 15, none, .load1 (.t 14)⟩,
 ⟨some 16, none, .bin .neq (.t 12) (.t 15)⟩])
 (.cond (.t 16) (.seq (.reg false [⟨some 4, none, .mov (.k (.c (.bool false)))⟩])
 (.ret (some [4]))) .skip)))
 (.reg false [⟨some 8, none, .mov (.t 5)⟩,
 ⟨some 9, none, .bin .add (.t 8) (.k (.c (.int .i64 1)))⟩,
 ⟨some 5, none, .mov (.t 9)⟩])))
def c_laws_eqIntA8 : IFn := ⟨17, [.t 4],
  (.seq (.reg false [⟨some 2, none, .box (.t 0) 27⟩,
 ⟨some 3, none, .box (.t 1) 27⟩,
 ⟨some 4, none, .mov (.k (.c (.bool false)))⟩])
 (.seq (.seq (.reg false [⟨some 5, none, .mov (.k (.c (.int .i64 0)))⟩])
 (.block 0 (some [2, 3, 5]) (some [])
 (.loop c_laws_eqIntA8_b0)))
 (.seq (.reg false [⟨some 4, none, .mov (.k (.c (.bool true)))⟩])
 (.ret (some [4])))))⟩
theorem c_laws_eqIntA8_ok : trF Tryz.prog ⟨[(0, [2, 3, 5], [])], [4], false, false⟩ Tryz.f94 = some c_laws_eqIntA8 := by kernel_rfl
end Go.Proofs.YtfbeplbcaanimaaGreat
