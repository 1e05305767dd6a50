/-
  The functions of the program that the laws here reach, in the small language; each is what the translation gives (checked by the kernel).
-/
import Derived.Test.YtkoloapgeilbdaaD
import Derived.Test.YtkoloapgeilbdaaProg
import Derived.KernelRfl
set_option linter.unusedVariables false
namespace Go.Proofs.Ytkoloapgeilbdaa
def c_laws_FnExactSetOk : IFn := ⟨27, [.t 2],
  (.seq (.reg false [⟨some 2, none, .mov (.k (.c (.bool false)))⟩])
 (.seq (.reg false [⟨some 3, none, .mov (.k (.c (.int .i64 1048576)))⟩])
 (.seq (.reg false [⟨some 7, none, .mov (.t 0)⟩,
 ⟨some 8, none, .mov (.t 3)⟩,
 ⟨some 9, none, .call 15 [.t 7, .t 8]⟩,
 ⟨some 3, none, .mov (.t 9)⟩])
 (.seq (.seq (.reg false [⟨some 10, none, .mov (.t 3)⟩,
 ⟨some 11, none, .bin .lss (.t 10) (.k (.c (.int .i64 0)))⟩])
 (.cond (.t 11) (.seq (.reg false [⟨some 2, none, .mov (.k (.c (.bool true)))⟩])
 (.ret (some [2]))) .skip))
 (.seq (.reg false [⟨some 12, none, .mov (.t 0)⟩,
 ⟨some 13, none, .call 17 [.t 12]⟩,
 ⟨some 14, none, .call 16 [.t 13]⟩,
 ⟨some 4, none, .mov (.t 14)⟩])
 (.seq (.reg false [⟨some 15, none, .mov (.t 0)⟩,
 ⟨some 16, none, .call 17 [.t 15]⟩,
 ⟨some 5, none, .mov (.t 16)⟩])
 (.seq (.reg false [⟨some 17, none, .mov (.t 5)⟩,
 ⟨some 18, none, .call 18 [.t 17]⟩,
 ⟨some 6, none, .mov (.t 18)⟩])
 (.seq (.seq (.reg false [⟨some 19, none, .mov (.t 6)⟩,
 ⟨some 20, none, .mov (.t 4)⟩,
 ⟨some 21, none, .binb true (.t 19) (.t 20)⟩])
 (.cond (.t 21) (.seq (.reg false [⟨some 2, none, .mov (.k (.c (.bool false)))⟩])
 (.ret (some [2]))) .skip))
 (.seq (.seq (.reg false [⟨some 22, none, .mov (.t 5)⟩,
 ⟨some 23, none, .mov (.t 0)⟩,
 ⟨some 24, none, .call 17 [.t 23]⟩,
 ⟨some 25, none, .call 19 [.t 22, .t 24]⟩,
 ⟨some 26, none, .un .not (.t 25)⟩])
 (.cond (.t 26) (.seq (.reg false [⟨some 2, none, .mov (.k (.c (.bool false)))⟩])
 (.ret (some [2]))) .skip))
 (.seq (.reg false [⟨some 2, none, .mov (.k (.c (.bool true)))⟩])
 (.ret (some [2]))))))))))))⟩
theorem c_laws_FnExactSetOk_ok : trF Try.prog ⟨[], [2], false⟩ Try.f3 = some c_laws_FnExactSetOk := by kernel_rfl
def c_laws_FnExactRingList : IFn := ⟨44, [.t 2],
  (.seq (.reg false [⟨some 1, none, .box (.t 0) 29⟩,
 ⟨some 2, none, .mov (.k (.c (.bool false)))⟩])
 (.seq (.reg false [⟨some 8, none, .loadN (.t 1) 10⟩,
 ⟨some 9, none, .call 21 [.t 8]⟩,
 ⟨some 10, none, .call 20 [.t 9]⟩,
 ⟨some 3, none, .mov (.t 10)⟩])
 (.seq (.reg false [⟨some 11, none, .loadN (.t 1) 10⟩,
 ⟨some 12, none, .call 21 [.t 11]⟩,
 ⟨some 13, none, .call 22 [.t 12]⟩,
 ⟨some 4, none, .mov (.t 13)⟩])
 (.seq (.seq (.reg false [⟨some 14, none, .mov (.t 4)⟩,
 ⟨some 15, none, .mov (.t 3)⟩,
 ⟨some 16, none, .call 23 [.t 14, .t 15]⟩,
 ⟨some 17, none, .un .not (.t 16)⟩])
 (.cond (.t 17) (.seq (.reg false [⟨some 2, none, .mov (.k (.c (.bool false)))⟩])
 (.ret (some [2]))) .skip))
 (.seq (.reg false [⟨some 5, none, .mov (.k (.c (.int .i64 1)))⟩])
 (.seq (.reg false [⟨some 18, none, .mov (.t 4)⟩,
 ⟨some 19, none, .mov (.t 5)⟩,
 ⟨some 20, none, .call 24 [.t 18, .t 19]⟩,
 ⟨some 5, none, .mov (.t 20)⟩])
 (.seq (.reg false [⟨some 6, none, .mov (.k (.c (.int .i64 1)))⟩])
 (.seq (.reg false [⟨some 21, none, .mov (.t 4)⟩,
 ⟨some 22, none, .mov (.t 6)⟩,
 ⟨some 23, none, .call 25 [.t 21, .t 22]⟩,
 ⟨some 6, none, .mov (.t 23)⟩])
 (.seq (.seq (.reg false [⟨some 24, none, .mov (.t 6)⟩,
 ⟨some 25, none, .bin .lss (.t 24) (.k (.c (.int .i64 0)))⟩])
 (.cond (.t 25) (.seq (.reg false [⟨some 2, none, .mov (.k (.c (.bool false)))⟩])
 (.ret (some [2]))) .skip))
 (.seq (.seq (.reg false [⟨some 26, none, .mov (.t 6)⟩,
 ⟨some 27, none, .mov (.t 5)⟩,
 ⟨some 28, none, .bin .neq (.t 26) (.t 27)⟩])
 (.cond (.t 28) (.seq (.reg false [⟨some 2, none, .mov (.k (.c (.bool false)))⟩])
 (.ret (some [2]))) .skip))
 (.seq (.reg false [⟨some 29, none, .loadN (.t 1) 10⟩,
 ⟨some 30, none, .call 21 [.t 29]⟩,
 ⟨some 31, none, .call 22 [.t 30]⟩,
 ⟨some 7, none, .mov (.t 31)⟩])
 (.seq (.seq (.reg false [⟨some 32, none, .mov (.t 7)⟩,
 ⟨some 33, none, .mov (.t 3)⟩,
 ⟨some 34, none, .call 23 [.t 32, .t 33]⟩,
 ⟨some 35, none, .un .not (.t 34)⟩])
 (.cond (.t 35) (.seq (.reg false [⟨some 2, none, .mov (.k (.c (.bool false)))⟩])
 (.ret (some [2]))) .skip))
 (.seq (.reg false [⟨some 6, none, .mov (.k (.c (.int .i64 1)))⟩])
 (.seq (.reg false [⟨some 36, none, .mov (.t 4)⟩,
 ⟨some 37, none, .mov (.t 6)⟩,
 ⟨some 38, none, .call 25 [.t 36, .t 37]⟩,
 ⟨some 6, none, .mov (.t 38)⟩])
 (.seq (.seq (.reg false [⟨some 39, none, .mov (.t 6)⟩,
 ⟨some 40, none, .bin .lss (.t 39) (.k (.c (.int .i64 0)))⟩])
 (.cond (.t 40) (.seq (.reg false [⟨some 2, none, .mov (.k (.c (.bool false)))⟩])
 (.ret (some [2]))) .skip))
 (.seq (.seq (.reg false [⟨some 41, none, .mov (.t 6)⟩,
 ⟨some 42, none, .mov (.t 5)⟩,
 ⟨some 43, none, .bin .neq (.t 41) (.t 42)⟩])
 (.cond (.t 43) (.seq (.reg false [⟨some 2, none, .mov (.k (.c (.bool false)))⟩])
 (.ret (some [2]))) .skip))
 (.seq (.reg false [⟨some 2, none, .mov (.k (.c (.bool true)))⟩])
 (.ret (some [2])))))))))))))))))))⟩
theorem c_laws_FnExactRingList_ok : trF Try.prog ⟨[], [2], false⟩ Try.f4 = some c_laws_FnExactRingList := by kernel_rfl
def c_laws_FnExactSetHas16 : IFn := ⟨31, [.t 4],
  (.seq (.reg false [⟨some 4, none, .mov (.k (.c (.bool false)))⟩])
 (.seq (.reg false [⟨some 5, none, .mov (.k (.c (.int .i64 1048576)))⟩])
 (.seq (.reg false [⟨some 9, none, .mov (.t 0)⟩,
 ⟨some 10, none, .mov (.t 5)⟩,
 ⟨some 11, none, .call 15 [.t 9, .t 10]⟩,
 ⟨some 5, none, .mov (.t 11)⟩])
 (.seq (.seq (.reg false [⟨some 12, none, .mov (.t 5)⟩,
 ⟨some 13, none, .bin .lss (.t 12) (.k (.c (.int .i64 0)))⟩])
 (.cond (.t 13) (.seq (.reg false [⟨some 4, none, .mov (.k (.c (.bool true)))⟩])
 (.ret (some [4]))) .skip))
 (.seq (.reg false [⟨some 14, none, .mov (.t 0)⟩,
 ⟨some 15, none, .call 17 [.t 14]⟩,
 ⟨some 16, none, .mov (.t 1)⟩,
 ⟨some 17, none, .call 26 [.t 15, .t 16]⟩,
 ⟨some 6, none, .mov (.t 17)⟩])
 (.seq (.reg false [⟨some 18, none, .mov (.t 0)⟩,
 ⟨some 19, none, .call 17 [.t 18]⟩,
 ⟨some 7, none, .mov (.t 19)⟩])
 (.seq (.reg false [⟨some 20, none, .mov (.t 7)⟩,
 ⟨some 21, none, .mov (.t 1)⟩,
 ⟨some 22, none, .call 27 [.t 20, .t 21]⟩,
 ⟨some 8, none, .mov (.t 22)⟩])
 (.seq (.seq (.reg false [⟨some 23, none, .mov (.t 8)⟩,
 ⟨some 24, none, .mov (.t 6)⟩,
 ⟨some 25, none, .binb true (.t 23) (.t 24)⟩])
 (.cond (.t 25) (.seq (.reg false [⟨some 4, none, .mov (.k (.c (.bool false)))⟩])
 (.ret (some [4]))) .skip))
 (.seq (.seq (.reg false [⟨some 26, none, .mov (.t 7)⟩,
 ⟨some 27, none, .mov (.t 0)⟩,
 ⟨some 28, none, .call 17 [.t 27]⟩,
 ⟨some 29, none, .call 19 [.t 26, .t 28]⟩,
 ⟨some 30, none, .un .not (.t 29)⟩])
 (.cond (.t 30) (.seq (.reg false [⟨some 4, none, .mov (.k (.c (.bool false)))⟩])
 (.ret (some [4]))) .skip))
 (.seq (.reg false [⟨some 4, none, .mov (.k (.c (.bool true)))⟩])
 (.ret (some [4]))))))))))))⟩
theorem c_laws_FnExactSetHas16_ok : trF Try.prog ⟨[], [4], false⟩ Try.f5 = some c_laws_FnExactSetHas16 := by kernel_rfl
def c_laws_FnExactRingMove : IFn := ⟨48, [.t 6],
  (.seq (.reg false [⟨some 3, none, .box (.t 0) 29⟩,
 ⟨some 4, none, .box (.t 1) 29⟩,
 ⟨some 6, none, .mov (.k (.c (.bool false)))⟩])
 (.seq (.regE 2 [⟨⟨some 14, none, .loadN (.t 3) 10⟩, 0, 0, false, []⟩,
 ⟨⟨some 15, none, .call 21 [.t 14]⟩, 1, 0, true, []⟩,
 ⟨⟨some 16, none, .loadN (.t 4) 10⟩, 2, 0, false, [1]⟩,
 ⟨⟨some 17, none, .call 21 [.t 16]⟩, 3, 0, true, []⟩,
 ⟨⟨some 18, none, .mov (.t 2)⟩, 4, 0, false, []⟩,
 ⟨⟨some 19, none, .call 28 [.t 15, .t 17, .t 18]⟩, 5, 0, true, []⟩,
 ⟨⟨some 13, none, .mov (.t 19)⟩, 6, 0, false, []⟩,
 ⟨⟨some 20, none, .ext (.t 13) 0⟩, 7, 0, false, []⟩,
 ⟨⟨some 21, none, .ext (.t 13) 1⟩, 8, 0, false, []⟩,
 ⟨⟨some 22, none, .ext (.t 13) 2⟩, 9, 0, false, []⟩,
 ⟨⟨some 7, none, .alloc [.int .i64 0, .int .i64 0, .int .i64 0, .int .i64 0, .int .i64 0, .int .i64 0, .int .i64 0, .int .i64 0, .int .i64 0, .int .i64 0] 32⟩, 10, 0, false, [0, 1, 2, 3, 5]⟩,
 ⟨⟨some 8, none, .alloc [.int .i64 0, .int .i64 0, .int .i64 0, .int .i64 0, .int .i64 0, .int .i64 0, .int .i64 0, .int .i64 0, .int .i64 0, .int .i64 0] 32⟩, 11, 1, false, [0, 1, 2, 3, 5, 10]⟩,
 ⟨⟨none, none, .store (.t 7) (.t 20) 10⟩, 12, 2, false, []⟩,
 ⟨⟨none, none, .store (.t 8) (.t 21) 10⟩, 13, 2, false, []⟩,
 ⟨⟨some 9, none, .mov (.t 22)⟩, 14, 2, false, []⟩])
 (.seq (.regE 2 [⟨⟨some 24, none, .loadN (.t 3) 10⟩, 0, 0, false, []⟩,
 ⟨⟨some 25, none, .call 21 [.t 24]⟩, 1, 0, true, []⟩,
 ⟨⟨some 26, none, .loadN (.t 4) 10⟩, 2, 0, false, [1]⟩,
 ⟨⟨some 27, none, .call 21 [.t 26]⟩, 3, 0, true, []⟩,
 ⟨⟨some 28, none, .mov (.t 2)⟩, 4, 0, false, []⟩,
 ⟨⟨some 29, none, .call 29 [.t 25, .t 27, .t 28]⟩, 5, 0, true, []⟩,
 ⟨⟨some 23, none, .mov (.t 29)⟩, 6, 0, false, []⟩,
 ⟨⟨some 30, none, .ext (.t 23) 0⟩, 7, 0, false, []⟩,
 ⟨⟨some 31, none, .ext (.t 23) 1⟩, 8, 0, false, []⟩,
 ⟨⟨some 32, none, .ext (.t 23) 2⟩, 9, 0, false, []⟩,
 ⟨⟨some 10, none, .alloc [.int .i64 0, .int .i64 0, .int .i64 0, .int .i64 0, .int .i64 0, .int .i64 0, .int .i64 0, .int .i64 0, .int .i64 0, .int .i64 0] 32⟩, 10, 0, false, [0, 1, 2, 3, 5]⟩,
 ⟨⟨some 11, none, .alloc [.int .i64 0, .int .i64 0, .int .i64 0, .int .i64 0, .int .i64 0, .int .i64 0, .int .i64 0, .int .i64 0, .int .i64 0, .int .i64 0] 32⟩, 11, 1, false, [0, 1, 2, 3, 5, 10]⟩,
 ⟨⟨none, none, .store (.t 10) (.t 30) 10⟩, 12, 2, false, []⟩,
 ⟨⟨none, none, .store (.t 11) (.t 31) 10⟩, 13, 2, false, []⟩,
 ⟨⟨some 12, none, .mov (.t 32)⟩, 14, 2, false, []⟩])
 (.seq (.seq (.reg false [⟨some 33, none, .loadN (.t 10) 10⟩,
 ⟨some 34, none, .loadN (.t 7) 10⟩,
 ⟨some 35, none, .call 30 [.t 33, .t 34]⟩,
 ⟨some 36, none, .un .not (.t 35)⟩,
 ⟨some 37, none, .mov (.t 36)⟩,
 ⟨some 38, some (37, false), .loadN (.t 11) 10⟩,
 ⟨some 39, some (37, false), .loadN (.t 8) 10⟩,
 ⟨some 40, some (37, false), .call 30 [.t 38, .t 39]⟩,
 ⟨some 41, some (37, false), .un .not (.t 40)⟩,
 ⟨some 42, none, .pick (.t 37) (.k (.c (.bool true))) (.t 41)⟩,
 ⟨some 43, none, .mov (.t 42)⟩,
 ⟨some 44, some (43, false), .mov (.t 12)⟩,
 ⟨some 45, some (43, false), .mov (.t 9)⟩,
 ⟨some 46, some (43, false), .bin .neq (.t 44) (.t 45)⟩,
 ⟨some 47, none, .pick (.t 43) (.k (.c (.bool true))) (.t 46)⟩])
 (.cond (.t 47) (.seq (.reg false [⟨some 6, none, .mov (.k (.c (.bool false)))⟩])
 (.ret (some [6]))) .skip))
 (.seq (.reg false [⟨some 6, none, .mov (.k (.c (.bool true)))⟩])
 (.ret (some [6])))))))⟩
theorem c_laws_FnExactRingMove_ok : trF Try.prog ⟨[], [6], false⟩ Try.f6 = some c_laws_FnExactRingMove := by kernel_rfl
def c_laws_FnExactNewSpace : IFn := ⟨36, [.t 0],
  (.seq (.reg false [⟨some 0, none, .mov (.k (.c (.bool false)))⟩])
 (.seq (.reg false [⟨some 6, none, .call 31 []⟩,
 ⟨some 1, none, .alloc [.bool false, .int .i64 0, .int .i64 0, .int .i64 0, .bool false, .int .i64 0, .int .i64 0, .int .i64 0, .bool false, .int .i64 0, .int .i64 0, .int .i64 0, .bool false, .int .i64 0, .int .i64 0, .int .i64 0, .bool false, .int .i64 0, .int .i64 0, .int .i64 0, .bool false, .int .i64 0, .int .i64 0, .int .i64 0, .bool false, .int .i64 0, .int .i64 0, .int .i64 0, .bool false, .int .i64 0, .int .i64 0, .int .i64 0, .bool false, .int .i64 0, .int .i64 0, .int .i64 0, .bool false, .int .i64 0, .int .i64 0, .int .i64 0, .bool false, .int .i64 0, .int .i64 0, .int .i64 0, .bool false, .int .i64 0, .int .i64 0, .int .i64 0, .bool false, .int .i64 0, .int .i64 0, .int .i64 0, .bool false, .int .i64 0, .int .i64 0, .int .i64 0, .bool false, .int .i64 0, .int .i64 0, .int .i64 0, .bool false, .int .i64 0, .int .i64 0, .int .i64 0, .int .i64 0, .int .i64 0, .int .i64 0, .int .i64 0, .int .i64 0, .int .i64 0, .int .i64 0, .int .i64 0, .int .i64 0, .int .i64 0, .int .i64 0, .bool false, .int .i64 0, .int .i64 0, .int .i64 0, .bool false, .int .i64 0, .int .i64 0, .int .i64 0, .bool false, .int .i64 0, .int .i64 0, .int .i64 0, .bool false, .int .i64 0, .int .i64 0, .int .i64 0, .bool false, .int .i64 0, .int .i64 0, .int .i64 0, .bool false, .int .i64 0, .int .i64 0, .int .i64 0, .bool false, .int .i64 0, .int .i64 0, .int .i64 0, .bool false, .int .i64 0, .int .i64 0, .int .i64 0, .bool false, .int .i64 0, .int .i64 0, .int .i64 0, .bool false, .int .i64 0, .int .i64 0, .int .i64 0, .bool false, .int .i64 0, .int .i64 0, .int .i64 0, .bool false, .int .i64 0, .int .i64 0, .int .i64 0, .bool false, .int .i64 0, .int .i64 0, .int .i64 0, .bool false, .int .i64 0, .int .i64 0, .int .i64 0, .bool false, .int .i64 0, .int .i64 0, .int .i64 0, .bool false, .int .i64 0, .int .i64 0, .int .i64 0, .int .i64 0, .nils] 53⟩,
 ⟨none, none, .store (.t 1) (.t 6) 141⟩])
 (.seq (.reg false [⟨some 7, none, .call 32 []⟩,
 ⟨some 2, none, .alloc [.bool false, .int .i64 0, .int .i64 0, .int .i64 0, .bool false, .int .i64 0, .int .i64 0, .int .i64 0, .bool false, .int .i64 0, .int .i64 0, .int .i64 0, .bool false, .int .i64 0, .int .i64 0, .int .i64 0, .bool false, .int .i64 0, .int .i64 0, .int .i64 0, .bool false, .int .i64 0, .int .i64 0, .int .i64 0, .bool false, .int .i64 0, .int .i64 0, .int .i64 0, .bool false, .int .i64 0, .int .i64 0, .int .i64 0, .bool false, .int .i64 0, .int .i64 0, .int .i64 0, .bool false, .int .i64 0, .int .i64 0, .int .i64 0, .bool false, .int .i64 0, .int .i64 0, .int .i64 0, .bool false, .int .i64 0, .int .i64 0, .int .i64 0, .bool false, .int .i64 0, .int .i64 0, .int .i64 0, .bool false, .int .i64 0, .int .i64 0, .int .i64 0, .bool false, .int .i64 0, .int .i64 0, .int .i64 0, .bool false, .int .i64 0, .int .i64 0, .int .i64 0, .int .i64 0, .int .i64 0, .int .i64 0, .int .i64 0, .int .i64 0, .int .i64 0, .int .i64 0, .int .i64 0, .int .i64 0, .int .i64 0, .int .i64 0, .bool false, .int .i64 0, .int .i64 0, .int .i64 0, .bool false, .int .i64 0, .int .i64 0, .int .i64 0, .bool false, .int .i64 0, .int .i64 0, .int .i64 0, .bool false, .int .i64 0, .int .i64 0, .int .i64 0, .bool false, .int .i64 0, .int .i64 0, .int .i64 0, .bool false, .int .i64 0, .int .i64 0, .int .i64 0, .bool false, .int .i64 0, .int .i64 0, .int .i64 0, .bool false, .int .i64 0, .int .i64 0, .int .i64 0, .bool false, .int .i64 0, .int .i64 0, .int .i64 0, .bool false, .int .i64 0, .int .i64 0, .int .i64 0, .bool false, .int .i64 0, .int .i64 0, .int .i64 0, .bool false, .int .i64 0, .int .i64 0, .int .i64 0, .bool false, .int .i64 0, .int .i64 0, .int .i64 0, .bool false, .int .i64 0, .int .i64 0, .int .i64 0, .bool false, .int .i64 0, .int .i64 0, .int .i64 0, .bool false, .int .i64 0, .int .i64 0, .int .i64 0, .int .i64 0, .nils] 53⟩,
 ⟨none, none, .store (.t 2) (.t 7) 141⟩])
 (.seq (.seq (.reg false [⟨some 8, none, .loadN (.t 2) 141⟩,
 ⟨some 9, none, .loadN (.t 1) 141⟩,
 ⟨some 10, none, .call 33 [.t 8, .t 9]⟩,
 ⟨some 11, none, .un .not (.t 10)⟩])
 (.cond (.t 11) (.seq (.reg false [⟨some 0, none, .mov (.k (.c (.bool false)))⟩])
 (.ret (some [0]))) .skip))
 (.seq (.reg false [⟨some 3, none, .mov (.k (.c (.int .i64 1)))⟩])
 (.seq (.reg false [⟨some 12, none, .loadN (.t 2) 141⟩,
 ⟨some 13, none, .mov (.t 3)⟩,
 ⟨some 14, none, .call 34 [.t 12, .t 13]⟩,
 ⟨some 3, none, .mov (.t 14)⟩])
 (.seq (.reg false [⟨some 4, none, .mov (.k (.c (.int .i64 1)))⟩])
 (.seq (.reg false [⟨some 15, none, .loadN (.t 2) 141⟩,
 ⟨some 16, none, .mov (.t 4)⟩,
 ⟨some 17, none, .call 35 [.t 15, .t 16]⟩,
 ⟨some 4, none, .mov (.t 17)⟩])
 (.seq (.seq (.reg false [⟨some 18, none, .mov (.t 4)⟩,
 ⟨some 19, none, .bin .lss (.t 18) (.k (.c (.int .i64 0)))⟩])
 (.cond (.t 19) (.seq (.reg false [⟨some 0, none, .mov (.k (.c (.bool false)))⟩])
 (.ret (some [0]))) .skip))
 (.seq (.seq (.reg false [⟨some 20, none, .mov (.t 4)⟩,
 ⟨some 21, none, .mov (.t 3)⟩,
 ⟨some 22, none, .bin .neq (.t 20) (.t 21)⟩])
 (.cond (.t 22) (.seq (.reg false [⟨some 0, none, .mov (.k (.c (.bool false)))⟩])
 (.ret (some [0]))) .skip))
 (.seq (.reg false [⟨some 23, none, .call 32 []⟩,
 ⟨some 5, none, .alloc [.bool false, .int .i64 0, .int .i64 0, .int .i64 0, .bool false, .int .i64 0, .int .i64 0, .int .i64 0, .bool false, .int .i64 0, .int .i64 0, .int .i64 0, .bool false, .int .i64 0, .int .i64 0, .int .i64 0, .bool false, .int .i64 0, .int .i64 0, .int .i64 0, .bool false, .int .i64 0, .int .i64 0, .int .i64 0, .bool false, .int .i64 0, .int .i64 0, .int .i64 0, .bool false, .int .i64 0, .int .i64 0, .int .i64 0, .bool false, .int .i64 0, .int .i64 0, .int .i64 0, .bool false, .int .i64 0, .int .i64 0, .int .i64 0, .bool false, .int .i64 0, .int .i64 0, .int .i64 0, .bool false, .int .i64 0, .int .i64 0, .int .i64 0, .bool false, .int .i64 0, .int .i64 0, .int .i64 0, .bool false, .int .i64 0, .int .i64 0, .int .i64 0, .bool false, .int .i64 0, .int .i64 0, .int .i64 0, .bool false, .int .i64 0, .int .i64 0, .int .i64 0, .int .i64 0, .int .i64 0, .int .i64 0, .int .i64 0, .int .i64 0, .int .i64 0, .int .i64 0, .int .i64 0, .int .i64 0, .int .i64 0, .int .i64 0, .bool false, .int .i64 0, .int .i64 0, .int .i64 0, .bool false, .int .i64 0, .int .i64 0, .int .i64 0, .bool false, .int .i64 0, .int .i64 0, .int .i64 0, .bool false, .int .i64 0, .int .i64 0, .int .i64 0, .bool false, .int .i64 0, .int .i64 0, .int .i64 0, .bool false, .int .i64 0, .int .i64 0, .int .i64 0, .bool false, .int .i64 0, .int .i64 0, .int .i64 0, .bool false, .int .i64 0, .int .i64 0, .int .i64 0, .bool false, .int .i64 0, .int .i64 0, .int .i64 0, .bool false, .int .i64 0, .int .i64 0, .int .i64 0, .bool false, .int .i64 0, .int .i64 0, .int .i64 0, .bool false, .int .i64 0, .int .i64 0, .int .i64 0, .bool false, .int .i64 0, .int .i64 0, .int .i64 0, .bool false, .int .i64 0, .int .i64 0, .int .i64 0, .bool false, .int .i64 0, .int .i64 0, .int .i64 0, .bool false, .int .i64 0, .int .i64 0, .int .i64 0, .int .i64 0, .nils] 53⟩,
 ⟨none, none, .store (.t 5) (.t 23) 141⟩])
 (.seq (.seq (.reg false [⟨some 24, none, .loadN (.t 5) 141⟩,
 ⟨some 25, none, .loadN (.t 1) 141⟩,
 ⟨some 26, none, .call 33 [.t 24, .t 25]⟩,
 ⟨some 27, none, .un .not (.t 26)⟩])
 (.cond (.t 27) (.seq (.reg false [⟨some 0, none, .mov (.k (.c (.bool false)))⟩])
 (.ret (some [0]))) .skip))
 (.seq (.reg false [⟨some 4, none, .mov (.k (.c (.int .i64 1)))⟩])
 (.seq (.reg false [⟨some 28, none, .loadN (.t 2) 141⟩,
 ⟨some 29, none, .mov (.t 4)⟩,
 ⟨some 30, none, .call 35 [.t 28, .t 29]⟩,
 ⟨some 4, none, .mov (.t 30)⟩])
 (.seq (.seq (.reg false [⟨some 31, none, .mov (.t 4)⟩,
 ⟨some 32, none, .bin .lss (.t 31) (.k (.c (.int .i64 0)))⟩])
 (.cond (.t 32) (.seq (.reg false [⟨some 0, none, .mov (.k (.c (.bool false)))⟩])
 (.ret (some [0]))) .skip))
 (.seq (.seq (.reg false [⟨some 33, none, .mov (.t 4)⟩,
 ⟨some 34, none, .mov (.t 3)⟩,
 ⟨some 35, none, .bin .neq (.t 33) (.t 34)⟩])
 (.cond (.t 35) (.seq (.reg false [⟨some 0, none, .mov (.k (.c (.bool false)))⟩])
 (.ret (some [0]))) .skip))
 (.seq (.reg false [⟨some 0, none, .mov (.k (.c (.bool true)))⟩])
 (.ret (some [0])))))))))))))))))))⟩
theorem c_laws_FnExactNewSpace_ok : trF Try.prog ⟨[], [0], false⟩ Try.f7 = some c_laws_FnExactNewSpace := by kernel_rfl
def c_laws_FnRings : IFn := ⟨161, [.t 2],
  (.seq (.reg false [⟨some 2, none, .mov (.k (.c (.bool false)))⟩])
 (.seq (.seq (.reg false [⟨some 18, none, .mov (.t 0)⟩,
 ⟨some 19, none, .call 36 [.t 18]⟩])
 (.cond (.t 19) (.seq (.reg false [⟨some 2, none, .mov (.k (.c (.bool true)))⟩])
 (.ret (some [2]))) .skip))
 (.seq (.reg false [⟨some 20, none, .mov (.t 0)⟩,
 ⟨some 21, none, .call 37 [.t 20]⟩,
 ⟨some 3, none, .alloc [.int .i64 0, .int .i64 0, .int .i64 0, .int .i64 0, .int .i64 0, .int .i64 0, .int .i64 0, .int .i64 0, .int .i64 0, .int .i64 0] 32⟩,
 ⟨none, none, .store (.t 3) (.t 21) 10⟩])
 (.seq (.reg false [⟨some 22, none, .loadN (.t 3) 10⟩,
 ⟨some 23, none, .call 22 [.t 22]⟩,
 ⟨some 4, none, .mov (.t 23)⟩])
 (.seq (.reg false [⟨some 25, none, .loadN (.t 3) 10⟩,
 ⟨some 26, none, .call 38 [.t 25, .k (.c (.int .i64 77))]⟩,
 ⟨some 24, none, .mov (.t 26)⟩,
 ⟨some 27, none, .ext (.t 24) 0⟩,
 ⟨some 28, none, .ext (.t 24) 1⟩,
 ⟨some 5, none, .alloc [.int .i64 0, .int .i64 0, .int .i64 0, .int .i64 0, .int .i64 0, .int .i64 0, .int .i64 0, .int .i64 0, .int .i64 0, .int .i64 0] 32⟩,
 ⟨none, none, .store (.t 5) (.t 27) 10⟩,
 ⟨some 6, none, .mov (.t 28)⟩])
 (.seq (.seq (.reg false [⟨some 29, none, .loadN (.t 3) 10⟩,
 ⟨some 30, none, .call 39 [.t 29]⟩,
 ⟨some 31, none, .un .not (.t 30)⟩,
 ⟨some 32, none, .mov (.t 31)⟩,
 ⟨some 33, some (32, false), .mov (.t 4)⟩,
 ⟨some 34, some (32, false), .len (.t 33)⟩,
 ⟨some 35, some (32, false), .fld (.t 3) 9⟩,
 ⟨some 36, some (32, false), .load1 (.t 35)⟩,
 ⟨some 37, some (32, false), .bin .neq (.t 34) (.t 36)⟩,
 ⟨some 38, none, .pick (.t 32) (.k (.c (.bool true))) (.t 37)⟩,
 ⟨some 39, none, .mov (.t 38)⟩,
 ⟨some 40, some (39, false), .mov (.t 6)⟩,
 ⟨some 41, some (39, false), .bin .eql (.t 40) (.k (.c (.int .i64 2)))⟩,
 ⟨some 42, some (39, false), .mov (.t 4)⟩,
 ⟨some 43, some (39, false), .len (.t 42)⟩,
 ⟨some 44, some (39, false), .bin .eql (.t 43) (.k (.c (.int .i64 8)))⟩,
 ⟨some 45, some (39, false), .binb true (.t 41) (.t 44)⟩,
 ⟨some 46, none, .pick (.t 39) (.k (.c (.bool true))) (.t 45)⟩])
 (.cond (.t 46) (.seq (.reg false [⟨some 2, none, .mov (.k (.c (.bool false)))⟩])
 (.ret (some [2]))) .skip))
 (.seq (.seq (.reg false [⟨some 47, none, .mov (.t 6)⟩,
 ⟨some 48, none, .bin .eql (.t 47) (.k (.c (.int .i64 0)))⟩])
 (.cond (.t 48) (.seq (.reg false [⟨some 49, none, .loadN (.t 5) 10⟩,
 ⟨some 50, none, .call 22 [.t 49]⟩,
 ⟨some 7, none, .mov (.t 50)⟩])
 (.seq (.reg false [⟨some 51, none, .mov (.t 7)⟩,
 ⟨some 52, none, .len (.t 51)⟩,
 ⟨some 53, none, .mov (.t 4)⟩,
 ⟨some 54, none, .len (.t 53)⟩,
 ⟨some 55, none, .bin .add (.t 54) (.k (.c (.int .i64 1)))⟩,
 ⟨some 56, none, .bin .neq (.t 52) (.t 55)⟩,
 ⟨some 57, none, .mov (.t 56)⟩,
 ⟨some 58, some (57, false), .mov (.t 7)⟩,
 ⟨some 59, some (57, false), .mov (.t 4)⟩,
 ⟨some 60, some (57, false), .len (.t 59)⟩,
 ⟨some 61, some (57, false), .ixs (.t 58) (.t 60) 1⟩,
 ⟨some 62, some (57, false), .load1 (.t 61)⟩,
 ⟨some 63, some (57, false), .bin .neq (.t 62) (.k (.c (.int .i64 77)))⟩,
 ⟨some 64, none, .pick (.t 57) (.k (.c (.bool true))) (.t 63)⟩,
 ⟨some 65, none, .mov (.t 64)⟩,
 ⟨some 66, some (65, false), .mov (.t 7)⟩,
 ⟨some 67, some (65, false), .mov (.t 4)⟩,
 ⟨some 68, some (65, false), .len (.t 67)⟩,
 ⟨some 69, some (65, false), .sls (.t 66) 1 none (some (.t 68))⟩,
 ⟨some 70, some (65, false), .mov (.t 4)⟩,
 ⟨some 71, some (65, false), .call 40 [.t 69, .t 70]⟩,
 ⟨some 72, some (65, false), .un .not (.t 71)⟩,
 ⟨some 73, none, .pick (.t 65) (.k (.c (.bool true))) (.t 72)⟩])
 (.cond (.t 73) (.seq (.reg false [⟨some 2, none, .mov (.k (.c (.bool false)))⟩])
 (.ret (some [2]))) .skip))) .skip))
 (.seq (.reg false [⟨some 75, none, .loadN (.t 3) 10⟩,
 ⟨some 76, none, .call 41 [.t 75]⟩,
 ⟨some 74, none, .mov (.t 76)⟩,
 ⟨some 77, none, .ext (.t 74) 0⟩,
 ⟨some 78, none, .ext (.t 74) 1⟩,
 ⟨some 79, none, .ext (.t 74) 2⟩,
 ⟨some 8, none, .alloc [.int .i64 0, .int .i64 0, .int .i64 0, .int .i64 0, .int .i64 0, .int .i64 0, .int .i64 0, .int .i64 0, .int .i64 0, .int .i64 0] 32⟩,
 ⟨none, none, .store (.t 8) (.t 77) 10⟩,
 ⟨some 9, none, .mov (.t 78)⟩,
 ⟨some 10, none, .mov (.t 79)⟩])
 (.seq (.seq (.regE 0 [⟨⟨some 80, none, .mov (.t 10)⟩, 0, 0, false, []⟩,
 ⟨⟨some 81, none, .bin .eql (.t 80) (.k (.c (.int .i64 3)))⟩, 1, 0, false, []⟩,
 ⟨⟨some 82, none, .mov (.t 4)⟩, 2, 0, false, []⟩,
 ⟨⟨some 83, none, .len (.t 82)⟩, 3, 0, false, []⟩,
 ⟨⟨some 84, none, .bin .eql (.t 83) (.k (.c (.int .i64 0)))⟩, 4, 0, false, []⟩,
 ⟨⟨some 85, none, .binb true (.t 81) (.t 84)⟩, 5, 0, false, []⟩,
 ⟨⟨some 86, none, .mov (.t 85)⟩, 6, 0, false, []⟩,
 ⟨⟨some 87, some (86, false), .mov (.t 10)⟩, 7, 0, false, []⟩,
 ⟨⟨some 88, some (86, false), .bin .eql (.t 87) (.k (.c (.int .i64 0)))⟩, 8, 0, false, []⟩,
 ⟨⟨some 89, some (86, false), .mov (.t 88)⟩, 9, 0, false, []⟩,
 ⟨⟨some 90, some (89, true), .mov (.t 9)⟩, 10, 0, false, []⟩,
 ⟨⟨some 91, some (89, true), .mov (.t 4)⟩, 11, 0, false, []⟩,
 ⟨⟨some 92, some (89, true), .ixs (.t 91) (.k (.c (.int .i64 0))) 1⟩, 12, 0, false, []⟩,
 ⟨⟨some 93, some (89, true), .load1 (.t 92)⟩, 13, 0, false, []⟩,
 ⟨⟨some 94, some (89, true), .bin .neq (.t 90) (.t 93)⟩, 14, 0, false, []⟩,
 ⟨⟨some 95, some (89, true), .mov (.t 94)⟩, 15, 0, false, []⟩,
 ⟨⟨some 96, some (95, false), .loadN (.t 8) 10⟩, 16, 0, false, []⟩,
 ⟨⟨some 97, some (95, false), .call 22 [.t 96]⟩, 17, 0, true, []⟩,
 ⟨⟨some 98, some (95, false), .mov (.t 4)⟩, 18, 0, false, []⟩,
 ⟨⟨some 99, some (95, false), .sls (.t 98) 1 (some (.k (.c (.int .i64 1)))) none⟩, 19, 0, false, [17]⟩,
 ⟨⟨some 100, some (95, false), .call 40 [.t 97, .t 99]⟩, 20, 0, false, []⟩,
 ⟨⟨some 101, some (95, false), .un .not (.t 100)⟩, 21, 0, false, []⟩,
 ⟨⟨some 102, some (89, true), .pick (.t 95) (.k (.c (.bool true))) (.t 101)⟩, 22, 0, false, []⟩,
 ⟨⟨some 103, some (86, false), .pick (.t 89) (.t 102) (.k (.c (.bool false)))⟩, 23, 0, false, []⟩,
 ⟨⟨some 104, none, .pick (.t 86) (.k (.c (.bool true))) (.t 103)⟩, 24, 0, false, []⟩])
 (.cond (.t 104) (.seq (.reg false [⟨some 2, none, .mov (.k (.c (.bool false)))⟩])
 (.ret (some [2]))) .skip))
 (.seq (.reg false [⟨some 105, none, .bld [.int .i64 0, .int .i64 0, .int .i64 0, .int .i64 0, .int .i64 0, .int .i64 0, .int .i64 0, .int .i64 0, .int .i64 0, .int .i64 0] [(8, (1, .k (.c (.int .i64 3))))]⟩,
 ⟨some 11, none, .alloc [.int .i64 0, .int .i64 0, .int .i64 0, .int .i64 0, .int .i64 0, .int .i64 0, .int .i64 0, .int .i64 0, .int .i64 0, .int .i64 0] 32⟩,
 ⟨none, none, .store (.t 11) (.t 105) 10⟩])
 (.seq (.reg false [⟨some 106, none, .mov (.t 0)⟩,
 ⟨some 107, none, .call 42 [.t 106, .k (.c (.int .i64 1))]⟩,
 ⟨some 108, none, .bin .rem (.t 107) (.k (.c (.int .i64 9)))⟩,
 ⟨some 12, none, .mov (.t 108)⟩])
 (.seq (.reg false [⟨some 110, none, .loadN (.t 3) 10⟩,
 ⟨some 111, none, .loadN (.t 11) 10⟩,
 ⟨some 112, none, .mov (.t 12)⟩,
 ⟨some 113, none, .call 29 [.t 110, .t 111, .t 112]⟩,
 ⟨some 109, none, .mov (.t 113)⟩,
 ⟨some 114, none, .ext (.t 109) 0⟩,
 ⟨some 115, none, .ext (.t 109) 1⟩,
 ⟨some 116, none, .ext (.t 109) 2⟩,
 ⟨some 13, none, .alloc [.int .i64 0, .int .i64 0, .int .i64 0, .int .i64 0, .int .i64 0, .int .i64 0, .int .i64 0, .int .i64 0, .int .i64 0, .int .i64 0] 32⟩,
 ⟨some 14, none, .alloc [.int .i64 0, .int .i64 0, .int .i64 0, .int .i64 0, .int .i64 0, .int .i64 0, .int .i64 0, .int .i64 0, .int .i64 0, .int .i64 0] 32⟩,
 ⟨none, none, .store (.t 13) (.t 114) 10⟩,
 ⟨none, none, .store (.t 14) (.t 115) 10⟩,
 ⟨some 15, none, .mov (.t 116)⟩])
 (.seq (.seq (.regE 0 [⟨⟨some 117, none, .mov (.t 15)⟩, 0, 0, false, []⟩,
 ⟨⟨some 118, none, .bin .eql (.t 117) (.k (.c (.int .i64 0)))⟩, 1, 0, false, []⟩,
 ⟨⟨some 119, none, .mov (.t 118)⟩, 2, 0, false, []⟩,
 ⟨⟨some 120, some (119, true), .loadN (.t 14) 10⟩, 3, 0, false, []⟩,
 ⟨⟨some 121, some (119, true), .call 22 [.t 120]⟩, 4, 0, true, []⟩,
 ⟨⟨some 122, some (119, true), .mov (.t 4)⟩, 5, 0, false, []⟩,
 ⟨⟨some 123, some (119, true), .mov (.t 12)⟩, 6, 0, false, []⟩,
 ⟨⟨some 124, some (119, true), .sls (.t 122) 1 none (some (.t 123))⟩, 7, 0, false, [4]⟩,
 ⟨⟨some 125, some (119, true), .call 40 [.t 121, .t 124]⟩, 8, 0, false, []⟩,
 ⟨⟨some 126, some (119, true), .un .not (.t 125)⟩, 9, 0, false, []⟩,
 ⟨⟨some 127, some (119, true), .mov (.t 126)⟩, 10, 0, false, []⟩,
 ⟨⟨some 128, some (127, false), .loadN (.t 13) 10⟩, 11, 0, false, []⟩,
 ⟨⟨some 129, some (127, false), .call 22 [.t 128]⟩, 12, 0, true, []⟩,
 ⟨⟨some 130, some (127, false), .mov (.t 4)⟩, 13, 0, false, []⟩,
 ⟨⟨some 131, some (127, false), .mov (.t 12)⟩, 14, 0, false, []⟩,
 ⟨⟨some 132, some (127, false), .sls (.t 130) 1 (some (.t 131)) none⟩, 15, 0, false, [12]⟩,
 ⟨⟨some 133, some (127, false), .call 40 [.t 129, .t 132]⟩, 16, 0, false, []⟩,
 ⟨⟨some 134, some (127, false), .un .not (.t 133)⟩, 17, 0, false, []⟩,
 ⟨⟨some 135, some (119, true), .pick (.t 127) (.k (.c (.bool true))) (.t 134)⟩, 18, 0, false, []⟩,
 ⟨⟨some 136, none, .pick (.t 119) (.t 135) (.k (.c (.bool false)))⟩, 19, 0, false, []⟩,
 ⟨⟨some 137, none, .mov (.t 136)⟩, 20, 0, false, []⟩,
 ⟨⟨some 138, some (137, false), .mov (.t 15)⟩, 21, 0, false, []⟩,
 ⟨⟨some 139, some (137, false), .bin .eql (.t 138) (.k (.c (.int .i64 3)))⟩, 22, 0, false, []⟩,
 ⟨⟨some 140, some (137, false), .mov (.t 12)⟩, 23, 0, false, []⟩,
 ⟨⟨some 141, some (137, false), .mov (.t 4)⟩, 24, 0, false, []⟩,
 ⟨⟨some 142, some (137, false), .len (.t 141)⟩, 25, 0, false, []⟩,
 ⟨⟨some 143, some (137, false), .bin .gtr (.t 140) (.t 142)⟩, 26, 0, false, []⟩,
 ⟨⟨some 144, some (137, false), .binb true (.t 139) (.t 143)⟩, 27, 0, false, []⟩,
 ⟨⟨some 145, none, .pick (.t 137) (.k (.c (.bool true))) (.t 144)⟩, 28, 0, false, []⟩])
 (.cond (.t 145) (.seq (.reg false [⟨some 2, none, .mov (.k (.c (.bool false)))⟩])
 (.ret (some [2]))) .skip))
 (.seq (.reg false [⟨some 147, none, .loadN (.t 3) 10⟩,
 ⟨some 148, none, .mov (.t 4)⟩,
 ⟨some 149, none, .len (.t 148)⟩,
 ⟨some 150, none, .call 43 [.t 147, .t 149]⟩,
 ⟨some 146, none, .mov (.t 150)⟩,
 ⟨some 151, none, .ext (.t 146) 0⟩,
 ⟨some 152, none, .ext (.t 146) 1⟩,
 ⟨some 16, none, .alloc [.int .i64 0, .int .i64 0, .int .i64 0, .int .i64 0, .int .i64 0, .int .i64 0, .int .i64 0, .int .i64 0, .int .i64 0, .int .i64 0] 32⟩,
 ⟨none, none, .store (.t 16) (.t 151) 10⟩,
 ⟨some 17, none, .mov (.t 152)⟩])
 (.seq (.reg false [⟨some 153, none, .mov (.t 17)⟩,
 ⟨some 154, none, .bin .eql (.t 153) (.k (.c (.int .i64 0)))⟩,
 ⟨some 155, none, .mov (.t 154)⟩,
 ⟨some 156, some (155, true), .loadN (.t 16) 10⟩,
 ⟨some 157, some (155, true), .call 22 [.t 156]⟩,
 ⟨some 158, some (155, true), .mov (.t 4)⟩,
 ⟨some 159, some (155, true), .call 40 [.t 157, .t 158]⟩,
 ⟨some 160, none, .pick (.t 155) (.t 159) (.k (.c (.bool false)))⟩,
 ⟨some 2, none, .mov (.t 160)⟩])
 (.ret (some [2])))))))))))))))))⟩
theorem c_laws_FnRings_ok : trF Try.prog ⟨[], [2], true⟩ Try.f8 = some c_laws_FnRings := by kernel_rfl
def c_laws_FnExactSetDrop : IFn := ⟨101, [.t 4],
  (.seq (.reg false [⟨some 4, none, .mov (.k (.c (.bool false)))⟩])
 (.seq (.reg false [⟨some 5, none, .mov (.k (.c (.int .i64 1048576)))⟩])
 (.seq (.reg false [⟨some 16, none, .mov (.t 0)⟩,
 ⟨some 17, none, .mov (.t 5)⟩,
 ⟨some 18, none, .call 15 [.t 16, .t 17]⟩,
 ⟨some 5, none, .mov (.t 18)⟩])
 (.seq (.seq (.reg false [⟨some 19, none, .mov (.t 5)⟩,
 ⟨some 20, none, .bin .lss (.t 19) (.k (.c (.int .i64 0)))⟩])
 (.cond (.t 20) (.seq (.reg false [⟨some 4, none, .mov (.k (.c (.bool true)))⟩])
 (.ret (some [4]))) .skip))
 (.seq (.reg false [⟨some 22, none, .mov (.t 0)⟩,
 ⟨some 23, none, .call 17 [.t 22]⟩,
 ⟨some 24, none, .mov (.t 1)⟩,
 ⟨some 25, none, .call 44 [.t 23, .t 24]⟩,
 ⟨some 21, none, .mov (.t 25)⟩,
 ⟨some 26, none, .ext (.t 21) 0⟩,
 ⟨some 27, none, .ext (.t 21) 1⟩,
 ⟨some 6, none, .mov (.t 26)⟩,
 ⟨some 7, none, .mov (.t 27)⟩])
 (.seq (.reg false [⟨some 28, none, .mov (.t 0)⟩,
 ⟨some 29, none, .call 17 [.t 28]⟩,
 ⟨some 8, none, .mov (.t 29)⟩])
 (.seq (.reg false [⟨some 31, none, .mov (.t 8)⟩,
 ⟨some 32, none, .mov (.t 1)⟩,
 ⟨some 33, none, .call 45 [.t 31, .t 32]⟩,
 ⟨some 30, none, .mov (.t 33)⟩,
 ⟨some 34, none, .ext (.t 30) 0⟩,
 ⟨some 35, none, .ext (.t 30) 1⟩,
 ⟨some 9, none, .mov (.t 34)⟩,
 ⟨some 10, none, .mov (.t 35)⟩])
 (.seq (.seq (.reg false [⟨some 36, none, .mov (.t 9)⟩,
 ⟨some 37, none, .mov (.t 6)⟩,
 ⟨some 38, none, .call 19 [.t 36, .t 37]⟩,
 ⟨some 39, none, .un .not (.t 38)⟩,
 ⟨some 40, none, .mov (.t 39)⟩,
 ⟨some 41, some (40, false), .mov (.t 10)⟩,
 ⟨some 42, some (40, false), .mov (.t 7)⟩,
 ⟨some 43, some (40, false), .bin .neq (.t 41) (.t 42)⟩,
 ⟨some 44, none, .pick (.t 40) (.k (.c (.bool true))) (.t 43)⟩])
 (.cond (.t 44) (.seq (.reg false [⟨some 4, none, .mov (.k (.c (.bool false)))⟩])
 (.ret (some [4]))) .skip))
 (.seq (.seq (.reg false [⟨some 45, none, .mov (.t 8)⟩,
 ⟨some 46, none, .mov (.t 0)⟩,
 ⟨some 47, none, .call 17 [.t 46]⟩,
 ⟨some 48, none, .call 19 [.t 45, .t 47]⟩,
 ⟨some 49, none, .un .not (.t 48)⟩])
 (.cond (.t 49) (.seq (.reg false [⟨some 4, none, .mov (.k (.c (.bool false)))⟩])
 (.ret (some [4]))) .skip))
 (.seq (.reg false [⟨some 11, none, .mov (.k (.c (.int .i64 1)))⟩])
 (.seq (.reg false [⟨some 50, none, .mov (.t 8)⟩,
 ⟨some 51, none, .mov (.t 11)⟩,
 ⟨some 52, none, .call 46 [.t 50, .t 51]⟩,
 ⟨some 11, none, .mov (.t 52)⟩])
 (.seq (.seq (.reg false [⟨some 53, none, .mov (.t 11)⟩,
 ⟨some 54, none, .bin .lss (.t 53) (.k (.c (.int .i64 0)))⟩,
 ⟨some 55, none, .mov (.t 54)⟩,
 ⟨some 56, some (55, false), .mov (.t 9)⟩,
 ⟨some 57, some (55, false), .mov (.t 6)⟩,
 ⟨some 58, some (55, false), .call 19 [.t 56, .t 57]⟩,
 ⟨some 59, some (55, false), .un .not (.t 58)⟩,
 ⟨some 60, none, .pick (.t 55) (.k (.c (.bool true))) (.t 59)⟩,
 ⟨some 61, none, .mov (.t 60)⟩,
 ⟨some 62, some (61, false), .mov (.t 10)⟩,
 ⟨some 63, some (61, false), .mov (.t 7)⟩,
 ⟨some 64, some (61, false), .bin .neq (.t 62) (.t 63)⟩,
 ⟨some 65, none, .pick (.t 61) (.k (.c (.bool true))) (.t 64)⟩])
 (.cond (.t 65) (.seq (.reg false [⟨some 4, none, .mov (.k (.c (.bool false)))⟩])
 (.ret (some [4]))) .skip))
 (.seq (.reg false [⟨some 12, none, .mov (.k (.c (.int .i64 1)))⟩])
 (.seq (.reg false [⟨some 66, none, .mov (.t 9)⟩,
 ⟨some 67, none, .mov (.t 12)⟩,
 ⟨some 68, none, .call 46 [.t 66, .t 67]⟩,
 ⟨some 12, none, .mov (.t 68)⟩])
 (.seq (.reg false [⟨some 13, none, .mov (.k (.c (.int .i64 1)))⟩])
 (.seq (.reg false [⟨some 69, none, .mov (.t 9)⟩,
 ⟨some 70, none, .mov (.t 13)⟩,
 ⟨some 71, none, .call 47 [.t 69, .t 70]⟩,
 ⟨some 13, none, .mov (.t 71)⟩])
 (.seq (.seq (.reg false [⟨some 72, none, .mov (.t 13)⟩,
 ⟨some 73, none, .bin .lss (.t 72) (.k (.c (.int .i64 0)))⟩])
 (.cond (.t 73) (.seq (.reg false [⟨some 4, none, .mov (.k (.c (.bool false)))⟩])
 (.ret (some [4]))) .skip))
 (.seq (.seq (.reg false [⟨some 74, none, .mov (.t 13)⟩,
 ⟨some 75, none, .mov (.t 12)⟩,
 ⟨some 76, none, .bin .neq (.t 74) (.t 75)⟩])
 (.cond (.t 76) (.seq (.reg false [⟨some 4, none, .mov (.k (.c (.bool false)))⟩])
 (.ret (some [4]))) .skip))
 (.seq (.reg false [⟨some 78, none, .mov (.t 0)⟩,
 ⟨some 79, none, .call 17 [.t 78]⟩,
 ⟨some 80, none, .mov (.t 1)⟩,
 ⟨some 81, none, .call 45 [.t 79, .t 80]⟩,
 ⟨some 77, none, .mov (.t 81)⟩,
 ⟨some 82, none, .ext (.t 77) 0⟩,
 ⟨some 83, none, .ext (.t 77) 1⟩,
 ⟨some 14, none, .mov (.t 82)⟩,
 ⟨some 15, none, .mov (.t 83)⟩])
 (.seq (.seq (.reg false [⟨some 84, none, .mov (.t 14)⟩,
 ⟨some 85, none, .mov (.t 6)⟩,
 ⟨some 86, none, .call 19 [.t 84, .t 85]⟩,
 ⟨some 87, none, .un .not (.t 86)⟩,
 ⟨some 88, none, .mov (.t 87)⟩,
 ⟨some 89, some (88, false), .mov (.t 15)⟩,
 ⟨some 90, some (88, false), .mov (.t 7)⟩,
 ⟨some 91, some (88, false), .bin .neq (.t 89) (.t 90)⟩,
 ⟨some 92, none, .pick (.t 88) (.k (.c (.bool true))) (.t 91)⟩])
 (.cond (.t 92) (.seq (.reg false [⟨some 4, none, .mov (.k (.c (.bool false)))⟩])
 (.ret (some [4]))) .skip))
 (.seq (.reg false [⟨some 13, none, .mov (.k (.c (.int .i64 1)))⟩])
 (.seq (.reg false [⟨some 93, none, .mov (.t 9)⟩,
 ⟨some 94, none, .mov (.t 13)⟩,
 ⟨some 95, none, .call 47 [.t 93, .t 94]⟩,
 ⟨some 13, none, .mov (.t 95)⟩])
 (.seq (.seq (.reg false [⟨some 96, none, .mov (.t 13)⟩,
 ⟨some 97, none, .bin .lss (.t 96) (.k (.c (.int .i64 0)))⟩])
 (.cond (.t 97) (.seq (.reg false [⟨some 4, none, .mov (.k (.c (.bool false)))⟩])
 (.ret (some [4]))) .skip))
 (.seq (.seq (.reg false [⟨some 98, none, .mov (.t 13)⟩,
 ⟨some 99, none, .mov (.t 12)⟩,
 ⟨some 100, none, .bin .neq (.t 98) (.t 99)⟩])
 (.cond (.t 100) (.seq (.reg false [⟨some 4, none, .mov (.k (.c (.bool false)))⟩])
 (.ret (some [4]))) .skip))
 (.seq (.reg false [⟨some 4, none, .mov (.k (.c (.bool true)))⟩])
 (.ret (some [4])))))))))))))))))))))))))))⟩
theorem c_laws_FnExactSetDrop_ok : trF Try.prog ⟨[], [4], false⟩ Try.f9 = some c_laws_FnExactSetDrop := by kernel_rfl
def c_laws_FnExactTreeDrop : IFn := ⟨32, [.t 4],
  (.seq (.reg false [⟨some 2, none, .box (.t 0) 72⟩,
 ⟨some 4, none, .mov (.k (.c (.bool false)))⟩])
 (.seq (.reg false [⟨some 10, none, .loadN (.t 2) 65⟩,
 ⟨some 11, none, .call 49 [.t 10]⟩,
 ⟨some 12, none, .mov (.t 1)⟩,
 ⟨some 13, none, .call 48 [.t 11, .t 12]⟩,
 ⟨some 9, none, .mov (.t 13)⟩,
 ⟨some 14, none, .ext (.t 9) 0⟩,
 ⟨some 15, none, .ext (.t 9) 1⟩,
 ⟨some 5, none, .alloc [.bool false, .int .i64 0, .int .i64 0, .int .i64 0, .bool false, .int .i64 0, .int .i64 0, .int .i64 0, .bool false, .int .i64 0, .int .i64 0, .int .i64 0, .bool false, .int .i64 0, .int .i64 0, .int .i64 0, .bool false, .int .i64 0, .int .i64 0, .int .i64 0, .bool false, .int .i64 0, .int .i64 0, .int .i64 0, .bool false, .int .i64 0, .int .i64 0, .int .i64 0, .bool false, .int .i64 0, .int .i64 0, .int .i64 0, .bool false, .int .i64 0, .int .i64 0, .int .i64 0, .bool false, .int .i64 0, .int .i64 0, .int .i64 0, .bool false, .int .i64 0, .int .i64 0, .int .i64 0, .bool false, .int .i64 0, .int .i64 0, .int .i64 0, .bool false, .int .i64 0, .int .i64 0, .int .i64 0, .bool false, .int .i64 0, .int .i64 0, .int .i64 0, .bool false, .int .i64 0, .int .i64 0, .int .i64 0, .bool false, .int .i64 0, .int .i64 0, .int .i64 0, .int .i64 0] 51⟩,
 ⟨none, none, .store (.t 5) (.t 14) 65⟩,
 ⟨some 6, none, .mov (.t 15)⟩])
 (.seq (.reg false [⟨some 17, none, .loadN (.t 2) 65⟩,
 ⟨some 18, none, .call 49 [.t 17]⟩,
 ⟨some 19, none, .mov (.t 1)⟩,
 ⟨some 20, none, .call 50 [.t 18, .t 19]⟩,
 ⟨some 16, none, .mov (.t 20)⟩,
 ⟨some 21, none, .ext (.t 16) 0⟩,
 ⟨some 22, none, .ext (.t 16) 1⟩,
 ⟨some 7, none, .alloc [.bool false, .int .i64 0, .int .i64 0, .int .i64 0, .bool false, .int .i64 0, .int .i64 0, .int .i64 0, .bool false, .int .i64 0, .int .i64 0, .int .i64 0, .bool false, .int .i64 0, .int .i64 0, .int .i64 0, .bool false, .int .i64 0, .int .i64 0, .int .i64 0, .bool false, .int .i64 0, .int .i64 0, .int .i64 0, .bool false, .int .i64 0, .int .i64 0, .int .i64 0, .bool false, .int .i64 0, .int .i64 0, .int .i64 0, .bool false, .int .i64 0, .int .i64 0, .int .i64 0, .bool false, .int .i64 0, .int .i64 0, .int .i64 0, .bool false, .int .i64 0, .int .i64 0, .int .i64 0, .bool false, .int .i64 0, .int .i64 0, .int .i64 0, .bool false, .int .i64 0, .int .i64 0, .int .i64 0, .bool false, .int .i64 0, .int .i64 0, .int .i64 0, .bool false, .int .i64 0, .int .i64 0, .int .i64 0, .bool false, .int .i64 0, .int .i64 0, .int .i64 0, .int .i64 0] 51⟩,
 ⟨none, none, .store (.t 7) (.t 21) 65⟩,
 ⟨some 8, none, .mov (.t 22)⟩])
 (.seq (.seq (.reg false [⟨some 23, none, .loadN (.t 7) 65⟩,
 ⟨some 24, none, .loadN (.t 5) 65⟩,
 ⟨some 25, none, .call 51 [.t 23, .t 24]⟩,
 ⟨some 26, none, .un .not (.t 25)⟩,
 ⟨some 27, none, .mov (.t 26)⟩,
 ⟨some 28, some (27, false), .mov (.t 8)⟩,
 ⟨some 29, some (27, false), .mov (.t 6)⟩,
 ⟨some 30, some (27, false), .bin .neq (.t 28) (.t 29)⟩,
 ⟨some 31, none, .pick (.t 27) (.k (.c (.bool true))) (.t 30)⟩])
 (.cond (.t 31) (.seq (.reg false [⟨some 4, none, .mov (.k (.c (.bool false)))⟩])
 (.ret (some [4]))) .skip))
 (.seq (.reg false [⟨some 4, none, .mov (.k (.c (.bool true)))⟩])
 (.ret (some [4])))))))⟩
theorem c_laws_FnExactTreeDrop_ok : trF Try.prog ⟨[], [4], false⟩ Try.f10 = some c_laws_FnExactTreeDrop := by kernel_rfl
def c_laws_FnExactSetSame : IFn := ⟨45, [.t 4],
  (.seq (.reg false [⟨some 4, none, .mov (.k (.c (.bool false)))⟩])
 (.seq (.reg false [⟨some 5, none, .mov (.k (.c (.int .i64 1048576)))⟩])
 (.seq (.reg false [⟨some 10, none, .mov (.t 0)⟩,
 ⟨some 11, none, .mov (.t 5)⟩,
 ⟨some 12, none, .call 15 [.t 10, .t 11]⟩,
 ⟨some 5, none, .mov (.t 12)⟩])
 (.seq (.seq (.reg false [⟨some 13, none, .mov (.t 5)⟩,
 ⟨some 14, none, .bin .lss (.t 13) (.k (.c (.int .i64 0)))⟩])
 (.cond (.t 14) (.seq (.reg false [⟨some 4, none, .mov (.k (.c (.bool true)))⟩])
 (.ret (some [4]))) .skip))
 (.seq (.reg false [⟨some 15, none, .mov (.t 1)⟩,
 ⟨some 16, none, .mov (.t 5)⟩,
 ⟨some 17, none, .call 15 [.t 15, .t 16]⟩,
 ⟨some 5, none, .mov (.t 17)⟩])
 (.seq (.seq (.reg false [⟨some 18, none, .mov (.t 5)⟩,
 ⟨some 19, none, .bin .lss (.t 18) (.k (.c (.int .i64 0)))⟩])
 (.cond (.t 19) (.seq (.reg false [⟨some 4, none, .mov (.k (.c (.bool true)))⟩])
 (.ret (some [4]))) .skip))
 (.seq (.reg false [⟨some 20, none, .mov (.t 0)⟩,
 ⟨some 21, none, .call 17 [.t 20]⟩,
 ⟨some 22, none, .mov (.t 1)⟩,
 ⟨some 23, none, .call 17 [.t 22]⟩,
 ⟨some 24, none, .call 52 [.t 21, .t 23]⟩,
 ⟨some 6, none, .mov (.t 24)⟩])
 (.seq (.reg false [⟨some 25, none, .mov (.t 0)⟩,
 ⟨some 26, none, .call 17 [.t 25]⟩,
 ⟨some 7, none, .mov (.t 26)⟩])
 (.seq (.reg false [⟨some 27, none, .mov (.t 1)⟩,
 ⟨some 28, none, .call 17 [.t 27]⟩,
 ⟨some 8, none, .mov (.t 28)⟩])
 (.seq (.reg false [⟨some 29, none, .mov (.t 7)⟩,
 ⟨some 30, none, .mov (.t 8)⟩,
 ⟨some 31, none, .call 53 [.t 29, .t 30]⟩,
 ⟨some 9, none, .mov (.t 31)⟩])
 (.seq (.seq (.reg false [⟨some 32, none, .mov (.t 9)⟩,
 ⟨some 33, none, .mov (.t 6)⟩,
 ⟨some 34, none, .binb true (.t 32) (.t 33)⟩])
 (.cond (.t 34) (.seq (.reg false [⟨some 4, none, .mov (.k (.c (.bool false)))⟩])
 (.ret (some [4]))) .skip))
 (.seq (.seq (.reg false [⟨some 35, none, .mov (.t 7)⟩,
 ⟨some 36, none, .mov (.t 0)⟩,
 ⟨some 37, none, .call 17 [.t 36]⟩,
 ⟨some 38, none, .call 19 [.t 35, .t 37]⟩,
 ⟨some 39, none, .un .not (.t 38)⟩])
 (.cond (.t 39) (.seq (.reg false [⟨some 4, none, .mov (.k (.c (.bool false)))⟩])
 (.ret (some [4]))) .skip))
 (.seq (.seq (.reg false [⟨some 40, none, .mov (.t 8)⟩,
 ⟨some 41, none, .mov (.t 1)⟩,
 ⟨some 42, none, .call 17 [.t 41]⟩,
 ⟨some 43, none, .call 19 [.t 40, .t 42]⟩,
 ⟨some 44, none, .un .not (.t 43)⟩])
 (.cond (.t 44) (.seq (.reg false [⟨some 4, none, .mov (.k (.c (.bool false)))⟩])
 (.ret (some [4]))) .skip))
 (.seq (.reg false [⟨some 4, none, .mov (.k (.c (.bool true)))⟩])
 (.ret (some [4]))))))))))))))))⟩
theorem c_laws_FnExactSetSame_ok : trF Try.prog ⟨[], [4], false⟩ Try.f11 = some c_laws_FnExactSetSame := by kernel_rfl
def c_laws_FnExactSetList : IFn := ⟨69, [.t 2],
  (.seq (.reg false [⟨some 2, none, .mov (.k (.c (.bool false)))⟩])
 (.seq (.reg false [⟨some 3, none, .mov (.k (.c (.int .i64 1048576)))⟩])
 (.seq (.reg false [⟨some 11, none, .mov (.t 0)⟩,
 ⟨some 12, none, .mov (.t 3)⟩,
 ⟨some 13, none, .call 15 [.t 11, .t 12]⟩,
 ⟨some 3, none, .mov (.t 13)⟩])
 (.seq (.seq (.reg false [⟨some 14, none, .mov (.t 3)⟩,
 ⟨some 15, none, .bin .lss (.t 14) (.k (.c (.int .i64 0)))⟩])
 (.cond (.t 15) (.seq (.reg false [⟨some 2, none, .mov (.k (.c (.bool true)))⟩])
 (.ret (some [2]))) .skip))
 (.seq (.reg false [⟨some 16, none, .mov (.t 0)⟩,
 ⟨some 17, none, .call 17 [.t 16]⟩,
 ⟨some 18, none, .call 54 [.t 17]⟩,
 ⟨some 4, none, .mov (.t 18)⟩])
 (.seq (.reg false [⟨some 19, none, .mov (.t 0)⟩,
 ⟨some 20, none, .call 17 [.t 19]⟩,
 ⟨some 5, none, .mov (.t 20)⟩])
 (.seq (.reg false [⟨some 21, none, .mov (.t 5)⟩,
 ⟨some 22, none, .call 55 [.t 21]⟩,
 ⟨some 6, none, .mov (.t 22)⟩])
 (.seq (.seq (.reg false [⟨some 23, none, .mov (.t 6)⟩,
 ⟨some 24, none, .mov (.t 4)⟩,
 ⟨some 25, none, .call 23 [.t 23, .t 24]⟩,
 ⟨some 26, none, .un .not (.t 25)⟩])
 (.cond (.t 26) (.seq (.reg false [⟨some 2, none, .mov (.k (.c (.bool false)))⟩])
 (.ret (some [2]))) .skip))
 (.seq (.seq (.reg false [⟨some 27, none, .mov (.t 5)⟩,
 ⟨some 28, none, .mov (.t 0)⟩,
 ⟨some 29, none, .call 17 [.t 28]⟩,
 ⟨some 30, none, .call 19 [.t 27, .t 29]⟩,
 ⟨some 31, none, .un .not (.t 30)⟩])
 (.cond (.t 31) (.seq (.reg false [⟨some 2, none, .mov (.k (.c (.bool false)))⟩])
 (.ret (some [2]))) .skip))
 (.seq (.reg false [⟨some 7, none, .mov (.k (.c (.int .i64 1)))⟩])
 (.seq (.reg false [⟨some 32, none, .mov (.t 5)⟩,
 ⟨some 33, none, .mov (.t 7)⟩,
 ⟨some 34, none, .call 46 [.t 32, .t 33]⟩,
 ⟨some 7, none, .mov (.t 34)⟩])
 (.seq (.seq (.reg false [⟨some 35, none, .mov (.t 7)⟩,
 ⟨some 36, none, .bin .lss (.t 35) (.k (.c (.int .i64 0)))⟩,
 ⟨some 37, none, .mov (.t 36)⟩,
 ⟨some 38, some (37, false), .mov (.t 6)⟩,
 ⟨some 39, some (37, false), .mov (.t 4)⟩,
 ⟨some 40, some (37, false), .call 23 [.t 38, .t 39]⟩,
 ⟨some 41, some (37, false), .un .not (.t 40)⟩,
 ⟨some 42, none, .pick (.t 37) (.k (.c (.bool true))) (.t 41)⟩])
 (.cond (.t 42) (.seq (.reg false [⟨some 2, none, .mov (.k (.c (.bool false)))⟩])
 (.ret (some [2]))) .skip))
 (.seq (.reg false [⟨some 8, none, .mov (.k (.c (.int .i64 1)))⟩])
 (.seq (.reg false [⟨some 43, none, .mov (.t 6)⟩,
 ⟨some 44, none, .mov (.t 8)⟩,
 ⟨some 45, none, .call 24 [.t 43, .t 44]⟩,
 ⟨some 8, none, .mov (.t 45)⟩])
 (.seq (.reg false [⟨some 9, none, .mov (.k (.c (.int .i64 1)))⟩])
 (.seq (.reg false [⟨some 46, none, .mov (.t 6)⟩,
 ⟨some 47, none, .mov (.t 9)⟩,
 ⟨some 48, none, .call 25 [.t 46, .t 47]⟩,
 ⟨some 9, none, .mov (.t 48)⟩])
 (.seq (.seq (.reg false [⟨some 49, none, .mov (.t 9)⟩,
 ⟨some 50, none, .bin .lss (.t 49) (.k (.c (.int .i64 0)))⟩])
 (.cond (.t 50) (.seq (.reg false [⟨some 2, none, .mov (.k (.c (.bool false)))⟩])
 (.ret (some [2]))) .skip))
 (.seq (.seq (.reg false [⟨some 51, none, .mov (.t 9)⟩,
 ⟨some 52, none, .mov (.t 8)⟩,
 ⟨some 53, none, .bin .neq (.t 51) (.t 52)⟩])
 (.cond (.t 53) (.seq (.reg false [⟨some 2, none, .mov (.k (.c (.bool false)))⟩])
 (.ret (some [2]))) .skip))
 (.seq (.reg false [⟨some 54, none, .mov (.t 0)⟩,
 ⟨some 55, none, .call 17 [.t 54]⟩,
 ⟨some 56, none, .call 55 [.t 55]⟩,
 ⟨some 10, none, .mov (.t 56)⟩])
 (.seq (.seq (.reg false [⟨some 57, none, .mov (.t 10)⟩,
 ⟨some 58, none, .mov (.t 4)⟩,
 ⟨some 59, none, .call 23 [.t 57, .t 58]⟩,
 ⟨some 60, none, .un .not (.t 59)⟩])
 (.cond (.t 60) (.seq (.reg false [⟨some 2, none, .mov (.k (.c (.bool false)))⟩])
 (.ret (some [2]))) .skip))
 (.seq (.reg false [⟨some 9, none, .mov (.k (.c (.int .i64 1)))⟩])
 (.seq (.reg false [⟨some 61, none, .mov (.t 6)⟩,
 ⟨some 62, none, .mov (.t 9)⟩,
 ⟨some 63, none, .call 25 [.t 61, .t 62]⟩,
 ⟨some 9, none, .mov (.t 63)⟩])
 (.seq (.seq (.reg false [⟨some 64, none, .mov (.t 9)⟩,
 ⟨some 65, none, .bin .lss (.t 64) (.k (.c (.int .i64 0)))⟩])
 (.cond (.t 65) (.seq (.reg false [⟨some 2, none, .mov (.k (.c (.bool false)))⟩])
 (.ret (some [2]))) .skip))
 (.seq (.seq (.reg false [⟨some 66, none, .mov (.t 9)⟩,
 ⟨some 67, none, .mov (.t 8)⟩,
 ⟨some 68, none, .bin .neq (.t 66) (.t 67)⟩])
 (.cond (.t 68) (.seq (.reg false [⟨some 2, none, .mov (.k (.c (.bool false)))⟩])
 (.ret (some [2]))) .skip))
 (.seq (.reg false [⟨some 2, none, .mov (.k (.c (.bool true)))⟩])
 (.ret (some [2])))))))))))))))))))))))))))⟩
theorem c_laws_FnExactSetList_ok : trF Try.prog ⟨[], [2], false⟩ Try.f12 = some c_laws_FnExactSetList := by kernel_rfl
def c_laws_FnExactSetAdd : IFn := ⟨101, [.t 4],
  (.seq (.reg false [⟨some 4, none, .mov (.k (.c (.bool false)))⟩])
 (.seq (.reg false [⟨some 5, none, .mov (.k (.c (.int .i64 1048576)))⟩])
 (.seq (.reg false [⟨some 16, none, .mov (.t 0)⟩,
 ⟨some 17, none, .mov (.t 5)⟩,
 ⟨some 18, none, .call 15 [.t 16, .t 17]⟩,
 ⟨some 5, none, .mov (.t 18)⟩])
 (.seq (.seq (.reg false [⟨some 19, none, .mov (.t 5)⟩,
 ⟨some 20, none, .bin .lss (.t 19) (.k (.c (.int .i64 0)))⟩])
 (.cond (.t 20) (.seq (.reg false [⟨some 4, none, .mov (.k (.c (.bool true)))⟩])
 (.ret (some [4]))) .skip))
 (.seq (.reg false [⟨some 22, none, .mov (.t 0)⟩,
 ⟨some 23, none, .call 17 [.t 22]⟩,
 ⟨some 24, none, .mov (.t 1)⟩,
 ⟨some 25, none, .call 56 [.t 23, .t 24]⟩,
 ⟨some 21, none, .mov (.t 25)⟩,
 ⟨some 26, none, .ext (.t 21) 0⟩,
 ⟨some 27, none, .ext (.t 21) 1⟩,
 ⟨some 6, none, .mov (.t 26)⟩,
 ⟨some 7, none, .mov (.t 27)⟩])
 (.seq (.reg false [⟨some 28, none, .mov (.t 0)⟩,
 ⟨some 29, none, .call 17 [.t 28]⟩,
 ⟨some 8, none, .mov (.t 29)⟩])
 (.seq (.reg false [⟨some 31, none, .mov (.t 8)⟩,
 ⟨some 32, none, .mov (.t 1)⟩,
 ⟨some 33, none, .call 57 [.t 31, .t 32]⟩,
 ⟨some 30, none, .mov (.t 33)⟩,
 ⟨some 34, none, .ext (.t 30) 0⟩,
 ⟨some 35, none, .ext (.t 30) 1⟩,
 ⟨some 9, none, .mov (.t 34)⟩,
 ⟨some 10, none, .mov (.t 35)⟩])
 (.seq (.seq (.reg false [⟨some 36, none, .mov (.t 9)⟩,
 ⟨some 37, none, .mov (.t 6)⟩,
 ⟨some 38, none, .call 19 [.t 36, .t 37]⟩,
 ⟨some 39, none, .un .not (.t 38)⟩,
 ⟨some 40, none, .mov (.t 39)⟩,
 ⟨some 41, some (40, false), .mov (.t 10)⟩,
 ⟨some 42, some (40, false), .mov (.t 7)⟩,
 ⟨some 43, some (40, false), .bin .neq (.t 41) (.t 42)⟩,
 ⟨some 44, none, .pick (.t 40) (.k (.c (.bool true))) (.t 43)⟩])
 (.cond (.t 44) (.seq (.reg false [⟨some 4, none, .mov (.k (.c (.bool false)))⟩])
 (.ret (some [4]))) .skip))
 (.seq (.seq (.reg false [⟨some 45, none, .mov (.t 8)⟩,
 ⟨some 46, none, .mov (.t 0)⟩,
 ⟨some 47, none, .call 17 [.t 46]⟩,
 ⟨some 48, none, .call 19 [.t 45, .t 47]⟩,
 ⟨some 49, none, .un .not (.t 48)⟩])
 (.cond (.t 49) (.seq (.reg false [⟨some 4, none, .mov (.k (.c (.bool false)))⟩])
 (.ret (some [4]))) .skip))
 (.seq (.reg false [⟨some 11, none, .mov (.k (.c (.int .i64 1)))⟩])
 (.seq (.reg false [⟨some 50, none, .mov (.t 8)⟩,
 ⟨some 51, none, .mov (.t 11)⟩,
 ⟨some 52, none, .call 46 [.t 50, .t 51]⟩,
 ⟨some 11, none, .mov (.t 52)⟩])
 (.seq (.seq (.reg false [⟨some 53, none, .mov (.t 11)⟩,
 ⟨some 54, none, .bin .lss (.t 53) (.k (.c (.int .i64 0)))⟩,
 ⟨some 55, none, .mov (.t 54)⟩,
 ⟨some 56, some (55, false), .mov (.t 9)⟩,
 ⟨some 57, some (55, false), .mov (.t 6)⟩,
 ⟨some 58, some (55, false), .call 19 [.t 56, .t 57]⟩,
 ⟨some 59, some (55, false), .un .not (.t 58)⟩,
 ⟨some 60, none, .pick (.t 55) (.k (.c (.bool true))) (.t 59)⟩,
 ⟨some 61, none, .mov (.t 60)⟩,
 ⟨some 62, some (61, false), .mov (.t 10)⟩,
 ⟨some 63, some (61, false), .mov (.t 7)⟩,
 ⟨some 64, some (61, false), .bin .neq (.t 62) (.t 63)⟩,
 ⟨some 65, none, .pick (.t 61) (.k (.c (.bool true))) (.t 64)⟩])
 (.cond (.t 65) (.seq (.reg false [⟨some 4, none, .mov (.k (.c (.bool false)))⟩])
 (.ret (some [4]))) .skip))
 (.seq (.reg false [⟨some 12, none, .mov (.k (.c (.int .i64 1)))⟩])
 (.seq (.reg false [⟨some 66, none, .mov (.t 9)⟩,
 ⟨some 67, none, .mov (.t 12)⟩,
 ⟨some 68, none, .call 46 [.t 66, .t 67]⟩,
 ⟨some 12, none, .mov (.t 68)⟩])
 (.seq (.reg false [⟨some 13, none, .mov (.k (.c (.int .i64 1)))⟩])
 (.seq (.reg false [⟨some 69, none, .mov (.t 9)⟩,
 ⟨some 70, none, .mov (.t 13)⟩,
 ⟨some 71, none, .call 47 [.t 69, .t 70]⟩,
 ⟨some 13, none, .mov (.t 71)⟩])
 (.seq (.seq (.reg false [⟨some 72, none, .mov (.t 13)⟩,
 ⟨some 73, none, .bin .lss (.t 72) (.k (.c (.int .i64 0)))⟩])
 (.cond (.t 73) (.seq (.reg false [⟨some 4, none, .mov (.k (.c (.bool false)))⟩])
 (.ret (some [4]))) .skip))
 (.seq (.seq (.reg false [⟨some 74, none, .mov (.t 13)⟩,
 ⟨some 75, none, .mov (.t 12)⟩,
 ⟨some 76, none, .bin .neq (.t 74) (.t 75)⟩])
 (.cond (.t 76) (.seq (.reg false [⟨some 4, none, .mov (.k (.c (.bool false)))⟩])
 (.ret (some [4]))) .skip))
 (.seq (.reg false [⟨some 78, none, .mov (.t 0)⟩,
 ⟨some 79, none, .call 17 [.t 78]⟩,
 ⟨some 80, none, .mov (.t 1)⟩,
 ⟨some 81, none, .call 57 [.t 79, .t 80]⟩,
 ⟨some 77, none, .mov (.t 81)⟩,
 ⟨some 82, none, .ext (.t 77) 0⟩,
 ⟨some 83, none, .ext (.t 77) 1⟩,
 ⟨some 14, none, .mov (.t 82)⟩,
 ⟨some 15, none, .mov (.t 83)⟩])
 (.seq (.seq (.reg false [⟨some 84, none, .mov (.t 14)⟩,
 ⟨some 85, none, .mov (.t 6)⟩,
 ⟨some 86, none, .call 19 [.t 84, .t 85]⟩,
 ⟨some 87, none, .un .not (.t 86)⟩,
 ⟨some 88, none, .mov (.t 87)⟩,
 ⟨some 89, some (88, false), .mov (.t 15)⟩,
 ⟨some 90, some (88, false), .mov (.t 7)⟩,
 ⟨some 91, some (88, false), .bin .neq (.t 89) (.t 90)⟩,
 ⟨some 92, none, .pick (.t 88) (.k (.c (.bool true))) (.t 91)⟩])
 (.cond (.t 92) (.seq (.reg false [⟨some 4, none, .mov (.k (.c (.bool false)))⟩])
 (.ret (some [4]))) .skip))
 (.seq (.reg false [⟨some 13, none, .mov (.k (.c (.int .i64 1)))⟩])
 (.seq (.reg false [⟨some 93, none, .mov (.t 9)⟩,
 ⟨some 94, none, .mov (.t 13)⟩,
 ⟨some 95, none, .call 47 [.t 93, .t 94]⟩,
 ⟨some 13, none, .mov (.t 95)⟩])
 (.seq (.seq (.reg false [⟨some 96, none, .mov (.t 13)⟩,
 ⟨some 97, none, .bin .lss (.t 96) (.k (.c (.int .i64 0)))⟩])
 (.cond (.t 97) (.seq (.reg false [⟨some 4, none, .mov (.k (.c (.bool false)))⟩])
 (.ret (some [4]))) .skip))
 (.seq (.seq (.reg false [⟨some 98, none, .mov (.t 13)⟩,
 ⟨some 99, none, .mov (.t 12)⟩,
 ⟨some 100, none, .bin .neq (.t 98) (.t 99)⟩])
 (.cond (.t 100) (.seq (.reg false [⟨some 4, none, .mov (.k (.c (.bool false)))⟩])
 (.ret (some [4]))) .skip))
 (.seq (.reg false [⟨some 4, none, .mov (.k (.c (.bool true)))⟩])
 (.ret (some [4])))))))))))))))))))))))))))⟩
theorem c_laws_FnExactSetAdd_ok : trF Try.prog ⟨[], [4], false⟩ Try.f13 = some c_laws_FnExactSetAdd := by kernel_rfl
def c_laws_FnExactSetJoin : IFn := ⟨119, [.t 4],
  (.seq (.reg false [⟨some 4, none, .mov (.k (.c (.bool false)))⟩])
 (.seq (.reg false [⟨some 5, none, .mov (.k (.c (.int .i64 1048576)))⟩])
 (.seq (.reg false [⟨some 17, none, .mov (.t 0)⟩,
 ⟨some 18, none, .mov (.t 5)⟩,
 ⟨some 19, none, .call 15 [.t 17, .t 18]⟩,
 ⟨some 5, none, .mov (.t 19)⟩])
 (.seq (.seq (.reg false [⟨some 20, none, .mov (.t 5)⟩,
 ⟨some 21, none, .bin .lss (.t 20) (.k (.c (.int .i64 0)))⟩])
 (.cond (.t 21) (.seq (.reg false [⟨some 4, none, .mov (.k (.c (.bool true)))⟩])
 (.ret (some [4]))) .skip))
 (.seq (.reg false [⟨some 22, none, .mov (.t 1)⟩,
 ⟨some 23, none, .mov (.t 5)⟩,
 ⟨some 24, none, .call 15 [.t 22, .t 23]⟩,
 ⟨some 5, none, .mov (.t 24)⟩])
 (.seq (.seq (.reg false [⟨some 25, none, .mov (.t 5)⟩,
 ⟨some 26, none, .bin .lss (.t 25) (.k (.c (.int .i64 0)))⟩])
 (.cond (.t 26) (.seq (.reg false [⟨some 4, none, .mov (.k (.c (.bool true)))⟩])
 (.ret (some [4]))) .skip))
 (.seq (.reg false [⟨some 28, none, .mov (.t 0)⟩,
 ⟨some 29, none, .call 17 [.t 28]⟩,
 ⟨some 30, none, .mov (.t 1)⟩,
 ⟨some 31, none, .call 17 [.t 30]⟩,
 ⟨some 32, none, .call 58 [.t 29, .t 31]⟩,
 ⟨some 27, none, .mov (.t 32)⟩,
 ⟨some 33, none, .ext (.t 27) 0⟩,
 ⟨some 34, none, .ext (.t 27) 1⟩,
 ⟨some 6, none, .mov (.t 33)⟩,
 ⟨some 7, none, .mov (.t 34)⟩])
 (.seq (.reg false [⟨some 35, none, .mov (.t 0)⟩,
 ⟨some 36, none, .call 17 [.t 35]⟩,
 ⟨some 8, none, .mov (.t 36)⟩])
 (.seq (.reg false [⟨some 37, none, .mov (.t 1)⟩,
 ⟨some 38, none, .call 17 [.t 37]⟩,
 ⟨some 9, none, .mov (.t 38)⟩])
 (.seq (.reg false [⟨some 40, none, .mov (.t 8)⟩,
 ⟨some 41, none, .mov (.t 9)⟩,
 ⟨some 42, none, .call 59 [.t 40, .t 41]⟩,
 ⟨some 39, none, .mov (.t 42)⟩,
 ⟨some 43, none, .ext (.t 39) 0⟩,
 ⟨some 44, none, .ext (.t 39) 1⟩,
 ⟨some 10, none, .mov (.t 43)⟩,
 ⟨some 11, none, .mov (.t 44)⟩])
 (.seq (.seq (.reg false [⟨some 45, none, .mov (.t 10)⟩,
 ⟨some 46, none, .mov (.t 6)⟩,
 ⟨some 47, none, .call 19 [.t 45, .t 46]⟩,
 ⟨some 48, none, .un .not (.t 47)⟩,
 ⟨some 49, none, .mov (.t 48)⟩,
 ⟨some 50, some (49, false), .mov (.t 11)⟩,
 ⟨some 51, some (49, false), .mov (.t 7)⟩,
 ⟨some 52, some (49, false), .bin .neq (.t 50) (.t 51)⟩,
 ⟨some 53, none, .pick (.t 49) (.k (.c (.bool true))) (.t 52)⟩])
 (.cond (.t 53) (.seq (.reg false [⟨some 4, none, .mov (.k (.c (.bool false)))⟩])
 (.ret (some [4]))) .skip))
 (.seq (.seq (.reg false [⟨some 54, none, .mov (.t 8)⟩,
 ⟨some 55, none, .mov (.t 0)⟩,
 ⟨some 56, none, .call 17 [.t 55]⟩,
 ⟨some 57, none, .call 19 [.t 54, .t 56]⟩,
 ⟨some 58, none, .un .not (.t 57)⟩])
 (.cond (.t 58) (.seq (.reg false [⟨some 4, none, .mov (.k (.c (.bool false)))⟩])
 (.ret (some [4]))) .skip))
 (.seq (.seq (.reg false [⟨some 59, none, .mov (.t 9)⟩,
 ⟨some 60, none, .mov (.t 1)⟩,
 ⟨some 61, none, .call 17 [.t 60]⟩,
 ⟨some 62, none, .call 19 [.t 59, .t 61]⟩,
 ⟨some 63, none, .un .not (.t 62)⟩])
 (.cond (.t 63) (.seq (.reg false [⟨some 4, none, .mov (.k (.c (.bool false)))⟩])
 (.ret (some [4]))) .skip))
 (.seq (.reg false [⟨some 12, none, .mov (.k (.c (.int .i64 1)))⟩])
 (.seq (.reg false [⟨some 64, none, .mov (.t 8)⟩,
 ⟨some 65, none, .mov (.t 12)⟩,
 ⟨some 66, none, .call 46 [.t 64, .t 65]⟩,
 ⟨some 12, none, .mov (.t 66)⟩])
 (.seq (.reg false [⟨some 67, none, .mov (.t 9)⟩,
 ⟨some 68, none, .mov (.t 12)⟩,
 ⟨some 69, none, .call 46 [.t 67, .t 68]⟩,
 ⟨some 12, none, .mov (.t 69)⟩])
 (.seq (.seq (.reg false [⟨some 70, none, .mov (.t 12)⟩,
 ⟨some 71, none, .bin .lss (.t 70) (.k (.c (.int .i64 0)))⟩,
 ⟨some 72, none, .mov (.t 71)⟩,
 ⟨some 73, some (72, false), .mov (.t 10)⟩,
 ⟨some 74, some (72, false), .mov (.t 6)⟩,
 ⟨some 75, some (72, false), .call 19 [.t 73, .t 74]⟩,
 ⟨some 76, some (72, false), .un .not (.t 75)⟩,
 ⟨some 77, none, .pick (.t 72) (.k (.c (.bool true))) (.t 76)⟩,
 ⟨some 78, none, .mov (.t 77)⟩,
 ⟨some 79, some (78, false), .mov (.t 11)⟩,
 ⟨some 80, some (78, false), .mov (.t 7)⟩,
 ⟨some 81, some (78, false), .bin .neq (.t 79) (.t 80)⟩,
 ⟨some 82, none, .pick (.t 78) (.k (.c (.bool true))) (.t 81)⟩])
 (.cond (.t 82) (.seq (.reg false [⟨some 4, none, .mov (.k (.c (.bool false)))⟩])
 (.ret (some [4]))) .skip))
 (.seq (.reg false [⟨some 13, none, .mov (.k (.c (.int .i64 1)))⟩])
 (.seq (.reg false [⟨some 83, none, .mov (.t 10)⟩,
 ⟨some 84, none, .mov (.t 13)⟩,
 ⟨some 85, none, .call 46 [.t 83, .t 84]⟩,
 ⟨some 13, none, .mov (.t 85)⟩])
 (.seq (.reg false [⟨some 14, none, .mov (.k (.c (.int .i64 1)))⟩])
 (.seq (.reg false [⟨some 86, none, .mov (.t 10)⟩,
 ⟨some 87, none, .mov (.t 14)⟩,
 ⟨some 88, none, .call 47 [.t 86, .t 87]⟩,
 ⟨some 14, none, .mov (.t 88)⟩])
 (.seq (.seq (.reg false [⟨some 89, none, .mov (.t 14)⟩,
 ⟨some 90, none, .bin .lss (.t 89) (.k (.c (.int .i64 0)))⟩])
 (.cond (.t 90) (.seq (.reg false [⟨some 4, none, .mov (.k (.c (.bool false)))⟩])
 (.ret (some [4]))) .skip))
 (.seq (.seq (.reg false [⟨some 91, none, .mov (.t 14)⟩,
 ⟨some 92, none, .mov (.t 13)⟩,
 ⟨some 93, none, .bin .neq (.t 91) (.t 92)⟩])
 (.cond (.t 93) (.seq (.reg false [⟨some 4, none, .mov (.k (.c (.bool false)))⟩])
 (.ret (some [4]))) .skip))
 (.seq (.reg false [⟨some 95, none, .mov (.t 0)⟩,
 ⟨some 96, none, .call 17 [.t 95]⟩,
 ⟨some 97, none, .mov (.t 1)⟩,
 ⟨some 98, none, .call 17 [.t 97]⟩,
 ⟨some 99, none, .call 59 [.t 96, .t 98]⟩,
 ⟨some 94, none, .mov (.t 99)⟩,
 ⟨some 100, none, .ext (.t 94) 0⟩,
 ⟨some 101, none, .ext (.t 94) 1⟩,
 ⟨some 15, none, .mov (.t 100)⟩,
 ⟨some 16, none, .mov (.t 101)⟩])
 (.seq (.seq (.reg false [⟨some 102, none, .mov (.t 15)⟩,
 ⟨some 103, none, .mov (.t 6)⟩,
 ⟨some 104, none, .call 19 [.t 102, .t 103]⟩,
 ⟨some 105, none, .un .not (.t 104)⟩,
 ⟨some 106, none, .mov (.t 105)⟩,
 ⟨some 107, some (106, false), .mov (.t 16)⟩,
 ⟨some 108, some (106, false), .mov (.t 7)⟩,
 ⟨some 109, some (106, false), .bin .neq (.t 107) (.t 108)⟩,
 ⟨some 110, none, .pick (.t 106) (.k (.c (.bool true))) (.t 109)⟩])
 (.cond (.t 110) (.seq (.reg false [⟨some 4, none, .mov (.k (.c (.bool false)))⟩])
 (.ret (some [4]))) .skip))
 (.seq (.reg false [⟨some 14, none, .mov (.k (.c (.int .i64 1)))⟩])
 (.seq (.reg false [⟨some 111, none, .mov (.t 10)⟩,
 ⟨some 112, none, .mov (.t 14)⟩,
 ⟨some 113, none, .call 47 [.t 111, .t 112]⟩,
 ⟨some 14, none, .mov (.t 113)⟩])
 (.seq (.seq (.reg false [⟨some 114, none, .mov (.t 14)⟩,
 ⟨some 115, none, .bin .lss (.t 114) (.k (.c (.int .i64 0)))⟩])
 (.cond (.t 115) (.seq (.reg false [⟨some 4, none, .mov (.k (.c (.bool false)))⟩])
 (.ret (some [4]))) .skip))
 (.seq (.seq (.reg false [⟨some 116, none, .mov (.t 14)⟩,
 ⟨some 117, none, .mov (.t 13)⟩,
 ⟨some 118, none, .bin .neq (.t 116) (.t 117)⟩])
 (.cond (.t 118) (.seq (.reg false [⟨some 4, none, .mov (.k (.c (.bool false)))⟩])
 (.ret (some [4]))) .skip))
 (.seq (.reg false [⟨some 4, none, .mov (.k (.c (.bool true)))⟩])
 (.ret (some [4]))))))))))))))))))))))))))))))))⟩
theorem c_laws_FnExactSetJoin_ok : trF Try.prog ⟨[], [4], false⟩ Try.f14 = some c_laws_FnExactSetJoin := by kernel_rfl
def c_laws_szIntSS_b0 : IC :=
  (.seq (.seq (.reg false [⟨some 12, none, .mov (.t 5)⟩,
 ⟨some 13, none, .mov (.t 0)⟩,
 ⟨some 14, none, .len (.t 13)⟩,
 ⟨some 15, none, .bin .lss (.t 12) (.t 14)⟩])
 (.cond (.t 15) .skip (.exit 0)))
 (.seq (.block 1 none none
 (.seq (.reg false [⟨some 18, none, .mov (.t 0)⟩,
 ⟨some 19, none, .mov (.t 5)⟩,
 ⟨some 20, none, .ixs (.t 18) (.t 19) 1⟩,
 ⟨some 21, none, .load1 (.t 20)⟩,
 ⟨some 22, none, .mov (.t 1)⟩,
 ⟨some 23, none, .call 60 [.t 21, .t 22]⟩,
 ⟨some 1, none, .mov (.t 23)⟩])
 (.seq (.reg false [⟨some 24, none, .mov (.t 1)⟩,
 ⟨some 25, none, .bin .lss (.t 24) (.k (.c (.int .i64 0)))⟩])
 (.cond (.t 25) (.seq (.reg false [⟨some 4, none, .mov (.k (.c (.int .i64 (-1))))⟩])
 (.ret (some [4]))) .skip))))
 (.reg false [⟨some 16, none, .mov (.t 5)⟩,
 ⟨some 17, none, .bin .add (.t 16) (.k (.c (.int .i64 1)))⟩,
 ⟨some 5, none, .mov (.t 17)⟩])))
def c_laws_szIntSS : IFn := ⟨27, [.t 4],
  (.seq (.reg false [⟨some 4, none, .mov (.k (.c (.int .i64 0)))⟩])
 (.seq (.reg false [⟨some 6, none, .mov (.t 1)⟩,
 ⟨some 7, none, .mov (.t 0)⟩,
 ⟨some 8, none, .len (.t 7)⟩,
 ⟨some 9, none, .bin .sub (.t 6) (.t 8)⟩,
 ⟨some 1, none, .mov (.t 9)⟩])
 (.seq (.seq (.reg false [⟨some 10, none, .mov (.t 1)⟩,
 ⟨some 11, none, .bin .lss (.t 10) (.k (.c (.int .i64 0)))⟩])
 (.cond (.t 11) (.seq (.reg false [⟨some 4, none, .mov (.k (.c (.int .i64 (-1))))⟩])
 (.ret (some [4]))) .skip))
 (.seq (.seq (.reg false [⟨some 5, none, .mov (.k (.c (.int .i64 0)))⟩])
 (.block 0 (some [0, 1, 5]) (some [1])
 (.loop c_laws_szIntSS_b0)))
 (.seq (.reg false [⟨some 26, none, .mov (.t 1)⟩,
 ⟨some 4, none, .mov (.t 26)⟩])
 (.ret (some [4])))))))⟩
theorem c_laws_szIntSS_ok : trF Try.prog ⟨[(0, [0, 1, 5], [1])], [4], false⟩ Try.f15 = some c_laws_szIntSS := by kernel_rfl
def c_spec_SetOk_b1 : IC :=
  (.seq (.seq (.reg false [⟨some 33, none, .mov (.t 5)⟩,
 ⟨some 34, none, .mov (.t 0)⟩,
 ⟨some 35, none, .mov (.t 4)⟩,
 ⟨some 36, none, .ixs (.t 34) (.t 35) 1⟩,
 ⟨some 37, none, .load1 (.t 36)⟩,
 ⟨some 38, none, .len (.t 37)⟩,
 ⟨some 39, none, .bin .lss (.t 33) (.t 38)⟩])
 (.cond (.t 39) .skip (.exit 2)))
 (.seq (.block 3 none none
 (.seq (.reg true [⟨some 42, none, .mov (.t 0)⟩,
 ⟨some 43, none, .mov (.t 4)⟩,
 ⟨some 44, none, .ixs (.t 42) (.t 43) 1⟩,
 ⟨some 45, none, .load1 (.t 44)⟩,
 ⟨some 46, none, .mov (.t 5)⟩,
 ⟨some 47, none, .ixs (.t 45) (.t 46) 1⟩,
 ⟨some 48, none, .load1 (.t 47)⟩,
 ⟨some 49, none, .call 61 [.t 48]⟩,
 ⟨some 50, none, .un .not (.t 49)⟩,
 ⟨some 51, none, .mov (.t 50)⟩,
 ⟨some 52, some (51, false), .mov (.t 0)⟩,
 ⟨some 53, some (51, false), .mov (.t 4)⟩,
 ⟨some 54, some (51, false), .ixs (.t 52) (.t 53) 1⟩,
 ⟨some 55, some (51, false), .load1 (.t 54)⟩,
 ⟨some 56, some (51, false), .mov (.t 5)⟩,
 ⟨some 57, some (51, false), .ixs (.t 55) (.t 56) 1⟩,
 ⟨some 58, some (51, false), .load1 (.t 57)⟩,
 ⟨some 59, some (51, false), .mov (.t 3)⟩,
 ⟨some 60, some (51, false), .call 62 [.t 58, .t 59]⟩,
 ⟨some 61, some (51, false), .mov (.t 4)⟩,
 ⟨some 62, some (51, false), .bin .neq (.t 60) (.t 61)⟩,
 ⟨some 63, none, .pick (.t 51) (.k (.c (.bool true))) (.t 62)⟩,
 ⟨some 64, none, .mov (.t 63)⟩,
 ⟨some 65, some (64, false), .mov (.t 5)⟩,
 ⟨some 66, some (64, false), .bin .gtr (.t 65) (.k (.c (.int .i64 0)))⟩,
 ⟨some 67, some (64, false), .mov (.t 66)⟩,
 ⟨some 68, some (67, true), .mov (.t 0)⟩,
 ⟨some 69, some (67, true), .mov (.t 4)⟩,
 ⟨some 70, some (67, true), .ixs (.t 68) (.t 69) 1⟩,
 ⟨some 71, some (67, true), .load1 (.t 70)⟩,
 ⟨some 72, some (67, true), .mov (.t 5)⟩,
 ⟨some 73, some (67, true), .bin .sub (.t 72) (.k (.c (.int .i64 1)))⟩,
 ⟨some 74, some (67, true), .ixs (.t 71) (.t 73) 1⟩,
 ⟨some 75, some (67, true), .load1 (.t 74)⟩,
 ⟨some 76, some (67, true), .mov (.t 0)⟩,
 ⟨some 77, some (67, true), .mov (.t 4)⟩,
 ⟨some 78, some (67, true), .ixs (.t 76) (.t 77) 1⟩,
 ⟨some 79, some (67, true), .load1 (.t 78)⟩,
 ⟨some 80, some (67, true), .mov (.t 5)⟩,
 ⟨some 81, some (67, true), .ixs (.t 79) (.t 80) 1⟩,
 ⟨some 82, some (67, true), .load1 (.t 81)⟩,
 ⟨some 83, some (67, true), .bin .geq (.t 75) (.t 82)⟩,
 ⟨some 84, some (64, false), .pick (.t 67) (.t 83) (.k (.c (.bool false)))⟩,
 ⟨some 85, none, .pick (.t 64) (.k (.c (.bool true))) (.t 84)⟩])
 (.cond (.t 85) (.seq (.reg false [⟨some 2, none, .mov (.k (.c (.bool false)))⟩])
 (.ret (some [2]))) .skip)))
 (.reg false [⟨some 40, none, .mov (.t 5)⟩,
 ⟨some 41, none, .bin .add (.t 40) (.k (.c (.int .i64 1)))⟩,
 ⟨some 5, none, .mov (.t 41)⟩])))
def c_spec_SetOk_b0 : IC :=
  (.seq (.seq (.reg false [⟨some 22, none, .mov (.t 4)⟩,
 ⟨some 23, none, .mov (.t 3)⟩,
 ⟨some 24, none, .bin .lss (.t 22) (.t 23)⟩])
 (.cond (.t 24) .skip (.exit 0)))
 (.seq (.block 1 none none
 (.seq (.seq (.reg false [⟨some 27, none, .mov (.t 0)⟩,
 ⟨some 28, none, .mov (.t 4)⟩,
 ⟨some 29, none, .ixs (.t 27) (.t 28) 1⟩,
 ⟨some 30, none, .load1 (.t 29)⟩,
 ⟨some 31, none, .len (.t 30)⟩,
 ⟨some 32, none, .bin .gtr (.t 31) (.k (.c (.int .i64 3)))⟩])
 (.cond (.t 32) (.seq (.reg false [⟨some 2, none, .mov (.k (.c (.bool false)))⟩])
 (.ret (some [2]))) .skip))
 (.seq (.reg false [⟨some 5, none, .mov (.k (.c (.int .i64 0)))⟩])
 (.block 2 (some [0, 3, 4, 5]) (some [0, 3, 4])
 (.loop c_spec_SetOk_b1)))))
 (.reg false [⟨some 25, none, .mov (.t 4)⟩,
 ⟨some 26, none, .bin .add (.t 25) (.k (.c (.int .i64 1)))⟩,
 ⟨some 4, none, .mov (.t 26)⟩])))
def c_spec_SetOk : IFn := ⟨86, [.t 2],
  (.seq (.reg false [⟨some 2, none, .mov (.k (.c (.bool false)))⟩])
 (.seq (.reg false [⟨some 6, none, .mov (.t 0)⟩,
 ⟨some 7, none, .len (.t 6)⟩,
 ⟨some 3, none, .mov (.t 7)⟩])
 (.seq (.seq (.reg false [⟨some 8, none, .mov (.t 3)⟩,
 ⟨some 9, none, .bin .neq (.t 8) (.k (.c (.int .i64 1)))⟩,
 ⟨some 10, none, .mov (.t 9)⟩,
 ⟨some 11, some (10, true), .mov (.t 3)⟩,
 ⟨some 12, some (10, true), .bin .neq (.t 11) (.k (.c (.int .i64 2)))⟩,
 ⟨some 13, none, .pick (.t 10) (.t 12) (.k (.c (.bool false)))⟩,
 ⟨some 14, none, .mov (.t 13)⟩,
 ⟨some 15, some (14, true), .mov (.t 3)⟩,
 ⟨some 16, some (14, true), .bin .neq (.t 15) (.k (.c (.int .i64 4)))⟩,
 ⟨some 17, none, .pick (.t 14) (.t 16) (.k (.c (.bool false)))⟩,
 ⟨some 18, none, .mov (.t 17)⟩,
 ⟨some 19, some (18, true), .mov (.t 3)⟩,
 ⟨some 20, some (18, true), .bin .neq (.t 19) (.k (.c (.int .i64 8)))⟩,
 ⟨some 21, none, .pick (.t 18) (.t 20) (.k (.c (.bool false)))⟩])
 (.cond (.t 21) (.seq (.reg false [⟨some 2, none, .mov (.k (.c (.bool false)))⟩])
 (.ret (some [2]))) .skip))
 (.seq (.seq (.reg false [⟨some 4, none, .mov (.k (.c (.int .i64 0)))⟩])
 (.block 0 (some [0, 3, 4]) (some [])
 (.loop c_spec_SetOk_b0)))
 (.seq (.reg false [⟨some 2, none, .mov (.k (.c (.bool true)))⟩])
 (.ret (some [2])))))))⟩
theorem c_spec_SetOk_ok : trF Try.prog ⟨[(0, [0, 3, 4], []), (2, [0, 3, 4, 5], [0, 3, 4])], [2], false⟩ Try.f16 = some c_spec_SetOk := by kernel_rfl
def c_laws_toIntSS_b0 : IC :=
  (.seq (.seq (.reg false [⟨some 8, none, .mov (.t 4)⟩,
 ⟨some 9, none, .mov (.t 0)⟩,
 ⟨some 10, none, .len (.t 9)⟩,
 ⟨some 11, none, .bin .lss (.t 8) (.t 10)⟩])
 (.cond (.t 11) .skip (.exit 0)))
 (.seq (.block 1 none none
 (.reg false [⟨some 14, none, .mov (.t 3)⟩,
 ⟨some 15, none, .mov (.t 4)⟩,
 ⟨some 16, none, .mov (.t 0)⟩,
 ⟨some 17, none, .mov (.t 4)⟩,
 ⟨some 18, none, .ixs (.t 16) (.t 17) 1⟩,
 ⟨some 19, none, .load1 (.t 18)⟩,
 ⟨some 20, none, .call 63 [.t 19]⟩,
 ⟨some 21, none, .ixs (.t 14) (.t 15) 1⟩,
 ⟨none, none, .store (.t 21) (.t 20) 1⟩]))
 (.reg false [⟨some 12, none, .mov (.t 4)⟩,
 ⟨some 13, none, .bin .add (.t 12) (.k (.c (.int .i64 1)))⟩,
 ⟨some 4, none, .mov (.t 13)⟩])))
def c_laws_toIntSS : IFn := ⟨23, [.t 2],
  (.seq (.reg false [⟨some 2, none, .mov (.k (.c .nils))⟩])
 (.seq (.reg false [⟨some 5, none, .mov (.t 0)⟩,
 ⟨some 6, none, .len (.t 5)⟩,
 ⟨some 7, none, .mks (.t 6) [.nils] 30 24⟩,
 ⟨some 3, none, .mov (.t 7)⟩])
 (.seq (.seq (.reg false [⟨some 4, none, .mov (.k (.c (.int .i64 0)))⟩])
 (.block 0 (some [0, 3, 4]) (some [3])
 (.loop c_laws_toIntSS_b0)))
 (.seq (.reg false [⟨some 22, none, .mov (.t 3)⟩,
 ⟨some 2, none, .mov (.t 22)⟩])
 (.ret (some [2]))))))⟩
theorem c_laws_toIntSS_ok : trF Try.prog ⟨[(0, [0, 3, 4], [3])], [2], false⟩ Try.f17 = some c_laws_toIntSS := by kernel_rfl
def c_impl_SetOk_b1 : IC :=
  (.seq (.reg false [⟨some 34, none, .bin .lss (.t 33) (.t 32)⟩])
 (.seq (.cond (.t 34) .skip (.exit 2))
 (.seq (.block 3 none none
 (.seq (.reg false [⟨some 35, none, .mov (.t 33)⟩,
 ⟨some 36, none, .ixs (.t 31) (.t 33) 1⟩,
 ⟨some 37, none, .load1 (.t 36)⟩,
 ⟨some 6, none, .mov (.t 35)⟩,
 ⟨some 7, none, .mov (.t 37)⟩])
 (.seq (.reg false [⟨some 38, none, .mov (.t 6)⟩,
 ⟨some 39, none, .bin .geq (.t 38) (.k (.c (.int .i64 3)))⟩,
 ⟨some 40, none, .mov (.t 39)⟩,
 ⟨some 41, some (40, false), .mov (.t 7)⟩,
 ⟨some 42, some (40, false), .call 64 [.t 41]⟩,
 ⟨some 43, some (40, false), .un .not (.t 42)⟩,
 ⟨some 44, none, .pick (.t 40) (.k (.c (.bool true))) (.t 43)⟩,
 ⟨some 45, none, .mov (.t 44)⟩,
 ⟨some 46, some (45, false), .mov (.t 7)⟩,
 ⟨some 47, some (45, false), .mov (.t 3)⟩,
 ⟨some 48, some (45, false), .call 65 [.t 46, .t 47]⟩,
 ⟨some 49, some (45, false), .mov (.t 4)⟩,
 ⟨some 50, some (45, false), .bin .neq (.t 48) (.t 49)⟩,
 ⟨some 51, none, .pick (.t 45) (.k (.c (.bool true))) (.t 50)⟩,
 ⟨some 52, none, .mov (.t 51)⟩,
 ⟨some 53, some (52, false), .mov (.t 6)⟩,
 ⟨some 54, some (52, false), .bin .gtr (.t 53) (.k (.c (.int .i64 0)))⟩,
 ⟨some 55, some (52, false), .mov (.t 54)⟩,
 ⟨some 56, some (55, true), .mov (.t 5)⟩,
 ⟨some 57, some (55, true), .mov (.t 6)⟩,
 ⟨some 58, some (55, true), .bin .sub (.t 57) (.k (.c (.int .i64 1)))⟩,
 ⟨some 59, some (55, true), .ixs (.t 56) (.t 58) 1⟩,
 ⟨some 60, some (55, true), .load1 (.t 59)⟩,
 ⟨some 61, some (55, true), .mov (.t 7)⟩,
 ⟨some 62, some (55, true), .bin .geq (.t 60) (.t 61)⟩,
 ⟨some 63, some (52, false), .pick (.t 55) (.t 62) (.k (.c (.bool false)))⟩,
 ⟨some 64, none, .pick (.t 52) (.k (.c (.bool true))) (.t 63)⟩])
 (.cond (.t 64) (.seq (.reg false [⟨some 2, none, .mov (.k (.c (.bool false)))⟩])
 (.ret (some [2]))) .skip))))
 (.reg false [⟨some 65, none, .bin .add (.t 33) (.k (.c (.int .i64 1)))⟩,
 ⟨some 33, none, .mov (.t 65)⟩]))))
def c_impl_SetOk_b0 : IC :=
  (.seq (.reg false [⟨some 27, none, .bin .lss (.t 26) (.t 25)⟩])
 (.seq (.cond (.t 27) .skip (.exit 0))
 (.seq (.block 1 none none
 (.seq (.reg false [⟨some 28, none, .mov (.t 26)⟩,
 ⟨some 29, none, .ixs (.t 24) (.t 26) 1⟩,
 ⟨some 30, none, .load1 (.t 29)⟩,
 ⟨some 4, none, .mov (.t 28)⟩,
 ⟨some 5, none, .mov (.t 30)⟩])
 (.seq (.reg false [⟨some 31, none, .mov (.t 5)⟩,
 ⟨some 32, none, .len (.t 31)⟩,
 ⟨some 33, none, .mov (.k (.c (.int .i64 0)))⟩])
 (.block 2 (some [3, 4, 5, 24, 25, 26, 31, 32, 33]) (some [3, 24, 25, 26])
 (.loop c_impl_SetOk_b1)))))
 (.reg false [⟨some 66, none, .bin .add (.t 26) (.k (.c (.int .i64 1)))⟩,
 ⟨some 26, none, .mov (.t 66)⟩]))))
def c_impl_SetOk : IFn := ⟨67, [.t 2],
  (.seq (.reg false [⟨some 2, none, .mov (.k (.c (.bool false)))⟩])
 (.seq (.reg false [⟨some 8, none, .mov (.t 0)⟩,
 ⟨some 9, none, .len (.t 8)⟩,
 ⟨some 3, none, .mov (.t 9)⟩])
 (.seq (.seq (.reg false [⟨some 10, none, .mov (.t 3)⟩,
 ⟨some 11, none, .bin .neq (.t 10) (.k (.c (.int .i64 1)))⟩,
 ⟨some 12, none, .mov (.t 11)⟩,
 ⟨some 13, some (12, true), .mov (.t 3)⟩,
 ⟨some 14, some (12, true), .bin .neq (.t 13) (.k (.c (.int .i64 2)))⟩,
 ⟨some 15, none, .pick (.t 12) (.t 14) (.k (.c (.bool false)))⟩,
 ⟨some 16, none, .mov (.t 15)⟩,
 ⟨some 17, some (16, true), .mov (.t 3)⟩,
 ⟨some 18, some (16, true), .bin .neq (.t 17) (.k (.c (.int .i64 4)))⟩,
 ⟨some 19, none, .pick (.t 16) (.t 18) (.k (.c (.bool false)))⟩,
 ⟨some 20, none, .mov (.t 19)⟩,
 ⟨some 21, some (20, true), .mov (.t 3)⟩,
 ⟨some 22, some (20, true), .bin .neq (.t 21) (.k (.c (.int .i64 8)))⟩,
 ⟨some 23, none, .pick (.t 20) (.t 22) (.k (.c (.bool false)))⟩])
 (.cond (.t 23) (.seq (.reg false [⟨some 2, none, .mov (.k (.c (.bool false)))⟩])
 (.ret (some [2]))) .skip))
 (.seq (.seq (.reg false [⟨some 24, none, .mov (.t 0)⟩,
 ⟨some 25, none, .len (.t 24)⟩,
 ⟨some 26, none, .mov (.k (.c (.int .i64 0)))⟩])
 (.block 0 (some [3, 24, 25, 26]) (some [])
 (.loop c_impl_SetOk_b0)))
 (.seq (.reg false [⟨some 2, none, .mov (.k (.c (.bool true)))⟩])
 (.ret (some [2])))))))⟩
theorem c_impl_SetOk_ok : trF Try.prog ⟨[(0, [3, 24, 25, 26], []), (2, [3, 4, 5, 24, 25, 26, 31, 32, 33], [3, 24, 25, 26])], [2], false⟩ Try.f18 = some c_impl_SetOk := by kernel_rfl
def c_laws_eqIntSS_b0 : IC :=
  (.seq (.seq (.reg false [⟨some 11, none, .mov (.t 5)⟩,
 ⟨some 12, none, .mov (.t 0)⟩,
 ⟨some 13, none, .len (.t 12)⟩,
 ⟨some 14, none, .bin .lss (.t 11) (.t 13)⟩])
 (.cond (.t 14) .skip (.exit 0)))
 (.seq (.block 1 none none
 (.seq (.reg true [⟨some 17, none, .mov (.t 0)⟩,
 ⟨some 18, none, .mov (.t 5)⟩,
 ⟨some 19, none, .ixs (.t 17) (.t 18) 1⟩,
 ⟨some 20, none, .load1 (.t 19)⟩,
 ⟨some 21, none, .mov (.t 1)⟩,
 ⟨some 22, none, .mov (.t 5)⟩,
 ⟨some 23, none, .ixs (.t 21) (.t 22) 1⟩,
 ⟨some 24, none, .load1 (.t 23)⟩,
 ⟨some 25, none, .call 23 [.t 20, .t 24]⟩,
 ⟨some 26, none, .un .not (.t 25)⟩])
 (.cond (.t 26) (.seq (.reg false [⟨some 4, none, .mov (.k (.c (.bool false)))⟩])
 (.ret (some [4]))) .skip)))
 (.reg false [⟨some 15, none, .mov (.t 5)⟩,
 ⟨some 16, none, .bin .add (.t 15) (.k (.c (.int .i64 1)))⟩,
 ⟨some 5, none, .mov (.t 16)⟩])))
def c_laws_eqIntSS : IFn := ⟨27, [.t 4],
  (.seq (.reg false [⟨some 4, none, .mov (.k (.c (.bool false)))⟩])
 (.seq (.seq (.reg false [⟨some 6, none, .mov (.t 0)⟩,
 ⟨some 7, none, .len (.t 6)⟩,
 ⟨some 8, none, .mov (.t 1)⟩,
 ⟨some 9, none, .len (.t 8)⟩,
 ⟨some 10, none, .bin .neq (.t 7) (.t 9)⟩])
 (.cond (.t 10) (.seq (.reg false [⟨some 4, none, .mov (.k (.c (.bool false)))⟩])
 (.ret (some [4]))) .skip))
 (.seq (.seq (.reg false [⟨some 5, none, .mov (.k (.c (.int .i64 0)))⟩])
 (.block 0 (some [0, 1, 5]) (some [])
 (.loop c_laws_eqIntSS_b0)))
 (.seq (.reg false [⟨some 4, none, .mov (.k (.c (.bool true)))⟩])
 (.ret (some [4]))))))⟩
theorem c_laws_eqIntSS_ok : trF Try.prog ⟨[(0, [0, 1, 5], [])], [4], false⟩ Try.f19 = some c_laws_eqIntSS := by kernel_rfl
def c_spec_RingList_b0 : IC :=
  (.seq (.seq (.reg false [⟨some 6, none, .mov (.t 4)⟩,
 ⟨some 7, none, .fld (.t 1) 9⟩,
 ⟨some 8, none, .load1 (.t 7)⟩,
 ⟨some 9, none, .bin .lss (.t 6) (.t 8)⟩,
 ⟨some 10, none, .mov (.t 9)⟩,
 ⟨some 11, some (10, true), .loadN (.t 1) 10⟩,
 ⟨some 12, some (10, true), .call 66 [.t 11]⟩,
 ⟨some 13, none, .pick (.t 10) (.t 12) (.k (.c (.bool false)))⟩])
 (.cond (.t 13) .skip (.exit 0)))
 (.seq (.block 1 none none
 (.reg false [⟨some 16, none, .mov (.t 3)⟩,
 ⟨some 17, none, .fld (.t 1) 8⟩,
 ⟨some 18, none, .load1 (.t 17)⟩,
 ⟨some 19, none, .mov (.t 4)⟩,
 ⟨some 20, none, .bin .add (.t 18) (.t 19)⟩,
 ⟨some 21, none, .bin .rem (.t 20) (.k (.c (.int .i64 8)))⟩,
 ⟨some 22, none, .fld (.t 1) 0⟩,
 ⟨some 23, none, .ixa (.t 22) (.t 21) 8 1⟩,
 ⟨some 24, none, .load1 (.t 23)⟩,
 ⟨some 25, none, .lit 1 1 [.int .i64 0] [(0, .t 24)] 3⟩,
 ⟨some 26, none, .app (.t 16) (.t 25) 3 1 8⟩,
 ⟨some 3, none, .mov (.t 26)⟩]))
 (.reg false [⟨some 14, none, .mov (.t 4)⟩,
 ⟨some 15, none, .bin .add (.t 14) (.k (.c (.int .i64 1)))⟩,
 ⟨some 4, none, .mov (.t 15)⟩])))
def c_spec_RingList : IFn := ⟨28, [.t 2],
  (.seq (.reg false [⟨some 1, none, .box (.t 0) 32⟩,
 ⟨some 2, none, .mov (.k (.c .nils))⟩])
 (.seq (.reg false [⟨some 5, none, .lit 0 1 [.int .i64 0] [] 3⟩,
 ⟨some 3, none, .mov (.t 5)⟩])
 (.seq (.seq (.reg false [⟨some 4, none, .mov (.k (.c (.int .i64 0)))⟩])
 (.block 0 (some [1, 3, 4]) (some [3])
 (.loop c_spec_RingList_b0)))
 (.seq (.reg false [⟨some 27, none, .mov (.t 3)⟩,
 ⟨some 2, none, .mov (.t 27)⟩])
 (.ret (some [2]))))))⟩
theorem c_spec_RingList_ok : trF Try.prog ⟨[(0, [1, 3, 4], [3])], [2], false⟩ Try.f20 = some c_spec_RingList := by kernel_rfl
def c_laws_toRing : IFn := ⟨15, [.cell 2 10 true],
  (.seq (.reg false [⟨some 1, none, .box (.t 0) 29⟩,
 ⟨some 2, none, .alloc [.int .i64 0, .int .i64 0, .int .i64 0, .int .i64 0, .int .i64 0, .int .i64 0, .int .i64 0, .int .i64 0, .int .i64 0, .int .i64 0] 32⟩])
 (.seq (.reg false [⟨some 3, none, .alloc [.int .i64 0, .int .i64 0, .int .i64 0, .int .i64 0, .int .i64 0, .int .i64 0, .int .i64 0, .int .i64 0, .int .i64 0, .int .i64 0] 32⟩])
 (.seq (.reg false [⟨some 4, none, .fld (.t 1) 0⟩,
 ⟨some 5, none, .loadN (.t 4) 8⟩,
 ⟨some 6, none, .call 67 [.t 5]⟩,
 ⟨some 7, none, .fld (.t 3) 0⟩,
 ⟨none, none, .store (.t 7) (.t 6) 8⟩])
 (.seq (.reg false [⟨some 8, none, .fld (.t 1) 8⟩,
 ⟨some 9, none, .load1 (.t 8)⟩,
 ⟨some 10, none, .fld (.t 3) 8⟩,
 ⟨none, none, .store (.t 10) (.t 9) 1⟩])
 (.seq (.reg false [⟨some 11, none, .fld (.t 1) 9⟩,
 ⟨some 12, none, .load1 (.t 11)⟩,
 ⟨some 13, none, .fld (.t 3) 9⟩,
 ⟨none, none, .store (.t 13) (.t 12) 1⟩])
 (.seq (.reg false [⟨some 14, none, .loadN (.t 3) 10⟩,
 ⟨none, none, .store (.t 2) (.t 14) 10⟩])
 (.ret (some [2]))))))))⟩
theorem c_laws_toRing_ok : trF Try.prog ⟨[], [2], false⟩ Try.f21 = some c_laws_toRing := by kernel_rfl
def c_impl_RingList_b0 : IC :=
  (.seq (.reg false [⟨some 13, none, .bin .lss (.t 12) (.t 11)⟩])
 (.seq (.cond (.t 13) .skip (.exit 0))
 (.seq (.block 1 none none
 (.seq (.reg false [⟨some 14, none, .mov (.t 12)⟩,
 ⟨some 4, none, .mov (.t 14)⟩])
 (.reg false [⟨some 15, none, .mov (.t 3)⟩,
 ⟨some 16, none, .fld (.t 1) 8⟩,
 ⟨some 17, none, .load1 (.t 16)⟩,
 ⟨some 18, none, .mov (.t 4)⟩,
 ⟨some 19, none, .bin .add (.t 17) (.t 18)⟩,
 ⟨some 20, none, .bin .rem (.t 19) (.k (.c (.int .i64 8)))⟩,
 ⟨some 21, none, .fld (.t 1) 0⟩,
 ⟨some 22, none, .ixa (.t 21) (.t 20) 8 1⟩,
 ⟨some 23, none, .load1 (.t 22)⟩,
 ⟨some 24, none, .lit 1 1 [.int .i64 0] [(0, .t 23)] 3⟩,
 ⟨some 25, none, .app (.t 15) (.t 24) 3 1 8⟩,
 ⟨some 3, none, .mov (.t 25)⟩])))
 (.reg false [⟨some 26, none, .bin .add (.t 12) (.k (.c (.int .i64 1)))⟩,
 ⟨some 12, none, .mov (.t 26)⟩]))))
def c_impl_RingList : IFn := ⟨28, [.t 2],
  (.seq (.reg false [⟨some 1, none, .box (.t 0) 32⟩,
 ⟨some 2, none, .mov (.k (.c .nils))⟩])
 (.seq (.reg false [⟨some 5, none, .lit 0 1 [.int .i64 0] [] 3⟩,
 ⟨some 3, none, .mov (.t 5)⟩])
 (.seq (.seq (.reg false [⟨some 6, none, .loadN (.t 1) 10⟩,
 ⟨some 7, none, .call 39 [.t 6]⟩,
 ⟨some 8, none, .un .not (.t 7)⟩])
 (.cond (.t 8) (.seq (.reg false [⟨some 9, none, .mov (.t 3)⟩,
 ⟨some 2, none, .mov (.t 9)⟩])
 (.ret (some [2]))) .skip))
 (.seq (.seq (.reg false [⟨some 10, none, .fld (.t 1) 9⟩,
 ⟨some 11, none, .load1 (.t 10)⟩,
 ⟨some 12, none, .mov (.k (.c (.int .i64 0)))⟩])
 (.block 0 (some [1, 3, 11, 12]) (some [3])
 (.loop c_impl_RingList_b0)))
 (.seq (.reg false [⟨some 27, none, .mov (.t 3)⟩,
 ⟨some 2, none, .mov (.t 27)⟩])
 (.ret (some [2])))))))⟩
theorem c_impl_RingList_ok : trF Try.prog ⟨[(0, [1, 3, 11, 12], [3])], [2], false⟩ Try.f22 = some c_impl_RingList := by kernel_rfl
def c_laws_eqIntS_b0 : IC :=
  (.seq (.seq (.reg false [⟨some 11, none, .mov (.t 5)⟩,
 ⟨some 12, none, .mov (.t 0)⟩,
 ⟨some 13, none, .len (.t 12)⟩,
 ⟨some 14, none, .bin .lss (.t 11) (.t 13)⟩])
 (.cond (.t 14) .skip (.exit 0)))
 (.seq (.block 1 none none
 (.seq (.reg true [⟨some 17, none, .mov (.t 0)⟩,
 ⟨some 18, none, .mov (.t 5)⟩,
 ⟨some 19, none, .ixs (.t 17) (.t 18) 1⟩,
 ⟨some 20, none, .load1 (.t 19)⟩,
 ⟨some 21, none, .mov (.t 1)⟩,
 ⟨some 22, none, .mov (.t 5)⟩,
 ⟨some 23, none, .ixs (.t 21) (.t 22) 1⟩,
 ⟨some 24, none, .load1 (.t 23)⟩,
 ⟨some 25, none, .bin .neq (.t 20) (.t 24)⟩])
 (.cond (.t 25) (.seq (.reg false [⟨some 4, none, .mov (.k (.c (.bool false)))⟩])
 (.ret (some [4]))) .skip)))
 (.reg false [⟨some 15, none, .mov (.t 5)⟩,
 ⟨some 16, none, .bin .add (.t 15) (.k (.c (.int .i64 1)))⟩,
 ⟨some 5, none, .mov (.t 16)⟩])))
def c_laws_eqIntS : IFn := ⟨26, [.t 4],
  (.seq (.reg false [⟨some 4, none, .mov (.k (.c (.bool false)))⟩])
 (.seq (.seq (.reg false [⟨some 6, none, .mov (.t 0)⟩,
 ⟨some 7, none, .len (.t 6)⟩,
 ⟨some 8, none, .mov (.t 1)⟩,
 ⟨some 9, none, .len (.t 8)⟩,
 ⟨some 10, none, .bin .neq (.t 7) (.t 9)⟩])
 (.cond (.t 10) (.seq (.reg false [⟨some 4, none, .mov (.k (.c (.bool false)))⟩])
 (.ret (some [4]))) .skip))
 (.seq (.seq (.reg false [⟨some 5, none, .mov (.k (.c (.int .i64 0)))⟩])
 (.block 0 (some [0, 1, 5]) (some [])
 (.loop c_laws_eqIntS_b0)))
 (.seq (.reg false [⟨some 4, none, .mov (.k (.c (.bool true)))⟩])
 (.ret (some [4]))))))⟩
theorem c_laws_eqIntS_ok : trF Try.prog ⟨[(0, [0, 1, 5], [])], [4], false⟩ Try.f23 = some c_laws_eqIntS := by kernel_rfl
def c_laws_markIntS_b0 : IC :=
  (.seq (.seq (.reg false [⟨some 6, none, .mov (.t 5)⟩,
 ⟨some 7, none, .mov (.t 0)⟩,
 ⟨some 8, none, .len (.t 7)⟩,
 ⟨some 9, none, .bin .lss (.t 6) (.t 8)⟩])
 (.cond (.t 9) .skip (.exit 0)))
 (.seq (.block 1 none none
 (.seq (.reg false [⟨some 12, none, .mov (.t 0)⟩,
 ⟨some 13, none, .mov (.t 5)⟩,
 ⟨some 14, none, .mov (.t 1)⟩,
 ⟨some 15, none, .ixs (.t 12) (.t 13) 1⟩,
 ⟨none, none, .store (.t 15) (.t 14) 1⟩])
 (.reg false [⟨some 16, none, .mov (.t 1)⟩,
 ⟨some 17, none, .bin .add (.t 16) (.k (.c (.int .i64 1)))⟩,
 ⟨some 1, none, .mov (.t 17)⟩])))
 (.reg false [⟨some 10, none, .mov (.t 5)⟩,
 ⟨some 11, none, .bin .add (.t 10) (.k (.c (.int .i64 1)))⟩,
 ⟨some 5, none, .mov (.t 11)⟩])))
def c_laws_markIntS : IFn := ⟨19, [.t 4],
  (.seq (.reg false [⟨some 4, none, .mov (.k (.c (.int .i64 0)))⟩])
 (.seq (.seq (.reg false [⟨some 5, none, .mov (.k (.c (.int .i64 0)))⟩])
 (.block 0 (some [0, 1, 5]) (some [1])
 (.loop c_laws_markIntS_b0)))
 (.seq (.reg false [⟨some 18, none, .mov (.t 1)⟩,
 ⟨some 4, none, .mov (.t 18)⟩])
 (.ret (some [4])))))⟩
theorem c_laws_markIntS_ok : trF Try.prog ⟨[(0, [0, 1, 5], [1])], [4], false⟩ Try.f24 = some c_laws_markIntS := by kernel_rfl
def c_laws_heldIntS_b0 : IC :=
  (.seq (.seq (.reg false [⟨some 6, none, .mov (.t 5)⟩,
 ⟨some 7, none, .mov (.t 0)⟩,
 ⟨some 8, none, .len (.t 7)⟩,
 ⟨some 9, none, .bin .lss (.t 6) (.t 8)⟩])
 (.cond (.t 9) .skip (.exit 0)))
 (.seq (.block 1 none none
 (.seq (.seq (.reg false [⟨some 12, none, .mov (.t 0)⟩,
 ⟨some 13, none, .mov (.t 5)⟩,
 ⟨some 14, none, .ixs (.t 12) (.t 13) 1⟩,
 ⟨some 15, none, .load1 (.t 14)⟩,
 ⟨some 16, none, .mov (.t 1)⟩,
 ⟨some 17, none, .bin .neq (.t 15) (.t 16)⟩])
 (.cond (.t 17) (.seq (.reg false [⟨some 4, none, .mov (.k (.c (.int .i64 (-1))))⟩])
 (.ret (some [4]))) .skip))
 (.reg false [⟨some 18, none, .mov (.t 1)⟩,
 ⟨some 19, none, .bin .add (.t 18) (.k (.c (.int .i64 1)))⟩,
 ⟨some 1, none, .mov (.t 19)⟩])))
 (.reg false [⟨some 10, none, .mov (.t 5)⟩,
 ⟨some 11, none, .bin .add (.t 10) (.k (.c (.int .i64 1)))⟩,
 ⟨some 5, none, .mov (.t 11)⟩])))
def c_laws_heldIntS : IFn := ⟨21, [.t 4],
  (.seq (.reg false [⟨some 4, none, .mov (.k (.c (.int .i64 0)))⟩])
 (.seq (.seq (.reg false [⟨some 5, none, .mov (.k (.c (.int .i64 0)))⟩])
 (.block 0 (some [0, 1, 5]) (some [1])
 (.loop c_laws_heldIntS_b0)))
 (.seq (.reg false [⟨some 20, none, .mov (.t 1)⟩,
 ⟨some 4, none, .mov (.t 20)⟩])
 (.ret (some [4])))))⟩
theorem c_laws_heldIntS_ok : trF Try.prog ⟨[(0, [0, 1, 5], [1])], [4], false⟩ Try.f25 = some c_laws_heldIntS := by kernel_rfl
def c_spec_SetHas16 : IFn := ⟨18, [.t 4],
  (.seq (.reg false [⟨some 4, none, .mov (.k (.c (.bool false)))⟩])
 (.seq (.reg false [⟨some 5, none, .mov (.t 0)⟩,
 ⟨some 6, none, .call 16 [.t 5]⟩,
 ⟨some 7, none, .mov (.t 6)⟩,
 ⟨some 8, some (7, true), .mov (.t 0)⟩,
 ⟨some 9, some (7, true), .mov (.t 1)⟩,
 ⟨some 10, some (7, true), .mov (.t 0)⟩,
 ⟨some 11, some (7, true), .len (.t 10)⟩,
 ⟨some 12, some (7, true), .call 62 [.t 9, .t 11]⟩,
 ⟨some 13, some (7, true), .ixs (.t 8) (.t 12) 1⟩,
 ⟨some 14, some (7, true), .load1 (.t 13)⟩,
 ⟨some 15, some (7, true), .mov (.t 1)⟩,
 ⟨some 16, some (7, true), .call 68 [.t 14, .t 15]⟩,
 ⟨some 17, none, .pick (.t 7) (.t 16) (.k (.c (.bool false)))⟩,
 ⟨some 4, none, .mov (.t 17)⟩])
 (.ret (some [4]))))⟩
theorem c_spec_SetHas16_ok : trF Try.prog ⟨[], [4], false⟩ Try.f26 = some c_spec_SetHas16 := by kernel_rfl
def c_impl_SetHas16 : IFn := ⟨12, [.t 4],
  (.seq (.reg false [⟨some 4, none, .mov (.k (.c (.bool false)))⟩])
 (.seq (.reg false [⟨some 5, none, .mov (.t 0)⟩,
 ⟨some 6, none, .call 18 [.t 5]⟩,
 ⟨some 7, none, .mov (.t 6)⟩,
 ⟨some 8, some (7, true), .mov (.t 0)⟩,
 ⟨some 9, some (7, true), .mov (.t 1)⟩,
 ⟨some 10, some (7, true), .call 69 [.t 8, .t 9]⟩,
 ⟨some 11, none, .pick (.t 7) (.t 10) (.k (.c (.bool false)))⟩,
 ⟨some 4, none, .mov (.t 11)⟩])
 (.ret (some [4]))))⟩
theorem c_impl_SetHas16_ok : trF Try.prog ⟨[], [4], false⟩ Try.f27 = some c_impl_SetHas16 := by kernel_rfl
def c_spec_RingMove_b0 : IC :=
  (.seq (.seq (.reg false [⟨some 44, none, .mov (.t 9)⟩,
 ⟨some 45, none, .mov (.t 2)⟩,
 ⟨some 46, none, .bin .lss (.t 44) (.t 45)⟩])
 (.cond (.t 46) .skip (.exit 1)))
 (.seq (.block 2 none none
 (.seq (.reg false [⟨some 50, none, .loadN (.t 3) 10⟩,
 ⟨some 51, none, .call 71 [.t 50]⟩,
 ⟨some 49, none, .mov (.t 51)⟩,
 ⟨some 52, none, .ext (.t 49) 0⟩,
 ⟨some 53, none, .ext (.t 49) 1⟩,
 ⟨some 54, none, .ext (.t 49) 2⟩,
 ⟨some 10, none, .alloc [.int .i64 0, .int .i64 0, .int .i64 0, .int .i64 0, .int .i64 0, .int .i64 0, .int .i64 0, .int .i64 0, .int .i64 0, .int .i64 0] 32⟩,
 ⟨none, none, .store (.t 10) (.t 52) 10⟩,
 ⟨some 11, none, .mov (.t 53)⟩,
 ⟨some 12, none, .mov (.t 54)⟩])
 (.seq (.reg false [⟨some 55, none, .loadN (.t 10) 10⟩,
 ⟨none, none, .store (.t 3) (.t 55) 10⟩])
 (.reg false [⟨some 57, none, .loadN (.t 4) 10⟩,
 ⟨some 58, none, .mov (.t 11)⟩,
 ⟨some 59, none, .call 72 [.t 57, .t 58]⟩,
 ⟨some 56, none, .mov (.t 59)⟩,
 ⟨some 60, none, .ext (.t 56) 0⟩,
 ⟨some 61, none, .ext (.t 56) 1⟩,
 ⟨none, none, .store (.t 4) (.t 60) 10⟩]))))
 (.reg false [⟨some 47, none, .mov (.t 9)⟩,
 ⟨some 48, none, .bin .add (.t 47) (.k (.c (.int .i64 1)))⟩,
 ⟨some 9, none, .mov (.t 48)⟩])))
def c_spec_RingMove : IFn := ⟨64, [.cell 6 10 true, .cell 7 10 true, .t 8],
  (.seq (.reg false [⟨some 3, none, .box (.t 0) 32⟩,
 ⟨some 4, none, .box (.t 1) 32⟩,
 ⟨some 6, none, .alloc [.int .i64 0, .int .i64 0, .int .i64 0, .int .i64 0, .int .i64 0, .int .i64 0, .int .i64 0, .int .i64 0, .int .i64 0, .int .i64 0] 32⟩,
 ⟨some 7, none, .alloc [.int .i64 0, .int .i64 0, .int .i64 0, .int .i64 0, .int .i64 0, .int .i64 0, .int .i64 0, .int .i64 0, .int .i64 0, .int .i64 0] 32⟩,
 ⟨some 8, none, .mov (.k (.c (.int .i64 0)))⟩])
 (.seq (.block 0 none none
 (.seq (.reg false [⟨some 14, none, .loadN (.t 3) 10⟩,
 ⟨some 15, none, .call 66 [.t 14]⟩,
 ⟨some 16, none, .un .not (.t 15)⟩,
 ⟨some 17, none, .mov (.t 16)⟩,
 ⟨some 18, some (17, false), .loadN (.t 4) 10⟩,
 ⟨some 19, some (17, false), .call 66 [.t 18]⟩,
 ⟨some 20, some (17, false), .un .not (.t 19)⟩,
 ⟨some 21, none, .pick (.t 17) (.k (.c (.bool true))) (.t 20)⟩,
 ⟨some 22, none, .mov (.t 21)⟩,
 ⟨some 23, some (22, false), .mov (.t 2)⟩,
 ⟨some 24, some (22, false), .call 70 [.t 23, .k (.c (.int .i64 0)), .k (.c (.int .i64 8))]⟩,
 ⟨some 25, some (22, false), .un .not (.t 24)⟩,
 ⟨some 26, none, .pick (.t 22) (.k (.c (.bool true))) (.t 25)⟩,
 ⟨some 13, none, .mov (.t 26)⟩])
 (.cond (.t 13) (.seq (.regE 0 [⟨⟨some 27, none, .loadN (.t 3) 10⟩, 0, 0, false, []⟩,
 ⟨⟨some 28, none, .loadN (.t 4) 10⟩, 1, 0, false, []⟩,
 ⟨⟨none, none, .store (.t 6) (.t 27) 10⟩, 2, 0, false, [1]⟩,
 ⟨⟨none, none, .store (.t 7) (.t 28) 10⟩, 3, 0, false, []⟩,
 ⟨⟨some 8, none, .mov (.k (.c (.int .i64 1)))⟩, 4, 0, false, []⟩])
 (.ret (some [6, 7, 8]))) (.seq (.reg false [⟨some 30, none, .fld (.t 3) 9⟩,
 ⟨some 31, none, .load1 (.t 30)⟩,
 ⟨some 32, none, .mov (.t 2)⟩,
 ⟨some 33, none, .bin .lss (.t 31) (.t 32)⟩,
 ⟨some 29, none, .mov (.t 33)⟩])
 (.cond (.t 29) (.seq (.regE 0 [⟨⟨some 34, none, .loadN (.t 3) 10⟩, 0, 0, false, []⟩,
 ⟨⟨some 35, none, .loadN (.t 4) 10⟩, 1, 0, false, []⟩,
 ⟨⟨none, none, .store (.t 6) (.t 34) 10⟩, 2, 0, false, [1]⟩,
 ⟨⟨none, none, .store (.t 7) (.t 35) 10⟩, 3, 0, false, []⟩,
 ⟨⟨some 8, none, .mov (.k (.c (.int .i64 3)))⟩, 4, 0, false, []⟩])
 (.ret (some [6, 7, 8]))) (.seq (.reg false [⟨some 37, none, .fld (.t 4) 9⟩,
 ⟨some 38, none, .load1 (.t 37)⟩,
 ⟨some 39, none, .mov (.t 2)⟩,
 ⟨some 40, none, .bin .add (.t 38) (.t 39)⟩,
 ⟨some 41, none, .bin .gtr (.t 40) (.k (.c (.int .i64 8)))⟩,
 ⟨some 36, none, .mov (.t 41)⟩])
 (.cond (.t 36) (.seq (.regE 0 [⟨⟨some 42, none, .loadN (.t 3) 10⟩, 0, 0, false, []⟩,
 ⟨⟨some 43, none, .loadN (.t 4) 10⟩, 1, 0, false, []⟩,
 ⟨⟨none, none, .store (.t 6) (.t 42) 10⟩, 2, 0, false, [1]⟩,
 ⟨⟨none, none, .store (.t 7) (.t 43) 10⟩, 3, 0, false, []⟩,
 ⟨⟨some 8, none, .mov (.k (.c (.int .i64 2)))⟩, 4, 0, false, []⟩])
 (.ret (some [6, 7, 8]))) .skip)))))))
 (.seq (.seq (.reg false [⟨some 9, none, .mov (.k (.c (.int .i64 0)))⟩])
 (.block 1 (some [2, 3, 4, 6, 7, 9]) (some [3, 4, 6, 7])
 (.loop c_spec_RingMove_b0)))
 (.seq (.regE 0 [⟨⟨some 62, none, .loadN (.t 3) 10⟩, 0, 0, false, []⟩,
 ⟨⟨some 63, none, .loadN (.t 4) 10⟩, 1, 0, false, []⟩,
 ⟨⟨none, none, .store (.t 6) (.t 62) 10⟩, 2, 0, false, [1]⟩,
 ⟨⟨none, none, .store (.t 7) (.t 63) 10⟩, 3, 0, false, []⟩,
 ⟨⟨some 8, none, .mov (.k (.c (.int .i64 0)))⟩, 4, 0, false, []⟩])
 (.ret (some [6, 7, 8]))))))⟩
theorem c_spec_RingMove_ok : trF Try.prog ⟨[(1, [2, 3, 4, 6, 7, 9], [3, 4, 6, 7])], [6, 7, 8], false⟩ Try.f28 = some c_spec_RingMove := by kernel_rfl
def c_impl_RingMove_b0 : IC :=
  (.seq (.reg false [⟨some 43, none, .bin .lss (.t 42) (.t 41)⟩])
 (.seq (.cond (.t 43) .skip (.exit 1))
 (.seq (.block 2 none none
 (.seq (.reg false [⟨some 9, none, .mov (.k (.c (.int .i64 0)))⟩])
 (.seq (.reg false [⟨some 45, none, .loadN (.t 3) 10⟩,
 ⟨some 46, none, .call 41 [.t 45]⟩,
 ⟨some 44, none, .mov (.t 46)⟩,
 ⟨some 47, none, .ext (.t 44) 0⟩,
 ⟨some 48, none, .ext (.t 44) 1⟩,
 ⟨some 49, none, .ext (.t 44) 2⟩,
 ⟨none, none, .store (.t 3) (.t 47) 10⟩,
 ⟨some 9, none, .mov (.t 48)⟩])
 (.reg false [⟨some 51, none, .loadN (.t 4) 10⟩,
 ⟨some 52, none, .mov (.t 9)⟩,
 ⟨some 53, none, .call 38 [.t 51, .t 52]⟩,
 ⟨some 50, none, .mov (.t 53)⟩,
 ⟨some 54, none, .ext (.t 50) 0⟩,
 ⟨some 55, none, .ext (.t 50) 1⟩,
 ⟨none, none, .store (.t 4) (.t 54) 10⟩]))))
 (.reg false [⟨some 56, none, .bin .add (.t 42) (.k (.c (.int .i64 1)))⟩,
 ⟨some 42, none, .mov (.t 56)⟩]))))
def c_impl_RingMove : IFn := ⟨59, [.cell 6 10 true, .cell 7 10 true, .t 8],
  (.seq (.reg false [⟨some 3, none, .box (.t 0) 32⟩,
 ⟨some 4, none, .box (.t 1) 32⟩,
 ⟨some 6, none, .alloc [.int .i64 0, .int .i64 0, .int .i64 0, .int .i64 0, .int .i64 0, .int .i64 0, .int .i64 0, .int .i64 0, .int .i64 0, .int .i64 0] 32⟩,
 ⟨some 7, none, .alloc [.int .i64 0, .int .i64 0, .int .i64 0, .int .i64 0, .int .i64 0, .int .i64 0, .int .i64 0, .int .i64 0, .int .i64 0, .int .i64 0] 32⟩,
 ⟨some 8, none, .mov (.k (.c (.int .i64 0)))⟩])
 (.seq (.block 0 none none
 (.seq (.reg false [⟨some 11, none, .loadN (.t 3) 10⟩,
 ⟨some 12, none, .call 39 [.t 11]⟩,
 ⟨some 13, none, .un .not (.t 12)⟩,
 ⟨some 14, none, .mov (.t 13)⟩,
 ⟨some 15, some (14, false), .loadN (.t 4) 10⟩,
 ⟨some 16, some (14, false), .call 39 [.t 15]⟩,
 ⟨some 17, some (14, false), .un .not (.t 16)⟩,
 ⟨some 18, none, .pick (.t 14) (.k (.c (.bool true))) (.t 17)⟩,
 ⟨some 19, none, .mov (.t 18)⟩,
 ⟨some 20, some (19, false), .mov (.t 2)⟩,
 ⟨some 21, some (19, false), .call 73 [.t 20, .k (.c (.int .i64 0)), .k (.c (.int .i64 8))]⟩,
 ⟨some 22, some (19, false), .un .not (.t 21)⟩,
 ⟨some 23, none, .pick (.t 19) (.k (.c (.bool true))) (.t 22)⟩,
 ⟨some 10, none, .mov (.t 23)⟩])
 (.cond (.t 10) (.seq (.regE 0 [⟨⟨some 24, none, .loadN (.t 3) 10⟩, 0, 0, false, []⟩,
 ⟨⟨some 25, none, .loadN (.t 4) 10⟩, 1, 0, false, []⟩,
 ⟨⟨none, none, .store (.t 6) (.t 24) 10⟩, 2, 0, false, [1]⟩,
 ⟨⟨none, none, .store (.t 7) (.t 25) 10⟩, 3, 0, false, []⟩,
 ⟨⟨some 8, none, .mov (.k (.c (.int .i64 1)))⟩, 4, 0, false, []⟩])
 (.ret (some [6, 7, 8]))) (.seq (.reg false [⟨some 27, none, .fld (.t 3) 9⟩,
 ⟨some 28, none, .load1 (.t 27)⟩,
 ⟨some 29, none, .mov (.t 2)⟩,
 ⟨some 30, none, .bin .lss (.t 28) (.t 29)⟩,
 ⟨some 26, none, .mov (.t 30)⟩])
 (.cond (.t 26) (.seq (.regE 0 [⟨⟨some 31, none, .loadN (.t 3) 10⟩, 0, 0, false, []⟩,
 ⟨⟨some 32, none, .loadN (.t 4) 10⟩, 1, 0, false, []⟩,
 ⟨⟨none, none, .store (.t 6) (.t 31) 10⟩, 2, 0, false, [1]⟩,
 ⟨⟨none, none, .store (.t 7) (.t 32) 10⟩, 3, 0, false, []⟩,
 ⟨⟨some 8, none, .mov (.k (.c (.int .i64 3)))⟩, 4, 0, false, []⟩])
 (.ret (some [6, 7, 8]))) (.seq (.reg false [⟨some 34, none, .fld (.t 4) 9⟩,
 ⟨some 35, none, .load1 (.t 34)⟩,
 ⟨some 36, none, .mov (.t 2)⟩,
 ⟨some 37, none, .bin .add (.t 35) (.t 36)⟩,
 ⟨some 38, none, .bin .gtr (.t 37) (.k (.c (.int .i64 8)))⟩,
 ⟨some 33, none, .mov (.t 38)⟩])
 (.cond (.t 33) (.seq (.regE 0 [⟨⟨some 39, none, .loadN (.t 3) 10⟩, 0, 0, false, []⟩,
 ⟨⟨some 40, none, .loadN (.t 4) 10⟩, 1, 0, false, []⟩,
 ⟨⟨none, none, .store (.t 6) (.t 39) 10⟩, 2, 0, false, [1]⟩,
 ⟨⟨none, none, .store (.t 7) (.t 40) 10⟩, 3, 0, false, []⟩,
 ⟨⟨some 8, none, .mov (.k (.c (.int .i64 2)))⟩, 4, 0, false, []⟩])
 (.ret (some [6, 7, 8]))) .skip)))))))
 (.seq (.seq (.reg false [⟨some 41, none, .mov (.t 2)⟩,
 ⟨some 42, none, .mov (.k (.c (.int .i64 0)))⟩])
 (.block 1 (some [3, 4, 6, 7, 41, 42]) (some [3, 4, 6, 7])
 (.loop c_impl_RingMove_b0)))
 (.seq (.regE 0 [⟨⟨some 57, none, .loadN (.t 3) 10⟩, 0, 0, false, []⟩,
 ⟨⟨some 58, none, .loadN (.t 4) 10⟩, 1, 0, false, []⟩,
 ⟨⟨none, none, .store (.t 6) (.t 57) 10⟩, 2, 0, false, [1]⟩,
 ⟨⟨none, none, .store (.t 7) (.t 58) 10⟩, 3, 0, false, []⟩,
 ⟨⟨some 8, none, .mov (.k (.c (.int .i64 0)))⟩, 4, 0, false, []⟩])
 (.ret (some [6, 7, 8]))))))⟩
theorem c_impl_RingMove_ok : trF Try.prog ⟨[(1, [3, 4, 6, 7, 41, 42], [3, 4, 6, 7])], [6, 7, 8], false⟩ Try.f29 = some c_impl_RingMove := by kernel_rfl
def c_laws_eqRing : IFn := ⟨21, [.t 4],
  (.seq (.reg false [⟨some 2, none, .box (.t 0) 32⟩,
 ⟨some 3, none, .box (.t 1) 32⟩,
 ⟨some 4, none, .mov (.k (.c (.bool false)))⟩])
 (.seq (.seq (.reg false [⟨some 5, none, .fld (.t 2) 0⟩,
 ⟨some 6, none, .loadN (.t 5) 8⟩,
 ⟨some 7, none, .fld (.t 3) 0⟩,
 ⟨some 8, none, .loadN (.t 7) 8⟩,
 ⟨some 9, none, .call 74 [.t 6, .t 8]⟩,
 ⟨some 10, none, .un .not (.t 9)⟩])
 (.cond (.t 10) (.seq (.reg false [⟨some 4, none, .mov (.k (.c (.bool false)))⟩])
 (.ret (some [4]))) .skip))
 (.seq (.seq (.reg false [⟨some 11, none, .fld (.t 2) 8⟩,
 ⟨some 12, none, .load1 (.t 11)⟩,
 ⟨some 13, none, .fld (.t 3) 8⟩,
 ⟨some 14, none, .load1 (.t 13)⟩,
 ⟨some 15, none, .bin .neq (.t 12) (.t 14)⟩])
 (.cond (.t 15) (.seq (.reg false [⟨some 4, none, .mov (.k (.c (.bool false)))⟩])
 (.ret (some [4]))) .skip))
 (.seq (.seq (.reg false [⟨some 16, none, .fld (.t 2) 9⟩,
 ⟨some 17, none, .load1 (.t 16)⟩,
 ⟨some 18, none, .fld (.t 3) 9⟩,
 ⟨some 19, none, .load1 (.t 18)⟩,
 ⟨some 20, none, .bin .neq (.t 17) (.t 19)⟩])
 (.cond (.t 20) (.seq (.reg false [⟨some 4, none, .mov (.k (.c (.bool false)))⟩])
 (.ret (some [4]))) .skip))
 (.seq (.reg false [⟨some 4, none, .mov (.k (.c (.bool true)))⟩])
 (.ret (some [4])))))))⟩
theorem c_laws_eqRing_ok : trF Try.prog ⟨[], [4], false⟩ Try.f30 = some c_laws_eqRing := by kernel_rfl
def c_spec_NewSpace : IFn := ⟨5, [.cell 0 141 true],
  (.seq (.reg false [⟨some 0, none, .alloc [.bool false, .int .i64 0, .int .i64 0, .int .i64 0, .bool false, .int .i64 0, .int .i64 0, .int .i64 0, .bool false, .int .i64 0, .int .i64 0, .int .i64 0, .bool false, .int .i64 0, .int .i64 0, .int .i64 0, .bool false, .int .i64 0, .int .i64 0, .int .i64 0, .bool false, .int .i64 0, .int .i64 0, .int .i64 0, .bool false, .int .i64 0, .int .i64 0, .int .i64 0, .bool false, .int .i64 0, .int .i64 0, .int .i64 0, .bool false, .int .i64 0, .int .i64 0, .int .i64 0, .bool false, .int .i64 0, .int .i64 0, .int .i64 0, .bool false, .int .i64 0, .int .i64 0, .int .i64 0, .bool false, .int .i64 0, .int .i64 0, .int .i64 0, .bool false, .int .i64 0, .int .i64 0, .int .i64 0, .bool false, .int .i64 0, .int .i64 0, .int .i64 0, .bool false, .int .i64 0, .int .i64 0, .int .i64 0, .bool false, .int .i64 0, .int .i64 0, .int .i64 0, .int .i64 0, .int .i64 0, .int .i64 0, .int .i64 0, .int .i64 0, .int .i64 0, .int .i64 0, .int .i64 0, .int .i64 0, .int .i64 0, .int .i64 0, .bool false, .int .i64 0, .int .i64 0, .int .i64 0, .bool false, .int .i64 0, .int .i64 0, .int .i64 0, .bool false, .int .i64 0, .int .i64 0, .int .i64 0, .bool false, .int .i64 0, .int .i64 0, .int .i64 0, .bool false, .int .i64 0, .int .i64 0, .int .i64 0, .bool false, .int .i64 0, .int .i64 0, .int .i64 0, .bool false, .int .i64 0, .int .i64 0, .int .i64 0, .bool false, .int .i64 0, .int .i64 0, .int .i64 0, .bool false, .int .i64 0, .int .i64 0, .int .i64 0, .bool false, .int .i64 0, .int .i64 0, .int .i64 0, .bool false, .int .i64 0, .int .i64 0, .int .i64 0, .bool false, .int .i64 0, .int .i64 0, .int .i64 0, .bool false, .int .i64 0, .int .i64 0, .int .i64 0, .bool false, .int .i64 0, .int .i64 0, .int .i64 0, .bool false, .int .i64 0, .int .i64 0, .int .i64 0, .bool false, .int .i64 0, .int .i64 0, .int .i64 0, .int .i64 0, .nils] 53⟩])
 (.seq (.reg false [⟨some 1, none, .call 75 []⟩,
 ⟨some 2, none, .call 76 []⟩,
 ⟨some 3, none, .call 77 []⟩,
 ⟨some 4, none, .bld [.bool false, .int .i64 0, .int .i64 0, .int .i64 0, .bool false, .int .i64 0, .int .i64 0, .int .i64 0, .bool false, .int .i64 0, .int .i64 0, .int .i64 0, .bool false, .int .i64 0, .int .i64 0, .int .i64 0, .bool false, .int .i64 0, .int .i64 0, .int .i64 0, .bool false, .int .i64 0, .int .i64 0, .int .i64 0, .bool false, .int .i64 0, .int .i64 0, .int .i64 0, .bool false, .int .i64 0, .int .i64 0, .int .i64 0, .bool false, .int .i64 0, .int .i64 0, .int .i64 0, .bool false, .int .i64 0, .int .i64 0, .int .i64 0, .bool false, .int .i64 0, .int .i64 0, .int .i64 0, .bool false, .int .i64 0, .int .i64 0, .int .i64 0, .bool false, .int .i64 0, .int .i64 0, .int .i64 0, .bool false, .int .i64 0, .int .i64 0, .int .i64 0, .bool false, .int .i64 0, .int .i64 0, .int .i64 0, .bool false, .int .i64 0, .int .i64 0, .int .i64 0, .int .i64 0, .int .i64 0, .int .i64 0, .int .i64 0, .int .i64 0, .int .i64 0, .int .i64 0, .int .i64 0, .int .i64 0, .int .i64 0, .int .i64 0, .bool false, .int .i64 0, .int .i64 0, .int .i64 0, .bool false, .int .i64 0, .int .i64 0, .int .i64 0, .bool false, .int .i64 0, .int .i64 0, .int .i64 0, .bool false, .int .i64 0, .int .i64 0, .int .i64 0, .bool false, .int .i64 0, .int .i64 0, .int .i64 0, .bool false, .int .i64 0, .int .i64 0, .int .i64 0, .bool false, .int .i64 0, .int .i64 0, .int .i64 0, .bool false, .int .i64 0, .int .i64 0, .int .i64 0, .bool false, .int .i64 0, .int .i64 0, .int .i64 0, .bool false, .int .i64 0, .int .i64 0, .int .i64 0, .bool false, .int .i64 0, .int .i64 0, .int .i64 0, .bool false, .int .i64 0, .int .i64 0, .int .i64 0, .bool false, .int .i64 0, .int .i64 0, .int .i64 0, .bool false, .int .i64 0, .int .i64 0, .int .i64 0, .bool false, .int .i64 0, .int .i64 0, .int .i64 0, .bool false, .int .i64 0, .int .i64 0, .int .i64 0, .int .i64 0, .nils] [(0, (65, .t 1)), (75, (65, .t 2)), (140, (1, .t 3))]⟩,
 ⟨none, none, .store (.t 0) (.t 4) 141⟩])
 (.ret (some [0]))))⟩
theorem c_spec_NewSpace_ok : trF Try.prog ⟨[], [0], false⟩ Try.f31 = some c_spec_NewSpace := by kernel_rfl
def c_impl_NewSpace : IFn := ⟨5, [.cell 0 141 true],
  (.seq (.reg false [⟨some 0, none, .alloc [.bool false, .int .i64 0, .int .i64 0, .int .i64 0, .bool false, .int .i64 0, .int .i64 0, .int .i64 0, .bool false, .int .i64 0, .int .i64 0, .int .i64 0, .bool false, .int .i64 0, .int .i64 0, .int .i64 0, .bool false, .int .i64 0, .int .i64 0, .int .i64 0, .bool false, .int .i64 0, .int .i64 0, .int .i64 0, .bool false, .int .i64 0, .int .i64 0, .int .i64 0, .bool false, .int .i64 0, .int .i64 0, .int .i64 0, .bool false, .int .i64 0, .int .i64 0, .int .i64 0, .bool false, .int .i64 0, .int .i64 0, .int .i64 0, .bool false, .int .i64 0, .int .i64 0, .int .i64 0, .bool false, .int .i64 0, .int .i64 0, .int .i64 0, .bool false, .int .i64 0, .int .i64 0, .int .i64 0, .bool false, .int .i64 0, .int .i64 0, .int .i64 0, .bool false, .int .i64 0, .int .i64 0, .int .i64 0, .bool false, .int .i64 0, .int .i64 0, .int .i64 0, .int .i64 0, .int .i64 0, .int .i64 0, .int .i64 0, .int .i64 0, .int .i64 0, .int .i64 0, .int .i64 0, .int .i64 0, .int .i64 0, .int .i64 0, .bool false, .int .i64 0, .int .i64 0, .int .i64 0, .bool false, .int .i64 0, .int .i64 0, .int .i64 0, .bool false, .int .i64 0, .int .i64 0, .int .i64 0, .bool false, .int .i64 0, .int .i64 0, .int .i64 0, .bool false, .int .i64 0, .int .i64 0, .int .i64 0, .bool false, .int .i64 0, .int .i64 0, .int .i64 0, .bool false, .int .i64 0, .int .i64 0, .int .i64 0, .bool false, .int .i64 0, .int .i64 0, .int .i64 0, .bool false, .int .i64 0, .int .i64 0, .int .i64 0, .bool false, .int .i64 0, .int .i64 0, .int .i64 0, .bool false, .int .i64 0, .int .i64 0, .int .i64 0, .bool false, .int .i64 0, .int .i64 0, .int .i64 0, .bool false, .int .i64 0, .int .i64 0, .int .i64 0, .bool false, .int .i64 0, .int .i64 0, .int .i64 0, .bool false, .int .i64 0, .int .i64 0, .int .i64 0, .bool false, .int .i64 0, .int .i64 0, .int .i64 0, .int .i64 0, .nils] 53⟩])
 (.seq (.reg false [⟨some 1, none, .call 78 []⟩,
 ⟨some 2, none, .call 79 []⟩,
 ⟨some 3, none, .call 80 []⟩,
 ⟨some 4, none, .bld [.bool false, .int .i64 0, .int .i64 0, .int .i64 0, .bool false, .int .i64 0, .int .i64 0, .int .i64 0, .bool false, .int .i64 0, .int .i64 0, .int .i64 0, .bool false, .int .i64 0, .int .i64 0, .int .i64 0, .bool false, .int .i64 0, .int .i64 0, .int .i64 0, .bool false, .int .i64 0, .int .i64 0, .int .i64 0, .bool false, .int .i64 0, .int .i64 0, .int .i64 0, .bool false, .int .i64 0, .int .i64 0, .int .i64 0, .bool false, .int .i64 0, .int .i64 0, .int .i64 0, .bool false, .int .i64 0, .int .i64 0, .int .i64 0, .bool false, .int .i64 0, .int .i64 0, .int .i64 0, .bool false, .int .i64 0, .int .i64 0, .int .i64 0, .bool false, .int .i64 0, .int .i64 0, .int .i64 0, .bool false, .int .i64 0, .int .i64 0, .int .i64 0, .bool false, .int .i64 0, .int .i64 0, .int .i64 0, .bool false, .int .i64 0, .int .i64 0, .int .i64 0, .int .i64 0, .int .i64 0, .int .i64 0, .int .i64 0, .int .i64 0, .int .i64 0, .int .i64 0, .int .i64 0, .int .i64 0, .int .i64 0, .int .i64 0, .bool false, .int .i64 0, .int .i64 0, .int .i64 0, .bool false, .int .i64 0, .int .i64 0, .int .i64 0, .bool false, .int .i64 0, .int .i64 0, .int .i64 0, .bool false, .int .i64 0, .int .i64 0, .int .i64 0, .bool false, .int .i64 0, .int .i64 0, .int .i64 0, .bool false, .int .i64 0, .int .i64 0, .int .i64 0, .bool false, .int .i64 0, .int .i64 0, .int .i64 0, .bool false, .int .i64 0, .int .i64 0, .int .i64 0, .bool false, .int .i64 0, .int .i64 0, .int .i64 0, .bool false, .int .i64 0, .int .i64 0, .int .i64 0, .bool false, .int .i64 0, .int .i64 0, .int .i64 0, .bool false, .int .i64 0, .int .i64 0, .int .i64 0, .bool false, .int .i64 0, .int .i64 0, .int .i64 0, .bool false, .int .i64 0, .int .i64 0, .int .i64 0, .bool false, .int .i64 0, .int .i64 0, .int .i64 0, .bool false, .int .i64 0, .int .i64 0, .int .i64 0, .int .i64 0, .nils] [(0, (65, .t 1)), (75, (65, .t 2)), (140, (1, .t 3))]⟩,
 ⟨none, none, .store (.t 0) (.t 4) 141⟩])
 (.ret (some [0]))))⟩
theorem c_impl_NewSpace_ok : trF Try.prog ⟨[], [0], false⟩ Try.f32 = some c_impl_NewSpace := by kernel_rfl
def c_laws_eqSpace : IFn := ⟨29, [.t 4],
  (.seq (.reg false [⟨some 2, none, .box (.t 0) 53⟩,
 ⟨some 3, none, .box (.t 1) 53⟩,
 ⟨some 4, none, .mov (.k (.c (.bool false)))⟩])
 (.seq (.seq (.reg false [⟨some 5, none, .fld (.t 2) 0⟩,
 ⟨some 6, none, .loadN (.t 5) 65⟩,
 ⟨some 7, none, .fld (.t 3) 0⟩,
 ⟨some 8, none, .loadN (.t 7) 65⟩,
 ⟨some 9, none, .call 81 [.t 6, .t 8]⟩,
 ⟨some 10, none, .un .not (.t 9)⟩])
 (.cond (.t 10) (.seq (.reg false [⟨some 4, none, .mov (.k (.c (.bool false)))⟩])
 (.ret (some [4]))) .skip))
 (.seq (.seq (.reg false [⟨some 11, none, .fld (.t 2) 65⟩,
 ⟨some 12, none, .loadN (.t 11) 10⟩,
 ⟨some 13, none, .fld (.t 3) 65⟩,
 ⟨some 14, none, .loadN (.t 13) 10⟩,
 ⟨some 15, none, .call 30 [.t 12, .t 14]⟩,
 ⟨some 16, none, .un .not (.t 15)⟩])
 (.cond (.t 16) (.seq (.reg false [⟨some 4, none, .mov (.k (.c (.bool false)))⟩])
 (.ret (some [4]))) .skip))
 (.seq (.seq (.reg false [⟨some 17, none, .fld (.t 2) 75⟩,
 ⟨some 18, none, .loadN (.t 17) 65⟩,
 ⟨some 19, none, .fld (.t 3) 75⟩,
 ⟨some 20, none, .loadN (.t 19) 65⟩,
 ⟨some 21, none, .call 51 [.t 18, .t 20]⟩,
 ⟨some 22, none, .un .not (.t 21)⟩])
 (.cond (.t 22) (.seq (.reg false [⟨some 4, none, .mov (.k (.c (.bool false)))⟩])
 (.ret (some [4]))) .skip))
 (.seq (.seq (.reg false [⟨some 23, none, .fld (.t 2) 140⟩,
 ⟨some 24, none, .load1 (.t 23)⟩,
 ⟨some 25, none, .fld (.t 3) 140⟩,
 ⟨some 26, none, .load1 (.t 25)⟩,
 ⟨some 27, none, .call 19 [.t 24, .t 26]⟩,
 ⟨some 28, none, .un .not (.t 27)⟩])
 (.cond (.t 28) (.seq (.reg false [⟨some 4, none, .mov (.k (.c (.bool false)))⟩])
 (.ret (some [4]))) .skip))
 (.seq (.reg false [⟨some 4, none, .mov (.k (.c (.bool true)))⟩])
 (.ret (some [4]))))))))⟩
theorem c_laws_eqSpace_ok : trF Try.prog ⟨[], [4], false⟩ Try.f33 = some c_laws_eqSpace := by kernel_rfl
def c_laws_markSpace : IFn := ⟨10, [.t 4],
  (.seq (.reg false [⟨some 2, none, .box (.t 0) 53⟩,
 ⟨some 4, none, .mov (.k (.c (.int .i64 0)))⟩])
 (.seq (.reg false [⟨some 5, none, .fld (.t 2) 140⟩,
 ⟨some 6, none, .load1 (.t 5)⟩,
 ⟨some 7, none, .mov (.t 1)⟩,
 ⟨some 8, none, .call 46 [.t 6, .t 7]⟩,
 ⟨some 1, none, .mov (.t 8)⟩])
 (.seq (.reg false [⟨some 9, none, .mov (.t 1)⟩,
 ⟨some 4, none, .mov (.t 9)⟩])
 (.ret (some [4])))))⟩
theorem c_laws_markSpace_ok : trF Try.prog ⟨[], [4], false⟩ Try.f34 = some c_laws_markSpace := by kernel_rfl
def c_laws_heldSpace : IFn := ⟨12, [.t 4],
  (.seq (.reg false [⟨some 2, none, .box (.t 0) 53⟩,
 ⟨some 4, none, .mov (.k (.c (.int .i64 0)))⟩])
 (.seq (.reg false [⟨some 5, none, .fld (.t 2) 140⟩,
 ⟨some 6, none, .load1 (.t 5)⟩,
 ⟨some 7, none, .mov (.t 1)⟩,
 ⟨some 8, none, .call 47 [.t 6, .t 7]⟩,
 ⟨some 1, none, .mov (.t 8)⟩])
 (.seq (.seq (.reg false [⟨some 9, none, .mov (.t 1)⟩,
 ⟨some 10, none, .bin .lss (.t 9) (.k (.c (.int .i64 0)))⟩])
 (.cond (.t 10) (.seq (.reg false [⟨some 4, none, .mov (.k (.c (.int .i64 (-1))))⟩])
 (.ret (some [4]))) .skip))
 (.seq (.reg false [⟨some 11, none, .mov (.t 1)⟩,
 ⟨some 4, none, .mov (.t 11)⟩])
 (.ret (some [4]))))))⟩
theorem c_laws_heldSpace_ok : trF Try.prog ⟨[], [4], false⟩ Try.f35 = some c_laws_heldSpace := by kernel_rfl
def c_laws_big : IFn := ⟨6, [.t 2],
  (.seq (.reg false [⟨some 2, none, .mov (.k (.c (.bool false)))⟩])
 (.seq (.reg false [⟨some 3, none, .mov (.t 0)⟩,
 ⟨some 4, none, .len (.t 3)⟩,
 ⟨some 5, none, .bin .gtr (.t 4) (.k (.c (.int .i64 1048576)))⟩,
 ⟨some 2, none, .mov (.t 5)⟩])
 (.ret (some [2]))))⟩
theorem c_laws_big_ok : trF Try.prog ⟨[], [2], false⟩ Try.f36 = some c_laws_big := by kernel_rfl
def c_spec_DrawRing : IFn := ⟨6, [.cell 2 10 true],
  (.seq (.reg false [⟨some 2, none, .alloc [.int .i64 0, .int .i64 0, .int .i64 0, .int .i64 0, .int .i64 0, .int .i64 0, .int .i64 0, .int .i64 0, .int .i64 0, .int .i64 0] 32⟩])
 (.seq (.reg false [⟨some 3, none, .mov (.t 0)⟩,
 ⟨some 4, none, .call 83 [.t 3]⟩,
 ⟨some 5, none, .call 82 [.t 4]⟩,
 ⟨none, none, .store (.t 2) (.t 5) 10⟩])
 (.ret (some [2]))))⟩
theorem c_spec_DrawRing_ok : trF Try.prog ⟨[], [2], false⟩ Try.f37 = some c_spec_DrawRing := by kernel_rfl
def c_impl_RingPut : IFn := ⟨35, [.cell 4 10 true, .t 5],
  (.seq (.reg false [⟨some 2, none, .box (.t 0) 32⟩,
 ⟨some 4, none, .alloc [.int .i64 0, .int .i64 0, .int .i64 0, .int .i64 0, .int .i64 0, .int .i64 0, .int .i64 0, .int .i64 0, .int .i64 0, .int .i64 0] 32⟩,
 ⟨some 5, none, .mov (.k (.c (.int .i64 0)))⟩])
 (.seq (.block 0 none none
 (.seq (.reg false [⟨some 7, none, .loadN (.t 2) 10⟩,
 ⟨some 8, none, .call 39 [.t 7]⟩,
 ⟨some 9, none, .un .not (.t 8)⟩,
 ⟨some 10, none, .mov (.t 9)⟩,
 ⟨some 11, some (10, false), .mov (.t 1)⟩,
 ⟨some 12, some (10, false), .call 64 [.t 11]⟩,
 ⟨some 13, some (10, false), .un .not (.t 12)⟩,
 ⟨some 14, none, .pick (.t 10) (.k (.c (.bool true))) (.t 13)⟩,
 ⟨some 6, none, .mov (.t 14)⟩])
 (.cond (.t 6) (.seq (.reg false [⟨some 15, none, .loadN (.t 2) 10⟩,
 ⟨none, none, .store (.t 4) (.t 15) 10⟩,
 ⟨some 5, none, .mov (.k (.c (.int .i64 1)))⟩])
 (.ret (some [4, 5]))) (.seq (.reg false [⟨some 17, none, .fld (.t 2) 9⟩,
 ⟨some 18, none, .load1 (.t 17)⟩,
 ⟨some 19, none, .bin .eql (.t 18) (.k (.c (.int .i64 8)))⟩,
 ⟨some 16, none, .mov (.t 19)⟩])
 (.cond (.t 16) (.seq (.reg false [⟨some 20, none, .loadN (.t 2) 10⟩,
 ⟨none, none, .store (.t 4) (.t 20) 10⟩,
 ⟨some 5, none, .mov (.k (.c (.int .i64 2)))⟩])
 (.ret (some [4, 5]))) .skip)))))
 (.seq (.reg false [⟨some 21, none, .fld (.t 2) 8⟩,
 ⟨some 22, none, .load1 (.t 21)⟩,
 ⟨some 23, none, .fld (.t 2) 9⟩,
 ⟨some 24, none, .load1 (.t 23)⟩,
 ⟨some 25, none, .bin .add (.t 22) (.t 24)⟩,
 ⟨some 26, none, .bin .rem (.t 25) (.k (.c (.int .i64 8)))⟩,
 ⟨some 27, none, .mov (.t 1)⟩,
 ⟨some 28, none, .fld (.t 2) 0⟩,
 ⟨some 29, none, .ixa (.t 28) (.t 26) 8 1⟩,
 ⟨none, none, .store (.t 29) (.t 27) 1⟩])
 (.seq (.reg false [⟨some 30, none, .fld (.t 2) 9⟩,
 ⟨some 31, none, .load1 (.t 30)⟩,
 ⟨some 32, none, .bin .add (.t 31) (.k (.c (.int .i64 1)))⟩,
 ⟨some 33, none, .fld (.t 2) 9⟩,
 ⟨none, none, .store (.t 33) (.t 32) 1⟩])
 (.seq (.reg false [⟨some 34, none, .loadN (.t 2) 10⟩,
 ⟨none, none, .store (.t 4) (.t 34) 10⟩,
 ⟨some 5, none, .mov (.k (.c (.int .i64 0)))⟩])
 (.ret (some [4, 5])))))))⟩
theorem c_impl_RingPut_ok : trF Try.prog ⟨[], [4, 5], false⟩ Try.f38 = some c_impl_RingPut := by kernel_rfl
def c_impl_RingOk_b0 : IC :=
  (.seq (.seq (.reg false [⟨some 22, none, .mov (.t 3)⟩,
 ⟨some 23, none, .bin .lss (.t 22) (.k (.c (.int .i64 8)))⟩])
 (.cond (.t 23) .skip (.exit 0)))
 (.seq (.block 1 none none
 (.seq (.reg false [⟨some 26, none, .fld (.t 1) 8⟩,
 ⟨some 27, none, .load1 (.t 26)⟩,
 ⟨some 28, none, .mov (.t 3)⟩,
 ⟨some 29, none, .bin .add (.t 27) (.t 28)⟩,
 ⟨some 30, none, .bin .rem (.t 29) (.k (.c (.int .i64 8)))⟩,
 ⟨some 31, none, .fld (.t 1) 0⟩,
 ⟨some 32, none, .ixa (.t 31) (.t 30) 8 1⟩,
 ⟨some 33, none, .load1 (.t 32)⟩,
 ⟨some 34, none, .bin .neq (.t 33) (.k (.c (.int .i64 0)))⟩])
 (.cond (.t 34) (.seq (.reg false [⟨some 2, none, .mov (.k (.c (.bool false)))⟩])
 (.ret (some [2]))) .skip)))
 (.reg false [⟨some 24, none, .mov (.t 3)⟩,
 ⟨some 25, none, .bin .add (.t 24) (.k (.c (.int .i64 1)))⟩,
 ⟨some 3, none, .mov (.t 25)⟩])))
def c_impl_RingOk : IFn := ⟨35, [.t 2],
  (.seq (.reg false [⟨some 1, none, .box (.t 0) 32⟩,
 ⟨some 2, none, .mov (.k (.c (.bool false)))⟩])
 (.seq (.seq (.reg false [⟨some 4, none, .fld (.t 1) 8⟩,
 ⟨some 5, none, .load1 (.t 4)⟩,
 ⟨some 6, none, .call 73 [.t 5, .k (.c (.int .i64 0)), .k (.c (.int .i64 7))]⟩,
 ⟨some 7, none, .un .not (.t 6)⟩,
 ⟨some 8, none, .mov (.t 7)⟩,
 ⟨some 9, some (8, false), .fld (.t 1) 9⟩,
 ⟨some 10, some (8, false), .load1 (.t 9)⟩,
 ⟨some 11, some (8, false), .call 73 [.t 10, .k (.c (.int .i64 0)), .k (.c (.int .i64 8))]⟩,
 ⟨some 12, some (8, false), .un .not (.t 11)⟩,
 ⟨some 13, none, .pick (.t 8) (.k (.c (.bool true))) (.t 12)⟩,
 ⟨some 14, none, .mov (.t 13)⟩,
 ⟨some 15, some (14, false), .fld (.t 1) 0⟩,
 ⟨some 16, some (14, false), .sla (.t 15) 8 1 none none⟩,
 ⟨some 17, some (14, false), .call 84 [.t 16]⟩,
 ⟨some 18, some (14, false), .un .not (.t 17)⟩,
 ⟨some 19, none, .pick (.t 14) (.k (.c (.bool true))) (.t 18)⟩])
 (.cond (.t 19) (.seq (.reg false [⟨some 2, none, .mov (.k (.c (.bool false)))⟩])
 (.ret (some [2]))) .skip))
 (.seq (.seq (.reg false [⟨some 20, none, .fld (.t 1) 9⟩,
 ⟨some 21, none, .load1 (.t 20)⟩,
 ⟨some 3, none, .mov (.t 21)⟩])
 (.block 0 (some [1, 3]) (some [])
 (.loop c_impl_RingOk_b0)))
 (.seq (.reg false [⟨some 2, none, .mov (.k (.c (.bool true)))⟩])
 (.ret (some [2]))))))⟩
theorem c_impl_RingOk_ok : trF Try.prog ⟨[(0, [1, 3], [])], [2], false⟩ Try.f39 = some c_impl_RingOk := by kernel_rfl
def c_laws_sameInts_b0 : IC :=
  (.seq (.seq (.reg false [⟨some 11, none, .mov (.t 5)⟩,
 ⟨some 12, none, .mov (.t 0)⟩,
 ⟨some 13, none, .len (.t 12)⟩,
 ⟨some 14, none, .bin .lss (.t 11) (.t 13)⟩])
 (.cond (.t 14) .skip (.exit 0)))
 (.seq (.block 1 none none
 (.seq (.reg true [⟨some 17, none, .mov (.t 0)⟩,
 ⟨some 18, none, .mov (.t 5)⟩,
 ⟨some 19, none, .ixs (.t 17) (.t 18) 1⟩,
 ⟨some 20, none, .load1 (.t 19)⟩,
 ⟨some 21, none, .mov (.t 1)⟩,
 ⟨some 22, none, .mov (.t 5)⟩,
 ⟨some 23, none, .ixs (.t 21) (.t 22) 1⟩,
 ⟨some 24, none, .load1 (.t 23)⟩,
 ⟨some 25, none, .bin .neq (.t 20) (.t 24)⟩])
 (.cond (.t 25) (.seq (.reg false [⟨some 4, none, .mov (.k (.c (.bool false)))⟩])
 (.ret (some [4]))) .skip)))
 (.reg false [⟨some 15, none, .mov (.t 5)⟩,
 ⟨some 16, none, .bin .add (.t 15) (.k (.c (.int .i64 1)))⟩,
 ⟨some 5, none, .mov (.t 16)⟩])))
def c_laws_sameInts : IFn := ⟨26, [.t 4],
  (.seq (.reg false [⟨some 4, none, .mov (.k (.c (.bool false)))⟩])
 (.seq (.seq (.reg false [⟨some 6, none, .mov (.t 0)⟩,
 ⟨some 7, none, .len (.t 6)⟩,
 ⟨some 8, none, .mov (.t 1)⟩,
 ⟨some 9, none, .len (.t 8)⟩,
 ⟨some 10, none, .bin .neq (.t 7) (.t 9)⟩])
 (.cond (.t 10) (.seq (.reg false [⟨some 4, none, .mov (.k (.c (.bool false)))⟩])
 (.ret (some [4]))) .skip))
 (.seq (.seq (.reg false [⟨some 5, none, .mov (.k (.c (.int .i64 0)))⟩])
 (.block 0 (some [0, 1, 5]) (some [])
 (.loop c_laws_sameInts_b0)))
 (.seq (.reg false [⟨some 4, none, .mov (.k (.c (.bool true)))⟩])
 (.ret (some [4]))))))⟩
theorem c_laws_sameInts_ok : trF Try.prog ⟨[(0, [0, 1, 5], [])], [4], false⟩ Try.f40 = some c_laws_sameInts := by kernel_rfl
def c_impl_RingTake : IFn := ⟨36, [.cell 2 10 true, .t 3, .t 4],
  (.seq (.reg false [⟨some 1, none, .box (.t 0) 32⟩,
 ⟨some 2, none, .alloc [.int .i64 0, .int .i64 0, .int .i64 0, .int .i64 0, .int .i64 0, .int .i64 0, .int .i64 0, .int .i64 0, .int .i64 0, .int .i64 0] 32⟩,
 ⟨some 3, none, .mov (.k (.c (.int .i64 0)))⟩,
 ⟨some 4, none, .mov (.k (.c (.int .i64 0)))⟩])
 (.seq (.block 0 none none
 (.seq (.reg false [⟨some 7, none, .loadN (.t 1) 10⟩,
 ⟨some 8, none, .call 39 [.t 7]⟩,
 ⟨some 9, none, .un .not (.t 8)⟩,
 ⟨some 6, none, .mov (.t 9)⟩])
 (.cond (.t 6) (.seq (.reg false [⟨some 10, none, .loadN (.t 1) 10⟩,
 ⟨none, none, .store (.t 2) (.t 10) 10⟩,
 ⟨some 3, none, .mov (.k (.c (.int .i64 0)))⟩,
 ⟨some 4, none, .mov (.k (.c (.int .i64 1)))⟩])
 (.ret (some [2, 3, 4]))) (.seq (.reg false [⟨some 12, none, .fld (.t 1) 9⟩,
 ⟨some 13, none, .load1 (.t 12)⟩,
 ⟨some 14, none, .bin .eql (.t 13) (.k (.c (.int .i64 0)))⟩,
 ⟨some 11, none, .mov (.t 14)⟩])
 (.cond (.t 11) (.seq (.reg false [⟨some 15, none, .loadN (.t 1) 10⟩,
 ⟨none, none, .store (.t 2) (.t 15) 10⟩,
 ⟨some 3, none, .mov (.k (.c (.int .i64 0)))⟩,
 ⟨some 4, none, .mov (.k (.c (.int .i64 3)))⟩])
 (.ret (some [2, 3, 4]))) .skip)))))
 (.seq (.reg false [⟨some 16, none, .fld (.t 1) 8⟩,
 ⟨some 17, none, .load1 (.t 16)⟩,
 ⟨some 18, none, .fld (.t 1) 0⟩,
 ⟨some 19, none, .ixa (.t 18) (.t 17) 8 1⟩,
 ⟨some 20, none, .load1 (.t 19)⟩,
 ⟨some 5, none, .mov (.t 20)⟩])
 (.seq (.reg false [⟨some 21, none, .fld (.t 1) 8⟩,
 ⟨some 22, none, .load1 (.t 21)⟩,
 ⟨some 23, none, .fld (.t 1) 0⟩,
 ⟨some 24, none, .ixa (.t 23) (.t 22) 8 1⟩,
 ⟨none, none, .store (.t 24) (.k (.c (.int .i64 0))) 1⟩])
 (.seq (.reg false [⟨some 25, none, .fld (.t 1) 8⟩,
 ⟨some 26, none, .load1 (.t 25)⟩,
 ⟨some 27, none, .bin .add (.t 26) (.k (.c (.int .i64 1)))⟩,
 ⟨some 28, none, .bin .rem (.t 27) (.k (.c (.int .i64 8)))⟩,
 ⟨some 29, none, .fld (.t 1) 8⟩,
 ⟨none, none, .store (.t 29) (.t 28) 1⟩])
 (.seq (.reg false [⟨some 30, none, .fld (.t 1) 9⟩,
 ⟨some 31, none, .load1 (.t 30)⟩,
 ⟨some 32, none, .bin .sub (.t 31) (.k (.c (.int .i64 1)))⟩,
 ⟨some 33, none, .fld (.t 1) 9⟩,
 ⟨none, none, .store (.t 33) (.t 32) 1⟩])
 (.seq (.reg false [⟨some 34, none, .loadN (.t 1) 10⟩,
 ⟨some 35, none, .mov (.t 5)⟩,
 ⟨none, none, .store (.t 2) (.t 34) 10⟩,
 ⟨some 3, none, .mov (.t 35)⟩,
 ⟨some 4, none, .mov (.k (.c (.int .i64 0)))⟩])
 (.ret (some [2, 3, 4])))))))))⟩
theorem c_impl_RingTake_ok : trF Try.prog ⟨[], [2, 3, 4], false⟩ Try.f41 = some c_impl_RingTake := by kernel_rfl
def c_laws_at : IFn := ⟨20, [.t 4],
  (.seq (.reg false [⟨some 4, none, .mov (.k (.c (.int .i64 0)))⟩])
 (.seq (.seq (.reg false [⟨some 5, none, .mov (.t 1)⟩,
 ⟨some 6, none, .mov (.t 0)⟩,
 ⟨some 7, none, .len (.t 6)⟩,
 ⟨some 8, none, .bin .lss (.t 5) (.t 7)⟩])
 (.cond (.t 8) (.seq (.reg false [⟨some 9, none, .mov (.t 0)⟩,
 ⟨some 10, none, .mov (.t 1)⟩,
 ⟨some 11, none, .ixs (.t 9) (.t 10) 1⟩,
 ⟨some 12, none, .load1 (.t 11)⟩,
 ⟨some 13, none, .cvt .i64 (.t 12)⟩,
 ⟨some 4, none, .mov (.t 13)⟩])
 (.ret (some [4]))) .skip))
 (.seq (.reg false [⟨some 14, none, .mov (.t 1)⟩,
 ⟨some 15, none, .bin .mul (.t 14) (.k (.c (.int .i64 7)))⟩,
 ⟨some 16, none, .mov (.t 0)⟩,
 ⟨some 17, none, .len (.t 16)⟩,
 ⟨some 18, none, .bin .add (.t 15) (.t 17)⟩,
 ⟨some 19, none, .bin .rem (.t 18) (.k (.c (.int .i64 256)))⟩,
 ⟨some 4, none, .mov (.t 19)⟩])
 (.ret (some [4])))))⟩
theorem c_laws_at_ok : trF Try.prog ⟨[], [4], false⟩ Try.f42 = some c_laws_at := by kernel_rfl
def c_impl_RingTurn_b0 : IC :=
  (.seq (.reg false [⟨some 20, none, .bin .lss (.t 19) (.t 18)⟩])
 (.seq (.cond (.t 20) .skip (.exit 0))
 (.seq (.block 1 none none
 (.seq (.reg false [⟨some 22, none, .loadN (.t 2) 10⟩,
 ⟨some 23, none, .call 41 [.t 22]⟩,
 ⟨some 21, none, .mov (.t 23)⟩,
 ⟨some 24, none, .ext (.t 21) 0⟩,
 ⟨some 25, none, .ext (.t 21) 1⟩,
 ⟨some 26, none, .ext (.t 21) 2⟩,
 ⟨some 6, none, .alloc [.int .i64 0, .int .i64 0, .int .i64 0, .int .i64 0, .int .i64 0, .int .i64 0, .int .i64 0, .int .i64 0, .int .i64 0, .int .i64 0] 32⟩,
 ⟨none, none, .store (.t 6) (.t 24) 10⟩,
 ⟨some 7, none, .mov (.t 25)⟩,
 ⟨some 8, none, .mov (.t 26)⟩])
 (.seq (.reg false [⟨some 27, none, .mov (.t 8)⟩,
 ⟨some 28, none, .bin .eql (.t 27) (.k (.c (.int .i64 0)))⟩])
 (.cond (.t 28) (.reg false [⟨some 30, none, .loadN (.t 6) 10⟩,
 ⟨some 31, none, .mov (.t 7)⟩,
 ⟨some 32, none, .call 38 [.t 30, .t 31]⟩,
 ⟨some 29, none, .mov (.t 32)⟩,
 ⟨some 33, none, .ext (.t 29) 0⟩,
 ⟨some 34, none, .ext (.t 29) 1⟩,
 ⟨none, none, .store (.t 2) (.t 33) 10⟩]) .skip))))
 (.reg false [⟨some 35, none, .bin .add (.t 19) (.k (.c (.int .i64 1)))⟩,
 ⟨some 19, none, .mov (.t 35)⟩]))))
def c_impl_RingTurn : IFn := ⟨37, [.cell 4 10 true, .t 5],
  (.seq (.reg false [⟨some 2, none, .box (.t 0) 32⟩,
 ⟨some 4, none, .alloc [.int .i64 0, .int .i64 0, .int .i64 0, .int .i64 0, .int .i64 0, .int .i64 0, .int .i64 0, .int .i64 0, .int .i64 0, .int .i64 0] 32⟩,
 ⟨some 5, none, .mov (.k (.c (.int .i64 0)))⟩])
 (.seq (.seq (.reg false [⟨some 9, none, .loadN (.t 2) 10⟩,
 ⟨some 10, none, .call 39 [.t 9]⟩,
 ⟨some 11, none, .un .not (.t 10)⟩,
 ⟨some 12, none, .mov (.t 11)⟩,
 ⟨some 13, some (12, false), .mov (.t 1)⟩,
 ⟨some 14, some (12, false), .call 73 [.t 13, .k (.c (.int .i64 0)), .k (.c (.int .i64 1000))]⟩,
 ⟨some 15, some (12, false), .un .not (.t 14)⟩,
 ⟨some 16, none, .pick (.t 12) (.k (.c (.bool true))) (.t 15)⟩])
 (.cond (.t 16) (.seq (.reg false [⟨some 17, none, .loadN (.t 2) 10⟩,
 ⟨none, none, .store (.t 4) (.t 17) 10⟩,
 ⟨some 5, none, .mov (.k (.c (.int .i64 1)))⟩])
 (.ret (some [4, 5]))) .skip))
 (.seq (.seq (.reg false [⟨some 18, none, .mov (.t 1)⟩,
 ⟨some 19, none, .mov (.k (.c (.int .i64 0)))⟩])
 (.block 0 (some [2, 4, 18, 19]) (some [2, 4])
 (.loop c_impl_RingTurn_b0)))
 (.seq (.reg false [⟨some 36, none, .loadN (.t 2) 10⟩,
 ⟨none, none, .store (.t 4) (.t 36) 10⟩,
 ⟨some 5, none, .mov (.k (.c (.int .i64 0)))⟩])
 (.ret (some [4, 5]))))))⟩
theorem c_impl_RingTurn_ok : trF Try.prog ⟨[(0, [2, 4, 18, 19], [2, 4])], [4, 5], false⟩ Try.f43 = some c_impl_RingTurn := by kernel_rfl
def c_spec_SetDrop_b0 : IC :=
  (.seq (.seq (.reg false [⟨some 33, none, .mov (.t 8)⟩,
 ⟨some 34, none, .mov (.t 0)⟩,
 ⟨some 35, none, .mov (.t 7)⟩,
 ⟨some 36, none, .ixs (.t 34) (.t 35) 1⟩,
 ⟨some 37, none, .load1 (.t 36)⟩,
 ⟨some 38, none, .len (.t 37)⟩,
 ⟨some 39, none, .bin .lss (.t 33) (.t 38)⟩])
 (.cond (.t 39) .skip (.exit 0)))
 (.seq (.block 1 none none
 (.seq (.reg false [⟨some 42, none, .mov (.t 0)⟩,
 ⟨some 43, none, .mov (.t 7)⟩,
 ⟨some 44, none, .ixs (.t 42) (.t 43) 1⟩,
 ⟨some 45, none, .load1 (.t 44)⟩,
 ⟨some 46, none, .mov (.t 8)⟩,
 ⟨some 47, none, .ixs (.t 45) (.t 46) 1⟩,
 ⟨some 48, none, .load1 (.t 47)⟩,
 ⟨some 49, none, .mov (.t 1)⟩,
 ⟨some 50, none, .bin .neq (.t 48) (.t 49)⟩])
 (.cond (.t 50) (.regE 1 [⟨⟨some 51, none, .mov (.t 6)⟩, 0, 0, false, []⟩,
 ⟨⟨some 52, none, .mov (.t 7)⟩, 1, 0, false, []⟩,
 ⟨⟨some 53, none, .mov (.t 6)⟩, 2, 0, false, []⟩,
 ⟨⟨some 54, none, .mov (.t 7)⟩, 3, 0, false, []⟩,
 ⟨⟨some 55, none, .ixs (.t 53) (.t 54) 1⟩, 4, 0, false, []⟩,
 ⟨⟨some 56, none, .load1 (.t 55)⟩, 5, 0, false, []⟩,
 ⟨⟨some 57, none, .mov (.t 0)⟩, 6, 0, false, []⟩,
 ⟨⟨some 58, none, .mov (.t 7)⟩, 7, 0, false, []⟩,
 ⟨⟨some 59, none, .ixs (.t 57) (.t 58) 1⟩, 8, 0, false, []⟩,
 ⟨⟨some 60, none, .load1 (.t 59)⟩, 9, 0, false, []⟩,
 ⟨⟨some 61, none, .mov (.t 8)⟩, 10, 0, false, []⟩,
 ⟨⟨some 62, none, .ixs (.t 60) (.t 61) 1⟩, 11, 0, false, []⟩,
 ⟨⟨some 63, none, .load1 (.t 62)⟩, 12, 0, false, []⟩,
 ⟨⟨some 64, none, .lit 1 1 [.int .i64 0] [(0, .t 63)] 3⟩, 13, 0, false, [4, 5]⟩,
 ⟨⟨some 65, none, .app (.t 56) (.t 64) 3 1 8⟩, 14, 1, false, []⟩,
 ⟨⟨some 66, none, .ixs (.t 51) (.t 52) 1⟩, 15, 1, false, []⟩,
 ⟨⟨none, none, .store (.t 66) (.t 65) 1⟩, 16, 1, false, []⟩]) .skip)))
 (.reg false [⟨some 40, none, .mov (.t 8)⟩,
 ⟨some 41, none, .bin .add (.t 40) (.k (.c (.int .i64 1)))⟩,
 ⟨some 8, none, .mov (.t 41)⟩])))
def c_spec_SetDrop : IFn := ⟨68, [.t 4, .t 5],
  (.seq (.reg false [⟨some 4, none, .mov (.k (.c .nils))⟩,
 ⟨some 5, none, .mov (.k (.c (.int .i64 0)))⟩])
 (.seq (.reg false [⟨some 9, none, .mov (.t 0)⟩,
 ⟨some 10, none, .call 85 [.t 9]⟩,
 ⟨some 6, none, .mov (.t 10)⟩])
 (.seq (.seq (.reg false [⟨some 11, none, .mov (.t 0)⟩,
 ⟨some 12, none, .call 16 [.t 11]⟩,
 ⟨some 13, none, .un .not (.t 12)⟩,
 ⟨some 14, none, .mov (.t 13)⟩,
 ⟨some 15, some (14, false), .mov (.t 1)⟩,
 ⟨some 16, some (14, false), .call 61 [.t 15]⟩,
 ⟨some 17, some (14, false), .un .not (.t 16)⟩,
 ⟨some 18, none, .pick (.t 14) (.k (.c (.bool true))) (.t 17)⟩])
 (.cond (.t 18) (.seq (.reg false [⟨some 19, none, .mov (.t 6)⟩,
 ⟨some 4, none, .mov (.t 19)⟩,
 ⟨some 5, none, .mov (.k (.c (.int .i64 1)))⟩])
 (.ret (some [4, 5]))) .skip))
 (.seq (.seq (.reg false [⟨some 20, none, .mov (.t 0)⟩,
 ⟨some 21, none, .mov (.t 1)⟩,
 ⟨some 22, none, .call 26 [.t 20, .t 21]⟩,
 ⟨some 23, none, .un .not (.t 22)⟩])
 (.cond (.t 23) (.seq (.reg false [⟨some 24, none, .mov (.t 6)⟩,
 ⟨some 4, none, .mov (.t 24)⟩,
 ⟨some 5, none, .mov (.k (.c (.int .i64 4)))⟩])
 (.ret (some [4, 5]))) .skip))
 (.seq (.reg false [⟨some 25, none, .mov (.t 1)⟩,
 ⟨some 26, none, .mov (.t 0)⟩,
 ⟨some 27, none, .len (.t 26)⟩,
 ⟨some 28, none, .call 62 [.t 25, .t 27]⟩,
 ⟨some 7, none, .mov (.t 28)⟩])
 (.seq (.reg false [⟨some 29, none, .mov (.t 6)⟩,
 ⟨some 30, none, .mov (.t 7)⟩,
 ⟨some 31, none, .lit 0 1 [.int .i64 0] [] 3⟩,
 ⟨some 32, none, .ixs (.t 29) (.t 30) 1⟩,
 ⟨none, none, .store (.t 32) (.t 31) 1⟩])
 (.seq (.seq (.reg false [⟨some 8, none, .mov (.k (.c (.int .i64 0)))⟩])
 (.block 0 (some [0, 1, 6, 7, 8]) (some [6])
 (.loop c_spec_SetDrop_b0)))
 (.seq (.reg false [⟨some 67, none, .mov (.t 6)⟩,
 ⟨some 4, none, .mov (.t 67)⟩,
 ⟨some 5, none, .mov (.k (.c (.int .i64 0)))⟩])
 (.ret (some [4, 5]))))))))))⟩
theorem c_spec_SetDrop_ok : trF Try.prog ⟨[(0, [0, 1, 6, 7, 8], [6])], [4, 5], false⟩ Try.f44 = some c_spec_SetDrop := by kernel_rfl
def c_impl_SetDrop : IFn := ⟨40, [.t 4, .t 5],
  (.seq (.reg false [⟨some 3, none, .box (.t 1) 3⟩,
 ⟨some 4, none, .mov (.k (.c .nils))⟩,
 ⟨some 5, none, .mov (.k (.c (.int .i64 0)))⟩])
 (.seq (.reg false [⟨some 8, none, .mov (.t 0)⟩,
 ⟨some 9, none, .call 86 [.t 8]⟩,
 ⟨some 6, none, .mov (.t 9)⟩])
 (.seq (.block 0 none none
 (.seq (.reg false [⟨some 11, none, .mov (.t 0)⟩,
 ⟨some 12, none, .call 18 [.t 11]⟩,
 ⟨some 13, none, .un .not (.t 12)⟩,
 ⟨some 14, none, .mov (.t 13)⟩,
 ⟨some 15, some (14, false), .load1 (.t 3)⟩,
 ⟨some 16, some (14, false), .call 64 [.t 15]⟩,
 ⟨some 17, some (14, false), .un .not (.t 16)⟩,
 ⟨some 18, none, .pick (.t 14) (.k (.c (.bool true))) (.t 17)⟩,
 ⟨some 10, none, .mov (.t 18)⟩])
 (.cond (.t 10) (.seq (.reg false [⟨some 19, none, .mov (.t 6)⟩,
 ⟨some 4, none, .mov (.t 19)⟩,
 ⟨some 5, none, .mov (.k (.c (.int .i64 1)))⟩])
 (.ret (some [4, 5]))) (.seq (.reg false [⟨some 21, none, .mov (.t 0)⟩,
 ⟨some 22, none, .load1 (.t 3)⟩,
 ⟨some 23, none, .call 69 [.t 21, .t 22]⟩,
 ⟨some 24, none, .un .not (.t 23)⟩,
 ⟨some 20, none, .mov (.t 24)⟩])
 (.cond (.t 20) (.seq (.reg false [⟨some 25, none, .mov (.t 6)⟩,
 ⟨some 4, none, .mov (.t 25)⟩,
 ⟨some 5, none, .mov (.k (.c (.int .i64 4)))⟩])
 (.ret (some [4, 5]))) .skip)))))
 (.seq (.reg false [⟨some 26, none, .load1 (.t 3)⟩,
 ⟨some 27, none, .mov (.t 0)⟩,
 ⟨some 28, none, .len (.t 27)⟩,
 ⟨some 29, none, .call 65 [.t 26, .t 28]⟩,
 ⟨some 7, none, .mov (.t 29)⟩])
 (.seq (.reg false [⟨some 30, none, .mov (.t 6)⟩,
 ⟨some 31, none, .mov (.t 7)⟩,
 ⟨some 32, none, .mov (.t 6)⟩,
 ⟨some 33, none, .mov (.t 7)⟩,
 ⟨some 34, none, .ixs (.t 32) (.t 33) 1⟩,
 ⟨some 35, none, .load1 (.t 34)⟩,
 ⟨some 36, none, .mkc 88 [.t 3]⟩,
 ⟨some 37, none, .call 87 [.t 35, .t 36]⟩,
 ⟨some 38, none, .ixs (.t 30) (.t 31) 1⟩,
 ⟨none, none, .store (.t 38) (.t 37) 1⟩])
 (.seq (.reg false [⟨some 39, none, .mov (.t 6)⟩,
 ⟨some 4, none, .mov (.t 39)⟩,
 ⟨some 5, none, .mov (.k (.c (.int .i64 0)))⟩])
 (.ret (some [4, 5]))))))))⟩
theorem c_impl_SetDrop_ok : trF Try.prog ⟨[], [4, 5], false⟩ Try.f45 = some c_impl_SetDrop := by kernel_rfl
def c_laws_markIntSS_b0 : IC :=
  (.seq (.seq (.reg false [⟨some 6, none, .mov (.t 5)⟩,
 ⟨some 7, none, .mov (.t 0)⟩,
 ⟨some 8, none, .len (.t 7)⟩,
 ⟨some 9, none, .bin .lss (.t 6) (.t 8)⟩])
 (.cond (.t 9) .skip (.exit 0)))
 (.seq (.block 1 none none
 (.reg false [⟨some 12, none, .mov (.t 0)⟩,
 ⟨some 13, none, .mov (.t 5)⟩,
 ⟨some 14, none, .ixs (.t 12) (.t 13) 1⟩,
 ⟨some 15, none, .load1 (.t 14)⟩,
 ⟨some 16, none, .mov (.t 1)⟩,
 ⟨some 17, none, .call 24 [.t 15, .t 16]⟩,
 ⟨some 1, none, .mov (.t 17)⟩]))
 (.reg false [⟨some 10, none, .mov (.t 5)⟩,
 ⟨some 11, none, .bin .add (.t 10) (.k (.c (.int .i64 1)))⟩,
 ⟨some 5, none, .mov (.t 11)⟩])))
def c_laws_markIntSS : IFn := ⟨19, [.t 4],
  (.seq (.reg false [⟨some 4, none, .mov (.k (.c (.int .i64 0)))⟩])
 (.seq (.seq (.reg false [⟨some 5, none, .mov (.k (.c (.int .i64 0)))⟩])
 (.block 0 (some [0, 1, 5]) (some [1])
 (.loop c_laws_markIntSS_b0)))
 (.seq (.reg false [⟨some 18, none, .mov (.t 1)⟩,
 ⟨some 4, none, .mov (.t 18)⟩])
 (.ret (some [4])))))⟩
theorem c_laws_markIntSS_ok : trF Try.prog ⟨[(0, [0, 1, 5], [1])], [4], false⟩ Try.f46 = some c_laws_markIntSS := by kernel_rfl
def c_laws_heldIntSS_b0 : IC :=
  (.seq (.seq (.reg false [⟨some 6, none, .mov (.t 5)⟩,
 ⟨some 7, none, .mov (.t 0)⟩,
 ⟨some 8, none, .len (.t 7)⟩,
 ⟨some 9, none, .bin .lss (.t 6) (.t 8)⟩])
 (.cond (.t 9) .skip (.exit 0)))
 (.seq (.block 1 none none
 (.seq (.reg false [⟨some 12, none, .mov (.t 0)⟩,
 ⟨some 13, none, .mov (.t 5)⟩,
 ⟨some 14, none, .ixs (.t 12) (.t 13) 1⟩,
 ⟨some 15, none, .load1 (.t 14)⟩,
 ⟨some 16, none, .mov (.t 1)⟩,
 ⟨some 17, none, .call 25 [.t 15, .t 16]⟩,
 ⟨some 1, none, .mov (.t 17)⟩])
 (.seq (.reg false [⟨some 18, none, .mov (.t 1)⟩,
 ⟨some 19, none, .bin .lss (.t 18) (.k (.c (.int .i64 0)))⟩])
 (.cond (.t 19) (.seq (.reg false [⟨some 4, none, .mov (.k (.c (.int .i64 (-1))))⟩])
 (.ret (some [4]))) .skip))))
 (.reg false [⟨some 10, none, .mov (.t 5)⟩,
 ⟨some 11, none, .bin .add (.t 10) (.k (.c (.int .i64 1)))⟩,
 ⟨some 5, none, .mov (.t 11)⟩])))
def c_laws_heldIntSS : IFn := ⟨21, [.t 4],
  (.seq (.reg false [⟨some 4, none, .mov (.k (.c (.int .i64 0)))⟩])
 (.seq (.seq (.reg false [⟨some 5, none, .mov (.k (.c (.int .i64 0)))⟩])
 (.block 0 (some [0, 1, 5]) (some [1])
 (.loop c_laws_heldIntSS_b0)))
 (.seq (.reg false [⟨some 20, none, .mov (.t 1)⟩,
 ⟨some 4, none, .mov (.t 20)⟩])
 (.ret (some [4])))))⟩
theorem c_laws_heldIntSS_ok : trF Try.prog ⟨[(0, [0, 1, 5], [1])], [4], false⟩ Try.f47 = some c_laws_heldIntSS := by kernel_rfl
def c_spec_TreeDrop_b0 : IC :=
  (.seq (.seq (.reg false [⟨some 63, none, .mov (.t 14)⟩,
 ⟨some 64, none, .fld (.t 2) 0⟩,
 ⟨some 65, none, .ixa (.t 64) (.t 63) 16 4⟩,
 ⟨some 66, none, .fld (.t 65) 2⟩,
 ⟨some 67, none, .load1 (.t 66)⟩,
 ⟨some 68, none, .bin .geq (.t 67) (.k (.c (.int .i64 0)))⟩])
 (.cond (.t 68) .skip (.exit 0)))
 (.block 1 none none
 (.seq (.reg false [⟨some 69, none, .mov (.t 14)⟩,
 ⟨some 13, none, .mov (.t 69)⟩])
 (.seq (.reg false [⟨some 70, none, .mov (.t 14)⟩,
 ⟨some 71, none, .fld (.t 2) 0⟩,
 ⟨some 72, none, .ixa (.t 71) (.t 70) 16 4⟩,
 ⟨some 73, none, .fld (.t 72) 2⟩,
 ⟨some 74, none, .load1 (.t 73)⟩,
 ⟨some 14, none, .mov (.t 74)⟩])
 (.reg false [⟨some 75, none, .mov (.t 12)⟩,
 ⟨some 76, none, .bin .add (.t 75) (.k (.c (.int .i64 1)))⟩,
 ⟨some 12, none, .mov (.t 76)⟩])))))
def c_spec_TreeDrop : IFn := ⟨135, [.cell 4 65 true, .t 5],
  (.seq (.reg false [⟨some 2, none, .box (.t 0) 51⟩,
 ⟨some 4, none, .alloc [.bool false, .int .i64 0, .int .i64 0, .int .i64 0, .bool false, .int .i64 0, .int .i64 0, .int .i64 0, .bool false, .int .i64 0, .int .i64 0, .int .i64 0, .bool false, .int .i64 0, .int .i64 0, .int .i64 0, .bool false, .int .i64 0, .int .i64 0, .int .i64 0, .bool false, .int .i64 0, .int .i64 0, .int .i64 0, .bool false, .int .i64 0, .int .i64 0, .int .i64 0, .bool false, .int .i64 0, .int .i64 0, .int .i64 0, .bool false, .int .i64 0, .int .i64 0, .int .i64 0, .bool false, .int .i64 0, .int .i64 0, .int .i64 0, .bool false, .int .i64 0, .int .i64 0, .int .i64 0, .bool false, .int .i64 0, .int .i64 0, .int .i64 0, .bool false, .int .i64 0, .int .i64 0, .int .i64 0, .bool false, .int .i64 0, .int .i64 0, .int .i64 0, .bool false, .int .i64 0, .int .i64 0, .int .i64 0, .bool false, .int .i64 0, .int .i64 0, .int .i64 0, .int .i64 0] 51⟩,
 ⟨some 5, none, .mov (.k (.c (.int .i64 0)))⟩])
 (.seq (.seq (.reg false [⟨some 16, none, .loadN (.t 2) 65⟩,
 ⟨some 17, none, .call 89 [.t 16]⟩,
 ⟨some 18, none, .un .not (.t 17)⟩,
 ⟨some 19, none, .mov (.t 18)⟩,
 ⟨some 20, some (19, false), .mov (.t 1)⟩,
 ⟨some 21, some (19, false), .call 61 [.t 20]⟩,
 ⟨some 22, some (19, false), .un .not (.t 21)⟩,
 ⟨some 23, none, .pick (.t 19) (.k (.c (.bool true))) (.t 22)⟩])
 (.cond (.t 23) (.seq (.reg false [⟨some 24, none, .loadN (.t 2) 65⟩,
 ⟨none, none, .store (.t 4) (.t 24) 65⟩,
 ⟨some 5, none, .mov (.k (.c (.int .i64 1)))⟩])
 (.ret (some [4, 5]))) .skip))
 (.seq (.reg false [⟨some 26, none, .loadN (.t 2) 65⟩,
 ⟨some 27, none, .mov (.t 1)⟩,
 ⟨some 28, none, .call 90 [.t 26, .t 27]⟩,
 ⟨some 25, none, .mov (.t 28)⟩,
 ⟨some 29, none, .ext (.t 25) 0⟩,
 ⟨some 30, none, .ext (.t 25) 1⟩,
 ⟨some 31, none, .ext (.t 25) 2⟩,
 ⟨some 6, none, .mov (.t 29)⟩,
 ⟨some 7, none, .mov (.t 30)⟩,
 ⟨some 8, none, .mov (.t 31)⟩])
 (.seq (.seq (.reg false [⟨some 32, none, .mov (.t 8)⟩,
 ⟨some 33, none, .un .not (.t 32)⟩])
 (.cond (.t 33) (.seq (.reg false [⟨some 34, none, .loadN (.t 2) 65⟩,
 ⟨none, none, .store (.t 4) (.t 34) 65⟩,
 ⟨some 5, none, .mov (.k (.c (.int .i64 2)))⟩])
 (.ret (some [4, 5]))) .skip))
 (.seq (.seq (.reg false [⟨some 35, none, .mov (.t 7)⟩,
 ⟨some 36, none, .un .not (.t 35)⟩])
 (.cond (.t 36) (.seq (.reg false [⟨some 37, none, .loadN (.t 2) 65⟩,
 ⟨none, none, .store (.t 4) (.t 37) 65⟩,
 ⟨some 5, none, .mov (.k (.c (.int .i64 5)))⟩])
 (.ret (some [4, 5]))) .skip))
 (.seq (.reg false [⟨some 38, none, .loadN (.t 2) 65⟩,
 ⟨some 9, none, .alloc [.bool false, .int .i64 0, .int .i64 0, .int .i64 0, .bool false, .int .i64 0, .int .i64 0, .int .i64 0, .bool false, .int .i64 0, .int .i64 0, .int .i64 0, .bool false, .int .i64 0, .int .i64 0, .int .i64 0, .bool false, .int .i64 0, .int .i64 0, .int .i64 0, .bool false, .int .i64 0, .int .i64 0, .int .i64 0, .bool false, .int .i64 0, .int .i64 0, .int .i64 0, .bool false, .int .i64 0, .int .i64 0, .int .i64 0, .bool false, .int .i64 0, .int .i64 0, .int .i64 0, .bool false, .int .i64 0, .int .i64 0, .int .i64 0, .bool false, .int .i64 0, .int .i64 0, .int .i64 0, .bool false, .int .i64 0, .int .i64 0, .int .i64 0, .bool false, .int .i64 0, .int .i64 0, .int .i64 0, .bool false, .int .i64 0, .int .i64 0, .int .i64 0, .bool false, .int .i64 0, .int .i64 0, .int .i64 0, .bool false, .int .i64 0, .int .i64 0, .int .i64 0, .int .i64 0] 51⟩,
 ⟨none, none, .store (.t 9) (.t 38) 65⟩])
 (.seq (.reg false [⟨some 39, none, .mov (.t 6)⟩,
 ⟨some 40, none, .mov (.t 6)⟩,
 ⟨some 41, none, .len (.t 40)⟩,
 ⟨some 42, none, .bin .sub (.t 41) (.k (.c (.int .i64 1)))⟩,
 ⟨some 43, none, .ixs (.t 39) (.t 42) 1⟩,
 ⟨some 44, none, .load1 (.t 43)⟩,
 ⟨some 10, none, .mov (.t 44)⟩])
 (.seq (.reg false [⟨some 45, none, .mov (.t 10)⟩,
 ⟨some 46, none, .fld (.t 2) 0⟩,
 ⟨some 47, none, .ixa (.t 46) (.t 45) 16 4⟩,
 ⟨some 48, none, .loadN (.t 47) 4⟩,
 ⟨some 11, none, .alloc [.bool false, .int .i64 0, .int .i64 0, .int .i64 0] 48⟩,
 ⟨none, none, .store (.t 11) (.t 48) 4⟩])
 (.seq (.seq (.reg false [⟨some 49, none, .fld (.t 11) 2⟩,
 ⟨some 50, none, .load1 (.t 49)⟩,
 ⟨some 51, none, .bin .geq (.t 50) (.k (.c (.int .i64 0)))⟩,
 ⟨some 52, none, .mov (.t 51)⟩,
 ⟨some 53, some (52, true), .fld (.t 11) 3⟩,
 ⟨some 54, some (52, true), .load1 (.t 53)⟩,
 ⟨some 55, some (52, true), .bin .geq (.t 54) (.k (.c (.int .i64 0)))⟩,
 ⟨some 56, none, .pick (.t 52) (.t 55) (.k (.c (.bool false)))⟩])
 (.cond (.t 56) (.seq (.reg false [⟨some 57, none, .mov (.t 6)⟩,
 ⟨some 58, none, .len (.t 57)⟩,
 ⟨some 59, none, .bin .add (.t 58) (.k (.c (.int .i64 1)))⟩,
 ⟨some 12, none, .mov (.t 59)⟩])
 (.seq (.reg true [⟨some 60, none, .mov (.t 10)⟩,
 ⟨some 61, none, .fld (.t 11) 3⟩,
 ⟨some 62, none, .load1 (.t 61)⟩,
 ⟨some 13, none, .mov (.t 60)⟩,
 ⟨some 14, none, .mov (.t 62)⟩])
 (.seq (.block 0 (some [2, 4, 9, 10, 12, 13, 14]) (some [2, 4, 9, 10, 12, 13, 14])
 (.loop c_spec_TreeDrop_b0))
 (.seq (.seq (.reg false [⟨some 77, none, .mov (.t 12)⟩,
 ⟨some 78, none, .bin .gtr (.t 77) (.k (.c (.int .i64 8)))⟩])
 (.cond (.t 78) (.seq (.reg false [⟨some 79, none, .loadN (.t 9) 65⟩,
 ⟨none, none, .store (.t 4) (.t 79) 65⟩,
 ⟨some 5, none, .mov (.k (.c (.int .i64 2)))⟩])
 (.ret (some [4, 5]))) .skip))
 (.seq (.reg false [⟨some 80, none, .mov (.t 10)⟩,
 ⟨some 81, none, .mov (.t 14)⟩,
 ⟨some 82, none, .fld (.t 2) 0⟩,
 ⟨some 83, none, .ixa (.t 82) (.t 81) 16 4⟩,
 ⟨some 84, none, .fld (.t 83) 1⟩,
 ⟨some 85, none, .load1 (.t 84)⟩,
 ⟨some 86, none, .fld (.t 2) 0⟩,
 ⟨some 87, none, .ixa (.t 86) (.t 80) 16 4⟩,
 ⟨some 88, none, .fld (.t 87) 1⟩,
 ⟨none, none, .store (.t 88) (.t 85) 1⟩])
 (.seq (.seq (.reg false [⟨some 89, none, .mov (.t 13)⟩,
 ⟨some 90, none, .mov (.t 10)⟩,
 ⟨some 91, none, .bin .eql (.t 89) (.t 90)⟩])
 (.cond (.t 91) (.reg false [⟨some 92, none, .mov (.t 10)⟩,
 ⟨some 93, none, .mov (.t 14)⟩,
 ⟨some 94, none, .fld (.t 2) 0⟩,
 ⟨some 95, none, .ixa (.t 94) (.t 93) 16 4⟩,
 ⟨some 96, none, .fld (.t 95) 3⟩,
 ⟨some 97, none, .load1 (.t 96)⟩,
 ⟨some 98, none, .fld (.t 2) 0⟩,
 ⟨some 99, none, .ixa (.t 98) (.t 92) 16 4⟩,
 ⟨some 100, none, .fld (.t 99) 3⟩,
 ⟨none, none, .store (.t 100) (.t 97) 1⟩]) (.reg false [⟨some 101, none, .mov (.t 13)⟩,
 ⟨some 102, none, .mov (.t 14)⟩,
 ⟨some 103, none, .fld (.t 2) 0⟩,
 ⟨some 104, none, .ixa (.t 103) (.t 102) 16 4⟩,
 ⟨some 105, none, .fld (.t 104) 3⟩,
 ⟨some 106, none, .load1 (.t 105)⟩,
 ⟨some 107, none, .fld (.t 2) 0⟩,
 ⟨some 108, none, .ixa (.t 107) (.t 101) 16 4⟩,
 ⟨some 109, none, .fld (.t 108) 2⟩,
 ⟨none, none, .store (.t 109) (.t 106) 1⟩])))
 (.seq (.reg false [⟨some 110, none, .mov (.t 14)⟩,
 ⟨some 111, none, .bld [.bool false, .int .i64 0, .int .i64 0, .int .i64 0] []⟩,
 ⟨some 112, none, .fld (.t 2) 0⟩,
 ⟨some 113, none, .ixa (.t 112) (.t 110) 16 4⟩,
 ⟨none, none, .store (.t 113) (.t 111) 4⟩])
 (.seq (.reg false [⟨some 114, none, .loadN (.t 2) 65⟩,
 ⟨none, none, .store (.t 4) (.t 114) 65⟩,
 ⟨some 5, none, .mov (.k (.c (.int .i64 0)))⟩])
 (.ret (some [4, 5])))))))))) .skip))
 (.seq (.reg false [⟨some 115, none, .fld (.t 11) 2⟩,
 ⟨some 116, none, .load1 (.t 115)⟩,
 ⟨some 15, none, .mov (.t 116)⟩])
 (.seq (.seq (.reg false [⟨some 117, none, .mov (.t 15)⟩,
 ⟨some 118, none, .bin .lss (.t 117) (.k (.c (.int .i64 0)))⟩])
 (.cond (.t 118) (.reg false [⟨some 119, none, .fld (.t 11) 3⟩,
 ⟨some 120, none, .load1 (.t 119)⟩,
 ⟨some 15, none, .mov (.t 120)⟩]) .skip))
 (.seq (.regE 0 [⟨⟨some 121, none, .loadN (.t 2) 65⟩, 0, 0, false, []⟩,
 ⟨⟨some 122, none, .mov (.t 6)⟩, 1, 0, false, []⟩,
 ⟨⟨some 123, none, .mov (.t 6)⟩, 2, 0, false, []⟩,
 ⟨⟨some 124, none, .len (.t 123)⟩, 3, 0, false, []⟩,
 ⟨⟨some 125, none, .bin .sub (.t 124) (.k (.c (.int .i64 1)))⟩, 4, 0, false, []⟩,
 ⟨⟨some 126, none, .sls (.t 122) 1 none (some (.t 125))⟩, 5, 0, false, []⟩,
 ⟨⟨some 127, none, .mov (.t 1)⟩, 6, 0, false, []⟩,
 ⟨⟨some 128, none, .mov (.t 15)⟩, 7, 0, false, []⟩,
 ⟨⟨some 129, none, .call 91 [.t 121, .t 126, .t 127, .t 128]⟩, 8, 0, false, []⟩,
 ⟨⟨none, none, .store (.t 2) (.t 129) 65⟩, 9, 0, false, []⟩])
 (.seq (.reg false [⟨some 130, none, .mov (.t 10)⟩,
 ⟨some 131, none, .bld [.bool false, .int .i64 0, .int .i64 0, .int .i64 0] []⟩,
 ⟨some 132, none, .fld (.t 2) 0⟩,
 ⟨some 133, none, .ixa (.t 132) (.t 130) 16 4⟩,
 ⟨none, none, .store (.t 133) (.t 131) 4⟩])
 (.seq (.reg false [⟨some 134, none, .loadN (.t 2) 65⟩,
 ⟨none, none, .store (.t 4) (.t 134) 65⟩,
 ⟨some 5, none, .mov (.k (.c (.int .i64 0)))⟩])
 (.ret (some [4, 5]))))))))))))))))⟩
theorem c_spec_TreeDrop_ok : trF Try.prog ⟨[(0, [2, 4, 9, 10, 12, 13, 14], [2, 4, 9, 10, 12, 13, 14])], [4, 5], false⟩ Try.f48 = some c_spec_TreeDrop := by kernel_rfl
def c_laws_toTree : IFn := ⟨12, [.cell 2 65 true],
  (.seq (.reg false [⟨some 1, none, .box (.t 0) 72⟩,
 ⟨some 2, none, .alloc [.bool false, .int .i64 0, .int .i64 0, .int .i64 0, .bool false, .int .i64 0, .int .i64 0, .int .i64 0, .bool false, .int .i64 0, .int .i64 0, .int .i64 0, .bool false, .int .i64 0, .int .i64 0, .int .i64 0, .bool false, .int .i64 0, .int .i64 0, .int .i64 0, .bool false, .int .i64 0, .int .i64 0, .int .i64 0, .bool false, .int .i64 0, .int .i64 0, .int .i64 0, .bool false, .int .i64 0, .int .i64 0, .int .i64 0, .bool false, .int .i64 0, .int .i64 0, .int .i64 0, .bool false, .int .i64 0, .int .i64 0, .int .i64 0, .bool false, .int .i64 0, .int .i64 0, .int .i64 0, .bool false, .int .i64 0, .int .i64 0, .int .i64 0, .bool false, .int .i64 0, .int .i64 0, .int .i64 0, .bool false, .int .i64 0, .int .i64 0, .int .i64 0, .bool false, .int .i64 0, .int .i64 0, .int .i64 0, .bool false, .int .i64 0, .int .i64 0, .int .i64 0, .int .i64 0] 51⟩])
 (.seq (.reg false [⟨some 3, none, .alloc [.bool false, .int .i64 0, .int .i64 0, .int .i64 0, .bool false, .int .i64 0, .int .i64 0, .int .i64 0, .bool false, .int .i64 0, .int .i64 0, .int .i64 0, .bool false, .int .i64 0, .int .i64 0, .int .i64 0, .bool false, .int .i64 0, .int .i64 0, .int .i64 0, .bool false, .int .i64 0, .int .i64 0, .int .i64 0, .bool false, .int .i64 0, .int .i64 0, .int .i64 0, .bool false, .int .i64 0, .int .i64 0, .int .i64 0, .bool false, .int .i64 0, .int .i64 0, .int .i64 0, .bool false, .int .i64 0, .int .i64 0, .int .i64 0, .bool false, .int .i64 0, .int .i64 0, .int .i64 0, .bool false, .int .i64 0, .int .i64 0, .int .i64 0, .bool false, .int .i64 0, .int .i64 0, .int .i64 0, .bool false, .int .i64 0, .int .i64 0, .int .i64 0, .bool false, .int .i64 0, .int .i64 0, .int .i64 0, .bool false, .int .i64 0, .int .i64 0, .int .i64 0, .int .i64 0] 51⟩])
 (.seq (.reg false [⟨some 4, none, .fld (.t 1) 0⟩,
 ⟨some 5, none, .loadN (.t 4) 64⟩,
 ⟨some 6, none, .call 92 [.t 5]⟩,
 ⟨some 7, none, .fld (.t 3) 0⟩,
 ⟨none, none, .store (.t 7) (.t 6) 64⟩])
 (.seq (.reg false [⟨some 8, none, .fld (.t 1) 64⟩,
 ⟨some 9, none, .load1 (.t 8)⟩,
 ⟨some 10, none, .fld (.t 3) 64⟩,
 ⟨none, none, .store (.t 10) (.t 9) 1⟩])
 (.seq (.reg false [⟨some 11, none, .loadN (.t 3) 65⟩,
 ⟨none, none, .store (.t 2) (.t 11) 65⟩])
 (.ret (some [2])))))))⟩
theorem c_laws_toTree_ok : trF Try.prog ⟨[], [2], false⟩ Try.f49 = some c_laws_toTree := by kernel_rfl
def c_impl_TreeDrop_b0 : IC :=
  (.seq (.seq (.reg false [⟨some 61, none, .mov (.t 7)⟩,
 ⟨some 62, none, .chk (.t 61)⟩,
 ⟨some 63, none, .load1 (.t 62)⟩,
 ⟨some 64, none, .fld (.t 2) 0⟩,
 ⟨some 65, none, .ixa (.t 64) (.t 63) 16 4⟩,
 ⟨some 66, none, .fld (.t 65) 2⟩,
 ⟨some 67, none, .load1 (.t 66)⟩,
 ⟨some 68, none, .bin .neq (.t 67) (.k (.c (.int .i64 (-1))))⟩])
 (.cond (.t 68) .skip (.exit 1)))
 (.seq (.block 2 none none
 (.reg false [⟨some 71, none, .mov (.t 7)⟩,
 ⟨some 72, none, .chk (.t 71)⟩,
 ⟨some 73, none, .load1 (.t 72)⟩,
 ⟨some 74, none, .fld (.t 2) 0⟩,
 ⟨some 75, none, .ixa (.t 74) (.t 73) 16 4⟩,
 ⟨some 76, none, .fld (.t 75) 2⟩,
 ⟨some 7, none, .mov (.t 76)⟩]))
 (.reg false [⟨some 69, none, .mov (.t 8)⟩,
 ⟨some 70, none, .bin .add (.t 69) (.k (.c (.int .i64 1)))⟩,
 ⟨some 8, none, .mov (.t 70)⟩])))
def c_impl_TreeDrop : IFn := ⟨109, [.cell 4 65 true, .t 5],
  (.seq (.reg false [⟨some 2, none, .box (.t 0) 51⟩,
 ⟨some 4, none, .alloc [.bool false, .int .i64 0, .int .i64 0, .int .i64 0, .bool false, .int .i64 0, .int .i64 0, .int .i64 0, .bool false, .int .i64 0, .int .i64 0, .int .i64 0, .bool false, .int .i64 0, .int .i64 0, .int .i64 0, .bool false, .int .i64 0, .int .i64 0, .int .i64 0, .bool false, .int .i64 0, .int .i64 0, .int .i64 0, .bool false, .int .i64 0, .int .i64 0, .int .i64 0, .bool false, .int .i64 0, .int .i64 0, .int .i64 0, .bool false, .int .i64 0, .int .i64 0, .int .i64 0, .bool false, .int .i64 0, .int .i64 0, .int .i64 0, .bool false, .int .i64 0, .int .i64 0, .int .i64 0, .bool false, .int .i64 0, .int .i64 0, .int .i64 0, .bool false, .int .i64 0, .int .i64 0, .int .i64 0, .bool false, .int .i64 0, .int .i64 0, .int .i64 0, .bool false, .int .i64 0, .int .i64 0, .int .i64 0, .bool false, .int .i64 0, .int .i64 0, .int .i64 0, .int .i64 0] 51⟩,
 ⟨some 5, none, .mov (.k (.c (.int .i64 0)))⟩])
 (.seq (.seq (.reg false [⟨some 13, none, .loadN (.t 2) 65⟩,
 ⟨some 14, none, .call 93 [.t 13]⟩,
 ⟨some 15, none, .un .not (.t 14)⟩,
 ⟨some 16, none, .mov (.t 15)⟩,
 ⟨some 17, some (16, false), .mov (.t 1)⟩,
 ⟨some 18, some (16, false), .call 64 [.t 17]⟩,
 ⟨some 19, some (16, false), .un .not (.t 18)⟩,
 ⟨some 20, none, .pick (.t 16) (.k (.c (.bool true))) (.t 19)⟩])
 (.cond (.t 20) (.seq (.reg false [⟨some 21, none, .loadN (.t 2) 65⟩,
 ⟨none, none, .store (.t 4) (.t 21) 65⟩,
 ⟨some 5, none, .mov (.k (.c (.int .i64 1)))⟩])
 (.ret (some [4, 5]))) .skip))
 (.seq (.reg false [⟨some 22, none, .loadN (.t 2) 65⟩,
 ⟨some 6, none, .alloc [.bool false, .int .i64 0, .int .i64 0, .int .i64 0, .bool false, .int .i64 0, .int .i64 0, .int .i64 0, .bool false, .int .i64 0, .int .i64 0, .int .i64 0, .bool false, .int .i64 0, .int .i64 0, .int .i64 0, .bool false, .int .i64 0, .int .i64 0, .int .i64 0, .bool false, .int .i64 0, .int .i64 0, .int .i64 0, .bool false, .int .i64 0, .int .i64 0, .int .i64 0, .bool false, .int .i64 0, .int .i64 0, .int .i64 0, .bool false, .int .i64 0, .int .i64 0, .int .i64 0, .bool false, .int .i64 0, .int .i64 0, .int .i64 0, .bool false, .int .i64 0, .int .i64 0, .int .i64 0, .bool false, .int .i64 0, .int .i64 0, .int .i64 0, .bool false, .int .i64 0, .int .i64 0, .int .i64 0, .bool false, .int .i64 0, .int .i64 0, .int .i64 0, .bool false, .int .i64 0, .int .i64 0, .int .i64 0, .bool false, .int .i64 0, .int .i64 0, .int .i64 0, .int .i64 0] 51⟩,
 ⟨none, none, .store (.t 6) (.t 22) 65⟩])
 (.seq (.reg false [⟨some 24, none, .mov (.t 1)⟩,
 ⟨some 25, none, .call 94 [.t 2, .t 24]⟩,
 ⟨some 23, none, .mov (.t 25)⟩,
 ⟨some 26, none, .ext (.t 23) 0⟩,
 ⟨some 27, none, .ext (.t 23) 1⟩,
 ⟨some 28, none, .ext (.t 23) 2⟩,
 ⟨some 7, none, .mov (.t 26)⟩,
 ⟨some 8, none, .mov (.t 27)⟩,
 ⟨some 9, none, .mov (.t 28)⟩])
 (.seq (.block 0 none none
 (.seq (.reg false [⟨some 30, none, .mov (.t 9)⟩,
 ⟨some 31, none, .un .not (.t 30)⟩,
 ⟨some 29, none, .mov (.t 31)⟩])
 (.cond (.t 29) (.seq (.reg false [⟨some 32, none, .loadN (.t 6) 65⟩,
 ⟨none, none, .store (.t 4) (.t 32) 65⟩,
 ⟨some 5, none, .mov (.k (.c (.int .i64 2)))⟩])
 (.ret (some [4, 5]))) (.seq (.reg false [⟨some 34, none, .mov (.t 7)⟩,
 ⟨some 35, none, .chk (.t 34)⟩,
 ⟨some 36, none, .load1 (.t 35)⟩,
 ⟨some 37, none, .bin .eql (.t 36) (.k (.c (.int .i64 (-1))))⟩,
 ⟨some 33, none, .mov (.t 37)⟩])
 (.cond (.t 33) (.seq (.reg false [⟨some 38, none, .loadN (.t 6) 65⟩,
 ⟨none, none, .store (.t 4) (.t 38) 65⟩,
 ⟨some 5, none, .mov (.k (.c (.int .i64 5)))⟩])
 (.ret (some [4, 5]))) .skip)))))
 (.seq (.reg false [⟨some 39, none, .mov (.t 7)⟩,
 ⟨some 40, none, .chk (.t 39)⟩,
 ⟨some 41, none, .load1 (.t 40)⟩,
 ⟨some 42, none, .fld (.t 2) 0⟩,
 ⟨some 43, none, .ixa (.t 42) (.t 41) 16 4⟩,
 ⟨some 10, none, .mov (.t 43)⟩])
 (.seq (.seq (.reg false [⟨some 44, none, .mov (.t 10)⟩,
 ⟨some 45, none, .chk (.t 44)⟩,
 ⟨some 46, none, .fld (.t 45) 2⟩,
 ⟨some 47, none, .load1 (.t 46)⟩,
 ⟨some 48, none, .bin .neq (.t 47) (.k (.c (.int .i64 (-1))))⟩,
 ⟨some 49, none, .mov (.t 48)⟩,
 ⟨some 50, some (49, true), .mov (.t 10)⟩,
 ⟨some 51, some (49, true), .chk (.t 50)⟩,
 ⟨some 52, some (49, true), .fld (.t 51) 3⟩,
 ⟨some 53, some (49, true), .load1 (.t 52)⟩,
 ⟨some 54, some (49, true), .bin .neq (.t 53) (.k (.c (.int .i64 (-1))))⟩,
 ⟨some 55, none, .pick (.t 49) (.t 54) (.k (.c (.bool false)))⟩])
 (.cond (.t 55) (.seq (.reg false [⟨some 56, none, .mov (.t 10)⟩,
 ⟨some 57, none, .chk (.t 56)⟩,
 ⟨some 58, none, .fld (.t 57) 3⟩,
 ⟨some 7, none, .mov (.t 58)⟩])
 (.seq (.seq (.reg false [⟨some 59, none, .mov (.t 8)⟩,
 ⟨some 60, none, .bin .add (.t 59) (.k (.c (.int .i64 1)))⟩,
 ⟨some 8, none, .mov (.t 60)⟩])
 (.block 1 (some [2, 4, 6, 7, 8, 10]) (some [2, 4, 6, 7, 8, 10])
 (.loop c_impl_TreeDrop_b0)))
 (.seq (.seq (.reg false [⟨some 77, none, .mov (.t 8)⟩,
 ⟨some 78, none, .bin .gtr (.t 77) (.k (.c (.int .i64 8)))⟩])
 (.cond (.t 78) (.seq (.reg false [⟨some 79, none, .loadN (.t 6) 65⟩,
 ⟨none, none, .store (.t 4) (.t 79) 65⟩,
 ⟨some 5, none, .mov (.k (.c (.int .i64 2)))⟩])
 (.ret (some [4, 5]))) .skip))
 (.reg false [⟨some 80, none, .mov (.t 10)⟩,
 ⟨some 81, none, .mov (.t 7)⟩,
 ⟨some 82, none, .chk (.t 81)⟩,
 ⟨some 83, none, .load1 (.t 82)⟩,
 ⟨some 84, none, .fld (.t 2) 0⟩,
 ⟨some 85, none, .ixa (.t 84) (.t 83) 16 4⟩,
 ⟨some 86, none, .fld (.t 85) 1⟩,
 ⟨some 87, none, .load1 (.t 86)⟩,
 ⟨some 88, none, .chk (.t 80)⟩,
 ⟨some 89, none, .fld (.t 88) 1⟩,
 ⟨none, none, .store (.t 89) (.t 87) 1⟩])))) .skip))
 (.seq (.reg false [⟨some 90, none, .mov (.t 7)⟩,
 ⟨some 91, none, .chk (.t 90)⟩,
 ⟨some 92, none, .load1 (.t 91)⟩,
 ⟨some 11, none, .mov (.t 92)⟩])
 (.seq (.reg false [⟨some 93, none, .mov (.t 11)⟩,
 ⟨some 94, none, .fld (.t 2) 0⟩,
 ⟨some 95, none, .ixa (.t 94) (.t 93) 16 4⟩,
 ⟨some 96, none, .loadN (.t 95) 4⟩,
 ⟨some 12, none, .alloc [.bool false, .int .i64 0, .int .i64 0, .int .i64 0] 48⟩,
 ⟨none, none, .store (.t 12) (.t 96) 4⟩])
 (.seq (.reg false [⟨some 97, none, .mov (.t 7)⟩,
 ⟨some 98, none, .fld (.t 12) 2⟩,
 ⟨some 99, none, .load1 (.t 98)⟩,
 ⟨some 100, none, .fld (.t 12) 3⟩,
 ⟨some 101, none, .load1 (.t 100)⟩,
 ⟨some 102, none, .mxi false (.t 99) (.t 101)⟩,
 ⟨some 103, none, .chk (.t 97)⟩,
 ⟨none, none, .store (.t 103) (.t 102) 1⟩])
 (.seq (.reg false [⟨some 104, none, .mov (.t 11)⟩,
 ⟨some 105, none, .bld [.bool false, .int .i64 0, .int .i64 0, .int .i64 0] []⟩,
 ⟨some 106, none, .fld (.t 2) 0⟩,
 ⟨some 107, none, .ixa (.t 106) (.t 104) 16 4⟩,
 ⟨none, none, .store (.t 107) (.t 105) 4⟩])
 (.seq (.reg false [⟨some 108, none, .loadN (.t 2) 65⟩,
 ⟨none, none, .store (.t 4) (.t 108) 65⟩,
 ⟨some 5, none, .mov (.k (.c (.int .i64 0)))⟩])
 (.ret (some [4, 5]))))))))))))))⟩
theorem c_impl_TreeDrop_ok : trF Try.prog ⟨[(1, [2, 4, 6, 7, 8, 10], [2, 4, 6, 7, 8, 10])], [4, 5], false⟩ Try.f50 = some c_impl_TreeDrop := by kernel_rfl
def c_laws_eqTree : IFn := ⟨16, [.t 4],
  (.seq (.reg false [⟨some 2, none, .box (.t 0) 51⟩,
 ⟨some 3, none, .box (.t 1) 51⟩,
 ⟨some 4, none, .mov (.k (.c (.bool false)))⟩])
 (.seq (.seq (.reg false [⟨some 5, none, .fld (.t 2) 0⟩,
 ⟨some 6, none, .loadN (.t 5) 64⟩,
 ⟨some 7, none, .fld (.t 3) 0⟩,
 ⟨some 8, none, .loadN (.t 7) 64⟩,
 ⟨some 9, none, .call 95 [.t 6, .t 8]⟩,
 ⟨some 10, none, .un .not (.t 9)⟩])
 (.cond (.t 10) (.seq (.reg false [⟨some 4, none, .mov (.k (.c (.bool false)))⟩])
 (.ret (some [4]))) .skip))
 (.seq (.seq (.reg false [⟨some 11, none, .fld (.t 2) 64⟩,
 ⟨some 12, none, .load1 (.t 11)⟩,
 ⟨some 13, none, .fld (.t 3) 64⟩,
 ⟨some 14, none, .load1 (.t 13)⟩,
 ⟨some 15, none, .bin .neq (.t 12) (.t 14)⟩])
 (.cond (.t 15) (.seq (.reg false [⟨some 4, none, .mov (.k (.c (.bool false)))⟩])
 (.ret (some [4]))) .skip))
 (.seq (.reg false [⟨some 4, none, .mov (.k (.c (.bool true)))⟩])
 (.ret (some [4]))))))⟩
theorem c_laws_eqTree_ok : trF Try.prog ⟨[], [4], false⟩ Try.f51 = some c_laws_eqTree := by kernel_rfl
def c_spec_SetSame_b0 : IC :=
  (.seq (.seq (.reg false [⟨some 20, none, .mov (.t 7)⟩,
 ⟨some 21, none, .mov (.t 5)⟩,
 ⟨some 22, none, .len (.t 21)⟩,
 ⟨some 23, none, .bin .lss (.t 20) (.t 22)⟩,
 ⟨some 24, none, .mov (.t 23)⟩,
 ⟨some 25, some (24, true), .mov (.t 5)⟩,
 ⟨some 26, some (24, true), .len (.t 25)⟩,
 ⟨some 27, some (24, true), .mov (.t 6)⟩,
 ⟨some 28, some (24, true), .len (.t 27)⟩,
 ⟨some 29, some (24, true), .bin .eql (.t 26) (.t 28)⟩,
 ⟨some 30, none, .pick (.t 24) (.t 29) (.k (.c (.bool false)))⟩])
 (.cond (.t 30) .skip (.exit 0)))
 (.seq (.block 1 none none
 (.seq (.reg true [⟨some 33, none, .mov (.t 5)⟩,
 ⟨some 34, none, .mov (.t 7)⟩,
 ⟨some 35, none, .ixs (.t 33) (.t 34) 1⟩,
 ⟨some 36, none, .load1 (.t 35)⟩,
 ⟨some 37, none, .mov (.t 6)⟩,
 ⟨some 38, none, .mov (.t 7)⟩,
 ⟨some 39, none, .ixs (.t 37) (.t 38) 1⟩,
 ⟨some 40, none, .load1 (.t 39)⟩,
 ⟨some 41, none, .bin .neq (.t 36) (.t 40)⟩])
 (.cond (.t 41) (.seq (.reg false [⟨some 4, none, .mov (.k (.c (.bool false)))⟩])
 (.ret (some [4]))) .skip)))
 (.reg false [⟨some 31, none, .mov (.t 7)⟩,
 ⟨some 32, none, .bin .add (.t 31) (.k (.c (.int .i64 1)))⟩,
 ⟨some 7, none, .mov (.t 32)⟩])))
def c_spec_SetSame : IFn := ⟨47, [.t 4],
  (.seq (.reg false [⟨some 4, none, .mov (.k (.c (.bool false)))⟩])
 (.seq (.seq (.reg false [⟨some 8, none, .mov (.t 0)⟩,
 ⟨some 9, none, .call 16 [.t 8]⟩,
 ⟨some 10, none, .un .not (.t 9)⟩,
 ⟨some 11, none, .mov (.t 10)⟩,
 ⟨some 12, some (11, false), .mov (.t 1)⟩,
 ⟨some 13, some (11, false), .call 16 [.t 12]⟩,
 ⟨some 14, some (11, false), .un .not (.t 13)⟩,
 ⟨some 15, none, .pick (.t 11) (.k (.c (.bool true))) (.t 14)⟩])
 (.cond (.t 15) (.seq (.reg false [⟨some 4, none, .mov (.k (.c (.bool false)))⟩])
 (.ret (some [4]))) .skip))
 (.seq (.reg false [⟨some 16, none, .mov (.t 0)⟩,
 ⟨some 17, none, .call 54 [.t 16]⟩,
 ⟨some 18, none, .mov (.t 1)⟩,
 ⟨some 19, none, .call 54 [.t 18]⟩,
 ⟨some 5, none, .mov (.t 17)⟩,
 ⟨some 6, none, .mov (.t 19)⟩])
 (.seq (.seq (.reg false [⟨some 7, none, .mov (.k (.c (.int .i64 0)))⟩])
 (.block 0 (some [5, 6, 7]) (some [5, 6])
 (.loop c_spec_SetSame_b0)))
 (.seq (.reg false [⟨some 42, none, .mov (.t 5)⟩,
 ⟨some 43, none, .len (.t 42)⟩,
 ⟨some 44, none, .mov (.t 6)⟩,
 ⟨some 45, none, .len (.t 44)⟩,
 ⟨some 46, none, .bin .eql (.t 43) (.t 45)⟩,
 ⟨some 4, none, .mov (.t 46)⟩])
 (.ret (some [4])))))))⟩
theorem c_spec_SetSame_ok : trF Try.prog ⟨[(0, [5, 6, 7], [5, 6])], [4], false⟩ Try.f52 = some c_spec_SetSame := by kernel_rfl
def c_impl_SetSame : IFn := ⟨18, [.t 4],
  (.seq (.reg false [⟨some 4, none, .mov (.k (.c (.bool false)))⟩])
 (.seq (.reg false [⟨some 5, none, .mov (.t 0)⟩,
 ⟨some 6, none, .call 18 [.t 5]⟩,
 ⟨some 7, none, .mov (.t 6)⟩,
 ⟨some 8, some (7, true), .mov (.t 1)⟩,
 ⟨some 9, some (7, true), .call 18 [.t 8]⟩,
 ⟨some 10, none, .pick (.t 7) (.t 9) (.k (.c (.bool false)))⟩,
 ⟨some 11, none, .mov (.t 10)⟩,
 ⟨some 12, some (11, true), .mov (.t 0)⟩,
 ⟨some 13, some (11, true), .call 97 [.t 12]⟩,
 ⟨some 14, some (11, true), .mov (.t 1)⟩,
 ⟨some 15, some (11, true), .call 97 [.t 14]⟩,
 ⟨some 16, some (11, true), .call 96 [.t 13, .t 15]⟩,
 ⟨some 17, none, .pick (.t 11) (.t 16) (.k (.c (.bool false)))⟩,
 ⟨some 4, none, .mov (.t 17)⟩])
 (.ret (some [4]))))⟩
theorem c_impl_SetSame_ok : trF Try.prog ⟨[], [4], false⟩ Try.f53 = some c_impl_SetSame := by kernel_rfl
def c_spec_SetList_b1 : IC :=
  (.seq (.seq (.reg false [⟨some 17, none, .mov (.t 5)⟩,
 ⟨some 18, none, .mov (.t 0)⟩,
 ⟨some 19, none, .mov (.t 4)⟩,
 ⟨some 20, none, .ixs (.t 18) (.t 19) 1⟩,
 ⟨some 21, none, .load1 (.t 20)⟩,
 ⟨some 22, none, .len (.t 21)⟩,
 ⟨some 23, none, .bin .lss (.t 17) (.t 22)⟩])
 (.cond (.t 23) .skip (.exit 2)))
 (.seq (.block 3 none none
 (.reg false [⟨some 26, none, .mov (.t 3)⟩,
 ⟨some 27, none, .mov (.t 0)⟩,
 ⟨some 28, none, .mov (.t 4)⟩,
 ⟨some 29, none, .ixs (.t 27) (.t 28) 1⟩,
 ⟨some 30, none, .load1 (.t 29)⟩,
 ⟨some 31, none, .mov (.t 5)⟩,
 ⟨some 32, none, .ixs (.t 30) (.t 31) 1⟩,
 ⟨some 33, none, .load1 (.t 32)⟩,
 ⟨some 34, none, .call 98 [.t 26, .t 33]⟩,
 ⟨some 3, none, .mov (.t 34)⟩]))
 (.reg false [⟨some 24, none, .mov (.t 5)⟩,
 ⟨some 25, none, .bin .add (.t 24) (.k (.c (.int .i64 1)))⟩,
 ⟨some 5, none, .mov (.t 25)⟩])))
def c_spec_SetList_b0 : IC :=
  (.seq (.seq (.reg false [⟨some 7, none, .mov (.t 4)⟩,
 ⟨some 8, none, .mov (.t 0)⟩,
 ⟨some 9, none, .len (.t 8)⟩,
 ⟨some 10, none, .bin .lss (.t 7) (.t 9)⟩,
 ⟨some 11, none, .mov (.t 10)⟩,
 ⟨some 12, some (11, true), .mov (.t 0)⟩,
 ⟨some 13, some (11, true), .call 16 [.t 12]⟩,
 ⟨some 14, none, .pick (.t 11) (.t 13) (.k (.c (.bool false)))⟩])
 (.cond (.t 14) .skip (.exit 0)))
 (.seq (.block 1 none none
 (.seq (.reg false [⟨some 5, none, .mov (.k (.c (.int .i64 0)))⟩])
 (.block 2 (some [0, 3, 4, 5]) (some [0, 3, 4])
 (.loop c_spec_SetList_b1))))
 (.reg false [⟨some 15, none, .mov (.t 4)⟩,
 ⟨some 16, none, .bin .add (.t 15) (.k (.c (.int .i64 1)))⟩,
 ⟨some 4, none, .mov (.t 16)⟩])))
def c_spec_SetList : IFn := ⟨36, [.t 2],
  (.seq (.reg false [⟨some 2, none, .mov (.k (.c .nils))⟩])
 (.seq (.reg false [⟨some 6, none, .lit 0 1 [.int .i64 0] [] 3⟩,
 ⟨some 3, none, .mov (.t 6)⟩])
 (.seq (.seq (.reg false [⟨some 4, none, .mov (.k (.c (.int .i64 0)))⟩])
 (.block 0 (some [0, 3, 4]) (some [3])
 (.loop c_spec_SetList_b0)))
 (.seq (.reg false [⟨some 35, none, .mov (.t 3)⟩,
 ⟨some 2, none, .mov (.t 35)⟩])
 (.ret (some [2]))))))⟩
theorem c_spec_SetList_ok : trF Try.prog ⟨[(0, [0, 3, 4], [3]), (2, [0, 3, 4, 5], [0, 3, 4])], [2], false⟩ Try.f54 = some c_spec_SetList := by kernel_rfl
def c_impl_SetList : IFn := ⟨8, [.t 2],
  (.seq (.reg false [⟨some 2, none, .mov (.k (.c .nils))⟩])
 (.seq (.seq (.reg false [⟨some 3, none, .mov (.t 0)⟩,
 ⟨some 4, none, .call 18 [.t 3]⟩,
 ⟨some 5, none, .un .not (.t 4)⟩])
 (.cond (.t 5) (.seq (.reg false [⟨some 2, none, .mov (.k (.c .nils))⟩])
 (.ret (some [2]))) .skip))
 (.seq (.reg false [⟨some 6, none, .mov (.t 0)⟩,
 ⟨some 7, none, .call 97 [.t 6]⟩,
 ⟨some 2, none, .mov (.t 7)⟩])
 (.ret (some [2])))))⟩
theorem c_impl_SetList_ok : trF Try.prog ⟨[], [2], false⟩ Try.f55 = some c_impl_SetList := by kernel_rfl
def c_spec_SetAdd_b0 : IC :=
  (.seq (.seq (.reg false [⟨some 23, none, .mov (.t 6)⟩,
 ⟨some 24, none, .mov (.t 1)⟩,
 ⟨some 25, none, .mov (.t 6)⟩,
 ⟨some 26, none, .len (.t 25)⟩,
 ⟨some 27, none, .call 62 [.t 24, .t 26]⟩,
 ⟨some 28, none, .ixs (.t 23) (.t 27) 1⟩,
 ⟨some 29, none, .load1 (.t 28)⟩,
 ⟨some 30, none, .len (.t 29)⟩,
 ⟨some 31, none, .bin .eql (.t 30) (.k (.c (.int .i64 3)))⟩])
 (.cond (.t 31) .skip (.exit 0)))
 (.block 1 none none
 (.seq (.seq (.reg false [⟨some 32, none, .mov (.t 6)⟩,
 ⟨some 33, none, .len (.t 32)⟩,
 ⟨some 34, none, .bin .eql (.t 33) (.k (.c (.int .i64 8)))⟩])
 (.cond (.t 34) (.seq (.reg false [⟨some 35, none, .mov (.t 0)⟩,
 ⟨some 36, none, .call 85 [.t 35]⟩,
 ⟨some 4, none, .mov (.t 36)⟩,
 ⟨some 5, none, .mov (.k (.c (.int .i64 3)))⟩])
 (.ret (some [4, 5]))) .skip))
 (.reg false [⟨some 37, none, .mov (.t 6)⟩,
 ⟨some 38, none, .call 99 [.t 37]⟩,
 ⟨some 6, none, .mov (.t 38)⟩]))))
def c_spec_SetAdd : IFn := ⟨53, [.t 4, .t 5],
  (.seq (.reg false [⟨some 4, none, .mov (.k (.c .nils))⟩,
 ⟨some 5, none, .mov (.k (.c (.int .i64 0)))⟩])
 (.seq (.reg false [⟨some 8, none, .mov (.t 0)⟩,
 ⟨some 9, none, .call 85 [.t 8]⟩,
 ⟨some 6, none, .mov (.t 9)⟩])
 (.seq (.seq (.reg false [⟨some 10, none, .mov (.t 0)⟩,
 ⟨some 11, none, .call 16 [.t 10]⟩,
 ⟨some 12, none, .un .not (.t 11)⟩,
 ⟨some 13, none, .mov (.t 12)⟩,
 ⟨some 14, some (13, false), .mov (.t 1)⟩,
 ⟨some 15, some (13, false), .call 61 [.t 14]⟩,
 ⟨some 16, some (13, false), .un .not (.t 15)⟩,
 ⟨some 17, none, .pick (.t 13) (.k (.c (.bool true))) (.t 16)⟩])
 (.cond (.t 17) (.seq (.reg false [⟨some 18, none, .mov (.t 6)⟩,
 ⟨some 4, none, .mov (.t 18)⟩,
 ⟨some 5, none, .mov (.k (.c (.int .i64 1)))⟩])
 (.ret (some [4, 5]))) .skip))
 (.seq (.seq (.reg false [⟨some 19, none, .mov (.t 0)⟩,
 ⟨some 20, none, .mov (.t 1)⟩,
 ⟨some 21, none, .call 26 [.t 19, .t 20]⟩])
 (.cond (.t 21) (.seq (.reg false [⟨some 22, none, .mov (.t 6)⟩,
 ⟨some 4, none, .mov (.t 22)⟩,
 ⟨some 5, none, .mov (.k (.c (.int .i64 2)))⟩])
 (.ret (some [4, 5]))) .skip))
 (.seq (.block 0 (some [0, 1, 6]) (some [1, 6])
 (.loop c_spec_SetAdd_b0))
 (.seq (.reg false [⟨some 39, none, .mov (.t 1)⟩,
 ⟨some 40, none, .mov (.t 6)⟩,
 ⟨some 41, none, .len (.t 40)⟩,
 ⟨some 42, none, .call 62 [.t 39, .t 41]⟩,
 ⟨some 7, none, .mov (.t 42)⟩])
 (.seq (.reg false [⟨some 43, none, .mov (.t 6)⟩,
 ⟨some 44, none, .mov (.t 7)⟩,
 ⟨some 45, none, .mov (.t 6)⟩,
 ⟨some 46, none, .mov (.t 7)⟩,
 ⟨some 47, none, .ixs (.t 45) (.t 46) 1⟩,
 ⟨some 48, none, .load1 (.t 47)⟩,
 ⟨some 49, none, .mov (.t 1)⟩,
 ⟨some 50, none, .call 98 [.t 48, .t 49]⟩,
 ⟨some 51, none, .ixs (.t 43) (.t 44) 1⟩,
 ⟨none, none, .store (.t 51) (.t 50) 1⟩])
 (.seq (.reg false [⟨some 52, none, .mov (.t 6)⟩,
 ⟨some 4, none, .mov (.t 52)⟩,
 ⟨some 5, none, .mov (.k (.c (.int .i64 0)))⟩])
 (.ret (some [4, 5]))))))))))⟩
theorem c_spec_SetAdd_ok : trF Try.prog ⟨[(0, [0, 1, 6], [1, 6])], [4, 5], false⟩ Try.f56 = some c_spec_SetAdd := by kernel_rfl
def c_impl_SetAdd_b0 : IC :=
  (.seq (.seq (.reg false [⟨some 27, none, .mov (.t 6)⟩,
 ⟨some 28, none, .mov (.t 1)⟩,
 ⟨some 29, none, .mov (.t 6)⟩,
 ⟨some 30, none, .len (.t 29)⟩,
 ⟨some 31, none, .call 65 [.t 28, .t 30]⟩,
 ⟨some 32, none, .ixs (.t 27) (.t 31) 1⟩,
 ⟨some 33, none, .load1 (.t 32)⟩,
 ⟨some 34, none, .len (.t 33)⟩,
 ⟨some 35, none, .bin .eql (.t 34) (.k (.c (.int .i64 3)))⟩])
 (.cond (.t 35) .skip (.exit 1)))
 (.block 2 none none
 (.seq (.seq (.reg false [⟨some 36, none, .mov (.t 6)⟩,
 ⟨some 37, none, .len (.t 36)⟩,
 ⟨some 38, none, .bin .eql (.t 37) (.k (.c (.int .i64 8)))⟩])
 (.cond (.t 38) (.seq (.reg false [⟨some 39, none, .mov (.t 0)⟩,
 ⟨some 40, none, .call 86 [.t 39]⟩,
 ⟨some 4, none, .mov (.t 40)⟩,
 ⟨some 5, none, .mov (.k (.c (.int .i64 3)))⟩])
 (.ret (some [4, 5]))) .skip))
 (.reg false [⟨some 41, none, .mov (.t 0)⟩,
 ⟨some 42, none, .call 97 [.t 41]⟩,
 ⟨some 43, none, .mov (.t 6)⟩,
 ⟨some 44, none, .len (.t 43)⟩,
 ⟨some 45, none, .bin .mul (.k (.c (.int .i64 2))) (.t 44)⟩,
 ⟨some 46, none, .call 100 [.t 42, .t 45]⟩,
 ⟨some 6, none, .mov (.t 46)⟩]))))
def c_impl_SetAdd : IFn := ⟨66, [.t 4, .t 5],
  (.seq (.reg false [⟨some 4, none, .mov (.k (.c .nils))⟩,
 ⟨some 5, none, .mov (.k (.c (.int .i64 0)))⟩])
 (.seq (.block 0 none none
 (.seq (.reg false [⟨some 9, none, .mov (.t 0)⟩,
 ⟨some 10, none, .call 18 [.t 9]⟩,
 ⟨some 11, none, .un .not (.t 10)⟩,
 ⟨some 12, none, .mov (.t 11)⟩,
 ⟨some 13, some (12, false), .mov (.t 1)⟩,
 ⟨some 14, some (12, false), .call 64 [.t 13]⟩,
 ⟨some 15, some (12, false), .un .not (.t 14)⟩,
 ⟨some 16, none, .pick (.t 12) (.k (.c (.bool true))) (.t 15)⟩,
 ⟨some 8, none, .mov (.t 16)⟩])
 (.cond (.t 8) (.seq (.reg false [⟨some 17, none, .mov (.t 0)⟩,
 ⟨some 18, none, .call 86 [.t 17]⟩,
 ⟨some 4, none, .mov (.t 18)⟩,
 ⟨some 5, none, .mov (.k (.c (.int .i64 1)))⟩])
 (.ret (some [4, 5]))) (.seq (.reg false [⟨some 20, none, .mov (.t 0)⟩,
 ⟨some 21, none, .mov (.t 1)⟩,
 ⟨some 22, none, .call 69 [.t 20, .t 21]⟩,
 ⟨some 19, none, .mov (.t 22)⟩])
 (.cond (.t 19) (.seq (.reg false [⟨some 23, none, .mov (.t 0)⟩,
 ⟨some 24, none, .call 86 [.t 23]⟩,
 ⟨some 4, none, .mov (.t 24)⟩,
 ⟨some 5, none, .mov (.k (.c (.int .i64 2)))⟩])
 (.ret (some [4, 5]))) .skip)))))
 (.seq (.reg false [⟨some 25, none, .mov (.t 0)⟩,
 ⟨some 26, none, .call 86 [.t 25]⟩,
 ⟨some 6, none, .mov (.t 26)⟩])
 (.seq (.block 1 (some [0, 1, 6]) (some [1, 6])
 (.loop c_impl_SetAdd_b0))
 (.seq (.reg false [⟨some 47, none, .mov (.t 6)⟩,
 ⟨some 48, none, .mov (.t 1)⟩,
 ⟨some 49, none, .mov (.t 6)⟩,
 ⟨some 50, none, .len (.t 49)⟩,
 ⟨some 51, none, .call 65 [.t 48, .t 50]⟩,
 ⟨some 52, none, .ixs (.t 47) (.t 51) 1⟩,
 ⟨some 7, none, .mov (.t 52)⟩])
 (.seq (.reg false [⟨some 53, none, .mov (.t 7)⟩,
 ⟨some 54, none, .mov (.t 7)⟩,
 ⟨some 55, none, .chk (.t 54)⟩,
 ⟨some 56, none, .load1 (.t 55)⟩,
 ⟨some 57, none, .mov (.t 1)⟩,
 ⟨some 58, none, .lit 1 1 [.int .i64 0] [(0, .t 57)] 3⟩,
 ⟨some 59, none, .app (.t 56) (.t 58) 3 1 8⟩,
 ⟨some 60, none, .chk (.t 53)⟩,
 ⟨none, none, .store (.t 60) (.t 59) 1⟩])
 (.seq (.reg false [⟨some 61, none, .mov (.t 7)⟩,
 ⟨some 62, none, .chk (.t 61)⟩,
 ⟨some 63, none, .load1 (.t 62)⟩,
 ⟨some 64, none, .call 101 [.t 63]⟩])
 (.seq (.reg false [⟨some 65, none, .mov (.t 6)⟩,
 ⟨some 4, none, .mov (.t 65)⟩,
 ⟨some 5, none, .mov (.k (.c (.int .i64 0)))⟩])
 (.ret (some [4, 5]))))))))))⟩
theorem c_impl_SetAdd_ok : trF Try.prog ⟨[(1, [0, 1, 6], [1, 6])], [4, 5], false⟩ Try.f57 = some c_impl_SetAdd := by kernel_rfl
def c_spec_SetJoin_b0 : IC :=
  (.seq (.seq (.reg false [⟨some 24, none, .mov (.t 8)⟩,
 ⟨some 25, none, .mov (.t 7)⟩,
 ⟨some 26, none, .len (.t 25)⟩,
 ⟨some 27, none, .bin .lss (.t 24) (.t 26)⟩])
 (.cond (.t 27) .skip (.exit 0)))
 (.seq (.block 1 none none
 (.seq (.reg false [⟨some 31, none, .mov (.t 6)⟩,
 ⟨some 32, none, .mov (.t 7)⟩,
 ⟨some 33, none, .mov (.t 8)⟩,
 ⟨some 34, none, .ixs (.t 32) (.t 33) 1⟩,
 ⟨some 35, none, .load1 (.t 34)⟩,
 ⟨some 36, none, .call 56 [.t 31, .t 35]⟩,
 ⟨some 30, none, .mov (.t 36)⟩,
 ⟨some 37, none, .ext (.t 30) 0⟩,
 ⟨some 38, none, .ext (.t 30) 1⟩,
 ⟨some 9, none, .mov (.t 37)⟩,
 ⟨some 10, none, .mov (.t 38)⟩])
 (.seq (.seq (.reg false [⟨some 39, none, .mov (.t 10)⟩,
 ⟨some 40, none, .bin .eql (.t 39) (.k (.c (.int .i64 3)))⟩])
 (.cond (.t 40) (.seq (.reg false [⟨some 41, none, .mov (.t 0)⟩,
 ⟨some 42, none, .call 85 [.t 41]⟩,
 ⟨some 4, none, .mov (.t 42)⟩,
 ⟨some 5, none, .mov (.k (.c (.int .i64 3)))⟩])
 (.ret (some [4, 5]))) .skip))
 (.reg false [⟨some 43, none, .mov (.t 9)⟩,
 ⟨some 6, none, .mov (.t 43)⟩]))))
 (.reg false [⟨some 28, none, .mov (.t 8)⟩,
 ⟨some 29, none, .bin .add (.t 28) (.k (.c (.int .i64 1)))⟩,
 ⟨some 8, none, .mov (.t 29)⟩])))
def c_spec_SetJoin : IFn := ⟨45, [.t 4, .t 5],
  (.seq (.reg false [⟨some 4, none, .mov (.k (.c .nils))⟩,
 ⟨some 5, none, .mov (.k (.c (.int .i64 0)))⟩])
 (.seq (.reg false [⟨some 11, none, .mov (.t 0)⟩,
 ⟨some 12, none, .call 85 [.t 11]⟩,
 ⟨some 6, none, .mov (.t 12)⟩])
 (.seq (.seq (.reg false [⟨some 13, none, .mov (.t 0)⟩,
 ⟨some 14, none, .call 16 [.t 13]⟩,
 ⟨some 15, none, .un .not (.t 14)⟩,
 ⟨some 16, none, .mov (.t 15)⟩,
 ⟨some 17, some (16, false), .mov (.t 1)⟩,
 ⟨some 18, some (16, false), .call 16 [.t 17]⟩,
 ⟨some 19, some (16, false), .un .not (.t 18)⟩,
 ⟨some 20, none, .pick (.t 16) (.k (.c (.bool true))) (.t 19)⟩])
 (.cond (.t 20) (.seq (.reg false [⟨some 21, none, .mov (.t 6)⟩,
 ⟨some 4, none, .mov (.t 21)⟩,
 ⟨some 5, none, .mov (.k (.c (.int .i64 1)))⟩])
 (.ret (some [4, 5]))) .skip))
 (.seq (.reg false [⟨some 22, none, .mov (.t 1)⟩,
 ⟨some 23, none, .call 54 [.t 22]⟩,
 ⟨some 7, none, .mov (.t 23)⟩])
 (.seq (.seq (.reg false [⟨some 8, none, .mov (.k (.c (.int .i64 0)))⟩])
 (.block 0 (some [0, 6, 7, 8]) (some [6])
 (.loop c_spec_SetJoin_b0)))
 (.seq (.reg false [⟨some 44, none, .mov (.t 6)⟩,
 ⟨some 4, none, .mov (.t 44)⟩,
 ⟨some 5, none, .mov (.k (.c (.int .i64 0)))⟩])
 (.ret (some [4, 5]))))))))⟩
theorem c_spec_SetJoin_ok : trF Try.prog ⟨[(0, [0, 6, 7, 8], [6])], [4, 5], false⟩ Try.f58 = some c_spec_SetJoin := by kernel_rfl
def c_impl_SetJoin_b0 : IC :=
  (.seq (.reg false [⟨some 27, none, .bin .lss (.t 26) (.t 25)⟩])
 (.seq (.cond (.t 27) .skip (.exit 0))
 (.seq (.block 1 none none
 (.seq (.reg false [⟨some 28, none, .ixs (.t 24) (.t 26) 1⟩,
 ⟨some 29, none, .load1 (.t 28)⟩,
 ⟨some 8, none, .mov (.t 29)⟩])
 (.seq (.reg false [⟨some 31, none, .mov (.t 6)⟩,
 ⟨some 32, none, .mov (.t 8)⟩,
 ⟨some 33, none, .call 57 [.t 31, .t 32]⟩,
 ⟨some 30, none, .mov (.t 33)⟩,
 ⟨some 34, none, .ext (.t 30) 0⟩,
 ⟨some 35, none, .ext (.t 30) 1⟩,
 ⟨some 9, none, .mov (.t 34)⟩,
 ⟨some 10, none, .mov (.t 35)⟩])
 (.seq (.seq (.reg false [⟨some 36, none, .mov (.t 10)⟩,
 ⟨some 37, none, .bin .eql (.t 36) (.k (.c (.int .i64 3)))⟩])
 (.cond (.t 37) (.seq (.reg false [⟨some 38, none, .mov (.t 0)⟩,
 ⟨some 39, none, .call 86 [.t 38]⟩,
 ⟨some 4, none, .mov (.t 39)⟩,
 ⟨some 5, none, .mov (.k (.c (.int .i64 3)))⟩])
 (.ret (some [4, 5]))) .skip))
 (.reg false [⟨some 40, none, .mov (.t 9)⟩,
 ⟨some 6, none, .mov (.t 40)⟩])))))
 (.reg false [⟨some 41, none, .bin .add (.t 26) (.k (.c (.int .i64 1)))⟩,
 ⟨some 26, none, .mov (.t 41)⟩]))))
def c_impl_SetJoin : IFn := ⟨43, [.t 4, .t 5],
  (.seq (.reg false [⟨some 4, none, .mov (.k (.c .nils))⟩,
 ⟨some 5, none, .mov (.k (.c (.int .i64 0)))⟩])
 (.seq (.seq (.reg false [⟨some 11, none, .mov (.t 0)⟩,
 ⟨some 12, none, .call 18 [.t 11]⟩,
 ⟨some 13, none, .un .not (.t 12)⟩,
 ⟨some 14, none, .mov (.t 13)⟩,
 ⟨some 15, some (14, false), .mov (.t 1)⟩,
 ⟨some 16, some (14, false), .call 18 [.t 15]⟩,
 ⟨some 17, some (14, false), .un .not (.t 16)⟩,
 ⟨some 18, none, .pick (.t 14) (.k (.c (.bool true))) (.t 17)⟩])
 (.cond (.t 18) (.seq (.reg false [⟨some 19, none, .mov (.t 0)⟩,
 ⟨some 20, none, .call 86 [.t 19]⟩,
 ⟨some 4, none, .mov (.t 20)⟩,
 ⟨some 5, none, .mov (.k (.c (.int .i64 1)))⟩])
 (.ret (some [4, 5]))) .skip))
 (.seq (.reg false [⟨some 21, none, .mov (.t 0)⟩,
 ⟨some 22, none, .call 86 [.t 21]⟩,
 ⟨some 6, none, .mov (.t 22)⟩])
 (.seq (.seq (.reg false [⟨some 23, none, .mov (.t 1)⟩,
 ⟨some 24, none, .call 97 [.t 23]⟩,
 ⟨some 25, none, .len (.t 24)⟩,
 ⟨some 26, none, .mov (.k (.c (.int .i64 0)))⟩])
 (.block 0 (some [0, 6, 24, 25, 26]) (some [6])
 (.loop c_impl_SetJoin_b0)))
 (.seq (.reg false [⟨some 42, none, .mov (.t 6)⟩,
 ⟨some 4, none, .mov (.t 42)⟩,
 ⟨some 5, none, .mov (.k (.c (.int .i64 0)))⟩])
 (.ret (some [4, 5])))))))⟩
theorem c_impl_SetJoin_ok : trF Try.prog ⟨[(0, [0, 6, 24, 25, 26], [6])], [4, 5], false⟩ Try.f59 = some c_impl_SetJoin := by kernel_rfl
def c_laws_szIntS : IFn := ⟨12, [.t 4],
  (.seq (.reg false [⟨some 4, none, .mov (.k (.c (.int .i64 0)))⟩])
 (.seq (.reg false [⟨some 5, none, .mov (.t 1)⟩,
 ⟨some 6, none, .mov (.t 0)⟩,
 ⟨some 7, none, .len (.t 6)⟩,
 ⟨some 8, none, .bin .sub (.t 5) (.t 7)⟩,
 ⟨some 1, none, .mov (.t 8)⟩])
 (.seq (.seq (.reg false [⟨some 9, none, .mov (.t 1)⟩,
 ⟨some 10, none, .bin .lss (.t 9) (.k (.c (.int .i64 0)))⟩])
 (.cond (.t 10) (.seq (.reg false [⟨some 4, none, .mov (.k (.c (.int .i64 (-1))))⟩])
 (.ret (some [4]))) .skip))
 (.seq (.reg false [⟨some 11, none, .mov (.t 1)⟩,
 ⟨some 4, none, .mov (.t 11)⟩])
 (.ret (some [4]))))))⟩
theorem c_laws_szIntS_ok : trF Try.prog ⟨[], [4], false⟩ Try.f60 = some c_laws_szIntS := by kernel_rfl
def c_spec_l1Value : IFn := ⟨5, [.t 2],
  (.seq (.reg false [⟨some 2, none, .mov (.k (.c (.bool false)))⟩])
 (.seq (.reg false [⟨some 3, none, .mov (.t 0)⟩,
 ⟨some 4, none, .call 70 [.t 3, .k (.c (.int .i64 (-1000000000))), .k (.c (.int .i64 1000000000))]⟩,
 ⟨some 2, none, .mov (.t 4)⟩])
 (.ret (some [2]))))⟩
theorem c_spec_l1Value_ok : trF Try.prog ⟨[], [2], false⟩ Try.f61 = some c_spec_l1Value := by kernel_rfl
def c_spec_l16Place : IFn := ⟨12, [.t 4],
  (.seq (.reg false [⟨some 4, none, .mov (.k (.c (.int .i64 0)))⟩])
 (.seq (.reg false [⟨some 5, none, .mov (.t 0)⟩,
 ⟨some 6, none, .mov (.t 1)⟩,
 ⟨some 7, none, .bin .rem (.t 5) (.t 6)⟩,
 ⟨some 8, none, .mov (.t 1)⟩,
 ⟨some 9, none, .bin .add (.t 7) (.t 8)⟩,
 ⟨some 10, none, .mov (.t 1)⟩,
 ⟨some 11, none, .bin .rem (.t 9) (.t 10)⟩,
 ⟨some 4, none, .mov (.t 11)⟩])
 (.ret (some [4]))))⟩
theorem c_spec_l16Place_ok : trF Try.prog ⟨[], [4], false⟩ Try.f62 = some c_spec_l16Place := by kernel_rfl
def c_laws_toIntS_b0 : IC :=
  (.seq (.seq (.reg false [⟨some 8, none, .mov (.t 4)⟩,
 ⟨some 9, none, .mov (.t 0)⟩,
 ⟨some 10, none, .len (.t 9)⟩,
 ⟨some 11, none, .bin .lss (.t 8) (.t 10)⟩])
 (.cond (.t 11) .skip (.exit 0)))
 (.seq (.block 1 none none
 (.reg false [⟨some 14, none, .mov (.t 3)⟩,
 ⟨some 15, none, .mov (.t 4)⟩,
 ⟨some 16, none, .mov (.t 0)⟩,
 ⟨some 17, none, .mov (.t 4)⟩,
 ⟨some 18, none, .ixs (.t 16) (.t 17) 1⟩,
 ⟨some 19, none, .load1 (.t 18)⟩,
 ⟨some 20, none, .ixs (.t 14) (.t 15) 1⟩,
 ⟨none, none, .store (.t 20) (.t 19) 1⟩]))
 (.reg false [⟨some 12, none, .mov (.t 4)⟩,
 ⟨some 13, none, .bin .add (.t 12) (.k (.c (.int .i64 1)))⟩,
 ⟨some 4, none, .mov (.t 13)⟩])))
def c_laws_toIntS : IFn := ⟨22, [.t 2],
  (.seq (.reg false [⟨some 2, none, .mov (.k (.c .nils))⟩])
 (.seq (.reg false [⟨some 5, none, .mov (.t 0)⟩,
 ⟨some 6, none, .len (.t 5)⟩,
 ⟨some 7, none, .mks (.t 6) [.int .i64 0] 3 8⟩,
 ⟨some 3, none, .mov (.t 7)⟩])
 (.seq (.seq (.reg false [⟨some 4, none, .mov (.k (.c (.int .i64 0)))⟩])
 (.block 0 (some [0, 3, 4]) (some [3])
 (.loop c_laws_toIntS_b0)))
 (.seq (.reg false [⟨some 21, none, .mov (.t 3)⟩,
 ⟨some 2, none, .mov (.t 21)⟩])
 (.ret (some [2]))))))⟩
theorem c_laws_toIntS_ok : trF Try.prog ⟨[(0, [0, 3, 4], [3])], [2], false⟩ Try.f63 = some c_laws_toIntS := by kernel_rfl
def c_impl_isValue : IFn := ⟨5, [.t 2],
  (.seq (.reg false [⟨some 2, none, .mov (.k (.c (.bool false)))⟩])
 (.seq (.reg false [⟨some 3, none, .mov (.t 0)⟩,
 ⟨some 4, none, .call 73 [.t 3, .k (.c (.int .i64 (-1000000000))), .k (.c (.int .i64 1000000000))]⟩,
 ⟨some 2, none, .mov (.t 4)⟩])
 (.ret (some [2]))))⟩
theorem c_impl_isValue_ok : trF Try.prog ⟨[], [2], false⟩ Try.f64 = some c_impl_isValue := by kernel_rfl
def c_impl_placeOf : IFn := ⟨12, [.t 4],
  (.seq (.reg false [⟨some 4, none, .mov (.k (.c (.int .i64 0)))⟩])
 (.seq (.reg false [⟨some 5, none, .mov (.t 0)⟩,
 ⟨some 6, none, .mov (.t 1)⟩,
 ⟨some 7, none, .bin .rem (.t 5) (.t 6)⟩,
 ⟨some 8, none, .mov (.t 1)⟩,
 ⟨some 9, none, .bin .add (.t 7) (.t 8)⟩,
 ⟨some 10, none, .mov (.t 1)⟩,
 ⟨some 11, none, .bin .rem (.t 9) (.t 10)⟩,
 ⟨some 4, none, .mov (.t 11)⟩])
 (.ret (some [4]))))⟩
theorem c_impl_placeOf_ok : trF Try.prog ⟨[], [4], false⟩ Try.f65 = some c_impl_placeOf := by kernel_rfl
def c_spec_RingOk_b0 : IC :=
  (.seq (.seq (.reg false [⟨some 15, none, .mov (.t 3)⟩,
 ⟨some 16, none, .bin .lss (.t 15) (.k (.c (.int .i64 8)))⟩])
 (.cond (.t 16) .skip (.exit 0)))
 (.seq (.block 1 none none
 (.seq (.reg false [⟨some 19, none, .fld (.t 1) 8⟩,
 ⟨some 20, none, .load1 (.t 19)⟩,
 ⟨some 21, none, .mov (.t 3)⟩,
 ⟨some 22, none, .bin .add (.t 20) (.t 21)⟩,
 ⟨some 23, none, .bin .rem (.t 22) (.k (.c (.int .i64 8)))⟩,
 ⟨some 24, none, .fld (.t 1) 0⟩,
 ⟨some 25, none, .ixa (.t 24) (.t 23) 8 1⟩,
 ⟨some 26, none, .load1 (.t 25)⟩,
 ⟨some 4, none, .mov (.t 26)⟩])
 (.seq (.reg false [⟨some 27, none, .mov (.t 3)⟩,
 ⟨some 28, none, .fld (.t 1) 9⟩,
 ⟨some 29, none, .load1 (.t 28)⟩,
 ⟨some 30, none, .bin .lss (.t 27) (.t 29)⟩,
 ⟨some 31, none, .mov (.t 30)⟩,
 ⟨some 32, some (31, true), .mov (.t 4)⟩,
 ⟨some 33, some (31, true), .call 61 [.t 32]⟩,
 ⟨some 34, some (31, true), .un .not (.t 33)⟩,
 ⟨some 35, none, .pick (.t 31) (.t 34) (.k (.c (.bool false)))⟩,
 ⟨some 36, none, .mov (.t 35)⟩,
 ⟨some 37, some (36, false), .mov (.t 3)⟩,
 ⟨some 38, some (36, false), .fld (.t 1) 9⟩,
 ⟨some 39, some (36, false), .load1 (.t 38)⟩,
 ⟨some 40, some (36, false), .bin .geq (.t 37) (.t 39)⟩,
 ⟨some 41, some (36, false), .mov (.t 40)⟩,
 ⟨some 42, some (41, true), .mov (.t 4)⟩,
 ⟨some 43, some (41, true), .bin .neq (.t 42) (.k (.c (.int .i64 0)))⟩,
 ⟨some 44, some (36, false), .pick (.t 41) (.t 43) (.k (.c (.bool false)))⟩,
 ⟨some 45, none, .pick (.t 36) (.k (.c (.bool true))) (.t 44)⟩])
 (.cond (.t 45) (.seq (.reg false [⟨some 2, none, .mov (.k (.c (.bool false)))⟩])
 (.ret (some [2]))) .skip))))
 (.reg false [⟨some 17, none, .mov (.t 3)⟩,
 ⟨some 18, none, .bin .add (.t 17) (.k (.c (.int .i64 1)))⟩,
 ⟨some 3, none, .mov (.t 18)⟩])))
def c_spec_RingOk : IFn := ⟨46, [.t 2],
  (.seq (.reg false [⟨some 1, none, .box (.t 0) 32⟩,
 ⟨some 2, none, .mov (.k (.c (.bool false)))⟩])
 (.seq (.seq (.reg false [⟨some 5, none, .fld (.t 1) 8⟩,
 ⟨some 6, none, .load1 (.t 5)⟩,
 ⟨some 7, none, .call 70 [.t 6, .k (.c (.int .i64 0)), .k (.c (.int .i64 7))]⟩,
 ⟨some 8, none, .un .not (.t 7)⟩,
 ⟨some 9, none, .mov (.t 8)⟩,
 ⟨some 10, some (9, false), .fld (.t 1) 9⟩,
 ⟨some 11, some (9, false), .load1 (.t 10)⟩,
 ⟨some 12, some (9, false), .call 70 [.t 11, .k (.c (.int .i64 0)), .k (.c (.int .i64 8))]⟩,
 ⟨some 13, some (9, false), .un .not (.t 12)⟩,
 ⟨some 14, none, .pick (.t 9) (.k (.c (.bool true))) (.t 13)⟩])
 (.cond (.t 14) (.seq (.reg false [⟨some 2, none, .mov (.k (.c (.bool false)))⟩])
 (.ret (some [2]))) .skip))
 (.seq (.seq (.reg false [⟨some 3, none, .mov (.k (.c (.int .i64 0)))⟩])
 (.block 0 (some [1, 3]) (some [])
 (.loop c_spec_RingOk_b0)))
 (.seq (.reg false [⟨some 2, none, .mov (.k (.c (.bool true)))⟩])
 (.ret (some [2]))))))⟩
theorem c_spec_RingOk_ok : trF Try.prog ⟨[(0, [1, 3], [])], [2], false⟩ Try.f66 = some c_spec_RingOk := by kernel_rfl
def c_laws_toIntA8_b0 : IC :=
  (.seq (.seq (.reg false [⟨some 5, none, .mov (.t 4)⟩,
 ⟨some 6, none, .bin .lss (.t 5) (.k (.c (.int .i64 8)))⟩])
 (.cond (.t 6) .skip (.exit 0)))
 (.seq (.block 1 none none
 (.reg false [⟨some 9, none, .mov (.t 4)⟩,
 ⟨some 10, none, .mov (.t 4)⟩,
 ⟨some 11, none, .ixa (.t 1) (.t 10) 8 1⟩,
 ⟨some 12, none, .load1 (.t 11)⟩,
 ⟨some 13, none, .ixa (.t 3) (.t 9) 8 1⟩,
 ⟨none, none, .store (.t 13) (.t 12) 1⟩]))
 (.reg false [⟨some 7, none, .mov (.t 4)⟩,
 ⟨some 8, none, .bin .add (.t 7) (.k (.c (.int .i64 1)))⟩,
 ⟨some 4, none, .mov (.t 8)⟩])))
def c_laws_toIntA8 : IFn := ⟨15, [.cell 2 8 true],
  (.seq (.reg false [⟨some 1, none, .box (.t 0) 27⟩,
 ⟨some 2, none, .alloc [.int .i64 0, .int .i64 0, .int .i64 0, .int .i64 0, .int .i64 0, .int .i64 0, .int .i64 0, .int .i64 0] 27⟩])
 (.seq (.reg false [⟨some 3, none, .alloc [.int .i64 0, .int .i64 0, .int .i64 0, .int .i64 0, .int .i64 0, .int .i64 0, .int .i64 0, .int .i64 0] 27⟩])
 (.seq (.seq (.reg false [⟨some 4, none, .mov (.k (.c (.int .i64 0)))⟩])
 (.block 0 (some [1, 2, 3, 4]) (some [2, 3])
 (.loop c_laws_toIntA8_b0)))
 (.seq (.reg false [⟨some 14, none, .loadN (.t 3) 8⟩,
 ⟨none, none, .store (.t 2) (.t 14) 8⟩])
 (.ret (some [2]))))))⟩
theorem c_laws_toIntA8_ok : trF Try.prog ⟨[(0, [1, 2, 3, 4], [2, 3])], [2], false⟩ Try.f67 = some c_laws_toIntA8 := by kernel_rfl
def c_spec_l1Has_b0 : IC :=
  (.seq (.seq (.reg false [⟨some 6, none, .mov (.t 5)⟩,
 ⟨some 7, none, .mov (.t 0)⟩,
 ⟨some 8, none, .len (.t 7)⟩,
 ⟨some 9, none, .bin .lss (.t 6) (.t 8)⟩])
 (.cond (.t 9) .skip (.exit 0)))
 (.seq (.block 1 none none
 (.seq (.reg false [⟨some 12, none, .mov (.t 0)⟩,
 ⟨some 13, none, .mov (.t 5)⟩,
 ⟨some 14, none, .ixs (.t 12) (.t 13) 1⟩,
 ⟨some 15, none, .load1 (.t 14)⟩,
 ⟨some 16, none, .mov (.t 1)⟩,
 ⟨some 17, none, .bin .eql (.t 15) (.t 16)⟩])
 (.cond (.t 17) (.seq (.reg false [⟨some 4, none, .mov (.k (.c (.bool true)))⟩])
 (.ret (some [4]))) .skip)))
 (.reg false [⟨some 10, none, .mov (.t 5)⟩,
 ⟨some 11, none, .bin .add (.t 10) (.k (.c (.int .i64 1)))⟩,
 ⟨some 5, none, .mov (.t 11)⟩])))
def c_spec_l1Has : IFn := ⟨18, [.t 4],
  (.seq (.reg false [⟨some 4, none, .mov (.k (.c (.bool false)))⟩])
 (.seq (.seq (.reg false [⟨some 5, none, .mov (.k (.c (.int .i64 0)))⟩])
 (.block 0 (some [0, 1, 5]) (some [])
 (.loop c_spec_l1Has_b0)))
 (.seq (.reg false [⟨some 4, none, .mov (.k (.c (.bool false)))⟩])
 (.ret (some [4])))))⟩
theorem c_spec_l1Has_ok : trF Try.prog ⟨[(0, [0, 1, 5], [])], [4], false⟩ Try.f68 = some c_spec_l1Has := by kernel_rfl
def c_impl_setHas : IFn := ⟨14, [.t 4],
  (.seq (.reg false [⟨some 4, none, .mov (.k (.c (.bool false)))⟩])
 (.seq (.reg false [⟨some 5, none, .mov (.t 0)⟩,
 ⟨some 6, none, .mov (.t 1)⟩,
 ⟨some 7, none, .mov (.t 0)⟩,
 ⟨some 8, none, .len (.t 7)⟩,
 ⟨some 9, none, .call 65 [.t 6, .t 8]⟩,
 ⟨some 10, none, .ixs (.t 5) (.t 9) 1⟩,
 ⟨some 11, none, .load1 (.t 10)⟩,
 ⟨some 12, none, .mov (.t 1)⟩,
 ⟨some 13, none, .call 102 [.t 11, .t 12]⟩,
 ⟨some 4, none, .mov (.t 13)⟩])
 (.ret (some [4]))))⟩
theorem c_impl_setHas_ok : trF Try.prog ⟨[], [4], false⟩ Try.f69 = some c_impl_setHas := by kernel_rfl
def c_spec_l1In : IFn := ⟨15, [.t 6],
  (.seq (.reg false [⟨some 6, none, .mov (.k (.c (.bool false)))⟩])
 (.seq (.reg false [⟨some 7, none, .mov (.t 0)⟩,
 ⟨some 8, none, .mov (.t 1)⟩,
 ⟨some 9, none, .bin .geq (.t 7) (.t 8)⟩,
 ⟨some 10, none, .mov (.t 9)⟩,
 ⟨some 11, some (10, true), .mov (.t 0)⟩,
 ⟨some 12, some (10, true), .mov (.t 2)⟩,
 ⟨some 13, some (10, true), .bin .leq (.t 11) (.t 12)⟩,
 ⟨some 14, none, .pick (.t 10) (.t 13) (.k (.c (.bool false)))⟩,
 ⟨some 6, none, .mov (.t 14)⟩])
 (.ret (some [6]))))⟩
theorem c_spec_l1In_ok : trF Try.prog ⟨[], [6], false⟩ Try.f70 = some c_spec_l1In := by kernel_rfl
def c_spec_RingTake : IFn := ⟨36, [.cell 2 10 true, .t 3, .t 4],
  (.seq (.reg false [⟨some 1, none, .box (.t 0) 32⟩,
 ⟨some 2, none, .alloc [.int .i64 0, .int .i64 0, .int .i64 0, .int .i64 0, .int .i64 0, .int .i64 0, .int .i64 0, .int .i64 0, .int .i64 0, .int .i64 0] 32⟩,
 ⟨some 3, none, .mov (.k (.c (.int .i64 0)))⟩,
 ⟨some 4, none, .mov (.k (.c (.int .i64 0)))⟩])
 (.seq (.block 0 none none
 (.seq (.reg false [⟨some 7, none, .loadN (.t 1) 10⟩,
 ⟨some 8, none, .call 66 [.t 7]⟩,
 ⟨some 9, none, .un .not (.t 8)⟩,
 ⟨some 6, none, .mov (.t 9)⟩])
 (.cond (.t 6) (.seq (.reg false [⟨some 10, none, .loadN (.t 1) 10⟩,
 ⟨none, none, .store (.t 2) (.t 10) 10⟩,
 ⟨some 3, none, .mov (.k (.c (.int .i64 0)))⟩,
 ⟨some 4, none, .mov (.k (.c (.int .i64 1)))⟩])
 (.ret (some [2, 3, 4]))) (.seq (.reg false [⟨some 12, none, .fld (.t 1) 9⟩,
 ⟨some 13, none, .load1 (.t 12)⟩,
 ⟨some 14, none, .bin .eql (.t 13) (.k (.c (.int .i64 0)))⟩,
 ⟨some 11, none, .mov (.t 14)⟩])
 (.cond (.t 11) (.seq (.reg false [⟨some 15, none, .loadN (.t 1) 10⟩,
 ⟨none, none, .store (.t 2) (.t 15) 10⟩,
 ⟨some 3, none, .mov (.k (.c (.int .i64 0)))⟩,
 ⟨some 4, none, .mov (.k (.c (.int .i64 3)))⟩])
 (.ret (some [2, 3, 4]))) .skip)))))
 (.seq (.reg false [⟨some 16, none, .fld (.t 1) 8⟩,
 ⟨some 17, none, .load1 (.t 16)⟩,
 ⟨some 18, none, .fld (.t 1) 0⟩,
 ⟨some 19, none, .ixa (.t 18) (.t 17) 8 1⟩,
 ⟨some 20, none, .load1 (.t 19)⟩,
 ⟨some 5, none, .mov (.t 20)⟩])
 (.seq (.reg false [⟨some 21, none, .fld (.t 1) 8⟩,
 ⟨some 22, none, .load1 (.t 21)⟩,
 ⟨some 23, none, .fld (.t 1) 0⟩,
 ⟨some 24, none, .ixa (.t 23) (.t 22) 8 1⟩,
 ⟨none, none, .store (.t 24) (.k (.c (.int .i64 0))) 1⟩])
 (.seq (.reg false [⟨some 25, none, .fld (.t 1) 8⟩,
 ⟨some 26, none, .load1 (.t 25)⟩,
 ⟨some 27, none, .bin .add (.t 26) (.k (.c (.int .i64 1)))⟩,
 ⟨some 28, none, .bin .rem (.t 27) (.k (.c (.int .i64 8)))⟩,
 ⟨some 29, none, .fld (.t 1) 8⟩,
 ⟨none, none, .store (.t 29) (.t 28) 1⟩])
 (.seq (.reg false [⟨some 30, none, .fld (.t 1) 9⟩,
 ⟨some 31, none, .load1 (.t 30)⟩,
 ⟨some 32, none, .bin .sub (.t 31) (.k (.c (.int .i64 1)))⟩,
 ⟨some 33, none, .fld (.t 1) 9⟩,
 ⟨none, none, .store (.t 33) (.t 32) 1⟩])
 (.seq (.reg false [⟨some 34, none, .loadN (.t 1) 10⟩,
 ⟨some 35, none, .mov (.t 5)⟩,
 ⟨none, none, .store (.t 2) (.t 34) 10⟩,
 ⟨some 3, none, .mov (.t 35)⟩,
 ⟨some 4, none, .mov (.k (.c (.int .i64 0)))⟩])
 (.ret (some [2, 3, 4])))))))))⟩
theorem c_spec_RingTake_ok : trF Try.prog ⟨[], [2, 3, 4], false⟩ Try.f71 = some c_spec_RingTake := by kernel_rfl
def c_spec_RingPut : IFn := ⟨35, [.cell 4 10 true, .t 5],
  (.seq (.reg false [⟨some 2, none, .box (.t 0) 32⟩,
 ⟨some 4, none, .alloc [.int .i64 0, .int .i64 0, .int .i64 0, .int .i64 0, .int .i64 0, .int .i64 0, .int .i64 0, .int .i64 0, .int .i64 0, .int .i64 0] 32⟩,
 ⟨some 5, none, .mov (.k (.c (.int .i64 0)))⟩])
 (.seq (.block 0 none none
 (.seq (.reg false [⟨some 7, none, .loadN (.t 2) 10⟩,
 ⟨some 8, none, .call 66 [.t 7]⟩,
 ⟨some 9, none, .un .not (.t 8)⟩,
 ⟨some 10, none, .mov (.t 9)⟩,
 ⟨some 11, some (10, false), .mov (.t 1)⟩,
 ⟨some 12, some (10, false), .call 61 [.t 11]⟩,
 ⟨some 13, some (10, false), .un .not (.t 12)⟩,
 ⟨some 14, none, .pick (.t 10) (.k (.c (.bool true))) (.t 13)⟩,
 ⟨some 6, none, .mov (.t 14)⟩])
 (.cond (.t 6) (.seq (.reg false [⟨some 15, none, .loadN (.t 2) 10⟩,
 ⟨none, none, .store (.t 4) (.t 15) 10⟩,
 ⟨some 5, none, .mov (.k (.c (.int .i64 1)))⟩])
 (.ret (some [4, 5]))) (.seq (.reg false [⟨some 17, none, .fld (.t 2) 9⟩,
 ⟨some 18, none, .load1 (.t 17)⟩,
 ⟨some 19, none, .bin .eql (.t 18) (.k (.c (.int .i64 8)))⟩,
 ⟨some 16, none, .mov (.t 19)⟩])
 (.cond (.t 16) (.seq (.reg false [⟨some 20, none, .loadN (.t 2) 10⟩,
 ⟨none, none, .store (.t 4) (.t 20) 10⟩,
 ⟨some 5, none, .mov (.k (.c (.int .i64 2)))⟩])
 (.ret (some [4, 5]))) .skip)))))
 (.seq (.reg false [⟨some 21, none, .fld (.t 2) 8⟩,
 ⟨some 22, none, .load1 (.t 21)⟩,
 ⟨some 23, none, .fld (.t 2) 9⟩,
 ⟨some 24, none, .load1 (.t 23)⟩,
 ⟨some 25, none, .bin .add (.t 22) (.t 24)⟩,
 ⟨some 26, none, .bin .rem (.t 25) (.k (.c (.int .i64 8)))⟩,
 ⟨some 27, none, .mov (.t 1)⟩,
 ⟨some 28, none, .fld (.t 2) 0⟩,
 ⟨some 29, none, .ixa (.t 28) (.t 26) 8 1⟩,
 ⟨none, none, .store (.t 29) (.t 27) 1⟩])
 (.seq (.reg false [⟨some 30, none, .fld (.t 2) 9⟩,
 ⟨some 31, none, .load1 (.t 30)⟩,
 ⟨some 32, none, .bin .add (.t 31) (.k (.c (.int .i64 1)))⟩,
 ⟨some 33, none, .fld (.t 2) 9⟩,
 ⟨none, none, .store (.t 33) (.t 32) 1⟩])
 (.seq (.reg false [⟨some 34, none, .loadN (.t 2) 10⟩,
 ⟨none, none, .store (.t 4) (.t 34) 10⟩,
 ⟨some 5, none, .mov (.k (.c (.int .i64 0)))⟩])
 (.ret (some [4, 5])))))))⟩
theorem c_spec_RingPut_ok : trF Try.prog ⟨[], [4, 5], false⟩ Try.f72 = some c_spec_RingPut := by kernel_rfl
def c_impl_in : IFn := ⟨15, [.t 6],
  (.seq (.reg false [⟨some 6, none, .mov (.k (.c (.bool false)))⟩])
 (.seq (.reg false [⟨some 7, none, .mov (.t 1)⟩,
 ⟨some 8, none, .mov (.t 0)⟩,
 ⟨some 9, none, .bin .leq (.t 7) (.t 8)⟩,
 ⟨some 10, none, .mov (.t 9)⟩,
 ⟨some 11, some (10, true), .mov (.t 0)⟩,
 ⟨some 12, some (10, true), .mov (.t 2)⟩,
 ⟨some 13, some (10, true), .bin .leq (.t 11) (.t 12)⟩,
 ⟨some 14, none, .pick (.t 10) (.t 13) (.k (.c (.bool false)))⟩,
 ⟨some 6, none, .mov (.t 14)⟩])
 (.ret (some [6]))))⟩
theorem c_impl_in_ok : trF Try.prog ⟨[], [6], false⟩ Try.f73 = some c_impl_in := by kernel_rfl
def c_laws_eqIntA8_b0 : IC :=
  (.seq (.seq (.reg false [⟨some 6, none, .mov (.t 5)⟩,
 ⟨some 7, none, .bin .lss (.t 6) (.k (.c (.int .i64 8)))⟩])
 (.cond (.t 7) .skip (.exit 0)))
 (.seq (.block 1 none none
 (.seq (.reg true [⟨some 10, none, .mov (.t 5)⟩,
 ⟨some 11, none, .ixa (.t 2) (.t 10) 8 1⟩,
 ⟨some 12, none, .load1 (.t 11)⟩,
 ⟨some 13, none, .mov (.t 5)⟩,
 ⟨some 14, none, .ixa (.t 3) (.t 13) 8 1⟩,
 ⟨some 15, none, .load1 (.t 14)⟩,
 ⟨some 16, none, .bin .neq (.t 12) (.t 15)⟩])
 (.cond (.t 16) (.seq (.reg false [⟨some 4, none, .mov (.k (.c (.bool false)))⟩])
 (.ret (some [4]))) .skip)))
 (.reg false [⟨some 8, none, .mov (.t 5)⟩,
 ⟨some 9, none, .bin .add (.t 8) (.k (.c (.int .i64 1)))⟩,
 ⟨some 5, none, .mov (.t 9)⟩])))
def c_laws_eqIntA8 : IFn := ⟨17, [.t 4],
  (.seq (.reg false [⟨some 2, none, .box (.t 0) 27⟩,
 ⟨some 3, none, .box (.t 1) 27⟩,
 ⟨some 4, none, .mov (.k (.c (.bool false)))⟩])
 (.seq (.seq (.reg false [⟨some 5, none, .mov (.k (.c (.int .i64 0)))⟩])
 (.block 0 (some [2, 3, 5]) (some [])
 (.loop c_laws_eqIntA8_b0)))
 (.seq (.reg false [⟨some 4, none, .mov (.k (.c (.bool true)))⟩])
 (.ret (some [4])))))⟩
theorem c_laws_eqIntA8_ok : trF Try.prog ⟨[(0, [2, 3, 5], [])], [4], false⟩ Try.f74 = some c_laws_eqIntA8 := by kernel_rfl
def c_spec_NewChain : IFn := ⟨2, [.cell 0 65 true],
  (.seq (.reg false [⟨some 0, none, .alloc [.bool false, .int .i64 0, .int .i64 0, .int .i64 0, .bool false, .int .i64 0, .int .i64 0, .int .i64 0, .bool false, .int .i64 0, .int .i64 0, .int .i64 0, .bool false, .int .i64 0, .int .i64 0, .int .i64 0, .bool false, .int .i64 0, .int .i64 0, .int .i64 0, .bool false, .int .i64 0, .int .i64 0, .int .i64 0, .bool false, .int .i64 0, .int .i64 0, .int .i64 0, .bool false, .int .i64 0, .int .i64 0, .int .i64 0, .bool false, .int .i64 0, .int .i64 0, .int .i64 0, .bool false, .int .i64 0, .int .i64 0, .int .i64 0, .bool false, .int .i64 0, .int .i64 0, .int .i64 0, .bool false, .int .i64 0, .int .i64 0, .int .i64 0, .bool false, .int .i64 0, .int .i64 0, .int .i64 0, .bool false, .int .i64 0, .int .i64 0, .int .i64 0, .bool false, .int .i64 0, .int .i64 0, .int .i64 0, .bool false, .int .i64 0, .int .i64 0, .int .i64 0, .int .i64 0] 46⟩])
 (.seq (.reg false [⟨some 1, none, .bld [.bool false, .int .i64 0, .int .i64 0, .int .i64 0, .bool false, .int .i64 0, .int .i64 0, .int .i64 0, .bool false, .int .i64 0, .int .i64 0, .int .i64 0, .bool false, .int .i64 0, .int .i64 0, .int .i64 0, .bool false, .int .i64 0, .int .i64 0, .int .i64 0, .bool false, .int .i64 0, .int .i64 0, .int .i64 0, .bool false, .int .i64 0, .int .i64 0, .int .i64 0, .bool false, .int .i64 0, .int .i64 0, .int .i64 0, .bool false, .int .i64 0, .int .i64 0, .int .i64 0, .bool false, .int .i64 0, .int .i64 0, .int .i64 0, .bool false, .int .i64 0, .int .i64 0, .int .i64 0, .bool false, .int .i64 0, .int .i64 0, .int .i64 0, .bool false, .int .i64 0, .int .i64 0, .int .i64 0, .bool false, .int .i64 0, .int .i64 0, .int .i64 0, .bool false, .int .i64 0, .int .i64 0, .int .i64 0, .bool false, .int .i64 0, .int .i64 0, .int .i64 0, .int .i64 0] [(64, (1, .k (.c (.int .i64 (-1)))))]⟩,
 ⟨none, none, .store (.t 0) (.t 1) 65⟩])
 (.ret (some [0]))))⟩
theorem c_spec_NewChain_ok : trF Try.prog ⟨[], [0], false⟩ Try.f75 = some c_spec_NewChain := by kernel_rfl
def c_spec_NewTree : IFn := ⟨2, [.cell 0 65 true],
  (.seq (.reg false [⟨some 0, none, .alloc [.bool false, .int .i64 0, .int .i64 0, .int .i64 0, .bool false, .int .i64 0, .int .i64 0, .int .i64 0, .bool false, .int .i64 0, .int .i64 0, .int .i64 0, .bool false, .int .i64 0, .int .i64 0, .int .i64 0, .bool false, .int .i64 0, .int .i64 0, .int .i64 0, .bool false, .int .i64 0, .int .i64 0, .int .i64 0, .bool false, .int .i64 0, .int .i64 0, .int .i64 0, .bool false, .int .i64 0, .int .i64 0, .int .i64 0, .bool false, .int .i64 0, .int .i64 0, .int .i64 0, .bool false, .int .i64 0, .int .i64 0, .int .i64 0, .bool false, .int .i64 0, .int .i64 0, .int .i64 0, .bool false, .int .i64 0, .int .i64 0, .int .i64 0, .bool false, .int .i64 0, .int .i64 0, .int .i64 0, .bool false, .int .i64 0, .int .i64 0, .int .i64 0, .bool false, .int .i64 0, .int .i64 0, .int .i64 0, .bool false, .int .i64 0, .int .i64 0, .int .i64 0, .int .i64 0] 51⟩])
 (.seq (.reg false [⟨some 1, none, .bld [.bool false, .int .i64 0, .int .i64 0, .int .i64 0, .bool false, .int .i64 0, .int .i64 0, .int .i64 0, .bool false, .int .i64 0, .int .i64 0, .int .i64 0, .bool false, .int .i64 0, .int .i64 0, .int .i64 0, .bool false, .int .i64 0, .int .i64 0, .int .i64 0, .bool false, .int .i64 0, .int .i64 0, .int .i64 0, .bool false, .int .i64 0, .int .i64 0, .int .i64 0, .bool false, .int .i64 0, .int .i64 0, .int .i64 0, .bool false, .int .i64 0, .int .i64 0, .int .i64 0, .bool false, .int .i64 0, .int .i64 0, .int .i64 0, .bool false, .int .i64 0, .int .i64 0, .int .i64 0, .bool false, .int .i64 0, .int .i64 0, .int .i64 0, .bool false, .int .i64 0, .int .i64 0, .int .i64 0, .bool false, .int .i64 0, .int .i64 0, .int .i64 0, .bool false, .int .i64 0, .int .i64 0, .int .i64 0, .bool false, .int .i64 0, .int .i64 0, .int .i64 0, .int .i64 0] [(64, (1, .k (.c (.int .i64 (-1)))))]⟩,
 ⟨none, none, .store (.t 0) (.t 1) 65⟩])
 (.ret (some [0]))))⟩
theorem c_spec_NewTree_ok : trF Try.prog ⟨[], [0], false⟩ Try.f76 = some c_spec_NewTree := by kernel_rfl
def c_spec_NewSet : IFn := ⟨3, [.t 0],
  (.seq (.reg false [⟨some 0, none, .mov (.k (.c .nils))⟩])
 (.seq (.reg false [⟨some 1, none, .lit 0 1 [.int .i64 0] [] 3⟩,
 ⟨some 2, none, .lit 1 1 [.nils] [(0, .t 1)] 30⟩,
 ⟨some 0, none, .mov (.t 2)⟩])
 (.ret (some [0]))))⟩
theorem c_spec_NewSet_ok : trF Try.prog ⟨[], [0], false⟩ Try.f77 = some c_spec_NewSet := by kernel_rfl
def c_impl_NewChain : IFn := ⟨2, [.cell 0 65 true],
  (.seq (.reg false [⟨some 0, none, .alloc [.bool false, .int .i64 0, .int .i64 0, .int .i64 0, .bool false, .int .i64 0, .int .i64 0, .int .i64 0, .bool false, .int .i64 0, .int .i64 0, .int .i64 0, .bool false, .int .i64 0, .int .i64 0, .int .i64 0, .bool false, .int .i64 0, .int .i64 0, .int .i64 0, .bool false, .int .i64 0, .int .i64 0, .int .i64 0, .bool false, .int .i64 0, .int .i64 0, .int .i64 0, .bool false, .int .i64 0, .int .i64 0, .int .i64 0, .bool false, .int .i64 0, .int .i64 0, .int .i64 0, .bool false, .int .i64 0, .int .i64 0, .int .i64 0, .bool false, .int .i64 0, .int .i64 0, .int .i64 0, .bool false, .int .i64 0, .int .i64 0, .int .i64 0, .bool false, .int .i64 0, .int .i64 0, .int .i64 0, .bool false, .int .i64 0, .int .i64 0, .int .i64 0, .bool false, .int .i64 0, .int .i64 0, .int .i64 0, .bool false, .int .i64 0, .int .i64 0, .int .i64 0, .int .i64 0] 46⟩])
 (.seq (.reg false [⟨some 1, none, .bld [.bool false, .int .i64 0, .int .i64 0, .int .i64 0, .bool false, .int .i64 0, .int .i64 0, .int .i64 0, .bool false, .int .i64 0, .int .i64 0, .int .i64 0, .bool false, .int .i64 0, .int .i64 0, .int .i64 0, .bool false, .int .i64 0, .int .i64 0, .int .i64 0, .bool false, .int .i64 0, .int .i64 0, .int .i64 0, .bool false, .int .i64 0, .int .i64 0, .int .i64 0, .bool false, .int .i64 0, .int .i64 0, .int .i64 0, .bool false, .int .i64 0, .int .i64 0, .int .i64 0, .bool false, .int .i64 0, .int .i64 0, .int .i64 0, .bool false, .int .i64 0, .int .i64 0, .int .i64 0, .bool false, .int .i64 0, .int .i64 0, .int .i64 0, .bool false, .int .i64 0, .int .i64 0, .int .i64 0, .bool false, .int .i64 0, .int .i64 0, .int .i64 0, .bool false, .int .i64 0, .int .i64 0, .int .i64 0, .bool false, .int .i64 0, .int .i64 0, .int .i64 0, .int .i64 0] [(64, (1, .k (.c (.int .i64 (-1)))))]⟩,
 ⟨none, none, .store (.t 0) (.t 1) 65⟩])
 (.ret (some [0]))))⟩
theorem c_impl_NewChain_ok : trF Try.prog ⟨[], [0], false⟩ Try.f78 = some c_impl_NewChain := by kernel_rfl
def c_impl_NewTree : IFn := ⟨2, [.cell 0 65 true],
  (.seq (.reg false [⟨some 0, none, .alloc [.bool false, .int .i64 0, .int .i64 0, .int .i64 0, .bool false, .int .i64 0, .int .i64 0, .int .i64 0, .bool false, .int .i64 0, .int .i64 0, .int .i64 0, .bool false, .int .i64 0, .int .i64 0, .int .i64 0, .bool false, .int .i64 0, .int .i64 0, .int .i64 0, .bool false, .int .i64 0, .int .i64 0, .int .i64 0, .bool false, .int .i64 0, .int .i64 0, .int .i64 0, .bool false, .int .i64 0, .int .i64 0, .int .i64 0, .bool false, .int .i64 0, .int .i64 0, .int .i64 0, .bool false, .int .i64 0, .int .i64 0, .int .i64 0, .bool false, .int .i64 0, .int .i64 0, .int .i64 0, .bool false, .int .i64 0, .int .i64 0, .int .i64 0, .bool false, .int .i64 0, .int .i64 0, .int .i64 0, .bool false, .int .i64 0, .int .i64 0, .int .i64 0, .bool false, .int .i64 0, .int .i64 0, .int .i64 0, .bool false, .int .i64 0, .int .i64 0, .int .i64 0, .int .i64 0] 51⟩])
 (.seq (.reg false [⟨some 1, none, .bld [.bool false, .int .i64 0, .int .i64 0, .int .i64 0, .bool false, .int .i64 0, .int .i64 0, .int .i64 0, .bool false, .int .i64 0, .int .i64 0, .int .i64 0, .bool false, .int .i64 0, .int .i64 0, .int .i64 0, .bool false, .int .i64 0, .int .i64 0, .int .i64 0, .bool false, .int .i64 0, .int .i64 0, .int .i64 0, .bool false, .int .i64 0, .int .i64 0, .int .i64 0, .bool false, .int .i64 0, .int .i64 0, .int .i64 0, .bool false, .int .i64 0, .int .i64 0, .int .i64 0, .bool false, .int .i64 0, .int .i64 0, .int .i64 0, .bool false, .int .i64 0, .int .i64 0, .int .i64 0, .bool false, .int .i64 0, .int .i64 0, .int .i64 0, .bool false, .int .i64 0, .int .i64 0, .int .i64 0, .bool false, .int .i64 0, .int .i64 0, .int .i64 0, .bool false, .int .i64 0, .int .i64 0, .int .i64 0, .bool false, .int .i64 0, .int .i64 0, .int .i64 0, .int .i64 0] [(64, (1, .k (.c (.int .i64 (-1)))))]⟩,
 ⟨none, none, .store (.t 0) (.t 1) 65⟩])
 (.ret (some [0]))))⟩
theorem c_impl_NewTree_ok : trF Try.prog ⟨[], [0], false⟩ Try.f79 = some c_impl_NewTree := by kernel_rfl
def c_impl_NewSet : IFn := ⟨3, [.t 0],
  (.seq (.reg false [⟨some 0, none, .mov (.k (.c .nils))⟩])
 (.seq (.reg false [⟨some 1, none, .lit 0 1 [.int .i64 0] [] 3⟩,
 ⟨some 2, none, .lit 1 1 [.nils] [(0, .t 1)] 30⟩,
 ⟨some 0, none, .mov (.t 2)⟩])
 (.ret (some [0]))))⟩
theorem c_impl_NewSet_ok : trF Try.prog ⟨[], [0], false⟩ Try.f80 = some c_impl_NewSet := by kernel_rfl
def c_laws_eqChain : IFn := ⟨16, [.t 4],
  (.seq (.reg false [⟨some 2, none, .box (.t 0) 46⟩,
 ⟨some 3, none, .box (.t 1) 46⟩,
 ⟨some 4, none, .mov (.k (.c (.bool false)))⟩])
 (.seq (.seq (.reg false [⟨some 5, none, .fld (.t 2) 0⟩,
 ⟨some 6, none, .loadN (.t 5) 64⟩,
 ⟨some 7, none, .fld (.t 3) 0⟩,
 ⟨some 8, none, .loadN (.t 7) 64⟩,
 ⟨some 9, none, .call 103 [.t 6, .t 8]⟩,
 ⟨some 10, none, .un .not (.t 9)⟩])
 (.cond (.t 10) (.seq (.reg false [⟨some 4, none, .mov (.k (.c (.bool false)))⟩])
 (.ret (some [4]))) .skip))
 (.seq (.seq (.reg false [⟨some 11, none, .fld (.t 2) 64⟩,
 ⟨some 12, none, .load1 (.t 11)⟩,
 ⟨some 13, none, .fld (.t 3) 64⟩,
 ⟨some 14, none, .load1 (.t 13)⟩,
 ⟨some 15, none, .bin .neq (.t 12) (.t 14)⟩])
 (.cond (.t 15) (.seq (.reg false [⟨some 4, none, .mov (.k (.c (.bool false)))⟩])
 (.ret (some [4]))) .skip))
 (.seq (.reg false [⟨some 4, none, .mov (.k (.c (.bool true)))⟩])
 (.ret (some [4]))))))⟩
theorem c_laws_eqChain_ok : trF Try.prog ⟨[], [4], false⟩ Try.f81 = some c_laws_eqChain := by kernel_rfl
def c_spec_l14Draw_b0 : IC :=
  (.seq (.seq (.reg false [⟨some 10, none, .mov (.t 4)⟩,
 ⟨some 11, none, .bin .gtr (.t 10) (.k (.c (.int .i64 0)))⟩])
 (.cond (.t 11) .skip (.exit 0)))
 (.seq (.block 1 none none
 (.seq (.reg false [⟨some 14, none, .mov (.t 0)⟩,
 ⟨some 15, none, .call 105 [.t 14, .k (.c (.int .i64 3))]⟩])
 (.cond (.t 15) (.reg false [⟨some 17, none, .loadN (.t 3) 10⟩,
 ⟨some 18, none, .call 71 [.t 17]⟩,
 ⟨some 16, none, .mov (.t 18)⟩,
 ⟨some 19, none, .ext (.t 16) 0⟩,
 ⟨some 20, none, .ext (.t 16) 1⟩,
 ⟨some 21, none, .ext (.t 16) 2⟩,
 ⟨none, none, .store (.t 3) (.t 19) 10⟩]) (.regE 0 [⟨⟨some 23, none, .loadN (.t 3) 10⟩, 0, 0, false, []⟩,
 ⟨⟨some 24, none, .mov (.t 0)⟩, 1, 0, false, []⟩,
 ⟨⟨some 25, none, .call 104 [.t 24, .k (.c (.int .i64 50))]⟩, 2, 0, true, []⟩,
 ⟨⟨some 26, none, .bin .sub (.t 25) (.k (.c (.int .i64 20)))⟩, 3, 0, false, []⟩,
 ⟨⟨some 27, none, .call 72 [.t 23, .t 26]⟩, 4, 0, false, []⟩,
 ⟨⟨some 22, none, .mov (.t 27)⟩, 5, 0, false, []⟩,
 ⟨⟨some 28, none, .ext (.t 22) 0⟩, 6, 0, false, []⟩,
 ⟨⟨some 29, none, .ext (.t 22) 1⟩, 7, 0, false, []⟩,
 ⟨⟨none, none, .store (.t 3) (.t 28) 10⟩, 8, 0, false, []⟩]))))
 (.reg false [⟨some 12, none, .mov (.t 4)⟩,
 ⟨some 13, none, .bin .sub (.t 12) (.k (.c (.int .i64 1)))⟩,
 ⟨some 4, none, .mov (.t 13)⟩])))
def c_spec_l14Draw : IFn := ⟨31, [.cell 2 10 true],
  (.seq (.reg false [⟨some 2, none, .alloc [.int .i64 0, .int .i64 0, .int .i64 0, .int .i64 0, .int .i64 0, .int .i64 0, .int .i64 0, .int .i64 0, .int .i64 0, .int .i64 0] 32⟩])
 (.seq (.reg false [⟨some 5, none, .mov (.t 0)⟩,
 ⟨some 6, none, .call 104 [.t 5, .k (.c (.int .i64 8))]⟩,
 ⟨some 7, none, .bld [.int .i64 0, .int .i64 0, .int .i64 0, .int .i64 0, .int .i64 0, .int .i64 0, .int .i64 0, .int .i64 0, .int .i64 0, .int .i64 0] [(8, (1, .t 6))]⟩,
 ⟨some 3, none, .alloc [.int .i64 0, .int .i64 0, .int .i64 0, .int .i64 0, .int .i64 0, .int .i64 0, .int .i64 0, .int .i64 0, .int .i64 0, .int .i64 0] 32⟩,
 ⟨none, none, .store (.t 3) (.t 7) 10⟩])
 (.seq (.seq (.reg false [⟨some 8, none, .mov (.t 0)⟩,
 ⟨some 9, none, .call 104 [.t 8, .k (.c (.int .i64 14))]⟩,
 ⟨some 4, none, .mov (.t 9)⟩])
 (.block 0 (some [0, 2, 3, 4]) (some [2, 3])
 (.loop c_spec_l14Draw_b0)))
 (.seq (.reg false [⟨some 30, none, .loadN (.t 3) 10⟩,
 ⟨none, none, .store (.t 2) (.t 30) 10⟩])
 (.ret (some [2]))))))⟩
theorem c_spec_l14Draw_ok : trF Try.prog ⟨[(0, [0, 2, 3, 4], [2, 3])], [2], false⟩ Try.f82 = some c_spec_l14Draw := by kernel_rfl
def c_spec_l1New_b0 : IC :=
  (.seq (.seq (.reg false [⟨some 8, none, .mov (.t 4)⟩,
 ⟨some 9, none, .mov (.t 0)⟩,
 ⟨some 10, none, .len (.t 9)⟩,
 ⟨some 11, none, .bin .lss (.t 8) (.t 10)⟩,
 ⟨some 12, none, .mov (.t 11)⟩,
 ⟨some 13, some (12, true), .mov (.t 4)⟩,
 ⟨some 14, some (12, true), .bin .lss (.t 13) (.k (.c (.int .i64 4000)))⟩,
 ⟨some 15, none, .pick (.t 12) (.t 14) (.k (.c (.bool false)))⟩])
 (.cond (.t 15) .skip (.exit 0)))
 (.seq (.block 1 none none
 (.reg false [⟨some 18, none, .mov (.t 3)⟩,
 ⟨some 19, none, .bin .mul (.t 18) (.k (.c (.int .i64 131)))⟩,
 ⟨some 20, none, .mov (.t 0)⟩,
 ⟨some 21, none, .mov (.t 4)⟩,
 ⟨some 22, none, .ixs (.t 20) (.t 21) 1⟩,
 ⟨some 23, none, .load1 (.t 22)⟩,
 ⟨some 24, none, .cvt .i64 (.t 23)⟩,
 ⟨some 25, none, .bin .add (.t 19) (.t 24)⟩,
 ⟨some 26, none, .bin .add (.t 25) (.k (.c (.int .i64 7)))⟩,
 ⟨some 27, none, .bin .and (.t 26) (.k (.c (.int .i64 1073741823)))⟩,
 ⟨some 3, none, .mov (.t 27)⟩]))
 (.reg false [⟨some 16, none, .mov (.t 4)⟩,
 ⟨some 17, none, .bin .add (.t 16) (.k (.c (.int .i64 1)))⟩,
 ⟨some 4, none, .mov (.t 17)⟩])))
def c_spec_l1New : IFn := ⟨32, [.t 2],
  (.seq (.reg false [⟨some 2, none, .mov (.k (.c .nilp))⟩])
 (.seq (.reg false [⟨some 5, none, .mov (.t 0)⟩,
 ⟨some 6, none, .len (.t 5)⟩,
 ⟨some 7, none, .bin .add (.k (.c (.int .i64 87087))) (.t 6)⟩,
 ⟨some 3, none, .mov (.t 7)⟩])
 (.seq (.seq (.reg false [⟨some 4, none, .mov (.k (.c (.int .i64 0)))⟩])
 (.block 0 (some [0, 3, 4]) (some [0, 3])
 (.loop c_spec_l1New_b0)))
 (.seq (.reg false [⟨some 28, none, .mov (.t 0)⟩,
 ⟨some 29, none, .mov (.t 3)⟩,
 ⟨some 30, none, .bld [.nils, .int .i64 0, .int .i64 0] [(0, (1, .t 28)), (2, (1, .t 29))]⟩,
 ⟨some 31, none, .box (.t 30) 114⟩,
 ⟨some 2, none, .mov (.t 31)⟩])
 (.ret (some [2]))))))⟩
theorem c_spec_l1New_ok : trF Try.prog ⟨[(0, [0, 3, 4], [0, 3])], [2], false⟩ Try.f83 = some c_spec_l1New := by kernel_rfl
def c_impl_areValues : IFn := ⟨6, [.t 2],
  (.seq (.reg false [⟨some 2, none, .mov (.k (.c (.bool false)))⟩])
 (.seq (.reg false [⟨some 3, none, .mov (.t 0)⟩,
 ⟨some 4, none, .call 106 [.t 3, .k (.c (.fn 107))]⟩,
 ⟨some 5, none, .un .not (.t 4)⟩,
 ⟨some 2, none, .mov (.t 5)⟩])
 (.ret (some [2]))))⟩
theorem c_impl_areValues_ok : trF Try.prog ⟨[], [2], false⟩ Try.f84 = some c_impl_areValues := by kernel_rfl
def c_spec_l16Copy_b0 : IC :=
  (.seq (.seq (.reg false [⟨some 6, none, .mov (.t 4)⟩,
 ⟨some 7, none, .mov (.t 0)⟩,
 ⟨some 8, none, .len (.t 7)⟩,
 ⟨some 9, none, .bin .lss (.t 6) (.t 8)⟩])
 (.cond (.t 9) .skip (.exit 0)))
 (.seq (.block 1 none none
 (.reg false [⟨some 12, none, .mov (.t 3)⟩,
 ⟨some 13, none, .mov (.t 0)⟩,
 ⟨some 14, none, .mov (.t 4)⟩,
 ⟨some 15, none, .ixs (.t 13) (.t 14) 1⟩,
 ⟨some 16, none, .load1 (.t 15)⟩,
 ⟨some 17, none, .call 108 [.t 16]⟩,
 ⟨some 18, none, .lit 1 1 [.nils] [(0, .t 17)] 30⟩,
 ⟨some 19, none, .app (.t 12) (.t 18) 30 1 24⟩,
 ⟨some 3, none, .mov (.t 19)⟩]))
 (.reg false [⟨some 10, none, .mov (.t 4)⟩,
 ⟨some 11, none, .bin .add (.t 10) (.k (.c (.int .i64 1)))⟩,
 ⟨some 4, none, .mov (.t 11)⟩])))
def c_spec_l16Copy : IFn := ⟨21, [.t 2],
  (.seq (.reg false [⟨some 2, none, .mov (.k (.c .nils))⟩])
 (.seq (.reg false [⟨some 5, none, .lit 0 1 [.nils] [] 30⟩,
 ⟨some 3, none, .mov (.t 5)⟩])
 (.seq (.seq (.reg false [⟨some 4, none, .mov (.k (.c (.int .i64 0)))⟩])
 (.block 0 (some [0, 3, 4]) (some [3])
 (.loop c_spec_l16Copy_b0)))
 (.seq (.reg false [⟨some 20, none, .mov (.t 3)⟩,
 ⟨some 2, none, .mov (.t 20)⟩])
 (.ret (some [2]))))))⟩
theorem c_spec_l16Copy_ok : trF Try.prog ⟨[(0, [0, 3, 4], [3])], [2], false⟩ Try.f85 = some c_spec_l16Copy := by kernel_rfl
def c_impl_ownSet_b0 : IC :=
  (.seq (.reg false [⟨some 10, none, .bin .lss (.t 9) (.t 8)⟩])
 (.seq (.cond (.t 10) .skip (.exit 0))
 (.seq (.block 1 none none
 (.seq (.reg false [⟨some 11, none, .ixs (.t 7) (.t 9) 1⟩,
 ⟨some 12, none, .load1 (.t 11)⟩,
 ⟨some 5, none, .mov (.t 12)⟩])
 (.reg false [⟨some 13, none, .mov (.t 3)⟩,
 ⟨some 14, none, .mov (.t 5)⟩,
 ⟨some 15, none, .call 109 [.t 14]⟩,
 ⟨some 16, none, .lit 1 1 [.nils] [(0, .t 15)] 30⟩,
 ⟨some 17, none, .app (.t 13) (.t 16) 30 1 24⟩,
 ⟨some 3, none, .mov (.t 17)⟩])))
 (.reg false [⟨some 18, none, .bin .add (.t 9) (.k (.c (.int .i64 1)))⟩,
 ⟨some 9, none, .mov (.t 18)⟩]))))
def c_impl_ownSet : IFn := ⟨20, [.t 2],
  (.seq (.reg false [⟨some 2, none, .mov (.k (.c .nils))⟩])
 (.seq (.reg false [⟨some 6, none, .lit 0 1 [.nils] [] 30⟩,
 ⟨some 3, none, .mov (.t 6)⟩])
 (.seq (.seq (.reg false [⟨some 7, none, .mov (.t 0)⟩,
 ⟨some 8, none, .len (.t 7)⟩,
 ⟨some 9, none, .mov (.k (.c (.int .i64 0)))⟩])
 (.block 0 (some [3, 7, 8, 9]) (some [3])
 (.loop c_impl_ownSet_b0)))
 (.seq (.reg false [⟨some 19, none, .mov (.t 3)⟩,
 ⟨some 2, none, .mov (.t 19)⟩])
 (.ret (some [2]))))))⟩
theorem c_impl_ownSet_ok : trF Try.prog ⟨[(0, [3, 7, 8, 9], [3])], [2], false⟩ Try.f86 = some c_impl_ownSet := by kernel_rfl
def c_slices_DeleteFunc_int_int_b0 : IC :=
  (.seq (.seq (.reg false [⟨some 16, none, .mov (.t 6)⟩,
 ⟨some 17, none, .mov (.t 0)⟩,
 ⟨some 18, none, .len (.t 17)⟩,
 ⟨some 19, none, .bin .lss (.t 16) (.t 18)⟩])
 (.cond (.t 19) .skip (.exit 0)))
 (.seq (.block 1 none none
 (.seq (.reg false [⟨some 22, none, .mov (.t 0)⟩,
 ⟨some 23, none, .mov (.t 6)⟩,
 ⟨some 24, none, .ixs (.t 22) (.t 23) 1⟩,
 ⟨some 25, none, .load1 (.t 24)⟩,
 ⟨some 7, none, .mov (.t 25)⟩])
 (.seq (.reg false [⟨some 26, none, .mov (.t 1)⟩,
 ⟨some 27, none, .mov (.t 7)⟩,
 ⟨some 28, none, .callv (.t 26) [.t 27]⟩,
 ⟨some 29, none, .un .not (.t 28)⟩])
 (.cond (.t 29) (.seq (.reg false [⟨some 30, none, .mov (.t 0)⟩,
 ⟨some 31, none, .mov (.t 5)⟩,
 ⟨some 32, none, .mov (.t 7)⟩,
 ⟨some 33, none, .ixs (.t 30) (.t 31) 1⟩,
 ⟨none, none, .store (.t 33) (.t 32) 1⟩])
 (.reg false [⟨some 34, none, .mov (.t 5)⟩,
 ⟨some 35, none, .bin .add (.t 34) (.k (.c (.int .i64 1)))⟩,
 ⟨some 5, none, .mov (.t 35)⟩])) .skip))))
 (.reg false [⟨some 20, none, .mov (.t 6)⟩,
 ⟨some 21, none, .bin .add (.t 20) (.k (.c (.int .i64 1)))⟩,
 ⟨some 6, none, .mov (.t 21)⟩])))
def c_slices_DeleteFunc_int_int : IFn := ⟨42, [.t 4],
  (.seq (.reg false [⟨some 4, none, .mov (.k (.c .nils))⟩])
 (.seq (.reg false [⟨some 8, none, .mov (.t 0)⟩,
 ⟨some 9, none, .mov (.t 1)⟩,
 ⟨some 10, none, .call 110 [.t 8, .t 9]⟩,
 ⟨some 5, none, .mov (.t 10)⟩])
 (.seq (.seq (.reg false [⟨some 11, none, .mov (.t 5)⟩,
 ⟨some 12, none, .bin .eql (.t 11) (.k (.c (.int .i64 (-1))))⟩])
 (.cond (.t 12) (.seq (.reg false [⟨some 13, none, .mov (.t 0)⟩,
 ⟨some 4, none, .mov (.t 13)⟩])
 (.ret (some [4]))) .skip))
 (.seq (.seq (.reg false [⟨some 14, none, .mov (.t 5)⟩,
 ⟨some 15, none, .bin .add (.t 14) (.k (.c (.int .i64 1)))⟩,
 ⟨some 6, none, .mov (.t 15)⟩])
 (.block 0 (some [0, 1, 5, 6]) (some [0, 5])
 (.loop c_slices_DeleteFunc_int_int_b0)))
 (.seq (.reg false [⟨some 36, none, .mov (.t 0)⟩,
 ⟨some 37, none, .mov (.t 5)⟩,
 ⟨some 38, none, .sls (.t 36) 1 (some (.t 37)) none⟩,
 ⟨none, none, .clr (.t 38) (.int .i64 0)⟩])
 (.seq (.reg false [⟨some 39, none, .mov (.t 0)⟩,
 ⟨some 40, none, .mov (.t 5)⟩,
 ⟨some 41, none, .sls (.t 39) 1 none (some (.t 40))⟩,
 ⟨some 4, none, .mov (.t 41)⟩])
 (.ret (some [4]))))))))⟩
theorem c_slices_DeleteFunc_int_int_ok : trF Try.prog ⟨[(0, [0, 1, 5, 6], [0, 5])], [4], false⟩ Try.f87 = some c_slices_DeleteFunc_int_int := by kernel_rfl
def c_impl_SetDrop_1 : IFn := ⟨7, [.t 3],
  (.seq (.reg false [⟨some 3, none, .mov (.k (.c (.bool false)))⟩])
 (.seq (.reg false [⟨some 4, none, .mov (.t 0)⟩,
 ⟨some 5, none, .load1 (.t 1)⟩,
 ⟨some 6, none, .bin .eql (.t 4) (.t 5)⟩,
 ⟨some 3, none, .mov (.t 6)⟩])
 (.ret (some [3]))))⟩
theorem c_impl_SetDrop_1_ok : trF Try.prog ⟨[], [3], false⟩ Try.f88 = some c_impl_SetDrop_1 := by kernel_rfl
def c_spec_TreeOk_b0 : IC :=
  (.seq (.seq (.reg false [⟨some 9, none, .mov (.t 4)⟩,
 ⟨some 10, none, .bin .lss (.t 9) (.k (.c (.int .i64 16)))⟩])
 (.cond (.t 10) .skip (.exit 0)))
 (.seq (.block 1 none none
 (.seq (.reg false [⟨some 13, none, .mov (.t 4)⟩,
 ⟨some 14, none, .fld (.t 1) 0⟩,
 ⟨some 15, none, .ixa (.t 14) (.t 13) 16 4⟩,
 ⟨some 16, none, .loadN (.t 15) 4⟩,
 ⟨some 5, none, .alloc [.bool false, .int .i64 0, .int .i64 0, .int .i64 0] 48⟩,
 ⟨none, none, .store (.t 5) (.t 16) 4⟩])
 (.seq (.seq (.reg false [⟨some 17, none, .fld (.t 5) 0⟩,
 ⟨some 18, none, .load1 (.t 17)⟩,
 ⟨some 19, none, .un .not (.t 18)⟩,
 ⟨some 20, none, .mov (.t 19)⟩,
 ⟨some 21, some (20, true), .loadN (.t 5) 4⟩,
 ⟨some 22, some (20, true), .bld [.bool false, .int .i64 0, .int .i64 0, .int .i64 0] []⟩,
 ⟨some 23, some (20, true), .eqa true [none, some .i64, some .i64, some .i64] (.t 21) (.t 22)⟩,
 ⟨some 24, none, .pick (.t 20) (.t 23) (.k (.c (.bool false)))⟩,
 ⟨some 25, none, .mov (.t 24)⟩,
 ⟨some 26, some (25, false), .fld (.t 5) 0⟩,
 ⟨some 27, some (25, false), .load1 (.t 26)⟩,
 ⟨some 28, some (25, false), .mov (.t 27)⟩,
 ⟨some 29, some (28, true), .fld (.t 5) 1⟩,
 ⟨some 30, some (28, true), .load1 (.t 29)⟩,
 ⟨some 31, some (28, true), .call 61 [.t 30]⟩,
 ⟨some 32, some (28, true), .un .not (.t 31)⟩,
 ⟨some 33, some (25, false), .pick (.t 28) (.t 32) (.k (.c (.bool false)))⟩,
 ⟨some 34, none, .pick (.t 25) (.k (.c (.bool true))) (.t 33)⟩])
 (.cond (.t 34) (.seq (.reg false [⟨some 2, none, .mov (.k (.c (.bool false)))⟩])
 (.ret (some [2]))) .skip))
 (.seq (.reg false [⟨some 35, none, .fld (.t 5) 0⟩,
 ⟨some 36, none, .load1 (.t 35)⟩])
 (.cond (.t 36) (.reg false [⟨some 37, none, .mov (.t 3)⟩,
 ⟨some 38, none, .bin .add (.t 37) (.k (.c (.int .i64 1)))⟩,
 ⟨some 3, none, .mov (.t 38)⟩]) .skip)))))
 (.reg false [⟨some 11, none, .mov (.t 4)⟩,
 ⟨some 12, none, .bin .add (.t 11) (.k (.c (.int .i64 1)))⟩,
 ⟨some 4, none, .mov (.t 12)⟩])))
def c_spec_TreeOk_b1 : IC :=
  (.seq (.seq (.reg false [⟨some 47, none, .mov (.t 8)⟩,
 ⟨some 48, none, .mov (.t 6)⟩,
 ⟨some 49, none, .len (.t 48)⟩,
 ⟨some 50, none, .bin .lss (.t 47) (.t 49)⟩])
 (.cond (.t 50) .skip (.exit 2)))
 (.seq (.block 3 none none
 (.seq (.reg true [⟨some 53, none, .mov (.t 6)⟩,
 ⟨some 54, none, .mov (.t 8)⟩,
 ⟨some 55, none, .bin .sub (.t 54) (.k (.c (.int .i64 1)))⟩,
 ⟨some 56, none, .ixs (.t 53) (.t 55) 1⟩,
 ⟨some 57, none, .load1 (.t 56)⟩,
 ⟨some 58, none, .fld (.t 1) 0⟩,
 ⟨some 59, none, .ixa (.t 58) (.t 57) 16 4⟩,
 ⟨some 60, none, .fld (.t 59) 1⟩,
 ⟨some 61, none, .load1 (.t 60)⟩,
 ⟨some 62, none, .mov (.t 6)⟩,
 ⟨some 63, none, .mov (.t 8)⟩,
 ⟨some 64, none, .ixs (.t 62) (.t 63) 1⟩,
 ⟨some 65, none, .load1 (.t 64)⟩,
 ⟨some 66, none, .fld (.t 1) 0⟩,
 ⟨some 67, none, .ixa (.t 66) (.t 65) 16 4⟩,
 ⟨some 68, none, .fld (.t 67) 1⟩,
 ⟨some 69, none, .load1 (.t 68)⟩,
 ⟨some 70, none, .bin .geq (.t 61) (.t 69)⟩])
 (.cond (.t 70) (.seq (.reg false [⟨some 2, none, .mov (.k (.c (.bool false)))⟩])
 (.ret (some [2]))) .skip)))
 (.reg false [⟨some 51, none, .mov (.t 8)⟩,
 ⟨some 52, none, .bin .add (.t 51) (.k (.c (.int .i64 1)))⟩,
 ⟨some 8, none, .mov (.t 52)⟩])))
def c_spec_TreeOk : IFn := ⟨78, [.t 2],
  (.seq (.reg false [⟨some 1, none, .box (.t 0) 51⟩,
 ⟨some 2, none, .mov (.k (.c (.bool false)))⟩])
 (.seq (.reg false [⟨some 3, none, .mov (.k (.c (.int .i64 0)))⟩])
 (.seq (.seq (.reg false [⟨some 4, none, .mov (.k (.c (.int .i64 0)))⟩])
 (.block 0 (some [1, 3, 4]) (some [1, 3])
 (.loop c_spec_TreeOk_b0)))
 (.seq (.reg false [⟨some 40, none, .loadN (.t 1) 65⟩,
 ⟨some 41, none, .fld (.t 1) 64⟩,
 ⟨some 42, none, .load1 (.t 41)⟩,
 ⟨some 43, none, .lit 0 1 [.int .i64 0] [] 3⟩,
 ⟨some 44, none, .call 111 [.t 40, .t 42, .t 43]⟩,
 ⟨some 39, none, .mov (.t 44)⟩,
 ⟨some 45, none, .ext (.t 39) 0⟩,
 ⟨some 46, none, .ext (.t 39) 1⟩,
 ⟨some 6, none, .mov (.t 45)⟩,
 ⟨some 7, none, .mov (.t 46)⟩])
 (.seq (.seq (.reg false [⟨some 8, none, .mov (.k (.c (.int .i64 1)))⟩])
 (.block 2 (some [1, 3, 6, 7, 8]) (some [3, 6, 7])
 (.loop c_spec_TreeOk_b1)))
 (.seq (.reg false [⟨some 71, none, .mov (.t 7)⟩,
 ⟨some 72, none, .mov (.t 71)⟩,
 ⟨some 73, some (72, true), .mov (.t 6)⟩,
 ⟨some 74, some (72, true), .len (.t 73)⟩,
 ⟨some 75, some (72, true), .mov (.t 3)⟩,
 ⟨some 76, some (72, true), .bin .eql (.t 74) (.t 75)⟩,
 ⟨some 77, none, .pick (.t 72) (.t 76) (.k (.c (.bool false)))⟩,
 ⟨some 2, none, .mov (.t 77)⟩])
 (.ret (some [2]))))))))⟩
theorem c_spec_TreeOk_ok : trF Try.prog ⟨[(0, [1, 3, 4], [1, 3]), (2, [1, 3, 6, 7, 8], [3, 6, 7])], [2], false⟩ Try.f89 = some c_spec_TreeOk := by kernel_rfl
def c_spec_l15Walk_b0 : IC :=
  (.seq (.seq (.reg false [⟨some 13, none, .mov (.t 8)⟩,
 ⟨some 14, none, .bin .neq (.t 13) (.k (.c (.int .i64 (-1))))⟩])
 (.cond (.t 14) .skip (.exit 0)))
 (.block 1 none none
 (.seq (.seq (.reg false [⟨some 15, none, .mov (.t 7)⟩,
 ⟨some 16, none, .len (.t 15)⟩,
 ⟨some 17, none, .bin .eql (.t 16) (.k (.c (.int .i64 8)))⟩])
 (.cond (.t 17) (.seq (.reg false [⟨some 18, none, .mov (.t 7)⟩,
 ⟨some 4, none, .mov (.t 18)⟩,
 ⟨some 5, none, .mov (.k (.c (.bool false)))⟩,
 ⟨some 6, none, .mov (.k (.c (.bool false)))⟩])
 (.ret (some [4, 5, 6]))) .skip))
 (.seq (.reg false [⟨some 19, none, .mov (.t 7)⟩,
 ⟨some 20, none, .mov (.t 8)⟩,
 ⟨some 21, none, .lit 1 1 [.int .i64 0] [(0, .t 20)] 3⟩,
 ⟨some 22, none, .app (.t 19) (.t 21) 3 1 8⟩,
 ⟨some 7, none, .mov (.t 22)⟩])
 (.seq (.reg false [⟨some 23, none, .mov (.t 8)⟩,
 ⟨some 24, none, .fld (.t 2) 0⟩,
 ⟨some 25, none, .ixa (.t 24) (.t 23) 16 4⟩,
 ⟨some 26, none, .fld (.t 25) 1⟩,
 ⟨some 27, none, .load1 (.t 26)⟩,
 ⟨some 9, none, .mov (.t 27)⟩])
 (.seq (.seq (.reg false [⟨some 28, none, .mov (.t 9)⟩,
 ⟨some 29, none, .mov (.t 1)⟩,
 ⟨some 30, none, .bin .eql (.t 28) (.t 29)⟩])
 (.cond (.t 30) (.seq (.reg false [⟨some 31, none, .mov (.t 7)⟩,
 ⟨some 4, none, .mov (.t 31)⟩,
 ⟨some 5, none, .mov (.k (.c (.bool true)))⟩,
 ⟨some 6, none, .mov (.k (.c (.bool true)))⟩])
 (.ret (some [4, 5, 6]))) .skip))
 (.seq (.reg false [⟨some 32, none, .mov (.t 1)⟩,
 ⟨some 33, none, .mov (.t 9)⟩,
 ⟨some 34, none, .bin .lss (.t 32) (.t 33)⟩])
 (.cond (.t 34) (.reg false [⟨some 35, none, .mov (.t 8)⟩,
 ⟨some 36, none, .fld (.t 2) 0⟩,
 ⟨some 37, none, .ixa (.t 36) (.t 35) 16 4⟩,
 ⟨some 38, none, .fld (.t 37) 2⟩,
 ⟨some 39, none, .load1 (.t 38)⟩,
 ⟨some 8, none, .mov (.t 39)⟩]) (.reg false [⟨some 40, none, .mov (.t 8)⟩,
 ⟨some 41, none, .fld (.t 2) 0⟩,
 ⟨some 42, none, .ixa (.t 41) (.t 40) 16 4⟩,
 ⟨some 43, none, .fld (.t 42) 3⟩,
 ⟨some 44, none, .load1 (.t 43)⟩,
 ⟨some 8, none, .mov (.t 44)⟩])))))))))
def c_spec_l15Walk : IFn := ⟨46, [.t 4, .t 5, .t 6],
  (.seq (.reg false [⟨some 2, none, .box (.t 0) 51⟩,
 ⟨some 4, none, .mov (.k (.c .nils))⟩,
 ⟨some 5, none, .mov (.k (.c (.bool false)))⟩,
 ⟨some 6, none, .mov (.k (.c (.bool false)))⟩])
 (.seq (.reg false [⟨some 10, none, .lit 0 1 [.int .i64 0] [] 3⟩,
 ⟨some 7, none, .mov (.t 10)⟩])
 (.seq (.seq (.reg false [⟨some 11, none, .fld (.t 2) 64⟩,
 ⟨some 12, none, .load1 (.t 11)⟩,
 ⟨some 8, none, .mov (.t 12)⟩])
 (.block 0 (some [1, 2, 7, 8]) (some [7])
 (.loop c_spec_l15Walk_b0)))
 (.seq (.reg false [⟨some 45, none, .mov (.t 7)⟩,
 ⟨some 4, none, .mov (.t 45)⟩,
 ⟨some 5, none, .mov (.k (.c (.bool false)))⟩,
 ⟨some 6, none, .mov (.k (.c (.bool true)))⟩])
 (.ret (some [4, 5, 6]))))))⟩
theorem c_spec_l15Walk_ok : trF Try.prog ⟨[(0, [1, 2, 7, 8], [7])], [4, 5, 6], false⟩ Try.f90 = some c_spec_l15Walk := by kernel_rfl
def c_spec_l15Hang : IFn := ⟨40, [.cell 8 65 true],
  (.seq (.reg false [⟨some 4, none, .box (.t 0) 51⟩,
 ⟨some 8, none, .alloc [.bool false, .int .i64 0, .int .i64 0, .int .i64 0, .bool false, .int .i64 0, .int .i64 0, .int .i64 0, .bool false, .int .i64 0, .int .i64 0, .int .i64 0, .bool false, .int .i64 0, .int .i64 0, .int .i64 0, .bool false, .int .i64 0, .int .i64 0, .int .i64 0, .bool false, .int .i64 0, .int .i64 0, .int .i64 0, .bool false, .int .i64 0, .int .i64 0, .int .i64 0, .bool false, .int .i64 0, .int .i64 0, .int .i64 0, .bool false, .int .i64 0, .int .i64 0, .int .i64 0, .bool false, .int .i64 0, .int .i64 0, .int .i64 0, .bool false, .int .i64 0, .int .i64 0, .int .i64 0, .bool false, .int .i64 0, .int .i64 0, .int .i64 0, .bool false, .int .i64 0, .int .i64 0, .int .i64 0, .bool false, .int .i64 0, .int .i64 0, .int .i64 0, .bool false, .int .i64 0, .int .i64 0, .int .i64 0, .bool false, .int .i64 0, .int .i64 0, .int .i64 0, .int .i64 0] 51⟩])
 (.seq (.seq (.reg false [⟨some 10, none, .mov (.t 1)⟩,
 ⟨some 11, none, .len (.t 10)⟩,
 ⟨some 12, none, .bin .eql (.t 11) (.k (.c (.int .i64 0)))⟩])
 (.cond (.t 12) (.seq (.reg false [⟨some 13, none, .mov (.t 3)⟩,
 ⟨some 14, none, .fld (.t 4) 64⟩,
 ⟨none, none, .store (.t 14) (.t 13) 1⟩])
 (.seq (.reg false [⟨some 15, none, .loadN (.t 4) 65⟩,
 ⟨none, none, .store (.t 8) (.t 15) 65⟩])
 (.ret (some [8])))) .skip))
 (.seq (.reg false [⟨some 16, none, .mov (.t 1)⟩,
 ⟨some 17, none, .mov (.t 1)⟩,
 ⟨some 18, none, .len (.t 17)⟩,
 ⟨some 19, none, .bin .sub (.t 18) (.k (.c (.int .i64 1)))⟩,
 ⟨some 20, none, .ixs (.t 16) (.t 19) 1⟩,
 ⟨some 21, none, .load1 (.t 20)⟩,
 ⟨some 9, none, .mov (.t 21)⟩])
 (.seq (.seq (.reg false [⟨some 22, none, .mov (.t 2)⟩,
 ⟨some 23, none, .mov (.t 9)⟩,
 ⟨some 24, none, .fld (.t 4) 0⟩,
 ⟨some 25, none, .ixa (.t 24) (.t 23) 16 4⟩,
 ⟨some 26, none, .fld (.t 25) 1⟩,
 ⟨some 27, none, .load1 (.t 26)⟩,
 ⟨some 28, none, .bin .lss (.t 22) (.t 27)⟩])
 (.cond (.t 28) (.reg false [⟨some 29, none, .mov (.t 9)⟩,
 ⟨some 30, none, .mov (.t 3)⟩,
 ⟨some 31, none, .fld (.t 4) 0⟩,
 ⟨some 32, none, .ixa (.t 31) (.t 29) 16 4⟩,
 ⟨some 33, none, .fld (.t 32) 2⟩,
 ⟨none, none, .store (.t 33) (.t 30) 1⟩]) (.reg false [⟨some 34, none, .mov (.t 9)⟩,
 ⟨some 35, none, .mov (.t 3)⟩,
 ⟨some 36, none, .fld (.t 4) 0⟩,
 ⟨some 37, none, .ixa (.t 36) (.t 34) 16 4⟩,
 ⟨some 38, none, .fld (.t 37) 3⟩,
 ⟨none, none, .store (.t 38) (.t 35) 1⟩])))
 (.seq (.reg false [⟨some 39, none, .loadN (.t 4) 65⟩,
 ⟨none, none, .store (.t 8) (.t 39) 65⟩])
 (.ret (some [8])))))))⟩
theorem c_spec_l15Hang_ok : trF Try.prog ⟨[], [8], false⟩ Try.f91 = some c_spec_l15Hang := by kernel_rfl
def c_laws_toTwigA16_b0 : IC :=
  (.seq (.seq (.reg false [⟨some 5, none, .mov (.t 4)⟩,
 ⟨some 6, none, .bin .lss (.t 5) (.k (.c (.int .i64 16)))⟩])
 (.cond (.t 6) .skip (.exit 0)))
 (.seq (.block 1 none none
 (.reg false [⟨some 9, none, .mov (.t 4)⟩,
 ⟨some 10, none, .mov (.t 4)⟩,
 ⟨some 11, none, .ixa (.t 1) (.t 10) 16 4⟩,
 ⟨some 12, none, .loadN (.t 11) 4⟩,
 ⟨some 13, none, .call 112 [.t 12]⟩,
 ⟨some 14, none, .ixa (.t 3) (.t 9) 16 4⟩,
 ⟨none, none, .store (.t 14) (.t 13) 4⟩]))
 (.reg false [⟨some 7, none, .mov (.t 4)⟩,
 ⟨some 8, none, .bin .add (.t 7) (.k (.c (.int .i64 1)))⟩,
 ⟨some 4, none, .mov (.t 8)⟩])))
def c_laws_toTwigA16 : IFn := ⟨16, [.cell 2 64 true],
  (.seq (.reg false [⟨some 1, none, .box (.t 0) 70⟩,
 ⟨some 2, none, .alloc [.bool false, .int .i64 0, .int .i64 0, .int .i64 0, .bool false, .int .i64 0, .int .i64 0, .int .i64 0, .bool false, .int .i64 0, .int .i64 0, .int .i64 0, .bool false, .int .i64 0, .int .i64 0, .int .i64 0, .bool false, .int .i64 0, .int .i64 0, .int .i64 0, .bool false, .int .i64 0, .int .i64 0, .int .i64 0, .bool false, .int .i64 0, .int .i64 0, .int .i64 0, .bool false, .int .i64 0, .int .i64 0, .int .i64 0, .bool false, .int .i64 0, .int .i64 0, .int .i64 0, .bool false, .int .i64 0, .int .i64 0, .int .i64 0, .bool false, .int .i64 0, .int .i64 0, .int .i64 0, .bool false, .int .i64 0, .int .i64 0, .int .i64 0, .bool false, .int .i64 0, .int .i64 0, .int .i64 0, .bool false, .int .i64 0, .int .i64 0, .int .i64 0, .bool false, .int .i64 0, .int .i64 0, .int .i64 0, .bool false, .int .i64 0, .int .i64 0, .int .i64 0] 49⟩])
 (.seq (.reg false [⟨some 3, none, .alloc [.bool false, .int .i64 0, .int .i64 0, .int .i64 0, .bool false, .int .i64 0, .int .i64 0, .int .i64 0, .bool false, .int .i64 0, .int .i64 0, .int .i64 0, .bool false, .int .i64 0, .int .i64 0, .int .i64 0, .bool false, .int .i64 0, .int .i64 0, .int .i64 0, .bool false, .int .i64 0, .int .i64 0, .int .i64 0, .bool false, .int .i64 0, .int .i64 0, .int .i64 0, .bool false, .int .i64 0, .int .i64 0, .int .i64 0, .bool false, .int .i64 0, .int .i64 0, .int .i64 0, .bool false, .int .i64 0, .int .i64 0, .int .i64 0, .bool false, .int .i64 0, .int .i64 0, .int .i64 0, .bool false, .int .i64 0, .int .i64 0, .int .i64 0, .bool false, .int .i64 0, .int .i64 0, .int .i64 0, .bool false, .int .i64 0, .int .i64 0, .int .i64 0, .bool false, .int .i64 0, .int .i64 0, .int .i64 0, .bool false, .int .i64 0, .int .i64 0, .int .i64 0] 49⟩])
 (.seq (.seq (.reg false [⟨some 4, none, .mov (.k (.c (.int .i64 0)))⟩])
 (.block 0 (some [1, 2, 3, 4]) (some [2, 3])
 (.loop c_laws_toTwigA16_b0)))
 (.seq (.reg false [⟨some 15, none, .loadN (.t 3) 64⟩,
 ⟨none, none, .store (.t 2) (.t 15) 64⟩])
 (.ret (some [2]))))))⟩
theorem c_laws_toTwigA16_ok : trF Try.prog ⟨[(0, [1, 2, 3, 4], [2, 3])], [2], false⟩ Try.f92 = some c_laws_toTwigA16 := by kernel_rfl
def c_impl_TreeOk_b0 : IC :=
  (.seq (.reg false [⟨some 15, none, .bin .lss (.t 14) (.k (.c (.int .i64 16)))⟩])
 (.seq (.cond (.t 15) .skip (.exit 0))
 (.seq (.block 1 none none
 (.seq (.reg false [⟨some 16, none, .mov (.t 14)⟩,
 ⟨some 17, none, .idx (.t 13) (.t 14) 16 4 true⟩,
 ⟨some 5, none, .alloc [.bool false, .int .i64 0, .int .i64 0, .int .i64 0] 48⟩,
 ⟨some 4, none, .mov (.t 16)⟩,
 ⟨none, none, .store (.t 5) (.t 17) 4⟩])
 (.seq (.reg true [⟨some 18, none, .fld (.t 5) 0⟩,
 ⟨some 19, none, .load1 (.t 18)⟩,
 ⟨some 20, none, .mov (.t 4)⟩,
 ⟨some 21, none, .ixa (.t 3) (.t 20) 16 1⟩,
 ⟨some 22, none, .load1 (.t 21)⟩,
 ⟨some 23, none, .binb true (.t 19) (.t 22)⟩,
 ⟨some 24, none, .mov (.t 23)⟩,
 ⟨some 25, some (24, false), .fld (.t 5) 0⟩,
 ⟨some 26, some (24, false), .load1 (.t 25)⟩,
 ⟨some 27, some (24, false), .un .not (.t 26)⟩,
 ⟨some 28, some (24, false), .mov (.t 27)⟩,
 ⟨some 29, some (28, true), .loadN (.t 5) 4⟩,
 ⟨some 30, some (28, true), .bld [.bool false, .int .i64 0, .int .i64 0, .int .i64 0] []⟩,
 ⟨some 31, some (28, true), .eqa true [none, some .i64, some .i64, some .i64] (.t 29) (.t 30)⟩,
 ⟨some 32, some (24, false), .pick (.t 28) (.t 31) (.k (.c (.bool false)))⟩,
 ⟨some 33, none, .pick (.t 24) (.k (.c (.bool true))) (.t 32)⟩])
 (.cond (.t 33) (.seq (.reg false [⟨some 2, none, .mov (.k (.c (.bool false)))⟩])
 (.ret (some [2]))) .skip))))
 (.reg false [⟨some 34, none, .bin .add (.t 14) (.k (.c (.int .i64 1)))⟩,
 ⟨some 14, none, .mov (.t 34)⟩]))))
def c_impl_TreeOk : IFn := ⟨35, [.t 2],
  (.seq (.reg false [⟨some 1, none, .box (.t 0) 51⟩,
 ⟨some 2, none, .mov (.k (.c (.bool false)))⟩])
 (.seq (.reg false [⟨some 6, none, .bld [.bool false, .bool false, .bool false, .bool false, .bool false, .bool false, .bool false, .bool false, .bool false, .bool false, .bool false, .bool false, .bool false, .bool false, .bool false, .bool false] []⟩,
 ⟨some 3, none, .alloc [.bool false, .bool false, .bool false, .bool false, .bool false, .bool false, .bool false, .bool false, .bool false, .bool false, .bool false, .bool false, .bool false, .bool false, .bool false, .bool false] 120⟩,
 ⟨none, none, .store (.t 3) (.t 6) 16⟩])
 (.seq (.seq (.reg false [⟨some 7, none, .loadN (.t 1) 65⟩,
 ⟨some 8, none, .fld (.t 1) 64⟩,
 ⟨some 9, none, .load1 (.t 8)⟩,
 ⟨some 10, none, .call 113 [.t 7, .t 9, .k (.c (.int .i64 (-1000000000))), .k (.c (.int .i64 1000000000)), .t 3]⟩,
 ⟨some 11, none, .un .not (.t 10)⟩])
 (.cond (.t 11) (.seq (.reg false [⟨some 2, none, .mov (.k (.c (.bool false)))⟩])
 (.ret (some [2]))) .skip))
 (.seq (.seq (.reg false [⟨some 12, none, .fld (.t 1) 0⟩,
 ⟨some 13, none, .loadN (.t 12) 64⟩,
 ⟨some 14, none, .mov (.k (.c (.int .i64 0)))⟩])
 (.block 0 (some [3, 13, 14]) (some [])
 (.loop c_impl_TreeOk_b0)))
 (.seq (.reg false [⟨some 2, none, .mov (.k (.c (.bool true)))⟩])
 (.ret (some [2])))))))⟩
theorem c_impl_TreeOk_ok : trF Try.prog ⟨[(0, [3, 13, 14], [])], [2], false⟩ Try.f93 = some c_impl_TreeOk := by kernel_rfl
end Go.Proofs.Ytkoloapgeilbdaa
