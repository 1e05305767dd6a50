/-
  The functions of the program that the laws here reach, in the small language; each is what the translation gives (checked by the kernel).
-/
import Derived.Test.YtonkgmajfcpeeaaD
import Derived.Test.YtonkgmajfcpeeaaProg
import Derived.KernelRfl
set_option linter.unusedVariables false
namespace Go.Proofs.Ytonkgmajfcpeeaa
def c_laws_FnExactChainOk : IFn := ⟨14, [.t 2],
  (.seq (.reg false [⟨some 1, none, .box (.t 0) 26⟩,
     ⟨some 2, none, .mov (.k (.c (.bool false)))⟩])
  (.seq (.reg false [⟨some 5, none, .loadN (.t 1) 65⟩,
     ⟨some 6, none, .call 16 [.t 5]⟩,
     ⟨some 7, none, .call 15 [.t 6]⟩,
     ⟨some 3, none, .mov (.t 7)⟩])
  (.seq (.reg false [⟨some 8, none, .loadN (.t 1) 65⟩,
     ⟨some 9, none, .call 16 [.t 8]⟩,
     ⟨some 10, none, .call 17 [.t 9]⟩,
     ⟨some 4, none, .mov (.t 10)⟩])
  (.seq (.seq (.reg false [⟨some 11, none, .mov (.t 4)⟩,
      ⟨some 12, none, .mov (.t 3)⟩,
      ⟨some 13, none, .binb true (.t 11) (.t 12)⟩])
   (.cond (.t 13) (.seq (.reg false [⟨some 2, none, .mov (.k (.c (.bool false)))⟩])
    (.ret (some [2]))) .skip))
  (.seq (.reg false [⟨some 2, none, .mov (.k (.c (.bool true)))⟩])
  (.ret (some [2])))))))⟩
theorem c_laws_FnExactChainOk_ok : trF Try.prog ⟨[], [2], false⟩ Try.f3 = some c_laws_FnExactChainOk := by kernel_rfl
def c_laws_FnExactTreeOk : IFn := ⟨14, [.t 2],
  (.seq (.reg false [⟨some 1, none, .box (.t 0) 38⟩,
     ⟨some 2, none, .mov (.k (.c (.bool false)))⟩])
  (.seq (.reg false [⟨some 5, none, .loadN (.t 1) 65⟩,
     ⟨some 6, none, .call 19 [.t 5]⟩,
     ⟨some 7, none, .call 18 [.t 6]⟩,
     ⟨some 3, none, .mov (.t 7)⟩])
  (.seq (.reg false [⟨some 8, none, .loadN (.t 1) 65⟩,
     ⟨some 9, none, .call 19 [.t 8]⟩,
     ⟨some 10, none, .call 20 [.t 9]⟩,
     ⟨some 4, none, .mov (.t 10)⟩])
  (.seq (.seq (.reg false [⟨some 11, none, .mov (.t 4)⟩,
      ⟨some 12, none, .mov (.t 3)⟩,
      ⟨some 13, none, .binb true (.t 11) (.t 12)⟩])
   (.cond (.t 13) (.seq (.reg false [⟨some 2, none, .mov (.k (.c (.bool false)))⟩])
    (.ret (some [2]))) .skip))
  (.seq (.reg false [⟨some 2, none, .mov (.k (.c (.bool true)))⟩])
  (.ret (some [2])))))))⟩
theorem c_laws_FnExactTreeOk_ok : trF Try.prog ⟨[], [2], false⟩ Try.f4 = some c_laws_FnExactTreeOk := by kernel_rfl
def c_laws_FnExactTreeBuild : IFn := ⟨38, [.t 2],
  (.seq (.reg false [⟨some 2, none, .mov (.k (.c (.bool false)))⟩])
  (.seq (.seq (.reg false [⟨some 8, none, .mov (.t 0)⟩,
      ⟨some 9, none, .len (.t 8)⟩,
      ⟨some 10, none, .bin .gtr (.t 9) (.k (.c (.int .i64 1048576)))⟩])
   (.cond (.t 10) (.seq (.reg false [⟨some 2, none, .mov (.k (.c (.bool true)))⟩])
    (.ret (some [2]))) .skip))
  (.seq (.reg false [⟨some 12, none, .mov (.t 0)⟩,
     ⟨some 13, none, .call 22 [.t 12]⟩,
     ⟨some 14, none, .call 21 [.t 13]⟩,
     ⟨some 11, none, .mov (.t 14)⟩,
     ⟨some 15, none, .ext (.t 11) 0⟩,
     ⟨some 16, none, .ext (.t 11) 1⟩,
     ⟨some 3, none, .alloc [.bool false, .int .i64 0, .int .i64 0, .int .i64 0, .bool false, .int .i64 0, .int .i64 0, .int .i64 0, .bool false, .int .i64 0, .int .i64 0, .int .i64 0, .bool false, .int .i64 0, .int .i64 0, .int .i64 0, .bool false, .int .i64 0, .int .i64 0, .int .i64 0, .bool false, .int .i64 0, .int .i64 0, .int .i64 0, .bool false, .int .i64 0, .int .i64 0, .int .i64 0, .bool false, .int .i64 0, .int .i64 0, .int .i64 0, .bool false, .int .i64 0, .int .i64 0, .int .i64 0, .bool false, .int .i64 0, .int .i64 0, .int .i64 0, .bool false, .int .i64 0, .int .i64 0, .int .i64 0, .bool false, .int .i64 0, .int .i64 0, .int .i64 0, .bool false, .int .i64 0, .int .i64 0, .int .i64 0, .bool false, .int .i64 0, .int .i64 0, .int .i64 0, .bool false, .int .i64 0, .int .i64 0, .int .i64 0, .bool false, .int .i64 0, .int .i64 0, .int .i64 0, .int .i64 0] 43⟩,
     ⟨none, none, .store (.t 3) (.t 15) 65⟩,
     ⟨some 4, none, .mov (.t 16)⟩])
  (.seq (.reg false [⟨some 17, none, .mov (.t 0)⟩,
     ⟨some 18, none, .call 22 [.t 17]⟩,
     ⟨some 5, none, .mov (.t 18)⟩])
  (.seq (.reg false [⟨some 20, none, .mov (.t 5)⟩,
     ⟨some 21, none, .call 23 [.t 20]⟩,
     ⟨some 19, none, .mov (.t 21)⟩,
     ⟨some 22, none, .ext (.t 19) 0⟩,
     ⟨some 23, none, .ext (.t 19) 1⟩,
     ⟨some 6, none, .alloc [.bool false, .int .i64 0, .int .i64 0, .int .i64 0, .bool false, .int .i64 0, .int .i64 0, .int .i64 0, .bool false, .int .i64 0, .int .i64 0, .int .i64 0, .bool false, .int .i64 0, .int .i64 0, .int .i64 0, .bool false, .int .i64 0, .int .i64 0, .int .i64 0, .bool false, .int .i64 0, .int .i64 0, .int .i64 0, .bool false, .int .i64 0, .int .i64 0, .int .i64 0, .bool false, .int .i64 0, .int .i64 0, .int .i64 0, .bool false, .int .i64 0, .int .i64 0, .int .i64 0, .bool false, .int .i64 0, .int .i64 0, .int .i64 0, .bool false, .int .i64 0, .int .i64 0, .int .i64 0, .bool false, .int .i64 0, .int .i64 0, .int .i64 0, .bool false, .int .i64 0, .int .i64 0, .int .i64 0, .bool false, .int .i64 0, .int .i64 0, .int .i64 0, .bool false, .int .i64 0, .int .i64 0, .int .i64 0, .bool false, .int .i64 0, .int .i64 0, .int .i64 0, .int .i64 0] 43⟩,
     ⟨none, none, .store (.t 6) (.t 22) 65⟩,
     ⟨some 7, none, .mov (.t 23)⟩])
  (.seq (.seq (.reg false [⟨some 24, none, .loadN (.t 6) 65⟩,
      ⟨some 25, none, .loadN (.t 3) 65⟩,
      ⟨some 26, none, .call 24 [.t 24, .t 25]⟩,
      ⟨some 27, none, .un .not (.t 26)⟩,
      ⟨some 28, none, .mov (.t 27)⟩,
      ⟨some 29, some (28, false), .mov (.t 7)⟩,
      ⟨some 30, some (28, false), .mov (.t 4)⟩,
      ⟨some 31, some (28, false), .binb true (.t 29) (.t 30)⟩,
      ⟨some 32, none, .pick (.t 28) (.k (.c (.bool true))) (.t 31)⟩])
   (.cond (.t 32) (.seq (.reg false [⟨some 2, none, .mov (.k (.c (.bool false)))⟩])
    (.ret (some [2]))) .skip))
  (.seq (.seq (.reg false [⟨some 33, none, .mov (.t 5)⟩,
      ⟨some 34, none, .mov (.t 0)⟩,
      ⟨some 35, none, .call 22 [.t 34]⟩,
      ⟨some 36, none, .call 25 [.t 33, .t 35]⟩,
      ⟨some 37, none, .un .not (.t 36)⟩])
   (.cond (.t 37) (.seq (.reg false [⟨some 2, none, .mov (.k (.c (.bool false)))⟩])
    (.ret (some [2]))) .skip))
  (.seq (.reg false [⟨some 2, none, .mov (.k (.c (.bool true)))⟩])
  (.ret (some [2]))))))))))⟩
theorem c_laws_FnExactTreeBuild_ok : trF Try.prog ⟨[], [2], false⟩ Try.f5 = some c_laws_FnExactTreeBuild := by kernel_rfl
def c_laws_FnExactTreeHigh : IFn := ⟨14, [.t 2],
  (.seq (.reg false [⟨some 1, none, .box (.t 0) 38⟩,
     ⟨some 2, none, .mov (.k (.c (.bool false)))⟩])
  (.seq (.reg false [⟨some 5, none, .loadN (.t 1) 65⟩,
     ⟨some 6, none, .call 19 [.t 5]⟩,
     ⟨some 7, none, .call 26 [.t 6]⟩,
     ⟨some 3, none, .mov (.t 7)⟩])
  (.seq (.reg false [⟨some 8, none, .loadN (.t 1) 65⟩,
     ⟨some 9, none, .call 19 [.t 8]⟩,
     ⟨some 10, none, .call 27 [.t 9]⟩,
     ⟨some 4, none, .mov (.t 10)⟩])
  (.seq (.seq (.reg false [⟨some 11, none, .mov (.t 4)⟩,
      ⟨some 12, none, .mov (.t 3)⟩,
      ⟨some 13, none, .bin .neq (.t 11) (.t 12)⟩])
   (.cond (.t 13) (.seq (.reg false [⟨some 2, none, .mov (.k (.c (.bool false)))⟩])
    (.ret (some [2]))) .skip))
  (.seq (.reg false [⟨some 2, none, .mov (.k (.c (.bool true)))⟩])
  (.ret (some [2])))))))⟩
theorem c_laws_FnExactTreeHigh_ok : trF Try.prog ⟨[], [2], false⟩ Try.f6 = some c_laws_FnExactTreeHigh := by kernel_rfl
def c_laws_FnExactMapPairs : IFn := ⟨81, [.t 2],
  (.seq (.reg false [⟨some 1, none, .box (.t 0) 26⟩,
     ⟨some 2, none, .mov (.k (.c (.bool false)))⟩])
  (.seq (.reg false [⟨some 12, none, .loadN (.t 1) 65⟩,
     ⟨some 13, none, .call 16 [.t 12]⟩,
     ⟨some 14, none, .call 28 [.t 13]⟩,
     ⟨some 11, none, .mov (.t 14)⟩,
     ⟨some 15, none, .ext (.t 11) 0⟩,
     ⟨some 16, none, .ext (.t 11) 1⟩,
     ⟨some 3, none, .mov (.t 15)⟩,
     ⟨some 4, none, .mov (.t 16)⟩])
  (.seq (.reg false [⟨some 18, none, .loadN (.t 1) 65⟩,
     ⟨some 19, none, .call 16 [.t 18]⟩,
     ⟨some 20, none, .call 29 [.t 19]⟩,
     ⟨some 17, none, .mov (.t 20)⟩,
     ⟨some 21, none, .ext (.t 17) 0⟩,
     ⟨some 22, none, .ext (.t 17) 1⟩,
     ⟨some 5, none, .mov (.t 21)⟩,
     ⟨some 6, none, .mov (.t 22)⟩])
  (.seq (.seq (.reg false [⟨some 23, none, .mov (.t 5)⟩,
      ⟨some 24, none, .mov (.t 3)⟩,
      ⟨some 25, none, .call 25 [.t 23, .t 24]⟩,
      ⟨some 26, none, .un .not (.t 25)⟩,
      ⟨some 27, none, .mov (.t 26)⟩,
      ⟨some 28, some (27, false), .mov (.t 6)⟩,
      ⟨some 29, some (27, false), .mov (.t 4)⟩,
      ⟨some 30, some (27, false), .call 25 [.t 28, .t 29]⟩,
      ⟨some 31, some (27, false), .un .not (.t 30)⟩,
      ⟨some 32, none, .pick (.t 27) (.k (.c (.bool true))) (.t 31)⟩])
   (.cond (.t 32) (.seq (.reg false [⟨some 2, none, .mov (.k (.c (.bool false)))⟩])
    (.ret (some [2]))) .skip))
  (.seq (.reg false [⟨some 7, none, .mov (.k (.c (.int .i64 1)))⟩])
  (.seq (.reg false [⟨some 33, none, .mov (.t 5)⟩,
     ⟨some 34, none, .mov (.t 7)⟩,
     ⟨some 35, none, .call 30 [.t 33, .t 34]⟩,
     ⟨some 7, none, .mov (.t 35)⟩])
  (.seq (.reg false [⟨some 36, none, .mov (.t 6)⟩,
     ⟨some 37, none, .mov (.t 7)⟩,
     ⟨some 38, none, .call 30 [.t 36, .t 37]⟩,
     ⟨some 7, none, .mov (.t 38)⟩])
  (.seq (.reg false [⟨some 8, none, .mov (.k (.c (.int .i64 1)))⟩])
  (.seq (.reg false [⟨some 39, none, .mov (.t 5)⟩,
     ⟨some 40, none, .mov (.t 8)⟩,
     ⟨some 41, none, .call 31 [.t 39, .t 40]⟩,
     ⟨some 8, none, .mov (.t 41)⟩])
  (.seq (.seq (.reg false [⟨some 42, none, .mov (.t 8)⟩,
      ⟨some 43, none, .bin .lss (.t 42) (.k (.c (.int .i64 0)))⟩])
   (.cond (.t 43) (.seq (.reg false [⟨some 2, none, .mov (.k (.c (.bool false)))⟩])
    (.ret (some [2]))) .skip))
  (.seq (.reg false [⟨some 44, none, .mov (.t 6)⟩,
     ⟨some 45, none, .mov (.t 8)⟩,
     ⟨some 46, none, .call 31 [.t 44, .t 45]⟩,
     ⟨some 8, none, .mov (.t 46)⟩])
  (.seq (.seq (.reg false [⟨some 47, none, .mov (.t 8)⟩,
      ⟨some 48, none, .bin .lss (.t 47) (.k (.c (.int .i64 0)))⟩])
   (.cond (.t 48) (.seq (.reg false [⟨some 2, none, .mov (.k (.c (.bool false)))⟩])
    (.ret (some [2]))) .skip))
  (.seq (.seq (.reg false [⟨some 49, none, .mov (.t 8)⟩,
      ⟨some 50, none, .mov (.t 7)⟩,
      ⟨some 51, none, .bin .neq (.t 49) (.t 50)⟩])
   (.cond (.t 51) (.seq (.reg false [⟨some 2, none, .mov (.k (.c (.bool false)))⟩])
    (.ret (some [2]))) .skip))
  (.seq (.reg false [⟨some 53, none, .loadN (.t 1) 65⟩,
     ⟨some 54, none, .call 16 [.t 53]⟩,
     ⟨some 55, none, .call 29 [.t 54]⟩,
     ⟨some 52, none, .mov (.t 55)⟩,
     ⟨some 56, none, .ext (.t 52) 0⟩,
     ⟨some 57, none, .ext (.t 52) 1⟩,
     ⟨some 9, none, .mov (.t 56)⟩,
     ⟨some 10, none, .mov (.t 57)⟩])
  (.seq (.seq (.reg false [⟨some 58, none, .mov (.t 9)⟩,
      ⟨some 59, none, .mov (.t 3)⟩,
      ⟨some 60, none, .call 25 [.t 58, .t 59]⟩,
      ⟨some 61, none, .un .not (.t 60)⟩,
      ⟨some 62, none, .mov (.t 61)⟩,
      ⟨some 63, some (62, false), .mov (.t 10)⟩,
      ⟨some 64, some (62, false), .mov (.t 4)⟩,
      ⟨some 65, some (62, false), .call 25 [.t 63, .t 64]⟩,
      ⟨some 66, some (62, false), .un .not (.t 65)⟩,
      ⟨some 67, none, .pick (.t 62) (.k (.c (.bool true))) (.t 66)⟩])
   (.cond (.t 67) (.seq (.reg false [⟨some 2, none, .mov (.k (.c (.bool false)))⟩])
    (.ret (some [2]))) .skip))
  (.seq (.reg false [⟨some 8, none, .mov (.k (.c (.int .i64 1)))⟩])
  (.seq (.reg false [⟨some 68, none, .mov (.t 5)⟩,
     ⟨some 69, none, .mov (.t 8)⟩,
     ⟨some 70, none, .call 31 [.t 68, .t 69]⟩,
     ⟨some 8, none, .mov (.t 70)⟩])
  (.seq (.seq (.reg false [⟨some 71, none, .mov (.t 8)⟩,
      ⟨some 72, none, .bin .lss (.t 71) (.k (.c (.int .i64 0)))⟩])
   (.cond (.t 72) (.seq (.reg false [⟨some 2, none, .mov (.k (.c (.bool false)))⟩])
    (.ret (some [2]))) .skip))
  (.seq (.reg false [⟨some 73, none, .mov (.t 6)⟩,
     ⟨some 74, none, .mov (.t 8)⟩,
     ⟨some 75, none, .call 31 [.t 73, .t 74]⟩,
     ⟨some 8, none, .mov (.t 75)⟩])
  (.seq (.seq (.reg false [⟨some 76, none, .mov (.t 8)⟩,
      ⟨some 77, none, .bin .lss (.t 76) (.k (.c (.int .i64 0)))⟩])
   (.cond (.t 77) (.seq (.reg false [⟨some 2, none, .mov (.k (.c (.bool false)))⟩])
    (.ret (some [2]))) .skip))
  (.seq (.seq (.reg false [⟨some 78, none, .mov (.t 8)⟩,
      ⟨some 79, none, .mov (.t 7)⟩,
      ⟨some 80, none, .bin .neq (.t 78) (.t 79)⟩])
   (.cond (.t 80) (.seq (.reg false [⟨some 2, none, .mov (.k (.c (.bool false)))⟩])
    (.ret (some [2]))) .skip))
  (.seq (.reg false [⟨some 2, none, .mov (.k (.c (.bool true)))⟩])
  (.ret (some [2]))))))))))))))))))))))))⟩
theorem c_laws_FnExactMapPairs_ok : trF Try.prog ⟨[], [2], false⟩ Try.f7 = some c_laws_FnExactMapPairs := by kernel_rfl
def c_laws_FnExactMapGet : IFn := ⟨40, [.t 4],
  (.seq (.reg false [⟨some 2, none, .box (.t 0) 26⟩,
     ⟨some 4, none, .mov (.k (.c (.bool false)))⟩])
  (.seq (.reg false [⟨some 12, none, .loadN (.t 2) 65⟩,
     ⟨some 13, none, .call 16 [.t 12]⟩,
     ⟨some 14, none, .mov (.t 1)⟩,
     ⟨some 15, none, .call 32 [.t 13, .t 14]⟩,
     ⟨some 11, none, .mov (.t 15)⟩,
     ⟨some 16, none, .ext (.t 11) 0⟩,
     ⟨some 17, none, .ext (.t 11) 1⟩,
     ⟨some 18, none, .ext (.t 11) 2⟩,
     ⟨some 5, none, .mov (.t 16)⟩,
     ⟨some 6, none, .mov (.t 17)⟩,
     ⟨some 7, none, .mov (.t 18)⟩])
  (.seq (.reg false [⟨some 20, none, .loadN (.t 2) 65⟩,
     ⟨some 21, none, .call 16 [.t 20]⟩,
     ⟨some 22, none, .mov (.t 1)⟩,
     ⟨some 23, none, .call 33 [.t 21, .t 22]⟩,
     ⟨some 19, none, .mov (.t 23)⟩,
     ⟨some 24, none, .ext (.t 19) 0⟩,
     ⟨some 25, none, .ext (.t 19) 1⟩,
     ⟨some 26, none, .ext (.t 19) 2⟩,
     ⟨some 8, none, .mov (.t 24)⟩,
     ⟨some 9, none, .mov (.t 25)⟩,
     ⟨some 10, none, .mov (.t 26)⟩])
  (.seq (.seq (.reg false [⟨some 27, none, .mov (.t 8)⟩,
      ⟨some 28, none, .mov (.t 5)⟩,
      ⟨some 29, none, .bin .neq (.t 27) (.t 28)⟩,
      ⟨some 30, none, .mov (.t 29)⟩,
      ⟨some 31, some (30, false), .mov (.t 9)⟩,
      ⟨some 32, some (30, false), .mov (.t 6)⟩,
      ⟨some 33, some (30, false), .bin .neq (.t 31) (.t 32)⟩,
      ⟨some 34, none, .pick (.t 30) (.k (.c (.bool true))) (.t 33)⟩,
      ⟨some 35, none, .mov (.t 34)⟩,
      ⟨some 36, some (35, false), .mov (.t 10)⟩,
      ⟨some 37, some (35, false), .mov (.t 7)⟩,
      ⟨some 38, some (35, false), .bin .neq (.t 36) (.t 37)⟩,
      ⟨some 39, none, .pick (.t 35) (.k (.c (.bool true))) (.t 38)⟩])
   (.cond (.t 39) (.seq (.reg false [⟨some 4, none, .mov (.k (.c (.bool false)))⟩])
    (.ret (some [4]))) .skip))
  (.seq (.reg false [⟨some 4, none, .mov (.k (.c (.bool true)))⟩])
  (.ret (some [4])))))))⟩
theorem c_laws_FnExactMapGet_ok : trF Try.prog ⟨[], [4], false⟩ Try.f8 = some c_laws_FnExactMapGet := by kernel_rfl
def c_laws_FnExactTreeKeys : IFn := ⟨44, [.t 2],
  (.seq (.reg false [⟨some 1, none, .box (.t 0) 38⟩,
     ⟨some 2, none, .mov (.k (.c (.bool false)))⟩])
  (.seq (.reg false [⟨some 8, none, .loadN (.t 1) 65⟩,
     ⟨some 9, none, .call 19 [.t 8]⟩,
     ⟨some 10, none, .call 34 [.t 9]⟩,
     ⟨some 3, none, .mov (.t 10)⟩])
  (.seq (.reg false [⟨some 11, none, .loadN (.t 1) 65⟩,
     ⟨some 12, none, .call 19 [.t 11]⟩,
     ⟨some 13, none, .call 35 [.t 12]⟩,
     ⟨some 4, none, .mov (.t 13)⟩])
  (.seq (.seq (.reg false [⟨some 14, none, .mov (.t 4)⟩,
      ⟨some 15, none, .mov (.t 3)⟩,
      ⟨some 16, none, .call 25 [.t 14, .t 15]⟩,
      ⟨some 17, none, .un .not (.t 16)⟩])
   (.cond (.t 17) (.seq (.reg false [⟨some 2, none, .mov (.k (.c (.bool false)))⟩])
    (.ret (some [2]))) .skip))
  (.seq (.reg false [⟨some 5, none, .mov (.k (.c (.int .i64 1)))⟩])
  (.seq (.reg false [⟨some 18, none, .mov (.t 4)⟩,
     ⟨some 19, none, .mov (.t 5)⟩,
     ⟨some 20, none, .call 30 [.t 18, .t 19]⟩,
     ⟨some 5, none, .mov (.t 20)⟩])
  (.seq (.reg false [⟨some 6, none, .mov (.k (.c (.int .i64 1)))⟩])
  (.seq (.reg false [⟨some 21, none, .mov (.t 4)⟩,
     ⟨some 22, none, .mov (.t 6)⟩,
     ⟨some 23, none, .call 31 [.t 21, .t 22]⟩,
     ⟨some 6, none, .mov (.t 23)⟩])
  (.seq (.seq (.reg false [⟨some 24, none, .mov (.t 6)⟩,
      ⟨some 25, none, .bin .lss (.t 24) (.k (.c (.int .i64 0)))⟩])
   (.cond (.t 25) (.seq (.reg false [⟨some 2, none, .mov (.k (.c (.bool false)))⟩])
    (.ret (some [2]))) .skip))
  (.seq (.seq (.reg false [⟨some 26, none, .mov (.t 6)⟩,
      ⟨some 27, none, .mov (.t 5)⟩,
      ⟨some 28, none, .bin .neq (.t 26) (.t 27)⟩])
   (.cond (.t 28) (.seq (.reg false [⟨some 2, none, .mov (.k (.c (.bool false)))⟩])
    (.ret (some [2]))) .skip))
  (.seq (.reg false [⟨some 29, none, .loadN (.t 1) 65⟩,
     ⟨some 30, none, .call 19 [.t 29]⟩,
     ⟨some 31, none, .call 35 [.t 30]⟩,
     ⟨some 7, none, .mov (.t 31)⟩])
  (.seq (.seq (.reg false [⟨some 32, none, .mov (.t 7)⟩,
      ⟨some 33, none, .mov (.t 3)⟩,
      ⟨some 34, none, .call 25 [.t 32, .t 33]⟩,
      ⟨some 35, none, .un .not (.t 34)⟩])
   (.cond (.t 35) (.seq (.reg false [⟨some 2, none, .mov (.k (.c (.bool false)))⟩])
    (.ret (some [2]))) .skip))
  (.seq (.reg false [⟨some 6, none, .mov (.k (.c (.int .i64 1)))⟩])
  (.seq (.reg false [⟨some 36, none, .mov (.t 4)⟩,
     ⟨some 37, none, .mov (.t 6)⟩,
     ⟨some 38, none, .call 31 [.t 36, .t 37]⟩,
     ⟨some 6, none, .mov (.t 38)⟩])
  (.seq (.seq (.reg false [⟨some 39, none, .mov (.t 6)⟩,
      ⟨some 40, none, .bin .lss (.t 39) (.k (.c (.int .i64 0)))⟩])
   (.cond (.t 40) (.seq (.reg false [⟨some 2, none, .mov (.k (.c (.bool false)))⟩])
    (.ret (some [2]))) .skip))
  (.seq (.seq (.reg false [⟨some 41, none, .mov (.t 6)⟩,
      ⟨some 42, none, .mov (.t 5)⟩,
      ⟨some 43, none, .bin .neq (.t 41) (.t 42)⟩])
   (.cond (.t 43) (.seq (.reg false [⟨some 2, none, .mov (.k (.c (.bool false)))⟩])
    (.ret (some [2]))) .skip))
  (.seq (.reg false [⟨some 2, none, .mov (.k (.c (.bool true)))⟩])
  (.ret (some [2])))))))))))))))))))⟩
theorem c_laws_FnExactTreeKeys_ok : trF Try.prog ⟨[], [2], false⟩ Try.f9 = some c_laws_FnExactTreeKeys := by kernel_rfl
def c_laws_FnExactMapRange : IFn := ⟨76, [.t 6],
  (.seq (.reg false [⟨some 3, none, .box (.t 0) 26⟩,
     ⟨some 6, none, .mov (.k (.c (.bool false)))⟩])
  (.seq (.reg false [⟨some 16, none, .loadN (.t 3) 65⟩,
     ⟨some 17, none, .call 16 [.t 16]⟩,
     ⟨some 18, none, .mov (.t 1)⟩,
     ⟨some 19, none, .mov (.t 2)⟩,
     ⟨some 20, none, .call 36 [.t 17, .t 18, .t 19]⟩,
     ⟨some 15, none, .mov (.t 20)⟩,
     ⟨some 21, none, .ext (.t 15) 0⟩,
     ⟨some 22, none, .ext (.t 15) 1⟩,
     ⟨some 7, none, .mov (.t 21)⟩,
     ⟨some 8, none, .mov (.t 22)⟩])
  (.seq (.reg false [⟨some 24, none, .loadN (.t 3) 65⟩,
     ⟨some 25, none, .call 16 [.t 24]⟩,
     ⟨some 26, none, .mov (.t 1)⟩,
     ⟨some 27, none, .mov (.t 2)⟩,
     ⟨some 28, none, .call 37 [.t 25, .t 26, .t 27]⟩,
     ⟨some 23, none, .mov (.t 28)⟩,
     ⟨some 29, none, .ext (.t 23) 0⟩,
     ⟨some 30, none, .ext (.t 23) 1⟩,
     ⟨some 9, none, .mov (.t 29)⟩,
     ⟨some 10, none, .mov (.t 30)⟩])
  (.seq (.seq (.reg false [⟨some 31, none, .mov (.t 9)⟩,
      ⟨some 32, none, .mov (.t 7)⟩,
      ⟨some 33, none, .call 25 [.t 31, .t 32]⟩,
      ⟨some 34, none, .un .not (.t 33)⟩,
      ⟨some 35, none, .mov (.t 34)⟩,
      ⟨some 36, some (35, false), .mov (.t 10)⟩,
      ⟨some 37, some (35, false), .mov (.t 8)⟩,
      ⟨some 38, some (35, false), .bin .neq (.t 36) (.t 37)⟩,
      ⟨some 39, none, .pick (.t 35) (.k (.c (.bool true))) (.t 38)⟩])
   (.cond (.t 39) (.seq (.reg false [⟨some 6, none, .mov (.k (.c (.bool false)))⟩])
    (.ret (some [6]))) .skip))
  (.seq (.reg false [⟨some 11, none, .mov (.k (.c (.int .i64 1)))⟩])
  (.seq (.reg false [⟨some 40, none, .mov (.t 9)⟩,
     ⟨some 41, none, .mov (.t 11)⟩,
     ⟨some 42, none, .call 30 [.t 40, .t 41]⟩,
     ⟨some 11, none, .mov (.t 42)⟩])
  (.seq (.reg false [⟨some 12, none, .mov (.k (.c (.int .i64 1)))⟩])
  (.seq (.reg false [⟨some 43, none, .mov (.t 9)⟩,
     ⟨some 44, none, .mov (.t 12)⟩,
     ⟨some 45, none, .call 31 [.t 43, .t 44]⟩,
     ⟨some 12, none, .mov (.t 45)⟩])
  (.seq (.seq (.reg false [⟨some 46, none, .mov (.t 12)⟩,
      ⟨some 47, none, .bin .lss (.t 46) (.k (.c (.int .i64 0)))⟩])
   (.cond (.t 47) (.seq (.reg false [⟨some 6, none, .mov (.k (.c (.bool false)))⟩])
    (.ret (some [6]))) .skip))
  (.seq (.seq (.reg false [⟨some 48, none, .mov (.t 12)⟩,
      ⟨some 49, none, .mov (.t 11)⟩,
      ⟨some 50, none, .bin .neq (.t 48) (.t 49)⟩])
   (.cond (.t 50) (.seq (.reg false [⟨some 6, none, .mov (.k (.c (.bool false)))⟩])
    (.ret (some [6]))) .skip))
  (.seq (.reg false [⟨some 52, none, .loadN (.t 3) 65⟩,
     ⟨some 53, none, .call 16 [.t 52]⟩,
     ⟨some 54, none, .mov (.t 1)⟩,
     ⟨some 55, none, .mov (.t 2)⟩,
     ⟨some 56, none, .call 37 [.t 53, .t 54, .t 55]⟩,
     ⟨some 51, none, .mov (.t 56)⟩,
     ⟨some 57, none, .ext (.t 51) 0⟩,
     ⟨some 58, none, .ext (.t 51) 1⟩,
     ⟨some 13, none, .mov (.t 57)⟩,
     ⟨some 14, none, .mov (.t 58)⟩])
  (.seq (.seq (.reg false [⟨some 59, none, .mov (.t 13)⟩,
      ⟨some 60, none, .mov (.t 7)⟩,
      ⟨some 61, none, .call 25 [.t 59, .t 60]⟩,
      ⟨some 62, none, .un .not (.t 61)⟩,
      ⟨some 63, none, .mov (.t 62)⟩,
      ⟨some 64, some (63, false), .mov (.t 14)⟩,
      ⟨some 65, some (63, false), .mov (.t 8)⟩,
      ⟨some 66, some (63, false), .bin .neq (.t 64) (.t 65)⟩,
      ⟨some 67, none, .pick (.t 63) (.k (.c (.bool true))) (.t 66)⟩])
   (.cond (.t 67) (.seq (.reg false [⟨some 6, none, .mov (.k (.c (.bool false)))⟩])
    (.ret (some [6]))) .skip))
  (.seq (.reg false [⟨some 12, none, .mov (.k (.c (.int .i64 1)))⟩])
  (.seq (.reg false [⟨some 68, none, .mov (.t 9)⟩,
     ⟨some 69, none, .mov (.t 12)⟩,
     ⟨some 70, none, .call 31 [.t 68, .t 69]⟩,
     ⟨some 12, none, .mov (.t 70)⟩])
  (.seq (.seq (.reg false [⟨some 71, none, .mov (.t 12)⟩,
      ⟨some 72, none, .bin .lss (.t 71) (.k (.c (.int .i64 0)))⟩])
   (.cond (.t 72) (.seq (.reg false [⟨some 6, none, .mov (.k (.c (.bool false)))⟩])
    (.ret (some [6]))) .skip))
  (.seq (.seq (.reg false [⟨some 73, none, .mov (.t 12)⟩,
      ⟨some 74, none, .mov (.t 11)⟩,
      ⟨some 75, none, .bin .neq (.t 73) (.t 74)⟩])
   (.cond (.t 75) (.seq (.reg false [⟨some 6, none, .mov (.k (.c (.bool false)))⟩])
    (.ret (some [6]))) .skip))
  (.seq (.reg false [⟨some 6, none, .mov (.k (.c (.bool true)))⟩])
  (.ret (some [6])))))))))))))))))))⟩
theorem c_laws_FnExactMapRange_ok : trF Try.prog ⟨[], [6], false⟩ Try.f10 = some c_laws_FnExactMapRange := by kernel_rfl
def c_laws_FnExactTreeFind : IFn := ⟨31, [.t 4],
  (.seq (.reg false [⟨some 2, none, .box (.t 0) 38⟩,
     ⟨some 4, none, .mov (.k (.c (.bool false)))⟩])
  (.seq (.reg false [⟨some 10, none, .loadN (.t 2) 65⟩,
     ⟨some 11, none, .call 19 [.t 10]⟩,
     ⟨some 12, none, .mov (.t 1)⟩,
     ⟨some 13, none, .call 38 [.t 11, .t 12]⟩,
     ⟨some 9, none, .mov (.t 13)⟩,
     ⟨some 14, none, .ext (.t 9) 0⟩,
     ⟨some 15, none, .ext (.t 9) 1⟩,
     ⟨some 5, none, .mov (.t 14)⟩,
     ⟨some 6, none, .mov (.t 15)⟩])
  (.seq (.reg false [⟨some 17, none, .loadN (.t 2) 65⟩,
     ⟨some 18, none, .call 19 [.t 17]⟩,
     ⟨some 19, none, .mov (.t 1)⟩,
     ⟨some 20, none, .call 39 [.t 18, .t 19]⟩,
     ⟨some 16, none, .mov (.t 20)⟩,
     ⟨some 21, none, .ext (.t 16) 0⟩,
     ⟨some 22, none, .ext (.t 16) 1⟩,
     ⟨some 7, none, .mov (.t 21)⟩,
     ⟨some 8, none, .mov (.t 22)⟩])
  (.seq (.seq (.reg false [⟨some 23, none, .mov (.t 7)⟩,
      ⟨some 24, none, .mov (.t 5)⟩,
      ⟨some 25, none, .bin .neq (.t 23) (.t 24)⟩,
      ⟨some 26, none, .mov (.t 25)⟩,
      ⟨some 27, some (26, false), .mov (.t 8)⟩,
      ⟨some 28, some (26, false), .mov (.t 6)⟩,
      ⟨some 29, some (26, false), .bin .neq (.t 27) (.t 28)⟩,
      ⟨some 30, none, .pick (.t 26) (.k (.c (.bool true))) (.t 29)⟩])
   (.cond (.t 30) (.seq (.reg false [⟨some 4, none, .mov (.k (.c (.bool false)))⟩])
    (.ret (some [4]))) .skip))
  (.seq (.reg false [⟨some 4, none, .mov (.k (.c (.bool true)))⟩])
  (.ret (some [4])))))))⟩
theorem c_laws_FnExactTreeFind_ok : trF Try.prog ⟨[], [4], false⟩ Try.f11 = some c_laws_FnExactTreeFind := by kernel_rfl
def c_laws_FnExactMapDrop : IFn := ⟨41, [.t 4],
  (.seq (.reg false [⟨some 2, none, .box (.t 0) 26⟩,
     ⟨some 4, none, .mov (.k (.c (.bool false)))⟩])
  (.seq (.reg false [⟨some 12, none, .loadN (.t 2) 65⟩,
     ⟨some 13, none, .call 16 [.t 12]⟩,
     ⟨some 14, none, .mov (.t 1)⟩,
     ⟨some 15, none, .call 40 [.t 13, .t 14]⟩,
     ⟨some 11, none, .mov (.t 15)⟩,
     ⟨some 16, none, .ext (.t 11) 0⟩,
     ⟨some 17, none, .ext (.t 11) 1⟩,
     ⟨some 18, none, .ext (.t 11) 2⟩,
     ⟨some 5, none, .alloc [.bool false, .int .i64 0, .int .i64 0, .int .i64 0, .bool false, .int .i64 0, .int .i64 0, .int .i64 0, .bool false, .int .i64 0, .int .i64 0, .int .i64 0, .bool false, .int .i64 0, .int .i64 0, .int .i64 0, .bool false, .int .i64 0, .int .i64 0, .int .i64 0, .bool false, .int .i64 0, .int .i64 0, .int .i64 0, .bool false, .int .i64 0, .int .i64 0, .int .i64 0, .bool false, .int .i64 0, .int .i64 0, .int .i64 0, .bool false, .int .i64 0, .int .i64 0, .int .i64 0, .bool false, .int .i64 0, .int .i64 0, .int .i64 0, .bool false, .int .i64 0, .int .i64 0, .int .i64 0, .bool false, .int .i64 0, .int .i64 0, .int .i64 0, .bool false, .int .i64 0, .int .i64 0, .int .i64 0, .bool false, .int .i64 0, .int .i64 0, .int .i64 0, .bool false, .int .i64 0, .int .i64 0, .int .i64 0, .bool false, .int .i64 0, .int .i64 0, .int .i64 0, .int .i64 0] 31⟩,
     ⟨none, none, .store (.t 5) (.t 16) 65⟩,
     ⟨some 6, none, .mov (.t 17)⟩,
     ⟨some 7, none, .mov (.t 18)⟩])
  (.seq (.reg false [⟨some 20, none, .loadN (.t 2) 65⟩,
     ⟨some 21, none, .call 16 [.t 20]⟩,
     ⟨some 22, none, .mov (.t 1)⟩,
     ⟨some 23, none, .call 41 [.t 21, .t 22]⟩,
     ⟨some 19, none, .mov (.t 23)⟩,
     ⟨some 24, none, .ext (.t 19) 0⟩,
     ⟨some 25, none, .ext (.t 19) 1⟩,
     ⟨some 26, none, .ext (.t 19) 2⟩,
     ⟨some 8, none, .alloc [.bool false, .int .i64 0, .int .i64 0, .int .i64 0, .bool false, .int .i64 0, .int .i64 0, .int .i64 0, .bool false, .int .i64 0, .int .i64 0, .int .i64 0, .bool false, .int .i64 0, .int .i64 0, .int .i64 0, .bool false, .int .i64 0, .int .i64 0, .int .i64 0, .bool false, .int .i64 0, .int .i64 0, .int .i64 0, .bool false, .int .i64 0, .int .i64 0, .int .i64 0, .bool false, .int .i64 0, .int .i64 0, .int .i64 0, .bool false, .int .i64 0, .int .i64 0, .int .i64 0, .bool false, .int .i64 0, .int .i64 0, .int .i64 0, .bool false, .int .i64 0, .int .i64 0, .int .i64 0, .bool false, .int .i64 0, .int .i64 0, .int .i64 0, .bool false, .int .i64 0, .int .i64 0, .int .i64 0, .bool false, .int .i64 0, .int .i64 0, .int .i64 0, .bool false, .int .i64 0, .int .i64 0, .int .i64 0, .bool false, .int .i64 0, .int .i64 0, .int .i64 0, .int .i64 0] 31⟩,
     ⟨none, none, .store (.t 8) (.t 24) 65⟩,
     ⟨some 9, none, .mov (.t 25)⟩,
     ⟨some 10, none, .mov (.t 26)⟩])
  (.seq (.seq (.reg false [⟨some 27, none, .loadN (.t 8) 65⟩,
      ⟨some 28, none, .loadN (.t 5) 65⟩,
      ⟨some 29, none, .call 42 [.t 27, .t 28]⟩,
      ⟨some 30, none, .un .not (.t 29)⟩,
      ⟨some 31, none, .mov (.t 30)⟩,
      ⟨some 32, some (31, false), .mov (.t 9)⟩,
      ⟨some 33, some (31, false), .mov (.t 6)⟩,
      ⟨some 34, some (31, false), .bin .neq (.t 32) (.t 33)⟩,
      ⟨some 35, none, .pick (.t 31) (.k (.c (.bool true))) (.t 34)⟩,
      ⟨some 36, none, .mov (.t 35)⟩,
      ⟨some 37, some (36, false), .mov (.t 10)⟩,
      ⟨some 38, some (36, false), .mov (.t 7)⟩,
      ⟨some 39, some (36, false), .bin .neq (.t 37) (.t 38)⟩,
      ⟨some 40, none, .pick (.t 36) (.k (.c (.bool true))) (.t 39)⟩])
   (.cond (.t 40) (.seq (.reg false [⟨some 4, none, .mov (.k (.c (.bool false)))⟩])
    (.ret (some [4]))) .skip))
  (.seq (.reg false [⟨some 4, none, .mov (.k (.c (.bool true)))⟩])
  (.ret (some [4])))))))⟩
theorem c_laws_FnExactMapDrop_ok : trF Try.prog ⟨[], [4], false⟩ Try.f12 = some c_laws_FnExactMapDrop := by kernel_rfl
def c_laws_FnExactMapPut : IFn := ⟨45, [.t 6],
  (.seq (.reg false [⟨some 3, none, .box (.t 0) 26⟩,
     ⟨some 6, none, .mov (.k (.c (.bool false)))⟩])
  (.seq (.reg false [⟨some 14, none, .loadN (.t 3) 65⟩,
     ⟨some 15, none, .call 16 [.t 14]⟩,
     ⟨some 16, none, .mov (.t 1)⟩,
     ⟨some 17, none, .mov (.t 2)⟩,
     ⟨some 18, none, .call 43 [.t 15, .t 16, .t 17]⟩,
     ⟨some 13, none, .mov (.t 18)⟩,
     ⟨some 19, none, .ext (.t 13) 0⟩,
     ⟨some 20, none, .ext (.t 13) 1⟩,
     ⟨some 21, none, .ext (.t 13) 2⟩,
     ⟨some 7, none, .alloc [.bool false, .int .i64 0, .int .i64 0, .int .i64 0, .bool false, .int .i64 0, .int .i64 0, .int .i64 0, .bool false, .int .i64 0, .int .i64 0, .int .i64 0, .bool false, .int .i64 0, .int .i64 0, .int .i64 0, .bool false, .int .i64 0, .int .i64 0, .int .i64 0, .bool false, .int .i64 0, .int .i64 0, .int .i64 0, .bool false, .int .i64 0, .int .i64 0, .int .i64 0, .bool false, .int .i64 0, .int .i64 0, .int .i64 0, .bool false, .int .i64 0, .int .i64 0, .int .i64 0, .bool false, .int .i64 0, .int .i64 0, .int .i64 0, .bool false, .int .i64 0, .int .i64 0, .int .i64 0, .bool false, .int .i64 0, .int .i64 0, .int .i64 0, .bool false, .int .i64 0, .int .i64 0, .int .i64 0, .bool false, .int .i64 0, .int .i64 0, .int .i64 0, .bool false, .int .i64 0, .int .i64 0, .int .i64 0, .bool false, .int .i64 0, .int .i64 0, .int .i64 0, .int .i64 0] 31⟩,
     ⟨none, none, .store (.t 7) (.t 19) 65⟩,
     ⟨some 8, none, .mov (.t 20)⟩,
     ⟨some 9, none, .mov (.t 21)⟩])
  (.seq (.reg false [⟨some 23, none, .loadN (.t 3) 65⟩,
     ⟨some 24, none, .call 16 [.t 23]⟩,
     ⟨some 25, none, .mov (.t 1)⟩,
     ⟨some 26, none, .mov (.t 2)⟩,
     ⟨some 27, none, .call 44 [.t 24, .t 25, .t 26]⟩,
     ⟨some 22, none, .mov (.t 27)⟩,
     ⟨some 28, none, .ext (.t 22) 0⟩,
     ⟨some 29, none, .ext (.t 22) 1⟩,
     ⟨some 30, none, .ext (.t 22) 2⟩,
     ⟨some 10, none, .alloc [.bool false, .int .i64 0, .int .i64 0, .int .i64 0, .bool false, .int .i64 0, .int .i64 0, .int .i64 0, .bool false, .int .i64 0, .int .i64 0, .int .i64 0, .bool false, .int .i64 0, .int .i64 0, .int .i64 0, .bool false, .int .i64 0, .int .i64 0, .int .i64 0, .bool false, .int .i64 0, .int .i64 0, .int .i64 0, .bool false, .int .i64 0, .int .i64 0, .int .i64 0, .bool false, .int .i64 0, .int .i64 0, .int .i64 0, .bool false, .int .i64 0, .int .i64 0, .int .i64 0, .bool false, .int .i64 0, .int .i64 0, .int .i64 0, .bool false, .int .i64 0, .int .i64 0, .int .i64 0, .bool false, .int .i64 0, .int .i64 0, .int .i64 0, .bool false, .int .i64 0, .int .i64 0, .int .i64 0, .bool false, .int .i64 0, .int .i64 0, .int .i64 0, .bool false, .int .i64 0, .int .i64 0, .int .i64 0, .bool false, .int .i64 0, .int .i64 0, .int .i64 0, .int .i64 0] 31⟩,
     ⟨none, none, .store (.t 10) (.t 28) 65⟩,
     ⟨some 11, none, .mov (.t 29)⟩,
     ⟨some 12, none, .mov (.t 30)⟩])
  (.seq (.seq (.reg false [⟨some 31, none, .loadN (.t 10) 65⟩,
      ⟨some 32, none, .loadN (.t 7) 65⟩,
      ⟨some 33, none, .call 42 [.t 31, .t 32]⟩,
      ⟨some 34, none, .un .not (.t 33)⟩,
      ⟨some 35, none, .mov (.t 34)⟩,
      ⟨some 36, some (35, false), .mov (.t 11)⟩,
      ⟨some 37, some (35, false), .mov (.t 8)⟩,
      ⟨some 38, some (35, false), .bin .neq (.t 36) (.t 37)⟩,
      ⟨some 39, none, .pick (.t 35) (.k (.c (.bool true))) (.t 38)⟩,
      ⟨some 40, none, .mov (.t 39)⟩,
      ⟨some 41, some (40, false), .mov (.t 12)⟩,
      ⟨some 42, some (40, false), .mov (.t 9)⟩,
      ⟨some 43, some (40, false), .bin .neq (.t 41) (.t 42)⟩,
      ⟨some 44, none, .pick (.t 40) (.k (.c (.bool true))) (.t 43)⟩])
   (.cond (.t 44) (.seq (.reg false [⟨some 6, none, .mov (.k (.c (.bool false)))⟩])
    (.ret (some [6]))) .skip))
  (.seq (.reg false [⟨some 6, none, .mov (.k (.c (.bool true)))⟩])
  (.ret (some [6])))))))⟩
theorem c_laws_FnExactMapPut_ok : trF Try.prog ⟨[], [6], false⟩ Try.f13 = some c_laws_FnExactMapPut := by kernel_rfl
def c_laws_FnExactTreeAdd : IFn := ⟨32, [.t 4],
  (.seq (.reg false [⟨some 2, none, .box (.t 0) 38⟩,
     ⟨some 4, none, .mov (.k (.c (.bool false)))⟩])
  (.seq (.reg false [⟨some 10, none, .loadN (.t 2) 65⟩,
     ⟨some 11, none, .call 19 [.t 10]⟩,
     ⟨some 12, none, .mov (.t 1)⟩,
     ⟨some 13, none, .call 45 [.t 11, .t 12]⟩,
     ⟨some 9, none, .mov (.t 13)⟩,
     ⟨some 14, none, .ext (.t 9) 0⟩,
     ⟨some 15, none, .ext (.t 9) 1⟩,
     ⟨some 5, none, .alloc [.bool false, .int .i64 0, .int .i64 0, .int .i64 0, .bool false, .int .i64 0, .int .i64 0, .int .i64 0, .bool false, .int .i64 0, .int .i64 0, .int .i64 0, .bool false, .int .i64 0, .int .i64 0, .int .i64 0, .bool false, .int .i64 0, .int .i64 0, .int .i64 0, .bool false, .int .i64 0, .int .i64 0, .int .i64 0, .bool false, .int .i64 0, .int .i64 0, .int .i64 0, .bool false, .int .i64 0, .int .i64 0, .int .i64 0, .bool false, .int .i64 0, .int .i64 0, .int .i64 0, .bool false, .int .i64 0, .int .i64 0, .int .i64 0, .bool false, .int .i64 0, .int .i64 0, .int .i64 0, .bool false, .int .i64 0, .int .i64 0, .int .i64 0, .bool false, .int .i64 0, .int .i64 0, .int .i64 0, .bool false, .int .i64 0, .int .i64 0, .int .i64 0, .bool false, .int .i64 0, .int .i64 0, .int .i64 0, .bool false, .int .i64 0, .int .i64 0, .int .i64 0, .int .i64 0] 43⟩,
     ⟨none, none, .store (.t 5) (.t 14) 65⟩,
     ⟨some 6, none, .mov (.t 15)⟩])
  (.seq (.reg false [⟨some 17, none, .loadN (.t 2) 65⟩,
     ⟨some 18, none, .call 19 [.t 17]⟩,
     ⟨some 19, none, .mov (.t 1)⟩,
     ⟨some 20, none, .call 46 [.t 18, .t 19]⟩,
     ⟨some 16, none, .mov (.t 20)⟩,
     ⟨some 21, none, .ext (.t 16) 0⟩,
     ⟨some 22, none, .ext (.t 16) 1⟩,
     ⟨some 7, none, .alloc [.bool false, .int .i64 0, .int .i64 0, .int .i64 0, .bool false, .int .i64 0, .int .i64 0, .int .i64 0, .bool false, .int .i64 0, .int .i64 0, .int .i64 0, .bool false, .int .i64 0, .int .i64 0, .int .i64 0, .bool false, .int .i64 0, .int .i64 0, .int .i64 0, .bool false, .int .i64 0, .int .i64 0, .int .i64 0, .bool false, .int .i64 0, .int .i64 0, .int .i64 0, .bool false, .int .i64 0, .int .i64 0, .int .i64 0, .bool false, .int .i64 0, .int .i64 0, .int .i64 0, .bool false, .int .i64 0, .int .i64 0, .int .i64 0, .bool false, .int .i64 0, .int .i64 0, .int .i64 0, .bool false, .int .i64 0, .int .i64 0, .int .i64 0, .bool false, .int .i64 0, .int .i64 0, .int .i64 0, .bool false, .int .i64 0, .int .i64 0, .int .i64 0, .bool false, .int .i64 0, .int .i64 0, .int .i64 0, .bool false, .int .i64 0, .int .i64 0, .int .i64 0, .int .i64 0] 43⟩,
     ⟨none, none, .store (.t 7) (.t 21) 65⟩,
     ⟨some 8, none, .mov (.t 22)⟩])
  (.seq (.seq (.reg false [⟨some 23, none, .loadN (.t 7) 65⟩,
      ⟨some 24, none, .loadN (.t 5) 65⟩,
      ⟨some 25, none, .call 24 [.t 23, .t 24]⟩,
      ⟨some 26, none, .un .not (.t 25)⟩,
      ⟨some 27, none, .mov (.t 26)⟩,
      ⟨some 28, some (27, false), .mov (.t 8)⟩,
      ⟨some 29, some (27, false), .mov (.t 6)⟩,
      ⟨some 30, some (27, false), .bin .neq (.t 28) (.t 29)⟩,
      ⟨some 31, none, .pick (.t 27) (.k (.c (.bool true))) (.t 30)⟩])
   (.cond (.t 31) (.seq (.reg false [⟨some 4, none, .mov (.k (.c (.bool false)))⟩])
    (.ret (some [4]))) .skip))
  (.seq (.reg false [⟨some 4, none, .mov (.k (.c (.bool true)))⟩])
  (.ret (some [4])))))))⟩
theorem c_laws_FnExactTreeAdd_ok : trF Try.prog ⟨[], [4], false⟩ Try.f14 = some c_laws_FnExactTreeAdd := by kernel_rfl
def c_spec_ChainOk_b0 : IC :=
  (.seq (.seq (.reg false [⟨some 8, none, .mov (.t 4)⟩,
      ⟨some 9, none, .bin .lss (.t 8) (.k (.c (.int .i64 16)))⟩])
   (.cond (.t 9) .skip (.exit 0)))
  (.seq (.block 1 none none
   (.seq (.reg false [⟨some 12, none, .mov (.t 4)⟩,
       ⟨some 13, none, .fld (.t 1) 0⟩,
       ⟨some 14, none, .ixa (.t 13) (.t 12) 16 4⟩,
       ⟨some 15, none, .loadN (.t 14) 4⟩,
       ⟨some 5, none, .alloc [.bool false, .int .i64 0, .int .i64 0, .int .i64 0] 28⟩,
       ⟨none, none, .store (.t 5) (.t 15) 4⟩])
    (.seq (.seq (.reg false [⟨some 16, none, .fld (.t 5) 0⟩,
        ⟨some 17, none, .load1 (.t 16)⟩,
        ⟨some 18, none, .un .not (.t 17)⟩,
        ⟨some 19, none, .mov (.t 18)⟩,
        ⟨some 20, some (19, true), .loadN (.t 5) 4⟩,
        ⟨some 21, some (19, true), .bld [.bool false, .int .i64 0, .int .i64 0, .int .i64 0] []⟩,
        ⟨some 22, some (19, true), .eqa true [none, some .i64, some .i64, some .i64] (.t 20) (.t 21)⟩,
        ⟨some 23, none, .pick (.t 19) (.t 22) (.k (.c (.bool false)))⟩,
        ⟨some 24, none, .mov (.t 23)⟩,
        ⟨some 25, some (24, false), .fld (.t 5) 0⟩,
        ⟨some 26, some (24, false), .load1 (.t 25)⟩,
        ⟨some 27, some (24, false), .mov (.t 26)⟩,
        ⟨some 28, some (27, true), .fld (.t 5) 1⟩,
        ⟨some 29, some (27, true), .load1 (.t 28)⟩,
        ⟨some 30, some (27, true), .call 47 [.t 29]⟩,
        ⟨some 31, some (27, true), .un .not (.t 30)⟩,
        ⟨some 32, some (27, true), .mov (.t 31)⟩,
        ⟨some 33, some (32, false), .fld (.t 5) 2⟩,
        ⟨some 34, some (32, false), .load1 (.t 33)⟩,
        ⟨some 35, some (32, false), .call 47 [.t 34]⟩,
        ⟨some 36, some (32, false), .un .not (.t 35)⟩,
        ⟨some 37, some (27, true), .pick (.t 32) (.k (.c (.bool true))) (.t 36)⟩,
        ⟨some 38, some (24, false), .pick (.t 27) (.t 37) (.k (.c (.bool false)))⟩,
        ⟨some 39, none, .pick (.t 24) (.k (.c (.bool true))) (.t 38)⟩])
     (.cond (.t 39) (.seq (.reg false [⟨some 2, none, .mov (.k (.c (.bool false)))⟩])
      (.ret (some [2]))) .skip))
    (.seq (.reg false [⟨some 40, none, .fld (.t 5) 0⟩,
       ⟨some 41, none, .load1 (.t 40)⟩])
    (.cond (.t 41) (.reg false [⟨some 42, none, .mov (.t 3)⟩,
       ⟨some 43, none, .bin .add (.t 42) (.k (.c (.int .i64 1)))⟩,
       ⟨some 3, none, .mov (.t 43)⟩]) .skip)))))
  (.reg false [⟨some 10, none, .mov (.t 4)⟩,
    ⟨some 11, none, .bin .add (.t 10) (.k (.c (.int .i64 1)))⟩,
    ⟨some 4, none, .mov (.t 11)⟩])))
def c_spec_ChainOk_b1 : IC :=
  (.seq (.seq (.reg false [⟨some 46, none, .mov (.t 6)⟩,
      ⟨some 47, none, .bin .neq (.t 46) (.k (.c (.int .i64 (-1))))⟩])
   (.cond (.t 47) .skip (.exit 2)))
  (.block 3 none none
  (.seq (.seq (.reg true [⟨some 48, none, .mov (.t 6)⟩,
       ⟨some 49, none, .call 48 [.t 48, .k (.c (.int .i64 0)), .k (.c (.int .i64 15))]⟩,
       ⟨some 50, none, .un .not (.t 49)⟩,
       ⟨some 51, none, .mov (.t 50)⟩,
       ⟨some 52, some (51, false), .mov (.t 6)⟩,
       ⟨some 53, some (51, false), .fld (.t 1) 0⟩,
       ⟨some 54, some (51, false), .ixa (.t 53) (.t 52) 16 4⟩,
       ⟨some 55, some (51, false), .fld (.t 54) 0⟩,
       ⟨some 56, some (51, false), .load1 (.t 55)⟩,
       ⟨some 57, some (51, false), .un .not (.t 56)⟩,
       ⟨some 58, none, .pick (.t 51) (.k (.c (.bool true))) (.t 57)⟩,
       ⟨some 59, none, .mov (.t 58)⟩,
       ⟨some 60, some (59, false), .mov (.t 3)⟩,
       ⟨some 61, some (59, false), .bin .eql (.t 60) (.k (.c (.int .i64 0)))⟩,
       ⟨some 62, none, .pick (.t 59) (.k (.c (.bool true))) (.t 61)⟩,
       ⟨some 63, none, .mov (.t 62)⟩,
       ⟨some 64, some (63, false), .mov (.t 7)⟩,
       ⟨some 65, some (63, false), .bin .geq (.t 64) (.k (.c (.int .i64 0)))⟩,
       ⟨some 66, some (63, false), .mov (.t 65)⟩,
       ⟨some 67, some (66, true), .mov (.t 7)⟩,
       ⟨some 68, some (66, true), .fld (.t 1) 0⟩,
       ⟨some 69, some (66, true), .ixa (.t 68) (.t 67) 16 4⟩,
       ⟨some 70, some (66, true), .fld (.t 69) 1⟩,
       ⟨some 71, some (66, true), .load1 (.t 70)⟩,
       ⟨some 72, some (66, true), .mov (.t 6)⟩,
       ⟨some 73, some (66, true), .fld (.t 1) 0⟩,
       ⟨some 74, some (66, true), .ixa (.t 73) (.t 72) 16 4⟩,
       ⟨some 75, some (66, true), .fld (.t 74) 1⟩,
       ⟨some 76, some (66, true), .load1 (.t 75)⟩,
       ⟨some 77, some (66, true), .bin .geq (.t 71) (.t 76)⟩,
       ⟨some 78, some (63, false), .pick (.t 66) (.t 77) (.k (.c (.bool false)))⟩,
       ⟨some 79, none, .pick (.t 63) (.k (.c (.bool true))) (.t 78)⟩])
    (.cond (.t 79) (.seq (.reg false [⟨some 2, none, .mov (.k (.c (.bool false)))⟩])
     (.ret (some [2]))) .skip))
   (.seq (.reg false [⟨some 80, none, .mov (.t 3)⟩,
      ⟨some 81, none, .bin .sub (.t 80) (.k (.c (.int .i64 1)))⟩,
      ⟨some 3, none, .mov (.t 81)⟩])
   (.seq (.reg false [⟨some 82, none, .mov (.t 6)⟩,
      ⟨some 7, none, .mov (.t 82)⟩])
   (.reg false [⟨some 83, none, .mov (.t 6)⟩,
     ⟨some 84, none, .fld (.t 1) 0⟩,
     ⟨some 85, none, .ixa (.t 84) (.t 83) 16 4⟩,
     ⟨some 86, none, .fld (.t 85) 3⟩,
     ⟨some 87, none, .load1 (.t 86)⟩,
     ⟨some 6, none, .mov (.t 87)⟩]))))))
def c_spec_ChainOk : IFn := ⟨90, [.t 2],
  (.seq (.reg false [⟨some 1, none, .box (.t 0) 31⟩,
     ⟨some 2, none, .mov (.k (.c (.bool false)))⟩])
  (.seq (.reg false [⟨some 3, none, .mov (.k (.c (.int .i64 0)))⟩])
  (.seq (.seq (.reg false [⟨some 4, none, .mov (.k (.c (.int .i64 0)))⟩])
   (.block 0 (some [1, 3, 4]) (some [1, 3])
   (.loop c_spec_ChainOk_b0)))
  (.seq (.reg false [⟨some 44, none, .fld (.t 1) 64⟩,
     ⟨some 45, none, .load1 (.t 44)⟩,
     ⟨some 6, none, .mov (.t 45)⟩,
     ⟨some 7, none, .mov (.k (.c (.int .i64 (-1))))⟩])
  (.seq (.block 2 (some [1, 3, 6, 7]) (some [3])
   (.loop c_spec_ChainOk_b1))
  (.seq (.reg false [⟨some 88, none, .mov (.t 3)⟩,
     ⟨some 89, none, .bin .eql (.t 88) (.k (.c (.int .i64 0)))⟩,
     ⟨some 2, none, .mov (.t 89)⟩])
  (.ret (some [2]))))))))⟩
theorem c_spec_ChainOk_ok : trF Try.prog ⟨[(0, [1, 3, 4], [1, 3]), (2, [1, 3, 6, 7], [3])], [2], false⟩ Try.f15 = some c_spec_ChainOk := by kernel_rfl
def c_laws_toChain : IFn := ⟨12, [.cell 2 65 true],
  (.seq (.reg false [⟨some 1, none, .box (.t 0) 26⟩,
     ⟨some 2, none, .alloc [.bool false, .int .i64 0, .int .i64 0, .int .i64 0, .bool false, .int .i64 0, .int .i64 0, .int .i64 0, .bool false, .int .i64 0, .int .i64 0, .int .i64 0, .bool false, .int .i64 0, .int .i64 0, .int .i64 0, .bool false, .int .i64 0, .int .i64 0, .int .i64 0, .bool false, .int .i64 0, .int .i64 0, .int .i64 0, .bool false, .int .i64 0, .int .i64 0, .int .i64 0, .bool false, .int .i64 0, .int .i64 0, .int .i64 0, .bool false, .int .i64 0, .int .i64 0, .int .i64 0, .bool false, .int .i64 0, .int .i64 0, .int .i64 0, .bool false, .int .i64 0, .int .i64 0, .int .i64 0, .bool false, .int .i64 0, .int .i64 0, .int .i64 0, .bool false, .int .i64 0, .int .i64 0, .int .i64 0, .bool false, .int .i64 0, .int .i64 0, .int .i64 0, .bool false, .int .i64 0, .int .i64 0, .int .i64 0, .bool false, .int .i64 0, .int .i64 0, .int .i64 0, .int .i64 0] 31⟩])
  (.seq (.reg false [⟨some 3, none, .alloc [.bool false, .int .i64 0, .int .i64 0, .int .i64 0, .bool false, .int .i64 0, .int .i64 0, .int .i64 0, .bool false, .int .i64 0, .int .i64 0, .int .i64 0, .bool false, .int .i64 0, .int .i64 0, .int .i64 0, .bool false, .int .i64 0, .int .i64 0, .int .i64 0, .bool false, .int .i64 0, .int .i64 0, .int .i64 0, .bool false, .int .i64 0, .int .i64 0, .int .i64 0, .bool false, .int .i64 0, .int .i64 0, .int .i64 0, .bool false, .int .i64 0, .int .i64 0, .int .i64 0, .bool false, .int .i64 0, .int .i64 0, .int .i64 0, .bool false, .int .i64 0, .int .i64 0, .int .i64 0, .bool false, .int .i64 0, .int .i64 0, .int .i64 0, .bool false, .int .i64 0, .int .i64 0, .int .i64 0, .bool false, .int .i64 0, .int .i64 0, .int .i64 0, .bool false, .int .i64 0, .int .i64 0, .int .i64 0, .bool false, .int .i64 0, .int .i64 0, .int .i64 0, .int .i64 0] 31⟩])
  (.seq (.reg false [⟨some 4, none, .fld (.t 1) 0⟩,
     ⟨some 5, none, .loadN (.t 4) 64⟩,
     ⟨some 6, none, .call 49 [.t 5]⟩,
     ⟨some 7, none, .fld (.t 3) 0⟩,
     ⟨none, none, .store (.t 7) (.t 6) 64⟩])
  (.seq (.reg false [⟨some 8, none, .fld (.t 1) 64⟩,
     ⟨some 9, none, .load1 (.t 8)⟩,
     ⟨some 10, none, .fld (.t 3) 64⟩,
     ⟨none, none, .store (.t 10) (.t 9) 1⟩])
  (.seq (.reg false [⟨some 11, none, .loadN (.t 3) 65⟩,
     ⟨none, none, .store (.t 2) (.t 11) 65⟩])
  (.ret (some [2])))))))⟩
theorem c_laws_toChain_ok : trF Try.prog ⟨[], [2], false⟩ Try.f16 = some c_laws_toChain := by kernel_rfl
def c_impl_ChainOk_b0 : IC :=
  (.seq (.reg false [⟨some 12, none, .bin .lss (.t 11) (.k (.c (.int .i64 16)))⟩])
  (.seq (.cond (.t 12) .skip (.exit 0))
  (.seq (.block 1 none none
   (.seq (.reg false [⟨some 13, none, .idx (.t 10) (.t 11) 16 4 true⟩,
       ⟨some 6, none, .alloc [.bool false, .int .i64 0, .int .i64 0, .int .i64 0] 28⟩,
       ⟨none, none, .store (.t 6) (.t 13) 4⟩])
    (.block 2 none none
    (.seq (.reg false [⟨some 15, none, .fld (.t 6) 0⟩,
        ⟨some 16, none, .load1 (.t 15)⟩,
        ⟨some 14, none, .mov (.t 16)⟩])
     (.cond (.t 14) (.seq (.reg false [⟨some 17, none, .mov (.t 3)⟩,
         ⟨some 18, none, .bin .add (.t 17) (.k (.c (.int .i64 1)))⟩,
         ⟨some 3, none, .mov (.t 18)⟩])
      (.seq (.reg false [⟨some 19, none, .fld (.t 6) 1⟩,
         ⟨some 20, none, .load1 (.t 19)⟩,
         ⟨some 21, none, .call 50 [.t 20]⟩,
         ⟨some 22, none, .un .not (.t 21)⟩,
         ⟨some 23, none, .mov (.t 22)⟩,
         ⟨some 24, some (23, false), .fld (.t 6) 2⟩,
         ⟨some 25, some (23, false), .load1 (.t 24)⟩,
         ⟨some 26, some (23, false), .call 50 [.t 25]⟩,
         ⟨some 27, some (23, false), .un .not (.t 26)⟩,
         ⟨some 28, none, .pick (.t 23) (.k (.c (.bool true))) (.t 27)⟩,
         ⟨some 29, none, .mov (.t 28)⟩,
         ⟨some 30, some (29, false), .fld (.t 6) 3⟩,
         ⟨some 31, some (29, false), .load1 (.t 30)⟩,
         ⟨some 32, some (29, false), .call 51 [.t 31, .k (.c (.int .i64 (-1))), .k (.c (.int .i64 15))]⟩,
         ⟨some 33, some (29, false), .un .not (.t 32)⟩,
         ⟨some 34, none, .pick (.t 29) (.k (.c (.bool true))) (.t 33)⟩])
      (.cond (.t 34) (.seq (.reg false [⟨some 2, none, .mov (.k (.c (.bool false)))⟩])
       (.ret (some [2]))) .skip))) (.seq (.reg false [⟨some 36, none, .loadN (.t 6) 4⟩,
         ⟨some 37, none, .bld [.bool false, .int .i64 0, .int .i64 0, .int .i64 0] []⟩,
         ⟨some 38, none, .eqa true [none, some .i64, some .i64, some .i64] (.t 36) (.t 37)⟩,
         ⟨some 35, none, .mov (.t 38)⟩])
      (.cond (.t 35) (.seq (.reg false [⟨some 2, none, .mov (.k (.c (.bool false)))⟩])
       (.ret (some [2]))) .skip)))))))
  (.reg false [⟨some 39, none, .bin .add (.t 11) (.k (.c (.int .i64 1)))⟩,
    ⟨some 11, none, .mov (.t 39)⟩]))))
def c_impl_ChainOk_b1 : IC :=
  (.seq (.seq (.reg false [⟨some 42, none, .mov (.t 8)⟩,
      ⟨some 43, none, .bin .neq (.t 42) (.k (.c (.int .i64 (-1))))⟩])
   (.cond (.t 43) .skip (.exit 3)))
  (.seq (.block 4 none none
   (.seq (.seq (.reg false [⟨some 49, none, .mov (.t 8)⟩,
        ⟨some 50, none, .call 51 [.t 49, .k (.c (.int .i64 0)), .k (.c (.int .i64 15))]⟩,
        ⟨some 51, none, .un .not (.t 50)⟩,
        ⟨some 52, none, .mov (.t 51)⟩,
        ⟨some 53, some (52, false), .mov (.t 8)⟩,
        ⟨some 54, some (52, false), .fld (.t 1) 0⟩,
        ⟨some 55, some (52, false), .ixa (.t 54) (.t 53) 16 4⟩,
        ⟨some 56, some (52, false), .fld (.t 55) 0⟩,
        ⟨some 57, some (52, false), .load1 (.t 56)⟩,
        ⟨some 58, some (52, false), .un .not (.t 57)⟩,
        ⟨some 59, none, .pick (.t 52) (.k (.c (.bool true))) (.t 58)⟩,
        ⟨some 60, none, .mov (.t 59)⟩,
        ⟨some 61, some (60, false), .mov (.t 8)⟩,
        ⟨some 62, some (60, false), .fld (.t 1) 0⟩,
        ⟨some 63, some (60, false), .ixa (.t 62) (.t 61) 16 4⟩,
        ⟨some 64, some (60, false), .fld (.t 63) 1⟩,
        ⟨some 65, some (60, false), .load1 (.t 64)⟩,
        ⟨some 66, some (60, false), .mov (.t 7)⟩,
        ⟨some 67, some (60, false), .bin .leq (.t 65) (.t 66)⟩,
        ⟨some 68, none, .pick (.t 60) (.k (.c (.bool true))) (.t 67)⟩])
     (.cond (.t 68) (.seq (.reg false [⟨some 2, none, .mov (.k (.c (.bool false)))⟩])
      (.ret (some [2]))) .skip))
    (.seq (.reg false [⟨some 69, none, .mov (.t 8)⟩,
       ⟨some 70, none, .fld (.t 1) 0⟩,
       ⟨some 71, none, .ixa (.t 70) (.t 69) 16 4⟩,
       ⟨some 72, none, .fld (.t 71) 1⟩,
       ⟨some 73, none, .load1 (.t 72)⟩,
       ⟨some 7, none, .mov (.t 73)⟩])
    (.reg false [⟨some 74, none, .mov (.t 4)⟩,
      ⟨some 75, none, .bin .add (.t 74) (.k (.c (.int .i64 1)))⟩,
      ⟨some 4, none, .mov (.t 75)⟩]))))
  (.reg false [⟨some 44, none, .mov (.t 8)⟩,
    ⟨some 45, none, .fld (.t 1) 0⟩,
    ⟨some 46, none, .ixa (.t 45) (.t 44) 16 4⟩,
    ⟨some 47, none, .fld (.t 46) 3⟩,
    ⟨some 48, none, .load1 (.t 47)⟩,
    ⟨some 8, none, .mov (.t 48)⟩])))
def c_impl_ChainOk : IFn := ⟨79, [.t 2],
  (.seq (.reg false [⟨some 1, none, .box (.t 0) 31⟩,
     ⟨some 2, none, .mov (.k (.c (.bool false)))⟩])
  (.seq (.reg false [⟨some 3, none, .mov (.k (.c (.int .i64 0)))⟩,
     ⟨some 4, none, .mov (.k (.c (.int .i64 0)))⟩])
  (.seq (.seq (.reg false [⟨some 9, none, .fld (.t 1) 0⟩,
      ⟨some 10, none, .loadN (.t 9) 64⟩,
      ⟨some 11, none, .mov (.k (.c (.int .i64 0)))⟩])
   (.block 0 (some [1, 3, 4, 10, 11]) (some [1, 3, 4])
   (.loop c_impl_ChainOk_b0)))
  (.seq (.reg false [⟨some 7, none, .mov (.k (.c (.int .i64 (-1000000001))))⟩])
  (.seq (.seq (.reg false [⟨some 40, none, .fld (.t 1) 64⟩,
      ⟨some 41, none, .load1 (.t 40)⟩,
      ⟨some 8, none, .mov (.t 41)⟩])
   (.block 3 (some [1, 3, 4, 7, 8]) (some [3, 4])
   (.loop c_impl_ChainOk_b1)))
  (.seq (.reg false [⟨some 76, none, .mov (.t 4)⟩,
     ⟨some 77, none, .mov (.t 3)⟩,
     ⟨some 78, none, .bin .eql (.t 76) (.t 77)⟩,
     ⟨some 2, none, .mov (.t 78)⟩])
  (.ret (some [2]))))))))⟩
theorem c_impl_ChainOk_ok : trF Try.prog ⟨[(0, [1, 3, 4, 10, 11], [1, 3, 4]), (3, [1, 3, 4, 7, 8], [3, 4])], [2], false⟩ Try.f17 = some c_impl_ChainOk := by kernel_rfl
def c_spec_TreeOk_b0 : IC :=
  (.seq (.seq (.reg false [⟨some 9, none, .mov (.t 4)⟩,
      ⟨some 10, none, .bin .lss (.t 9) (.k (.c (.int .i64 16)))⟩])
   (.cond (.t 10) .skip (.exit 0)))
  (.seq (.block 1 none none
   (.seq (.reg false [⟨some 13, none, .mov (.t 4)⟩,
       ⟨some 14, none, .fld (.t 1) 0⟩,
       ⟨some 15, none, .ixa (.t 14) (.t 13) 16 4⟩,
       ⟨some 16, none, .loadN (.t 15) 4⟩,
       ⟨some 5, none, .alloc [.bool false, .int .i64 0, .int .i64 0, .int .i64 0] 40⟩,
       ⟨none, none, .store (.t 5) (.t 16) 4⟩])
    (.seq (.seq (.reg false [⟨some 17, none, .fld (.t 5) 0⟩,
        ⟨some 18, none, .load1 (.t 17)⟩,
        ⟨some 19, none, .un .not (.t 18)⟩,
        ⟨some 20, none, .mov (.t 19)⟩,
        ⟨some 21, some (20, true), .loadN (.t 5) 4⟩,
        ⟨some 22, some (20, true), .bld [.bool false, .int .i64 0, .int .i64 0, .int .i64 0] []⟩,
        ⟨some 23, some (20, true), .eqa true [none, some .i64, some .i64, some .i64] (.t 21) (.t 22)⟩,
        ⟨some 24, none, .pick (.t 20) (.t 23) (.k (.c (.bool false)))⟩,
        ⟨some 25, none, .mov (.t 24)⟩,
        ⟨some 26, some (25, false), .fld (.t 5) 0⟩,
        ⟨some 27, some (25, false), .load1 (.t 26)⟩,
        ⟨some 28, some (25, false), .mov (.t 27)⟩,
        ⟨some 29, some (28, true), .fld (.t 5) 1⟩,
        ⟨some 30, some (28, true), .load1 (.t 29)⟩,
        ⟨some 31, some (28, true), .call 47 [.t 30]⟩,
        ⟨some 32, some (28, true), .un .not (.t 31)⟩,
        ⟨some 33, some (25, false), .pick (.t 28) (.t 32) (.k (.c (.bool false)))⟩,
        ⟨some 34, none, .pick (.t 25) (.k (.c (.bool true))) (.t 33)⟩])
     (.cond (.t 34) (.seq (.reg false [⟨some 2, none, .mov (.k (.c (.bool false)))⟩])
      (.ret (some [2]))) .skip))
    (.seq (.reg false [⟨some 35, none, .fld (.t 5) 0⟩,
       ⟨some 36, none, .load1 (.t 35)⟩])
    (.cond (.t 36) (.reg false [⟨some 37, none, .mov (.t 3)⟩,
       ⟨some 38, none, .bin .add (.t 37) (.k (.c (.int .i64 1)))⟩,
       ⟨some 3, none, .mov (.t 38)⟩]) .skip)))))
  (.reg false [⟨some 11, none, .mov (.t 4)⟩,
    ⟨some 12, none, .bin .add (.t 11) (.k (.c (.int .i64 1)))⟩,
    ⟨some 4, none, .mov (.t 12)⟩])))
def c_spec_TreeOk_b1 : IC :=
  (.seq (.seq (.reg false [⟨some 47, none, .mov (.t 8)⟩,
      ⟨some 48, none, .mov (.t 6)⟩,
      ⟨some 49, none, .len (.t 48)⟩,
      ⟨some 50, none, .bin .lss (.t 47) (.t 49)⟩])
   (.cond (.t 50) .skip (.exit 2)))
  (.seq (.block 3 none none
   (.seq (.reg true [⟨some 53, none, .mov (.t 6)⟩,
       ⟨some 54, none, .mov (.t 8)⟩,
       ⟨some 55, none, .bin .sub (.t 54) (.k (.c (.int .i64 1)))⟩,
       ⟨some 56, none, .ixs (.t 53) (.t 55) 1⟩,
       ⟨some 57, none, .load1 (.t 56)⟩,
       ⟨some 58, none, .fld (.t 1) 0⟩,
       ⟨some 59, none, .ixa (.t 58) (.t 57) 16 4⟩,
       ⟨some 60, none, .fld (.t 59) 1⟩,
       ⟨some 61, none, .load1 (.t 60)⟩,
       ⟨some 62, none, .mov (.t 6)⟩,
       ⟨some 63, none, .mov (.t 8)⟩,
       ⟨some 64, none, .ixs (.t 62) (.t 63) 1⟩,
       ⟨some 65, none, .load1 (.t 64)⟩,
       ⟨some 66, none, .fld (.t 1) 0⟩,
       ⟨some 67, none, .ixa (.t 66) (.t 65) 16 4⟩,
       ⟨some 68, none, .fld (.t 67) 1⟩,
       ⟨some 69, none, .load1 (.t 68)⟩,
       ⟨some 70, none, .bin .geq (.t 61) (.t 69)⟩])
    (.cond (.t 70) (.seq (.reg false [⟨some 2, none, .mov (.k (.c (.bool false)))⟩])
     (.ret (some [2]))) .skip)))
  (.reg false [⟨some 51, none, .mov (.t 8)⟩,
    ⟨some 52, none, .bin .add (.t 51) (.k (.c (.int .i64 1)))⟩,
    ⟨some 8, none, .mov (.t 52)⟩])))
def c_spec_TreeOk : IFn := ⟨78, [.t 2],
  (.seq (.reg false [⟨some 1, none, .box (.t 0) 43⟩,
     ⟨some 2, none, .mov (.k (.c (.bool false)))⟩])
  (.seq (.reg false [⟨some 3, none, .mov (.k (.c (.int .i64 0)))⟩])
  (.seq (.seq (.reg false [⟨some 4, none, .mov (.k (.c (.int .i64 0)))⟩])
   (.block 0 (some [1, 3, 4]) (some [1, 3])
   (.loop c_spec_TreeOk_b0)))
  (.seq (.reg false [⟨some 40, none, .loadN (.t 1) 65⟩,
     ⟨some 41, none, .fld (.t 1) 64⟩,
     ⟨some 42, none, .load1 (.t 41)⟩,
     ⟨some 43, none, .lit 0 1 [.int .i64 0] [] 3⟩,
     ⟨some 44, none, .call 52 [.t 40, .t 42, .t 43]⟩,
     ⟨some 39, none, .mov (.t 44)⟩,
     ⟨some 45, none, .ext (.t 39) 0⟩,
     ⟨some 46, none, .ext (.t 39) 1⟩,
     ⟨some 6, none, .mov (.t 45)⟩,
     ⟨some 7, none, .mov (.t 46)⟩])
  (.seq (.seq (.reg false [⟨some 8, none, .mov (.k (.c (.int .i64 1)))⟩])
   (.block 2 (some [1, 3, 6, 7, 8]) (some [3, 6, 7])
   (.loop c_spec_TreeOk_b1)))
  (.seq (.reg false [⟨some 71, none, .mov (.t 7)⟩,
     ⟨some 72, none, .mov (.t 71)⟩,
     ⟨some 73, some (72, true), .mov (.t 6)⟩,
     ⟨some 74, some (72, true), .len (.t 73)⟩,
     ⟨some 75, some (72, true), .mov (.t 3)⟩,
     ⟨some 76, some (72, true), .bin .eql (.t 74) (.t 75)⟩,
     ⟨some 77, none, .pick (.t 72) (.t 76) (.k (.c (.bool false)))⟩,
     ⟨some 2, none, .mov (.t 77)⟩])
  (.ret (some [2]))))))))⟩
theorem c_spec_TreeOk_ok : trF Try.prog ⟨[(0, [1, 3, 4], [1, 3]), (2, [1, 3, 6, 7, 8], [3, 6, 7])], [2], false⟩ Try.f18 = some c_spec_TreeOk := by kernel_rfl
def c_laws_toTree : IFn := ⟨12, [.cell 2 65 true],
  (.seq (.reg false [⟨some 1, none, .box (.t 0) 38⟩,
     ⟨some 2, none, .alloc [.bool false, .int .i64 0, .int .i64 0, .int .i64 0, .bool false, .int .i64 0, .int .i64 0, .int .i64 0, .bool false, .int .i64 0, .int .i64 0, .int .i64 0, .bool false, .int .i64 0, .int .i64 0, .int .i64 0, .bool false, .int .i64 0, .int .i64 0, .int .i64 0, .bool false, .int .i64 0, .int .i64 0, .int .i64 0, .bool false, .int .i64 0, .int .i64 0, .int .i64 0, .bool false, .int .i64 0, .int .i64 0, .int .i64 0, .bool false, .int .i64 0, .int .i64 0, .int .i64 0, .bool false, .int .i64 0, .int .i64 0, .int .i64 0, .bool false, .int .i64 0, .int .i64 0, .int .i64 0, .bool false, .int .i64 0, .int .i64 0, .int .i64 0, .bool false, .int .i64 0, .int .i64 0, .int .i64 0, .bool false, .int .i64 0, .int .i64 0, .int .i64 0, .bool false, .int .i64 0, .int .i64 0, .int .i64 0, .bool false, .int .i64 0, .int .i64 0, .int .i64 0, .int .i64 0] 43⟩])
  (.seq (.reg false [⟨some 3, none, .alloc [.bool false, .int .i64 0, .int .i64 0, .int .i64 0, .bool false, .int .i64 0, .int .i64 0, .int .i64 0, .bool false, .int .i64 0, .int .i64 0, .int .i64 0, .bool false, .int .i64 0, .int .i64 0, .int .i64 0, .bool false, .int .i64 0, .int .i64 0, .int .i64 0, .bool false, .int .i64 0, .int .i64 0, .int .i64 0, .bool false, .int .i64 0, .int .i64 0, .int .i64 0, .bool false, .int .i64 0, .int .i64 0, .int .i64 0, .bool false, .int .i64 0, .int .i64 0, .int .i64 0, .bool false, .int .i64 0, .int .i64 0, .int .i64 0, .bool false, .int .i64 0, .int .i64 0, .int .i64 0, .bool false, .int .i64 0, .int .i64 0, .int .i64 0, .bool false, .int .i64 0, .int .i64 0, .int .i64 0, .bool false, .int .i64 0, .int .i64 0, .int .i64 0, .bool false, .int .i64 0, .int .i64 0, .int .i64 0, .bool false, .int .i64 0, .int .i64 0, .int .i64 0, .int .i64 0] 43⟩])
  (.seq (.reg false [⟨some 4, none, .fld (.t 1) 0⟩,
     ⟨some 5, none, .loadN (.t 4) 64⟩,
     ⟨some 6, none, .call 53 [.t 5]⟩,
     ⟨some 7, none, .fld (.t 3) 0⟩,
     ⟨none, none, .store (.t 7) (.t 6) 64⟩])
  (.seq (.reg false [⟨some 8, none, .fld (.t 1) 64⟩,
     ⟨some 9, none, .load1 (.t 8)⟩,
     ⟨some 10, none, .fld (.t 3) 64⟩,
     ⟨none, none, .store (.t 10) (.t 9) 1⟩])
  (.seq (.reg false [⟨some 11, none, .loadN (.t 3) 65⟩,
     ⟨none, none, .store (.t 2) (.t 11) 65⟩])
  (.ret (some [2])))))))⟩
theorem c_laws_toTree_ok : trF Try.prog ⟨[], [2], false⟩ Try.f19 = some c_laws_toTree := by kernel_rfl
def c_impl_TreeOk_b0 : IC :=
  (.seq (.reg false [⟨some 15, none, .bin .lss (.t 14) (.k (.c (.int .i64 16)))⟩])
  (.seq (.cond (.t 15) .skip (.exit 0))
  (.seq (.block 1 none none
   (.seq (.reg false [⟨some 16, none, .mov (.t 14)⟩,
       ⟨some 17, none, .idx (.t 13) (.t 14) 16 4 true⟩,
       ⟨some 5, none, .alloc [.bool false, .int .i64 0, .int .i64 0, .int .i64 0] 40⟩,
       ⟨some 4, none, .mov (.t 16)⟩,
       ⟨none, none, .store (.t 5) (.t 17) 4⟩])
    (.seq (.reg true [⟨some 18, none, .fld (.t 5) 0⟩,
       ⟨some 19, none, .load1 (.t 18)⟩,
       ⟨some 20, none, .mov (.t 4)⟩,
       ⟨some 21, none, .ixa (.t 3) (.t 20) 16 1⟩,
       ⟨some 22, none, .load1 (.t 21)⟩,
       ⟨some 23, none, .binb true (.t 19) (.t 22)⟩,
       ⟨some 24, none, .mov (.t 23)⟩,
       ⟨some 25, some (24, false), .fld (.t 5) 0⟩,
       ⟨some 26, some (24, false), .load1 (.t 25)⟩,
       ⟨some 27, some (24, false), .un .not (.t 26)⟩,
       ⟨some 28, some (24, false), .mov (.t 27)⟩,
       ⟨some 29, some (28, true), .loadN (.t 5) 4⟩,
       ⟨some 30, some (28, true), .bld [.bool false, .int .i64 0, .int .i64 0, .int .i64 0] []⟩,
       ⟨some 31, some (28, true), .eqa true [none, some .i64, some .i64, some .i64] (.t 29) (.t 30)⟩,
       ⟨some 32, some (24, false), .pick (.t 28) (.t 31) (.k (.c (.bool false)))⟩,
       ⟨some 33, none, .pick (.t 24) (.k (.c (.bool true))) (.t 32)⟩])
    (.cond (.t 33) (.seq (.reg false [⟨some 2, none, .mov (.k (.c (.bool false)))⟩])
     (.ret (some [2]))) .skip))))
  (.reg false [⟨some 34, none, .bin .add (.t 14) (.k (.c (.int .i64 1)))⟩,
    ⟨some 14, none, .mov (.t 34)⟩]))))
def c_impl_TreeOk : IFn := ⟨35, [.t 2],
  (.seq (.reg false [⟨some 1, none, .box (.t 0) 43⟩,
     ⟨some 2, none, .mov (.k (.c (.bool false)))⟩])
  (.seq (.reg false [⟨some 6, none, .bld [.bool false, .bool false, .bool false, .bool false, .bool false, .bool false, .bool false, .bool false, .bool false, .bool false, .bool false, .bool false, .bool false, .bool false, .bool false, .bool false] []⟩,
     ⟨some 3, none, .alloc [.bool false, .bool false, .bool false, .bool false, .bool false, .bool false, .bool false, .bool false, .bool false, .bool false, .bool false, .bool false, .bool false, .bool false, .bool false, .bool false] 79⟩,
     ⟨none, none, .store (.t 3) (.t 6) 16⟩])
  (.seq (.seq (.reg false [⟨some 7, none, .loadN (.t 1) 65⟩,
      ⟨some 8, none, .fld (.t 1) 64⟩,
      ⟨some 9, none, .load1 (.t 8)⟩,
      ⟨some 10, none, .call 54 [.t 7, .t 9, .k (.c (.int .i64 (-1000000000))), .k (.c (.int .i64 1000000000)), .t 3]⟩,
      ⟨some 11, none, .un .not (.t 10)⟩])
   (.cond (.t 11) (.seq (.reg false [⟨some 2, none, .mov (.k (.c (.bool false)))⟩])
    (.ret (some [2]))) .skip))
  (.seq (.seq (.reg false [⟨some 12, none, .fld (.t 1) 0⟩,
      ⟨some 13, none, .loadN (.t 12) 64⟩,
      ⟨some 14, none, .mov (.k (.c (.int .i64 0)))⟩])
   (.block 0 (some [3, 13, 14]) (some [])
   (.loop c_impl_TreeOk_b0)))
  (.seq (.reg false [⟨some 2, none, .mov (.k (.c (.bool true)))⟩])
  (.ret (some [2])))))))⟩
theorem c_impl_TreeOk_ok : trF Try.prog ⟨[(0, [3, 13, 14], [])], [2], false⟩ Try.f20 = some c_impl_TreeOk := by kernel_rfl
def c_spec_TreeBuild_b0 : IC :=
  (.seq (.seq (.reg false [⟨some 17, none, .mov (.t 4)⟩,
      ⟨some 18, none, .mov (.t 0)⟩,
      ⟨some 19, none, .len (.t 18)⟩,
      ⟨some 20, none, .bin .lss (.t 17) (.t 19)⟩])
   (.cond (.t 20) .skip (.exit 0)))
  (.seq (.block 1 none none
   (.seq (.reg true [⟨some 23, none, .mov (.t 0)⟩,
       ⟨some 24, none, .mov (.t 4)⟩,
       ⟨some 25, none, .bin .sub (.t 24) (.k (.c (.int .i64 1)))⟩,
       ⟨some 26, none, .ixs (.t 23) (.t 25) 1⟩,
       ⟨some 27, none, .load1 (.t 26)⟩,
       ⟨some 28, none, .mov (.t 0)⟩,
       ⟨some 29, none, .mov (.t 4)⟩,
       ⟨some 30, none, .ixs (.t 28) (.t 29) 1⟩,
       ⟨some 31, none, .load1 (.t 30)⟩,
       ⟨some 32, none, .bin .geq (.t 27) (.t 31)⟩])
    (.cond (.t 32) (.seq (.reg false [⟨some 33, none, .call 56 []⟩,
        ⟨none, none, .store (.t 2) (.t 33) 65⟩,
        ⟨some 3, none, .mov (.k (.c (.bool false)))⟩])
     (.ret (some [2, 3]))) .skip)))
  (.reg false [⟨some 21, none, .mov (.t 4)⟩,
    ⟨some 22, none, .bin .add (.t 21) (.k (.c (.int .i64 1)))⟩,
    ⟨some 4, none, .mov (.t 22)⟩])))
def c_spec_TreeBuild : IFn := ⟨44, [.cell 2 65 true, .t 3],
  (.seq (.reg false [⟨some 2, none, .alloc [.bool false, .int .i64 0, .int .i64 0, .int .i64 0, .bool false, .int .i64 0, .int .i64 0, .int .i64 0, .bool false, .int .i64 0, .int .i64 0, .int .i64 0, .bool false, .int .i64 0, .int .i64 0, .int .i64 0, .bool false, .int .i64 0, .int .i64 0, .int .i64 0, .bool false, .int .i64 0, .int .i64 0, .int .i64 0, .bool false, .int .i64 0, .int .i64 0, .int .i64 0, .bool false, .int .i64 0, .int .i64 0, .int .i64 0, .bool false, .int .i64 0, .int .i64 0, .int .i64 0, .bool false, .int .i64 0, .int .i64 0, .int .i64 0, .bool false, .int .i64 0, .int .i64 0, .int .i64 0, .bool false, .int .i64 0, .int .i64 0, .int .i64 0, .bool false, .int .i64 0, .int .i64 0, .int .i64 0, .bool false, .int .i64 0, .int .i64 0, .int .i64 0, .bool false, .int .i64 0, .int .i64 0, .int .i64 0, .bool false, .int .i64 0, .int .i64 0, .int .i64 0, .int .i64 0] 43⟩,
     ⟨some 3, none, .mov (.k (.c (.bool false)))⟩])
  (.seq (.seq (.reg false [⟨some 8, none, .mov (.t 0)⟩,
      ⟨some 9, none, .len (.t 8)⟩,
      ⟨some 10, none, .bin .gtr (.t 9) (.k (.c (.int .i64 16)))⟩,
      ⟨some 11, none, .mov (.t 10)⟩,
      ⟨some 12, some (11, false), .mov (.t 0)⟩,
      ⟨some 13, some (11, false), .call 55 [.t 12, .k (.c (.int .i64 (-1000000000))), .k (.c (.int .i64 1000000000))]⟩,
      ⟨some 14, some (11, false), .un .not (.t 13)⟩,
      ⟨some 15, none, .pick (.t 11) (.k (.c (.bool true))) (.t 14)⟩])
   (.cond (.t 15) (.seq (.reg false [⟨some 16, none, .call 56 []⟩,
       ⟨none, none, .store (.t 2) (.t 16) 65⟩,
       ⟨some 3, none, .mov (.k (.c (.bool false)))⟩])
    (.ret (some [2, 3]))) .skip))
  (.seq (.seq (.reg false [⟨some 4, none, .mov (.k (.c (.int .i64 1)))⟩])
   (.block 0 (some [0, 2, 4]) (some [0, 2])
   (.loop c_spec_TreeBuild_b0)))
  (.seq (.reg false [⟨some 35, none, .bld [.bool false, .int .i64 0, .int .i64 0, .int .i64 0, .bool false, .int .i64 0, .int .i64 0, .int .i64 0, .bool false, .int .i64 0, .int .i64 0, .int .i64 0, .bool false, .int .i64 0, .int .i64 0, .int .i64 0, .bool false, .int .i64 0, .int .i64 0, .int .i64 0, .bool false, .int .i64 0, .int .i64 0, .int .i64 0, .bool false, .int .i64 0, .int .i64 0, .int .i64 0, .bool false, .int .i64 0, .int .i64 0, .int .i64 0, .bool false, .int .i64 0, .int .i64 0, .int .i64 0, .bool false, .int .i64 0, .int .i64 0, .int .i64 0, .bool false, .int .i64 0, .int .i64 0, .int .i64 0, .bool false, .int .i64 0, .int .i64 0, .int .i64 0, .bool false, .int .i64 0, .int .i64 0, .int .i64 0, .bool false, .int .i64 0, .int .i64 0, .int .i64 0, .bool false, .int .i64 0, .int .i64 0, .int .i64 0, .bool false, .int .i64 0, .int .i64 0, .int .i64 0, .int .i64 0] []⟩,
     ⟨some 36, none, .mov (.t 0)⟩,
     ⟨some 37, none, .call 57 [.t 35, .t 36, .k (.c (.int .i64 0))]⟩,
     ⟨some 34, none, .mov (.t 37)⟩,
     ⟨some 38, none, .ext (.t 34) 0⟩,
     ⟨some 39, none, .ext (.t 34) 1⟩,
     ⟨some 40, none, .ext (.t 34) 2⟩,
     ⟨some 5, none, .alloc [.bool false, .int .i64 0, .int .i64 0, .int .i64 0, .bool false, .int .i64 0, .int .i64 0, .int .i64 0, .bool false, .int .i64 0, .int .i64 0, .int .i64 0, .bool false, .int .i64 0, .int .i64 0, .int .i64 0, .bool false, .int .i64 0, .int .i64 0, .int .i64 0, .bool false, .int .i64 0, .int .i64 0, .int .i64 0, .bool false, .int .i64 0, .int .i64 0, .int .i64 0, .bool false, .int .i64 0, .int .i64 0, .int .i64 0, .bool false, .int .i64 0, .int .i64 0, .int .i64 0, .bool false, .int .i64 0, .int .i64 0, .int .i64 0, .bool false, .int .i64 0, .int .i64 0, .int .i64 0, .bool false, .int .i64 0, .int .i64 0, .int .i64 0, .bool false, .int .i64 0, .int .i64 0, .int .i64 0, .bool false, .int .i64 0, .int .i64 0, .int .i64 0, .bool false, .int .i64 0, .int .i64 0, .int .i64 0, .bool false, .int .i64 0, .int .i64 0, .int .i64 0, .int .i64 0] 43⟩,
     ⟨none, none, .store (.t 5) (.t 38) 65⟩,
     ⟨some 6, none, .mov (.t 39)⟩,
     ⟨some 7, none, .mov (.t 40)⟩])
  (.seq (.reg false [⟨some 41, none, .mov (.t 6)⟩,
     ⟨some 42, none, .fld (.t 5) 64⟩,
     ⟨none, none, .store (.t 42) (.t 41) 1⟩])
  (.seq (.reg false [⟨some 43, none, .loadN (.t 5) 65⟩,
     ⟨none, none, .store (.t 2) (.t 43) 65⟩,
     ⟨some 3, none, .mov (.k (.c (.bool true)))⟩])
  (.ret (some [2, 3]))))))))⟩
theorem c_spec_TreeBuild_ok : trF Try.prog ⟨[(0, [0, 2, 4], [0, 2])], [2, 3], false⟩ Try.f21 = some c_spec_TreeBuild := by kernel_rfl
def c_laws_toIntS_b0 : IC :=
  (.seq (.seq (.reg false [⟨some 8, none, .mov (.t 4)⟩,
      ⟨some 9, none, .mov (.t 0)⟩,
      ⟨some 10, none, .len (.t 9)⟩,
      ⟨some 11, none, .bin .lss (.t 8) (.t 10)⟩])
   (.cond (.t 11) .skip (.exit 0)))
  (.seq (.block 1 none none
   (.reg false [⟨some 14, none, .mov (.t 3)⟩,
      ⟨some 15, none, .mov (.t 4)⟩,
      ⟨some 16, none, .mov (.t 0)⟩,
      ⟨some 17, none, .mov (.t 4)⟩,
      ⟨some 18, none, .ixs (.t 16) (.t 17) 1⟩,
      ⟨some 19, none, .load1 (.t 18)⟩,
      ⟨some 20, none, .ixs (.t 14) (.t 15) 1⟩,
      ⟨none, none, .store (.t 20) (.t 19) 1⟩]))
  (.reg false [⟨some 12, none, .mov (.t 4)⟩,
    ⟨some 13, none, .bin .add (.t 12) (.k (.c (.int .i64 1)))⟩,
    ⟨some 4, none, .mov (.t 13)⟩])))
def c_laws_toIntS : IFn := ⟨22, [.t 2],
  (.seq (.reg false [⟨some 2, none, .mov (.k (.c .nils))⟩])
  (.seq (.reg false [⟨some 5, none, .mov (.t 0)⟩,
     ⟨some 6, none, .len (.t 5)⟩,
     ⟨some 7, none, .mks (.t 6) [.int .i64 0] 3 8⟩,
     ⟨some 3, none, .mov (.t 7)⟩])
  (.seq (.seq (.reg false [⟨some 4, none, .mov (.k (.c (.int .i64 0)))⟩])
   (.block 0 (some [0, 3, 4]) (some [3])
   (.loop c_laws_toIntS_b0)))
  (.seq (.reg false [⟨some 21, none, .mov (.t 3)⟩,
     ⟨some 2, none, .mov (.t 21)⟩])
  (.ret (some [2]))))))⟩
theorem c_laws_toIntS_ok : trF Try.prog ⟨[(0, [0, 3, 4], [3])], [2], false⟩ Try.f22 = some c_laws_toIntS := by kernel_rfl
def c_impl_TreeBuild_b0 : IC :=
  (.seq (.reg false [⟨some 10, none, .bin .lss (.t 9) (.t 8)⟩])
  (.seq (.cond (.t 10) .skip (.exit 0))
  (.seq (.block 1 none none
   (.seq (.reg false [⟨some 11, none, .mov (.t 9)⟩,
       ⟨some 12, none, .ixs (.t 7) (.t 9) 1⟩,
       ⟨some 13, none, .load1 (.t 12)⟩,
       ⟨some 4, none, .mov (.t 11)⟩,
       ⟨some 5, none, .mov (.t 13)⟩])
    (.seq (.reg false [⟨some 14, none, .mov (.t 4)⟩,
       ⟨some 15, none, .bin .geq (.t 14) (.k (.c (.int .i64 16)))⟩,
       ⟨some 16, none, .mov (.t 15)⟩,
       ⟨some 17, some (16, false), .mov (.t 5)⟩,
       ⟨some 18, some (16, false), .call 50 [.t 17]⟩,
       ⟨some 19, some (16, false), .un .not (.t 18)⟩,
       ⟨some 20, none, .pick (.t 16) (.k (.c (.bool true))) (.t 19)⟩,
       ⟨some 21, none, .mov (.t 20)⟩,
       ⟨some 22, some (21, false), .mov (.t 4)⟩,
       ⟨some 23, some (21, false), .bin .gtr (.t 22) (.k (.c (.int .i64 0)))⟩,
       ⟨some 24, some (21, false), .mov (.t 23)⟩,
       ⟨some 25, some (24, true), .mov (.t 0)⟩,
       ⟨some 26, some (24, true), .mov (.t 4)⟩,
       ⟨some 27, some (24, true), .bin .sub (.t 26) (.k (.c (.int .i64 1)))⟩,
       ⟨some 28, some (24, true), .ixs (.t 25) (.t 27) 1⟩,
       ⟨some 29, some (24, true), .load1 (.t 28)⟩,
       ⟨some 30, some (24, true), .mov (.t 5)⟩,
       ⟨some 31, some (24, true), .bin .geq (.t 29) (.t 30)⟩,
       ⟨some 32, some (21, false), .pick (.t 24) (.t 31) (.k (.c (.bool false)))⟩,
       ⟨some 33, none, .pick (.t 21) (.k (.c (.bool true))) (.t 32)⟩])
    (.cond (.t 33) (.seq (.reg false [⟨some 34, none, .call 58 []⟩,
        ⟨none, none, .store (.t 2) (.t 34) 65⟩,
        ⟨some 3, none, .mov (.k (.c (.bool false)))⟩])
     (.ret (some [2, 3]))) .skip))))
  (.reg false [⟨some 35, none, .bin .add (.t 9) (.k (.c (.int .i64 1)))⟩,
    ⟨some 9, none, .mov (.t 35)⟩]))))
def c_impl_TreeBuild : IFn := ⟨44, [.cell 2 65 true, .t 3],
  (.seq (.reg false [⟨some 2, none, .alloc [.bool false, .int .i64 0, .int .i64 0, .int .i64 0, .bool false, .int .i64 0, .int .i64 0, .int .i64 0, .bool false, .int .i64 0, .int .i64 0, .int .i64 0, .bool false, .int .i64 0, .int .i64 0, .int .i64 0, .bool false, .int .i64 0, .int .i64 0, .int .i64 0, .bool false, .int .i64 0, .int .i64 0, .int .i64 0, .bool false, .int .i64 0, .int .i64 0, .int .i64 0, .bool false, .int .i64 0, .int .i64 0, .int .i64 0, .bool false, .int .i64 0, .int .i64 0, .int .i64 0, .bool false, .int .i64 0, .int .i64 0, .int .i64 0, .bool false, .int .i64 0, .int .i64 0, .int .i64 0, .bool false, .int .i64 0, .int .i64 0, .int .i64 0, .bool false, .int .i64 0, .int .i64 0, .int .i64 0, .bool false, .int .i64 0, .int .i64 0, .int .i64 0, .bool false, .int .i64 0, .int .i64 0, .int .i64 0, .bool false, .int .i64 0, .int .i64 0, .int .i64 0, .int .i64 0] 43⟩,
     ⟨some 3, none, .mov (.k (.c (.bool false)))⟩])
  (.seq (.seq (.reg false [⟨some 7, none, .mov (.t 0)⟩,
      ⟨some 8, none, .len (.t 7)⟩,
      ⟨some 9, none, .mov (.k (.c (.int .i64 0)))⟩])
   (.block 0 (some [0, 2, 7, 8, 9]) (some [0, 2])
   (.loop c_impl_TreeBuild_b0)))
  (.seq (.reg false [⟨some 36, none, .call 58 []⟩,
     ⟨some 6, none, .alloc [.bool false, .int .i64 0, .int .i64 0, .int .i64 0, .bool false, .int .i64 0, .int .i64 0, .int .i64 0, .bool false, .int .i64 0, .int .i64 0, .int .i64 0, .bool false, .int .i64 0, .int .i64 0, .int .i64 0, .bool false, .int .i64 0, .int .i64 0, .int .i64 0, .bool false, .int .i64 0, .int .i64 0, .int .i64 0, .bool false, .int .i64 0, .int .i64 0, .int .i64 0, .bool false, .int .i64 0, .int .i64 0, .int .i64 0, .bool false, .int .i64 0, .int .i64 0, .int .i64 0, .bool false, .int .i64 0, .int .i64 0, .int .i64 0, .bool false, .int .i64 0, .int .i64 0, .int .i64 0, .bool false, .int .i64 0, .int .i64 0, .int .i64 0, .bool false, .int .i64 0, .int .i64 0, .int .i64 0, .bool false, .int .i64 0, .int .i64 0, .int .i64 0, .bool false, .int .i64 0, .int .i64 0, .int .i64 0, .bool false, .int .i64 0, .int .i64 0, .int .i64 0, .int .i64 0] 43⟩,
     ⟨none, none, .store (.t 6) (.t 36) 65⟩])
  (.seq (.reg false [⟨some 38, none, .mov (.t 0)⟩,
     ⟨some 39, none, .call 59 [.t 6, .t 38, .k (.c (.int .i64 0))]⟩,
     ⟨some 37, none, .mov (.t 39)⟩,
     ⟨some 40, none, .ext (.t 37) 0⟩,
     ⟨some 41, none, .ext (.t 37) 1⟩,
     ⟨some 42, none, .fld (.t 6) 64⟩,
     ⟨none, none, .store (.t 42) (.t 40) 1⟩])
  (.seq (.reg false [⟨some 43, none, .loadN (.t 6) 65⟩,
     ⟨none, none, .store (.t 2) (.t 43) 65⟩,
     ⟨some 3, none, .mov (.k (.c (.bool true)))⟩])
  (.ret (some [2, 3])))))))⟩
theorem c_impl_TreeBuild_ok : trF Try.prog ⟨[(0, [0, 2, 7, 8, 9], [0, 2])], [2, 3], false⟩ Try.f23 = some c_impl_TreeBuild := by kernel_rfl
def c_laws_eqTree : IFn := ⟨16, [.t 4],
  (.seq (.reg false [⟨some 2, none, .box (.t 0) 43⟩,
     ⟨some 3, none, .box (.t 1) 43⟩,
     ⟨some 4, none, .mov (.k (.c (.bool false)))⟩])
  (.seq (.seq (.reg false [⟨some 5, none, .fld (.t 2) 0⟩,
      ⟨some 6, none, .loadN (.t 5) 64⟩,
      ⟨some 7, none, .fld (.t 3) 0⟩,
      ⟨some 8, none, .loadN (.t 7) 64⟩,
      ⟨some 9, none, .call 60 [.t 6, .t 8]⟩,
      ⟨some 10, none, .un .not (.t 9)⟩])
   (.cond (.t 10) (.seq (.reg false [⟨some 4, none, .mov (.k (.c (.bool false)))⟩])
    (.ret (some [4]))) .skip))
  (.seq (.seq (.reg false [⟨some 11, none, .fld (.t 2) 64⟩,
      ⟨some 12, none, .load1 (.t 11)⟩,
      ⟨some 13, none, .fld (.t 3) 64⟩,
      ⟨some 14, none, .load1 (.t 13)⟩,
      ⟨some 15, none, .bin .neq (.t 12) (.t 14)⟩])
   (.cond (.t 15) (.seq (.reg false [⟨some 4, none, .mov (.k (.c (.bool false)))⟩])
    (.ret (some [4]))) .skip))
  (.seq (.reg false [⟨some 4, none, .mov (.k (.c (.bool true)))⟩])
  (.ret (some [4]))))))⟩
theorem c_laws_eqTree_ok : trF Try.prog ⟨[], [4], false⟩ Try.f24 = some c_laws_eqTree := by kernel_rfl
def c_laws_eqIntS_b0 : IC :=
  (.seq (.seq (.reg false [⟨some 11, none, .mov (.t 5)⟩,
      ⟨some 12, none, .mov (.t 0)⟩,
      ⟨some 13, none, .len (.t 12)⟩,
      ⟨some 14, none, .bin .lss (.t 11) (.t 13)⟩])
   (.cond (.t 14) .skip (.exit 0)))
  (.seq (.block 1 none none
   (.seq (.reg true [⟨some 17, none, .mov (.t 0)⟩,
       ⟨some 18, none, .mov (.t 5)⟩,
       ⟨some 19, none, .ixs (.t 17) (.t 18) 1⟩,
       ⟨some 20, none, .load1 (.t 19)⟩,
       ⟨some 21, none, .mov (.t 1)⟩,
       ⟨some 22, none, .mov (.t 5)⟩,
       ⟨some 23, none, .ixs (.t 21) (.t 22) 1⟩,
       ⟨some 24, none, .load1 (.t 23)⟩,
       ⟨some 25, none, .bin .neq (.t 20) (.t 24)⟩])
    (.cond (.t 25) (.seq (.reg false [⟨some 4, none, .mov (.k (.c (.bool false)))⟩])
     (.ret (some [4]))) .skip)))
  (.reg false [⟨some 15, none, .mov (.t 5)⟩,
    ⟨some 16, none, .bin .add (.t 15) (.k (.c (.int .i64 1)))⟩,
    ⟨some 5, none, .mov (.t 16)⟩])))
def c_laws_eqIntS : IFn := ⟨26, [.t 4],
  (.seq (.reg false [⟨some 4, none, .mov (.k (.c (.bool false)))⟩])
  (.seq (.seq (.reg false [⟨some 6, none, .mov (.t 0)⟩,
      ⟨some 7, none, .len (.t 6)⟩,
      ⟨some 8, none, .mov (.t 1)⟩,
      ⟨some 9, none, .len (.t 8)⟩,
      ⟨some 10, none, .bin .neq (.t 7) (.t 9)⟩])
   (.cond (.t 10) (.seq (.reg false [⟨some 4, none, .mov (.k (.c (.bool false)))⟩])
    (.ret (some [4]))) .skip))
  (.seq (.seq (.reg false [⟨some 5, none, .mov (.k (.c (.int .i64 0)))⟩])
   (.block 0 (some [0, 1, 5]) (some [])
   (.loop c_laws_eqIntS_b0)))
  (.seq (.reg false [⟨some 4, none, .mov (.k (.c (.bool true)))⟩])
  (.ret (some [4]))))))⟩
theorem c_laws_eqIntS_ok : trF Try.prog ⟨[(0, [0, 1, 5], [])], [4], false⟩ Try.f25 = some c_laws_eqIntS := by kernel_rfl
def c_spec_TreeHigh : IFn := ⟨10, [.t 2],
  (.seq (.reg false [⟨some 1, none, .box (.t 0) 43⟩,
     ⟨some 2, none, .mov (.k (.c (.int .i64 0)))⟩])
  (.seq (.seq (.reg false [⟨some 3, none, .loadN (.t 1) 65⟩,
      ⟨some 4, none, .call 18 [.t 3]⟩,
      ⟨some 5, none, .un .not (.t 4)⟩])
   (.cond (.t 5) (.seq (.reg false [⟨some 2, none, .mov (.k (.c (.int .i64 (-1))))⟩])
    (.ret (some [2]))) .skip))
  (.seq (.reg false [⟨some 6, none, .loadN (.t 1) 65⟩,
     ⟨some 7, none, .fld (.t 1) 64⟩,
     ⟨some 8, none, .load1 (.t 7)⟩,
     ⟨some 9, none, .call 61 [.t 6, .t 8]⟩,
     ⟨some 2, none, .mov (.t 9)⟩])
  (.ret (some [2])))))⟩
theorem c_spec_TreeHigh_ok : trF Try.prog ⟨[], [2], false⟩ Try.f26 = some c_spec_TreeHigh := by kernel_rfl
def c_impl_TreeHigh : IFn := ⟨10, [.t 2],
  (.seq (.reg false [⟨some 1, none, .box (.t 0) 43⟩,
     ⟨some 2, none, .mov (.k (.c (.int .i64 0)))⟩])
  (.seq (.seq (.reg false [⟨some 3, none, .loadN (.t 1) 65⟩,
      ⟨some 4, none, .call 20 [.t 3]⟩,
      ⟨some 5, none, .un .not (.t 4)⟩])
   (.cond (.t 5) (.seq (.reg false [⟨some 2, none, .mov (.k (.c (.int .i64 (-1))))⟩])
    (.ret (some [2]))) .skip))
  (.seq (.reg false [⟨some 6, none, .loadN (.t 1) 65⟩,
     ⟨some 7, none, .fld (.t 1) 64⟩,
     ⟨some 8, none, .load1 (.t 7)⟩,
     ⟨some 9, none, .call 62 [.t 6, .t 8]⟩,
     ⟨some 2, none, .mov (.t 9)⟩])
  (.ret (some [2])))))⟩
theorem c_impl_TreeHigh_ok : trF Try.prog ⟨[], [2], false⟩ Try.f27 = some c_impl_TreeHigh := by kernel_rfl
def c_spec_MapPairs_b0 : IC :=
  (.seq (.seq (.reg false [⟨some 16, none, .mov (.t 6)⟩,
      ⟨some 17, none, .bin .neq (.t 16) (.k (.c (.int .i64 (-1))))⟩])
   (.cond (.t 17) .skip (.exit 0)))
  (.seq (.block 1 none none
   (.seq (.reg false [⟨some 23, none, .mov (.t 4)⟩,
       ⟨some 24, none, .mov (.t 6)⟩,
       ⟨some 25, none, .fld (.t 1) 0⟩,
       ⟨some 26, none, .ixa (.t 25) (.t 24) 16 4⟩,
       ⟨some 27, none, .fld (.t 26) 1⟩,
       ⟨some 28, none, .load1 (.t 27)⟩,
       ⟨some 29, none, .lit 1 1 [.int .i64 0] [(0, .t 28)] 3⟩,
       ⟨some 30, none, .app (.t 23) (.t 29) 3 1 8⟩,
       ⟨some 4, none, .mov (.t 30)⟩])
    (.reg false [⟨some 31, none, .mov (.t 5)⟩,
      ⟨some 32, none, .mov (.t 6)⟩,
      ⟨some 33, none, .fld (.t 1) 0⟩,
      ⟨some 34, none, .ixa (.t 33) (.t 32) 16 4⟩,
      ⟨some 35, none, .fld (.t 34) 2⟩,
      ⟨some 36, none, .load1 (.t 35)⟩,
      ⟨some 37, none, .lit 1 1 [.int .i64 0] [(0, .t 36)] 3⟩,
      ⟨some 38, none, .app (.t 31) (.t 37) 3 1 8⟩,
      ⟨some 5, none, .mov (.t 38)⟩])))
  (.reg false [⟨some 18, none, .mov (.t 6)⟩,
    ⟨some 19, none, .fld (.t 1) 0⟩,
    ⟨some 20, none, .ixa (.t 19) (.t 18) 16 4⟩,
    ⟨some 21, none, .fld (.t 20) 3⟩,
    ⟨some 22, none, .load1 (.t 21)⟩,
    ⟨some 6, none, .mov (.t 22)⟩])))
def c_spec_MapPairs : IFn := ⟨41, [.t 2, .t 3],
  (.seq (.reg false [⟨some 1, none, .box (.t 0) 31⟩,
     ⟨some 2, none, .mov (.k (.c .nils))⟩,
     ⟨some 3, none, .mov (.k (.c .nils))⟩])
  (.seq (.reg false [⟨some 7, none, .lit 0 1 [.int .i64 0] [] 3⟩,
     ⟨some 8, none, .lit 0 1 [.int .i64 0] [] 3⟩,
     ⟨some 4, none, .mov (.t 7)⟩,
     ⟨some 5, none, .mov (.t 8)⟩])
  (.seq (.seq (.reg false [⟨some 9, none, .loadN (.t 1) 65⟩,
      ⟨some 10, none, .call 15 [.t 9]⟩,
      ⟨some 11, none, .un .not (.t 10)⟩])
   (.cond (.t 11) (.seq (.reg false [⟨some 12, none, .mov (.t 4)⟩,
       ⟨some 13, none, .mov (.t 5)⟩,
       ⟨some 2, none, .mov (.t 12)⟩,
       ⟨some 3, none, .mov (.t 13)⟩])
    (.ret (some [2, 3]))) .skip))
  (.seq (.seq (.reg false [⟨some 14, none, .fld (.t 1) 64⟩,
      ⟨some 15, none, .load1 (.t 14)⟩,
      ⟨some 6, none, .mov (.t 15)⟩])
   (.block 0 (some [1, 4, 5, 6]) (some [4, 5])
   (.loop c_spec_MapPairs_b0)))
  (.seq (.reg false [⟨some 39, none, .mov (.t 4)⟩,
     ⟨some 40, none, .mov (.t 5)⟩,
     ⟨some 2, none, .mov (.t 39)⟩,
     ⟨some 3, none, .mov (.t 40)⟩])
  (.ret (some [2, 3])))))))⟩
theorem c_spec_MapPairs_ok : trF Try.prog ⟨[(0, [1, 4, 5, 6], [4, 5])], [2, 3], false⟩ Try.f28 = some c_spec_MapPairs := by kernel_rfl
def c_impl_MapPairs_b0 : IC :=
  (.seq (.seq (.reg false [⟨some 16, none, .mov (.t 6)⟩,
      ⟨some 17, none, .bin .neq (.t 16) (.k (.c (.int .i64 (-1))))⟩])
   (.cond (.t 17) .skip (.exit 0)))
  (.seq (.block 1 none none
   (.regE 2 [⟨⟨some 23, none, .mov (.t 4)⟩, 0, 0, false, []⟩,
      ⟨⟨some 24, none, .mov (.t 6)⟩, 1, 0, false, []⟩,
      ⟨⟨some 25, none, .fld (.t 1) 0⟩, 2, 0, false, []⟩,
      ⟨⟨some 26, none, .ixa (.t 25) (.t 24) 16 4⟩, 3, 0, false, []⟩,
      ⟨⟨some 27, none, .fld (.t 26) 1⟩, 4, 0, false, []⟩,
      ⟨⟨some 28, none, .load1 (.t 27)⟩, 5, 0, false, []⟩,
      ⟨⟨some 29, none, .lit 1 1 [.int .i64 0] [(0, .t 28)] 3⟩, 6, 0, false, []⟩,
      ⟨⟨some 30, none, .app (.t 23) (.t 29) 3 1 8⟩, 7, 1, false, []⟩,
      ⟨⟨some 31, none, .mov (.t 5)⟩, 8, 1, false, []⟩,
      ⟨⟨some 32, none, .mov (.t 6)⟩, 9, 1, false, []⟩,
      ⟨⟨some 33, none, .fld (.t 1) 0⟩, 10, 1, false, [6, 7]⟩,
      ⟨⟨some 34, none, .ixa (.t 33) (.t 32) 16 4⟩, 11, 1, false, [6, 7]⟩,
      ⟨⟨some 35, none, .fld (.t 34) 2⟩, 12, 1, false, [6, 7]⟩,
      ⟨⟨some 36, none, .load1 (.t 35)⟩, 13, 1, false, [6, 7]⟩,
      ⟨⟨some 37, none, .lit 1 1 [.int .i64 0] [(0, .t 36)] 3⟩, 14, 1, false, [2, 3, 4, 5, 6, 7]⟩,
      ⟨⟨some 38, none, .app (.t 31) (.t 37) 3 1 8⟩, 15, 2, false, []⟩,
      ⟨⟨some 4, none, .mov (.t 30)⟩, 16, 2, false, []⟩,
      ⟨⟨some 5, none, .mov (.t 38)⟩, 17, 2, false, []⟩]))
  (.reg false [⟨some 18, none, .mov (.t 6)⟩,
    ⟨some 19, none, .fld (.t 1) 0⟩,
    ⟨some 20, none, .ixa (.t 19) (.t 18) 16 4⟩,
    ⟨some 21, none, .fld (.t 20) 3⟩,
    ⟨some 22, none, .load1 (.t 21)⟩,
    ⟨some 6, none, .mov (.t 22)⟩])))
def c_impl_MapPairs : IFn := ⟨41, [.t 2, .t 3],
  (.seq (.reg false [⟨some 1, none, .box (.t 0) 31⟩,
     ⟨some 2, none, .mov (.k (.c .nils))⟩,
     ⟨some 3, none, .mov (.k (.c .nils))⟩])
  (.seq (.reg false [⟨some 7, none, .lit 0 1 [.int .i64 0] [] 3⟩,
     ⟨some 8, none, .lit 0 1 [.int .i64 0] [] 3⟩,
     ⟨some 4, none, .mov (.t 7)⟩,
     ⟨some 5, none, .mov (.t 8)⟩])
  (.seq (.seq (.reg false [⟨some 9, none, .loadN (.t 1) 65⟩,
      ⟨some 10, none, .call 17 [.t 9]⟩,
      ⟨some 11, none, .un .not (.t 10)⟩])
   (.cond (.t 11) (.seq (.reg false [⟨some 12, none, .mov (.t 4)⟩,
       ⟨some 13, none, .mov (.t 5)⟩,
       ⟨some 2, none, .mov (.t 12)⟩,
       ⟨some 3, none, .mov (.t 13)⟩])
    (.ret (some [2, 3]))) .skip))
  (.seq (.seq (.reg false [⟨some 14, none, .fld (.t 1) 64⟩,
      ⟨some 15, none, .load1 (.t 14)⟩,
      ⟨some 6, none, .mov (.t 15)⟩])
   (.block 0 (some [1, 4, 5, 6]) (some [4, 5])
   (.loop c_impl_MapPairs_b0)))
  (.seq (.reg false [⟨some 39, none, .mov (.t 4)⟩,
     ⟨some 40, none, .mov (.t 5)⟩,
     ⟨some 2, none, .mov (.t 39)⟩,
     ⟨some 3, none, .mov (.t 40)⟩])
  (.ret (some [2, 3])))))))⟩
theorem c_impl_MapPairs_ok : trF Try.prog ⟨[(0, [1, 4, 5, 6], [4, 5])], [2, 3], false⟩ Try.f29 = some c_impl_MapPairs := by kernel_rfl
def c_laws_markIntS_b0 : IC :=
  (.seq (.seq (.reg false [⟨some 6, none, .mov (.t 5)⟩,
      ⟨some 7, none, .mov (.t 0)⟩,
      ⟨some 8, none, .len (.t 7)⟩,
      ⟨some 9, none, .bin .lss (.t 6) (.t 8)⟩])
   (.cond (.t 9) .skip (.exit 0)))
  (.seq (.block 1 none none
   (.seq (.reg false [⟨some 12, none, .mov (.t 0)⟩,
       ⟨some 13, none, .mov (.t 5)⟩,
       ⟨some 14, none, .mov (.t 1)⟩,
       ⟨some 15, none, .ixs (.t 12) (.t 13) 1⟩,
       ⟨none, none, .store (.t 15) (.t 14) 1⟩])
    (.reg false [⟨some 16, none, .mov (.t 1)⟩,
      ⟨some 17, none, .bin .add (.t 16) (.k (.c (.int .i64 1)))⟩,
      ⟨some 1, none, .mov (.t 17)⟩])))
  (.reg false [⟨some 10, none, .mov (.t 5)⟩,
    ⟨some 11, none, .bin .add (.t 10) (.k (.c (.int .i64 1)))⟩,
    ⟨some 5, none, .mov (.t 11)⟩])))
def c_laws_markIntS : IFn := ⟨19, [.t 4],
  (.seq (.reg false [⟨some 4, none, .mov (.k (.c (.int .i64 0)))⟩])
  (.seq (.seq (.reg false [⟨some 5, none, .mov (.k (.c (.int .i64 0)))⟩])
   (.block 0 (some [0, 1, 5]) (some [1])
   (.loop c_laws_markIntS_b0)))
  (.seq (.reg false [⟨some 18, none, .mov (.t 1)⟩,
     ⟨some 4, none, .mov (.t 18)⟩])
  (.ret (some [4])))))⟩
theorem c_laws_markIntS_ok : trF Try.prog ⟨[(0, [0, 1, 5], [1])], [4], false⟩ Try.f30 = some c_laws_markIntS := by kernel_rfl
def c_laws_heldIntS_b0 : IC :=
  (.seq (.seq (.reg false [⟨some 6, none, .mov (.t 5)⟩,
      ⟨some 7, none, .mov (.t 0)⟩,
      ⟨some 8, none, .len (.t 7)⟩,
      ⟨some 9, none, .bin .lss (.t 6) (.t 8)⟩])
   (.cond (.t 9) .skip (.exit 0)))
  (.seq (.block 1 none none
   (.seq (.seq (.reg false [⟨some 12, none, .mov (.t 0)⟩,
        ⟨some 13, none, .mov (.t 5)⟩,
        ⟨some 14, none, .ixs (.t 12) (.t 13) 1⟩,
        ⟨some 15, none, .load1 (.t 14)⟩,
        ⟨some 16, none, .mov (.t 1)⟩,
        ⟨some 17, none, .bin .neq (.t 15) (.t 16)⟩])
     (.cond (.t 17) (.seq (.reg false [⟨some 4, none, .mov (.k (.c (.int .i64 (-1))))⟩])
      (.ret (some [4]))) .skip))
    (.reg false [⟨some 18, none, .mov (.t 1)⟩,
      ⟨some 19, none, .bin .add (.t 18) (.k (.c (.int .i64 1)))⟩,
      ⟨some 1, none, .mov (.t 19)⟩])))
  (.reg false [⟨some 10, none, .mov (.t 5)⟩,
    ⟨some 11, none, .bin .add (.t 10) (.k (.c (.int .i64 1)))⟩,
    ⟨some 5, none, .mov (.t 11)⟩])))
def c_laws_heldIntS : IFn := ⟨21, [.t 4],
  (.seq (.reg false [⟨some 4, none, .mov (.k (.c (.int .i64 0)))⟩])
  (.seq (.seq (.reg false [⟨some 5, none, .mov (.k (.c (.int .i64 0)))⟩])
   (.block 0 (some [0, 1, 5]) (some [1])
   (.loop c_laws_heldIntS_b0)))
  (.seq (.reg false [⟨some 20, none, .mov (.t 1)⟩,
     ⟨some 4, none, .mov (.t 20)⟩])
  (.ret (some [4])))))⟩
theorem c_laws_heldIntS_ok : trF Try.prog ⟨[(0, [0, 1, 5], [1])], [4], false⟩ Try.f31 = some c_laws_heldIntS := by kernel_rfl
def c_spec_MapGet : IFn := ⟨48, [.t 4, .t 5, .t 6],
  (.seq (.reg false [⟨some 2, none, .box (.t 0) 31⟩,
     ⟨some 4, none, .mov (.k (.c (.int .i64 0)))⟩,
     ⟨some 5, none, .mov (.k (.c (.int .i64 0)))⟩,
     ⟨some 6, none, .mov (.k (.c (.int .i64 0)))⟩])
  (.seq (.seq (.reg false [⟨some 11, none, .loadN (.t 2) 65⟩,
      ⟨some 12, none, .call 15 [.t 11]⟩,
      ⟨some 13, none, .un .not (.t 12)⟩,
      ⟨some 14, none, .mov (.t 13)⟩,
      ⟨some 15, some (14, false), .mov (.t 1)⟩,
      ⟨some 16, some (14, false), .call 47 [.t 15]⟩,
      ⟨some 17, some (14, false), .un .not (.t 16)⟩,
      ⟨some 18, none, .pick (.t 14) (.k (.c (.bool true))) (.t 17)⟩])
   (.cond (.t 18) (.seq (.reg false [⟨some 4, none, .mov (.k (.c (.int .i64 0)))⟩,
       ⟨some 5, none, .mov (.k (.c (.int .i64 0)))⟩,
       ⟨some 6, none, .mov (.k (.c (.int .i64 1)))⟩])
    (.ret (some [4, 5, 6]))) .skip))
  (.seq (.reg false [⟨some 20, none, .loadN (.t 2) 65⟩,
     ⟨some 21, none, .mov (.t 1)⟩,
     ⟨some 22, none, .call 63 [.t 20, .t 21]⟩,
     ⟨some 19, none, .mov (.t 22)⟩,
     ⟨some 23, none, .ext (.t 19) 0⟩,
     ⟨some 24, none, .ext (.t 19) 1⟩,
     ⟨some 25, none, .ext (.t 19) 2⟩,
     ⟨some 26, none, .ext (.t 19) 3⟩,
     ⟨some 7, none, .mov (.t 23)⟩,
     ⟨some 8, none, .mov (.t 24)⟩,
     ⟨some 9, none, .mov (.t 25)⟩,
     ⟨some 10, none, .mov (.t 26)⟩])
  (.seq (.seq (.reg false [⟨some 27, none, .mov (.t 10)⟩,
      ⟨some 28, none, .un .not (.t 27)⟩])
   (.cond (.t 28) (.seq (.reg false [⟨some 29, none, .mov (.t 9)⟩,
       ⟨some 4, none, .mov (.k (.c (.int .i64 0)))⟩,
       ⟨some 5, none, .mov (.t 29)⟩,
       ⟨some 6, none, .mov (.k (.c (.int .i64 2)))⟩])
    (.ret (some [4, 5, 6]))) .skip))
  (.seq (.seq (.reg false [⟨some 30, none, .mov (.t 7)⟩,
      ⟨some 31, none, .bin .lss (.t 30) (.k (.c (.int .i64 0)))⟩,
      ⟨some 32, none, .mov (.t 31)⟩,
      ⟨some 33, some (32, false), .mov (.t 7)⟩,
      ⟨some 34, some (32, false), .fld (.t 2) 0⟩,
      ⟨some 35, some (32, false), .ixa (.t 34) (.t 33) 16 4⟩,
      ⟨some 36, some (32, false), .fld (.t 35) 1⟩,
      ⟨some 37, some (32, false), .load1 (.t 36)⟩,
      ⟨some 38, some (32, false), .mov (.t 1)⟩,
      ⟨some 39, some (32, false), .bin .neq (.t 37) (.t 38)⟩,
      ⟨some 40, none, .pick (.t 32) (.k (.c (.bool true))) (.t 39)⟩])
   (.cond (.t 40) (.seq (.reg false [⟨some 41, none, .mov (.t 9)⟩,
       ⟨some 4, none, .mov (.k (.c (.int .i64 0)))⟩,
       ⟨some 5, none, .mov (.t 41)⟩,
       ⟨some 6, none, .mov (.k (.c (.int .i64 4)))⟩])
    (.ret (some [4, 5, 6]))) .skip))
  (.seq (.reg false [⟨some 42, none, .mov (.t 7)⟩,
     ⟨some 43, none, .fld (.t 2) 0⟩,
     ⟨some 44, none, .ixa (.t 43) (.t 42) 16 4⟩,
     ⟨some 45, none, .fld (.t 44) 2⟩,
     ⟨some 46, none, .load1 (.t 45)⟩,
     ⟨some 47, none, .mov (.t 9)⟩,
     ⟨some 4, none, .mov (.t 46)⟩,
     ⟨some 5, none, .mov (.t 47)⟩,
     ⟨some 6, none, .mov (.k (.c (.int .i64 0)))⟩])
  (.ret (some [4, 5, 6]))))))))⟩
theorem c_spec_MapGet_ok : trF Try.prog ⟨[], [4, 5, 6], false⟩ Try.f32 = some c_spec_MapGet := by kernel_rfl
def c_impl_MapGet : IFn := ⟨44, [.t 4, .t 5, .t 6],
  (.seq (.reg false [⟨some 2, none, .box (.t 0) 31⟩,
     ⟨some 4, none, .mov (.k (.c (.int .i64 0)))⟩,
     ⟨some 5, none, .mov (.k (.c (.int .i64 0)))⟩,
     ⟨some 6, none, .mov (.k (.c (.int .i64 0)))⟩])
  (.seq (.seq (.reg false [⟨some 11, none, .loadN (.t 2) 65⟩,
      ⟨some 12, none, .call 17 [.t 11]⟩,
      ⟨some 13, none, .un .not (.t 12)⟩,
      ⟨some 14, none, .mov (.t 13)⟩,
      ⟨some 15, some (14, false), .mov (.t 1)⟩,
      ⟨some 16, some (14, false), .call 50 [.t 15]⟩,
      ⟨some 17, some (14, false), .un .not (.t 16)⟩,
      ⟨some 18, none, .pick (.t 14) (.k (.c (.bool true))) (.t 17)⟩])
   (.cond (.t 18) (.seq (.reg false [⟨some 4, none, .mov (.k (.c (.int .i64 0)))⟩,
       ⟨some 5, none, .mov (.k (.c (.int .i64 0)))⟩,
       ⟨some 6, none, .mov (.k (.c (.int .i64 1)))⟩])
    (.ret (some [4, 5, 6]))) .skip))
  (.seq (.reg false [⟨some 20, none, .loadN (.t 2) 65⟩,
     ⟨some 21, none, .mov (.t 1)⟩,
     ⟨some 22, none, .call 64 [.t 20, .t 21]⟩,
     ⟨some 19, none, .mov (.t 22)⟩,
     ⟨some 23, none, .ext (.t 19) 0⟩,
     ⟨some 24, none, .ext (.t 19) 1⟩,
     ⟨some 25, none, .ext (.t 19) 2⟩,
     ⟨some 26, none, .ext (.t 19) 3⟩,
     ⟨some 7, none, .mov (.t 23)⟩,
     ⟨some 8, none, .mov (.t 24)⟩,
     ⟨some 9, none, .mov (.t 25)⟩,
     ⟨some 10, none, .mov (.t 26)⟩])
  (.seq (.block 0 none none
   (.seq (.reg false [⟨some 28, none, .mov (.t 10)⟩,
       ⟨some 29, none, .un .not (.t 28)⟩,
       ⟨some 27, none, .mov (.t 29)⟩])
    (.cond (.t 27) (.seq (.reg false [⟨some 30, none, .mov (.t 9)⟩,
        ⟨some 4, none, .mov (.k (.c (.int .i64 0)))⟩,
        ⟨some 5, none, .mov (.t 30)⟩,
        ⟨some 6, none, .mov (.k (.c (.int .i64 2)))⟩])
     (.ret (some [4, 5, 6]))) (.seq (.reg false [⟨some 32, none, .loadN (.t 2) 65⟩,
        ⟨some 33, none, .mov (.t 8)⟩,
        ⟨some 34, none, .mov (.t 1)⟩,
        ⟨some 35, none, .call 65 [.t 32, .t 33, .t 34]⟩,
        ⟨some 36, none, .un .not (.t 35)⟩,
        ⟨some 31, none, .mov (.t 36)⟩])
     (.cond (.t 31) (.seq (.reg false [⟨some 37, none, .mov (.t 9)⟩,
         ⟨some 4, none, .mov (.k (.c (.int .i64 0)))⟩,
         ⟨some 5, none, .mov (.t 37)⟩,
         ⟨some 6, none, .mov (.k (.c (.int .i64 4)))⟩])
      (.ret (some [4, 5, 6]))) .skip)))))
  (.seq (.reg false [⟨some 38, none, .mov (.t 8)⟩,
     ⟨some 39, none, .fld (.t 2) 0⟩,
     ⟨some 40, none, .ixa (.t 39) (.t 38) 16 4⟩,
     ⟨some 41, none, .fld (.t 40) 2⟩,
     ⟨some 42, none, .load1 (.t 41)⟩,
     ⟨some 43, none, .mov (.t 9)⟩,
     ⟨some 4, none, .mov (.t 42)⟩,
     ⟨some 5, none, .mov (.t 43)⟩,
     ⟨some 6, none, .mov (.k (.c (.int .i64 0)))⟩])
  (.ret (some [4, 5, 6])))))))⟩
theorem c_impl_MapGet_ok : trF Try.prog ⟨[], [4, 5, 6], false⟩ Try.f33 = some c_impl_MapGet := by kernel_rfl
def c_spec_TreeKeys_b0 : IC :=
  (.seq (.seq (.reg false [⟨some 20, none, .mov (.t 6)⟩,
      ⟨some 21, none, .mov (.t 4)⟩,
      ⟨some 22, none, .len (.t 21)⟩,
      ⟨some 23, none, .bin .lss (.t 20) (.t 22)⟩])
   (.cond (.t 23) .skip (.exit 0)))
  (.seq (.block 1 none none
   (.reg false [⟨some 26, none, .mov (.t 3)⟩,
      ⟨some 27, none, .mov (.t 4)⟩,
      ⟨some 28, none, .mov (.t 6)⟩,
      ⟨some 29, none, .ixs (.t 27) (.t 28) 1⟩,
      ⟨some 30, none, .load1 (.t 29)⟩,
      ⟨some 31, none, .fld (.t 1) 0⟩,
      ⟨some 32, none, .ixa (.t 31) (.t 30) 16 4⟩,
      ⟨some 33, none, .fld (.t 32) 1⟩,
      ⟨some 34, none, .load1 (.t 33)⟩,
      ⟨some 35, none, .lit 1 1 [.int .i64 0] [(0, .t 34)] 3⟩,
      ⟨some 36, none, .app (.t 26) (.t 35) 3 1 8⟩,
      ⟨some 3, none, .mov (.t 36)⟩]))
  (.reg false [⟨some 24, none, .mov (.t 6)⟩,
    ⟨some 25, none, .bin .add (.t 24) (.k (.c (.int .i64 1)))⟩,
    ⟨some 6, none, .mov (.t 25)⟩])))
def c_spec_TreeKeys : IFn := ⟨38, [.t 2],
  (.seq (.reg false [⟨some 1, none, .box (.t 0) 43⟩,
     ⟨some 2, none, .mov (.k (.c .nils))⟩])
  (.seq (.reg false [⟨some 7, none, .lit 0 1 [.int .i64 0] [] 3⟩,
     ⟨some 3, none, .mov (.t 7)⟩])
  (.seq (.seq (.reg false [⟨some 8, none, .loadN (.t 1) 65⟩,
      ⟨some 9, none, .call 18 [.t 8]⟩,
      ⟨some 10, none, .un .not (.t 9)⟩])
   (.cond (.t 10) (.seq (.reg false [⟨some 11, none, .mov (.t 3)⟩,
       ⟨some 2, none, .mov (.t 11)⟩])
    (.ret (some [2]))) .skip))
  (.seq (.reg false [⟨some 13, none, .loadN (.t 1) 65⟩,
     ⟨some 14, none, .fld (.t 1) 64⟩,
     ⟨some 15, none, .load1 (.t 14)⟩,
     ⟨some 16, none, .lit 0 1 [.int .i64 0] [] 3⟩,
     ⟨some 17, none, .call 52 [.t 13, .t 15, .t 16]⟩,
     ⟨some 12, none, .mov (.t 17)⟩,
     ⟨some 18, none, .ext (.t 12) 0⟩,
     ⟨some 19, none, .ext (.t 12) 1⟩,
     ⟨some 4, none, .mov (.t 18)⟩,
     ⟨some 5, none, .mov (.t 19)⟩])
  (.seq (.seq (.reg false [⟨some 6, none, .mov (.k (.c (.int .i64 0)))⟩])
   (.block 0 (some [1, 3, 4, 6]) (some [3])
   (.loop c_spec_TreeKeys_b0)))
  (.seq (.reg false [⟨some 37, none, .mov (.t 3)⟩,
     ⟨some 2, none, .mov (.t 37)⟩])
  (.ret (some [2]))))))))⟩
theorem c_spec_TreeKeys_ok : trF Try.prog ⟨[(0, [1, 3, 4, 6], [3])], [2], false⟩ Try.f34 = some c_spec_TreeKeys := by kernel_rfl
def c_impl_TreeKeys : IFn := ⟨11, [.t 2],
  (.seq (.reg false [⟨some 1, none, .box (.t 0) 43⟩,
     ⟨some 2, none, .mov (.k (.c .nils))⟩])
  (.seq (.seq (.reg false [⟨some 3, none, .loadN (.t 1) 65⟩,
      ⟨some 4, none, .call 20 [.t 3]⟩,
      ⟨some 5, none, .un .not (.t 4)⟩])
   (.cond (.t 5) (.seq (.reg false [⟨some 2, none, .mov (.k (.c .nils))⟩])
    (.ret (some [2]))) .skip))
  (.seq (.reg false [⟨some 6, none, .loadN (.t 1) 65⟩,
     ⟨some 7, none, .fld (.t 1) 64⟩,
     ⟨some 8, none, .load1 (.t 7)⟩,
     ⟨some 9, none, .lit 0 1 [.int .i64 0] [] 3⟩,
     ⟨some 10, none, .call 66 [.t 6, .t 8, .t 9]⟩,
     ⟨some 2, none, .mov (.t 10)⟩])
  (.ret (some [2])))))⟩
theorem c_impl_TreeKeys_ok : trF Try.prog ⟨[], [2], false⟩ Try.f35 = some c_impl_TreeKeys := by kernel_rfl
def c_spec_MapRange_b0 : IC :=
  (.seq (.seq (.reg false [⟨some 19, none, .mov (.t 10)⟩,
      ⟨some 20, none, .bin .neq (.t 19) (.k (.c (.int .i64 (-1))))⟩])
   (.cond (.t 20) .skip (.exit 0)))
  (.seq (.block 1 none none
   (.seq (.seq (.reg false [⟨some 26, none, .mov (.t 9)⟩,
        ⟨some 27, none, .bin .eql (.t 26) (.k (.c (.int .i64 10)))⟩])
     (.cond (.t 27) (.seq (.reg false [⟨some 28, none, .lit 0 1 [.int .i64 0] [] 3⟩,
         ⟨some 6, none, .mov (.t 28)⟩,
         ⟨some 7, none, .mov (.k (.c (.int .i64 2)))⟩])
      (.ret (some [6, 7]))) .skip))
    (.seq (.reg false [⟨some 29, none, .mov (.t 9)⟩,
       ⟨some 30, none, .bin .add (.t 29) (.k (.c (.int .i64 1)))⟩,
       ⟨some 9, none, .mov (.t 30)⟩])
    (.seq (.reg false [⟨some 31, none, .mov (.t 10)⟩,
       ⟨some 32, none, .fld (.t 3) 0⟩,
       ⟨some 33, none, .ixa (.t 32) (.t 31) 16 4⟩,
       ⟨some 34, none, .fld (.t 33) 1⟩,
       ⟨some 35, none, .load1 (.t 34)⟩,
       ⟨some 11, none, .mov (.t 35)⟩])
    (.seq (.seq (.reg false [⟨some 36, none, .mov (.t 11)⟩,
        ⟨some 37, none, .mov (.t 2)⟩,
        ⟨some 38, none, .bin .gtr (.t 36) (.t 37)⟩])
     (.cond (.t 38) (.exit 0) .skip))
    (.seq (.reg false [⟨some 39, none, .mov (.t 11)⟩,
       ⟨some 40, none, .mov (.t 1)⟩,
       ⟨some 41, none, .bin .geq (.t 39) (.t 40)⟩])
    (.cond (.t 41) (.reg false [⟨some 42, none, .mov (.t 8)⟩,
       ⟨some 43, none, .mov (.t 11)⟩,
       ⟨some 44, none, .lit 1 1 [.int .i64 0] [(0, .t 43)] 3⟩,
       ⟨some 45, none, .app (.t 42) (.t 44) 3 1 8⟩,
       ⟨some 8, none, .mov (.t 45)⟩]) .skip)))))))
  (.reg false [⟨some 21, none, .mov (.t 10)⟩,
    ⟨some 22, none, .fld (.t 3) 0⟩,
    ⟨some 23, none, .ixa (.t 22) (.t 21) 16 4⟩,
    ⟨some 24, none, .fld (.t 23) 3⟩,
    ⟨some 25, none, .load1 (.t 24)⟩,
    ⟨some 10, none, .mov (.t 25)⟩])))
def c_spec_MapRange : IFn := ⟨47, [.t 6, .t 7],
  (.seq (.reg false [⟨some 3, none, .box (.t 0) 31⟩,
     ⟨some 6, none, .mov (.k (.c .nils))⟩,
     ⟨some 7, none, .mov (.k (.c (.int .i64 0)))⟩])
  (.seq (.reg false [⟨some 12, none, .lit 0 1 [.int .i64 0] [] 3⟩,
     ⟨some 8, none, .mov (.t 12)⟩])
  (.seq (.seq (.reg false [⟨some 13, none, .loadN (.t 3) 65⟩,
      ⟨some 14, none, .call 15 [.t 13]⟩,
      ⟨some 15, none, .un .not (.t 14)⟩])
   (.cond (.t 15) (.seq (.reg false [⟨some 16, none, .mov (.t 8)⟩,
       ⟨some 6, none, .mov (.t 16)⟩,
       ⟨some 7, none, .mov (.k (.c (.int .i64 1)))⟩])
    (.ret (some [6, 7]))) .skip))
  (.seq (.reg false [⟨some 9, none, .mov (.k (.c (.int .i64 0)))⟩])
  (.seq (.seq (.reg false [⟨some 17, none, .fld (.t 3) 64⟩,
      ⟨some 18, none, .load1 (.t 17)⟩,
      ⟨some 10, none, .mov (.t 18)⟩])
   (.block 0 (some [1, 2, 3, 8, 9, 10]) (some [8])
   (.loop c_spec_MapRange_b0)))
  (.seq (.reg false [⟨some 46, none, .mov (.t 8)⟩,
     ⟨some 6, none, .mov (.t 46)⟩,
     ⟨some 7, none, .mov (.k (.c (.int .i64 0)))⟩])
  (.ret (some [6, 7]))))))))⟩
theorem c_spec_MapRange_ok : trF Try.prog ⟨[(0, [1, 2, 3, 8, 9, 10], [8])], [6, 7], false⟩ Try.f36 = some c_spec_MapRange := by kernel_rfl
def c_impl_MapRange_b0 : IC :=
  (.seq (.reg false [⟨some 25, none, .bin .lss (.t 24) (.t 23)⟩])
  (.seq (.cond (.t 25) .skip (.exit 0))
  (.seq (.block 1 none none
   (.seq (.reg false [⟨some 26, none, .mov (.t 24)⟩,
       ⟨some 27, none, .ixs (.t 22) (.t 24) 1⟩,
       ⟨some 28, none, .load1 (.t 27)⟩,
       ⟨some 11, none, .mov (.t 26)⟩,
       ⟨some 12, none, .mov (.t 28)⟩])
    (.seq (.seq (.reg false [⟨some 29, none, .mov (.t 11)⟩,
        ⟨some 30, none, .bin .eql (.t 29) (.k (.c (.int .i64 10)))⟩])
     (.cond (.t 30) (.seq (.reg false [⟨some 6, none, .mov (.k (.c .nils))⟩,
         ⟨some 7, none, .mov (.k (.c (.int .i64 2)))⟩])
      (.ret (some [6, 7]))) .skip))
    (.seq (.seq (.reg false [⟨some 31, none, .mov (.t 12)⟩,
        ⟨some 32, none, .mov (.t 2)⟩,
        ⟨some 33, none, .bin .gtr (.t 31) (.t 32)⟩])
     (.cond (.t 33) (.exit 0) .skip))
    (.seq (.reg false [⟨some 34, none, .mov (.t 12)⟩,
       ⟨some 35, none, .mov (.t 1)⟩,
       ⟨some 36, none, .bin .geq (.t 34) (.t 35)⟩])
    (.cond (.t 36) (.reg false [⟨some 37, none, .mov (.t 10)⟩,
       ⟨some 38, none, .mov (.t 12)⟩,
       ⟨some 39, none, .lit 1 1 [.int .i64 0] [(0, .t 38)] 3⟩,
       ⟨some 40, none, .app (.t 37) (.t 39) 3 1 8⟩,
       ⟨some 10, none, .mov (.t 40)⟩]) .skip))))))
  (.reg false [⟨some 41, none, .bin .add (.t 24) (.k (.c (.int .i64 1)))⟩,
    ⟨some 24, none, .mov (.t 41)⟩]))))
def c_impl_MapRange : IFn := ⟨43, [.t 6, .t 7],
  (.seq (.reg false [⟨some 3, none, .box (.t 0) 31⟩,
     ⟨some 6, none, .mov (.k (.c .nils))⟩,
     ⟨some 7, none, .mov (.k (.c (.int .i64 0)))⟩])
  (.seq (.reg false [⟨some 14, none, .loadN (.t 3) 65⟩,
     ⟨some 15, none, .call 29 [.t 14]⟩,
     ⟨some 13, none, .mov (.t 15)⟩,
     ⟨some 16, none, .ext (.t 13) 0⟩,
     ⟨some 17, none, .ext (.t 13) 1⟩,
     ⟨some 8, none, .mov (.t 16)⟩,
     ⟨some 9, none, .mov (.t 17)⟩])
  (.seq (.seq (.reg false [⟨some 18, none, .loadN (.t 3) 65⟩,
      ⟨some 19, none, .call 17 [.t 18]⟩,
      ⟨some 20, none, .un .not (.t 19)⟩])
   (.cond (.t 20) (.seq (.reg false [⟨some 6, none, .mov (.k (.c .nils))⟩,
       ⟨some 7, none, .mov (.k (.c (.int .i64 1)))⟩])
    (.ret (some [6, 7]))) .skip))
  (.seq (.reg false [⟨some 21, none, .lit 0 1 [.int .i64 0] [] 3⟩,
     ⟨some 10, none, .mov (.t 21)⟩])
  (.seq (.seq (.reg false [⟨some 22, none, .mov (.t 8)⟩,
      ⟨some 23, none, .len (.t 22)⟩,
      ⟨some 24, none, .mov (.k (.c (.int .i64 0)))⟩])
   (.block 0 (some [1, 2, 10, 22, 23, 24]) (some [10])
   (.loop c_impl_MapRange_b0)))
  (.seq (.reg false [⟨some 42, none, .mov (.t 10)⟩,
     ⟨some 6, none, .mov (.t 42)⟩,
     ⟨some 7, none, .mov (.k (.c (.int .i64 0)))⟩])
  (.ret (some [6, 7]))))))))⟩
theorem c_impl_MapRange_ok : trF Try.prog ⟨[(0, [1, 2, 10, 22, 23, 24], [10])], [6, 7], false⟩ Try.f37 = some c_impl_MapRange := by kernel_rfl
def c_spec_TreeFind : IFn := ⟨35, [.t 4, .t 5],
  (.seq (.reg false [⟨some 2, none, .box (.t 0) 43⟩,
     ⟨some 4, none, .mov (.k (.c (.int .i64 0)))⟩,
     ⟨some 5, none, .mov (.k (.c (.int .i64 0)))⟩])
  (.seq (.seq (.reg false [⟨some 9, none, .loadN (.t 2) 65⟩,
      ⟨some 10, none, .call 18 [.t 9]⟩,
      ⟨some 11, none, .un .not (.t 10)⟩,
      ⟨some 12, none, .mov (.t 11)⟩,
      ⟨some 13, some (12, false), .mov (.t 1)⟩,
      ⟨some 14, some (12, false), .call 47 [.t 13]⟩,
      ⟨some 15, some (12, false), .un .not (.t 14)⟩,
      ⟨some 16, none, .pick (.t 12) (.k (.c (.bool true))) (.t 15)⟩])
   (.cond (.t 16) (.seq (.reg false [⟨some 4, none, .mov (.k (.c (.int .i64 0)))⟩,
       ⟨some 5, none, .mov (.k (.c (.int .i64 1)))⟩])
    (.ret (some [4, 5]))) .skip))
  (.seq (.reg false [⟨some 18, none, .loadN (.t 2) 65⟩,
     ⟨some 19, none, .mov (.t 1)⟩,
     ⟨some 20, none, .call 67 [.t 18, .t 19]⟩,
     ⟨some 17, none, .mov (.t 20)⟩,
     ⟨some 21, none, .ext (.t 17) 0⟩,
     ⟨some 22, none, .ext (.t 17) 1⟩,
     ⟨some 23, none, .ext (.t 17) 2⟩,
     ⟨some 6, none, .mov (.t 21)⟩,
     ⟨some 7, none, .mov (.t 22)⟩,
     ⟨some 8, none, .mov (.t 23)⟩])
  (.seq (.block 0 none none
   (.seq (.reg false [⟨some 25, none, .mov (.t 8)⟩,
       ⟨some 26, none, .un .not (.t 25)⟩,
       ⟨some 24, none, .mov (.t 26)⟩])
    (.cond (.t 24) (.seq (.reg false [⟨some 27, none, .mov (.t 6)⟩,
        ⟨some 28, none, .len (.t 27)⟩,
        ⟨some 4, none, .mov (.t 28)⟩,
        ⟨some 5, none, .mov (.k (.c (.int .i64 2)))⟩])
     (.ret (some [4, 5]))) (.seq (.reg false [⟨some 30, none, .mov (.t 7)⟩,
        ⟨some 29, none, .mov (.t 30)⟩])
     (.cond (.t 29) (.seq (.reg false [⟨some 31, none, .mov (.t 6)⟩,
         ⟨some 32, none, .len (.t 31)⟩,
         ⟨some 4, none, .mov (.t 32)⟩,
         ⟨some 5, none, .mov (.k (.c (.int .i64 4)))⟩])
      (.ret (some [4, 5]))) .skip)))))
  (.seq (.reg false [⟨some 33, none, .mov (.t 6)⟩,
     ⟨some 34, none, .len (.t 33)⟩,
     ⟨some 4, none, .mov (.t 34)⟩,
     ⟨some 5, none, .mov (.k (.c (.int .i64 5)))⟩])
  (.ret (some [4, 5])))))))⟩
theorem c_spec_TreeFind_ok : trF Try.prog ⟨[], [4, 5], false⟩ Try.f38 = some c_spec_TreeFind := by kernel_rfl
def c_impl_TreeFind : IFn := ⟨34, [.t 4, .t 5],
  (.seq (.reg false [⟨some 2, none, .box (.t 0) 43⟩,
     ⟨some 4, none, .mov (.k (.c (.int .i64 0)))⟩,
     ⟨some 5, none, .mov (.k (.c (.int .i64 0)))⟩])
  (.seq (.seq (.reg false [⟨some 9, none, .loadN (.t 2) 65⟩,
      ⟨some 10, none, .call 20 [.t 9]⟩,
      ⟨some 11, none, .un .not (.t 10)⟩,
      ⟨some 12, none, .mov (.t 11)⟩,
      ⟨some 13, some (12, false), .mov (.t 1)⟩,
      ⟨some 14, some (12, false), .call 50 [.t 13]⟩,
      ⟨some 15, some (12, false), .un .not (.t 14)⟩,
      ⟨some 16, none, .pick (.t 12) (.k (.c (.bool true))) (.t 15)⟩])
   (.cond (.t 16) (.seq (.reg false [⟨some 4, none, .mov (.k (.c (.int .i64 0)))⟩,
       ⟨some 5, none, .mov (.k (.c (.int .i64 1)))⟩])
    (.ret (some [4, 5]))) .skip))
  (.seq (.reg false [⟨some 18, none, .mov (.t 1)⟩,
     ⟨some 19, none, .call 68 [.t 2, .t 18]⟩,
     ⟨some 17, none, .mov (.t 19)⟩,
     ⟨some 20, none, .ext (.t 17) 0⟩,
     ⟨some 21, none, .ext (.t 17) 1⟩,
     ⟨some 22, none, .ext (.t 17) 2⟩,
     ⟨some 6, none, .mov (.t 20)⟩,
     ⟨some 7, none, .mov (.t 21)⟩,
     ⟨some 8, none, .mov (.t 22)⟩])
  (.seq (.block 0 none none
   (.seq (.reg false [⟨some 24, none, .mov (.t 8)⟩,
       ⟨some 25, none, .un .not (.t 24)⟩,
       ⟨some 23, none, .mov (.t 25)⟩])
    (.cond (.t 23) (.seq (.reg false [⟨some 26, none, .mov (.t 7)⟩,
        ⟨some 4, none, .mov (.t 26)⟩,
        ⟨some 5, none, .mov (.k (.c (.int .i64 2)))⟩])
     (.ret (some [4, 5]))) (.seq (.reg false [⟨some 28, none, .mov (.t 6)⟩,
        ⟨some 29, none, .chk (.t 28)⟩,
        ⟨some 30, none, .load1 (.t 29)⟩,
        ⟨some 31, none, .bin .eql (.t 30) (.k (.c (.int .i64 (-1))))⟩,
        ⟨some 27, none, .mov (.t 31)⟩])
     (.cond (.t 27) (.seq (.reg false [⟨some 32, none, .mov (.t 7)⟩,
         ⟨some 4, none, .mov (.t 32)⟩,
         ⟨some 5, none, .mov (.k (.c (.int .i64 5)))⟩])
      (.ret (some [4, 5]))) .skip)))))
  (.seq (.reg false [⟨some 33, none, .mov (.t 7)⟩,
     ⟨some 4, none, .mov (.t 33)⟩,
     ⟨some 5, none, .mov (.k (.c (.int .i64 4)))⟩])
  (.ret (some [4, 5])))))))⟩
theorem c_impl_TreeFind_ok : trF Try.prog ⟨[], [4, 5], false⟩ Try.f39 = some c_impl_TreeFind := by kernel_rfl
def c_spec_MapDrop : IFn := ⟨68, [.cell 4 65 true, .t 5, .t 6],
  (.seq (.reg false [⟨some 2, none, .box (.t 0) 31⟩,
     ⟨some 4, none, .alloc [.bool false, .int .i64 0, .int .i64 0, .int .i64 0, .bool false, .int .i64 0, .int .i64 0, .int .i64 0, .bool false, .int .i64 0, .int .i64 0, .int .i64 0, .bool false, .int .i64 0, .int .i64 0, .int .i64 0, .bool false, .int .i64 0, .int .i64 0, .int .i64 0, .bool false, .int .i64 0, .int .i64 0, .int .i64 0, .bool false, .int .i64 0, .int .i64 0, .int .i64 0, .bool false, .int .i64 0, .int .i64 0, .int .i64 0, .bool false, .int .i64 0, .int .i64 0, .int .i64 0, .bool false, .int .i64 0, .int .i64 0, .int .i64 0, .bool false, .int .i64 0, .int .i64 0, .int .i64 0, .bool false, .int .i64 0, .int .i64 0, .int .i64 0, .bool false, .int .i64 0, .int .i64 0, .int .i64 0, .bool false, .int .i64 0, .int .i64 0, .int .i64 0, .bool false, .int .i64 0, .int .i64 0, .int .i64 0, .bool false, .int .i64 0, .int .i64 0, .int .i64 0, .int .i64 0] 31⟩,
     ⟨some 5, none, .mov (.k (.c (.int .i64 0)))⟩,
     ⟨some 6, none, .mov (.k (.c (.int .i64 0)))⟩])
  (.seq (.seq (.reg false [⟨some 11, none, .loadN (.t 2) 65⟩,
      ⟨some 12, none, .call 15 [.t 11]⟩,
      ⟨some 13, none, .un .not (.t 12)⟩,
      ⟨some 14, none, .mov (.t 13)⟩,
      ⟨some 15, some (14, false), .mov (.t 1)⟩,
      ⟨some 16, some (14, false), .call 47 [.t 15]⟩,
      ⟨some 17, some (14, false), .un .not (.t 16)⟩,
      ⟨some 18, none, .pick (.t 14) (.k (.c (.bool true))) (.t 17)⟩])
   (.cond (.t 18) (.seq (.reg false [⟨some 19, none, .loadN (.t 2) 65⟩,
       ⟨none, none, .store (.t 4) (.t 19) 65⟩,
       ⟨some 5, none, .mov (.k (.c (.int .i64 0)))⟩,
       ⟨some 6, none, .mov (.k (.c (.int .i64 1)))⟩])
    (.ret (some [4, 5, 6]))) .skip))
  (.seq (.reg false [⟨some 21, none, .loadN (.t 2) 65⟩,
     ⟨some 22, none, .mov (.t 1)⟩,
     ⟨some 23, none, .call 63 [.t 21, .t 22]⟩,
     ⟨some 20, none, .mov (.t 23)⟩,
     ⟨some 24, none, .ext (.t 20) 0⟩,
     ⟨some 25, none, .ext (.t 20) 1⟩,
     ⟨some 26, none, .ext (.t 20) 2⟩,
     ⟨some 27, none, .ext (.t 20) 3⟩,
     ⟨some 7, none, .mov (.t 24)⟩,
     ⟨some 8, none, .mov (.t 25)⟩,
     ⟨some 9, none, .mov (.t 26)⟩,
     ⟨some 10, none, .mov (.t 27)⟩])
  (.seq (.seq (.reg false [⟨some 28, none, .mov (.t 10)⟩,
      ⟨some 29, none, .un .not (.t 28)⟩])
   (.cond (.t 29) (.seq (.reg false [⟨some 30, none, .loadN (.t 2) 65⟩,
       ⟨some 31, none, .mov (.t 9)⟩,
       ⟨none, none, .store (.t 4) (.t 30) 65⟩,
       ⟨some 5, none, .mov (.t 31)⟩,
       ⟨some 6, none, .mov (.k (.c (.int .i64 2)))⟩])
    (.ret (some [4, 5, 6]))) .skip))
  (.seq (.seq (.reg false [⟨some 32, none, .mov (.t 7)⟩,
      ⟨some 33, none, .bin .lss (.t 32) (.k (.c (.int .i64 0)))⟩,
      ⟨some 34, none, .mov (.t 33)⟩,
      ⟨some 35, some (34, false), .mov (.t 7)⟩,
      ⟨some 36, some (34, false), .fld (.t 2) 0⟩,
      ⟨some 37, some (34, false), .ixa (.t 36) (.t 35) 16 4⟩,
      ⟨some 38, some (34, false), .fld (.t 37) 1⟩,
      ⟨some 39, some (34, false), .load1 (.t 38)⟩,
      ⟨some 40, some (34, false), .mov (.t 1)⟩,
      ⟨some 41, some (34, false), .bin .neq (.t 39) (.t 40)⟩,
      ⟨some 42, none, .pick (.t 34) (.k (.c (.bool true))) (.t 41)⟩])
   (.cond (.t 42) (.seq (.reg false [⟨some 43, none, .loadN (.t 2) 65⟩,
       ⟨some 44, none, .mov (.t 9)⟩,
       ⟨none, none, .store (.t 4) (.t 43) 65⟩,
       ⟨some 5, none, .mov (.t 44)⟩,
       ⟨some 6, none, .mov (.k (.c (.int .i64 4)))⟩])
    (.ret (some [4, 5, 6]))) .skip))
  (.seq (.seq (.reg false [⟨some 45, none, .mov (.t 8)⟩,
      ⟨some 46, none, .bin .lss (.t 45) (.k (.c (.int .i64 0)))⟩])
   (.cond (.t 46) (.reg false [⟨some 47, none, .mov (.t 7)⟩,
      ⟨some 48, none, .fld (.t 2) 0⟩,
      ⟨some 49, none, .ixa (.t 48) (.t 47) 16 4⟩,
      ⟨some 50, none, .fld (.t 49) 3⟩,
      ⟨some 51, none, .load1 (.t 50)⟩,
      ⟨some 52, none, .fld (.t 2) 64⟩,
      ⟨none, none, .store (.t 52) (.t 51) 1⟩]) (.reg false [⟨some 53, none, .mov (.t 8)⟩,
      ⟨some 54, none, .mov (.t 7)⟩,
      ⟨some 55, none, .fld (.t 2) 0⟩,
      ⟨some 56, none, .ixa (.t 55) (.t 54) 16 4⟩,
      ⟨some 57, none, .fld (.t 56) 3⟩,
      ⟨some 58, none, .load1 (.t 57)⟩,
      ⟨some 59, none, .fld (.t 2) 0⟩,
      ⟨some 60, none, .ixa (.t 59) (.t 53) 16 4⟩,
      ⟨some 61, none, .fld (.t 60) 3⟩,
      ⟨none, none, .store (.t 61) (.t 58) 1⟩])))
  (.seq (.reg false [⟨some 62, none, .mov (.t 7)⟩,
     ⟨some 63, none, .bld [.bool false, .int .i64 0, .int .i64 0, .int .i64 0] []⟩,
     ⟨some 64, none, .fld (.t 2) 0⟩,
     ⟨some 65, none, .ixa (.t 64) (.t 62) 16 4⟩,
     ⟨none, none, .store (.t 65) (.t 63) 4⟩])
  (.seq (.reg false [⟨some 66, none, .loadN (.t 2) 65⟩,
     ⟨some 67, none, .mov (.t 9)⟩,
     ⟨none, none, .store (.t 4) (.t 66) 65⟩,
     ⟨some 5, none, .mov (.t 67)⟩,
     ⟨some 6, none, .mov (.k (.c (.int .i64 0)))⟩])
  (.ret (some [4, 5, 6]))))))))))⟩
theorem c_spec_MapDrop_ok : trF Try.prog ⟨[], [4, 5, 6], false⟩ Try.f40 = some c_spec_MapDrop := by kernel_rfl
def c_impl_MapDrop : IFn := ⟨54, [.cell 4 65 true, .t 5, .t 6],
  (.seq (.reg false [⟨some 2, none, .box (.t 0) 31⟩,
     ⟨some 4, none, .alloc [.bool false, .int .i64 0, .int .i64 0, .int .i64 0, .bool false, .int .i64 0, .int .i64 0, .int .i64 0, .bool false, .int .i64 0, .int .i64 0, .int .i64 0, .bool false, .int .i64 0, .int .i64 0, .int .i64 0, .bool false, .int .i64 0, .int .i64 0, .int .i64 0, .bool false, .int .i64 0, .int .i64 0, .int .i64 0, .bool false, .int .i64 0, .int .i64 0, .int .i64 0, .bool false, .int .i64 0, .int .i64 0, .int .i64 0, .bool false, .int .i64 0, .int .i64 0, .int .i64 0, .bool false, .int .i64 0, .int .i64 0, .int .i64 0, .bool false, .int .i64 0, .int .i64 0, .int .i64 0, .bool false, .int .i64 0, .int .i64 0, .int .i64 0, .bool false, .int .i64 0, .int .i64 0, .int .i64 0, .bool false, .int .i64 0, .int .i64 0, .int .i64 0, .bool false, .int .i64 0, .int .i64 0, .int .i64 0, .bool false, .int .i64 0, .int .i64 0, .int .i64 0, .int .i64 0] 31⟩,
     ⟨some 5, none, .mov (.k (.c (.int .i64 0)))⟩,
     ⟨some 6, none, .mov (.k (.c (.int .i64 0)))⟩])
  (.seq (.seq (.reg false [⟨some 11, none, .loadN (.t 2) 65⟩,
      ⟨some 12, none, .call 17 [.t 11]⟩,
      ⟨some 13, none, .un .not (.t 12)⟩,
      ⟨some 14, none, .mov (.t 13)⟩,
      ⟨some 15, some (14, false), .mov (.t 1)⟩,
      ⟨some 16, some (14, false), .call 50 [.t 15]⟩,
      ⟨some 17, some (14, false), .un .not (.t 16)⟩,
      ⟨some 18, none, .pick (.t 14) (.k (.c (.bool true))) (.t 17)⟩])
   (.cond (.t 18) (.seq (.reg false [⟨some 19, none, .loadN (.t 2) 65⟩,
       ⟨none, none, .store (.t 4) (.t 19) 65⟩,
       ⟨some 5, none, .mov (.k (.c (.int .i64 0)))⟩,
       ⟨some 6, none, .mov (.k (.c (.int .i64 1)))⟩])
    (.ret (some [4, 5, 6]))) .skip))
  (.seq (.reg false [⟨some 21, none, .loadN (.t 2) 65⟩,
     ⟨some 22, none, .mov (.t 1)⟩,
     ⟨some 23, none, .call 64 [.t 21, .t 22]⟩,
     ⟨some 20, none, .mov (.t 23)⟩,
     ⟨some 24, none, .ext (.t 20) 0⟩,
     ⟨some 25, none, .ext (.t 20) 1⟩,
     ⟨some 26, none, .ext (.t 20) 2⟩,
     ⟨some 27, none, .ext (.t 20) 3⟩,
     ⟨some 7, none, .mov (.t 24)⟩,
     ⟨some 8, none, .mov (.t 25)⟩,
     ⟨some 9, none, .mov (.t 26)⟩,
     ⟨some 10, none, .mov (.t 27)⟩])
  (.seq (.block 0 none none
   (.seq (.reg false [⟨some 29, none, .mov (.t 10)⟩,
       ⟨some 30, none, .un .not (.t 29)⟩,
       ⟨some 28, none, .mov (.t 30)⟩])
    (.cond (.t 28) (.seq (.reg false [⟨some 31, none, .loadN (.t 2) 65⟩,
        ⟨some 32, none, .mov (.t 9)⟩,
        ⟨none, none, .store (.t 4) (.t 31) 65⟩,
        ⟨some 5, none, .mov (.t 32)⟩,
        ⟨some 6, none, .mov (.k (.c (.int .i64 2)))⟩])
     (.ret (some [4, 5, 6]))) (.seq (.reg false [⟨some 34, none, .loadN (.t 2) 65⟩,
        ⟨some 35, none, .mov (.t 8)⟩,
        ⟨some 36, none, .mov (.t 1)⟩,
        ⟨some 37, none, .call 65 [.t 34, .t 35, .t 36]⟩,
        ⟨some 38, none, .un .not (.t 37)⟩,
        ⟨some 33, none, .mov (.t 38)⟩])
     (.cond (.t 33) (.seq (.reg false [⟨some 39, none, .loadN (.t 2) 65⟩,
         ⟨some 40, none, .mov (.t 9)⟩,
         ⟨none, none, .store (.t 4) (.t 39) 65⟩,
         ⟨some 5, none, .mov (.t 40)⟩,
         ⟨some 6, none, .mov (.k (.c (.int .i64 4)))⟩])
      (.ret (some [4, 5, 6]))) .skip)))))
  (.seq (.reg false [⟨some 41, none, .mov (.t 7)⟩,
     ⟨some 42, none, .mov (.t 8)⟩,
     ⟨some 43, none, .fld (.t 2) 0⟩,
     ⟨some 44, none, .ixa (.t 43) (.t 42) 16 4⟩,
     ⟨some 45, none, .fld (.t 44) 3⟩,
     ⟨some 46, none, .load1 (.t 45)⟩,
     ⟨some 47, none, .call 69 [.t 2, .t 41, .t 46]⟩])
  (.seq (.reg false [⟨some 48, none, .mov (.t 8)⟩,
     ⟨some 49, none, .bld [.bool false, .int .i64 0, .int .i64 0, .int .i64 0] []⟩,
     ⟨some 50, none, .fld (.t 2) 0⟩,
     ⟨some 51, none, .ixa (.t 50) (.t 48) 16 4⟩,
     ⟨none, none, .store (.t 51) (.t 49) 4⟩])
  (.seq (.reg false [⟨some 52, none, .loadN (.t 2) 65⟩,
     ⟨some 53, none, .mov (.t 9)⟩,
     ⟨none, none, .store (.t 4) (.t 52) 65⟩,
     ⟨some 5, none, .mov (.t 53)⟩,
     ⟨some 6, none, .mov (.k (.c (.int .i64 0)))⟩])
  (.ret (some [4, 5, 6])))))))))⟩
theorem c_impl_MapDrop_ok : trF Try.prog ⟨[], [4, 5, 6], false⟩ Try.f41 = some c_impl_MapDrop := by kernel_rfl
def c_laws_eqChain : IFn := ⟨16, [.t 4],
  (.seq (.reg false [⟨some 2, none, .box (.t 0) 31⟩,
     ⟨some 3, none, .box (.t 1) 31⟩,
     ⟨some 4, none, .mov (.k (.c (.bool false)))⟩])
  (.seq (.seq (.reg false [⟨some 5, none, .fld (.t 2) 0⟩,
      ⟨some 6, none, .loadN (.t 5) 64⟩,
      ⟨some 7, none, .fld (.t 3) 0⟩,
      ⟨some 8, none, .loadN (.t 7) 64⟩,
      ⟨some 9, none, .call 70 [.t 6, .t 8]⟩,
      ⟨some 10, none, .un .not (.t 9)⟩])
   (.cond (.t 10) (.seq (.reg false [⟨some 4, none, .mov (.k (.c (.bool false)))⟩])
    (.ret (some [4]))) .skip))
  (.seq (.seq (.reg false [⟨some 11, none, .fld (.t 2) 64⟩,
      ⟨some 12, none, .load1 (.t 11)⟩,
      ⟨some 13, none, .fld (.t 3) 64⟩,
      ⟨some 14, none, .load1 (.t 13)⟩,
      ⟨some 15, none, .bin .neq (.t 12) (.t 14)⟩])
   (.cond (.t 15) (.seq (.reg false [⟨some 4, none, .mov (.k (.c (.bool false)))⟩])
    (.ret (some [4]))) .skip))
  (.seq (.reg false [⟨some 4, none, .mov (.k (.c (.bool true)))⟩])
  (.ret (some [4]))))))⟩
theorem c_laws_eqChain_ok : trF Try.prog ⟨[], [4], false⟩ Try.f42 = some c_laws_eqChain := by kernel_rfl
def c_spec_MapPut_b0 : IC :=
  (.seq (.seq (.reg false [⟨some 58, none, .mov (.t 13)⟩,
      ⟨some 59, none, .bin .lss (.t 58) (.k (.c (.int .i64 16)))⟩,
      ⟨some 60, none, .mov (.t 59)⟩,
      ⟨some 61, some (60, true), .mov (.t 13)⟩,
      ⟨some 62, some (60, true), .fld (.t 3) 0⟩,
      ⟨some 63, some (60, true), .ixa (.t 62) (.t 61) 16 4⟩,
      ⟨some 64, some (60, true), .fld (.t 63) 0⟩,
      ⟨some 65, some (60, true), .load1 (.t 64)⟩,
      ⟨some 66, none, .pick (.t 60) (.t 65) (.k (.c (.bool false)))⟩])
   (.cond (.t 66) .skip (.exit 0)))
  (.block 1 none none
  (.reg false [⟨some 67, none, .mov (.t 13)⟩,
     ⟨some 68, none, .bin .add (.t 67) (.k (.c (.int .i64 1)))⟩,
     ⟨some 13, none, .mov (.t 68)⟩])))
def c_spec_MapPut : IFn := ⟨91, [.cell 6 65 true, .t 7, .t 8],
  (.seq (.reg false [⟨some 3, none, .box (.t 0) 31⟩,
     ⟨some 6, none, .alloc [.bool false, .int .i64 0, .int .i64 0, .int .i64 0, .bool false, .int .i64 0, .int .i64 0, .int .i64 0, .bool false, .int .i64 0, .int .i64 0, .int .i64 0, .bool false, .int .i64 0, .int .i64 0, .int .i64 0, .bool false, .int .i64 0, .int .i64 0, .int .i64 0, .bool false, .int .i64 0, .int .i64 0, .int .i64 0, .bool false, .int .i64 0, .int .i64 0, .int .i64 0, .bool false, .int .i64 0, .int .i64 0, .int .i64 0, .bool false, .int .i64 0, .int .i64 0, .int .i64 0, .bool false, .int .i64 0, .int .i64 0, .int .i64 0, .bool false, .int .i64 0, .int .i64 0, .int .i64 0, .bool false, .int .i64 0, .int .i64 0, .int .i64 0, .bool false, .int .i64 0, .int .i64 0, .int .i64 0, .bool false, .int .i64 0, .int .i64 0, .int .i64 0, .bool false, .int .i64 0, .int .i64 0, .int .i64 0, .bool false, .int .i64 0, .int .i64 0, .int .i64 0, .int .i64 0] 31⟩,
     ⟨some 7, none, .mov (.k (.c (.int .i64 0)))⟩,
     ⟨some 8, none, .mov (.k (.c (.int .i64 0)))⟩])
  (.seq (.seq (.reg false [⟨some 14, none, .loadN (.t 3) 65⟩,
      ⟨some 15, none, .call 15 [.t 14]⟩,
      ⟨some 16, none, .un .not (.t 15)⟩,
      ⟨some 17, none, .mov (.t 16)⟩,
      ⟨some 18, some (17, false), .mov (.t 1)⟩,
      ⟨some 19, some (17, false), .call 47 [.t 18]⟩,
      ⟨some 20, some (17, false), .un .not (.t 19)⟩,
      ⟨some 21, none, .pick (.t 17) (.k (.c (.bool true))) (.t 20)⟩,
      ⟨some 22, none, .mov (.t 21)⟩,
      ⟨some 23, some (22, false), .mov (.t 2)⟩,
      ⟨some 24, some (22, false), .call 47 [.t 23]⟩,
      ⟨some 25, some (22, false), .un .not (.t 24)⟩,
      ⟨some 26, none, .pick (.t 22) (.k (.c (.bool true))) (.t 25)⟩])
   (.cond (.t 26) (.seq (.reg false [⟨some 27, none, .loadN (.t 3) 65⟩,
       ⟨none, none, .store (.t 6) (.t 27) 65⟩,
       ⟨some 7, none, .mov (.k (.c (.int .i64 0)))⟩,
       ⟨some 8, none, .mov (.k (.c (.int .i64 1)))⟩])
    (.ret (some [6, 7, 8]))) .skip))
  (.seq (.reg false [⟨some 29, none, .loadN (.t 3) 65⟩,
     ⟨some 30, none, .mov (.t 1)⟩,
     ⟨some 31, none, .call 63 [.t 29, .t 30]⟩,
     ⟨some 28, none, .mov (.t 31)⟩,
     ⟨some 32, none, .ext (.t 28) 0⟩,
     ⟨some 33, none, .ext (.t 28) 1⟩,
     ⟨some 34, none, .ext (.t 28) 2⟩,
     ⟨some 35, none, .ext (.t 28) 3⟩,
     ⟨some 9, none, .mov (.t 32)⟩,
     ⟨some 10, none, .mov (.t 33)⟩,
     ⟨some 11, none, .mov (.t 34)⟩,
     ⟨some 12, none, .mov (.t 35)⟩])
  (.seq (.seq (.reg false [⟨some 36, none, .mov (.t 12)⟩,
      ⟨some 37, none, .un .not (.t 36)⟩])
   (.cond (.t 37) (.seq (.reg false [⟨some 38, none, .loadN (.t 3) 65⟩,
       ⟨some 39, none, .mov (.t 11)⟩,
       ⟨none, none, .store (.t 6) (.t 38) 65⟩,
       ⟨some 7, none, .mov (.t 39)⟩,
       ⟨some 8, none, .mov (.k (.c (.int .i64 2)))⟩])
    (.ret (some [6, 7, 8]))) .skip))
  (.seq (.seq (.reg false [⟨some 40, none, .mov (.t 9)⟩,
      ⟨some 41, none, .bin .geq (.t 40) (.k (.c (.int .i64 0)))⟩,
      ⟨some 42, none, .mov (.t 41)⟩,
      ⟨some 43, some (42, true), .mov (.t 9)⟩,
      ⟨some 44, some (42, true), .fld (.t 3) 0⟩,
      ⟨some 45, some (42, true), .ixa (.t 44) (.t 43) 16 4⟩,
      ⟨some 46, some (42, true), .fld (.t 45) 1⟩,
      ⟨some 47, some (42, true), .load1 (.t 46)⟩,
      ⟨some 48, some (42, true), .mov (.t 1)⟩,
      ⟨some 49, some (42, true), .bin .eql (.t 47) (.t 48)⟩,
      ⟨some 50, none, .pick (.t 42) (.t 49) (.k (.c (.bool false)))⟩])
   (.cond (.t 50) (.seq (.reg false [⟨some 51, none, .mov (.t 9)⟩,
       ⟨some 52, none, .mov (.t 2)⟩,
       ⟨some 53, none, .fld (.t 3) 0⟩,
       ⟨some 54, none, .ixa (.t 53) (.t 51) 16 4⟩,
       ⟨some 55, none, .fld (.t 54) 2⟩,
       ⟨none, none, .store (.t 55) (.t 52) 1⟩])
    (.seq (.reg false [⟨some 56, none, .loadN (.t 3) 65⟩,
       ⟨some 57, none, .mov (.t 11)⟩,
       ⟨none, none, .store (.t 6) (.t 56) 65⟩,
       ⟨some 7, none, .mov (.t 57)⟩,
       ⟨some 8, none, .mov (.k (.c (.int .i64 0)))⟩])
    (.ret (some [6, 7, 8])))) .skip))
  (.seq (.reg false [⟨some 13, none, .mov (.k (.c (.int .i64 0)))⟩])
  (.seq (.block 0 (some [1, 2, 3, 6, 9, 10, 11, 13]) (some [1, 2, 3, 6, 9, 10, 11, 13])
   (.loop c_spec_MapPut_b0))
  (.seq (.seq (.reg false [⟨some 69, none, .mov (.t 13)⟩,
      ⟨some 70, none, .bin .eql (.t 69) (.k (.c (.int .i64 16)))⟩])
   (.cond (.t 70) (.seq (.reg false [⟨some 71, none, .loadN (.t 3) 65⟩,
       ⟨some 72, none, .mov (.t 11)⟩,
       ⟨none, none, .store (.t 6) (.t 71) 65⟩,
       ⟨some 7, none, .mov (.t 72)⟩,
       ⟨some 8, none, .mov (.k (.c (.int .i64 3)))⟩])
    (.ret (some [6, 7, 8]))) .skip))
  (.seq (.reg false [⟨some 73, none, .mov (.t 13)⟩,
     ⟨some 74, none, .mov (.t 1)⟩,
     ⟨some 75, none, .mov (.t 2)⟩,
     ⟨some 76, none, .mov (.t 9)⟩,
     ⟨some 77, none, .bld [.bool false, .int .i64 0, .int .i64 0, .int .i64 0] [(0, (1, .k (.c (.bool true)))), (1, (1, .t 74)), (2, (1, .t 75)), (3, (1, .t 76))]⟩,
     ⟨some 78, none, .fld (.t 3) 0⟩,
     ⟨some 79, none, .ixa (.t 78) (.t 73) 16 4⟩,
     ⟨none, none, .store (.t 79) (.t 77) 4⟩])
  (.seq (.seq (.reg false [⟨some 80, none, .mov (.t 10)⟩,
      ⟨some 81, none, .bin .lss (.t 80) (.k (.c (.int .i64 0)))⟩])
   (.cond (.t 81) (.reg false [⟨some 82, none, .mov (.t 13)⟩,
      ⟨some 83, none, .fld (.t 3) 64⟩,
      ⟨none, none, .store (.t 83) (.t 82) 1⟩]) (.reg false [⟨some 84, none, .mov (.t 10)⟩,
      ⟨some 85, none, .mov (.t 13)⟩,
      ⟨some 86, none, .fld (.t 3) 0⟩,
      ⟨some 87, none, .ixa (.t 86) (.t 84) 16 4⟩,
      ⟨some 88, none, .fld (.t 87) 3⟩,
      ⟨none, none, .store (.t 88) (.t 85) 1⟩])))
  (.seq (.reg false [⟨some 89, none, .loadN (.t 3) 65⟩,
     ⟨some 90, none, .mov (.t 11)⟩,
     ⟨none, none, .store (.t 6) (.t 89) 65⟩,
     ⟨some 7, none, .mov (.t 90)⟩,
     ⟨some 8, none, .mov (.k (.c (.int .i64 0)))⟩])
  (.ret (some [6, 7, 8])))))))))))))⟩
theorem c_spec_MapPut_ok : trF Try.prog ⟨[(0, [1, 2, 3, 6, 9, 10, 11, 13], [1, 2, 3, 6, 9, 10, 11, 13])], [6, 7, 8], false⟩ Try.f43 = some c_spec_MapPut := by kernel_rfl
def c_impl_MapPut_b0 : IC :=
  (.seq (.reg false [⟨some 57, none, .bin .lss (.t 56) (.k (.c (.int .i64 16)))⟩])
  (.seq (.cond (.t 57) .skip (.exit 1))
  (.seq (.block 2 none none
   (.seq (.reg false [⟨some 58, none, .mov (.t 56)⟩,
       ⟨some 59, none, .idx (.t 55) (.t 56) 16 4 true⟩,
       ⟨some 14, none, .alloc [.bool false, .int .i64 0, .int .i64 0, .int .i64 0] 28⟩,
       ⟨some 13, none, .mov (.t 58)⟩,
       ⟨none, none, .store (.t 14) (.t 59) 4⟩])
    (.seq (.reg false [⟨some 60, none, .fld (.t 14) 0⟩,
       ⟨some 61, none, .load1 (.t 60)⟩,
       ⟨some 62, none, .un .not (.t 61)⟩])
    (.cond (.t 62) (.seq (.reg false [⟨some 63, none, .mov (.t 13)⟩,
        ⟨some 64, none, .mov (.t 1)⟩,
        ⟨some 65, none, .mov (.t 2)⟩,
        ⟨some 66, none, .mov (.t 10)⟩,
        ⟨some 67, none, .bld [.bool false, .int .i64 0, .int .i64 0, .int .i64 0] [(0, (1, .k (.c (.bool true)))), (1, (1, .t 64)), (2, (1, .t 65)), (3, (1, .t 66))]⟩,
        ⟨some 68, none, .fld (.t 3) 0⟩,
        ⟨some 69, none, .ixa (.t 68) (.t 63) 16 4⟩,
        ⟨none, none, .store (.t 69) (.t 67) 4⟩])
     (.seq (.reg false [⟨some 70, none, .mov (.t 9)⟩,
        ⟨some 71, none, .mov (.t 13)⟩,
        ⟨some 72, none, .call 69 [.t 3, .t 70, .t 71]⟩])
     (.seq (.reg false [⟨some 73, none, .loadN (.t 3) 65⟩,
        ⟨some 74, none, .mov (.t 11)⟩,
        ⟨none, none, .store (.t 6) (.t 73) 65⟩,
        ⟨some 7, none, .mov (.t 74)⟩,
        ⟨some 8, none, .mov (.k (.c (.int .i64 0)))⟩])
     (.ret (some [6, 7, 8]))))) .skip))))
  (.reg false [⟨some 75, none, .bin .add (.t 56) (.k (.c (.int .i64 1)))⟩,
    ⟨some 56, none, .mov (.t 75)⟩]))))
def c_impl_MapPut : IFn := ⟨78, [.cell 6 65 true, .t 7, .t 8],
  (.seq (.reg false [⟨some 3, none, .box (.t 0) 31⟩,
     ⟨some 6, none, .alloc [.bool false, .int .i64 0, .int .i64 0, .int .i64 0, .bool false, .int .i64 0, .int .i64 0, .int .i64 0, .bool false, .int .i64 0, .int .i64 0, .int .i64 0, .bool false, .int .i64 0, .int .i64 0, .int .i64 0, .bool false, .int .i64 0, .int .i64 0, .int .i64 0, .bool false, .int .i64 0, .int .i64 0, .int .i64 0, .bool false, .int .i64 0, .int .i64 0, .int .i64 0, .bool false, .int .i64 0, .int .i64 0, .int .i64 0, .bool false, .int .i64 0, .int .i64 0, .int .i64 0, .bool false, .int .i64 0, .int .i64 0, .int .i64 0, .bool false, .int .i64 0, .int .i64 0, .int .i64 0, .bool false, .int .i64 0, .int .i64 0, .int .i64 0, .bool false, .int .i64 0, .int .i64 0, .int .i64 0, .bool false, .int .i64 0, .int .i64 0, .int .i64 0, .bool false, .int .i64 0, .int .i64 0, .int .i64 0, .bool false, .int .i64 0, .int .i64 0, .int .i64 0, .int .i64 0] 31⟩,
     ⟨some 7, none, .mov (.k (.c (.int .i64 0)))⟩,
     ⟨some 8, none, .mov (.k (.c (.int .i64 0)))⟩])
  (.seq (.seq (.reg false [⟨some 15, none, .loadN (.t 3) 65⟩,
      ⟨some 16, none, .call 17 [.t 15]⟩,
      ⟨some 17, none, .un .not (.t 16)⟩,
      ⟨some 18, none, .mov (.t 17)⟩,
      ⟨some 19, some (18, false), .mov (.t 1)⟩,
      ⟨some 20, some (18, false), .call 50 [.t 19]⟩,
      ⟨some 21, some (18, false), .un .not (.t 20)⟩,
      ⟨some 22, none, .pick (.t 18) (.k (.c (.bool true))) (.t 21)⟩,
      ⟨some 23, none, .mov (.t 22)⟩,
      ⟨some 24, some (23, false), .mov (.t 2)⟩,
      ⟨some 25, some (23, false), .call 50 [.t 24]⟩,
      ⟨some 26, some (23, false), .un .not (.t 25)⟩,
      ⟨some 27, none, .pick (.t 23) (.k (.c (.bool true))) (.t 26)⟩])
   (.cond (.t 27) (.seq (.reg false [⟨some 28, none, .loadN (.t 3) 65⟩,
       ⟨none, none, .store (.t 6) (.t 28) 65⟩,
       ⟨some 7, none, .mov (.k (.c (.int .i64 0)))⟩,
       ⟨some 8, none, .mov (.k (.c (.int .i64 1)))⟩])
    (.ret (some [6, 7, 8]))) .skip))
  (.seq (.reg false [⟨some 30, none, .loadN (.t 3) 65⟩,
     ⟨some 31, none, .mov (.t 1)⟩,
     ⟨some 32, none, .call 64 [.t 30, .t 31]⟩,
     ⟨some 29, none, .mov (.t 32)⟩,
     ⟨some 33, none, .ext (.t 29) 0⟩,
     ⟨some 34, none, .ext (.t 29) 1⟩,
     ⟨some 35, none, .ext (.t 29) 2⟩,
     ⟨some 36, none, .ext (.t 29) 3⟩,
     ⟨some 9, none, .mov (.t 33)⟩,
     ⟨some 10, none, .mov (.t 34)⟩,
     ⟨some 11, none, .mov (.t 35)⟩,
     ⟨some 12, none, .mov (.t 36)⟩])
  (.seq (.block 0 none none
   (.seq (.reg false [⟨some 38, none, .mov (.t 12)⟩,
       ⟨some 39, none, .un .not (.t 38)⟩,
       ⟨some 37, none, .mov (.t 39)⟩])
    (.cond (.t 37) (.seq (.reg false [⟨some 40, none, .loadN (.t 3) 65⟩,
        ⟨some 41, none, .mov (.t 11)⟩,
        ⟨none, none, .store (.t 6) (.t 40) 65⟩,
        ⟨some 7, none, .mov (.t 41)⟩,
        ⟨some 8, none, .mov (.k (.c (.int .i64 2)))⟩])
     (.ret (some [6, 7, 8]))) (.seq (.reg false [⟨some 43, none, .loadN (.t 3) 65⟩,
        ⟨some 44, none, .mov (.t 10)⟩,
        ⟨some 45, none, .mov (.t 1)⟩,
        ⟨some 46, none, .call 65 [.t 43, .t 44, .t 45]⟩,
        ⟨some 42, none, .mov (.t 46)⟩])
     (.cond (.t 42) (.seq (.reg false [⟨some 47, none, .mov (.t 10)⟩,
         ⟨some 48, none, .mov (.t 2)⟩,
         ⟨some 49, none, .fld (.t 3) 0⟩,
         ⟨some 50, none, .ixa (.t 49) (.t 47) 16 4⟩,
         ⟨some 51, none, .fld (.t 50) 2⟩,
         ⟨none, none, .store (.t 51) (.t 48) 1⟩])
      (.seq (.reg false [⟨some 52, none, .loadN (.t 3) 65⟩,
         ⟨some 53, none, .mov (.t 11)⟩,
         ⟨none, none, .store (.t 6) (.t 52) 65⟩,
         ⟨some 7, none, .mov (.t 53)⟩,
         ⟨some 8, none, .mov (.k (.c (.int .i64 0)))⟩])
      (.ret (some [6, 7, 8])))) .skip)))))
  (.seq (.seq (.reg false [⟨some 54, none, .fld (.t 3) 0⟩,
      ⟨some 55, none, .loadN (.t 54) 64⟩,
      ⟨some 56, none, .mov (.k (.c (.int .i64 0)))⟩])
   (.block 1 (some [1, 2, 3, 6, 9, 10, 11, 55, 56]) (some [3, 6, 11])
   (.loop c_impl_MapPut_b0)))
  (.seq (.reg false [⟨some 76, none, .loadN (.t 3) 65⟩,
     ⟨some 77, none, .mov (.t 11)⟩,
     ⟨none, none, .store (.t 6) (.t 76) 65⟩,
     ⟨some 7, none, .mov (.t 77)⟩,
     ⟨some 8, none, .mov (.k (.c (.int .i64 3)))⟩])
  (.ret (some [6, 7, 8]))))))))⟩
theorem c_impl_MapPut_ok : trF Try.prog ⟨[(1, [1, 2, 3, 6, 9, 10, 11, 55, 56], [3, 6, 11])], [6, 7, 8], false⟩ Try.f44 = some c_impl_MapPut := by kernel_rfl
def c_spec_TreeAdd_b0 : IC :=
  (.seq (.seq (.reg false [⟨some 31, none, .mov (.t 9)⟩,
      ⟨some 32, none, .bin .lss (.t 31) (.k (.c (.int .i64 16)))⟩,
      ⟨some 33, none, .mov (.t 32)⟩,
      ⟨some 34, some (33, true), .mov (.t 9)⟩,
      ⟨some 35, some (33, true), .fld (.t 2) 0⟩,
      ⟨some 36, some (33, true), .ixa (.t 35) (.t 34) 16 4⟩,
      ⟨some 37, some (33, true), .fld (.t 36) 0⟩,
      ⟨some 38, some (33, true), .load1 (.t 37)⟩,
      ⟨some 39, none, .pick (.t 33) (.t 38) (.k (.c (.bool false)))⟩])
   (.cond (.t 39) .skip (.exit 0)))
  (.block 1 none none
  (.reg false [⟨some 40, none, .mov (.t 9)⟩,
     ⟨some 41, none, .bin .add (.t 40) (.k (.c (.int .i64 1)))⟩,
     ⟨some 9, none, .mov (.t 41)⟩])))
def c_spec_TreeAdd : IFn := ⟨55, [.cell 4 65 true, .t 5],
  (.seq (.reg false [⟨some 2, none, .box (.t 0) 43⟩,
     ⟨some 4, none, .alloc [.bool false, .int .i64 0, .int .i64 0, .int .i64 0, .bool false, .int .i64 0, .int .i64 0, .int .i64 0, .bool false, .int .i64 0, .int .i64 0, .int .i64 0, .bool false, .int .i64 0, .int .i64 0, .int .i64 0, .bool false, .int .i64 0, .int .i64 0, .int .i64 0, .bool false, .int .i64 0, .int .i64 0, .int .i64 0, .bool false, .int .i64 0, .int .i64 0, .int .i64 0, .bool false, .int .i64 0, .int .i64 0, .int .i64 0, .bool false, .int .i64 0, .int .i64 0, .int .i64 0, .bool false, .int .i64 0, .int .i64 0, .int .i64 0, .bool false, .int .i64 0, .int .i64 0, .int .i64 0, .bool false, .int .i64 0, .int .i64 0, .int .i64 0, .bool false, .int .i64 0, .int .i64 0, .int .i64 0, .bool false, .int .i64 0, .int .i64 0, .int .i64 0, .bool false, .int .i64 0, .int .i64 0, .int .i64 0, .bool false, .int .i64 0, .int .i64 0, .int .i64 0, .int .i64 0] 43⟩,
     ⟨some 5, none, .mov (.k (.c (.int .i64 0)))⟩])
  (.seq (.seq (.reg false [⟨some 10, none, .loadN (.t 2) 65⟩,
      ⟨some 11, none, .call 18 [.t 10]⟩,
      ⟨some 12, none, .un .not (.t 11)⟩,
      ⟨some 13, none, .mov (.t 12)⟩,
      ⟨some 14, some (13, false), .mov (.t 1)⟩,
      ⟨some 15, some (13, false), .call 47 [.t 14]⟩,
      ⟨some 16, some (13, false), .un .not (.t 15)⟩,
      ⟨some 17, none, .pick (.t 13) (.k (.c (.bool true))) (.t 16)⟩])
   (.cond (.t 17) (.seq (.reg false [⟨some 18, none, .loadN (.t 2) 65⟩,
       ⟨none, none, .store (.t 4) (.t 18) 65⟩,
       ⟨some 5, none, .mov (.k (.c (.int .i64 1)))⟩])
    (.ret (some [4, 5]))) .skip))
  (.seq (.reg false [⟨some 20, none, .loadN (.t 2) 65⟩,
     ⟨some 21, none, .mov (.t 1)⟩,
     ⟨some 22, none, .call 67 [.t 20, .t 21]⟩,
     ⟨some 19, none, .mov (.t 22)⟩,
     ⟨some 23, none, .ext (.t 19) 0⟩,
     ⟨some 24, none, .ext (.t 19) 1⟩,
     ⟨some 25, none, .ext (.t 19) 2⟩,
     ⟨some 6, none, .mov (.t 23)⟩,
     ⟨some 7, none, .mov (.t 24)⟩,
     ⟨some 8, none, .mov (.t 25)⟩])
  (.seq (.seq (.reg false [⟨some 26, none, .mov (.t 8)⟩,
      ⟨some 27, none, .un .not (.t 26)⟩])
   (.cond (.t 27) (.seq (.reg false [⟨some 28, none, .loadN (.t 2) 65⟩,
       ⟨none, none, .store (.t 4) (.t 28) 65⟩,
       ⟨some 5, none, .mov (.k (.c (.int .i64 2)))⟩])
    (.ret (some [4, 5]))) .skip))
  (.seq (.seq (.reg false [⟨some 29, none, .mov (.t 7)⟩])
   (.cond (.t 29) (.seq (.reg false [⟨some 30, none, .loadN (.t 2) 65⟩,
       ⟨none, none, .store (.t 4) (.t 30) 65⟩,
       ⟨some 5, none, .mov (.k (.c (.int .i64 4)))⟩])
    (.ret (some [4, 5]))) .skip))
  (.seq (.reg false [⟨some 9, none, .mov (.k (.c (.int .i64 0)))⟩])
  (.seq (.block 0 (some [1, 2, 4, 6, 9]) (some [1, 2, 4, 6, 9])
   (.loop c_spec_TreeAdd_b0))
  (.seq (.seq (.reg false [⟨some 42, none, .mov (.t 9)⟩,
      ⟨some 43, none, .bin .eql (.t 42) (.k (.c (.int .i64 16)))⟩])
   (.cond (.t 43) (.seq (.reg false [⟨some 44, none, .loadN (.t 2) 65⟩,
       ⟨none, none, .store (.t 4) (.t 44) 65⟩,
       ⟨some 5, none, .mov (.k (.c (.int .i64 3)))⟩])
    (.ret (some [4, 5]))) .skip))
  (.seq (.reg false [⟨some 45, none, .mov (.t 9)⟩,
     ⟨some 46, none, .mov (.t 1)⟩,
     ⟨some 47, none, .bld [.bool false, .int .i64 0, .int .i64 0, .int .i64 0] [(0, (1, .k (.c (.bool true)))), (1, (1, .t 46)), (2, (1, .k (.c (.int .i64 (-1))))), (3, (1, .k (.c (.int .i64 (-1)))))]⟩,
     ⟨some 48, none, .fld (.t 2) 0⟩,
     ⟨some 49, none, .ixa (.t 48) (.t 45) 16 4⟩,
     ⟨none, none, .store (.t 49) (.t 47) 4⟩])
  (.seq (.reg false [⟨some 50, none, .loadN (.t 2) 65⟩,
     ⟨some 51, none, .mov (.t 6)⟩,
     ⟨some 52, none, .mov (.t 1)⟩,
     ⟨some 53, none, .mov (.t 9)⟩,
     ⟨some 54, none, .call 71 [.t 50, .t 51, .t 52, .t 53]⟩,
     ⟨none, none, .store (.t 4) (.t 54) 65⟩,
     ⟨some 5, none, .mov (.k (.c (.int .i64 0)))⟩])
  (.ret (some [4, 5]))))))))))))⟩
theorem c_spec_TreeAdd_ok : trF Try.prog ⟨[(0, [1, 2, 4, 6, 9], [1, 2, 4, 6, 9])], [4, 5], false⟩ Try.f45 = some c_spec_TreeAdd := by kernel_rfl
def c_impl_TreeAdd_b0 : IC :=
  (.seq (.reg false [⟨some 39, none, .bin .lss (.t 38) (.k (.c (.int .i64 16)))⟩])
  (.seq (.cond (.t 39) .skip (.exit 1))
  (.seq (.block 2 none none
   (.seq (.reg false [⟨some 40, none, .mov (.t 38)⟩,
       ⟨some 41, none, .idx (.t 37) (.t 38) 16 4 true⟩,
       ⟨some 10, none, .alloc [.bool false, .int .i64 0, .int .i64 0, .int .i64 0] 40⟩,
       ⟨some 9, none, .mov (.t 40)⟩,
       ⟨none, none, .store (.t 10) (.t 41) 4⟩])
    (.seq (.reg false [⟨some 42, none, .fld (.t 10) 0⟩,
       ⟨some 43, none, .load1 (.t 42)⟩,
       ⟨some 44, none, .un .not (.t 43)⟩])
    (.cond (.t 44) (.seq (.reg false [⟨some 45, none, .mov (.t 6)⟩,
        ⟨some 46, none, .mov (.t 9)⟩,
        ⟨some 47, none, .chk (.t 45)⟩,
        ⟨none, none, .store (.t 47) (.t 46) 1⟩])
     (.seq (.reg false [⟨some 48, none, .mov (.t 9)⟩,
        ⟨some 49, none, .mov (.t 1)⟩,
        ⟨some 50, none, .bld [.bool false, .int .i64 0, .int .i64 0, .int .i64 0] [(0, (1, .k (.c (.bool true)))), (1, (1, .t 49)), (2, (1, .k (.c (.int .i64 (-1))))), (3, (1, .k (.c (.int .i64 (-1)))))]⟩,
        ⟨some 51, none, .fld (.t 2) 0⟩,
        ⟨some 52, none, .ixa (.t 51) (.t 48) 16 4⟩,
        ⟨none, none, .store (.t 52) (.t 50) 4⟩])
     (.seq (.reg false [⟨some 53, none, .loadN (.t 2) 65⟩,
        ⟨none, none, .store (.t 4) (.t 53) 65⟩,
        ⟨some 5, none, .mov (.k (.c (.int .i64 0)))⟩])
     (.ret (some [4, 5]))))) .skip))))
  (.reg false [⟨some 54, none, .bin .add (.t 38) (.k (.c (.int .i64 1)))⟩,
    ⟨some 38, none, .mov (.t 54)⟩]))))
def c_impl_TreeAdd : IFn := ⟨56, [.cell 4 65 true, .t 5],
  (.seq (.reg false [⟨some 2, none, .box (.t 0) 43⟩,
     ⟨some 4, none, .alloc [.bool false, .int .i64 0, .int .i64 0, .int .i64 0, .bool false, .int .i64 0, .int .i64 0, .int .i64 0, .bool false, .int .i64 0, .int .i64 0, .int .i64 0, .bool false, .int .i64 0, .int .i64 0, .int .i64 0, .bool false, .int .i64 0, .int .i64 0, .int .i64 0, .bool false, .int .i64 0, .int .i64 0, .int .i64 0, .bool false, .int .i64 0, .int .i64 0, .int .i64 0, .bool false, .int .i64 0, .int .i64 0, .int .i64 0, .bool false, .int .i64 0, .int .i64 0, .int .i64 0, .bool false, .int .i64 0, .int .i64 0, .int .i64 0, .bool false, .int .i64 0, .int .i64 0, .int .i64 0, .bool false, .int .i64 0, .int .i64 0, .int .i64 0, .bool false, .int .i64 0, .int .i64 0, .int .i64 0, .bool false, .int .i64 0, .int .i64 0, .int .i64 0, .bool false, .int .i64 0, .int .i64 0, .int .i64 0, .bool false, .int .i64 0, .int .i64 0, .int .i64 0, .int .i64 0] 43⟩,
     ⟨some 5, none, .mov (.k (.c (.int .i64 0)))⟩])
  (.seq (.seq (.reg false [⟨some 11, none, .loadN (.t 2) 65⟩,
      ⟨some 12, none, .call 20 [.t 11]⟩,
      ⟨some 13, none, .un .not (.t 12)⟩,
      ⟨some 14, none, .mov (.t 13)⟩,
      ⟨some 15, some (14, false), .mov (.t 1)⟩,
      ⟨some 16, some (14, false), .call 50 [.t 15]⟩,
      ⟨some 17, some (14, false), .un .not (.t 16)⟩,
      ⟨some 18, none, .pick (.t 14) (.k (.c (.bool true))) (.t 17)⟩])
   (.cond (.t 18) (.seq (.reg false [⟨some 19, none, .loadN (.t 2) 65⟩,
       ⟨none, none, .store (.t 4) (.t 19) 65⟩,
       ⟨some 5, none, .mov (.k (.c (.int .i64 1)))⟩])
    (.ret (some [4, 5]))) .skip))
  (.seq (.reg false [⟨some 21, none, .mov (.t 1)⟩,
     ⟨some 22, none, .call 68 [.t 2, .t 21]⟩,
     ⟨some 20, none, .mov (.t 22)⟩,
     ⟨some 23, none, .ext (.t 20) 0⟩,
     ⟨some 24, none, .ext (.t 20) 1⟩,
     ⟨some 25, none, .ext (.t 20) 2⟩,
     ⟨some 6, none, .mov (.t 23)⟩,
     ⟨some 7, none, .mov (.t 24)⟩,
     ⟨some 8, none, .mov (.t 25)⟩])
  (.seq (.block 0 none none
   (.seq (.reg false [⟨some 27, none, .mov (.t 8)⟩,
       ⟨some 28, none, .un .not (.t 27)⟩,
       ⟨some 26, none, .mov (.t 28)⟩])
    (.cond (.t 26) (.seq (.reg false [⟨some 29, none, .loadN (.t 2) 65⟩,
        ⟨none, none, .store (.t 4) (.t 29) 65⟩,
        ⟨some 5, none, .mov (.k (.c (.int .i64 2)))⟩])
     (.ret (some [4, 5]))) (.seq (.reg false [⟨some 31, none, .mov (.t 6)⟩,
        ⟨some 32, none, .chk (.t 31)⟩,
        ⟨some 33, none, .load1 (.t 32)⟩,
        ⟨some 34, none, .bin .neq (.t 33) (.k (.c (.int .i64 (-1))))⟩,
        ⟨some 30, none, .mov (.t 34)⟩])
     (.cond (.t 30) (.seq (.reg false [⟨some 35, none, .loadN (.t 2) 65⟩,
         ⟨none, none, .store (.t 4) (.t 35) 65⟩,
         ⟨some 5, none, .mov (.k (.c (.int .i64 4)))⟩])
      (.ret (some [4, 5]))) .skip)))))
  (.seq (.seq (.reg false [⟨some 36, none, .fld (.t 2) 0⟩,
      ⟨some 37, none, .loadN (.t 36) 64⟩,
      ⟨some 38, none, .mov (.k (.c (.int .i64 0)))⟩])
   (.block 1 (some [1, 2, 4, 6, 37, 38]) (some [2, 4])
   (.loop c_impl_TreeAdd_b0)))
  (.seq (.reg false [⟨some 55, none, .loadN (.t 2) 65⟩,
     ⟨none, none, .store (.t 4) (.t 55) 65⟩,
     ⟨some 5, none, .mov (.k (.c (.int .i64 3)))⟩])
  (.ret (some [4, 5]))))))))⟩
theorem c_impl_TreeAdd_ok : trF Try.prog ⟨[(1, [1, 2, 4, 6, 37, 38], [2, 4])], [4, 5], false⟩ Try.f46 = some c_impl_TreeAdd := by kernel_rfl
def c_spec_l1Value : IFn := ⟨5, [.t 2],
  (.seq (.reg false [⟨some 2, none, .mov (.k (.c (.bool false)))⟩])
  (.seq (.reg false [⟨some 3, none, .mov (.t 0)⟩,
     ⟨some 4, none, .call 48 [.t 3, .k (.c (.int .i64 (-1000000000))), .k (.c (.int .i64 1000000000))]⟩,
     ⟨some 2, none, .mov (.t 4)⟩])
  (.ret (some [2]))))⟩
theorem c_spec_l1Value_ok : trF Try.prog ⟨[], [2], false⟩ Try.f47 = some c_spec_l1Value := by kernel_rfl
def c_spec_l1In : IFn := ⟨15, [.t 6],
  (.seq (.reg false [⟨some 6, none, .mov (.k (.c (.bool false)))⟩])
  (.seq (.reg false [⟨some 7, none, .mov (.t 0)⟩,
     ⟨some 8, none, .mov (.t 1)⟩,
     ⟨some 9, none, .bin .geq (.t 7) (.t 8)⟩,
     ⟨some 10, none, .mov (.t 9)⟩,
     ⟨some 11, some (10, true), .mov (.t 0)⟩,
     ⟨some 12, some (10, true), .mov (.t 2)⟩,
     ⟨some 13, some (10, true), .bin .leq (.t 11) (.t 12)⟩,
     ⟨some 14, none, .pick (.t 10) (.t 13) (.k (.c (.bool false)))⟩,
     ⟨some 6, none, .mov (.t 14)⟩])
  (.ret (some [6]))))⟩
theorem c_spec_l1In_ok : trF Try.prog ⟨[], [6], false⟩ Try.f48 = some c_spec_l1In := by kernel_rfl
def c_laws_toNodeA16_b0 : IC :=
  (.seq (.seq (.reg false [⟨some 5, none, .mov (.t 4)⟩,
      ⟨some 6, none, .bin .lss (.t 5) (.k (.c (.int .i64 16)))⟩])
   (.cond (.t 6) .skip (.exit 0)))
  (.seq (.block 1 none none
   (.reg false [⟨some 9, none, .mov (.t 4)⟩,
      ⟨some 10, none, .mov (.t 4)⟩,
      ⟨some 11, none, .ixa (.t 1) (.t 10) 16 4⟩,
      ⟨some 12, none, .loadN (.t 11) 4⟩,
      ⟨some 13, none, .call 72 [.t 12]⟩,
      ⟨some 14, none, .ixa (.t 3) (.t 9) 16 4⟩,
      ⟨none, none, .store (.t 14) (.t 13) 4⟩]))
  (.reg false [⟨some 7, none, .mov (.t 4)⟩,
    ⟨some 8, none, .bin .add (.t 7) (.k (.c (.int .i64 1)))⟩,
    ⟨some 4, none, .mov (.t 8)⟩])))
def c_laws_toNodeA16 : IFn := ⟨16, [.cell 2 64 true],
  (.seq (.reg false [⟨some 1, none, .box (.t 0) 24⟩,
     ⟨some 2, none, .alloc [.bool false, .int .i64 0, .int .i64 0, .int .i64 0, .bool false, .int .i64 0, .int .i64 0, .int .i64 0, .bool false, .int .i64 0, .int .i64 0, .int .i64 0, .bool false, .int .i64 0, .int .i64 0, .int .i64 0, .bool false, .int .i64 0, .int .i64 0, .int .i64 0, .bool false, .int .i64 0, .int .i64 0, .int .i64 0, .bool false, .int .i64 0, .int .i64 0, .int .i64 0, .bool false, .int .i64 0, .int .i64 0, .int .i64 0, .bool false, .int .i64 0, .int .i64 0, .int .i64 0, .bool false, .int .i64 0, .int .i64 0, .int .i64 0, .bool false, .int .i64 0, .int .i64 0, .int .i64 0, .bool false, .int .i64 0, .int .i64 0, .int .i64 0, .bool false, .int .i64 0, .int .i64 0, .int .i64 0, .bool false, .int .i64 0, .int .i64 0, .int .i64 0, .bool false, .int .i64 0, .int .i64 0, .int .i64 0, .bool false, .int .i64 0, .int .i64 0, .int .i64 0] 29⟩])
  (.seq (.reg false [⟨some 3, none, .alloc [.bool false, .int .i64 0, .int .i64 0, .int .i64 0, .bool false, .int .i64 0, .int .i64 0, .int .i64 0, .bool false, .int .i64 0, .int .i64 0, .int .i64 0, .bool false, .int .i64 0, .int .i64 0, .int .i64 0, .bool false, .int .i64 0, .int .i64 0, .int .i64 0, .bool false, .int .i64 0, .int .i64 0, .int .i64 0, .bool false, .int .i64 0, .int .i64 0, .int .i64 0, .bool false, .int .i64 0, .int .i64 0, .int .i64 0, .bool false, .int .i64 0, .int .i64 0, .int .i64 0, .bool false, .int .i64 0, .int .i64 0, .int .i64 0, .bool false, .int .i64 0, .int .i64 0, .int .i64 0, .bool false, .int .i64 0, .int .i64 0, .int .i64 0, .bool false, .int .i64 0, .int .i64 0, .int .i64 0, .bool false, .int .i64 0, .int .i64 0, .int .i64 0, .bool false, .int .i64 0, .int .i64 0, .int .i64 0, .bool false, .int .i64 0, .int .i64 0, .int .i64 0] 29⟩])
  (.seq (.seq (.reg false [⟨some 4, none, .mov (.k (.c (.int .i64 0)))⟩])
   (.block 0 (some [1, 2, 3, 4]) (some [2, 3])
   (.loop c_laws_toNodeA16_b0)))
  (.seq (.reg false [⟨some 15, none, .loadN (.t 3) 64⟩,
     ⟨none, none, .store (.t 2) (.t 15) 64⟩])
  (.ret (some [2]))))))⟩
theorem c_laws_toNodeA16_ok : trF Try.prog ⟨[(0, [1, 2, 3, 4], [2, 3])], [2], false⟩ Try.f49 = some c_laws_toNodeA16 := by kernel_rfl
def c_impl_isValue : IFn := ⟨5, [.t 2],
  (.seq (.reg false [⟨some 2, none, .mov (.k (.c (.bool false)))⟩])
  (.seq (.reg false [⟨some 3, none, .mov (.t 0)⟩,
     ⟨some 4, none, .call 51 [.t 3, .k (.c (.int .i64 (-1000000000))), .k (.c (.int .i64 1000000000))]⟩,
     ⟨some 2, none, .mov (.t 4)⟩])
  (.ret (some [2]))))⟩
theorem c_impl_isValue_ok : trF Try.prog ⟨[], [2], false⟩ Try.f50 = some c_impl_isValue := by kernel_rfl
def c_impl_in : IFn := ⟨15, [.t 6],
  (.seq (.reg false [⟨some 6, none, .mov (.k (.c (.bool false)))⟩])
  (.seq (.reg false [⟨some 7, none, .mov (.t 1)⟩,
     ⟨some 8, none, .mov (.t 0)⟩,
     ⟨some 9, none, .bin .leq (.t 7) (.t 8)⟩,
     ⟨some 10, none, .mov (.t 9)⟩,
     ⟨some 11, some (10, true), .mov (.t 0)⟩,
     ⟨some 12, some (10, true), .mov (.t 2)⟩,
     ⟨some 13, some (10, true), .bin .leq (.t 11) (.t 12)⟩,
     ⟨some 14, none, .pick (.t 10) (.t 13) (.k (.c (.bool false)))⟩,
     ⟨some 6, none, .mov (.t 14)⟩])
  (.ret (some [6]))))⟩
theorem c_impl_in_ok : trF Try.prog ⟨[], [6], false⟩ Try.f51 = some c_impl_in := by kernel_rfl
def c_spec_l15Keys : IFn := ⟨65, [.t 6, .t 7],
  (.seq (.reg false [⟨some 3, none, .box (.t 0) 43⟩,
     ⟨some 6, none, .mov (.k (.c .nils))⟩,
     ⟨some 7, none, .mov (.k (.c (.bool false)))⟩])
  (.seq (.seq (.reg false [⟨some 10, none, .mov (.t 1)⟩,
      ⟨some 11, none, .bin .eql (.t 10) (.k (.c (.int .i64 (-1))))⟩])
   (.cond (.t 11) (.seq (.reg false [⟨some 12, none, .mov (.t 2)⟩,
       ⟨some 6, none, .mov (.t 12)⟩,
       ⟨some 7, none, .mov (.k (.c (.bool true)))⟩])
    (.ret (some [6, 7]))) .skip))
  (.seq (.seq (.reg false [⟨some 13, none, .mov (.t 1)⟩,
      ⟨some 14, none, .call 48 [.t 13, .k (.c (.int .i64 0)), .k (.c (.int .i64 15))]⟩,
      ⟨some 15, none, .un .not (.t 14)⟩,
      ⟨some 16, none, .mov (.t 15)⟩,
      ⟨some 17, some (16, false), .mov (.t 1)⟩,
      ⟨some 18, some (16, false), .fld (.t 3) 0⟩,
      ⟨some 19, some (16, false), .ixa (.t 18) (.t 17) 16 4⟩,
      ⟨some 20, some (16, false), .fld (.t 19) 0⟩,
      ⟨some 21, some (16, false), .load1 (.t 20)⟩,
      ⟨some 22, some (16, false), .un .not (.t 21)⟩,
      ⟨some 23, none, .pick (.t 16) (.k (.c (.bool true))) (.t 22)⟩,
      ⟨some 24, none, .mov (.t 23)⟩,
      ⟨some 25, some (24, false), .mov (.t 2)⟩,
      ⟨some 26, some (24, false), .len (.t 25)⟩,
      ⟨some 27, some (24, false), .bin .geq (.t 26) (.k (.c (.int .i64 16)))⟩,
      ⟨some 28, none, .pick (.t 24) (.k (.c (.bool true))) (.t 27)⟩])
   (.cond (.t 28) (.seq (.reg false [⟨some 29, none, .mov (.t 2)⟩,
       ⟨some 6, none, .mov (.t 29)⟩,
       ⟨some 7, none, .mov (.k (.c (.bool false)))⟩])
    (.ret (some [6, 7]))) .skip))
  (.seq (.reg false [⟨some 30, none, .mov (.t 1)⟩,
     ⟨some 31, none, .fld (.t 3) 0⟩,
     ⟨some 32, none, .ixa (.t 31) (.t 30) 16 4⟩,
     ⟨some 33, none, .loadN (.t 32) 4⟩,
     ⟨some 8, none, .alloc [.bool false, .int .i64 0, .int .i64 0, .int .i64 0] 40⟩,
     ⟨none, none, .store (.t 8) (.t 33) 4⟩])
  (.seq (.reg false [⟨some 34, none, .mov (.t 1)⟩,
     ⟨some 35, none, .bld [.bool false, .int .i64 0, .int .i64 0, .int .i64 0] []⟩,
     ⟨some 36, none, .fld (.t 3) 0⟩,
     ⟨some 37, none, .ixa (.t 36) (.t 34) 16 4⟩,
     ⟨none, none, .store (.t 37) (.t 35) 4⟩])
  (.seq (.reg false [⟨some 39, none, .loadN (.t 3) 65⟩,
     ⟨some 40, none, .fld (.t 8) 2⟩,
     ⟨some 41, none, .load1 (.t 40)⟩,
     ⟨some 42, none, .mov (.t 2)⟩,
     ⟨some 43, none, .call 52 [.t 39, .t 41, .t 42]⟩,
     ⟨some 38, none, .mov (.t 43)⟩,
     ⟨some 44, none, .ext (.t 38) 0⟩,
     ⟨some 45, none, .ext (.t 38) 1⟩,
     ⟨some 2, none, .mov (.t 44)⟩,
     ⟨some 9, none, .mov (.t 45)⟩])
  (.seq (.seq (.reg false [⟨some 46, none, .mov (.t 9)⟩,
      ⟨some 47, none, .un .not (.t 46)⟩,
      ⟨some 48, none, .mov (.t 47)⟩,
      ⟨some 49, some (48, false), .mov (.t 2)⟩,
      ⟨some 50, some (48, false), .len (.t 49)⟩,
      ⟨some 51, some (48, false), .bin .geq (.t 50) (.k (.c (.int .i64 16)))⟩,
      ⟨some 52, none, .pick (.t 48) (.k (.c (.bool true))) (.t 51)⟩])
   (.cond (.t 52) (.seq (.reg false [⟨some 53, none, .mov (.t 2)⟩,
       ⟨some 6, none, .mov (.t 53)⟩,
       ⟨some 7, none, .mov (.k (.c (.bool false)))⟩])
    (.ret (some [6, 7]))) .skip))
  (.seq (.reg false [⟨some 54, none, .mov (.t 2)⟩,
     ⟨some 55, none, .mov (.t 1)⟩,
     ⟨some 56, none, .lit 1 1 [.int .i64 0] [(0, .t 55)] 3⟩,
     ⟨some 57, none, .app (.t 54) (.t 56) 3 1 8⟩,
     ⟨some 2, none, .mov (.t 57)⟩])
  (.seq (.reg false [⟨some 58, none, .loadN (.t 3) 65⟩,
     ⟨some 59, none, .fld (.t 8) 3⟩,
     ⟨some 60, none, .load1 (.t 59)⟩,
     ⟨some 61, none, .mov (.t 2)⟩,
     ⟨some 62, none, .call 52 [.t 58, .t 60, .t 61]⟩,
     ⟨some 63, none, .ext (.t 62) 0⟩,
     ⟨some 64, none, .ext (.t 62) 1⟩,
     ⟨some 6, none, .mov (.t 63)⟩,
     ⟨some 7, none, .mov (.t 64)⟩])
  (.ret (some [6, 7])))))))))))⟩
theorem c_spec_l15Keys_ok : trF Try.prog ⟨[], [6, 7], false⟩ Try.f52 = some c_spec_l15Keys := by kernel_rfl
def c_laws_toTwigA16_b0 : IC :=
  (.seq (.seq (.reg false [⟨some 5, none, .mov (.t 4)⟩,
      ⟨some 6, none, .bin .lss (.t 5) (.k (.c (.int .i64 16)))⟩])
   (.cond (.t 6) .skip (.exit 0)))
  (.seq (.block 1 none none
   (.reg false [⟨some 9, none, .mov (.t 4)⟩,
      ⟨some 10, none, .mov (.t 4)⟩,
      ⟨some 11, none, .ixa (.t 1) (.t 10) 16 4⟩,
      ⟨some 12, none, .loadN (.t 11) 4⟩,
      ⟨some 13, none, .call 73 [.t 12]⟩,
      ⟨some 14, none, .ixa (.t 3) (.t 9) 16 4⟩,
      ⟨none, none, .store (.t 14) (.t 13) 4⟩]))
  (.reg false [⟨some 7, none, .mov (.t 4)⟩,
    ⟨some 8, none, .bin .add (.t 7) (.k (.c (.int .i64 1)))⟩,
    ⟨some 4, none, .mov (.t 8)⟩])))
def c_laws_toTwigA16 : IFn := ⟨16, [.cell 2 64 true],
  (.seq (.reg false [⟨some 1, none, .box (.t 0) 36⟩,
     ⟨some 2, none, .alloc [.bool false, .int .i64 0, .int .i64 0, .int .i64 0, .bool false, .int .i64 0, .int .i64 0, .int .i64 0, .bool false, .int .i64 0, .int .i64 0, .int .i64 0, .bool false, .int .i64 0, .int .i64 0, .int .i64 0, .bool false, .int .i64 0, .int .i64 0, .int .i64 0, .bool false, .int .i64 0, .int .i64 0, .int .i64 0, .bool false, .int .i64 0, .int .i64 0, .int .i64 0, .bool false, .int .i64 0, .int .i64 0, .int .i64 0, .bool false, .int .i64 0, .int .i64 0, .int .i64 0, .bool false, .int .i64 0, .int .i64 0, .int .i64 0, .bool false, .int .i64 0, .int .i64 0, .int .i64 0, .bool false, .int .i64 0, .int .i64 0, .int .i64 0, .bool false, .int .i64 0, .int .i64 0, .int .i64 0, .bool false, .int .i64 0, .int .i64 0, .int .i64 0, .bool false, .int .i64 0, .int .i64 0, .int .i64 0, .bool false, .int .i64 0, .int .i64 0, .int .i64 0] 41⟩])
  (.seq (.reg false [⟨some 3, none, .alloc [.bool false, .int .i64 0, .int .i64 0, .int .i64 0, .bool false, .int .i64 0, .int .i64 0, .int .i64 0, .bool false, .int .i64 0, .int .i64 0, .int .i64 0, .bool false, .int .i64 0, .int .i64 0, .int .i64 0, .bool false, .int .i64 0, .int .i64 0, .int .i64 0, .bool false, .int .i64 0, .int .i64 0, .int .i64 0, .bool false, .int .i64 0, .int .i64 0, .int .i64 0, .bool false, .int .i64 0, .int .i64 0, .int .i64 0, .bool false, .int .i64 0, .int .i64 0, .int .i64 0, .bool false, .int .i64 0, .int .i64 0, .int .i64 0, .bool false, .int .i64 0, .int .i64 0, .int .i64 0, .bool false, .int .i64 0, .int .i64 0, .int .i64 0, .bool false, .int .i64 0, .int .i64 0, .int .i64 0, .bool false, .int .i64 0, .int .i64 0, .int .i64 0, .bool false, .int .i64 0, .int .i64 0, .int .i64 0, .bool false, .int .i64 0, .int .i64 0, .int .i64 0] 41⟩])
  (.seq (.seq (.reg false [⟨some 4, none, .mov (.k (.c (.int .i64 0)))⟩])
   (.block 0 (some [1, 2, 3, 4]) (some [2, 3])
   (.loop c_laws_toTwigA16_b0)))
  (.seq (.reg false [⟨some 15, none, .loadN (.t 3) 64⟩,
     ⟨none, none, .store (.t 2) (.t 15) 64⟩])
  (.ret (some [2]))))))⟩
theorem c_laws_toTwigA16_ok : trF Try.prog ⟨[(0, [1, 2, 3, 4], [2, 3])], [2], false⟩ Try.f53 = some c_laws_toTwigA16 := by kernel_rfl
def c_impl_Tree_isPart : IFn := ⟨71, [.t 10],
  (.seq (.reg false [⟨some 5, none, .box (.t 0) 43⟩,
     ⟨some 10, none, .mov (.k (.c (.bool false)))⟩])
  (.seq (.seq (.reg false [⟨some 12, none, .mov (.t 1)⟩,
      ⟨some 13, none, .bin .eql (.t 12) (.k (.c (.int .i64 (-1))))⟩])
   (.cond (.t 13) (.seq (.reg false [⟨some 10, none, .mov (.k (.c (.bool true)))⟩])
    (.ret (some [10]))) .skip))
  (.seq (.seq (.reg false [⟨some 14, none, .mov (.t 1)⟩,
      ⟨some 15, none, .call 51 [.t 14, .k (.c (.int .i64 0)), .k (.c (.int .i64 15))]⟩,
      ⟨some 16, none, .un .not (.t 15)⟩,
      ⟨some 17, none, .mov (.t 16)⟩,
      ⟨some 18, some (17, false), .mov (.t 4)⟩,
      ⟨some 19, some (17, false), .mov (.t 1)⟩,
      ⟨some 20, some (17, false), .chk (.t 18)⟩,
      ⟨some 21, some (17, false), .ixa (.t 20) (.t 19) 16 1⟩,
      ⟨some 22, some (17, false), .load1 (.t 21)⟩,
      ⟨some 23, none, .pick (.t 17) (.k (.c (.bool true))) (.t 22)⟩,
      ⟨some 24, none, .mov (.t 23)⟩,
      ⟨some 25, some (24, false), .mov (.t 1)⟩,
      ⟨some 26, some (24, false), .fld (.t 5) 0⟩,
      ⟨some 27, some (24, false), .ixa (.t 26) (.t 25) 16 4⟩,
      ⟨some 28, some (24, false), .fld (.t 27) 0⟩,
      ⟨some 29, some (24, false), .load1 (.t 28)⟩,
      ⟨some 30, some (24, false), .un .not (.t 29)⟩,
      ⟨some 31, none, .pick (.t 24) (.k (.c (.bool true))) (.t 30)⟩,
      ⟨some 32, none, .mov (.t 31)⟩,
      ⟨some 33, some (32, false), .mov (.t 1)⟩,
      ⟨some 34, some (32, false), .fld (.t 5) 0⟩,
      ⟨some 35, some (32, false), .ixa (.t 34) (.t 33) 16 4⟩,
      ⟨some 36, some (32, false), .fld (.t 35) 1⟩,
      ⟨some 37, some (32, false), .load1 (.t 36)⟩,
      ⟨some 38, some (32, false), .mov (.t 2)⟩,
      ⟨some 39, some (32, false), .mov (.t 3)⟩,
      ⟨some 40, some (32, false), .call 51 [.t 37, .t 38, .t 39]⟩,
      ⟨some 41, some (32, false), .un .not (.t 40)⟩,
      ⟨some 42, none, .pick (.t 32) (.k (.c (.bool true))) (.t 41)⟩])
   (.cond (.t 42) (.seq (.reg false [⟨some 10, none, .mov (.k (.c (.bool false)))⟩])
    (.ret (some [10]))) .skip))
  (.seq (.reg false [⟨some 43, none, .mov (.t 4)⟩,
     ⟨some 44, none, .mov (.t 1)⟩,
     ⟨some 45, none, .chk (.t 43)⟩,
     ⟨some 46, none, .ixa (.t 45) (.t 44) 16 1⟩,
     ⟨none, none, .store (.t 46) (.k (.c (.bool true))) 1⟩])
  (.seq (.reg false [⟨some 47, none, .mov (.t 1)⟩,
     ⟨some 48, none, .fld (.t 5) 0⟩,
     ⟨some 49, none, .ixa (.t 48) (.t 47) 16 4⟩,
     ⟨some 50, none, .loadN (.t 49) 4⟩,
     ⟨some 11, none, .alloc [.bool false, .int .i64 0, .int .i64 0, .int .i64 0] 40⟩,
     ⟨none, none, .store (.t 11) (.t 50) 4⟩])
  (.seq (.reg false [⟨some 51, none, .loadN (.t 5) 65⟩,
     ⟨some 52, none, .fld (.t 11) 2⟩,
     ⟨some 53, none, .load1 (.t 52)⟩,
     ⟨some 54, none, .mov (.t 2)⟩,
     ⟨some 55, none, .fld (.t 11) 1⟩,
     ⟨some 56, none, .load1 (.t 55)⟩,
     ⟨some 57, none, .bin .sub (.t 56) (.k (.c (.int .i64 1)))⟩,
     ⟨some 58, none, .mov (.t 4)⟩,
     ⟨some 59, none, .call 54 [.t 51, .t 53, .t 54, .t 57, .t 58]⟩,
     ⟨some 60, none, .mov (.t 59)⟩,
     ⟨some 61, some (60, true), .loadN (.t 5) 65⟩,
     ⟨some 62, some (60, true), .fld (.t 11) 3⟩,
     ⟨some 63, some (60, true), .load1 (.t 62)⟩,
     ⟨some 64, some (60, true), .fld (.t 11) 1⟩,
     ⟨some 65, some (60, true), .load1 (.t 64)⟩,
     ⟨some 66, some (60, true), .bin .add (.t 65) (.k (.c (.int .i64 1)))⟩,
     ⟨some 67, some (60, true), .mov (.t 3)⟩,
     ⟨some 68, some (60, true), .mov (.t 4)⟩,
     ⟨some 69, some (60, true), .call 54 [.t 61, .t 63, .t 66, .t 67, .t 68]⟩,
     ⟨some 70, none, .pick (.t 60) (.t 69) (.k (.c (.bool false)))⟩,
     ⟨some 10, none, .mov (.t 70)⟩])
  (.ret (some [10]))))))))⟩
theorem c_impl_Tree_isPart_ok : trF Try.prog ⟨[], [10], false⟩ Try.f54 = some c_impl_Tree_isPart := by kernel_rfl
def c_spec_l1All_b0 : IC :=
  (.seq (.seq (.reg false [⟨some 8, none, .mov (.t 7)⟩,
      ⟨some 9, none, .mov (.t 0)⟩,
      ⟨some 10, none, .len (.t 9)⟩,
      ⟨some 11, none, .bin .lss (.t 8) (.t 10)⟩])
   (.cond (.t 11) .skip (.exit 0)))
  (.seq (.block 1 none none
   (.seq (.reg false [⟨some 14, none, .mov (.t 0)⟩,
       ⟨some 15, none, .mov (.t 7)⟩,
       ⟨some 16, none, .ixs (.t 14) (.t 15) 1⟩,
       ⟨some 17, none, .load1 (.t 16)⟩,
       ⟨some 18, none, .mov (.t 1)⟩,
       ⟨some 19, none, .mov (.t 2)⟩,
       ⟨some 20, none, .call 48 [.t 17, .t 18, .t 19]⟩,
       ⟨some 21, none, .un .not (.t 20)⟩])
    (.cond (.t 21) (.seq (.reg false [⟨some 6, none, .mov (.k (.c (.bool false)))⟩])
     (.ret (some [6]))) .skip)))
  (.reg false [⟨some 12, none, .mov (.t 7)⟩,
    ⟨some 13, none, .bin .add (.t 12) (.k (.c (.int .i64 1)))⟩,
    ⟨some 7, none, .mov (.t 13)⟩])))
def c_spec_l1All : IFn := ⟨22, [.t 6],
  (.seq (.reg false [⟨some 6, none, .mov (.k (.c (.bool false)))⟩])
  (.seq (.seq (.reg false [⟨some 7, none, .mov (.k (.c (.int .i64 0)))⟩])
   (.block 0 (some [0, 1, 2, 7]) (some [])
   (.loop c_spec_l1All_b0)))
  (.seq (.reg false [⟨some 6, none, .mov (.k (.c (.bool true)))⟩])
  (.ret (some [6])))))⟩
theorem c_spec_l1All_ok : trF Try.prog ⟨[(0, [0, 1, 2, 7], [])], [6], false⟩ Try.f55 = some c_spec_l1All := by kernel_rfl
def c_spec_NewTree : IFn := ⟨2, [.cell 0 65 true],
  (.seq (.reg false [⟨some 0, none, .alloc [.bool false, .int .i64 0, .int .i64 0, .int .i64 0, .bool false, .int .i64 0, .int .i64 0, .int .i64 0, .bool false, .int .i64 0, .int .i64 0, .int .i64 0, .bool false, .int .i64 0, .int .i64 0, .int .i64 0, .bool false, .int .i64 0, .int .i64 0, .int .i64 0, .bool false, .int .i64 0, .int .i64 0, .int .i64 0, .bool false, .int .i64 0, .int .i64 0, .int .i64 0, .bool false, .int .i64 0, .int .i64 0, .int .i64 0, .bool false, .int .i64 0, .int .i64 0, .int .i64 0, .bool false, .int .i64 0, .int .i64 0, .int .i64 0, .bool false, .int .i64 0, .int .i64 0, .int .i64 0, .bool false, .int .i64 0, .int .i64 0, .int .i64 0, .bool false, .int .i64 0, .int .i64 0, .int .i64 0, .bool false, .int .i64 0, .int .i64 0, .int .i64 0, .bool false, .int .i64 0, .int .i64 0, .int .i64 0, .bool false, .int .i64 0, .int .i64 0, .int .i64 0, .int .i64 0] 43⟩])
  (.seq (.reg false [⟨some 1, none, .bld [.bool false, .int .i64 0, .int .i64 0, .int .i64 0, .bool false, .int .i64 0, .int .i64 0, .int .i64 0, .bool false, .int .i64 0, .int .i64 0, .int .i64 0, .bool false, .int .i64 0, .int .i64 0, .int .i64 0, .bool false, .int .i64 0, .int .i64 0, .int .i64 0, .bool false, .int .i64 0, .int .i64 0, .int .i64 0, .bool false, .int .i64 0, .int .i64 0, .int .i64 0, .bool false, .int .i64 0, .int .i64 0, .int .i64 0, .bool false, .int .i64 0, .int .i64 0, .int .i64 0, .bool false, .int .i64 0, .int .i64 0, .int .i64 0, .bool false, .int .i64 0, .int .i64 0, .int .i64 0, .bool false, .int .i64 0, .int .i64 0, .int .i64 0, .bool false, .int .i64 0, .int .i64 0, .int .i64 0, .bool false, .int .i64 0, .int .i64 0, .int .i64 0, .bool false, .int .i64 0, .int .i64 0, .int .i64 0, .bool false, .int .i64 0, .int .i64 0, .int .i64 0, .int .i64 0] [(64, (1, .k (.c (.int .i64 (-1)))))]⟩,
     ⟨none, none, .store (.t 0) (.t 1) 65⟩])
  (.ret (some [0]))))⟩
theorem c_spec_NewTree_ok : trF Try.prog ⟨[], [0], false⟩ Try.f56 = some c_spec_NewTree := by kernel_rfl
def c_spec_l15Build : IFn := ⟨58, [.cell 6 65 true, .t 7, .t 8],
  (.seq (.reg false [⟨some 3, none, .box (.t 0) 43⟩,
     ⟨some 6, none, .alloc [.bool false, .int .i64 0, .int .i64 0, .int .i64 0, .bool false, .int .i64 0, .int .i64 0, .int .i64 0, .bool false, .int .i64 0, .int .i64 0, .int .i64 0, .bool false, .int .i64 0, .int .i64 0, .int .i64 0, .bool false, .int .i64 0, .int .i64 0, .int .i64 0, .bool false, .int .i64 0, .int .i64 0, .int .i64 0, .bool false, .int .i64 0, .int .i64 0, .int .i64 0, .bool false, .int .i64 0, .int .i64 0, .int .i64 0, .bool false, .int .i64 0, .int .i64 0, .int .i64 0, .bool false, .int .i64 0, .int .i64 0, .int .i64 0, .bool false, .int .i64 0, .int .i64 0, .int .i64 0, .bool false, .int .i64 0, .int .i64 0, .int .i64 0, .bool false, .int .i64 0, .int .i64 0, .int .i64 0, .bool false, .int .i64 0, .int .i64 0, .int .i64 0, .bool false, .int .i64 0, .int .i64 0, .int .i64 0, .bool false, .int .i64 0, .int .i64 0, .int .i64 0, .int .i64 0] 43⟩,
     ⟨some 7, none, .mov (.k (.c (.int .i64 0)))⟩,
     ⟨some 8, none, .mov (.k (.c (.int .i64 0)))⟩])
  (.seq (.reg false [⟨some 14, none, .mov (.t 1)⟩,
     ⟨some 15, none, .len (.t 14)⟩,
     ⟨some 9, none, .mov (.t 15)⟩])
  (.seq (.seq (.reg false [⟨some 16, none, .mov (.t 9)⟩,
      ⟨some 17, none, .bin .eql (.t 16) (.k (.c (.int .i64 0)))⟩])
   (.cond (.t 17) (.seq (.reg false [⟨some 18, none, .loadN (.t 3) 65⟩,
       ⟨some 19, none, .mov (.t 2)⟩,
       ⟨none, none, .store (.t 6) (.t 18) 65⟩,
       ⟨some 7, none, .mov (.k (.c (.int .i64 (-1))))⟩,
       ⟨some 8, none, .mov (.t 19)⟩])
    (.ret (some [6, 7, 8]))) .skip))
  (.seq (.regE 0 [⟨⟨some 21, none, .loadN (.t 3) 65⟩, 0, 0, false, []⟩,
     ⟨⟨some 22, none, .mov (.t 1)⟩, 1, 0, false, []⟩,
     ⟨⟨some 23, none, .mov (.t 9)⟩, 2, 0, false, []⟩,
     ⟨⟨some 24, none, .bin .quo (.t 23) (.k (.c (.int .i64 2)))⟩, 3, 0, false, []⟩,
     ⟨⟨some 25, none, .sls (.t 22) 1 none (some (.t 24))⟩, 4, 0, false, []⟩,
     ⟨⟨some 26, none, .mov (.t 2)⟩, 5, 0, false, []⟩,
     ⟨⟨some 27, none, .bin .add (.t 26) (.k (.c (.int .i64 1)))⟩, 6, 0, false, []⟩,
     ⟨⟨some 28, none, .call 57 [.t 21, .t 25, .t 27]⟩, 7, 0, false, []⟩,
     ⟨⟨some 20, none, .mov (.t 28)⟩, 8, 0, false, []⟩,
     ⟨⟨some 29, none, .ext (.t 20) 0⟩, 9, 0, false, []⟩,
     ⟨⟨some 30, none, .ext (.t 20) 1⟩, 10, 0, false, []⟩,
     ⟨⟨some 31, none, .ext (.t 20) 2⟩, 11, 0, false, []⟩,
     ⟨⟨none, none, .store (.t 3) (.t 29) 65⟩, 12, 0, false, []⟩,
     ⟨⟨some 10, none, .mov (.t 30)⟩, 13, 0, false, []⟩,
     ⟨⟨some 11, none, .mov (.t 31)⟩, 14, 0, false, []⟩])
  (.seq (.regE 0 [⟨⟨some 33, none, .loadN (.t 3) 65⟩, 0, 0, false, []⟩,
     ⟨⟨some 34, none, .mov (.t 1)⟩, 1, 0, false, []⟩,
     ⟨⟨some 35, none, .mov (.t 9)⟩, 2, 0, false, []⟩,
     ⟨⟨some 36, none, .bin .quo (.t 35) (.k (.c (.int .i64 2)))⟩, 3, 0, false, []⟩,
     ⟨⟨some 37, none, .bin .add (.t 36) (.k (.c (.int .i64 1)))⟩, 4, 0, false, []⟩,
     ⟨⟨some 38, none, .sls (.t 34) 1 (some (.t 37)) none⟩, 5, 0, false, []⟩,
     ⟨⟨some 39, none, .mov (.t 11)⟩, 6, 0, false, []⟩,
     ⟨⟨some 40, none, .call 57 [.t 33, .t 38, .t 39]⟩, 7, 0, false, []⟩,
     ⟨⟨some 32, none, .mov (.t 40)⟩, 8, 0, false, []⟩,
     ⟨⟨some 41, none, .ext (.t 32) 0⟩, 9, 0, false, []⟩,
     ⟨⟨some 42, none, .ext (.t 32) 1⟩, 10, 0, false, []⟩,
     ⟨⟨some 43, none, .ext (.t 32) 2⟩, 11, 0, false, []⟩,
     ⟨⟨none, none, .store (.t 3) (.t 41) 65⟩, 12, 0, false, []⟩,
     ⟨⟨some 12, none, .mov (.t 42)⟩, 13, 0, false, []⟩,
     ⟨⟨some 13, none, .mov (.t 43)⟩, 14, 0, false, []⟩])
  (.seq (.reg false [⟨some 44, none, .mov (.t 2)⟩,
     ⟨some 45, none, .mov (.t 1)⟩,
     ⟨some 46, none, .mov (.t 9)⟩,
     ⟨some 47, none, .bin .quo (.t 46) (.k (.c (.int .i64 2)))⟩,
     ⟨some 48, none, .ixs (.t 45) (.t 47) 1⟩,
     ⟨some 49, none, .load1 (.t 48)⟩,
     ⟨some 50, none, .mov (.t 10)⟩,
     ⟨some 51, none, .mov (.t 12)⟩,
     ⟨some 52, none, .bld [.bool false, .int .i64 0, .int .i64 0, .int .i64 0] [(0, (1, .k (.c (.bool true)))), (1, (1, .t 49)), (2, (1, .t 50)), (3, (1, .t 51))]⟩,
     ⟨some 53, none, .fld (.t 3) 0⟩,
     ⟨some 54, none, .ixa (.t 53) (.t 44) 16 4⟩,
     ⟨none, none, .store (.t 54) (.t 52) 4⟩])
  (.seq (.reg false [⟨some 55, none, .loadN (.t 3) 65⟩,
     ⟨some 56, none, .mov (.t 2)⟩,
     ⟨some 57, none, .mov (.t 13)⟩,
     ⟨none, none, .store (.t 6) (.t 55) 65⟩,
     ⟨some 7, none, .mov (.t 56)⟩,
     ⟨some 8, none, .mov (.t 57)⟩])
  (.ret (some [6, 7, 8])))))))))⟩
theorem c_spec_l15Build_ok : trF Try.prog ⟨[], [6, 7, 8], false⟩ Try.f57 = some c_spec_l15Build := by kernel_rfl
def c_impl_NewTree : IFn := ⟨2, [.cell 0 65 true],
  (.seq (.reg false [⟨some 0, none, .alloc [.bool false, .int .i64 0, .int .i64 0, .int .i64 0, .bool false, .int .i64 0, .int .i64 0, .int .i64 0, .bool false, .int .i64 0, .int .i64 0, .int .i64 0, .bool false, .int .i64 0, .int .i64 0, .int .i64 0, .bool false, .int .i64 0, .int .i64 0, .int .i64 0, .bool false, .int .i64 0, .int .i64 0, .int .i64 0, .bool false, .int .i64 0, .int .i64 0, .int .i64 0, .bool false, .int .i64 0, .int .i64 0, .int .i64 0, .bool false, .int .i64 0, .int .i64 0, .int .i64 0, .bool false, .int .i64 0, .int .i64 0, .int .i64 0, .bool false, .int .i64 0, .int .i64 0, .int .i64 0, .bool false, .int .i64 0, .int .i64 0, .int .i64 0, .bool false, .int .i64 0, .int .i64 0, .int .i64 0, .bool false, .int .i64 0, .int .i64 0, .int .i64 0, .bool false, .int .i64 0, .int .i64 0, .int .i64 0, .bool false, .int .i64 0, .int .i64 0, .int .i64 0, .int .i64 0] 43⟩])
  (.seq (.reg false [⟨some 1, none, .bld [.bool false, .int .i64 0, .int .i64 0, .int .i64 0, .bool false, .int .i64 0, .int .i64 0, .int .i64 0, .bool false, .int .i64 0, .int .i64 0, .int .i64 0, .bool false, .int .i64 0, .int .i64 0, .int .i64 0, .bool false, .int .i64 0, .int .i64 0, .int .i64 0, .bool false, .int .i64 0, .int .i64 0, .int .i64 0, .bool false, .int .i64 0, .int .i64 0, .int .i64 0, .bool false, .int .i64 0, .int .i64 0, .int .i64 0, .bool false, .int .i64 0, .int .i64 0, .int .i64 0, .bool false, .int .i64 0, .int .i64 0, .int .i64 0, .bool false, .int .i64 0, .int .i64 0, .int .i64 0, .bool false, .int .i64 0, .int .i64 0, .int .i64 0, .bool false, .int .i64 0, .int .i64 0, .int .i64 0, .bool false, .int .i64 0, .int .i64 0, .int .i64 0, .bool false, .int .i64 0, .int .i64 0, .int .i64 0, .bool false, .int .i64 0, .int .i64 0, .int .i64 0, .int .i64 0] [(64, (1, .k (.c (.int .i64 (-1)))))]⟩,
     ⟨none, none, .store (.t 0) (.t 1) 65⟩])
  (.ret (some [0]))))⟩
theorem c_impl_NewTree_ok : trF Try.prog ⟨[], [0], false⟩ Try.f58 = some c_impl_NewTree := by kernel_rfl
def c_impl_Tree_build : IFn := ⟨56, [.t 6, .t 7],
  (.seq (.reg false [⟨some 6, none, .mov (.k (.c (.int .i64 0)))⟩,
     ⟨some 7, none, .mov (.k (.c (.int .i64 0)))⟩])
  (.seq (.seq (.reg false [⟨some 14, none, .mov (.t 1)⟩,
      ⟨some 15, none, .len (.t 14)⟩,
      ⟨some 16, none, .bin .eql (.t 15) (.k (.c (.int .i64 0)))⟩])
   (.cond (.t 16) (.seq (.reg false [⟨some 17, none, .mov (.t 2)⟩,
       ⟨some 6, none, .mov (.k (.c (.int .i64 (-1))))⟩,
       ⟨some 7, none, .mov (.t 17)⟩])
    (.ret (some [6, 7]))) .skip))
  (.seq (.reg false [⟨some 18, none, .mov (.t 2)⟩,
     ⟨some 19, none, .mov (.t 1)⟩,
     ⟨some 20, none, .len (.t 19)⟩,
     ⟨some 21, none, .bin .quo (.t 20) (.k (.c (.int .i64 2)))⟩,
     ⟨some 8, none, .mov (.t 18)⟩,
     ⟨some 9, none, .mov (.t 21)⟩])
  (.seq (.reg false [⟨some 23, none, .mov (.t 0)⟩,
     ⟨some 24, none, .mov (.t 1)⟩,
     ⟨some 25, none, .mov (.t 9)⟩,
     ⟨some 26, none, .sls (.t 24) 1 none (some (.t 25))⟩,
     ⟨some 27, none, .mov (.t 2)⟩,
     ⟨some 28, none, .bin .add (.t 27) (.k (.c (.int .i64 1)))⟩,
     ⟨some 29, none, .call 59 [.t 23, .t 26, .t 28]⟩,
     ⟨some 22, none, .mov (.t 29)⟩,
     ⟨some 30, none, .ext (.t 22) 0⟩,
     ⟨some 31, none, .ext (.t 22) 1⟩,
     ⟨some 10, none, .mov (.t 30)⟩,
     ⟨some 11, none, .mov (.t 31)⟩])
  (.seq (.reg false [⟨some 33, none, .mov (.t 0)⟩,
     ⟨some 34, none, .mov (.t 1)⟩,
     ⟨some 35, none, .mov (.t 9)⟩,
     ⟨some 36, none, .bin .add (.t 35) (.k (.c (.int .i64 1)))⟩,
     ⟨some 37, none, .sls (.t 34) 1 (some (.t 36)) none⟩,
     ⟨some 38, none, .mov (.t 11)⟩,
     ⟨some 39, none, .call 59 [.t 33, .t 37, .t 38]⟩,
     ⟨some 32, none, .mov (.t 39)⟩,
     ⟨some 40, none, .ext (.t 32) 0⟩,
     ⟨some 41, none, .ext (.t 32) 1⟩,
     ⟨some 12, none, .mov (.t 40)⟩,
     ⟨some 13, none, .mov (.t 41)⟩])
  (.seq (.regE 0 [⟨⟨some 42, none, .mov (.t 0)⟩, 0, 0, false, []⟩,
     ⟨⟨some 43, none, .mov (.t 8)⟩, 1, 0, false, []⟩,
     ⟨⟨some 44, none, .mov (.t 1)⟩, 2, 0, false, []⟩,
     ⟨⟨some 45, none, .mov (.t 9)⟩, 3, 0, false, []⟩,
     ⟨⟨some 46, none, .ixs (.t 44) (.t 45) 1⟩, 4, 0, false, []⟩,
     ⟨⟨some 47, none, .load1 (.t 46)⟩, 5, 0, false, []⟩,
     ⟨⟨some 48, none, .mov (.t 10)⟩, 6, 0, false, []⟩,
     ⟨⟨some 49, none, .mov (.t 12)⟩, 7, 0, false, []⟩,
     ⟨⟨some 50, none, .bld [.bool false, .int .i64 0, .int .i64 0, .int .i64 0] [(0, (1, .k (.c (.bool true)))), (1, (1, .t 47)), (2, (1, .t 48)), (3, (1, .t 49))]⟩, 8, 0, false, []⟩,
     ⟨⟨some 51, none, .chk (.t 42)⟩, 9, 0, false, []⟩,
     ⟨⟨some 52, none, .fld (.t 51) 0⟩, 10, 0, false, []⟩,
     ⟨⟨some 53, none, .ixa (.t 52) (.t 43) 16 4⟩, 11, 0, false, []⟩,
     ⟨⟨none, none, .store (.t 53) (.t 50) 4⟩, 12, 0, false, []⟩])
  (.seq (.reg false [⟨some 54, none, .mov (.t 8)⟩,
     ⟨some 55, none, .mov (.t 13)⟩,
     ⟨some 6, none, .mov (.t 54)⟩,
     ⟨some 7, none, .mov (.t 55)⟩])
  (.ret (some [6, 7])))))))))⟩
theorem c_impl_Tree_build_ok : trF Try.prog ⟨[], [6, 7], false⟩ Try.f59 = some c_impl_Tree_build := by kernel_rfl
def c_laws_eqTwigA16_b0 : IC :=
  (.seq (.seq (.reg false [⟨some 6, none, .mov (.t 5)⟩,
      ⟨some 7, none, .bin .lss (.t 6) (.k (.c (.int .i64 16)))⟩])
   (.cond (.t 7) .skip (.exit 0)))
  (.seq (.block 1 none none
   (.seq (.reg true [⟨some 10, none, .mov (.t 5)⟩,
       ⟨some 11, none, .ixa (.t 2) (.t 10) 16 4⟩,
       ⟨some 12, none, .loadN (.t 11) 4⟩,
       ⟨some 13, none, .mov (.t 5)⟩,
       ⟨some 14, none, .ixa (.t 3) (.t 13) 16 4⟩,
       ⟨some 15, none, .loadN (.t 14) 4⟩,
       ⟨some 16, none, .call 74 [.t 12, .t 15]⟩,
       ⟨some 17, none, .un .not (.t 16)⟩])
    (.cond (.t 17) (.seq (.reg false [⟨some 4, none, .mov (.k (.c (.bool false)))⟩])
     (.ret (some [4]))) .skip)))
  (.reg false [⟨some 8, none, .mov (.t 5)⟩,
    ⟨some 9, none, .bin .add (.t 8) (.k (.c (.int .i64 1)))⟩,
    ⟨some 5, none, .mov (.t 9)⟩])))
def c_laws_eqTwigA16 : IFn := ⟨18, [.t 4],
  (.seq (.reg false [⟨some 2, none, .box (.t 0) 41⟩,
     ⟨some 3, none, .box (.t 1) 41⟩,
     ⟨some 4, none, .mov (.k (.c (.bool false)))⟩])
  (.seq (.seq (.reg false [⟨some 5, none, .mov (.k (.c (.int .i64 0)))⟩])
   (.block 0 (some [2, 3, 5]) (some [])
   (.loop c_laws_eqTwigA16_b0)))
  (.seq (.reg false [⟨some 4, none, .mov (.k (.c (.bool true)))⟩])
  (.ret (some [4])))))⟩
theorem c_laws_eqTwigA16_ok : trF Try.prog ⟨[(0, [2, 3, 5], [])], [4], false⟩ Try.f60 = some c_laws_eqTwigA16 := by kernel_rfl
def c_spec_l15High : IFn := ⟨23, [.t 4],
  (.seq (.reg false [⟨some 2, none, .box (.t 0) 43⟩,
     ⟨some 4, none, .mov (.k (.c (.int .i64 0)))⟩])
  (.seq (.seq (.reg false [⟨some 5, none, .mov (.t 1)⟩,
      ⟨some 6, none, .bin .lss (.t 5) (.k (.c (.int .i64 0)))⟩])
   (.cond (.t 6) (.seq (.reg false [⟨some 4, none, .mov (.k (.c (.int .i64 0)))⟩])
    (.ret (some [4]))) .skip))
  (.seq (.reg true [⟨some 7, none, .loadN (.t 2) 65⟩,
     ⟨some 8, none, .mov (.t 1)⟩,
     ⟨some 9, none, .fld (.t 2) 0⟩,
     ⟨some 10, none, .ixa (.t 9) (.t 8) 16 4⟩,
     ⟨some 11, none, .fld (.t 10) 2⟩,
     ⟨some 12, none, .load1 (.t 11)⟩,
     ⟨some 13, none, .call 61 [.t 7, .t 12]⟩,
     ⟨some 14, none, .loadN (.t 2) 65⟩,
     ⟨some 15, none, .mov (.t 1)⟩,
     ⟨some 16, none, .fld (.t 2) 0⟩,
     ⟨some 17, none, .ixa (.t 16) (.t 15) 16 4⟩,
     ⟨some 18, none, .fld (.t 17) 3⟩,
     ⟨some 19, none, .load1 (.t 18)⟩,
     ⟨some 20, none, .call 61 [.t 14, .t 19]⟩,
     ⟨some 21, none, .call 75 [.t 13, .t 20]⟩,
     ⟨some 22, none, .bin .add (.k (.c (.int .i64 1))) (.t 21)⟩,
     ⟨some 4, none, .mov (.t 22)⟩])
  (.ret (some [4])))))⟩
theorem c_spec_l15High_ok : trF Try.prog ⟨[], [4], false⟩ Try.f61 = some c_spec_l15High := by kernel_rfl
def c_impl_Tree_high : IFn := ⟨23, [.t 4],
  (.seq (.reg false [⟨some 2, none, .box (.t 0) 43⟩,
     ⟨some 4, none, .mov (.k (.c (.int .i64 0)))⟩])
  (.seq (.seq (.reg false [⟨some 5, none, .mov (.t 1)⟩,
      ⟨some 6, none, .bin .eql (.t 5) (.k (.c (.int .i64 (-1))))⟩])
   (.cond (.t 6) (.seq (.reg false [⟨some 4, none, .mov (.k (.c (.int .i64 0)))⟩])
    (.ret (some [4]))) .skip))
  (.seq (.reg true [⟨some 7, none, .loadN (.t 2) 65⟩,
     ⟨some 8, none, .mov (.t 1)⟩,
     ⟨some 9, none, .fld (.t 2) 0⟩,
     ⟨some 10, none, .ixa (.t 9) (.t 8) 16 4⟩,
     ⟨some 11, none, .fld (.t 10) 2⟩,
     ⟨some 12, none, .load1 (.t 11)⟩,
     ⟨some 13, none, .call 62 [.t 7, .t 12]⟩,
     ⟨some 14, none, .loadN (.t 2) 65⟩,
     ⟨some 15, none, .mov (.t 1)⟩,
     ⟨some 16, none, .fld (.t 2) 0⟩,
     ⟨some 17, none, .ixa (.t 16) (.t 15) 16 4⟩,
     ⟨some 18, none, .fld (.t 17) 3⟩,
     ⟨some 19, none, .load1 (.t 18)⟩,
     ⟨some 20, none, .call 62 [.t 14, .t 19]⟩,
     ⟨some 21, none, .mxi false (.t 13) (.t 20)⟩,
     ⟨some 22, none, .bin .add (.k (.c (.int .i64 1))) (.t 21)⟩,
     ⟨some 4, none, .mov (.t 22)⟩])
  (.ret (some [4])))))⟩
theorem c_impl_Tree_high_ok : trF Try.prog ⟨[], [4], false⟩ Try.f62 = some c_impl_Tree_high := by kernel_rfl
def c_spec_l13Walk_b0 : IC :=
  (.seq (.seq (.reg false [⟨some 13, none, .mov (.t 10)⟩,
      ⟨some 14, none, .bin .neq (.t 13) (.k (.c (.int .i64 (-1))))⟩])
   (.cond (.t 14) .skip (.exit 0)))
  (.seq (.block 1 none none
   (.seq (.seq (.reg false [⟨some 20, none, .mov (.t 9)⟩,
        ⟨some 21, none, .bin .eql (.t 20) (.k (.c (.int .i64 10)))⟩])
     (.cond (.t 21) (.seq (.reg false [⟨some 22, none, .mov (.t 9)⟩,
         ⟨some 4, none, .mov (.k (.c (.int .i64 0)))⟩,
         ⟨some 5, none, .mov (.k (.c (.int .i64 0)))⟩,
         ⟨some 6, none, .mov (.t 22)⟩,
         ⟨some 7, none, .mov (.k (.c (.bool false)))⟩])
      (.ret (some [4, 5, 6, 7]))) .skip))
    (.seq (.reg false [⟨some 23, none, .mov (.t 9)⟩,
       ⟨some 24, none, .bin .add (.t 23) (.k (.c (.int .i64 1)))⟩,
       ⟨some 9, none, .mov (.t 24)⟩])
    (.seq (.seq (.reg false [⟨some 25, none, .mov (.t 10)⟩,
        ⟨some 26, none, .fld (.t 2) 0⟩,
        ⟨some 27, none, .ixa (.t 26) (.t 25) 16 4⟩,
        ⟨some 28, none, .fld (.t 27) 1⟩,
        ⟨some 29, none, .load1 (.t 28)⟩,
        ⟨some 30, none, .mov (.t 1)⟩,
        ⟨some 31, none, .bin .geq (.t 29) (.t 30)⟩])
     (.cond (.t 31) (.seq (.reg false [⟨some 32, none, .mov (.t 10)⟩,
         ⟨some 33, none, .mov (.t 8)⟩,
         ⟨some 34, none, .mov (.t 9)⟩,
         ⟨some 4, none, .mov (.t 32)⟩,
         ⟨some 5, none, .mov (.t 33)⟩,
         ⟨some 6, none, .mov (.t 34)⟩,
         ⟨some 7, none, .mov (.k (.c (.bool true)))⟩])
      (.ret (some [4, 5, 6, 7]))) .skip))
    (.reg false [⟨some 35, none, .mov (.t 10)⟩,
      ⟨some 8, none, .mov (.t 35)⟩])))))
  (.reg false [⟨some 15, none, .mov (.t 10)⟩,
    ⟨some 16, none, .fld (.t 2) 0⟩,
    ⟨some 17, none, .ixa (.t 16) (.t 15) 16 4⟩,
    ⟨some 18, none, .fld (.t 17) 3⟩,
    ⟨some 19, none, .load1 (.t 18)⟩,
    ⟨some 10, none, .mov (.t 19)⟩])))
def c_spec_l13Walk : IFn := ⟨38, [.t 4, .t 5, .t 6, .t 7],
  (.seq (.reg false [⟨some 2, none, .box (.t 0) 31⟩,
     ⟨some 4, none, .mov (.k (.c (.int .i64 0)))⟩,
     ⟨some 5, none, .mov (.k (.c (.int .i64 0)))⟩,
     ⟨some 6, none, .mov (.k (.c (.int .i64 0)))⟩,
     ⟨some 7, none, .mov (.k (.c (.bool false)))⟩])
  (.seq (.reg false [⟨some 8, none, .mov (.k (.c (.int .i64 (-1))))⟩,
     ⟨some 9, none, .mov (.k (.c (.int .i64 0)))⟩])
  (.seq (.seq (.reg false [⟨some 11, none, .fld (.t 2) 64⟩,
      ⟨some 12, none, .load1 (.t 11)⟩,
      ⟨some 10, none, .mov (.t 12)⟩])
   (.block 0 (some [1, 2, 8, 9, 10]) (some [8, 9])
   (.loop c_spec_l13Walk_b0)))
  (.seq (.reg false [⟨some 36, none, .mov (.t 8)⟩,
     ⟨some 37, none, .mov (.t 9)⟩,
     ⟨some 4, none, .mov (.k (.c (.int .i64 (-1))))⟩,
     ⟨some 5, none, .mov (.t 36)⟩,
     ⟨some 6, none, .mov (.t 37)⟩,
     ⟨some 7, none, .mov (.k (.c (.bool true)))⟩])
  (.ret (some [4, 5, 6, 7]))))))⟩
theorem c_spec_l13Walk_ok : trF Try.prog ⟨[(0, [1, 2, 8, 9, 10], [8, 9])], [4, 5, 6, 7], false⟩ Try.f63 = some c_spec_l13Walk := by kernel_rfl
def c_impl_Chain_walk_b0 : IC :=
  (.seq (.seq (.reg false [⟨some 13, none, .mov (.t 9)⟩,
      ⟨some 14, none, .bin .neq (.t 13) (.k (.c (.int .i64 (-1))))⟩])
   (.cond (.t 14) .skip (.exit 0)))
  (.block 1 none none
  (.seq (.seq (.reg false [⟨some 15, none, .mov (.t 10)⟩,
       ⟨some 16, none, .bin .eql (.t 15) (.k (.c (.int .i64 10)))⟩])
    (.cond (.t 16) (.seq (.reg false [⟨some 17, none, .mov (.t 8)⟩,
        ⟨some 18, none, .mov (.t 9)⟩,
        ⟨some 19, none, .mov (.t 10)⟩,
        ⟨some 4, none, .mov (.t 17)⟩,
        ⟨some 5, none, .mov (.t 18)⟩,
        ⟨some 6, none, .mov (.t 19)⟩,
        ⟨some 7, none, .mov (.k (.c (.bool false)))⟩])
     (.ret (some [4, 5, 6, 7]))) .skip))
   (.seq (.reg false [⟨some 20, none, .mov (.t 10)⟩,
      ⟨some 21, none, .bin .add (.t 20) (.k (.c (.int .i64 1)))⟩,
      ⟨some 10, none, .mov (.t 21)⟩])
   (.seq (.seq (.reg false [⟨some 22, none, .mov (.t 9)⟩,
       ⟨some 23, none, .fld (.t 2) 0⟩,
       ⟨some 24, none, .ixa (.t 23) (.t 22) 16 4⟩,
       ⟨some 25, none, .fld (.t 24) 1⟩,
       ⟨some 26, none, .load1 (.t 25)⟩,
       ⟨some 27, none, .mov (.t 1)⟩,
       ⟨some 28, none, .bin .geq (.t 26) (.t 27)⟩])
    (.cond (.t 28) (.exit 0) .skip))
   (.reg true [⟨some 29, none, .mov (.t 9)⟩,
     ⟨some 30, none, .mov (.t 9)⟩,
     ⟨some 31, none, .fld (.t 2) 0⟩,
     ⟨some 32, none, .ixa (.t 31) (.t 30) 16 4⟩,
     ⟨some 33, none, .fld (.t 32) 3⟩,
     ⟨some 34, none, .load1 (.t 33)⟩,
     ⟨some 8, none, .mov (.t 29)⟩,
     ⟨some 9, none, .mov (.t 34)⟩]))))))
def c_impl_Chain_walk : IFn := ⟨38, [.t 4, .t 5, .t 6, .t 7],
  (.seq (.reg false [⟨some 2, none, .box (.t 0) 31⟩,
     ⟨some 4, none, .mov (.k (.c (.int .i64 0)))⟩,
     ⟨some 5, none, .mov (.k (.c (.int .i64 0)))⟩,
     ⟨some 6, none, .mov (.k (.c (.int .i64 0)))⟩,
     ⟨some 7, none, .mov (.k (.c (.bool false)))⟩])
  (.seq (.reg true [⟨some 11, none, .fld (.t 2) 64⟩,
     ⟨some 12, none, .load1 (.t 11)⟩,
     ⟨some 8, none, .mov (.k (.c (.int .i64 (-1))))⟩,
     ⟨some 9, none, .mov (.t 12)⟩,
     ⟨some 10, none, .mov (.k (.c (.int .i64 0)))⟩])
  (.seq (.block 0 (some [1, 2, 8, 9, 10]) (some [8, 9, 10])
   (.loop c_impl_Chain_walk_b0))
  (.seq (.reg false [⟨some 35, none, .mov (.t 8)⟩,
     ⟨some 36, none, .mov (.t 9)⟩,
     ⟨some 37, none, .mov (.t 10)⟩,
     ⟨some 4, none, .mov (.t 35)⟩,
     ⟨some 5, none, .mov (.t 36)⟩,
     ⟨some 6, none, .mov (.t 37)⟩,
     ⟨some 7, none, .mov (.k (.c (.bool true)))⟩])
  (.ret (some [4, 5, 6, 7]))))))⟩
theorem c_impl_Chain_walk_ok : trF Try.prog ⟨[(0, [1, 2, 8, 9, 10], [8, 9, 10])], [4, 5, 6, 7], false⟩ Try.f64 = some c_impl_Chain_walk := by kernel_rfl
def c_impl_Chain_has : IFn := ⟨18, [.t 6],
  (.seq (.reg false [⟨some 3, none, .box (.t 0) 31⟩,
     ⟨some 6, none, .mov (.k (.c (.bool false)))⟩])
  (.seq (.reg false [⟨some 7, none, .mov (.t 1)⟩,
     ⟨some 8, none, .bin .neq (.t 7) (.k (.c (.int .i64 (-1))))⟩,
     ⟨some 9, none, .mov (.t 8)⟩,
     ⟨some 10, some (9, true), .mov (.t 1)⟩,
     ⟨some 11, some (9, true), .fld (.t 3) 0⟩,
     ⟨some 12, some (9, true), .ixa (.t 11) (.t 10) 16 4⟩,
     ⟨some 13, some (9, true), .fld (.t 12) 1⟩,
     ⟨some 14, some (9, true), .load1 (.t 13)⟩,
     ⟨some 15, some (9, true), .mov (.t 2)⟩,
     ⟨some 16, some (9, true), .bin .eql (.t 14) (.t 15)⟩,
     ⟨some 17, none, .pick (.t 9) (.t 16) (.k (.c (.bool false)))⟩,
     ⟨some 6, none, .mov (.t 17)⟩])
  (.ret (some [6]))))⟩
theorem c_impl_Chain_has_ok : trF Try.prog ⟨[], [6], false⟩ Try.f65 = some c_impl_Chain_has := by kernel_rfl
def c_impl_Tree_keysOf : IFn := ⟨33, [.t 6],
  (.seq (.reg false [⟨some 3, none, .box (.t 0) 43⟩,
     ⟨some 6, none, .mov (.k (.c .nils))⟩])
  (.seq (.seq (.reg false [⟨some 7, none, .mov (.t 1)⟩,
      ⟨some 8, none, .bin .eql (.t 7) (.k (.c (.int .i64 (-1))))⟩])
   (.cond (.t 8) (.seq (.reg false [⟨some 9, none, .mov (.t 2)⟩,
       ⟨some 6, none, .mov (.t 9)⟩])
    (.ret (some [6]))) .skip))
  (.seq (.regE 0 [⟨⟨some 10, none, .loadN (.t 3) 65⟩, 0, 0, false, []⟩,
     ⟨⟨some 11, none, .mov (.t 1)⟩, 1, 0, false, []⟩,
     ⟨⟨some 12, none, .fld (.t 3) 0⟩, 2, 0, false, []⟩,
     ⟨⟨some 13, none, .ixa (.t 12) (.t 11) 16 4⟩, 3, 0, false, []⟩,
     ⟨⟨some 14, none, .fld (.t 13) 2⟩, 4, 0, false, []⟩,
     ⟨⟨some 15, none, .load1 (.t 14)⟩, 5, 0, false, []⟩,
     ⟨⟨some 16, none, .mov (.t 2)⟩, 6, 0, false, []⟩,
     ⟨⟨some 17, none, .call 66 [.t 10, .t 15, .t 16]⟩, 7, 0, false, []⟩,
     ⟨⟨some 2, none, .mov (.t 17)⟩, 8, 0, false, []⟩])
  (.seq (.regE 1 [⟨⟨some 18, none, .loadN (.t 3) 65⟩, 0, 0, false, []⟩,
     ⟨⟨some 19, none, .mov (.t 1)⟩, 1, 0, false, []⟩,
     ⟨⟨some 20, none, .fld (.t 3) 0⟩, 2, 0, false, []⟩,
     ⟨⟨some 21, none, .ixa (.t 20) (.t 19) 16 4⟩, 3, 0, false, []⟩,
     ⟨⟨some 22, none, .fld (.t 21) 3⟩, 4, 0, false, []⟩,
     ⟨⟨some 23, none, .load1 (.t 22)⟩, 5, 0, false, []⟩,
     ⟨⟨some 24, none, .mov (.t 2)⟩, 6, 0, false, []⟩,
     ⟨⟨some 25, none, .mov (.t 1)⟩, 7, 0, false, []⟩,
     ⟨⟨some 26, none, .fld (.t 3) 0⟩, 8, 0, false, []⟩,
     ⟨⟨some 27, none, .ixa (.t 26) (.t 25) 16 4⟩, 9, 0, false, []⟩,
     ⟨⟨some 28, none, .fld (.t 27) 1⟩, 10, 0, false, []⟩,
     ⟨⟨some 29, none, .load1 (.t 28)⟩, 11, 0, false, []⟩,
     ⟨⟨some 30, none, .lit 1 1 [.int .i64 0] [(0, .t 29)] 3⟩, 12, 0, false, [0, 2, 3, 4, 5]⟩,
     ⟨⟨some 31, none, .app (.t 24) (.t 30) 3 1 8⟩, 13, 1, false, [0, 2, 3, 4, 5]⟩,
     ⟨⟨some 32, none, .call 66 [.t 18, .t 23, .t 31]⟩, 14, 1, false, []⟩,
     ⟨⟨some 6, none, .mov (.t 32)⟩, 15, 1, false, []⟩])
  (.ret (some [6]))))))⟩
theorem c_impl_Tree_keysOf_ok : trF Try.prog ⟨[], [6], true⟩ Try.f66 = some c_impl_Tree_keysOf := by kernel_rfl
def c_spec_l15Walk_b0 : IC :=
  (.seq (.seq (.reg false [⟨some 13, none, .mov (.t 8)⟩,
      ⟨some 14, none, .bin .neq (.t 13) (.k (.c (.int .i64 (-1))))⟩])
   (.cond (.t 14) .skip (.exit 0)))
  (.block 1 none none
  (.seq (.seq (.reg false [⟨some 15, none, .mov (.t 7)⟩,
       ⟨some 16, none, .len (.t 15)⟩,
       ⟨some 17, none, .bin .eql (.t 16) (.k (.c (.int .i64 8)))⟩])
    (.cond (.t 17) (.seq (.reg false [⟨some 18, none, .mov (.t 7)⟩,
        ⟨some 4, none, .mov (.t 18)⟩,
        ⟨some 5, none, .mov (.k (.c (.bool false)))⟩,
        ⟨some 6, none, .mov (.k (.c (.bool false)))⟩])
     (.ret (some [4, 5, 6]))) .skip))
   (.seq (.reg false [⟨some 19, none, .mov (.t 7)⟩,
      ⟨some 20, none, .mov (.t 8)⟩,
      ⟨some 21, none, .lit 1 1 [.int .i64 0] [(0, .t 20)] 3⟩,
      ⟨some 22, none, .app (.t 19) (.t 21) 3 1 8⟩,
      ⟨some 7, none, .mov (.t 22)⟩])
   (.seq (.reg false [⟨some 23, none, .mov (.t 8)⟩,
      ⟨some 24, none, .fld (.t 2) 0⟩,
      ⟨some 25, none, .ixa (.t 24) (.t 23) 16 4⟩,
      ⟨some 26, none, .fld (.t 25) 1⟩,
      ⟨some 27, none, .load1 (.t 26)⟩,
      ⟨some 9, none, .mov (.t 27)⟩])
   (.seq (.seq (.reg false [⟨some 28, none, .mov (.t 9)⟩,
       ⟨some 29, none, .mov (.t 1)⟩,
       ⟨some 30, none, .bin .eql (.t 28) (.t 29)⟩])
    (.cond (.t 30) (.seq (.reg false [⟨some 31, none, .mov (.t 7)⟩,
        ⟨some 4, none, .mov (.t 31)⟩,
        ⟨some 5, none, .mov (.k (.c (.bool true)))⟩,
        ⟨some 6, none, .mov (.k (.c (.bool true)))⟩])
     (.ret (some [4, 5, 6]))) .skip))
   (.seq (.reg false [⟨some 32, none, .mov (.t 1)⟩,
      ⟨some 33, none, .mov (.t 9)⟩,
      ⟨some 34, none, .bin .lss (.t 32) (.t 33)⟩])
   (.cond (.t 34) (.reg false [⟨some 35, none, .mov (.t 8)⟩,
      ⟨some 36, none, .fld (.t 2) 0⟩,
      ⟨some 37, none, .ixa (.t 36) (.t 35) 16 4⟩,
      ⟨some 38, none, .fld (.t 37) 2⟩,
      ⟨some 39, none, .load1 (.t 38)⟩,
      ⟨some 8, none, .mov (.t 39)⟩]) (.reg false [⟨some 40, none, .mov (.t 8)⟩,
      ⟨some 41, none, .fld (.t 2) 0⟩,
      ⟨some 42, none, .ixa (.t 41) (.t 40) 16 4⟩,
      ⟨some 43, none, .fld (.t 42) 3⟩,
      ⟨some 44, none, .load1 (.t 43)⟩,
      ⟨some 8, none, .mov (.t 44)⟩])))))))))
def c_spec_l15Walk : IFn := ⟨46, [.t 4, .t 5, .t 6],
  (.seq (.reg false [⟨some 2, none, .box (.t 0) 43⟩,
     ⟨some 4, none, .mov (.k (.c .nils))⟩,
     ⟨some 5, none, .mov (.k (.c (.bool false)))⟩,
     ⟨some 6, none, .mov (.k (.c (.bool false)))⟩])
  (.seq (.reg false [⟨some 10, none, .lit 0 1 [.int .i64 0] [] 3⟩,
     ⟨some 7, none, .mov (.t 10)⟩])
  (.seq (.seq (.reg false [⟨some 11, none, .fld (.t 2) 64⟩,
      ⟨some 12, none, .load1 (.t 11)⟩,
      ⟨some 8, none, .mov (.t 12)⟩])
   (.block 0 (some [1, 2, 7, 8]) (some [7])
   (.loop c_spec_l15Walk_b0)))
  (.seq (.reg false [⟨some 45, none, .mov (.t 7)⟩,
     ⟨some 4, none, .mov (.t 45)⟩,
     ⟨some 5, none, .mov (.k (.c (.bool false)))⟩,
     ⟨some 6, none, .mov (.k (.c (.bool true)))⟩])
  (.ret (some [4, 5, 6]))))))⟩
theorem c_spec_l15Walk_ok : trF Try.prog ⟨[(0, [1, 2, 7, 8], [7])], [4, 5, 6], false⟩ Try.f67 = some c_spec_l15Walk := by kernel_rfl
def c_impl_Tree_walk_b0 : IC :=
  (.seq (.seq (.reg false [⟨some 13, none, .mov (.t 7)⟩,
      ⟨some 14, none, .chk (.t 13)⟩,
      ⟨some 15, none, .load1 (.t 14)⟩,
      ⟨some 16, none, .bin .neq (.t 15) (.k (.c (.int .i64 (-1))))⟩])
   (.cond (.t 16) .skip (.exit 0)))
  (.block 1 none none
  (.seq (.seq (.reg false [⟨some 17, none, .mov (.t 8)⟩,
       ⟨some 18, none, .bin .eql (.t 17) (.k (.c (.int .i64 8)))⟩])
    (.cond (.t 18) (.seq (.reg false [⟨some 19, none, .mov (.t 7)⟩,
        ⟨some 20, none, .mov (.t 8)⟩,
        ⟨some 4, none, .mov (.t 19)⟩,
        ⟨some 5, none, .mov (.t 20)⟩,
        ⟨some 6, none, .mov (.k (.c (.bool false)))⟩])
     (.ret (some [4, 5, 6]))) .skip))
   (.seq (.reg false [⟨some 21, none, .mov (.t 8)⟩,
      ⟨some 22, none, .bin .add (.t 21) (.k (.c (.int .i64 1)))⟩,
      ⟨some 8, none, .mov (.t 22)⟩])
   (.seq (.reg true [⟨some 23, none, .mov (.t 0)⟩,
      ⟨some 24, none, .mov (.t 7)⟩,
      ⟨some 25, none, .chk (.t 24)⟩,
      ⟨some 26, none, .load1 (.t 25)⟩,
      ⟨some 27, none, .chk (.t 23)⟩,
      ⟨some 28, none, .fld (.t 27) 0⟩,
      ⟨some 29, none, .ixa (.t 28) (.t 26) 16 4⟩,
      ⟨some 9, none, .mov (.t 29)⟩])
   (.block 2 none none
   (.seq (.reg false [⟨some 33, none, .mov (.t 1)⟩,
       ⟨some 34, none, .mov (.t 9)⟩,
       ⟨some 35, none, .chk (.t 34)⟩,
       ⟨some 36, none, .fld (.t 35) 1⟩,
       ⟨some 37, none, .load1 (.t 36)⟩,
       ⟨some 38, none, .bin .lss (.t 33) (.t 37)⟩,
       ⟨some 32, none, .mov (.t 38)⟩])
    (.cond (.t 32) (.reg false [⟨some 39, none, .mov (.t 9)⟩,
       ⟨some 40, none, .chk (.t 39)⟩,
       ⟨some 41, none, .fld (.t 40) 2⟩,
       ⟨some 7, none, .mov (.t 41)⟩]) (.seq (.reg false [⟨some 43, none, .mov (.t 1)⟩,
        ⟨some 44, none, .mov (.t 9)⟩,
        ⟨some 45, none, .chk (.t 44)⟩,
        ⟨some 46, none, .fld (.t 45) 1⟩,
        ⟨some 47, none, .load1 (.t 46)⟩,
        ⟨some 48, none, .bin .gtr (.t 43) (.t 47)⟩,
        ⟨some 42, none, .mov (.t 48)⟩])
     (.cond (.t 42) (.reg false [⟨some 49, none, .mov (.t 9)⟩,
        ⟨some 50, none, .chk (.t 49)⟩,
        ⟨some 51, none, .fld (.t 50) 3⟩,
        ⟨some 7, none, .mov (.t 51)⟩]) (.seq (.reg false [⟨some 30, none, .mov (.t 7)⟩,
         ⟨some 31, none, .mov (.t 8)⟩,
         ⟨some 4, none, .mov (.t 30)⟩,
         ⟨some 5, none, .mov (.t 31)⟩,
         ⟨some 6, none, .mov (.k (.c (.bool true)))⟩])
      (.ret (some [4, 5, 6])))))))))))))
def c_impl_Tree_walk : IFn := ⟨54, [.t 4, .t 5, .t 6],
  (.seq (.reg false [⟨some 4, none, .mov (.k (.c .nilp))⟩,
     ⟨some 5, none, .mov (.k (.c (.int .i64 0)))⟩,
     ⟨some 6, none, .mov (.k (.c (.bool false)))⟩])
  (.seq (.reg false [⟨some 10, none, .mov (.t 0)⟩,
     ⟨some 11, none, .chk (.t 10)⟩,
     ⟨some 12, none, .fld (.t 11) 64⟩,
     ⟨some 7, none, .mov (.t 12)⟩,
     ⟨some 8, none, .mov (.k (.c (.int .i64 0)))⟩])
  (.seq (.block 0 (some [0, 1, 7, 8]) (some [7, 8])
   (.loop c_impl_Tree_walk_b0))
  (.seq (.reg false [⟨some 52, none, .mov (.t 7)⟩,
     ⟨some 53, none, .mov (.t 8)⟩,
     ⟨some 4, none, .mov (.t 52)⟩,
     ⟨some 5, none, .mov (.t 53)⟩,
     ⟨some 6, none, .mov (.k (.c (.bool true)))⟩])
  (.ret (some [4, 5, 6]))))))⟩
theorem c_impl_Tree_walk_ok : trF Try.prog ⟨[(0, [0, 1, 7, 8], [7, 8])], [4, 5, 6], false⟩ Try.f68 = some c_impl_Tree_walk := by kernel_rfl
def c_impl_Chain_link : IFn := ⟨19, [],
  (.seq (.reg false [⟨some 6, none, .mov (.t 1)⟩,
     ⟨some 7, none, .bin .eql (.t 6) (.k (.c (.int .i64 (-1))))⟩])
  (.cond (.t 7) (.reg false [⟨some 8, none, .mov (.t 0)⟩,
     ⟨some 9, none, .mov (.t 2)⟩,
     ⟨some 10, none, .chk (.t 8)⟩,
     ⟨some 11, none, .fld (.t 10) 64⟩,
     ⟨none, none, .store (.t 11) (.t 9) 1⟩]) (.reg false [⟨some 12, none, .mov (.t 0)⟩,
     ⟨some 13, none, .mov (.t 1)⟩,
     ⟨some 14, none, .mov (.t 2)⟩,
     ⟨some 15, none, .chk (.t 12)⟩,
     ⟨some 16, none, .fld (.t 15) 0⟩,
     ⟨some 17, none, .ixa (.t 16) (.t 13) 16 4⟩,
     ⟨some 18, none, .fld (.t 17) 3⟩,
     ⟨none, none, .store (.t 18) (.t 14) 1⟩])))⟩
theorem c_impl_Chain_link_ok : trF Try.prog ⟨[], [], false⟩ Try.f69 = some c_impl_Chain_link := by kernel_rfl
def c_laws_eqNodeA16_b0 : IC :=
  (.seq (.seq (.reg false [⟨some 6, none, .mov (.t 5)⟩,
      ⟨some 7, none, .bin .lss (.t 6) (.k (.c (.int .i64 16)))⟩])
   (.cond (.t 7) .skip (.exit 0)))
  (.seq (.block 1 none none
   (.seq (.reg true [⟨some 10, none, .mov (.t 5)⟩,
       ⟨some 11, none, .ixa (.t 2) (.t 10) 16 4⟩,
       ⟨some 12, none, .loadN (.t 11) 4⟩,
       ⟨some 13, none, .mov (.t 5)⟩,
       ⟨some 14, none, .ixa (.t 3) (.t 13) 16 4⟩,
       ⟨some 15, none, .loadN (.t 14) 4⟩,
       ⟨some 16, none, .call 76 [.t 12, .t 15]⟩,
       ⟨some 17, none, .un .not (.t 16)⟩])
    (.cond (.t 17) (.seq (.reg false [⟨some 4, none, .mov (.k (.c (.bool false)))⟩])
     (.ret (some [4]))) .skip)))
  (.reg false [⟨some 8, none, .mov (.t 5)⟩,
    ⟨some 9, none, .bin .add (.t 8) (.k (.c (.int .i64 1)))⟩,
    ⟨some 5, none, .mov (.t 9)⟩])))
def c_laws_eqNodeA16 : IFn := ⟨18, [.t 4],
  (.seq (.reg false [⟨some 2, none, .box (.t 0) 29⟩,
     ⟨some 3, none, .box (.t 1) 29⟩,
     ⟨some 4, none, .mov (.k (.c (.bool false)))⟩])
  (.seq (.seq (.reg false [⟨some 5, none, .mov (.k (.c (.int .i64 0)))⟩])
   (.block 0 (some [2, 3, 5]) (some [])
   (.loop c_laws_eqNodeA16_b0)))
  (.seq (.reg false [⟨some 4, none, .mov (.k (.c (.bool true)))⟩])
  (.ret (some [4])))))⟩
theorem c_laws_eqNodeA16_ok : trF Try.prog ⟨[(0, [2, 3, 5], [])], [4], false⟩ Try.f70 = some c_laws_eqNodeA16 := by kernel_rfl
def c_spec_l15Hang : IFn := ⟨40, [.cell 8 65 true],
  (.seq (.reg false [⟨some 4, none, .box (.t 0) 43⟩,
     ⟨some 8, none, .alloc [.bool false, .int .i64 0, .int .i64 0, .int .i64 0, .bool false, .int .i64 0, .int .i64 0, .int .i64 0, .bool false, .int .i64 0, .int .i64 0, .int .i64 0, .bool false, .int .i64 0, .int .i64 0, .int .i64 0, .bool false, .int .i64 0, .int .i64 0, .int .i64 0, .bool false, .int .i64 0, .int .i64 0, .int .i64 0, .bool false, .int .i64 0, .int .i64 0, .int .i64 0, .bool false, .int .i64 0, .int .i64 0, .int .i64 0, .bool false, .int .i64 0, .int .i64 0, .int .i64 0, .bool false, .int .i64 0, .int .i64 0, .int .i64 0, .bool false, .int .i64 0, .int .i64 0, .int .i64 0, .bool false, .int .i64 0, .int .i64 0, .int .i64 0, .bool false, .int .i64 0, .int .i64 0, .int .i64 0, .bool false, .int .i64 0, .int .i64 0, .int .i64 0, .bool false, .int .i64 0, .int .i64 0, .int .i64 0, .bool false, .int .i64 0, .int .i64 0, .int .i64 0, .int .i64 0] 43⟩])
  (.seq (.seq (.reg false [⟨some 10, none, .mov (.t 1)⟩,
      ⟨some 11, none, .len (.t 10)⟩,
      ⟨some 12, none, .bin .eql (.t 11) (.k (.c (.int .i64 0)))⟩])
   (.cond (.t 12) (.seq (.reg false [⟨some 13, none, .mov (.t 3)⟩,
       ⟨some 14, none, .fld (.t 4) 64⟩,
       ⟨none, none, .store (.t 14) (.t 13) 1⟩])
    (.seq (.reg false [⟨some 15, none, .loadN (.t 4) 65⟩,
       ⟨none, none, .store (.t 8) (.t 15) 65⟩])
    (.ret (some [8])))) .skip))
  (.seq (.reg false [⟨some 16, none, .mov (.t 1)⟩,
     ⟨some 17, none, .mov (.t 1)⟩,
     ⟨some 18, none, .len (.t 17)⟩,
     ⟨some 19, none, .bin .sub (.t 18) (.k (.c (.int .i64 1)))⟩,
     ⟨some 20, none, .ixs (.t 16) (.t 19) 1⟩,
     ⟨some 21, none, .load1 (.t 20)⟩,
     ⟨some 9, none, .mov (.t 21)⟩])
  (.seq (.seq (.reg false [⟨some 22, none, .mov (.t 2)⟩,
      ⟨some 23, none, .mov (.t 9)⟩,
      ⟨some 24, none, .fld (.t 4) 0⟩,
      ⟨some 25, none, .ixa (.t 24) (.t 23) 16 4⟩,
      ⟨some 26, none, .fld (.t 25) 1⟩,
      ⟨some 27, none, .load1 (.t 26)⟩,
      ⟨some 28, none, .bin .lss (.t 22) (.t 27)⟩])
   (.cond (.t 28) (.reg false [⟨some 29, none, .mov (.t 9)⟩,
      ⟨some 30, none, .mov (.t 3)⟩,
      ⟨some 31, none, .fld (.t 4) 0⟩,
      ⟨some 32, none, .ixa (.t 31) (.t 29) 16 4⟩,
      ⟨some 33, none, .fld (.t 32) 2⟩,
      ⟨none, none, .store (.t 33) (.t 30) 1⟩]) (.reg false [⟨some 34, none, .mov (.t 9)⟩,
      ⟨some 35, none, .mov (.t 3)⟩,
      ⟨some 36, none, .fld (.t 4) 0⟩,
      ⟨some 37, none, .ixa (.t 36) (.t 34) 16 4⟩,
      ⟨some 38, none, .fld (.t 37) 3⟩,
      ⟨none, none, .store (.t 38) (.t 35) 1⟩])))
  (.seq (.reg false [⟨some 39, none, .loadN (.t 4) 65⟩,
     ⟨none, none, .store (.t 8) (.t 39) 65⟩])
  (.ret (some [8])))))))⟩
theorem c_spec_l15Hang_ok : trF Try.prog ⟨[], [8], false⟩ Try.f71 = some c_spec_l15Hang := by kernel_rfl
def c_laws_toNode : IFn := ⟨17, [.cell 2 4 true],
  (.seq (.reg false [⟨some 1, none, .box (.t 0) 23⟩,
     ⟨some 2, none, .alloc [.bool false, .int .i64 0, .int .i64 0, .int .i64 0] 28⟩])
  (.seq (.reg false [⟨some 3, none, .alloc [.bool false, .int .i64 0, .int .i64 0, .int .i64 0] 28⟩])
  (.seq (.reg false [⟨some 4, none, .fld (.t 1) 0⟩,
     ⟨some 5, none, .load1 (.t 4)⟩,
     ⟨some 6, none, .fld (.t 3) 0⟩,
     ⟨none, none, .store (.t 6) (.t 5) 1⟩])
  (.seq (.reg false [⟨some 7, none, .fld (.t 1) 1⟩,
     ⟨some 8, none, .load1 (.t 7)⟩,
     ⟨some 9, none, .fld (.t 3) 1⟩,
     ⟨none, none, .store (.t 9) (.t 8) 1⟩])
  (.seq (.reg false [⟨some 10, none, .fld (.t 1) 2⟩,
     ⟨some 11, none, .load1 (.t 10)⟩,
     ⟨some 12, none, .fld (.t 3) 2⟩,
     ⟨none, none, .store (.t 12) (.t 11) 1⟩])
  (.seq (.reg false [⟨some 13, none, .fld (.t 1) 3⟩,
     ⟨some 14, none, .load1 (.t 13)⟩,
     ⟨some 15, none, .fld (.t 3) 3⟩,
     ⟨none, none, .store (.t 15) (.t 14) 1⟩])
  (.seq (.reg false [⟨some 16, none, .loadN (.t 3) 4⟩,
     ⟨none, none, .store (.t 2) (.t 16) 4⟩])
  (.ret (some [2])))))))))⟩
theorem c_laws_toNode_ok : trF Try.prog ⟨[], [2], false⟩ Try.f72 = some c_laws_toNode := by kernel_rfl
def c_laws_toTwig : IFn := ⟨17, [.cell 2 4 true],
  (.seq (.reg false [⟨some 1, none, .box (.t 0) 35⟩,
     ⟨some 2, none, .alloc [.bool false, .int .i64 0, .int .i64 0, .int .i64 0] 40⟩])
  (.seq (.reg false [⟨some 3, none, .alloc [.bool false, .int .i64 0, .int .i64 0, .int .i64 0] 40⟩])
  (.seq (.reg false [⟨some 4, none, .fld (.t 1) 0⟩,
     ⟨some 5, none, .load1 (.t 4)⟩,
     ⟨some 6, none, .fld (.t 3) 0⟩,
     ⟨none, none, .store (.t 6) (.t 5) 1⟩])
  (.seq (.reg false [⟨some 7, none, .fld (.t 1) 1⟩,
     ⟨some 8, none, .load1 (.t 7)⟩,
     ⟨some 9, none, .fld (.t 3) 1⟩,
     ⟨none, none, .store (.t 9) (.t 8) 1⟩])
  (.seq (.reg false [⟨some 10, none, .fld (.t 1) 2⟩,
     ⟨some 11, none, .load1 (.t 10)⟩,
     ⟨some 12, none, .fld (.t 3) 2⟩,
     ⟨none, none, .store (.t 12) (.t 11) 1⟩])
  (.seq (.reg false [⟨some 13, none, .fld (.t 1) 3⟩,
     ⟨some 14, none, .load1 (.t 13)⟩,
     ⟨some 15, none, .fld (.t 3) 3⟩,
     ⟨none, none, .store (.t 15) (.t 14) 1⟩])
  (.seq (.reg false [⟨some 16, none, .loadN (.t 3) 4⟩,
     ⟨none, none, .store (.t 2) (.t 16) 4⟩])
  (.ret (some [2])))))))))⟩
theorem c_laws_toTwig_ok : trF Try.prog ⟨[], [2], false⟩ Try.f73 = some c_laws_toTwig := by kernel_rfl
def c_laws_eqTwig : IFn := ⟨25, [.t 4],
  (.seq (.reg false [⟨some 2, none, .box (.t 0) 40⟩,
     ⟨some 3, none, .box (.t 1) 40⟩,
     ⟨some 4, none, .mov (.k (.c (.bool false)))⟩])
  (.seq (.seq (.reg false [⟨some 5, none, .fld (.t 2) 0⟩,
      ⟨some 6, none, .load1 (.t 5)⟩,
      ⟨some 7, none, .fld (.t 3) 0⟩,
      ⟨some 8, none, .load1 (.t 7)⟩,
      ⟨some 9, none, .binb true (.t 6) (.t 8)⟩])
   (.cond (.t 9) (.seq (.reg false [⟨some 4, none, .mov (.k (.c (.bool false)))⟩])
    (.ret (some [4]))) .skip))
  (.seq (.seq (.reg false [⟨some 10, none, .fld (.t 2) 1⟩,
      ⟨some 11, none, .load1 (.t 10)⟩,
      ⟨some 12, none, .fld (.t 3) 1⟩,
      ⟨some 13, none, .load1 (.t 12)⟩,
      ⟨some 14, none, .bin .neq (.t 11) (.t 13)⟩])
   (.cond (.t 14) (.seq (.reg false [⟨some 4, none, .mov (.k (.c (.bool false)))⟩])
    (.ret (some [4]))) .skip))
  (.seq (.seq (.reg false [⟨some 15, none, .fld (.t 2) 2⟩,
      ⟨some 16, none, .load1 (.t 15)⟩,
      ⟨some 17, none, .fld (.t 3) 2⟩,
      ⟨some 18, none, .load1 (.t 17)⟩,
      ⟨some 19, none, .bin .neq (.t 16) (.t 18)⟩])
   (.cond (.t 19) (.seq (.reg false [⟨some 4, none, .mov (.k (.c (.bool false)))⟩])
    (.ret (some [4]))) .skip))
  (.seq (.seq (.reg false [⟨some 20, none, .fld (.t 2) 3⟩,
      ⟨some 21, none, .load1 (.t 20)⟩,
      ⟨some 22, none, .fld (.t 3) 3⟩,
      ⟨some 23, none, .load1 (.t 22)⟩,
      ⟨some 24, none, .bin .neq (.t 21) (.t 23)⟩])
   (.cond (.t 24) (.seq (.reg false [⟨some 4, none, .mov (.k (.c (.bool false)))⟩])
    (.ret (some [4]))) .skip))
  (.seq (.reg false [⟨some 4, none, .mov (.k (.c (.bool true)))⟩])
  (.ret (some [4]))))))))⟩
theorem c_laws_eqTwig_ok : trF Try.prog ⟨[], [4], false⟩ Try.f74 = some c_laws_eqTwig := by kernel_rfl
def c_spec_l1Max : IFn := ⟨10, [.t 4],
  (.seq (.reg false [⟨some 4, none, .mov (.k (.c (.int .i64 0)))⟩])
  (.seq (.seq (.reg false [⟨some 5, none, .mov (.t 0)⟩,
      ⟨some 6, none, .mov (.t 1)⟩,
      ⟨some 7, none, .bin .gtr (.t 5) (.t 6)⟩])
   (.cond (.t 7) (.seq (.reg false [⟨some 8, none, .mov (.t 0)⟩,
       ⟨some 4, none, .mov (.t 8)⟩])
    (.ret (some [4]))) .skip))
  (.seq (.reg false [⟨some 9, none, .mov (.t 1)⟩,
     ⟨some 4, none, .mov (.t 9)⟩])
  (.ret (some [4])))))⟩
theorem c_spec_l1Max_ok : trF Try.prog ⟨[], [4], false⟩ Try.f75 = some c_spec_l1Max := by kernel_rfl
def c_laws_eqNode : IFn := ⟨25, [.t 4],
  (.seq (.reg false [⟨some 2, none, .box (.t 0) 28⟩,
     ⟨some 3, none, .box (.t 1) 28⟩,
     ⟨some 4, none, .mov (.k (.c (.bool false)))⟩])
  (.seq (.seq (.reg false [⟨some 5, none, .fld (.t 2) 0⟩,
      ⟨some 6, none, .load1 (.t 5)⟩,
      ⟨some 7, none, .fld (.t 3) 0⟩,
      ⟨some 8, none, .load1 (.t 7)⟩,
      ⟨some 9, none, .binb true (.t 6) (.t 8)⟩])
   (.cond (.t 9) (.seq (.reg false [⟨some 4, none, .mov (.k (.c (.bool false)))⟩])
    (.ret (some [4]))) .skip))
  (.seq (.seq (.reg false [⟨some 10, none, .fld (.t 2) 1⟩,
      ⟨some 11, none, .load1 (.t 10)⟩,
      ⟨some 12, none, .fld (.t 3) 1⟩,
      ⟨some 13, none, .load1 (.t 12)⟩,
      ⟨some 14, none, .bin .neq (.t 11) (.t 13)⟩])
   (.cond (.t 14) (.seq (.reg false [⟨some 4, none, .mov (.k (.c (.bool false)))⟩])
    (.ret (some [4]))) .skip))
  (.seq (.seq (.reg false [⟨some 15, none, .fld (.t 2) 2⟩,
      ⟨some 16, none, .load1 (.t 15)⟩,
      ⟨some 17, none, .fld (.t 3) 2⟩,
      ⟨some 18, none, .load1 (.t 17)⟩,
      ⟨some 19, none, .bin .neq (.t 16) (.t 18)⟩])
   (.cond (.t 19) (.seq (.reg false [⟨some 4, none, .mov (.k (.c (.bool false)))⟩])
    (.ret (some [4]))) .skip))
  (.seq (.seq (.reg false [⟨some 20, none, .fld (.t 2) 3⟩,
      ⟨some 21, none, .load1 (.t 20)⟩,
      ⟨some 22, none, .fld (.t 3) 3⟩,
      ⟨some 23, none, .load1 (.t 22)⟩,
      ⟨some 24, none, .bin .neq (.t 21) (.t 23)⟩])
   (.cond (.t 24) (.seq (.reg false [⟨some 4, none, .mov (.k (.c (.bool false)))⟩])
    (.ret (some [4]))) .skip))
  (.seq (.reg false [⟨some 4, none, .mov (.k (.c (.bool true)))⟩])
  (.ret (some [4]))))))))⟩
theorem c_laws_eqNode_ok : trF Try.prog ⟨[], [4], false⟩ Try.f76 = some c_laws_eqNode := by kernel_rfl
def T : FuncId → Option IFn
  | 3 => some c_laws_FnExactChainOk
  | 4 => some c_laws_FnExactTreeOk
  | 5 => some c_laws_FnExactTreeBuild
  | 6 => some c_laws_FnExactTreeHigh
  | 7 => some c_laws_FnExactMapPairs
  | 8 => some c_laws_FnExactMapGet
  | 9 => some c_laws_FnExactTreeKeys
  | 10 => some c_laws_FnExactMapRange
  | 11 => some c_laws_FnExactTreeFind
  | 12 => some c_laws_FnExactMapDrop
  | 13 => some c_laws_FnExactMapPut
  | 14 => some c_laws_FnExactTreeAdd
  | 15 => some c_spec_ChainOk
  | 16 => some c_laws_toChain
  | 17 => some c_impl_ChainOk
  | 18 => some c_spec_TreeOk
  | 19 => some c_laws_toTree
  | 20 => some c_impl_TreeOk
  | 21 => some c_spec_TreeBuild
  | 22 => some c_laws_toIntS
  | 23 => some c_impl_TreeBuild
  | 24 => some c_laws_eqTree
  | 25 => some c_laws_eqIntS
  | 26 => some c_spec_TreeHigh
  | 27 => some c_impl_TreeHigh
  | 28 => some c_spec_MapPairs
  | 29 => some c_impl_MapPairs
  | 30 => some c_laws_markIntS
  | 31 => some c_laws_heldIntS
  | 32 => some c_spec_MapGet
  | 33 => some c_impl_MapGet
  | 34 => some c_spec_TreeKeys
  | 35 => some c_impl_TreeKeys
  | 36 => some c_spec_MapRange
  | 37 => some c_impl_MapRange
  | 38 => some c_spec_TreeFind
  | 39 => some c_impl_TreeFind
  | 40 => some c_spec_MapDrop
  | 41 => some c_impl_MapDrop
  | 42 => some c_laws_eqChain
  | 43 => some c_spec_MapPut
  | 44 => some c_impl_MapPut
  | 45 => some c_spec_TreeAdd
  | 46 => some c_impl_TreeAdd
  | 47 => some c_spec_l1Value
  | 48 => some c_spec_l1In
  | 49 => some c_laws_toNodeA16
  | 50 => some c_impl_isValue
  | 51 => some c_impl_in
  | 52 => some c_spec_l15Keys
  | 53 => some c_laws_toTwigA16
  | 54 => some c_impl_Tree_isPart
  | 55 => some c_spec_l1All
  | 56 => some c_spec_NewTree
  | 57 => some c_spec_l15Build
  | 58 => some c_impl_NewTree
  | 59 => some c_impl_Tree_build
  | 60 => some c_laws_eqTwigA16
  | 61 => some c_spec_l15High
  | 62 => some c_impl_Tree_high
  | 63 => some c_spec_l13Walk
  | 64 => some c_impl_Chain_walk
  | 65 => some c_impl_Chain_has
  | 66 => some c_impl_Tree_keysOf
  | 67 => some c_spec_l15Walk
  | 68 => some c_impl_Tree_walk
  | 69 => some c_impl_Chain_link
  | 70 => some c_laws_eqNodeA16
  | 71 => some c_spec_l15Hang
  | 72 => some c_laws_toNode
  | 73 => some c_laws_toTwig
  | 74 => some c_laws_eqTwig
  | 75 => some c_spec_l1Max
  | 76 => some c_laws_eqNode
  | _ => none
theorem T_3 : T 3 = some c_laws_FnExactChainOk := rfl
theorem T_4 : T 4 = some c_laws_FnExactTreeOk := rfl
theorem T_5 : T 5 = some c_laws_FnExactTreeBuild := rfl
theorem T_6 : T 6 = some c_laws_FnExactTreeHigh := rfl
theorem T_7 : T 7 = some c_laws_FnExactMapPairs := rfl
theorem T_8 : T 8 = some c_laws_FnExactMapGet := rfl
theorem T_9 : T 9 = some c_laws_FnExactTreeKeys := rfl
theorem T_10 : T 10 = some c_laws_FnExactMapRange := rfl
theorem T_11 : T 11 = some c_laws_FnExactTreeFind := rfl
theorem T_12 : T 12 = some c_laws_FnExactMapDrop := rfl
theorem T_13 : T 13 = some c_laws_FnExactMapPut := rfl
theorem T_14 : T 14 = some c_laws_FnExactTreeAdd := rfl
theorem T_15 : T 15 = some c_spec_ChainOk := rfl
theorem T_16 : T 16 = some c_laws_toChain := rfl
theorem T_17 : T 17 = some c_impl_ChainOk := rfl
theorem T_18 : T 18 = some c_spec_TreeOk := rfl
theorem T_19 : T 19 = some c_laws_toTree := rfl
theorem T_20 : T 20 = some c_impl_TreeOk := rfl
theorem T_21 : T 21 = some c_spec_TreeBuild := rfl
theorem T_22 : T 22 = some c_laws_toIntS := rfl
theorem T_23 : T 23 = some c_impl_TreeBuild := rfl
theorem T_24 : T 24 = some c_laws_eqTree := rfl
theorem T_25 : T 25 = some c_laws_eqIntS := rfl
theorem T_26 : T 26 = some c_spec_TreeHigh := rfl
theorem T_27 : T 27 = some c_impl_TreeHigh := rfl
theorem T_28 : T 28 = some c_spec_MapPairs := rfl
theorem T_29 : T 29 = some c_impl_MapPairs := rfl
theorem T_30 : T 30 = some c_laws_markIntS := rfl
theorem T_31 : T 31 = some c_laws_heldIntS := rfl
theorem T_32 : T 32 = some c_spec_MapGet := rfl
theorem T_33 : T 33 = some c_impl_MapGet := rfl
theorem T_34 : T 34 = some c_spec_TreeKeys := rfl
theorem T_35 : T 35 = some c_impl_TreeKeys := rfl
theorem T_36 : T 36 = some c_spec_MapRange := rfl
theorem T_37 : T 37 = some c_impl_MapRange := rfl
theorem T_38 : T 38 = some c_spec_TreeFind := rfl
theorem T_39 : T 39 = some c_impl_TreeFind := rfl
theorem T_40 : T 40 = some c_spec_MapDrop := rfl
theorem T_41 : T 41 = some c_impl_MapDrop := rfl
theorem T_42 : T 42 = some c_laws_eqChain := rfl
theorem T_43 : T 43 = some c_spec_MapPut := rfl
theorem T_44 : T 44 = some c_impl_MapPut := rfl
theorem T_45 : T 45 = some c_spec_TreeAdd := rfl
theorem T_46 : T 46 = some c_impl_TreeAdd := rfl
theorem T_47 : T 47 = some c_spec_l1Value := rfl
theorem T_48 : T 48 = some c_spec_l1In := rfl
theorem T_49 : T 49 = some c_laws_toNodeA16 := rfl
theorem T_50 : T 50 = some c_impl_isValue := rfl
theorem T_51 : T 51 = some c_impl_in := rfl
theorem T_52 : T 52 = some c_spec_l15Keys := rfl
theorem T_53 : T 53 = some c_laws_toTwigA16 := rfl
theorem T_54 : T 54 = some c_impl_Tree_isPart := rfl
theorem T_55 : T 55 = some c_spec_l1All := rfl
theorem T_56 : T 56 = some c_spec_NewTree := rfl
theorem T_57 : T 57 = some c_spec_l15Build := rfl
theorem T_58 : T 58 = some c_impl_NewTree := rfl
theorem T_59 : T 59 = some c_impl_Tree_build := rfl
theorem T_60 : T 60 = some c_laws_eqTwigA16 := rfl
theorem T_61 : T 61 = some c_spec_l15High := rfl
theorem T_62 : T 62 = some c_impl_Tree_high := rfl
theorem T_63 : T 63 = some c_spec_l13Walk := rfl
theorem T_64 : T 64 = some c_impl_Chain_walk := rfl
theorem T_65 : T 65 = some c_impl_Chain_has := rfl
theorem T_66 : T 66 = some c_impl_Tree_keysOf := rfl
theorem T_67 : T 67 = some c_spec_l15Walk := rfl
theorem T_68 : T 68 = some c_impl_Tree_walk := rfl
theorem T_69 : T 69 = some c_impl_Chain_link := rfl
theorem T_70 : T 70 = some c_laws_eqNodeA16 := rfl
theorem T_71 : T 71 = some c_spec_l15Hang := rfl
theorem T_72 : T 72 = some c_laws_toNode := rfl
theorem T_73 : T 73 = some c_laws_toTwig := rfl
theorem T_74 : T 74 = some c_laws_eqTwig := rfl
theorem T_75 : T 75 = some c_spec_l1Max := rfl
theorem T_76 : T 76 = some c_laws_eqNode := rfl
theorem ne_name {s t : String} (h : (s == t) = false) : s ≠ t := by simpa using h
theorem tabOk : TabOk Try.prog T := by
  intro f ifn h
  unfold T at h
  split at h
  · injection h with h; subst h; exact ⟨_, _, Try.func3, c_laws_FnExactChainOk_ok, ne_name (by kernel_rfl)⟩
  · injection h with h; subst h; exact ⟨_, _, Try.func4, c_laws_FnExactTreeOk_ok, ne_name (by kernel_rfl)⟩
  · injection h with h; subst h; exact ⟨_, _, Try.func5, c_laws_FnExactTreeBuild_ok, ne_name (by kernel_rfl)⟩
  · injection h with h; subst h; exact ⟨_, _, Try.func6, c_laws_FnExactTreeHigh_ok, ne_name (by kernel_rfl)⟩
  · injection h with h; subst h; exact ⟨_, _, Try.func7, c_laws_FnExactMapPairs_ok, ne_name (by kernel_rfl)⟩
  · injection h with h; subst h; exact ⟨_, _, Try.func8, c_laws_FnExactMapGet_ok, ne_name (by kernel_rfl)⟩
  · injection h with h; subst h; exact ⟨_, _, Try.func9, c_laws_FnExactTreeKeys_ok, ne_name (by kernel_rfl)⟩
  · injection h with h; subst h; exact ⟨_, _, Try.func10, c_laws_FnExactMapRange_ok, ne_name (by kernel_rfl)⟩
  · injection h with h; subst h; exact ⟨_, _, Try.func11, c_laws_FnExactTreeFind_ok, ne_name (by kernel_rfl)⟩
  · injection h with h; subst h; exact ⟨_, _, Try.func12, c_laws_FnExactMapDrop_ok, ne_name (by kernel_rfl)⟩
  · injection h with h; subst h; exact ⟨_, _, Try.func13, c_laws_FnExactMapPut_ok, ne_name (by kernel_rfl)⟩
  · injection h with h; subst h; exact ⟨_, _, Try.func14, c_laws_FnExactTreeAdd_ok, ne_name (by kernel_rfl)⟩
  · injection h with h; subst h; exact ⟨_, _, Try.func15, c_spec_ChainOk_ok, ne_name (by kernel_rfl)⟩
  · injection h with h; subst h; exact ⟨_, _, Try.func16, c_laws_toChain_ok, ne_name (by kernel_rfl)⟩
  · injection h with h; subst h; exact ⟨_, _, Try.func17, c_impl_ChainOk_ok, ne_name (by kernel_rfl)⟩
  · injection h with h; subst h; exact ⟨_, _, Try.func18, c_spec_TreeOk_ok, ne_name (by kernel_rfl)⟩
  · injection h with h; subst h; exact ⟨_, _, Try.func19, c_laws_toTree_ok, ne_name (by kernel_rfl)⟩
  · injection h with h; subst h; exact ⟨_, _, Try.func20, c_impl_TreeOk_ok, ne_name (by kernel_rfl)⟩
  · injection h with h; subst h; exact ⟨_, _, Try.func21, c_spec_TreeBuild_ok, ne_name (by kernel_rfl)⟩
  · injection h with h; subst h; exact ⟨_, _, Try.func22, c_laws_toIntS_ok, ne_name (by kernel_rfl)⟩
  · injection h with h; subst h; exact ⟨_, _, Try.func23, c_impl_TreeBuild_ok, ne_name (by kernel_rfl)⟩
  · injection h with h; subst h; exact ⟨_, _, Try.func24, c_laws_eqTree_ok, ne_name (by kernel_rfl)⟩
  · injection h with h; subst h; exact ⟨_, _, Try.func25, c_laws_eqIntS_ok, ne_name (by kernel_rfl)⟩
  · injection h with h; subst h; exact ⟨_, _, Try.func26, c_spec_TreeHigh_ok, ne_name (by kernel_rfl)⟩
  · injection h with h; subst h; exact ⟨_, _, Try.func27, c_impl_TreeHigh_ok, ne_name (by kernel_rfl)⟩
  · injection h with h; subst h; exact ⟨_, _, Try.func28, c_spec_MapPairs_ok, ne_name (by kernel_rfl)⟩
  · injection h with h; subst h; exact ⟨_, _, Try.func29, c_impl_MapPairs_ok, ne_name (by kernel_rfl)⟩
  · injection h with h; subst h; exact ⟨_, _, Try.func30, c_laws_markIntS_ok, ne_name (by kernel_rfl)⟩
  · injection h with h; subst h; exact ⟨_, _, Try.func31, c_laws_heldIntS_ok, ne_name (by kernel_rfl)⟩
  · injection h with h; subst h; exact ⟨_, _, Try.func32, c_spec_MapGet_ok, ne_name (by kernel_rfl)⟩
  · injection h with h; subst h; exact ⟨_, _, Try.func33, c_impl_MapGet_ok, ne_name (by kernel_rfl)⟩
  · injection h with h; subst h; exact ⟨_, _, Try.func34, c_spec_TreeKeys_ok, ne_name (by kernel_rfl)⟩
  · injection h with h; subst h; exact ⟨_, _, Try.func35, c_impl_TreeKeys_ok, ne_name (by kernel_rfl)⟩
  · injection h with h; subst h; exact ⟨_, _, Try.func36, c_spec_MapRange_ok, ne_name (by kernel_rfl)⟩
  · injection h with h; subst h; exact ⟨_, _, Try.func37, c_impl_MapRange_ok, ne_name (by kernel_rfl)⟩
  · injection h with h; subst h; exact ⟨_, _, Try.func38, c_spec_TreeFind_ok, ne_name (by kernel_rfl)⟩
  · injection h with h; subst h; exact ⟨_, _, Try.func39, c_impl_TreeFind_ok, ne_name (by kernel_rfl)⟩
  · injection h with h; subst h; exact ⟨_, _, Try.func40, c_spec_MapDrop_ok, ne_name (by kernel_rfl)⟩
  · injection h with h; subst h; exact ⟨_, _, Try.func41, c_impl_MapDrop_ok, ne_name (by kernel_rfl)⟩
  · injection h with h; subst h; exact ⟨_, _, Try.func42, c_laws_eqChain_ok, ne_name (by kernel_rfl)⟩
  · injection h with h; subst h; exact ⟨_, _, Try.func43, c_spec_MapPut_ok, ne_name (by kernel_rfl)⟩
  · injection h with h; subst h; exact ⟨_, _, Try.func44, c_impl_MapPut_ok, ne_name (by kernel_rfl)⟩
  · injection h with h; subst h; exact ⟨_, _, Try.func45, c_spec_TreeAdd_ok, ne_name (by kernel_rfl)⟩
  · injection h with h; subst h; exact ⟨_, _, Try.func46, c_impl_TreeAdd_ok, ne_name (by kernel_rfl)⟩
  · injection h with h; subst h; exact ⟨_, _, Try.func47, c_spec_l1Value_ok, ne_name (by kernel_rfl)⟩
  · injection h with h; subst h; exact ⟨_, _, Try.func48, c_spec_l1In_ok, ne_name (by kernel_rfl)⟩
  · injection h with h; subst h; exact ⟨_, _, Try.func49, c_laws_toNodeA16_ok, ne_name (by kernel_rfl)⟩
  · injection h with h; subst h; exact ⟨_, _, Try.func50, c_impl_isValue_ok, ne_name (by kernel_rfl)⟩
  · injection h with h; subst h; exact ⟨_, _, Try.func51, c_impl_in_ok, ne_name (by kernel_rfl)⟩
  · injection h with h; subst h; exact ⟨_, _, Try.func52, c_spec_l15Keys_ok, ne_name (by kernel_rfl)⟩
  · injection h with h; subst h; exact ⟨_, _, Try.func53, c_laws_toTwigA16_ok, ne_name (by kernel_rfl)⟩
  · injection h with h; subst h; exact ⟨_, _, Try.func54, c_impl_Tree_isPart_ok, ne_name (by kernel_rfl)⟩
  · injection h with h; subst h; exact ⟨_, _, Try.func55, c_spec_l1All_ok, ne_name (by kernel_rfl)⟩
  · injection h with h; subst h; exact ⟨_, _, Try.func56, c_spec_NewTree_ok, ne_name (by kernel_rfl)⟩
  · injection h with h; subst h; exact ⟨_, _, Try.func57, c_spec_l15Build_ok, ne_name (by kernel_rfl)⟩
  · injection h with h; subst h; exact ⟨_, _, Try.func58, c_impl_NewTree_ok, ne_name (by kernel_rfl)⟩
  · injection h with h; subst h; exact ⟨_, _, Try.func59, c_impl_Tree_build_ok, ne_name (by kernel_rfl)⟩
  · injection h with h; subst h; exact ⟨_, _, Try.func60, c_laws_eqTwigA16_ok, ne_name (by kernel_rfl)⟩
  · injection h with h; subst h; exact ⟨_, _, Try.func61, c_spec_l15High_ok, ne_name (by kernel_rfl)⟩
  · injection h with h; subst h; exact ⟨_, _, Try.func62, c_impl_Tree_high_ok, ne_name (by kernel_rfl)⟩
  · injection h with h; subst h; exact ⟨_, _, Try.func63, c_spec_l13Walk_ok, ne_name (by kernel_rfl)⟩
  · injection h with h; subst h; exact ⟨_, _, Try.func64, c_impl_Chain_walk_ok, ne_name (by kernel_rfl)⟩
  · injection h with h; subst h; exact ⟨_, _, Try.func65, c_impl_Chain_has_ok, ne_name (by kernel_rfl)⟩
  · injection h with h; subst h; exact ⟨_, _, Try.func66, c_impl_Tree_keysOf_ok, ne_name (by kernel_rfl)⟩
  · injection h with h; subst h; exact ⟨_, _, Try.func67, c_spec_l15Walk_ok, ne_name (by kernel_rfl)⟩
  · injection h with h; subst h; exact ⟨_, _, Try.func68, c_impl_Tree_walk_ok, ne_name (by kernel_rfl)⟩
  · injection h with h; subst h; exact ⟨_, _, Try.func69, c_impl_Chain_link_ok, ne_name (by kernel_rfl)⟩
  · injection h with h; subst h; exact ⟨_, _, Try.func70, c_laws_eqNodeA16_ok, ne_name (by kernel_rfl)⟩
  · injection h with h; subst h; exact ⟨_, _, Try.func71, c_spec_l15Hang_ok, ne_name (by kernel_rfl)⟩
  · injection h with h; subst h; exact ⟨_, _, Try.func72, c_laws_toNode_ok, ne_name (by kernel_rfl)⟩
  · injection h with h; subst h; exact ⟨_, _, Try.func73, c_laws_toTwig_ok, ne_name (by kernel_rfl)⟩
  · injection h with h; subst h; exact ⟨_, _, Try.func74, c_laws_eqTwig_ok, ne_name (by kernel_rfl)⟩
  · injection h with h; subst h; exact ⟨_, _, Try.func75, c_spec_l1Max_ok, ne_name (by kernel_rfl)⟩
  · injection h with h; subst h; exact ⟨_, _, Try.func76, c_laws_eqNode_ok, ne_name (by kernel_rfl)⟩
  · cases h
end Go.Proofs.Ytonkgmajfcpeeaa
