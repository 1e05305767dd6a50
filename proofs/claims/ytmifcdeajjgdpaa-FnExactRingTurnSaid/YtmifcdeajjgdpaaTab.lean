/-
  The functions of the program that the laws here reach, in the small language; each is what the translation gives (checked by the kernel).
-/
import Derived.Test.YtmifcdeajjgdpaaD
import Derived.Test.YtmifcdeajjgdpaaProg
import Derived.KernelRfl
set_option linter.unusedVariables false
namespace Go.Proofs.Ytmifcdeajjgdpaa
def c_laws_FnExactNewChain : IFn := ⟨9, [.t 0],
  (.seq (.reg false [⟨some 0, none, .mov (.k (.c (.bool false)))⟩])
  (.seq (.reg false [⟨some 3, none, .call 13 []⟩,
     ⟨some 1, none, .alloc [.bool false, .int .i64 0, .int .i64 0, .int .i64 0, .bool false, .int .i64 0, .int .i64 0, .int .i64 0, .bool false, .int .i64 0, .int .i64 0, .int .i64 0, .bool false, .int .i64 0, .int .i64 0, .int .i64 0, .bool false, .int .i64 0, .int .i64 0, .int .i64 0, .bool false, .int .i64 0, .int .i64 0, .int .i64 0, .bool false, .int .i64 0, .int .i64 0, .int .i64 0, .bool false, .int .i64 0, .int .i64 0, .int .i64 0, .bool false, .int .i64 0, .int .i64 0, .int .i64 0, .bool false, .int .i64 0, .int .i64 0, .int .i64 0, .bool false, .int .i64 0, .int .i64 0, .int .i64 0, .bool false, .int .i64 0, .int .i64 0, .int .i64 0, .bool false, .int .i64 0, .int .i64 0, .int .i64 0, .bool false, .int .i64 0, .int .i64 0, .int .i64 0, .bool false, .int .i64 0, .int .i64 0, .int .i64 0, .bool false, .int .i64 0, .int .i64 0, .int .i64 0, .int .i64 0] 26⟩,
     ⟨none, none, .store (.t 1) (.t 3) 65⟩])
  (.seq (.reg false [⟨some 4, none, .call 14 []⟩,
     ⟨some 2, none, .alloc [.bool false, .int .i64 0, .int .i64 0, .int .i64 0, .bool false, .int .i64 0, .int .i64 0, .int .i64 0, .bool false, .int .i64 0, .int .i64 0, .int .i64 0, .bool false, .int .i64 0, .int .i64 0, .int .i64 0, .bool false, .int .i64 0, .int .i64 0, .int .i64 0, .bool false, .int .i64 0, .int .i64 0, .int .i64 0, .bool false, .int .i64 0, .int .i64 0, .int .i64 0, .bool false, .int .i64 0, .int .i64 0, .int .i64 0, .bool false, .int .i64 0, .int .i64 0, .int .i64 0, .bool false, .int .i64 0, .int .i64 0, .int .i64 0, .bool false, .int .i64 0, .int .i64 0, .int .i64 0, .bool false, .int .i64 0, .int .i64 0, .int .i64 0, .bool false, .int .i64 0, .int .i64 0, .int .i64 0, .bool false, .int .i64 0, .int .i64 0, .int .i64 0, .bool false, .int .i64 0, .int .i64 0, .int .i64 0, .bool false, .int .i64 0, .int .i64 0, .int .i64 0, .int .i64 0] 26⟩,
     ⟨none, none, .store (.t 2) (.t 4) 65⟩])
  (.seq (.seq (.reg false [⟨some 5, none, .loadN (.t 2) 65⟩,
      ⟨some 6, none, .loadN (.t 1) 65⟩,
      ⟨some 7, none, .call 15 [.t 5, .t 6]⟩,
      ⟨some 8, none, .un .not (.t 7)⟩])
   (.cond (.t 8) (.seq (.reg false [⟨some 0, none, .mov (.k (.c (.bool false)))⟩])
    (.ret (some [0]))) .skip))
  (.seq (.reg false [⟨some 0, none, .mov (.k (.c (.bool true)))⟩])
  (.ret (some [0])))))))⟩
theorem c_laws_FnExactNewChain_ok : trF Try.prog ⟨[], [0]⟩ Try.f3 = some c_laws_FnExactNewChain := by kernel_rfl
def c_laws_FnExactNewTree : IFn := ⟨9, [.t 0],
  (.seq (.reg false [⟨some 0, none, .mov (.k (.c (.bool false)))⟩])
  (.seq (.reg false [⟨some 3, none, .call 16 []⟩,
     ⟨some 1, none, .alloc [.bool false, .int .i64 0, .int .i64 0, .int .i64 0, .bool false, .int .i64 0, .int .i64 0, .int .i64 0, .bool false, .int .i64 0, .int .i64 0, .int .i64 0, .bool false, .int .i64 0, .int .i64 0, .int .i64 0, .bool false, .int .i64 0, .int .i64 0, .int .i64 0, .bool false, .int .i64 0, .int .i64 0, .int .i64 0, .bool false, .int .i64 0, .int .i64 0, .int .i64 0, .bool false, .int .i64 0, .int .i64 0, .int .i64 0, .bool false, .int .i64 0, .int .i64 0, .int .i64 0, .bool false, .int .i64 0, .int .i64 0, .int .i64 0, .bool false, .int .i64 0, .int .i64 0, .int .i64 0, .bool false, .int .i64 0, .int .i64 0, .int .i64 0, .bool false, .int .i64 0, .int .i64 0, .int .i64 0, .bool false, .int .i64 0, .int .i64 0, .int .i64 0, .bool false, .int .i64 0, .int .i64 0, .int .i64 0, .bool false, .int .i64 0, .int .i64 0, .int .i64 0, .int .i64 0] 34⟩,
     ⟨none, none, .store (.t 1) (.t 3) 65⟩])
  (.seq (.reg false [⟨some 4, none, .call 17 []⟩,
     ⟨some 2, none, .alloc [.bool false, .int .i64 0, .int .i64 0, .int .i64 0, .bool false, .int .i64 0, .int .i64 0, .int .i64 0, .bool false, .int .i64 0, .int .i64 0, .int .i64 0, .bool false, .int .i64 0, .int .i64 0, .int .i64 0, .bool false, .int .i64 0, .int .i64 0, .int .i64 0, .bool false, .int .i64 0, .int .i64 0, .int .i64 0, .bool false, .int .i64 0, .int .i64 0, .int .i64 0, .bool false, .int .i64 0, .int .i64 0, .int .i64 0, .bool false, .int .i64 0, .int .i64 0, .int .i64 0, .bool false, .int .i64 0, .int .i64 0, .int .i64 0, .bool false, .int .i64 0, .int .i64 0, .int .i64 0, .bool false, .int .i64 0, .int .i64 0, .int .i64 0, .bool false, .int .i64 0, .int .i64 0, .int .i64 0, .bool false, .int .i64 0, .int .i64 0, .int .i64 0, .bool false, .int .i64 0, .int .i64 0, .int .i64 0, .bool false, .int .i64 0, .int .i64 0, .int .i64 0, .int .i64 0] 34⟩,
     ⟨none, none, .store (.t 2) (.t 4) 65⟩])
  (.seq (.seq (.reg false [⟨some 5, none, .loadN (.t 2) 65⟩,
      ⟨some 6, none, .loadN (.t 1) 65⟩,
      ⟨some 7, none, .call 18 [.t 5, .t 6]⟩,
      ⟨some 8, none, .un .not (.t 7)⟩])
   (.cond (.t 8) (.seq (.reg false [⟨some 0, none, .mov (.k (.c (.bool false)))⟩])
    (.ret (some [0]))) .skip))
  (.seq (.reg false [⟨some 0, none, .mov (.k (.c (.bool true)))⟩])
  (.ret (some [0])))))))⟩
theorem c_laws_FnExactNewTree_ok : trF Try.prog ⟨[], [0]⟩ Try.f4 = some c_laws_FnExactNewTree := by kernel_rfl
def c_laws_FnExactNewSet : IFn := ⟨36, [.t 0],
  (.seq (.reg false [⟨some 0, none, .mov (.k (.c (.bool false)))⟩])
  (.seq (.reg false [⟨some 6, none, .call 19 []⟩,
     ⟨some 1, none, .mov (.t 6)⟩])
  (.seq (.reg false [⟨some 7, none, .call 20 []⟩,
     ⟨some 2, none, .mov (.t 7)⟩])
  (.seq (.seq (.reg false [⟨some 8, none, .mov (.t 2)⟩,
      ⟨some 9, none, .mov (.t 1)⟩,
      ⟨some 10, none, .call 21 [.t 8, .t 9]⟩,
      ⟨some 11, none, .un .not (.t 10)⟩])
   (.cond (.t 11) (.seq (.reg false [⟨some 0, none, .mov (.k (.c (.bool false)))⟩])
    (.ret (some [0]))) .skip))
  (.seq (.reg false [⟨some 3, none, .mov (.k (.c (.int .i64 1)))⟩])
  (.seq (.reg false [⟨some 12, none, .mov (.t 2)⟩,
     ⟨some 13, none, .mov (.t 3)⟩,
     ⟨some 14, none, .call 22 [.t 12, .t 13]⟩,
     ⟨some 3, none, .mov (.t 14)⟩])
  (.seq (.reg false [⟨some 4, none, .mov (.k (.c (.int .i64 1)))⟩])
  (.seq (.reg false [⟨some 15, none, .mov (.t 2)⟩,
     ⟨some 16, none, .mov (.t 4)⟩,
     ⟨some 17, none, .call 23 [.t 15, .t 16]⟩,
     ⟨some 4, none, .mov (.t 17)⟩])
  (.seq (.seq (.reg false [⟨some 18, none, .mov (.t 4)⟩,
      ⟨some 19, none, .bin .lss (.t 18) (.k (.c (.int .i64 0)))⟩])
   (.cond (.t 19) (.seq (.reg false [⟨some 0, none, .mov (.k (.c (.bool false)))⟩])
    (.ret (some [0]))) .skip))
  (.seq (.seq (.reg false [⟨some 20, none, .mov (.t 4)⟩,
      ⟨some 21, none, .mov (.t 3)⟩,
      ⟨some 22, none, .bin .neq (.t 20) (.t 21)⟩])
   (.cond (.t 22) (.seq (.reg false [⟨some 0, none, .mov (.k (.c (.bool false)))⟩])
    (.ret (some [0]))) .skip))
  (.seq (.reg false [⟨some 23, none, .call 20 []⟩,
     ⟨some 5, none, .mov (.t 23)⟩])
  (.seq (.seq (.reg false [⟨some 24, none, .mov (.t 5)⟩,
      ⟨some 25, none, .mov (.t 1)⟩,
      ⟨some 26, none, .call 21 [.t 24, .t 25]⟩,
      ⟨some 27, none, .un .not (.t 26)⟩])
   (.cond (.t 27) (.seq (.reg false [⟨some 0, none, .mov (.k (.c (.bool false)))⟩])
    (.ret (some [0]))) .skip))
  (.seq (.reg false [⟨some 4, none, .mov (.k (.c (.int .i64 1)))⟩])
  (.seq (.reg false [⟨some 28, none, .mov (.t 2)⟩,
     ⟨some 29, none, .mov (.t 4)⟩,
     ⟨some 30, none, .call 23 [.t 28, .t 29]⟩,
     ⟨some 4, none, .mov (.t 30)⟩])
  (.seq (.seq (.reg false [⟨some 31, none, .mov (.t 4)⟩,
      ⟨some 32, none, .bin .lss (.t 31) (.k (.c (.int .i64 0)))⟩])
   (.cond (.t 32) (.seq (.reg false [⟨some 0, none, .mov (.k (.c (.bool false)))⟩])
    (.ret (some [0]))) .skip))
  (.seq (.seq (.reg false [⟨some 33, none, .mov (.t 4)⟩,
      ⟨some 34, none, .mov (.t 3)⟩,
      ⟨some 35, none, .bin .neq (.t 33) (.t 34)⟩])
   (.cond (.t 35) (.seq (.reg false [⟨some 0, none, .mov (.k (.c (.bool false)))⟩])
    (.ret (some [0]))) .skip))
  (.seq (.reg false [⟨some 0, none, .mov (.k (.c (.bool true)))⟩])
  (.ret (some [0])))))))))))))))))))⟩
theorem c_laws_FnExactNewSet_ok : trF Try.prog ⟨[], [0]⟩ Try.f5 = some c_laws_FnExactNewSet := by kernel_rfl
def c_laws_FnExactRingOk : IFn := ⟨14, [.t 2],
  (.seq (.reg false [⟨some 1, none, .box (.t 0) 43⟩,
     ⟨some 2, none, .mov (.k (.c (.bool false)))⟩])
  (.seq (.reg false [⟨some 5, none, .loadN (.t 1) 10⟩,
     ⟨some 6, none, .call 25 [.t 5]⟩,
     ⟨some 7, none, .call 24 [.t 6]⟩,
     ⟨some 3, none, .mov (.t 7)⟩])
  (.seq (.reg false [⟨some 8, none, .loadN (.t 1) 10⟩,
     ⟨some 9, none, .call 25 [.t 8]⟩,
     ⟨some 10, none, .call 26 [.t 9]⟩,
     ⟨some 4, none, .mov (.t 10)⟩])
  (.seq (.seq (.reg false [⟨some 11, none, .mov (.t 4)⟩,
      ⟨some 12, none, .mov (.t 3)⟩,
      ⟨some 13, none, .binb true (.t 11) (.t 12)⟩])
   (.cond (.t 13) (.seq (.reg false [⟨some 2, none, .mov (.k (.c (.bool false)))⟩])
    (.ret (some [2]))) .skip))
  (.seq (.reg false [⟨some 2, none, .mov (.k (.c (.bool true)))⟩])
  (.ret (some [2])))))))⟩
theorem c_laws_FnExactRingOk_ok : trF Try.prog ⟨[], [2]⟩ Try.f6 = some c_laws_FnExactRingOk := by kernel_rfl
def c_laws_FnExactRingPut : IFn := ⟨32, [.t 4],
  (.seq (.reg false [⟨some 2, none, .box (.t 0) 43⟩,
     ⟨some 4, none, .mov (.k (.c (.bool false)))⟩])
  (.seq (.reg false [⟨some 10, none, .loadN (.t 2) 10⟩,
     ⟨some 11, none, .call 25 [.t 10]⟩,
     ⟨some 12, none, .mov (.t 1)⟩,
     ⟨some 13, none, .call 27 [.t 11, .t 12]⟩,
     ⟨some 9, none, .mov (.t 13)⟩,
     ⟨some 14, none, .ext (.t 9) 0⟩,
     ⟨some 15, none, .ext (.t 9) 1⟩,
     ⟨some 5, none, .alloc [.int .i64 0, .int .i64 0, .int .i64 0, .int .i64 0, .int .i64 0, .int .i64 0, .int .i64 0, .int .i64 0, .int .i64 0, .int .i64 0] 45⟩,
     ⟨none, none, .store (.t 5) (.t 14) 10⟩,
     ⟨some 6, none, .mov (.t 15)⟩])
  (.seq (.reg false [⟨some 17, none, .loadN (.t 2) 10⟩,
     ⟨some 18, none, .call 25 [.t 17]⟩,
     ⟨some 19, none, .mov (.t 1)⟩,
     ⟨some 20, none, .call 28 [.t 18, .t 19]⟩,
     ⟨some 16, none, .mov (.t 20)⟩,
     ⟨some 21, none, .ext (.t 16) 0⟩,
     ⟨some 22, none, .ext (.t 16) 1⟩,
     ⟨some 7, none, .alloc [.int .i64 0, .int .i64 0, .int .i64 0, .int .i64 0, .int .i64 0, .int .i64 0, .int .i64 0, .int .i64 0, .int .i64 0, .int .i64 0] 45⟩,
     ⟨none, none, .store (.t 7) (.t 21) 10⟩,
     ⟨some 8, none, .mov (.t 22)⟩])
  (.seq (.seq (.reg false [⟨some 23, none, .loadN (.t 7) 10⟩,
      ⟨some 24, none, .loadN (.t 5) 10⟩,
      ⟨some 25, none, .call 29 [.t 23, .t 24]⟩,
      ⟨some 26, none, .un .not (.t 25)⟩,
      ⟨some 27, none, .mov (.t 26)⟩,
      ⟨some 28, some (27, false), .mov (.t 8)⟩,
      ⟨some 29, some (27, false), .mov (.t 6)⟩,
      ⟨some 30, some (27, false), .bin .neq (.t 28) (.t 29)⟩,
      ⟨some 31, none, .pick (.t 27) (.k (.c (.bool true))) (.t 30)⟩])
   (.cond (.t 31) (.seq (.reg false [⟨some 4, none, .mov (.k (.c (.bool false)))⟩])
    (.ret (some [4]))) .skip))
  (.seq (.reg false [⟨some 4, none, .mov (.k (.c (.bool true)))⟩])
  (.ret (some [4])))))))⟩
theorem c_laws_FnExactRingPut_ok : trF Try.prog ⟨[], [4]⟩ Try.f7 = some c_laws_FnExactRingPut := by kernel_rfl
def c_laws_FnExactRingList : IFn := ⟨44, [.t 2],
  (.seq (.reg false [⟨some 1, none, .box (.t 0) 43⟩,
     ⟨some 2, none, .mov (.k (.c (.bool false)))⟩])
  (.seq (.reg false [⟨some 8, none, .loadN (.t 1) 10⟩,
     ⟨some 9, none, .call 25 [.t 8]⟩,
     ⟨some 10, none, .call 30 [.t 9]⟩,
     ⟨some 3, none, .mov (.t 10)⟩])
  (.seq (.reg false [⟨some 11, none, .loadN (.t 1) 10⟩,
     ⟨some 12, none, .call 25 [.t 11]⟩,
     ⟨some 13, none, .call 31 [.t 12]⟩,
     ⟨some 4, none, .mov (.t 13)⟩])
  (.seq (.seq (.reg false [⟨some 14, none, .mov (.t 4)⟩,
      ⟨some 15, none, .mov (.t 3)⟩,
      ⟨some 16, none, .call 32 [.t 14, .t 15]⟩,
      ⟨some 17, none, .un .not (.t 16)⟩])
   (.cond (.t 17) (.seq (.reg false [⟨some 2, none, .mov (.k (.c (.bool false)))⟩])
    (.ret (some [2]))) .skip))
  (.seq (.reg false [⟨some 5, none, .mov (.k (.c (.int .i64 1)))⟩])
  (.seq (.reg false [⟨some 18, none, .mov (.t 4)⟩,
     ⟨some 19, none, .mov (.t 5)⟩,
     ⟨some 20, none, .call 33 [.t 18, .t 19]⟩,
     ⟨some 5, none, .mov (.t 20)⟩])
  (.seq (.reg false [⟨some 6, none, .mov (.k (.c (.int .i64 1)))⟩])
  (.seq (.reg false [⟨some 21, none, .mov (.t 4)⟩,
     ⟨some 22, none, .mov (.t 6)⟩,
     ⟨some 23, none, .call 34 [.t 21, .t 22]⟩,
     ⟨some 6, none, .mov (.t 23)⟩])
  (.seq (.seq (.reg false [⟨some 24, none, .mov (.t 6)⟩,
      ⟨some 25, none, .bin .lss (.t 24) (.k (.c (.int .i64 0)))⟩])
   (.cond (.t 25) (.seq (.reg false [⟨some 2, none, .mov (.k (.c (.bool false)))⟩])
    (.ret (some [2]))) .skip))
  (.seq (.seq (.reg false [⟨some 26, none, .mov (.t 6)⟩,
      ⟨some 27, none, .mov (.t 5)⟩,
      ⟨some 28, none, .bin .neq (.t 26) (.t 27)⟩])
   (.cond (.t 28) (.seq (.reg false [⟨some 2, none, .mov (.k (.c (.bool false)))⟩])
    (.ret (some [2]))) .skip))
  (.seq (.reg false [⟨some 29, none, .loadN (.t 1) 10⟩,
     ⟨some 30, none, .call 25 [.t 29]⟩,
     ⟨some 31, none, .call 31 [.t 30]⟩,
     ⟨some 7, none, .mov (.t 31)⟩])
  (.seq (.seq (.reg false [⟨some 32, none, .mov (.t 7)⟩,
      ⟨some 33, none, .mov (.t 3)⟩,
      ⟨some 34, none, .call 32 [.t 32, .t 33]⟩,
      ⟨some 35, none, .un .not (.t 34)⟩])
   (.cond (.t 35) (.seq (.reg false [⟨some 2, none, .mov (.k (.c (.bool false)))⟩])
    (.ret (some [2]))) .skip))
  (.seq (.reg false [⟨some 6, none, .mov (.k (.c (.int .i64 1)))⟩])
  (.seq (.reg false [⟨some 36, none, .mov (.t 4)⟩,
     ⟨some 37, none, .mov (.t 6)⟩,
     ⟨some 38, none, .call 34 [.t 36, .t 37]⟩,
     ⟨some 6, none, .mov (.t 38)⟩])
  (.seq (.seq (.reg false [⟨some 39, none, .mov (.t 6)⟩,
      ⟨some 40, none, .bin .lss (.t 39) (.k (.c (.int .i64 0)))⟩])
   (.cond (.t 40) (.seq (.reg false [⟨some 2, none, .mov (.k (.c (.bool false)))⟩])
    (.ret (some [2]))) .skip))
  (.seq (.seq (.reg false [⟨some 41, none, .mov (.t 6)⟩,
      ⟨some 42, none, .mov (.t 5)⟩,
      ⟨some 43, none, .bin .neq (.t 41) (.t 42)⟩])
   (.cond (.t 43) (.seq (.reg false [⟨some 2, none, .mov (.k (.c (.bool false)))⟩])
    (.ret (some [2]))) .skip))
  (.seq (.reg false [⟨some 2, none, .mov (.k (.c (.bool true)))⟩])
  (.ret (some [2])))))))))))))))))))⟩
theorem c_laws_FnExactRingList_ok : trF Try.prog ⟨[], [2]⟩ Try.f8 = some c_laws_FnExactRingList := by kernel_rfl
def c_laws_FnExactRingTake : IFn := ⟨37, [.t 2],
  (.seq (.reg false [⟨some 1, none, .box (.t 0) 43⟩,
     ⟨some 2, none, .mov (.k (.c (.bool false)))⟩])
  (.seq (.reg false [⟨some 10, none, .loadN (.t 1) 10⟩,
     ⟨some 11, none, .call 25 [.t 10]⟩,
     ⟨some 12, none, .call 35 [.t 11]⟩,
     ⟨some 9, none, .mov (.t 12)⟩,
     ⟨some 13, none, .ext (.t 9) 0⟩,
     ⟨some 14, none, .ext (.t 9) 1⟩,
     ⟨some 15, none, .ext (.t 9) 2⟩,
     ⟨some 3, none, .alloc [.int .i64 0, .int .i64 0, .int .i64 0, .int .i64 0, .int .i64 0, .int .i64 0, .int .i64 0, .int .i64 0, .int .i64 0, .int .i64 0] 45⟩,
     ⟨none, none, .store (.t 3) (.t 13) 10⟩,
     ⟨some 4, none, .mov (.t 14)⟩,
     ⟨some 5, none, .mov (.t 15)⟩])
  (.seq (.reg false [⟨some 17, none, .loadN (.t 1) 10⟩,
     ⟨some 18, none, .call 25 [.t 17]⟩,
     ⟨some 19, none, .call 36 [.t 18]⟩,
     ⟨some 16, none, .mov (.t 19)⟩,
     ⟨some 20, none, .ext (.t 16) 0⟩,
     ⟨some 21, none, .ext (.t 16) 1⟩,
     ⟨some 22, none, .ext (.t 16) 2⟩,
     ⟨some 6, none, .alloc [.int .i64 0, .int .i64 0, .int .i64 0, .int .i64 0, .int .i64 0, .int .i64 0, .int .i64 0, .int .i64 0, .int .i64 0, .int .i64 0] 45⟩,
     ⟨none, none, .store (.t 6) (.t 20) 10⟩,
     ⟨some 7, none, .mov (.t 21)⟩,
     ⟨some 8, none, .mov (.t 22)⟩])
  (.seq (.seq (.reg false [⟨some 23, none, .loadN (.t 6) 10⟩,
      ⟨some 24, none, .loadN (.t 3) 10⟩,
      ⟨some 25, none, .call 29 [.t 23, .t 24]⟩,
      ⟨some 26, none, .un .not (.t 25)⟩,
      ⟨some 27, none, .mov (.t 26)⟩,
      ⟨some 28, some (27, false), .mov (.t 7)⟩,
      ⟨some 29, some (27, false), .mov (.t 4)⟩,
      ⟨some 30, some (27, false), .bin .neq (.t 28) (.t 29)⟩,
      ⟨some 31, none, .pick (.t 27) (.k (.c (.bool true))) (.t 30)⟩,
      ⟨some 32, none, .mov (.t 31)⟩,
      ⟨some 33, some (32, false), .mov (.t 8)⟩,
      ⟨some 34, some (32, false), .mov (.t 5)⟩,
      ⟨some 35, some (32, false), .bin .neq (.t 33) (.t 34)⟩,
      ⟨some 36, none, .pick (.t 32) (.k (.c (.bool true))) (.t 35)⟩])
   (.cond (.t 36) (.seq (.reg false [⟨some 2, none, .mov (.k (.c (.bool false)))⟩])
    (.ret (some [2]))) .skip))
  (.seq (.reg false [⟨some 2, none, .mov (.k (.c (.bool true)))⟩])
  (.ret (some [2])))))))⟩
theorem c_laws_FnExactRingTake_ok : trF Try.prog ⟨[], [2]⟩ Try.f9 = some c_laws_FnExactRingTake := by kernel_rfl
def c_laws_FnExactRingTurn : IFn := ⟨32, [.t 4],
  (.seq (.reg false [⟨some 2, none, .box (.t 0) 43⟩,
     ⟨some 4, none, .mov (.k (.c (.bool false)))⟩])
  (.seq (.reg false [⟨some 10, none, .loadN (.t 2) 10⟩,
     ⟨some 11, none, .call 25 [.t 10]⟩,
     ⟨some 12, none, .mov (.t 1)⟩,
     ⟨some 13, none, .call 37 [.t 11, .t 12]⟩,
     ⟨some 9, none, .mov (.t 13)⟩,
     ⟨some 14, none, .ext (.t 9) 0⟩,
     ⟨some 15, none, .ext (.t 9) 1⟩,
     ⟨some 5, none, .alloc [.int .i64 0, .int .i64 0, .int .i64 0, .int .i64 0, .int .i64 0, .int .i64 0, .int .i64 0, .int .i64 0, .int .i64 0, .int .i64 0] 45⟩,
     ⟨none, none, .store (.t 5) (.t 14) 10⟩,
     ⟨some 6, none, .mov (.t 15)⟩])
  (.seq (.reg false [⟨some 17, none, .loadN (.t 2) 10⟩,
     ⟨some 18, none, .call 25 [.t 17]⟩,
     ⟨some 19, none, .mov (.t 1)⟩,
     ⟨some 20, none, .call 38 [.t 18, .t 19]⟩,
     ⟨some 16, none, .mov (.t 20)⟩,
     ⟨some 21, none, .ext (.t 16) 0⟩,
     ⟨some 22, none, .ext (.t 16) 1⟩,
     ⟨some 7, none, .alloc [.int .i64 0, .int .i64 0, .int .i64 0, .int .i64 0, .int .i64 0, .int .i64 0, .int .i64 0, .int .i64 0, .int .i64 0, .int .i64 0] 45⟩,
     ⟨none, none, .store (.t 7) (.t 21) 10⟩,
     ⟨some 8, none, .mov (.t 22)⟩])
  (.seq (.seq (.reg false [⟨some 23, none, .loadN (.t 7) 10⟩,
      ⟨some 24, none, .loadN (.t 5) 10⟩,
      ⟨some 25, none, .call 29 [.t 23, .t 24]⟩,
      ⟨some 26, none, .un .not (.t 25)⟩,
      ⟨some 27, none, .mov (.t 26)⟩,
      ⟨some 28, some (27, false), .mov (.t 8)⟩,
      ⟨some 29, some (27, false), .mov (.t 6)⟩,
      ⟨some 30, some (27, false), .bin .neq (.t 28) (.t 29)⟩,
      ⟨some 31, none, .pick (.t 27) (.k (.c (.bool true))) (.t 30)⟩])
   (.cond (.t 31) (.seq (.reg false [⟨some 4, none, .mov (.k (.c (.bool false)))⟩])
    (.ret (some [4]))) .skip))
  (.seq (.reg false [⟨some 4, none, .mov (.k (.c (.bool true)))⟩])
  (.ret (some [4])))))))⟩
theorem c_laws_FnExactRingTurn_ok : trF Try.prog ⟨[], [4]⟩ Try.f10 = some c_laws_FnExactRingTurn := by kernel_rfl
def c_laws_FnExactRingMove : IFn := ⟨48, [.t 6],
  (.seq (.reg false [⟨some 3, none, .box (.t 0) 43⟩,
     ⟨some 4, none, .box (.t 1) 43⟩,
     ⟨some 6, none, .mov (.k (.c (.bool false)))⟩])
  (.seq (.reg true [⟨some 14, none, .loadN (.t 3) 10⟩,
     ⟨some 15, none, .call 25 [.t 14]⟩,
     ⟨some 16, none, .loadN (.t 4) 10⟩,
     ⟨some 17, none, .call 25 [.t 16]⟩,
     ⟨some 18, none, .mov (.t 2)⟩,
     ⟨some 19, none, .call 39 [.t 15, .t 17, .t 18]⟩,
     ⟨some 13, none, .mov (.t 19)⟩,
     ⟨some 20, none, .ext (.t 13) 0⟩,
     ⟨some 21, none, .ext (.t 13) 1⟩,
     ⟨some 22, none, .ext (.t 13) 2⟩,
     ⟨some 7, none, .alloc [.int .i64 0, .int .i64 0, .int .i64 0, .int .i64 0, .int .i64 0, .int .i64 0, .int .i64 0, .int .i64 0, .int .i64 0, .int .i64 0] 45⟩,
     ⟨some 8, none, .alloc [.int .i64 0, .int .i64 0, .int .i64 0, .int .i64 0, .int .i64 0, .int .i64 0, .int .i64 0, .int .i64 0, .int .i64 0, .int .i64 0] 45⟩,
     ⟨none, none, .store (.t 7) (.t 20) 10⟩,
     ⟨none, none, .store (.t 8) (.t 21) 10⟩,
     ⟨some 9, none, .mov (.t 22)⟩])
  (.seq (.reg true [⟨some 24, none, .loadN (.t 3) 10⟩,
     ⟨some 25, none, .call 25 [.t 24]⟩,
     ⟨some 26, none, .loadN (.t 4) 10⟩,
     ⟨some 27, none, .call 25 [.t 26]⟩,
     ⟨some 28, none, .mov (.t 2)⟩,
     ⟨some 29, none, .call 40 [.t 25, .t 27, .t 28]⟩,
     ⟨some 23, none, .mov (.t 29)⟩,
     ⟨some 30, none, .ext (.t 23) 0⟩,
     ⟨some 31, none, .ext (.t 23) 1⟩,
     ⟨some 32, none, .ext (.t 23) 2⟩,
     ⟨some 10, none, .alloc [.int .i64 0, .int .i64 0, .int .i64 0, .int .i64 0, .int .i64 0, .int .i64 0, .int .i64 0, .int .i64 0, .int .i64 0, .int .i64 0] 45⟩,
     ⟨some 11, none, .alloc [.int .i64 0, .int .i64 0, .int .i64 0, .int .i64 0, .int .i64 0, .int .i64 0, .int .i64 0, .int .i64 0, .int .i64 0, .int .i64 0] 45⟩,
     ⟨none, none, .store (.t 10) (.t 30) 10⟩,
     ⟨none, none, .store (.t 11) (.t 31) 10⟩,
     ⟨some 12, none, .mov (.t 32)⟩])
  (.seq (.seq (.reg false [⟨some 33, none, .loadN (.t 10) 10⟩,
      ⟨some 34, none, .loadN (.t 7) 10⟩,
      ⟨some 35, none, .call 29 [.t 33, .t 34]⟩,
      ⟨some 36, none, .un .not (.t 35)⟩,
      ⟨some 37, none, .mov (.t 36)⟩,
      ⟨some 38, some (37, false), .loadN (.t 11) 10⟩,
      ⟨some 39, some (37, false), .loadN (.t 8) 10⟩,
      ⟨some 40, some (37, false), .call 29 [.t 38, .t 39]⟩,
      ⟨some 41, some (37, false), .un .not (.t 40)⟩,
      ⟨some 42, none, .pick (.t 37) (.k (.c (.bool true))) (.t 41)⟩,
      ⟨some 43, none, .mov (.t 42)⟩,
      ⟨some 44, some (43, false), .mov (.t 12)⟩,
      ⟨some 45, some (43, false), .mov (.t 9)⟩,
      ⟨some 46, some (43, false), .bin .neq (.t 44) (.t 45)⟩,
      ⟨some 47, none, .pick (.t 43) (.k (.c (.bool true))) (.t 46)⟩])
   (.cond (.t 47) (.seq (.reg false [⟨some 6, none, .mov (.k (.c (.bool false)))⟩])
    (.ret (some [6]))) .skip))
  (.seq (.reg false [⟨some 6, none, .mov (.k (.c (.bool true)))⟩])
  (.ret (some [6])))))))⟩
theorem c_laws_FnExactRingMove_ok : trF Try.prog ⟨[], [6]⟩ Try.f11 = some c_laws_FnExactRingMove := by kernel_rfl
def c_spec_NewChain : IFn := ⟨2, [.cell 0 65 true],
  (.seq (.reg false [⟨some 0, none, .alloc [.bool false, .int .i64 0, .int .i64 0, .int .i64 0, .bool false, .int .i64 0, .int .i64 0, .int .i64 0, .bool false, .int .i64 0, .int .i64 0, .int .i64 0, .bool false, .int .i64 0, .int .i64 0, .int .i64 0, .bool false, .int .i64 0, .int .i64 0, .int .i64 0, .bool false, .int .i64 0, .int .i64 0, .int .i64 0, .bool false, .int .i64 0, .int .i64 0, .int .i64 0, .bool false, .int .i64 0, .int .i64 0, .int .i64 0, .bool false, .int .i64 0, .int .i64 0, .int .i64 0, .bool false, .int .i64 0, .int .i64 0, .int .i64 0, .bool false, .int .i64 0, .int .i64 0, .int .i64 0, .bool false, .int .i64 0, .int .i64 0, .int .i64 0, .bool false, .int .i64 0, .int .i64 0, .int .i64 0, .bool false, .int .i64 0, .int .i64 0, .int .i64 0, .bool false, .int .i64 0, .int .i64 0, .int .i64 0, .bool false, .int .i64 0, .int .i64 0, .int .i64 0, .int .i64 0] 26⟩])
  (.seq (.reg false [⟨some 1, none, .bld [.bool false, .int .i64 0, .int .i64 0, .int .i64 0, .bool false, .int .i64 0, .int .i64 0, .int .i64 0, .bool false, .int .i64 0, .int .i64 0, .int .i64 0, .bool false, .int .i64 0, .int .i64 0, .int .i64 0, .bool false, .int .i64 0, .int .i64 0, .int .i64 0, .bool false, .int .i64 0, .int .i64 0, .int .i64 0, .bool false, .int .i64 0, .int .i64 0, .int .i64 0, .bool false, .int .i64 0, .int .i64 0, .int .i64 0, .bool false, .int .i64 0, .int .i64 0, .int .i64 0, .bool false, .int .i64 0, .int .i64 0, .int .i64 0, .bool false, .int .i64 0, .int .i64 0, .int .i64 0, .bool false, .int .i64 0, .int .i64 0, .int .i64 0, .bool false, .int .i64 0, .int .i64 0, .int .i64 0, .bool false, .int .i64 0, .int .i64 0, .int .i64 0, .bool false, .int .i64 0, .int .i64 0, .int .i64 0, .bool false, .int .i64 0, .int .i64 0, .int .i64 0, .int .i64 0] [(64, (1, .k (.c (.int .i64 (-1)))))]⟩,
     ⟨none, none, .store (.t 0) (.t 1) 65⟩])
  (.ret (some [0]))))⟩
theorem c_spec_NewChain_ok : trF Try.prog ⟨[], [0]⟩ Try.f13 = some c_spec_NewChain := by kernel_rfl
def c_impl_NewChain : IFn := ⟨2, [.cell 0 65 true],
  (.seq (.reg false [⟨some 0, none, .alloc [.bool false, .int .i64 0, .int .i64 0, .int .i64 0, .bool false, .int .i64 0, .int .i64 0, .int .i64 0, .bool false, .int .i64 0, .int .i64 0, .int .i64 0, .bool false, .int .i64 0, .int .i64 0, .int .i64 0, .bool false, .int .i64 0, .int .i64 0, .int .i64 0, .bool false, .int .i64 0, .int .i64 0, .int .i64 0, .bool false, .int .i64 0, .int .i64 0, .int .i64 0, .bool false, .int .i64 0, .int .i64 0, .int .i64 0, .bool false, .int .i64 0, .int .i64 0, .int .i64 0, .bool false, .int .i64 0, .int .i64 0, .int .i64 0, .bool false, .int .i64 0, .int .i64 0, .int .i64 0, .bool false, .int .i64 0, .int .i64 0, .int .i64 0, .bool false, .int .i64 0, .int .i64 0, .int .i64 0, .bool false, .int .i64 0, .int .i64 0, .int .i64 0, .bool false, .int .i64 0, .int .i64 0, .int .i64 0, .bool false, .int .i64 0, .int .i64 0, .int .i64 0, .int .i64 0] 26⟩])
  (.seq (.reg false [⟨some 1, none, .bld [.bool false, .int .i64 0, .int .i64 0, .int .i64 0, .bool false, .int .i64 0, .int .i64 0, .int .i64 0, .bool false, .int .i64 0, .int .i64 0, .int .i64 0, .bool false, .int .i64 0, .int .i64 0, .int .i64 0, .bool false, .int .i64 0, .int .i64 0, .int .i64 0, .bool false, .int .i64 0, .int .i64 0, .int .i64 0, .bool false, .int .i64 0, .int .i64 0, .int .i64 0, .bool false, .int .i64 0, .int .i64 0, .int .i64 0, .bool false, .int .i64 0, .int .i64 0, .int .i64 0, .bool false, .int .i64 0, .int .i64 0, .int .i64 0, .bool false, .int .i64 0, .int .i64 0, .int .i64 0, .bool false, .int .i64 0, .int .i64 0, .int .i64 0, .bool false, .int .i64 0, .int .i64 0, .int .i64 0, .bool false, .int .i64 0, .int .i64 0, .int .i64 0, .bool false, .int .i64 0, .int .i64 0, .int .i64 0, .bool false, .int .i64 0, .int .i64 0, .int .i64 0, .int .i64 0] [(64, (1, .k (.c (.int .i64 (-1)))))]⟩,
     ⟨none, none, .store (.t 0) (.t 1) 65⟩])
  (.ret (some [0]))))⟩
theorem c_impl_NewChain_ok : trF Try.prog ⟨[], [0]⟩ Try.f14 = some c_impl_NewChain := by kernel_rfl
def c_laws_eqChain : IFn := ⟨16, [.t 4],
  (.seq (.reg false [⟨some 2, none, .box (.t 0) 26⟩,
     ⟨some 3, none, .box (.t 1) 26⟩,
     ⟨some 4, none, .mov (.k (.c (.bool false)))⟩])
  (.seq (.seq (.reg false [⟨some 5, none, .fld (.t 2) 0⟩,
      ⟨some 6, none, .loadN (.t 5) 64⟩,
      ⟨some 7, none, .fld (.t 3) 0⟩,
      ⟨some 8, none, .loadN (.t 7) 64⟩,
      ⟨some 9, none, .call 45 [.t 6, .t 8]⟩,
      ⟨some 10, none, .un .not (.t 9)⟩])
   (.cond (.t 10) (.seq (.reg false [⟨some 4, none, .mov (.k (.c (.bool false)))⟩])
    (.ret (some [4]))) .skip))
  (.seq (.seq (.reg false [⟨some 11, none, .fld (.t 2) 64⟩,
      ⟨some 12, none, .load1 (.t 11)⟩,
      ⟨some 13, none, .fld (.t 3) 64⟩,
      ⟨some 14, none, .load1 (.t 13)⟩,
      ⟨some 15, none, .bin .neq (.t 12) (.t 14)⟩])
   (.cond (.t 15) (.seq (.reg false [⟨some 4, none, .mov (.k (.c (.bool false)))⟩])
    (.ret (some [4]))) .skip))
  (.seq (.reg false [⟨some 4, none, .mov (.k (.c (.bool true)))⟩])
  (.ret (some [4]))))))⟩
theorem c_laws_eqChain_ok : trF Try.prog ⟨[], [4]⟩ Try.f15 = some c_laws_eqChain := by kernel_rfl
def c_spec_NewTree : IFn := ⟨2, [.cell 0 65 true],
  (.seq (.reg false [⟨some 0, none, .alloc [.bool false, .int .i64 0, .int .i64 0, .int .i64 0, .bool false, .int .i64 0, .int .i64 0, .int .i64 0, .bool false, .int .i64 0, .int .i64 0, .int .i64 0, .bool false, .int .i64 0, .int .i64 0, .int .i64 0, .bool false, .int .i64 0, .int .i64 0, .int .i64 0, .bool false, .int .i64 0, .int .i64 0, .int .i64 0, .bool false, .int .i64 0, .int .i64 0, .int .i64 0, .bool false, .int .i64 0, .int .i64 0, .int .i64 0, .bool false, .int .i64 0, .int .i64 0, .int .i64 0, .bool false, .int .i64 0, .int .i64 0, .int .i64 0, .bool false, .int .i64 0, .int .i64 0, .int .i64 0, .bool false, .int .i64 0, .int .i64 0, .int .i64 0, .bool false, .int .i64 0, .int .i64 0, .int .i64 0, .bool false, .int .i64 0, .int .i64 0, .int .i64 0, .bool false, .int .i64 0, .int .i64 0, .int .i64 0, .bool false, .int .i64 0, .int .i64 0, .int .i64 0, .int .i64 0] 34⟩])
  (.seq (.reg false [⟨some 1, none, .bld [.bool false, .int .i64 0, .int .i64 0, .int .i64 0, .bool false, .int .i64 0, .int .i64 0, .int .i64 0, .bool false, .int .i64 0, .int .i64 0, .int .i64 0, .bool false, .int .i64 0, .int .i64 0, .int .i64 0, .bool false, .int .i64 0, .int .i64 0, .int .i64 0, .bool false, .int .i64 0, .int .i64 0, .int .i64 0, .bool false, .int .i64 0, .int .i64 0, .int .i64 0, .bool false, .int .i64 0, .int .i64 0, .int .i64 0, .bool false, .int .i64 0, .int .i64 0, .int .i64 0, .bool false, .int .i64 0, .int .i64 0, .int .i64 0, .bool false, .int .i64 0, .int .i64 0, .int .i64 0, .bool false, .int .i64 0, .int .i64 0, .int .i64 0, .bool false, .int .i64 0, .int .i64 0, .int .i64 0, .bool false, .int .i64 0, .int .i64 0, .int .i64 0, .bool false, .int .i64 0, .int .i64 0, .int .i64 0, .bool false, .int .i64 0, .int .i64 0, .int .i64 0, .int .i64 0] [(64, (1, .k (.c (.int .i64 (-1)))))]⟩,
     ⟨none, none, .store (.t 0) (.t 1) 65⟩])
  (.ret (some [0]))))⟩
theorem c_spec_NewTree_ok : trF Try.prog ⟨[], [0]⟩ Try.f16 = some c_spec_NewTree := by kernel_rfl
def c_impl_NewTree : IFn := ⟨2, [.cell 0 65 true],
  (.seq (.reg false [⟨some 0, none, .alloc [.bool false, .int .i64 0, .int .i64 0, .int .i64 0, .bool false, .int .i64 0, .int .i64 0, .int .i64 0, .bool false, .int .i64 0, .int .i64 0, .int .i64 0, .bool false, .int .i64 0, .int .i64 0, .int .i64 0, .bool false, .int .i64 0, .int .i64 0, .int .i64 0, .bool false, .int .i64 0, .int .i64 0, .int .i64 0, .bool false, .int .i64 0, .int .i64 0, .int .i64 0, .bool false, .int .i64 0, .int .i64 0, .int .i64 0, .bool false, .int .i64 0, .int .i64 0, .int .i64 0, .bool false, .int .i64 0, .int .i64 0, .int .i64 0, .bool false, .int .i64 0, .int .i64 0, .int .i64 0, .bool false, .int .i64 0, .int .i64 0, .int .i64 0, .bool false, .int .i64 0, .int .i64 0, .int .i64 0, .bool false, .int .i64 0, .int .i64 0, .int .i64 0, .bool false, .int .i64 0, .int .i64 0, .int .i64 0, .bool false, .int .i64 0, .int .i64 0, .int .i64 0, .int .i64 0] 34⟩])
  (.seq (.reg false [⟨some 1, none, .bld [.bool false, .int .i64 0, .int .i64 0, .int .i64 0, .bool false, .int .i64 0, .int .i64 0, .int .i64 0, .bool false, .int .i64 0, .int .i64 0, .int .i64 0, .bool false, .int .i64 0, .int .i64 0, .int .i64 0, .bool false, .int .i64 0, .int .i64 0, .int .i64 0, .bool false, .int .i64 0, .int .i64 0, .int .i64 0, .bool false, .int .i64 0, .int .i64 0, .int .i64 0, .bool false, .int .i64 0, .int .i64 0, .int .i64 0, .bool false, .int .i64 0, .int .i64 0, .int .i64 0, .bool false, .int .i64 0, .int .i64 0, .int .i64 0, .bool false, .int .i64 0, .int .i64 0, .int .i64 0, .bool false, .int .i64 0, .int .i64 0, .int .i64 0, .bool false, .int .i64 0, .int .i64 0, .int .i64 0, .bool false, .int .i64 0, .int .i64 0, .int .i64 0, .bool false, .int .i64 0, .int .i64 0, .int .i64 0, .bool false, .int .i64 0, .int .i64 0, .int .i64 0, .int .i64 0] [(64, (1, .k (.c (.int .i64 (-1)))))]⟩,
     ⟨none, none, .store (.t 0) (.t 1) 65⟩])
  (.ret (some [0]))))⟩
theorem c_impl_NewTree_ok : trF Try.prog ⟨[], [0]⟩ Try.f17 = some c_impl_NewTree := by kernel_rfl
def c_laws_eqTree : IFn := ⟨16, [.t 4],
  (.seq (.reg false [⟨some 2, none, .box (.t 0) 34⟩,
     ⟨some 3, none, .box (.t 1) 34⟩,
     ⟨some 4, none, .mov (.k (.c (.bool false)))⟩])
  (.seq (.seq (.reg false [⟨some 5, none, .fld (.t 2) 0⟩,
      ⟨some 6, none, .loadN (.t 5) 64⟩,
      ⟨some 7, none, .fld (.t 3) 0⟩,
      ⟨some 8, none, .loadN (.t 7) 64⟩,
      ⟨some 9, none, .call 46 [.t 6, .t 8]⟩,
      ⟨some 10, none, .un .not (.t 9)⟩])
   (.cond (.t 10) (.seq (.reg false [⟨some 4, none, .mov (.k (.c (.bool false)))⟩])
    (.ret (some [4]))) .skip))
  (.seq (.seq (.reg false [⟨some 11, none, .fld (.t 2) 64⟩,
      ⟨some 12, none, .load1 (.t 11)⟩,
      ⟨some 13, none, .fld (.t 3) 64⟩,
      ⟨some 14, none, .load1 (.t 13)⟩,
      ⟨some 15, none, .bin .neq (.t 12) (.t 14)⟩])
   (.cond (.t 15) (.seq (.reg false [⟨some 4, none, .mov (.k (.c (.bool false)))⟩])
    (.ret (some [4]))) .skip))
  (.seq (.reg false [⟨some 4, none, .mov (.k (.c (.bool true)))⟩])
  (.ret (some [4]))))))⟩
theorem c_laws_eqTree_ok : trF Try.prog ⟨[], [4]⟩ Try.f18 = some c_laws_eqTree := by kernel_rfl
def c_spec_NewSet : IFn := ⟨3, [.t 0],
  (.seq (.reg false [⟨some 0, none, .mov (.k (.c .nils))⟩])
  (.seq (.reg false [⟨some 1, none, .lit 0 1 [.int .i64 0] [] 3⟩,
     ⟨some 2, none, .lit 1 1 [.nils] [(0, .t 1)] 52⟩,
     ⟨some 0, none, .mov (.t 2)⟩])
  (.ret (some [0]))))⟩
theorem c_spec_NewSet_ok : trF Try.prog ⟨[], [0]⟩ Try.f19 = some c_spec_NewSet := by kernel_rfl
def c_impl_NewSet : IFn := ⟨3, [.t 0],
  (.seq (.reg false [⟨some 0, none, .mov (.k (.c .nils))⟩])
  (.seq (.reg false [⟨some 1, none, .lit 0 1 [.int .i64 0] [] 3⟩,
     ⟨some 2, none, .lit 1 1 [.nils] [(0, .t 1)] 52⟩,
     ⟨some 0, none, .mov (.t 2)⟩])
  (.ret (some [0]))))⟩
theorem c_impl_NewSet_ok : trF Try.prog ⟨[], [0]⟩ Try.f20 = some c_impl_NewSet := by kernel_rfl
def c_laws_eqIntSS_b0 : IC :=
  (.seq (.seq (.reg false [⟨some 11, none, .mov (.t 5)⟩,
      ⟨some 12, none, .mov (.t 0)⟩,
      ⟨some 13, none, .len (.t 12)⟩,
      ⟨some 14, none, .bin .lss (.t 11) (.t 13)⟩])
   (.cond (.t 14) .skip (.exit 0)))
  (.seq (.block 1 none none
   (.seq (.reg true [⟨some 17, none, .mov (.t 0)⟩,
       ⟨some 18, none, .mov (.t 5)⟩,
       ⟨some 19, none, .ixs (.t 17) (.t 18) 1⟩,
       ⟨some 20, none, .load1 (.t 19)⟩,
       ⟨some 21, none, .mov (.t 1)⟩,
       ⟨some 22, none, .mov (.t 5)⟩,
       ⟨some 23, none, .ixs (.t 21) (.t 22) 1⟩,
       ⟨some 24, none, .load1 (.t 23)⟩,
       ⟨some 25, none, .call 32 [.t 20, .t 24]⟩,
       ⟨some 26, none, .un .not (.t 25)⟩])
    (.cond (.t 26) (.seq (.reg false [⟨some 4, none, .mov (.k (.c (.bool false)))⟩])
     (.ret (some [4]))) .skip)))
  (.reg false [⟨some 15, none, .mov (.t 5)⟩,
    ⟨some 16, none, .bin .add (.t 15) (.k (.c (.int .i64 1)))⟩,
    ⟨some 5, none, .mov (.t 16)⟩])))
def c_laws_eqIntSS : IFn := ⟨27, [.t 4],
  (.seq (.reg false [⟨some 4, none, .mov (.k (.c (.bool false)))⟩])
  (.seq (.seq (.reg false [⟨some 6, none, .mov (.t 0)⟩,
      ⟨some 7, none, .len (.t 6)⟩,
      ⟨some 8, none, .mov (.t 1)⟩,
      ⟨some 9, none, .len (.t 8)⟩,
      ⟨some 10, none, .bin .neq (.t 7) (.t 9)⟩])
   (.cond (.t 10) (.seq (.reg false [⟨some 4, none, .mov (.k (.c (.bool false)))⟩])
    (.ret (some [4]))) .skip))
  (.seq (.seq (.reg false [⟨some 5, none, .mov (.k (.c (.int .i64 0)))⟩])
   (.block 0 (some [0, 1, 5]) (some [])
   (.loop c_laws_eqIntSS_b0)))
  (.seq (.reg false [⟨some 4, none, .mov (.k (.c (.bool true)))⟩])
  (.ret (some [4]))))))⟩
theorem c_laws_eqIntSS_ok : trF Try.prog ⟨[(0, [0, 1, 5], [])], [4]⟩ Try.f21 = some c_laws_eqIntSS := by kernel_rfl
def c_laws_markIntSS_b0 : IC :=
  (.seq (.seq (.reg false [⟨some 6, none, .mov (.t 5)⟩,
      ⟨some 7, none, .mov (.t 0)⟩,
      ⟨some 8, none, .len (.t 7)⟩,
      ⟨some 9, none, .bin .lss (.t 6) (.t 8)⟩])
   (.cond (.t 9) .skip (.exit 0)))
  (.seq (.block 1 none none
   (.reg false [⟨some 12, none, .mov (.t 0)⟩,
      ⟨some 13, none, .mov (.t 5)⟩,
      ⟨some 14, none, .ixs (.t 12) (.t 13) 1⟩,
      ⟨some 15, none, .load1 (.t 14)⟩,
      ⟨some 16, none, .mov (.t 1)⟩,
      ⟨some 17, none, .call 33 [.t 15, .t 16]⟩,
      ⟨some 1, none, .mov (.t 17)⟩]))
  (.reg false [⟨some 10, none, .mov (.t 5)⟩,
    ⟨some 11, none, .bin .add (.t 10) (.k (.c (.int .i64 1)))⟩,
    ⟨some 5, none, .mov (.t 11)⟩])))
def c_laws_markIntSS : IFn := ⟨19, [.t 4],
  (.seq (.reg false [⟨some 4, none, .mov (.k (.c (.int .i64 0)))⟩])
  (.seq (.seq (.reg false [⟨some 5, none, .mov (.k (.c (.int .i64 0)))⟩])
   (.block 0 (some [0, 1, 5]) (some [1])
   (.loop c_laws_markIntSS_b0)))
  (.seq (.reg false [⟨some 18, none, .mov (.t 1)⟩,
     ⟨some 4, none, .mov (.t 18)⟩])
  (.ret (some [4])))))⟩
theorem c_laws_markIntSS_ok : trF Try.prog ⟨[(0, [0, 1, 5], [1])], [4]⟩ Try.f22 = some c_laws_markIntSS := by kernel_rfl
def c_laws_heldIntSS_b0 : IC :=
  (.seq (.seq (.reg false [⟨some 6, none, .mov (.t 5)⟩,
      ⟨some 7, none, .mov (.t 0)⟩,
      ⟨some 8, none, .len (.t 7)⟩,
      ⟨some 9, none, .bin .lss (.t 6) (.t 8)⟩])
   (.cond (.t 9) .skip (.exit 0)))
  (.seq (.block 1 none none
   (.seq (.reg false [⟨some 12, none, .mov (.t 0)⟩,
       ⟨some 13, none, .mov (.t 5)⟩,
       ⟨some 14, none, .ixs (.t 12) (.t 13) 1⟩,
       ⟨some 15, none, .load1 (.t 14)⟩,
       ⟨some 16, none, .mov (.t 1)⟩,
       ⟨some 17, none, .call 34 [.t 15, .t 16]⟩,
       ⟨some 1, none, .mov (.t 17)⟩])
    (.seq (.reg false [⟨some 18, none, .mov (.t 1)⟩,
       ⟨some 19, none, .bin .lss (.t 18) (.k (.c (.int .i64 0)))⟩])
    (.cond (.t 19) (.seq (.reg false [⟨some 4, none, .mov (.k (.c (.int .i64 (-1))))⟩])
     (.ret (some [4]))) .skip))))
  (.reg false [⟨some 10, none, .mov (.t 5)⟩,
    ⟨some 11, none, .bin .add (.t 10) (.k (.c (.int .i64 1)))⟩,
    ⟨some 5, none, .mov (.t 11)⟩])))
def c_laws_heldIntSS : IFn := ⟨21, [.t 4],
  (.seq (.reg false [⟨some 4, none, .mov (.k (.c (.int .i64 0)))⟩])
  (.seq (.seq (.reg false [⟨some 5, none, .mov (.k (.c (.int .i64 0)))⟩])
   (.block 0 (some [0, 1, 5]) (some [1])
   (.loop c_laws_heldIntSS_b0)))
  (.seq (.reg false [⟨some 20, none, .mov (.t 1)⟩,
     ⟨some 4, none, .mov (.t 20)⟩])
  (.ret (some [4])))))⟩
theorem c_laws_heldIntSS_ok : trF Try.prog ⟨[(0, [0, 1, 5], [1])], [4]⟩ Try.f23 = some c_laws_heldIntSS := by kernel_rfl
def c_spec_RingOk_b0 : IC :=
  (.seq (.seq (.reg false [⟨some 15, none, .mov (.t 3)⟩,
      ⟨some 16, none, .bin .lss (.t 15) (.k (.c (.int .i64 8)))⟩])
   (.cond (.t 16) .skip (.exit 0)))
  (.seq (.block 1 none none
   (.seq (.reg false [⟨some 19, none, .fld (.t 1) 8⟩,
       ⟨some 20, none, .load1 (.t 19)⟩,
       ⟨some 21, none, .mov (.t 3)⟩,
       ⟨some 22, none, .bin .add (.t 20) (.t 21)⟩,
       ⟨some 23, none, .bin .rem (.t 22) (.k (.c (.int .i64 8)))⟩,
       ⟨some 24, none, .fld (.t 1) 0⟩,
       ⟨some 25, none, .ixa (.t 24) (.t 23) 8 1⟩,
       ⟨some 26, none, .load1 (.t 25)⟩,
       ⟨some 4, none, .mov (.t 26)⟩])
    (.seq (.reg false [⟨some 27, none, .mov (.t 3)⟩,
       ⟨some 28, none, .fld (.t 1) 9⟩,
       ⟨some 29, none, .load1 (.t 28)⟩,
       ⟨some 30, none, .bin .lss (.t 27) (.t 29)⟩,
       ⟨some 31, none, .mov (.t 30)⟩,
       ⟨some 32, some (31, true), .mov (.t 4)⟩,
       ⟨some 33, some (31, true), .call 48 [.t 32]⟩,
       ⟨some 34, some (31, true), .un .not (.t 33)⟩,
       ⟨some 35, none, .pick (.t 31) (.t 34) (.k (.c (.bool false)))⟩,
       ⟨some 36, none, .mov (.t 35)⟩,
       ⟨some 37, some (36, false), .mov (.t 3)⟩,
       ⟨some 38, some (36, false), .fld (.t 1) 9⟩,
       ⟨some 39, some (36, false), .load1 (.t 38)⟩,
       ⟨some 40, some (36, false), .bin .geq (.t 37) (.t 39)⟩,
       ⟨some 41, some (36, false), .mov (.t 40)⟩,
       ⟨some 42, some (41, true), .mov (.t 4)⟩,
       ⟨some 43, some (41, true), .bin .neq (.t 42) (.k (.c (.int .i64 0)))⟩,
       ⟨some 44, some (36, false), .pick (.t 41) (.t 43) (.k (.c (.bool false)))⟩,
       ⟨some 45, none, .pick (.t 36) (.k (.c (.bool true))) (.t 44)⟩])
    (.cond (.t 45) (.seq (.reg false [⟨some 2, none, .mov (.k (.c (.bool false)))⟩])
     (.ret (some [2]))) .skip))))
  (.reg false [⟨some 17, none, .mov (.t 3)⟩,
    ⟨some 18, none, .bin .add (.t 17) (.k (.c (.int .i64 1)))⟩,
    ⟨some 3, none, .mov (.t 18)⟩])))
def c_spec_RingOk : IFn := ⟨46, [.t 2],
  (.seq (.reg false [⟨some 1, none, .box (.t 0) 45⟩,
     ⟨some 2, none, .mov (.k (.c (.bool false)))⟩])
  (.seq (.seq (.reg false [⟨some 5, none, .fld (.t 1) 8⟩,
      ⟨some 6, none, .load1 (.t 5)⟩,
      ⟨some 7, none, .call 47 [.t 6, .k (.c (.int .i64 0)), .k (.c (.int .i64 7))]⟩,
      ⟨some 8, none, .un .not (.t 7)⟩,
      ⟨some 9, none, .mov (.t 8)⟩,
      ⟨some 10, some (9, false), .fld (.t 1) 9⟩,
      ⟨some 11, some (9, false), .load1 (.t 10)⟩,
      ⟨some 12, some (9, false), .call 47 [.t 11, .k (.c (.int .i64 0)), .k (.c (.int .i64 8))]⟩,
      ⟨some 13, some (9, false), .un .not (.t 12)⟩,
      ⟨some 14, none, .pick (.t 9) (.k (.c (.bool true))) (.t 13)⟩])
   (.cond (.t 14) (.seq (.reg false [⟨some 2, none, .mov (.k (.c (.bool false)))⟩])
    (.ret (some [2]))) .skip))
  (.seq (.seq (.reg false [⟨some 3, none, .mov (.k (.c (.int .i64 0)))⟩])
   (.block 0 (some [1, 3]) (some [])
   (.loop c_spec_RingOk_b0)))
  (.seq (.reg false [⟨some 2, none, .mov (.k (.c (.bool true)))⟩])
  (.ret (some [2]))))))⟩
theorem c_spec_RingOk_ok : trF Try.prog ⟨[(0, [1, 3], [])], [2]⟩ Try.f24 = some c_spec_RingOk := by kernel_rfl
def c_laws_toRing : IFn := ⟨15, [.cell 2 10 true],
  (.seq (.reg false [⟨some 1, none, .box (.t 0) 43⟩,
     ⟨some 2, none, .alloc [.int .i64 0, .int .i64 0, .int .i64 0, .int .i64 0, .int .i64 0, .int .i64 0, .int .i64 0, .int .i64 0, .int .i64 0, .int .i64 0] 45⟩])
  (.seq (.reg false [⟨some 3, none, .alloc [.int .i64 0, .int .i64 0, .int .i64 0, .int .i64 0, .int .i64 0, .int .i64 0, .int .i64 0, .int .i64 0, .int .i64 0, .int .i64 0] 45⟩])
  (.seq (.reg false [⟨some 4, none, .fld (.t 1) 0⟩,
     ⟨some 5, none, .loadN (.t 4) 8⟩,
     ⟨some 6, none, .call 49 [.t 5]⟩,
     ⟨some 7, none, .fld (.t 3) 0⟩,
     ⟨none, none, .store (.t 7) (.t 6) 8⟩])
  (.seq (.reg false [⟨some 8, none, .fld (.t 1) 8⟩,
     ⟨some 9, none, .load1 (.t 8)⟩,
     ⟨some 10, none, .fld (.t 3) 8⟩,
     ⟨none, none, .store (.t 10) (.t 9) 1⟩])
  (.seq (.reg false [⟨some 11, none, .fld (.t 1) 9⟩,
     ⟨some 12, none, .load1 (.t 11)⟩,
     ⟨some 13, none, .fld (.t 3) 9⟩,
     ⟨none, none, .store (.t 13) (.t 12) 1⟩])
  (.seq (.reg false [⟨some 14, none, .loadN (.t 3) 10⟩,
     ⟨none, none, .store (.t 2) (.t 14) 10⟩])
  (.ret (some [2]))))))))⟩
theorem c_laws_toRing_ok : trF Try.prog ⟨[], [2]⟩ Try.f25 = some c_laws_toRing := by kernel_rfl
def c_impl_RingOk_b0 : IC :=
  (.seq (.seq (.reg false [⟨some 22, none, .mov (.t 3)⟩,
      ⟨some 23, none, .bin .lss (.t 22) (.k (.c (.int .i64 8)))⟩])
   (.cond (.t 23) .skip (.exit 0)))
  (.seq (.block 1 none none
   (.seq (.reg false [⟨some 26, none, .fld (.t 1) 8⟩,
       ⟨some 27, none, .load1 (.t 26)⟩,
       ⟨some 28, none, .mov (.t 3)⟩,
       ⟨some 29, none, .bin .add (.t 27) (.t 28)⟩,
       ⟨some 30, none, .bin .rem (.t 29) (.k (.c (.int .i64 8)))⟩,
       ⟨some 31, none, .fld (.t 1) 0⟩,
       ⟨some 32, none, .ixa (.t 31) (.t 30) 8 1⟩,
       ⟨some 33, none, .load1 (.t 32)⟩,
       ⟨some 34, none, .bin .neq (.t 33) (.k (.c (.int .i64 0)))⟩])
    (.cond (.t 34) (.seq (.reg false [⟨some 2, none, .mov (.k (.c (.bool false)))⟩])
     (.ret (some [2]))) .skip)))
  (.reg false [⟨some 24, none, .mov (.t 3)⟩,
    ⟨some 25, none, .bin .add (.t 24) (.k (.c (.int .i64 1)))⟩,
    ⟨some 3, none, .mov (.t 25)⟩])))
def c_impl_RingOk : IFn := ⟨35, [.t 2],
  (.seq (.reg false [⟨some 1, none, .box (.t 0) 45⟩,
     ⟨some 2, none, .mov (.k (.c (.bool false)))⟩])
  (.seq (.seq (.reg false [⟨some 4, none, .fld (.t 1) 8⟩,
      ⟨some 5, none, .load1 (.t 4)⟩,
      ⟨some 6, none, .call 50 [.t 5, .k (.c (.int .i64 0)), .k (.c (.int .i64 7))]⟩,
      ⟨some 7, none, .un .not (.t 6)⟩,
      ⟨some 8, none, .mov (.t 7)⟩,
      ⟨some 9, some (8, false), .fld (.t 1) 9⟩,
      ⟨some 10, some (8, false), .load1 (.t 9)⟩,
      ⟨some 11, some (8, false), .call 50 [.t 10, .k (.c (.int .i64 0)), .k (.c (.int .i64 8))]⟩,
      ⟨some 12, some (8, false), .un .not (.t 11)⟩,
      ⟨some 13, none, .pick (.t 8) (.k (.c (.bool true))) (.t 12)⟩,
      ⟨some 14, none, .mov (.t 13)⟩,
      ⟨some 15, some (14, false), .fld (.t 1) 0⟩,
      ⟨some 16, some (14, false), .sla (.t 15) 8 1 none none⟩,
      ⟨some 17, some (14, false), .call 51 [.t 16]⟩,
      ⟨some 18, some (14, false), .un .not (.t 17)⟩,
      ⟨some 19, none, .pick (.t 14) (.k (.c (.bool true))) (.t 18)⟩])
   (.cond (.t 19) (.seq (.reg false [⟨some 2, none, .mov (.k (.c (.bool false)))⟩])
    (.ret (some [2]))) .skip))
  (.seq (.seq (.reg false [⟨some 20, none, .fld (.t 1) 9⟩,
      ⟨some 21, none, .load1 (.t 20)⟩,
      ⟨some 3, none, .mov (.t 21)⟩])
   (.block 0 (some [1, 3]) (some [])
   (.loop c_impl_RingOk_b0)))
  (.seq (.reg false [⟨some 2, none, .mov (.k (.c (.bool true)))⟩])
  (.ret (some [2]))))))⟩
theorem c_impl_RingOk_ok : trF Try.prog ⟨[(0, [1, 3], [])], [2]⟩ Try.f26 = some c_impl_RingOk := by kernel_rfl
def c_spec_RingPut : IFn := ⟨35, [.cell 4 10 true, .t 5],
  (.seq (.reg false [⟨some 2, none, .box (.t 0) 45⟩,
     ⟨some 4, none, .alloc [.int .i64 0, .int .i64 0, .int .i64 0, .int .i64 0, .int .i64 0, .int .i64 0, .int .i64 0, .int .i64 0, .int .i64 0, .int .i64 0] 45⟩,
     ⟨some 5, none, .mov (.k (.c (.int .i64 0)))⟩])
  (.seq (.block 0 none none
   (.seq (.reg false [⟨some 7, none, .loadN (.t 2) 10⟩,
       ⟨some 8, none, .call 24 [.t 7]⟩,
       ⟨some 9, none, .un .not (.t 8)⟩,
       ⟨some 10, none, .mov (.t 9)⟩,
       ⟨some 11, some (10, false), .mov (.t 1)⟩,
       ⟨some 12, some (10, false), .call 48 [.t 11]⟩,
       ⟨some 13, some (10, false), .un .not (.t 12)⟩,
       ⟨some 14, none, .pick (.t 10) (.k (.c (.bool true))) (.t 13)⟩,
       ⟨some 6, none, .mov (.t 14)⟩])
    (.cond (.t 6) (.seq (.reg false [⟨some 15, none, .loadN (.t 2) 10⟩,
        ⟨none, none, .store (.t 4) (.t 15) 10⟩,
        ⟨some 5, none, .mov (.k (.c (.int .i64 1)))⟩])
     (.ret (some [4, 5]))) (.seq (.reg false [⟨some 17, none, .fld (.t 2) 9⟩,
        ⟨some 18, none, .load1 (.t 17)⟩,
        ⟨some 19, none, .bin .eql (.t 18) (.k (.c (.int .i64 8)))⟩,
        ⟨some 16, none, .mov (.t 19)⟩])
     (.cond (.t 16) (.seq (.reg false [⟨some 20, none, .loadN (.t 2) 10⟩,
         ⟨none, none, .store (.t 4) (.t 20) 10⟩,
         ⟨some 5, none, .mov (.k (.c (.int .i64 2)))⟩])
      (.ret (some [4, 5]))) .skip)))))
  (.seq (.reg false [⟨some 21, none, .fld (.t 2) 8⟩,
     ⟨some 22, none, .load1 (.t 21)⟩,
     ⟨some 23, none, .fld (.t 2) 9⟩,
     ⟨some 24, none, .load1 (.t 23)⟩,
     ⟨some 25, none, .bin .add (.t 22) (.t 24)⟩,
     ⟨some 26, none, .bin .rem (.t 25) (.k (.c (.int .i64 8)))⟩,
     ⟨some 27, none, .mov (.t 1)⟩,
     ⟨some 28, none, .fld (.t 2) 0⟩,
     ⟨some 29, none, .ixa (.t 28) (.t 26) 8 1⟩,
     ⟨none, none, .store (.t 29) (.t 27) 1⟩])
  (.seq (.reg false [⟨some 30, none, .fld (.t 2) 9⟩,
     ⟨some 31, none, .load1 (.t 30)⟩,
     ⟨some 32, none, .bin .add (.t 31) (.k (.c (.int .i64 1)))⟩,
     ⟨some 33, none, .fld (.t 2) 9⟩,
     ⟨none, none, .store (.t 33) (.t 32) 1⟩])
  (.seq (.reg false [⟨some 34, none, .loadN (.t 2) 10⟩,
     ⟨none, none, .store (.t 4) (.t 34) 10⟩,
     ⟨some 5, none, .mov (.k (.c (.int .i64 0)))⟩])
  (.ret (some [4, 5])))))))⟩
theorem c_spec_RingPut_ok : trF Try.prog ⟨[], [4, 5]⟩ Try.f27 = some c_spec_RingPut := by kernel_rfl
def c_impl_RingPut : IFn := ⟨35, [.cell 4 10 true, .t 5],
  (.seq (.reg false [⟨some 2, none, .box (.t 0) 45⟩,
     ⟨some 4, none, .alloc [.int .i64 0, .int .i64 0, .int .i64 0, .int .i64 0, .int .i64 0, .int .i64 0, .int .i64 0, .int .i64 0, .int .i64 0, .int .i64 0] 45⟩,
     ⟨some 5, none, .mov (.k (.c (.int .i64 0)))⟩])
  (.seq (.block 0 none none
   (.seq (.reg false [⟨some 7, none, .loadN (.t 2) 10⟩,
       ⟨some 8, none, .call 26 [.t 7]⟩,
       ⟨some 9, none, .un .not (.t 8)⟩,
       ⟨some 10, none, .mov (.t 9)⟩,
       ⟨some 11, some (10, false), .mov (.t 1)⟩,
       ⟨some 12, some (10, false), .call 52 [.t 11]⟩,
       ⟨some 13, some (10, false), .un .not (.t 12)⟩,
       ⟨some 14, none, .pick (.t 10) (.k (.c (.bool true))) (.t 13)⟩,
       ⟨some 6, none, .mov (.t 14)⟩])
    (.cond (.t 6) (.seq (.reg false [⟨some 15, none, .loadN (.t 2) 10⟩,
        ⟨none, none, .store (.t 4) (.t 15) 10⟩,
        ⟨some 5, none, .mov (.k (.c (.int .i64 1)))⟩])
     (.ret (some [4, 5]))) (.seq (.reg false [⟨some 17, none, .fld (.t 2) 9⟩,
        ⟨some 18, none, .load1 (.t 17)⟩,
        ⟨some 19, none, .bin .eql (.t 18) (.k (.c (.int .i64 8)))⟩,
        ⟨some 16, none, .mov (.t 19)⟩])
     (.cond (.t 16) (.seq (.reg false [⟨some 20, none, .loadN (.t 2) 10⟩,
         ⟨none, none, .store (.t 4) (.t 20) 10⟩,
         ⟨some 5, none, .mov (.k (.c (.int .i64 2)))⟩])
      (.ret (some [4, 5]))) .skip)))))
  (.seq (.reg false [⟨some 21, none, .fld (.t 2) 8⟩,
     ⟨some 22, none, .load1 (.t 21)⟩,
     ⟨some 23, none, .fld (.t 2) 9⟩,
     ⟨some 24, none, .load1 (.t 23)⟩,
     ⟨some 25, none, .bin .add (.t 22) (.t 24)⟩,
     ⟨some 26, none, .bin .rem (.t 25) (.k (.c (.int .i64 8)))⟩,
     ⟨some 27, none, .mov (.t 1)⟩,
     ⟨some 28, none, .fld (.t 2) 0⟩,
     ⟨some 29, none, .ixa (.t 28) (.t 26) 8 1⟩,
     ⟨none, none, .store (.t 29) (.t 27) 1⟩])
  (.seq (.reg false [⟨some 30, none, .fld (.t 2) 9⟩,
     ⟨some 31, none, .load1 (.t 30)⟩,
     ⟨some 32, none, .bin .add (.t 31) (.k (.c (.int .i64 1)))⟩,
     ⟨some 33, none, .fld (.t 2) 9⟩,
     ⟨none, none, .store (.t 33) (.t 32) 1⟩])
  (.seq (.reg false [⟨some 34, none, .loadN (.t 2) 10⟩,
     ⟨none, none, .store (.t 4) (.t 34) 10⟩,
     ⟨some 5, none, .mov (.k (.c (.int .i64 0)))⟩])
  (.ret (some [4, 5])))))))⟩
theorem c_impl_RingPut_ok : trF Try.prog ⟨[], [4, 5]⟩ Try.f28 = some c_impl_RingPut := by kernel_rfl
def c_laws_eqRing : IFn := ⟨21, [.t 4],
  (.seq (.reg false [⟨some 2, none, .box (.t 0) 45⟩,
     ⟨some 3, none, .box (.t 1) 45⟩,
     ⟨some 4, none, .mov (.k (.c (.bool false)))⟩])
  (.seq (.seq (.reg false [⟨some 5, none, .fld (.t 2) 0⟩,
      ⟨some 6, none, .loadN (.t 5) 8⟩,
      ⟨some 7, none, .fld (.t 3) 0⟩,
      ⟨some 8, none, .loadN (.t 7) 8⟩,
      ⟨some 9, none, .call 53 [.t 6, .t 8]⟩,
      ⟨some 10, none, .un .not (.t 9)⟩])
   (.cond (.t 10) (.seq (.reg false [⟨some 4, none, .mov (.k (.c (.bool false)))⟩])
    (.ret (some [4]))) .skip))
  (.seq (.seq (.reg false [⟨some 11, none, .fld (.t 2) 8⟩,
      ⟨some 12, none, .load1 (.t 11)⟩,
      ⟨some 13, none, .fld (.t 3) 8⟩,
      ⟨some 14, none, .load1 (.t 13)⟩,
      ⟨some 15, none, .bin .neq (.t 12) (.t 14)⟩])
   (.cond (.t 15) (.seq (.reg false [⟨some 4, none, .mov (.k (.c (.bool false)))⟩])
    (.ret (some [4]))) .skip))
  (.seq (.seq (.reg false [⟨some 16, none, .fld (.t 2) 9⟩,
      ⟨some 17, none, .load1 (.t 16)⟩,
      ⟨some 18, none, .fld (.t 3) 9⟩,
      ⟨some 19, none, .load1 (.t 18)⟩,
      ⟨some 20, none, .bin .neq (.t 17) (.t 19)⟩])
   (.cond (.t 20) (.seq (.reg false [⟨some 4, none, .mov (.k (.c (.bool false)))⟩])
    (.ret (some [4]))) .skip))
  (.seq (.reg false [⟨some 4, none, .mov (.k (.c (.bool true)))⟩])
  (.ret (some [4])))))))⟩
theorem c_laws_eqRing_ok : trF Try.prog ⟨[], [4]⟩ Try.f29 = some c_laws_eqRing := by kernel_rfl
def c_spec_RingList_b0 : IC :=
  (.seq (.seq (.reg false [⟨some 6, none, .mov (.t 4)⟩,
      ⟨some 7, none, .fld (.t 1) 9⟩,
      ⟨some 8, none, .load1 (.t 7)⟩,
      ⟨some 9, none, .bin .lss (.t 6) (.t 8)⟩,
      ⟨some 10, none, .mov (.t 9)⟩,
      ⟨some 11, some (10, true), .loadN (.t 1) 10⟩,
      ⟨some 12, some (10, true), .call 24 [.t 11]⟩,
      ⟨some 13, none, .pick (.t 10) (.t 12) (.k (.c (.bool false)))⟩])
   (.cond (.t 13) .skip (.exit 0)))
  (.seq (.block 1 none none
   (.reg false [⟨some 16, none, .mov (.t 3)⟩,
      ⟨some 17, none, .fld (.t 1) 8⟩,
      ⟨some 18, none, .load1 (.t 17)⟩,
      ⟨some 19, none, .mov (.t 4)⟩,
      ⟨some 20, none, .bin .add (.t 18) (.t 19)⟩,
      ⟨some 21, none, .bin .rem (.t 20) (.k (.c (.int .i64 8)))⟩,
      ⟨some 22, none, .fld (.t 1) 0⟩,
      ⟨some 23, none, .ixa (.t 22) (.t 21) 8 1⟩,
      ⟨some 24, none, .load1 (.t 23)⟩,
      ⟨some 25, none, .lit 1 1 [.int .i64 0] [(0, .t 24)] 3⟩,
      ⟨some 26, none, .app (.t 16) (.t 25) 3 1 8⟩,
      ⟨some 3, none, .mov (.t 26)⟩]))
  (.reg false [⟨some 14, none, .mov (.t 4)⟩,
    ⟨some 15, none, .bin .add (.t 14) (.k (.c (.int .i64 1)))⟩,
    ⟨some 4, none, .mov (.t 15)⟩])))
def c_spec_RingList : IFn := ⟨28, [.t 2],
  (.seq (.reg false [⟨some 1, none, .box (.t 0) 45⟩,
     ⟨some 2, none, .mov (.k (.c .nils))⟩])
  (.seq (.reg false [⟨some 5, none, .lit 0 1 [.int .i64 0] [] 3⟩,
     ⟨some 3, none, .mov (.t 5)⟩])
  (.seq (.seq (.reg false [⟨some 4, none, .mov (.k (.c (.int .i64 0)))⟩])
   (.block 0 (some [1, 3, 4]) (some [3])
   (.loop c_spec_RingList_b0)))
  (.seq (.reg false [⟨some 27, none, .mov (.t 3)⟩,
     ⟨some 2, none, .mov (.t 27)⟩])
  (.ret (some [2]))))))⟩
theorem c_spec_RingList_ok : trF Try.prog ⟨[(0, [1, 3, 4], [3])], [2]⟩ Try.f30 = some c_spec_RingList := by kernel_rfl
def c_impl_RingList_b0 : IC :=
  (.seq (.reg false [⟨some 13, none, .bin .lss (.t 12) (.t 11)⟩])
  (.seq (.cond (.t 13) .skip (.exit 0))
  (.seq (.block 1 none none
   (.seq (.reg false [⟨some 14, none, .mov (.t 12)⟩,
       ⟨some 4, none, .mov (.t 14)⟩])
    (.reg false [⟨some 15, none, .mov (.t 3)⟩,
      ⟨some 16, none, .fld (.t 1) 8⟩,
      ⟨some 17, none, .load1 (.t 16)⟩,
      ⟨some 18, none, .mov (.t 4)⟩,
      ⟨some 19, none, .bin .add (.t 17) (.t 18)⟩,
      ⟨some 20, none, .bin .rem (.t 19) (.k (.c (.int .i64 8)))⟩,
      ⟨some 21, none, .fld (.t 1) 0⟩,
      ⟨some 22, none, .ixa (.t 21) (.t 20) 8 1⟩,
      ⟨some 23, none, .load1 (.t 22)⟩,
      ⟨some 24, none, .lit 1 1 [.int .i64 0] [(0, .t 23)] 3⟩,
      ⟨some 25, none, .app (.t 15) (.t 24) 3 1 8⟩,
      ⟨some 3, none, .mov (.t 25)⟩])))
  (.reg false [⟨some 26, none, .bin .add (.t 12) (.k (.c (.int .i64 1)))⟩,
    ⟨some 12, none, .mov (.t 26)⟩]))))
def c_impl_RingList : IFn := ⟨28, [.t 2],
  (.seq (.reg false [⟨some 1, none, .box (.t 0) 45⟩,
     ⟨some 2, none, .mov (.k (.c .nils))⟩])
  (.seq (.reg false [⟨some 5, none, .lit 0 1 [.int .i64 0] [] 3⟩,
     ⟨some 3, none, .mov (.t 5)⟩])
  (.seq (.seq (.reg false [⟨some 6, none, .loadN (.t 1) 10⟩,
      ⟨some 7, none, .call 26 [.t 6]⟩,
      ⟨some 8, none, .un .not (.t 7)⟩])
   (.cond (.t 8) (.seq (.reg false [⟨some 9, none, .mov (.t 3)⟩,
       ⟨some 2, none, .mov (.t 9)⟩])
    (.ret (some [2]))) .skip))
  (.seq (.seq (.reg false [⟨some 10, none, .fld (.t 1) 9⟩,
      ⟨some 11, none, .load1 (.t 10)⟩,
      ⟨some 12, none, .mov (.k (.c (.int .i64 0)))⟩])
   (.block 0 (some [1, 3, 11, 12]) (some [3])
   (.loop c_impl_RingList_b0)))
  (.seq (.reg false [⟨some 27, none, .mov (.t 3)⟩,
     ⟨some 2, none, .mov (.t 27)⟩])
  (.ret (some [2])))))))⟩
theorem c_impl_RingList_ok : trF Try.prog ⟨[(0, [1, 3, 11, 12], [3])], [2]⟩ Try.f31 = some c_impl_RingList := by kernel_rfl
def c_laws_eqIntS_b0 : IC :=
  (.seq (.seq (.reg false [⟨some 11, none, .mov (.t 5)⟩,
      ⟨some 12, none, .mov (.t 0)⟩,
      ⟨some 13, none, .len (.t 12)⟩,
      ⟨some 14, none, .bin .lss (.t 11) (.t 13)⟩])
   (.cond (.t 14) .skip (.exit 0)))
  (.seq (.block 1 none none
   (.seq (.reg true [⟨some 17, none, .mov (.t 0)⟩,
       ⟨some 18, none, .mov (.t 5)⟩,
       ⟨some 19, none, .ixs (.t 17) (.t 18) 1⟩,
       ⟨some 20, none, .load1 (.t 19)⟩,
       ⟨some 21, none, .mov (.t 1)⟩,
       ⟨some 22, none, .mov (.t 5)⟩,
       ⟨some 23, none, .ixs (.t 21) (.t 22) 1⟩,
       ⟨some 24, none, .load1 (.t 23)⟩,
       ⟨some 25, none, .bin .neq (.t 20) (.t 24)⟩])
    (.cond (.t 25) (.seq (.reg false [⟨some 4, none, .mov (.k (.c (.bool false)))⟩])
     (.ret (some [4]))) .skip)))
  (.reg false [⟨some 15, none, .mov (.t 5)⟩,
    ⟨some 16, none, .bin .add (.t 15) (.k (.c (.int .i64 1)))⟩,
    ⟨some 5, none, .mov (.t 16)⟩])))
def c_laws_eqIntS : IFn := ⟨26, [.t 4],
  (.seq (.reg false [⟨some 4, none, .mov (.k (.c (.bool false)))⟩])
  (.seq (.seq (.reg false [⟨some 6, none, .mov (.t 0)⟩,
      ⟨some 7, none, .len (.t 6)⟩,
      ⟨some 8, none, .mov (.t 1)⟩,
      ⟨some 9, none, .len (.t 8)⟩,
      ⟨some 10, none, .bin .neq (.t 7) (.t 9)⟩])
   (.cond (.t 10) (.seq (.reg false [⟨some 4, none, .mov (.k (.c (.bool false)))⟩])
    (.ret (some [4]))) .skip))
  (.seq (.seq (.reg false [⟨some 5, none, .mov (.k (.c (.int .i64 0)))⟩])
   (.block 0 (some [0, 1, 5]) (some [])
   (.loop c_laws_eqIntS_b0)))
  (.seq (.reg false [⟨some 4, none, .mov (.k (.c (.bool true)))⟩])
  (.ret (some [4]))))))⟩
theorem c_laws_eqIntS_ok : trF Try.prog ⟨[(0, [0, 1, 5], [])], [4]⟩ Try.f32 = some c_laws_eqIntS := by kernel_rfl
def c_laws_markIntS_b0 : IC :=
  (.seq (.seq (.reg false [⟨some 6, none, .mov (.t 5)⟩,
      ⟨some 7, none, .mov (.t 0)⟩,
      ⟨some 8, none, .len (.t 7)⟩,
      ⟨some 9, none, .bin .lss (.t 6) (.t 8)⟩])
   (.cond (.t 9) .skip (.exit 0)))
  (.seq (.block 1 none none
   (.seq (.reg false [⟨some 12, none, .mov (.t 0)⟩,
       ⟨some 13, none, .mov (.t 5)⟩,
       ⟨some 14, none, .mov (.t 1)⟩,
       ⟨some 15, none, .ixs (.t 12) (.t 13) 1⟩,
       ⟨none, none, .store (.t 15) (.t 14) 1⟩])
    (.reg false [⟨some 16, none, .mov (.t 1)⟩,
      ⟨some 17, none, .bin .add (.t 16) (.k (.c (.int .i64 1)))⟩,
      ⟨some 1, none, .mov (.t 17)⟩])))
  (.reg false [⟨some 10, none, .mov (.t 5)⟩,
    ⟨some 11, none, .bin .add (.t 10) (.k (.c (.int .i64 1)))⟩,
    ⟨some 5, none, .mov (.t 11)⟩])))
def c_laws_markIntS : IFn := ⟨19, [.t 4],
  (.seq (.reg false [⟨some 4, none, .mov (.k (.c (.int .i64 0)))⟩])
  (.seq (.seq (.reg false [⟨some 5, none, .mov (.k (.c (.int .i64 0)))⟩])
   (.block 0 (some [0, 1, 5]) (some [1])
   (.loop c_laws_markIntS_b0)))
  (.seq (.reg false [⟨some 18, none, .mov (.t 1)⟩,
     ⟨some 4, none, .mov (.t 18)⟩])
  (.ret (some [4])))))⟩
theorem c_laws_markIntS_ok : trF Try.prog ⟨[(0, [0, 1, 5], [1])], [4]⟩ Try.f33 = some c_laws_markIntS := by kernel_rfl
def c_laws_heldIntS_b0 : IC :=
  (.seq (.seq (.reg false [⟨some 6, none, .mov (.t 5)⟩,
      ⟨some 7, none, .mov (.t 0)⟩,
      ⟨some 8, none, .len (.t 7)⟩,
      ⟨some 9, none, .bin .lss (.t 6) (.t 8)⟩])
   (.cond (.t 9) .skip (.exit 0)))
  (.seq (.block 1 none none
   (.seq (.seq (.reg false [⟨some 12, none, .mov (.t 0)⟩,
        ⟨some 13, none, .mov (.t 5)⟩,
        ⟨some 14, none, .ixs (.t 12) (.t 13) 1⟩,
        ⟨some 15, none, .load1 (.t 14)⟩,
        ⟨some 16, none, .mov (.t 1)⟩,
        ⟨some 17, none, .bin .neq (.t 15) (.t 16)⟩])
     (.cond (.t 17) (.seq (.reg false [⟨some 4, none, .mov (.k (.c (.int .i64 (-1))))⟩])
      (.ret (some [4]))) .skip))
    (.reg false [⟨some 18, none, .mov (.t 1)⟩,
      ⟨some 19, none, .bin .add (.t 18) (.k (.c (.int .i64 1)))⟩,
      ⟨some 1, none, .mov (.t 19)⟩])))
  (.reg false [⟨some 10, none, .mov (.t 5)⟩,
    ⟨some 11, none, .bin .add (.t 10) (.k (.c (.int .i64 1)))⟩,
    ⟨some 5, none, .mov (.t 11)⟩])))
def c_laws_heldIntS : IFn := ⟨21, [.t 4],
  (.seq (.reg false [⟨some 4, none, .mov (.k (.c (.int .i64 0)))⟩])
  (.seq (.seq (.reg false [⟨some 5, none, .mov (.k (.c (.int .i64 0)))⟩])
   (.block 0 (some [0, 1, 5]) (some [1])
   (.loop c_laws_heldIntS_b0)))
  (.seq (.reg false [⟨some 20, none, .mov (.t 1)⟩,
     ⟨some 4, none, .mov (.t 20)⟩])
  (.ret (some [4])))))⟩
theorem c_laws_heldIntS_ok : trF Try.prog ⟨[(0, [0, 1, 5], [1])], [4]⟩ Try.f34 = some c_laws_heldIntS := by kernel_rfl
def c_spec_RingTake : IFn := ⟨36, [.cell 2 10 true, .t 3, .t 4],
  (.seq (.reg false [⟨some 1, none, .box (.t 0) 45⟩,
     ⟨some 2, none, .alloc [.int .i64 0, .int .i64 0, .int .i64 0, .int .i64 0, .int .i64 0, .int .i64 0, .int .i64 0, .int .i64 0, .int .i64 0, .int .i64 0] 45⟩,
     ⟨some 3, none, .mov (.k (.c (.int .i64 0)))⟩,
     ⟨some 4, none, .mov (.k (.c (.int .i64 0)))⟩])
  (.seq (.block 0 none none
   (.seq (.reg false [⟨some 7, none, .loadN (.t 1) 10⟩,
       ⟨some 8, none, .call 24 [.t 7]⟩,
       ⟨some 9, none, .un .not (.t 8)⟩,
       ⟨some 6, none, .mov (.t 9)⟩])
    (.cond (.t 6) (.seq (.reg false [⟨some 10, none, .loadN (.t 1) 10⟩,
        ⟨none, none, .store (.t 2) (.t 10) 10⟩,
        ⟨some 3, none, .mov (.k (.c (.int .i64 0)))⟩,
        ⟨some 4, none, .mov (.k (.c (.int .i64 1)))⟩])
     (.ret (some [2, 3, 4]))) (.seq (.reg false [⟨some 12, none, .fld (.t 1) 9⟩,
        ⟨some 13, none, .load1 (.t 12)⟩,
        ⟨some 14, none, .bin .eql (.t 13) (.k (.c (.int .i64 0)))⟩,
        ⟨some 11, none, .mov (.t 14)⟩])
     (.cond (.t 11) (.seq (.reg false [⟨some 15, none, .loadN (.t 1) 10⟩,
         ⟨none, none, .store (.t 2) (.t 15) 10⟩,
         ⟨some 3, none, .mov (.k (.c (.int .i64 0)))⟩,
         ⟨some 4, none, .mov (.k (.c (.int .i64 3)))⟩])
      (.ret (some [2, 3, 4]))) .skip)))))
  (.seq (.reg false [⟨some 16, none, .fld (.t 1) 8⟩,
     ⟨some 17, none, .load1 (.t 16)⟩,
     ⟨some 18, none, .fld (.t 1) 0⟩,
     ⟨some 19, none, .ixa (.t 18) (.t 17) 8 1⟩,
     ⟨some 20, none, .load1 (.t 19)⟩,
     ⟨some 5, none, .mov (.t 20)⟩])
  (.seq (.reg false [⟨some 21, none, .fld (.t 1) 8⟩,
     ⟨some 22, none, .load1 (.t 21)⟩,
     ⟨some 23, none, .fld (.t 1) 0⟩,
     ⟨some 24, none, .ixa (.t 23) (.t 22) 8 1⟩,
     ⟨none, none, .store (.t 24) (.k (.c (.int .i64 0))) 1⟩])
  (.seq (.reg false [⟨some 25, none, .fld (.t 1) 8⟩,
     ⟨some 26, none, .load1 (.t 25)⟩,
     ⟨some 27, none, .bin .add (.t 26) (.k (.c (.int .i64 1)))⟩,
     ⟨some 28, none, .bin .rem (.t 27) (.k (.c (.int .i64 8)))⟩,
     ⟨some 29, none, .fld (.t 1) 8⟩,
     ⟨none, none, .store (.t 29) (.t 28) 1⟩])
  (.seq (.reg false [⟨some 30, none, .fld (.t 1) 9⟩,
     ⟨some 31, none, .load1 (.t 30)⟩,
     ⟨some 32, none, .bin .sub (.t 31) (.k (.c (.int .i64 1)))⟩,
     ⟨some 33, none, .fld (.t 1) 9⟩,
     ⟨none, none, .store (.t 33) (.t 32) 1⟩])
  (.seq (.reg false [⟨some 34, none, .loadN (.t 1) 10⟩,
     ⟨some 35, none, .mov (.t 5)⟩,
     ⟨none, none, .store (.t 2) (.t 34) 10⟩,
     ⟨some 3, none, .mov (.t 35)⟩,
     ⟨some 4, none, .mov (.k (.c (.int .i64 0)))⟩])
  (.ret (some [2, 3, 4])))))))))⟩
theorem c_spec_RingTake_ok : trF Try.prog ⟨[], [2, 3, 4]⟩ Try.f35 = some c_spec_RingTake := by kernel_rfl
def c_impl_RingTake : IFn := ⟨36, [.cell 2 10 true, .t 3, .t 4],
  (.seq (.reg false [⟨some 1, none, .box (.t 0) 45⟩,
     ⟨some 2, none, .alloc [.int .i64 0, .int .i64 0, .int .i64 0, .int .i64 0, .int .i64 0, .int .i64 0, .int .i64 0, .int .i64 0, .int .i64 0, .int .i64 0] 45⟩,
     ⟨some 3, none, .mov (.k (.c (.int .i64 0)))⟩,
     ⟨some 4, none, .mov (.k (.c (.int .i64 0)))⟩])
  (.seq (.block 0 none none
   (.seq (.reg false [⟨some 7, none, .loadN (.t 1) 10⟩,
       ⟨some 8, none, .call 26 [.t 7]⟩,
       ⟨some 9, none, .un .not (.t 8)⟩,
       ⟨some 6, none, .mov (.t 9)⟩])
    (.cond (.t 6) (.seq (.reg false [⟨some 10, none, .loadN (.t 1) 10⟩,
        ⟨none, none, .store (.t 2) (.t 10) 10⟩,
        ⟨some 3, none, .mov (.k (.c (.int .i64 0)))⟩,
        ⟨some 4, none, .mov (.k (.c (.int .i64 1)))⟩])
     (.ret (some [2, 3, 4]))) (.seq (.reg false [⟨some 12, none, .fld (.t 1) 9⟩,
        ⟨some 13, none, .load1 (.t 12)⟩,
        ⟨some 14, none, .bin .eql (.t 13) (.k (.c (.int .i64 0)))⟩,
        ⟨some 11, none, .mov (.t 14)⟩])
     (.cond (.t 11) (.seq (.reg false [⟨some 15, none, .loadN (.t 1) 10⟩,
         ⟨none, none, .store (.t 2) (.t 15) 10⟩,
         ⟨some 3, none, .mov (.k (.c (.int .i64 0)))⟩,
         ⟨some 4, none, .mov (.k (.c (.int .i64 3)))⟩])
      (.ret (some [2, 3, 4]))) .skip)))))
  (.seq (.reg false [⟨some 16, none, .fld (.t 1) 8⟩,
     ⟨some 17, none, .load1 (.t 16)⟩,
     ⟨some 18, none, .fld (.t 1) 0⟩,
     ⟨some 19, none, .ixa (.t 18) (.t 17) 8 1⟩,
     ⟨some 20, none, .load1 (.t 19)⟩,
     ⟨some 5, none, .mov (.t 20)⟩])
  (.seq (.reg false [⟨some 21, none, .fld (.t 1) 8⟩,
     ⟨some 22, none, .load1 (.t 21)⟩,
     ⟨some 23, none, .fld (.t 1) 0⟩,
     ⟨some 24, none, .ixa (.t 23) (.t 22) 8 1⟩,
     ⟨none, none, .store (.t 24) (.k (.c (.int .i64 0))) 1⟩])
  (.seq (.reg false [⟨some 25, none, .fld (.t 1) 8⟩,
     ⟨some 26, none, .load1 (.t 25)⟩,
     ⟨some 27, none, .bin .add (.t 26) (.k (.c (.int .i64 1)))⟩,
     ⟨some 28, none, .bin .rem (.t 27) (.k (.c (.int .i64 8)))⟩,
     ⟨some 29, none, .fld (.t 1) 8⟩,
     ⟨none, none, .store (.t 29) (.t 28) 1⟩])
  (.seq (.reg false [⟨some 30, none, .fld (.t 1) 9⟩,
     ⟨some 31, none, .load1 (.t 30)⟩,
     ⟨some 32, none, .bin .sub (.t 31) (.k (.c (.int .i64 1)))⟩,
     ⟨some 33, none, .fld (.t 1) 9⟩,
     ⟨none, none, .store (.t 33) (.t 32) 1⟩])
  (.seq (.reg false [⟨some 34, none, .loadN (.t 1) 10⟩,
     ⟨some 35, none, .mov (.t 5)⟩,
     ⟨none, none, .store (.t 2) (.t 34) 10⟩,
     ⟨some 3, none, .mov (.t 35)⟩,
     ⟨some 4, none, .mov (.k (.c (.int .i64 0)))⟩])
  (.ret (some [2, 3, 4])))))))))⟩
theorem c_impl_RingTake_ok : trF Try.prog ⟨[], [2, 3, 4]⟩ Try.f36 = some c_impl_RingTake := by kernel_rfl
def c_spec_RingTurn_b0 : IC :=
  (.seq (.seq (.reg false [⟨some 19, none, .mov (.t 6)⟩,
      ⟨some 20, none, .mov (.t 1)⟩,
      ⟨some 21, none, .bin .lss (.t 19) (.t 20)⟩,
      ⟨some 22, none, .mov (.t 21)⟩,
      ⟨some 23, some (22, true), .fld (.t 2) 9⟩,
      ⟨some 24, some (22, true), .load1 (.t 23)⟩,
      ⟨some 25, some (22, true), .bin .gtr (.t 24) (.k (.c (.int .i64 0)))⟩,
      ⟨some 26, none, .pick (.t 22) (.t 25) (.k (.c (.bool false)))⟩])
   (.cond (.t 26) .skip (.exit 0)))
  (.seq (.block 1 none none
   (.seq (.reg false [⟨some 30, none, .loadN (.t 2) 10⟩,
       ⟨some 31, none, .call 35 [.t 30]⟩,
       ⟨some 29, none, .mov (.t 31)⟩,
       ⟨some 32, none, .ext (.t 29) 0⟩,
       ⟨some 33, none, .ext (.t 29) 1⟩,
       ⟨some 34, none, .ext (.t 29) 2⟩,
       ⟨some 7, none, .alloc [.int .i64 0, .int .i64 0, .int .i64 0, .int .i64 0, .int .i64 0, .int .i64 0, .int .i64 0, .int .i64 0, .int .i64 0, .int .i64 0] 45⟩,
       ⟨none, none, .store (.t 7) (.t 32) 10⟩,
       ⟨some 8, none, .mov (.t 33)⟩,
       ⟨some 9, none, .mov (.t 34)⟩])
    (.reg false [⟨some 36, none, .loadN (.t 7) 10⟩,
      ⟨some 37, none, .mov (.t 8)⟩,
      ⟨some 38, none, .call 27 [.t 36, .t 37]⟩,
      ⟨some 35, none, .mov (.t 38)⟩,
      ⟨some 39, none, .ext (.t 35) 0⟩,
      ⟨some 40, none, .ext (.t 35) 1⟩,
      ⟨none, none, .store (.t 2) (.t 39) 10⟩])))
  (.reg false [⟨some 27, none, .mov (.t 6)⟩,
    ⟨some 28, none, .bin .add (.t 27) (.k (.c (.int .i64 1)))⟩,
    ⟨some 6, none, .mov (.t 28)⟩])))
def c_spec_RingTurn : IFn := ⟨42, [.cell 4 10 true, .t 5],
  (.seq (.reg false [⟨some 2, none, .box (.t 0) 45⟩,
     ⟨some 4, none, .alloc [.int .i64 0, .int .i64 0, .int .i64 0, .int .i64 0, .int .i64 0, .int .i64 0, .int .i64 0, .int .i64 0, .int .i64 0, .int .i64 0] 45⟩,
     ⟨some 5, none, .mov (.k (.c (.int .i64 0)))⟩])
  (.seq (.seq (.reg false [⟨some 10, none, .loadN (.t 2) 10⟩,
      ⟨some 11, none, .call 24 [.t 10]⟩,
      ⟨some 12, none, .un .not (.t 11)⟩,
      ⟨some 13, none, .mov (.t 12)⟩,
      ⟨some 14, some (13, false), .mov (.t 1)⟩,
      ⟨some 15, some (13, false), .call 47 [.t 14, .k (.c (.int .i64 0)), .k (.c (.int .i64 1000))]⟩,
      ⟨some 16, some (13, false), .un .not (.t 15)⟩,
      ⟨some 17, none, .pick (.t 13) (.k (.c (.bool true))) (.t 16)⟩])
   (.cond (.t 17) (.seq (.reg false [⟨some 18, none, .loadN (.t 2) 10⟩,
       ⟨none, none, .store (.t 4) (.t 18) 10⟩,
       ⟨some 5, none, .mov (.k (.c (.int .i64 1)))⟩])
    (.ret (some [4, 5]))) .skip))
  (.seq (.seq (.reg false [⟨some 6, none, .mov (.k (.c (.int .i64 0)))⟩])
   (.block 0 (some [1, 2, 4, 6]) (some [2, 4])
   (.loop c_spec_RingTurn_b0)))
  (.seq (.reg false [⟨some 41, none, .loadN (.t 2) 10⟩,
     ⟨none, none, .store (.t 4) (.t 41) 10⟩,
     ⟨some 5, none, .mov (.k (.c (.int .i64 0)))⟩])
  (.ret (some [4, 5]))))))⟩
theorem c_spec_RingTurn_ok : trF Try.prog ⟨[(0, [1, 2, 4, 6], [2, 4])], [4, 5]⟩ Try.f37 = some c_spec_RingTurn := by kernel_rfl
def c_impl_RingTurn_b0 : IC :=
  (.seq (.reg false [⟨some 20, none, .bin .lss (.t 19) (.t 18)⟩])
  (.seq (.cond (.t 20) .skip (.exit 0))
  (.seq (.block 1 none none
   (.seq (.reg false [⟨some 22, none, .loadN (.t 2) 10⟩,
       ⟨some 23, none, .call 36 [.t 22]⟩,
       ⟨some 21, none, .mov (.t 23)⟩,
       ⟨some 24, none, .ext (.t 21) 0⟩,
       ⟨some 25, none, .ext (.t 21) 1⟩,
       ⟨some 26, none, .ext (.t 21) 2⟩,
       ⟨some 6, none, .alloc [.int .i64 0, .int .i64 0, .int .i64 0, .int .i64 0, .int .i64 0, .int .i64 0, .int .i64 0, .int .i64 0, .int .i64 0, .int .i64 0] 45⟩,
       ⟨none, none, .store (.t 6) (.t 24) 10⟩,
       ⟨some 7, none, .mov (.t 25)⟩,
       ⟨some 8, none, .mov (.t 26)⟩])
    (.seq (.reg false [⟨some 27, none, .mov (.t 8)⟩,
       ⟨some 28, none, .bin .eql (.t 27) (.k (.c (.int .i64 0)))⟩])
    (.cond (.t 28) (.reg false [⟨some 30, none, .loadN (.t 6) 10⟩,
       ⟨some 31, none, .mov (.t 7)⟩,
       ⟨some 32, none, .call 28 [.t 30, .t 31]⟩,
       ⟨some 29, none, .mov (.t 32)⟩,
       ⟨some 33, none, .ext (.t 29) 0⟩,
       ⟨some 34, none, .ext (.t 29) 1⟩,
       ⟨none, none, .store (.t 2) (.t 33) 10⟩]) .skip))))
  (.reg false [⟨some 35, none, .bin .add (.t 19) (.k (.c (.int .i64 1)))⟩,
    ⟨some 19, none, .mov (.t 35)⟩]))))
def c_impl_RingTurn : IFn := ⟨37, [.cell 4 10 true, .t 5],
  (.seq (.reg false [⟨some 2, none, .box (.t 0) 45⟩,
     ⟨some 4, none, .alloc [.int .i64 0, .int .i64 0, .int .i64 0, .int .i64 0, .int .i64 0, .int .i64 0, .int .i64 0, .int .i64 0, .int .i64 0, .int .i64 0] 45⟩,
     ⟨some 5, none, .mov (.k (.c (.int .i64 0)))⟩])
  (.seq (.seq (.reg false [⟨some 9, none, .loadN (.t 2) 10⟩,
      ⟨some 10, none, .call 26 [.t 9]⟩,
      ⟨some 11, none, .un .not (.t 10)⟩,
      ⟨some 12, none, .mov (.t 11)⟩,
      ⟨some 13, some (12, false), .mov (.t 1)⟩,
      ⟨some 14, some (12, false), .call 50 [.t 13, .k (.c (.int .i64 0)), .k (.c (.int .i64 1000))]⟩,
      ⟨some 15, some (12, false), .un .not (.t 14)⟩,
      ⟨some 16, none, .pick (.t 12) (.k (.c (.bool true))) (.t 15)⟩])
   (.cond (.t 16) (.seq (.reg false [⟨some 17, none, .loadN (.t 2) 10⟩,
       ⟨none, none, .store (.t 4) (.t 17) 10⟩,
       ⟨some 5, none, .mov (.k (.c (.int .i64 1)))⟩])
    (.ret (some [4, 5]))) .skip))
  (.seq (.seq (.reg false [⟨some 18, none, .mov (.t 1)⟩,
      ⟨some 19, none, .mov (.k (.c (.int .i64 0)))⟩])
   (.block 0 (some [2, 4, 18, 19]) (some [2, 4])
   (.loop c_impl_RingTurn_b0)))
  (.seq (.reg false [⟨some 36, none, .loadN (.t 2) 10⟩,
     ⟨none, none, .store (.t 4) (.t 36) 10⟩,
     ⟨some 5, none, .mov (.k (.c (.int .i64 0)))⟩])
  (.ret (some [4, 5]))))))⟩
theorem c_impl_RingTurn_ok : trF Try.prog ⟨[(0, [2, 4, 18, 19], [2, 4])], [4, 5]⟩ Try.f38 = some c_impl_RingTurn := by kernel_rfl
def c_spec_RingMove_b0 : IC :=
  (.seq (.seq (.reg false [⟨some 44, none, .mov (.t 9)⟩,
      ⟨some 45, none, .mov (.t 2)⟩,
      ⟨some 46, none, .bin .lss (.t 44) (.t 45)⟩])
   (.cond (.t 46) .skip (.exit 1)))
  (.seq (.block 2 none none
   (.seq (.reg false [⟨some 50, none, .loadN (.t 3) 10⟩,
       ⟨some 51, none, .call 35 [.t 50]⟩,
       ⟨some 49, none, .mov (.t 51)⟩,
       ⟨some 52, none, .ext (.t 49) 0⟩,
       ⟨some 53, none, .ext (.t 49) 1⟩,
       ⟨some 54, none, .ext (.t 49) 2⟩,
       ⟨some 10, none, .alloc [.int .i64 0, .int .i64 0, .int .i64 0, .int .i64 0, .int .i64 0, .int .i64 0, .int .i64 0, .int .i64 0, .int .i64 0, .int .i64 0] 45⟩,
       ⟨none, none, .store (.t 10) (.t 52) 10⟩,
       ⟨some 11, none, .mov (.t 53)⟩,
       ⟨some 12, none, .mov (.t 54)⟩])
    (.seq (.reg false [⟨some 55, none, .loadN (.t 10) 10⟩,
       ⟨none, none, .store (.t 3) (.t 55) 10⟩])
    (.reg false [⟨some 57, none, .loadN (.t 4) 10⟩,
      ⟨some 58, none, .mov (.t 11)⟩,
      ⟨some 59, none, .call 27 [.t 57, .t 58]⟩,
      ⟨some 56, none, .mov (.t 59)⟩,
      ⟨some 60, none, .ext (.t 56) 0⟩,
      ⟨some 61, none, .ext (.t 56) 1⟩,
      ⟨none, none, .store (.t 4) (.t 60) 10⟩]))))
  (.reg false [⟨some 47, none, .mov (.t 9)⟩,
    ⟨some 48, none, .bin .add (.t 47) (.k (.c (.int .i64 1)))⟩,
    ⟨some 9, none, .mov (.t 48)⟩])))
def c_spec_RingMove : IFn := ⟨64, [.cell 6 10 true, .cell 7 10 true, .t 8],
  (.seq (.reg false [⟨some 3, none, .box (.t 0) 45⟩,
     ⟨some 4, none, .box (.t 1) 45⟩,
     ⟨some 6, none, .alloc [.int .i64 0, .int .i64 0, .int .i64 0, .int .i64 0, .int .i64 0, .int .i64 0, .int .i64 0, .int .i64 0, .int .i64 0, .int .i64 0] 45⟩,
     ⟨some 7, none, .alloc [.int .i64 0, .int .i64 0, .int .i64 0, .int .i64 0, .int .i64 0, .int .i64 0, .int .i64 0, .int .i64 0, .int .i64 0, .int .i64 0] 45⟩,
     ⟨some 8, none, .mov (.k (.c (.int .i64 0)))⟩])
  (.seq (.block 0 none none
   (.seq (.reg false [⟨some 14, none, .loadN (.t 3) 10⟩,
       ⟨some 15, none, .call 24 [.t 14]⟩,
       ⟨some 16, none, .un .not (.t 15)⟩,
       ⟨some 17, none, .mov (.t 16)⟩,
       ⟨some 18, some (17, false), .loadN (.t 4) 10⟩,
       ⟨some 19, some (17, false), .call 24 [.t 18]⟩,
       ⟨some 20, some (17, false), .un .not (.t 19)⟩,
       ⟨some 21, none, .pick (.t 17) (.k (.c (.bool true))) (.t 20)⟩,
       ⟨some 22, none, .mov (.t 21)⟩,
       ⟨some 23, some (22, false), .mov (.t 2)⟩,
       ⟨some 24, some (22, false), .call 47 [.t 23, .k (.c (.int .i64 0)), .k (.c (.int .i64 8))]⟩,
       ⟨some 25, some (22, false), .un .not (.t 24)⟩,
       ⟨some 26, none, .pick (.t 22) (.k (.c (.bool true))) (.t 25)⟩,
       ⟨some 13, none, .mov (.t 26)⟩])
    (.cond (.t 13) (.seq (.reg true [⟨some 27, none, .loadN (.t 3) 10⟩,
        ⟨some 28, none, .loadN (.t 4) 10⟩,
        ⟨none, none, .store (.t 6) (.t 27) 10⟩,
        ⟨none, none, .store (.t 7) (.t 28) 10⟩,
        ⟨some 8, none, .mov (.k (.c (.int .i64 1)))⟩])
     (.ret (some [6, 7, 8]))) (.seq (.reg false [⟨some 30, none, .fld (.t 3) 9⟩,
        ⟨some 31, none, .load1 (.t 30)⟩,
        ⟨some 32, none, .mov (.t 2)⟩,
        ⟨some 33, none, .bin .lss (.t 31) (.t 32)⟩,
        ⟨some 29, none, .mov (.t 33)⟩])
     (.cond (.t 29) (.seq (.reg true [⟨some 34, none, .loadN (.t 3) 10⟩,
         ⟨some 35, none, .loadN (.t 4) 10⟩,
         ⟨none, none, .store (.t 6) (.t 34) 10⟩,
         ⟨none, none, .store (.t 7) (.t 35) 10⟩,
         ⟨some 8, none, .mov (.k (.c (.int .i64 3)))⟩])
      (.ret (some [6, 7, 8]))) (.seq (.reg false [⟨some 37, none, .fld (.t 4) 9⟩,
         ⟨some 38, none, .load1 (.t 37)⟩,
         ⟨some 39, none, .mov (.t 2)⟩,
         ⟨some 40, none, .bin .add (.t 38) (.t 39)⟩,
         ⟨some 41, none, .bin .gtr (.t 40) (.k (.c (.int .i64 8)))⟩,
         ⟨some 36, none, .mov (.t 41)⟩])
      (.cond (.t 36) (.seq (.reg true [⟨some 42, none, .loadN (.t 3) 10⟩,
          ⟨some 43, none, .loadN (.t 4) 10⟩,
          ⟨none, none, .store (.t 6) (.t 42) 10⟩,
          ⟨none, none, .store (.t 7) (.t 43) 10⟩,
          ⟨some 8, none, .mov (.k (.c (.int .i64 2)))⟩])
       (.ret (some [6, 7, 8]))) .skip)))))))
  (.seq (.seq (.reg false [⟨some 9, none, .mov (.k (.c (.int .i64 0)))⟩])
   (.block 1 (some [2, 3, 4, 6, 7, 9]) (some [3, 4, 6, 7])
   (.loop c_spec_RingMove_b0)))
  (.seq (.reg true [⟨some 62, none, .loadN (.t 3) 10⟩,
     ⟨some 63, none, .loadN (.t 4) 10⟩,
     ⟨none, none, .store (.t 6) (.t 62) 10⟩,
     ⟨none, none, .store (.t 7) (.t 63) 10⟩,
     ⟨some 8, none, .mov (.k (.c (.int .i64 0)))⟩])
  (.ret (some [6, 7, 8]))))))⟩
theorem c_spec_RingMove_ok : trF Try.prog ⟨[(1, [2, 3, 4, 6, 7, 9], [3, 4, 6, 7])], [6, 7, 8]⟩ Try.f39 = some c_spec_RingMove := by kernel_rfl
def c_impl_RingMove_b0 : IC :=
  (.seq (.reg false [⟨some 43, none, .bin .lss (.t 42) (.t 41)⟩])
  (.seq (.cond (.t 43) .skip (.exit 1))
  (.seq (.block 2 none none
   (.seq (.reg false [⟨some 9, none, .mov (.k (.c (.int .i64 0)))⟩])
    (.seq (.reg false [⟨some 45, none, .loadN (.t 3) 10⟩,
       ⟨some 46, none, .call 36 [.t 45]⟩,
       ⟨some 44, none, .mov (.t 46)⟩,
       ⟨some 47, none, .ext (.t 44) 0⟩,
       ⟨some 48, none, .ext (.t 44) 1⟩,
       ⟨some 49, none, .ext (.t 44) 2⟩,
       ⟨none, none, .store (.t 3) (.t 47) 10⟩,
       ⟨some 9, none, .mov (.t 48)⟩])
    (.reg false [⟨some 51, none, .loadN (.t 4) 10⟩,
      ⟨some 52, none, .mov (.t 9)⟩,
      ⟨some 53, none, .call 28 [.t 51, .t 52]⟩,
      ⟨some 50, none, .mov (.t 53)⟩,
      ⟨some 54, none, .ext (.t 50) 0⟩,
      ⟨some 55, none, .ext (.t 50) 1⟩,
      ⟨none, none, .store (.t 4) (.t 54) 10⟩]))))
  (.reg false [⟨some 56, none, .bin .add (.t 42) (.k (.c (.int .i64 1)))⟩,
    ⟨some 42, none, .mov (.t 56)⟩]))))
def c_impl_RingMove : IFn := ⟨59, [.cell 6 10 true, .cell 7 10 true, .t 8],
  (.seq (.reg false [⟨some 3, none, .box (.t 0) 45⟩,
     ⟨some 4, none, .box (.t 1) 45⟩,
     ⟨some 6, none, .alloc [.int .i64 0, .int .i64 0, .int .i64 0, .int .i64 0, .int .i64 0, .int .i64 0, .int .i64 0, .int .i64 0, .int .i64 0, .int .i64 0] 45⟩,
     ⟨some 7, none, .alloc [.int .i64 0, .int .i64 0, .int .i64 0, .int .i64 0, .int .i64 0, .int .i64 0, .int .i64 0, .int .i64 0, .int .i64 0, .int .i64 0] 45⟩,
     ⟨some 8, none, .mov (.k (.c (.int .i64 0)))⟩])
  (.seq (.block 0 none none
   (.seq (.reg false [⟨some 11, none, .loadN (.t 3) 10⟩,
       ⟨some 12, none, .call 26 [.t 11]⟩,
       ⟨some 13, none, .un .not (.t 12)⟩,
       ⟨some 14, none, .mov (.t 13)⟩,
       ⟨some 15, some (14, false), .loadN (.t 4) 10⟩,
       ⟨some 16, some (14, false), .call 26 [.t 15]⟩,
       ⟨some 17, some (14, false), .un .not (.t 16)⟩,
       ⟨some 18, none, .pick (.t 14) (.k (.c (.bool true))) (.t 17)⟩,
       ⟨some 19, none, .mov (.t 18)⟩,
       ⟨some 20, some (19, false), .mov (.t 2)⟩,
       ⟨some 21, some (19, false), .call 50 [.t 20, .k (.c (.int .i64 0)), .k (.c (.int .i64 8))]⟩,
       ⟨some 22, some (19, false), .un .not (.t 21)⟩,
       ⟨some 23, none, .pick (.t 19) (.k (.c (.bool true))) (.t 22)⟩,
       ⟨some 10, none, .mov (.t 23)⟩])
    (.cond (.t 10) (.seq (.reg true [⟨some 24, none, .loadN (.t 3) 10⟩,
        ⟨some 25, none, .loadN (.t 4) 10⟩,
        ⟨none, none, .store (.t 6) (.t 24) 10⟩,
        ⟨none, none, .store (.t 7) (.t 25) 10⟩,
        ⟨some 8, none, .mov (.k (.c (.int .i64 1)))⟩])
     (.ret (some [6, 7, 8]))) (.seq (.reg false [⟨some 27, none, .fld (.t 3) 9⟩,
        ⟨some 28, none, .load1 (.t 27)⟩,
        ⟨some 29, none, .mov (.t 2)⟩,
        ⟨some 30, none, .bin .lss (.t 28) (.t 29)⟩,
        ⟨some 26, none, .mov (.t 30)⟩])
     (.cond (.t 26) (.seq (.reg true [⟨some 31, none, .loadN (.t 3) 10⟩,
         ⟨some 32, none, .loadN (.t 4) 10⟩,
         ⟨none, none, .store (.t 6) (.t 31) 10⟩,
         ⟨none, none, .store (.t 7) (.t 32) 10⟩,
         ⟨some 8, none, .mov (.k (.c (.int .i64 3)))⟩])
      (.ret (some [6, 7, 8]))) (.seq (.reg false [⟨some 34, none, .fld (.t 4) 9⟩,
         ⟨some 35, none, .load1 (.t 34)⟩,
         ⟨some 36, none, .mov (.t 2)⟩,
         ⟨some 37, none, .bin .add (.t 35) (.t 36)⟩,
         ⟨some 38, none, .bin .gtr (.t 37) (.k (.c (.int .i64 8)))⟩,
         ⟨some 33, none, .mov (.t 38)⟩])
      (.cond (.t 33) (.seq (.reg true [⟨some 39, none, .loadN (.t 3) 10⟩,
          ⟨some 40, none, .loadN (.t 4) 10⟩,
          ⟨none, none, .store (.t 6) (.t 39) 10⟩,
          ⟨none, none, .store (.t 7) (.t 40) 10⟩,
          ⟨some 8, none, .mov (.k (.c (.int .i64 2)))⟩])
       (.ret (some [6, 7, 8]))) .skip)))))))
  (.seq (.seq (.reg false [⟨some 41, none, .mov (.t 2)⟩,
      ⟨some 42, none, .mov (.k (.c (.int .i64 0)))⟩])
   (.block 1 (some [3, 4, 6, 7, 41, 42]) (some [3, 4, 6, 7])
   (.loop c_impl_RingMove_b0)))
  (.seq (.reg true [⟨some 57, none, .loadN (.t 3) 10⟩,
     ⟨some 58, none, .loadN (.t 4) 10⟩,
     ⟨none, none, .store (.t 6) (.t 57) 10⟩,
     ⟨none, none, .store (.t 7) (.t 58) 10⟩,
     ⟨some 8, none, .mov (.k (.c (.int .i64 0)))⟩])
  (.ret (some [6, 7, 8]))))))⟩
theorem c_impl_RingMove_ok : trF Try.prog ⟨[(1, [3, 4, 6, 7, 41, 42], [3, 4, 6, 7])], [6, 7, 8]⟩ Try.f40 = some c_impl_RingMove := by kernel_rfl
def c_laws_eqNodeA16_b0 : IC :=
  (.seq (.seq (.reg false [⟨some 6, none, .mov (.t 5)⟩,
      ⟨some 7, none, .bin .lss (.t 6) (.k (.c (.int .i64 16)))⟩])
   (.cond (.t 7) .skip (.exit 0)))
  (.seq (.block 1 none none
   (.seq (.reg true [⟨some 10, none, .mov (.t 5)⟩,
       ⟨some 11, none, .ixa (.t 2) (.t 10) 16 4⟩,
       ⟨some 12, none, .loadN (.t 11) 4⟩,
       ⟨some 13, none, .mov (.t 5)⟩,
       ⟨some 14, none, .ixa (.t 3) (.t 13) 16 4⟩,
       ⟨some 15, none, .loadN (.t 14) 4⟩,
       ⟨some 16, none, .call 56 [.t 12, .t 15]⟩,
       ⟨some 17, none, .un .not (.t 16)⟩])
    (.cond (.t 17) (.seq (.reg false [⟨some 4, none, .mov (.k (.c (.bool false)))⟩])
     (.ret (some [4]))) .skip)))
  (.reg false [⟨some 8, none, .mov (.t 5)⟩,
    ⟨some 9, none, .bin .add (.t 8) (.k (.c (.int .i64 1)))⟩,
    ⟨some 5, none, .mov (.t 9)⟩])))
def c_laws_eqNodeA16 : IFn := ⟨18, [.t 4],
  (.seq (.reg false [⟨some 2, none, .box (.t 0) 24⟩,
     ⟨some 3, none, .box (.t 1) 24⟩,
     ⟨some 4, none, .mov (.k (.c (.bool false)))⟩])
  (.seq (.seq (.reg false [⟨some 5, none, .mov (.k (.c (.int .i64 0)))⟩])
   (.block 0 (some [2, 3, 5]) (some [])
   (.loop c_laws_eqNodeA16_b0)))
  (.seq (.reg false [⟨some 4, none, .mov (.k (.c (.bool true)))⟩])
  (.ret (some [4])))))⟩
theorem c_laws_eqNodeA16_ok : trF Try.prog ⟨[(0, [2, 3, 5], [])], [4]⟩ Try.f45 = some c_laws_eqNodeA16 := by kernel_rfl
def c_laws_eqTwigA16_b0 : IC :=
  (.seq (.seq (.reg false [⟨some 6, none, .mov (.t 5)⟩,
      ⟨some 7, none, .bin .lss (.t 6) (.k (.c (.int .i64 16)))⟩])
   (.cond (.t 7) .skip (.exit 0)))
  (.seq (.block 1 none none
   (.seq (.reg true [⟨some 10, none, .mov (.t 5)⟩,
       ⟨some 11, none, .ixa (.t 2) (.t 10) 16 4⟩,
       ⟨some 12, none, .loadN (.t 11) 4⟩,
       ⟨some 13, none, .mov (.t 5)⟩,
       ⟨some 14, none, .ixa (.t 3) (.t 13) 16 4⟩,
       ⟨some 15, none, .loadN (.t 14) 4⟩,
       ⟨some 16, none, .call 57 [.t 12, .t 15]⟩,
       ⟨some 17, none, .un .not (.t 16)⟩])
    (.cond (.t 17) (.seq (.reg false [⟨some 4, none, .mov (.k (.c (.bool false)))⟩])
     (.ret (some [4]))) .skip)))
  (.reg false [⟨some 8, none, .mov (.t 5)⟩,
    ⟨some 9, none, .bin .add (.t 8) (.k (.c (.int .i64 1)))⟩,
    ⟨some 5, none, .mov (.t 9)⟩])))
def c_laws_eqTwigA16 : IFn := ⟨18, [.t 4],
  (.seq (.reg false [⟨some 2, none, .box (.t 0) 32⟩,
     ⟨some 3, none, .box (.t 1) 32⟩,
     ⟨some 4, none, .mov (.k (.c (.bool false)))⟩])
  (.seq (.seq (.reg false [⟨some 5, none, .mov (.k (.c (.int .i64 0)))⟩])
   (.block 0 (some [2, 3, 5]) (some [])
   (.loop c_laws_eqTwigA16_b0)))
  (.seq (.reg false [⟨some 4, none, .mov (.k (.c (.bool true)))⟩])
  (.ret (some [4])))))⟩
theorem c_laws_eqTwigA16_ok : trF Try.prog ⟨[(0, [2, 3, 5], [])], [4]⟩ Try.f46 = some c_laws_eqTwigA16 := by kernel_rfl
def c_spec_l1In : IFn := ⟨15, [.t 6],
  (.seq (.reg false [⟨some 6, none, .mov (.k (.c (.bool false)))⟩])
  (.seq (.reg false [⟨some 7, none, .mov (.t 0)⟩,
     ⟨some 8, none, .mov (.t 1)⟩,
     ⟨some 9, none, .bin .geq (.t 7) (.t 8)⟩,
     ⟨some 10, none, .mov (.t 9)⟩,
     ⟨some 11, some (10, true), .mov (.t 0)⟩,
     ⟨some 12, some (10, true), .mov (.t 2)⟩,
     ⟨some 13, some (10, true), .bin .leq (.t 11) (.t 12)⟩,
     ⟨some 14, none, .pick (.t 10) (.t 13) (.k (.c (.bool false)))⟩,
     ⟨some 6, none, .mov (.t 14)⟩])
  (.ret (some [6]))))⟩
theorem c_spec_l1In_ok : trF Try.prog ⟨[], [6]⟩ Try.f47 = some c_spec_l1In := by kernel_rfl
def c_spec_l1Value : IFn := ⟨5, [.t 2],
  (.seq (.reg false [⟨some 2, none, .mov (.k (.c (.bool false)))⟩])
  (.seq (.reg false [⟨some 3, none, .mov (.t 0)⟩,
     ⟨some 4, none, .call 47 [.t 3, .k (.c (.int .i64 (-1000000000))), .k (.c (.int .i64 1000000000))]⟩,
     ⟨some 2, none, .mov (.t 4)⟩])
  (.ret (some [2]))))⟩
theorem c_spec_l1Value_ok : trF Try.prog ⟨[], [2]⟩ Try.f48 = some c_spec_l1Value := by kernel_rfl
def c_laws_toIntA8_b0 : IC :=
  (.seq (.seq (.reg false [⟨some 5, none, .mov (.t 4)⟩,
      ⟨some 6, none, .bin .lss (.t 5) (.k (.c (.int .i64 8)))⟩])
   (.cond (.t 6) .skip (.exit 0)))
  (.seq (.block 1 none none
   (.reg false [⟨some 9, none, .mov (.t 4)⟩,
      ⟨some 10, none, .mov (.t 4)⟩,
      ⟨some 11, none, .ixa (.t 1) (.t 10) 8 1⟩,
      ⟨some 12, none, .load1 (.t 11)⟩,
      ⟨some 13, none, .ixa (.t 3) (.t 9) 8 1⟩,
      ⟨none, none, .store (.t 13) (.t 12) 1⟩]))
  (.reg false [⟨some 7, none, .mov (.t 4)⟩,
    ⟨some 8, none, .bin .add (.t 7) (.k (.c (.int .i64 1)))⟩,
    ⟨some 4, none, .mov (.t 8)⟩])))
def c_laws_toIntA8 : IFn := ⟨15, [.cell 2 8 true],
  (.seq (.reg false [⟨some 1, none, .box (.t 0) 41⟩,
     ⟨some 2, none, .alloc [.int .i64 0, .int .i64 0, .int .i64 0, .int .i64 0, .int .i64 0, .int .i64 0, .int .i64 0, .int .i64 0] 41⟩])
  (.seq (.reg false [⟨some 3, none, .alloc [.int .i64 0, .int .i64 0, .int .i64 0, .int .i64 0, .int .i64 0, .int .i64 0, .int .i64 0, .int .i64 0] 41⟩])
  (.seq (.seq (.reg false [⟨some 4, none, .mov (.k (.c (.int .i64 0)))⟩])
   (.block 0 (some [1, 2, 3, 4]) (some [2, 3])
   (.loop c_laws_toIntA8_b0)))
  (.seq (.reg false [⟨some 14, none, .loadN (.t 3) 8⟩,
     ⟨none, none, .store (.t 2) (.t 14) 8⟩])
  (.ret (some [2]))))))⟩
theorem c_laws_toIntA8_ok : trF Try.prog ⟨[(0, [1, 2, 3, 4], [2, 3])], [2]⟩ Try.f49 = some c_laws_toIntA8 := by kernel_rfl
def c_impl_in : IFn := ⟨15, [.t 6],
  (.seq (.reg false [⟨some 6, none, .mov (.k (.c (.bool false)))⟩])
  (.seq (.reg false [⟨some 7, none, .mov (.t 1)⟩,
     ⟨some 8, none, .mov (.t 0)⟩,
     ⟨some 9, none, .bin .leq (.t 7) (.t 8)⟩,
     ⟨some 10, none, .mov (.t 9)⟩,
     ⟨some 11, some (10, true), .mov (.t 0)⟩,
     ⟨some 12, some (10, true), .mov (.t 2)⟩,
     ⟨some 13, some (10, true), .bin .leq (.t 11) (.t 12)⟩,
     ⟨some 14, none, .pick (.t 10) (.t 13) (.k (.c (.bool false)))⟩,
     ⟨some 6, none, .mov (.t 14)⟩])
  (.ret (some [6]))))⟩
theorem c_impl_in_ok : trF Try.prog ⟨[], [6]⟩ Try.f50 = some c_impl_in := by kernel_rfl
def c_impl_areValues : IFn := ⟨6, [.t 2],
  (.seq (.reg false [⟨some 2, none, .mov (.k (.c (.bool false)))⟩])
  (.seq (.reg false [⟨some 3, none, .mov (.t 0)⟩,
     ⟨some 4, none, .call 58 [.t 3, .k (.c (.fn 59))]⟩,
     ⟨some 5, none, .un .not (.t 4)⟩,
     ⟨some 2, none, .mov (.t 5)⟩])
  (.ret (some [2]))))⟩
theorem c_impl_areValues_ok : trF Try.prog ⟨[], [2]⟩ Try.f51 = some c_impl_areValues := by kernel_rfl
def c_impl_isValue : IFn := ⟨5, [.t 2],
  (.seq (.reg false [⟨some 2, none, .mov (.k (.c (.bool false)))⟩])
  (.seq (.reg false [⟨some 3, none, .mov (.t 0)⟩,
     ⟨some 4, none, .call 50 [.t 3, .k (.c (.int .i64 (-1000000000))), .k (.c (.int .i64 1000000000))]⟩,
     ⟨some 2, none, .mov (.t 4)⟩])
  (.ret (some [2]))))⟩
theorem c_impl_isValue_ok : trF Try.prog ⟨[], [2]⟩ Try.f52 = some c_impl_isValue := by kernel_rfl
def c_laws_eqIntA8_b0 : IC :=
  (.seq (.seq (.reg false [⟨some 6, none, .mov (.t 5)⟩,
      ⟨some 7, none, .bin .lss (.t 6) (.k (.c (.int .i64 8)))⟩])
   (.cond (.t 7) .skip (.exit 0)))
  (.seq (.block 1 none none
   (.seq (.reg true [⟨some 10, none, .mov (.t 5)⟩,
       ⟨some 11, none, .ixa (.t 2) (.t 10) 8 1⟩,
       ⟨some 12, none, .load1 (.t 11)⟩,
       ⟨some 13, none, .mov (.t 5)⟩,
       ⟨some 14, none, .ixa (.t 3) (.t 13) 8 1⟩,
       ⟨some 15, none, .load1 (.t 14)⟩,
       ⟨some 16, none, .bin .neq (.t 12) (.t 15)⟩])
    (.cond (.t 16) (.seq (.reg false [⟨some 4, none, .mov (.k (.c (.bool false)))⟩])
     (.ret (some [4]))) .skip)))
  (.reg false [⟨some 8, none, .mov (.t 5)⟩,
    ⟨some 9, none, .bin .add (.t 8) (.k (.c (.int .i64 1)))⟩,
    ⟨some 5, none, .mov (.t 9)⟩])))
def c_laws_eqIntA8 : IFn := ⟨17, [.t 4],
  (.seq (.reg false [⟨some 2, none, .box (.t 0) 41⟩,
     ⟨some 3, none, .box (.t 1) 41⟩,
     ⟨some 4, none, .mov (.k (.c (.bool false)))⟩])
  (.seq (.seq (.reg false [⟨some 5, none, .mov (.k (.c (.int .i64 0)))⟩])
   (.block 0 (some [2, 3, 5]) (some [])
   (.loop c_laws_eqIntA8_b0)))
  (.seq (.reg false [⟨some 4, none, .mov (.k (.c (.bool true)))⟩])
  (.ret (some [4])))))⟩
theorem c_laws_eqIntA8_ok : trF Try.prog ⟨[(0, [2, 3, 5], [])], [4]⟩ Try.f53 = some c_laws_eqIntA8 := by kernel_rfl
def c_laws_eqNode : IFn := ⟨25, [.t 4],
  (.seq (.reg false [⟨some 2, none, .box (.t 0) 23⟩,
     ⟨some 3, none, .box (.t 1) 23⟩,
     ⟨some 4, none, .mov (.k (.c (.bool false)))⟩])
  (.seq (.seq (.reg false [⟨some 5, none, .fld (.t 2) 0⟩,
      ⟨some 6, none, .load1 (.t 5)⟩,
      ⟨some 7, none, .fld (.t 3) 0⟩,
      ⟨some 8, none, .load1 (.t 7)⟩,
      ⟨some 9, none, .binb true (.t 6) (.t 8)⟩])
   (.cond (.t 9) (.seq (.reg false [⟨some 4, none, .mov (.k (.c (.bool false)))⟩])
    (.ret (some [4]))) .skip))
  (.seq (.seq (.reg false [⟨some 10, none, .fld (.t 2) 1⟩,
      ⟨some 11, none, .load1 (.t 10)⟩,
      ⟨some 12, none, .fld (.t 3) 1⟩,
      ⟨some 13, none, .load1 (.t 12)⟩,
      ⟨some 14, none, .bin .neq (.t 11) (.t 13)⟩])
   (.cond (.t 14) (.seq (.reg false [⟨some 4, none, .mov (.k (.c (.bool false)))⟩])
    (.ret (some [4]))) .skip))
  (.seq (.seq (.reg false [⟨some 15, none, .fld (.t 2) 2⟩,
      ⟨some 16, none, .load1 (.t 15)⟩,
      ⟨some 17, none, .fld (.t 3) 2⟩,
      ⟨some 18, none, .load1 (.t 17)⟩,
      ⟨some 19, none, .bin .neq (.t 16) (.t 18)⟩])
   (.cond (.t 19) (.seq (.reg false [⟨some 4, none, .mov (.k (.c (.bool false)))⟩])
    (.ret (some [4]))) .skip))
  (.seq (.seq (.reg false [⟨some 20, none, .fld (.t 2) 3⟩,
      ⟨some 21, none, .load1 (.t 20)⟩,
      ⟨some 22, none, .fld (.t 3) 3⟩,
      ⟨some 23, none, .load1 (.t 22)⟩,
      ⟨some 24, none, .bin .neq (.t 21) (.t 23)⟩])
   (.cond (.t 24) (.seq (.reg false [⟨some 4, none, .mov (.k (.c (.bool false)))⟩])
    (.ret (some [4]))) .skip))
  (.seq (.reg false [⟨some 4, none, .mov (.k (.c (.bool true)))⟩])
  (.ret (some [4]))))))))⟩
theorem c_laws_eqNode_ok : trF Try.prog ⟨[], [4]⟩ Try.f56 = some c_laws_eqNode := by kernel_rfl
def c_laws_eqTwig : IFn := ⟨25, [.t 4],
  (.seq (.reg false [⟨some 2, none, .box (.t 0) 31⟩,
     ⟨some 3, none, .box (.t 1) 31⟩,
     ⟨some 4, none, .mov (.k (.c (.bool false)))⟩])
  (.seq (.seq (.reg false [⟨some 5, none, .fld (.t 2) 0⟩,
      ⟨some 6, none, .load1 (.t 5)⟩,
      ⟨some 7, none, .fld (.t 3) 0⟩,
      ⟨some 8, none, .load1 (.t 7)⟩,
      ⟨some 9, none, .binb true (.t 6) (.t 8)⟩])
   (.cond (.t 9) (.seq (.reg false [⟨some 4, none, .mov (.k (.c (.bool false)))⟩])
    (.ret (some [4]))) .skip))
  (.seq (.seq (.reg false [⟨some 10, none, .fld (.t 2) 1⟩,
      ⟨some 11, none, .load1 (.t 10)⟩,
      ⟨some 12, none, .fld (.t 3) 1⟩,
      ⟨some 13, none, .load1 (.t 12)⟩,
      ⟨some 14, none, .bin .neq (.t 11) (.t 13)⟩])
   (.cond (.t 14) (.seq (.reg false [⟨some 4, none, .mov (.k (.c (.bool false)))⟩])
    (.ret (some [4]))) .skip))
  (.seq (.seq (.reg false [⟨some 15, none, .fld (.t 2) 2⟩,
      ⟨some 16, none, .load1 (.t 15)⟩,
      ⟨some 17, none, .fld (.t 3) 2⟩,
      ⟨some 18, none, .load1 (.t 17)⟩,
      ⟨some 19, none, .bin .neq (.t 16) (.t 18)⟩])
   (.cond (.t 19) (.seq (.reg false [⟨some 4, none, .mov (.k (.c (.bool false)))⟩])
    (.ret (some [4]))) .skip))
  (.seq (.seq (.reg false [⟨some 20, none, .fld (.t 2) 3⟩,
      ⟨some 21, none, .load1 (.t 20)⟩,
      ⟨some 22, none, .fld (.t 3) 3⟩,
      ⟨some 23, none, .load1 (.t 22)⟩,
      ⟨some 24, none, .bin .neq (.t 21) (.t 23)⟩])
   (.cond (.t 24) (.seq (.reg false [⟨some 4, none, .mov (.k (.c (.bool false)))⟩])
    (.ret (some [4]))) .skip))
  (.seq (.reg false [⟨some 4, none, .mov (.k (.c (.bool true)))⟩])
  (.ret (some [4]))))))))⟩
theorem c_laws_eqTwig_ok : trF Try.prog ⟨[], [4]⟩ Try.f57 = some c_laws_eqTwig := by kernel_rfl
def c_slices_ContainsFunc_int_int : IFn := ⟨9, [.t 4],
  (.seq (.reg false [⟨some 4, none, .mov (.k (.c (.bool false)))⟩])
  (.seq (.reg false [⟨some 5, none, .mov (.t 0)⟩,
     ⟨some 6, none, .mov (.t 1)⟩,
     ⟨some 7, none, .call 62 [.t 5, .t 6]⟩,
     ⟨some 8, none, .bin .geq (.t 7) (.k (.c (.int .i64 0)))⟩,
     ⟨some 4, none, .mov (.t 8)⟩])
  (.ret (some [4]))))⟩
theorem c_slices_ContainsFunc_int_int_ok : trF Try.prog ⟨[], [4]⟩ Try.f58 = some c_slices_ContainsFunc_int_int := by kernel_rfl
def c_impl_areValues_1 : IFn := ⟨6, [.t 2],
  (.seq (.reg false [⟨some 2, none, .mov (.k (.c (.bool false)))⟩])
  (.seq (.reg false [⟨some 3, none, .mov (.t 0)⟩,
     ⟨some 4, none, .call 52 [.t 3]⟩,
     ⟨some 5, none, .un .not (.t 4)⟩,
     ⟨some 2, none, .mov (.t 5)⟩])
  (.ret (some [2]))))⟩
theorem c_impl_areValues_1_ok : trF Try.prog ⟨[], [2]⟩ Try.f59 = some c_impl_areValues_1 := by kernel_rfl
def c_slices_IndexFunc_int_int_b0 : IC :=
  (.seq (.reg false [⟨some 9, none, .bin .lss (.t 8) (.t 7)⟩])
  (.seq (.cond (.t 9) .skip (.exit 0))
  (.seq (.block 1 none none
   (.seq (.reg false [⟨some 10, none, .mov (.t 8)⟩,
       ⟨some 5, none, .mov (.t 10)⟩])
    (.seq (.reg false [⟨some 11, none, .mov (.t 1)⟩,
       ⟨some 12, none, .mov (.t 0)⟩,
       ⟨some 13, none, .mov (.t 5)⟩,
       ⟨some 14, none, .ixs (.t 12) (.t 13) 1⟩,
       ⟨some 15, none, .load1 (.t 14)⟩,
       ⟨some 16, none, .callv (.t 11) [.t 15]⟩])
    (.cond (.t 16) (.seq (.reg false [⟨some 17, none, .mov (.t 5)⟩,
        ⟨some 4, none, .mov (.t 17)⟩])
     (.ret (some [4]))) .skip))))
  (.reg false [⟨some 18, none, .bin .add (.t 8) (.k (.c (.int .i64 1)))⟩,
    ⟨some 8, none, .mov (.t 18)⟩]))))
def c_slices_IndexFunc_int_int : IFn := ⟨19, [.t 4],
  (.seq (.reg false [⟨some 4, none, .mov (.k (.c (.int .i64 0)))⟩])
  (.seq (.seq (.reg false [⟨some 6, none, .mov (.t 0)⟩,
      ⟨some 7, none, .len (.t 6)⟩,
      ⟨some 8, none, .mov (.k (.c (.int .i64 0)))⟩])
   (.block 0 (some [0, 1, 7, 8]) (some [])
   (.loop c_slices_IndexFunc_int_int_b0)))
  (.seq (.reg false [⟨some 4, none, .mov (.k (.c (.int .i64 (-1))))⟩])
  (.ret (some [4])))))⟩
theorem c_slices_IndexFunc_int_int_ok : trF Try.prog ⟨[(0, [0, 1, 7, 8], [])], [4]⟩ Try.f62 = some c_slices_IndexFunc_int_int := by kernel_rfl
def T : FuncId → Option IFn
  | 3 => some c_laws_FnExactNewChain
  | 4 => some c_laws_FnExactNewTree
  | 5 => some c_laws_FnExactNewSet
  | 6 => some c_laws_FnExactRingOk
  | 7 => some c_laws_FnExactRingPut
  | 8 => some c_laws_FnExactRingList
  | 9 => some c_laws_FnExactRingTake
  | 10 => some c_laws_FnExactRingTurn
  | 11 => some c_laws_FnExactRingMove
  | 13 => some c_spec_NewChain
  | 14 => some c_impl_NewChain
  | 15 => some c_laws_eqChain
  | 16 => some c_spec_NewTree
  | 17 => some c_impl_NewTree
  | 18 => some c_laws_eqTree
  | 19 => some c_spec_NewSet
  | 20 => some c_impl_NewSet
  | 21 => some c_laws_eqIntSS
  | 22 => some c_laws_markIntSS
  | 23 => some c_laws_heldIntSS
  | 24 => some c_spec_RingOk
  | 25 => some c_laws_toRing
  | 26 => some c_impl_RingOk
  | 27 => some c_spec_RingPut
  | 28 => some c_impl_RingPut
  | 29 => some c_laws_eqRing
  | 30 => some c_spec_RingList
  | 31 => some c_impl_RingList
  | 32 => some c_laws_eqIntS
  | 33 => some c_laws_markIntS
  | 34 => some c_laws_heldIntS
  | 35 => some c_spec_RingTake
  | 36 => some c_impl_RingTake
  | 37 => some c_spec_RingTurn
  | 38 => some c_impl_RingTurn
  | 39 => some c_spec_RingMove
  | 40 => some c_impl_RingMove
  | 45 => some c_laws_eqNodeA16
  | 46 => some c_laws_eqTwigA16
  | 47 => some c_spec_l1In
  | 48 => some c_spec_l1Value
  | 49 => some c_laws_toIntA8
  | 50 => some c_impl_in
  | 51 => some c_impl_areValues
  | 52 => some c_impl_isValue
  | 53 => some c_laws_eqIntA8
  | 56 => some c_laws_eqNode
  | 57 => some c_laws_eqTwig
  | 58 => some c_slices_ContainsFunc_int_int
  | 59 => some c_impl_areValues_1
  | 62 => some c_slices_IndexFunc_int_int
  | _ => none
theorem T_3 : T 3 = some c_laws_FnExactNewChain := rfl
theorem T_4 : T 4 = some c_laws_FnExactNewTree := rfl
theorem T_5 : T 5 = some c_laws_FnExactNewSet := rfl
theorem T_6 : T 6 = some c_laws_FnExactRingOk := rfl
theorem T_7 : T 7 = some c_laws_FnExactRingPut := rfl
theorem T_8 : T 8 = some c_laws_FnExactRingList := rfl
theorem T_9 : T 9 = some c_laws_FnExactRingTake := rfl
theorem T_10 : T 10 = some c_laws_FnExactRingTurn := rfl
theorem T_11 : T 11 = some c_laws_FnExactRingMove := rfl
theorem T_13 : T 13 = some c_spec_NewChain := rfl
theorem T_14 : T 14 = some c_impl_NewChain := rfl
theorem T_15 : T 15 = some c_laws_eqChain := rfl
theorem T_16 : T 16 = some c_spec_NewTree := rfl
theorem T_17 : T 17 = some c_impl_NewTree := rfl
theorem T_18 : T 18 = some c_laws_eqTree := rfl
theorem T_19 : T 19 = some c_spec_NewSet := rfl
theorem T_20 : T 20 = some c_impl_NewSet := rfl
theorem T_21 : T 21 = some c_laws_eqIntSS := rfl
theorem T_22 : T 22 = some c_laws_markIntSS := rfl
theorem T_23 : T 23 = some c_laws_heldIntSS := rfl
theorem T_24 : T 24 = some c_spec_RingOk := rfl
theorem T_25 : T 25 = some c_laws_toRing := rfl
theorem T_26 : T 26 = some c_impl_RingOk := rfl
theorem T_27 : T 27 = some c_spec_RingPut := rfl
theorem T_28 : T 28 = some c_impl_RingPut := rfl
theorem T_29 : T 29 = some c_laws_eqRing := rfl
theorem T_30 : T 30 = some c_spec_RingList := rfl
theorem T_31 : T 31 = some c_impl_RingList := rfl
theorem T_32 : T 32 = some c_laws_eqIntS := rfl
theorem T_33 : T 33 = some c_laws_markIntS := rfl
theorem T_34 : T 34 = some c_laws_heldIntS := rfl
theorem T_35 : T 35 = some c_spec_RingTake := rfl
theorem T_36 : T 36 = some c_impl_RingTake := rfl
theorem T_37 : T 37 = some c_spec_RingTurn := rfl
theorem T_38 : T 38 = some c_impl_RingTurn := rfl
theorem T_39 : T 39 = some c_spec_RingMove := rfl
theorem T_40 : T 40 = some c_impl_RingMove := rfl
theorem T_45 : T 45 = some c_laws_eqNodeA16 := rfl
theorem T_46 : T 46 = some c_laws_eqTwigA16 := rfl
theorem T_47 : T 47 = some c_spec_l1In := rfl
theorem T_48 : T 48 = some c_spec_l1Value := rfl
theorem T_49 : T 49 = some c_laws_toIntA8 := rfl
theorem T_50 : T 50 = some c_impl_in := rfl
theorem T_51 : T 51 = some c_impl_areValues := rfl
theorem T_52 : T 52 = some c_impl_isValue := rfl
theorem T_53 : T 53 = some c_laws_eqIntA8 := rfl
theorem T_56 : T 56 = some c_laws_eqNode := rfl
theorem T_57 : T 57 = some c_laws_eqTwig := rfl
theorem T_58 : T 58 = some c_slices_ContainsFunc_int_int := rfl
theorem T_59 : T 59 = some c_impl_areValues_1 := rfl
theorem T_62 : T 62 = some c_slices_IndexFunc_int_int := rfl
theorem ne_name {s t : String} (h : (s == t) = false) : s ≠ t := by simpa using h
theorem tabOk : TabOk Try.prog T := by
  intro f ifn h
  unfold T at h
  split at h
  · injection h with h; subst h; exact ⟨_, _, Try.func3, c_laws_FnExactNewChain_ok, ne_name (by kernel_rfl)⟩
  · injection h with h; subst h; exact ⟨_, _, Try.func4, c_laws_FnExactNewTree_ok, ne_name (by kernel_rfl)⟩
  · injection h with h; subst h; exact ⟨_, _, Try.func5, c_laws_FnExactNewSet_ok, ne_name (by kernel_rfl)⟩
  · injection h with h; subst h; exact ⟨_, _, Try.func6, c_laws_FnExactRingOk_ok, ne_name (by kernel_rfl)⟩
  · injection h with h; subst h; exact ⟨_, _, Try.func7, c_laws_FnExactRingPut_ok, ne_name (by kernel_rfl)⟩
  · injection h with h; subst h; exact ⟨_, _, Try.func8, c_laws_FnExactRingList_ok, ne_name (by kernel_rfl)⟩
  · injection h with h; subst h; exact ⟨_, _, Try.func9, c_laws_FnExactRingTake_ok, ne_name (by kernel_rfl)⟩
  · injection h with h; subst h; exact ⟨_, _, Try.func10, c_laws_FnExactRingTurn_ok, ne_name (by kernel_rfl)⟩
  · injection h with h; subst h; exact ⟨_, _, Try.func11, c_laws_FnExactRingMove_ok, ne_name (by kernel_rfl)⟩
  · injection h with h; subst h; exact ⟨_, _, Try.func13, c_spec_NewChain_ok, ne_name (by kernel_rfl)⟩
  · injection h with h; subst h; exact ⟨_, _, Try.func14, c_impl_NewChain_ok, ne_name (by kernel_rfl)⟩
  · injection h with h; subst h; exact ⟨_, _, Try.func15, c_laws_eqChain_ok, ne_name (by kernel_rfl)⟩
  · injection h with h; subst h; exact ⟨_, _, Try.func16, c_spec_NewTree_ok, ne_name (by kernel_rfl)⟩
  · injection h with h; subst h; exact ⟨_, _, Try.func17, c_impl_NewTree_ok, ne_name (by kernel_rfl)⟩
  · injection h with h; subst h; exact ⟨_, _, Try.func18, c_laws_eqTree_ok, ne_name (by kernel_rfl)⟩
  · injection h with h; subst h; exact ⟨_, _, Try.func19, c_spec_NewSet_ok, ne_name (by kernel_rfl)⟩
  · injection h with h; subst h; exact ⟨_, _, Try.func20, c_impl_NewSet_ok, ne_name (by kernel_rfl)⟩
  · injection h with h; subst h; exact ⟨_, _, Try.func21, c_laws_eqIntSS_ok, ne_name (by kernel_rfl)⟩
  · injection h with h; subst h; exact ⟨_, _, Try.func22, c_laws_markIntSS_ok, ne_name (by kernel_rfl)⟩
  · injection h with h; subst h; exact ⟨_, _, Try.func23, c_laws_heldIntSS_ok, ne_name (by kernel_rfl)⟩
  · injection h with h; subst h; exact ⟨_, _, Try.func24, c_spec_RingOk_ok, ne_name (by kernel_rfl)⟩
  · injection h with h; subst h; exact ⟨_, _, Try.func25, c_laws_toRing_ok, ne_name (by kernel_rfl)⟩
  · injection h with h; subst h; exact ⟨_, _, Try.func26, c_impl_RingOk_ok, ne_name (by kernel_rfl)⟩
  · injection h with h; subst h; exact ⟨_, _, Try.func27, c_spec_RingPut_ok, ne_name (by kernel_rfl)⟩
  · injection h with h; subst h; exact ⟨_, _, Try.func28, c_impl_RingPut_ok, ne_name (by kernel_rfl)⟩
  · injection h with h; subst h; exact ⟨_, _, Try.func29, c_laws_eqRing_ok, ne_name (by kernel_rfl)⟩
  · injection h with h; subst h; exact ⟨_, _, Try.func30, c_spec_RingList_ok, ne_name (by kernel_rfl)⟩
  · injection h with h; subst h; exact ⟨_, _, Try.func31, c_impl_RingList_ok, ne_name (by kernel_rfl)⟩
  · injection h with h; subst h; exact ⟨_, _, Try.func32, c_laws_eqIntS_ok, ne_name (by kernel_rfl)⟩
  · injection h with h; subst h; exact ⟨_, _, Try.func33, c_laws_markIntS_ok, ne_name (by kernel_rfl)⟩
  · injection h with h; subst h; exact ⟨_, _, Try.func34, c_laws_heldIntS_ok, ne_name (by kernel_rfl)⟩
  · injection h with h; subst h; exact ⟨_, _, Try.func35, c_spec_RingTake_ok, ne_name (by kernel_rfl)⟩
  · injection h with h; subst h; exact ⟨_, _, Try.func36, c_impl_RingTake_ok, ne_name (by kernel_rfl)⟩
  · injection h with h; subst h; exact ⟨_, _, Try.func37, c_spec_RingTurn_ok, ne_name (by kernel_rfl)⟩
  · injection h with h; subst h; exact ⟨_, _, Try.func38, c_impl_RingTurn_ok, ne_name (by kernel_rfl)⟩
  · injection h with h; subst h; exact ⟨_, _, Try.func39, c_spec_RingMove_ok, ne_name (by kernel_rfl)⟩
  · injection h with h; subst h; exact ⟨_, _, Try.func40, c_impl_RingMove_ok, ne_name (by kernel_rfl)⟩
  · injection h with h; subst h; exact ⟨_, _, Try.func45, c_laws_eqNodeA16_ok, ne_name (by kernel_rfl)⟩
  · injection h with h; subst h; exact ⟨_, _, Try.func46, c_laws_eqTwigA16_ok, ne_name (by kernel_rfl)⟩
  · injection h with h; subst h; exact ⟨_, _, Try.func47, c_spec_l1In_ok, ne_name (by kernel_rfl)⟩
  · injection h with h; subst h; exact ⟨_, _, Try.func48, c_spec_l1Value_ok, ne_name (by kernel_rfl)⟩
  · injection h with h; subst h; exact ⟨_, _, Try.func49, c_laws_toIntA8_ok, ne_name (by kernel_rfl)⟩
  · injection h with h; subst h; exact ⟨_, _, Try.func50, c_impl_in_ok, ne_name (by kernel_rfl)⟩
  · injection h with h; subst h; exact ⟨_, _, Try.func51, c_impl_areValues_ok, ne_name (by kernel_rfl)⟩
  · injection h with h; subst h; exact ⟨_, _, Try.func52, c_impl_isValue_ok, ne_name (by kernel_rfl)⟩
  · injection h with h; subst h; exact ⟨_, _, Try.func53, c_laws_eqIntA8_ok, ne_name (by kernel_rfl)⟩
  · injection h with h; subst h; exact ⟨_, _, Try.func56, c_laws_eqNode_ok, ne_name (by kernel_rfl)⟩
  · injection h with h; subst h; exact ⟨_, _, Try.func57, c_laws_eqTwig_ok, ne_name (by kernel_rfl)⟩
  · injection h with h; subst h; exact ⟨_, _, Try.func58, c_slices_ContainsFunc_int_int_ok, ne_name (by kernel_rfl)⟩
  · injection h with h; subst h; exact ⟨_, _, Try.func59, c_impl_areValues_1_ok, ne_name (by kernel_rfl)⟩
  · injection h with h; subst h; exact ⟨_, _, Try.func62, c_slices_IndexFunc_int_int_ok, ne_name (by kernel_rfl)⟩
  · cases h
end Go.Proofs.Ytmifcdeajjgdpaa
