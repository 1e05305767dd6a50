/-
  The functions of the program that the laws here reach, in the small language; each is what the translation gives (checked by the kernel).
-/
import Derived.Test.YtfbeplbcaanimaaGreatTaba
import Derived.Test.YtfbeplbcaanimaaGreatMD
import Derived.Test.YtfbeplbcaanimaaGreatProg
import Derived.KernelRfl
set_option linter.unusedVariables false
namespace Go.Proofs.YtfbeplbcaanimaaGreat
def c_laws_eqTwigA16_b0 : IC :=
  (.seq (.seq (.reg false [⟨some 6, none, .mov (.t 5)⟩,
 ⟨some 7, none, .bin .lss (.t 6) (.k (.c (.int .i64 16)))⟩])
 (.cond (.t 7) .skip (.exit 0)))
 (.seq (.block 1 none none
 (.seq (.reg true [⟨some 10, none, .mov (.t 5)⟩,
 ⟨some 11, none, .ixa (.t 2) (.t 10) 16 4⟩,
 ⟨some 12, none, .loadN (.t 11) 4⟩,
 ⟨some 13, none, .mov (.t 5)⟩,
 ⟨some 14, none, .ixa (.t 3) (.t 13) 16 4⟩,
 ⟨some 15, none, .loadN (.t 14) 4⟩,
 ⟨some 16, none, .call 125 [.t 12, .t 15]⟩,
 ⟨some 17, none, .un .not (.t 16)⟩])
 (.cond (.t 17) (.seq (.reg false [⟨some 4, none, .mov (.k (.c (.bool false)))⟩])
 (.ret (some [4]))) .skip)))
 (.reg false [⟨some 8, none, .mov (.t 5)⟩,
 ⟨some 9, none, .bin .add (.t 8) (.k (.c (.int .i64 1)))⟩,
 ⟨some 5, none, .mov (.t 9)⟩])))
def c_laws_eqTwigA16 : IFn := ⟨18, [.t 4],
  (.seq (.reg false [⟨some 2, none, .box (.t 0) 47⟩,
 ⟨some 3, none, .box (.t 1) 47⟩,
 ⟨some 4, none, .mov (.k (.c (.bool false)))⟩])
 (.seq (.seq (.reg false [⟨some 5, none, .mov (.k (.c (.int .i64 0)))⟩])
 (.block 0 (some [2, 3, 5]) (some [])
 (.loop c_laws_eqTwigA16_b0)))
 (.seq (.reg false [⟨some 4, none, .mov (.k (.c (.bool true)))⟩])
 (.ret (some [4])))))⟩
theorem c_laws_eqTwigA16_ok : trF Tryz.prog ⟨[(0, [2, 3, 5], [])], [4], false, false⟩ Tryz.f95 = some c_laws_eqTwigA16 := by kernel_rfl
def c_laws_eqIntS_b0 : IC :=
  (.seq (.seq (.reg false [⟨some 11, none, .mov (.t 5)⟩,
 ⟨some 12, none, .mov (.t 0)⟩,
 ⟨some 13, none, .len (.t 12)⟩,
 ⟨some 14, none, .bin .lss (.t 11) (.t 13)⟩])
 (.cond (.t 14) .skip (.exit 0)))
 (.seq (.block 1 none none
 (.seq (.reg true [⟨some 17, none, .mov (.t 0)⟩,
 ⟨some 18, none, .mov (.t 5)⟩,
 ⟨some 19, none, .ixs (.t 17) (.t 18) 1⟩,
 ⟨some 20, none, .load1 (.t 19)⟩,
 ⟨some 21, none, .mov (.t 1)⟩,
 ⟨some 22, none, .mov (.t 5)⟩,
 ⟨some 23, none, .ixs (.t 21) (.t 22) 1⟩,
 ⟨some 24, none, .load1 (.t 23)⟩,
 ⟨some 25, none, .bin .neq (.t 20) (.t 24)⟩])
 (.cond (.t 25) (.seq (.reg false [⟨some 4, none, .mov (.k (.c (.bool false)))⟩])
 (.ret (some [4]))) .skip)))
 (.reg false [⟨some 15, none, .mov (.t 5)⟩,
 ⟨some 16, none, .bin .add (.t 15) (.k (.c (.int .i64 1)))⟩,
 ⟨some 5, none, .mov (.t 16)⟩])))
def c_laws_eqIntS : IFn := ⟨26, [.t 4],
  (.seq (.reg false [⟨some 4, none, .mov (.k (.c (.bool false)))⟩])
 (.seq (.seq (.reg false [⟨some 6, none, .mov (.t 0)⟩,
 ⟨some 7, none, .len (.t 6)⟩,
 ⟨some 8, none, .mov (.t 1)⟩,
 ⟨some 9, none, .len (.t 8)⟩,
 ⟨some 10, none, .bin .neq (.t 7) (.t 9)⟩])
 (.cond (.t 10) (.seq (.reg false [⟨some 4, none, .mov (.k (.c (.bool false)))⟩])
 (.ret (some [4]))) .skip))
 (.seq (.seq (.reg false [⟨some 5, none, .mov (.k (.c (.int .i64 0)))⟩])
 (.block 0 (some [0, 1, 5]) (some [])
 (.loop c_laws_eqIntS_b0)))
 (.seq (.reg false [⟨some 4, none, .mov (.k (.c (.bool true)))⟩])
 (.ret (some [4]))))))⟩
theorem c_laws_eqIntS_ok : trF Tryz.prog ⟨[(0, [0, 1, 5], [])], [4], false, false⟩ Tryz.f96 = some c_laws_eqIntS := by kernel_rfl
def c_laws_markIntS_b0 : IC :=
  (.seq (.seq (.reg false [⟨some 6, none, .mov (.t 5)⟩,
 ⟨some 7, none, .mov (.t 0)⟩,
 ⟨some 8, none, .len (.t 7)⟩,
 ⟨some 9, none, .bin .lss (.t 6) (.t 8)⟩])
 (.cond (.t 9) .skip (.exit 0)))
 (.seq (.block 1 none none
 (.seq (.reg false [⟨some 12, none, .mov (.t 0)⟩,
 ⟨some 13, none, .mov (.t 5)⟩,
 ⟨some 14, none, .mov (.t 1)⟩,
 ⟨some 15, none, .ixs (.t 12) (.t 13) 1⟩,
 ⟨none, none, .store (.t 15) (.t 14) 1⟩])
 (.reg false [⟨some 16, none, .mov (.t 1)⟩,
 ⟨some 17, none, .bin .add (.t 16) (.k (.c (.int .i64 1)))⟩,
 ⟨some 1, none, .mov (.t 17)⟩])))
 (.reg false [⟨some 10, none, .mov (.t 5)⟩,
 ⟨some 11, none, .bin .add (.t 10) (.k (.c (.int .i64 1)))⟩,
 ⟨some 5, none, .mov (.t 11)⟩])))
def c_laws_markIntS : IFn := ⟨19, [.t 4],
  (.seq (.reg false [⟨some 4, none, .mov (.k (.c (.int .i64 0)))⟩])
 (.seq (.seq (.reg false [⟨some 5, none, .mov (.k (.c (.int .i64 0)))⟩])
 (.block 0 (some [0, 1, 5]) (some [1])
 (.loop c_laws_markIntS_b0)))
 (.seq (.reg false [⟨some 18, none, .mov (.t 1)⟩,
 ⟨some 4, none, .mov (.t 18)⟩])
 (.ret (some [4])))))⟩
theorem c_laws_markIntS_ok : trF Tryz.prog ⟨[(0, [0, 1, 5], [1])], [4], false, false⟩ Tryz.f97 = some c_laws_markIntS := by kernel_rfl
def c_laws_heldIntS_b0 : IC :=
  (.seq (.seq (.reg false [⟨some 6, none, .mov (.t 5)⟩,
 ⟨some 7, none, .mov (.t 0)⟩,
 ⟨some 8, none, .len (.t 7)⟩,
 ⟨some 9, none, .bin .lss (.t 6) (.t 8)⟩])
 (.cond (.t 9) .skip (.exit 0)))
 (.seq (.block 1 none none
 (.seq (.seq (.reg false [⟨some 12, none, .mov (.t 0)⟩,
 ⟨some 13, none, .mov (.t 5)⟩,
 ⟨some 14, none, .ixs (.t 12) (.t 13) 1⟩,
 ⟨some 15, none, .load1 (.t 14)⟩,
 ⟨some 16, none, .mov (.t 1)⟩,
 ⟨some 17, none, .bin .neq (.t 15) (.t 16)⟩])
 (.cond (.t 17) (.seq (.reg false [⟨some 4, none, .mov (.k (.c (.int .i64 (-1))))⟩])
 (.ret (some [4]))) .skip))
 (.reg false [⟨some 18, none, .mov (.t 1)⟩,
 ⟨some 19, none, .bin .add (.t 18) (.k (.c (.int .i64 1)))⟩,
 ⟨some 1, none, .mov (.t 19)⟩])))
 (.reg false [⟨some 10, none, .mov (.t 5)⟩,
 ⟨some 11, none, .bin .add (.t 10) (.k (.c (.int .i64 1)))⟩,
 ⟨some 5, none, .mov (.t 11)⟩])))
def c_laws_heldIntS : IFn := ⟨21, [.t 4],
  (.seq (.reg false [⟨some 4, none, .mov (.k (.c (.int .i64 0)))⟩])
 (.seq (.seq (.reg false [⟨some 5, none, .mov (.k (.c (.int .i64 0)))⟩])
 (.block 0 (some [0, 1, 5]) (some [1])
 (.loop c_laws_heldIntS_b0)))
 (.seq (.reg false [⟨some 20, none, .mov (.t 1)⟩,
 ⟨some 4, none, .mov (.t 20)⟩])
 (.ret (some [4])))))⟩
theorem c_laws_heldIntS_ok : trF Tryz.prog ⟨[(0, [0, 1, 5], [1])], [4], false, false⟩ Tryz.f98 = some c_laws_heldIntS := by kernel_rfl
def c_spec_l1Copy : IFn := ⟨6, [.t 2],
  (.seq (.reg false [⟨some 2, none, .mov (.k (.c .nils))⟩])
 (.seq (.reg false [⟨some 3, none, .lit 0 1 [.int .i64 0] [] 3⟩,
 ⟨some 4, none, .mov (.t 0)⟩,
 ⟨some 5, none, .app (.t 3) (.t 4) 3 1 8⟩,
 ⟨some 2, none, .mov (.t 5)⟩])
 (.ret (some [2]))))⟩
theorem c_spec_l1Copy_ok : trF Tryz.prog ⟨[], [2], false, false⟩ Tryz.f99 = some c_spec_l1Copy := by kernel_rfl
def c_spec_l15Keys : IFn := ⟨65, [.t 6, .t 7],
  (.seq (.reg false [⟨some 3, none, .box (.t 0) 49⟩,
 ⟨some 6, none, .mov (.k (.c .nils))⟩,
 ⟨some 7, none, .mov (.k (.c (.bool false)))⟩])
 (.seq (.seq (.reg false [⟨some 10, none, .mov (.t 1)⟩,
 ⟨some 11, none, .bin .eql (.t 10) (.k (.c (.int .i64 (-1))))⟩])
 (.cond (.t 11) (.seq (.reg false [⟨some 12, none, .mov (.t 2)⟩,
 ⟨some 6, none, .mov (.t 12)⟩,
 ⟨some 7, none, .mov (.k (.c (.bool true)))⟩])
 (.ret (some [6, 7]))) .skip))
 (.seq (.seq (.reg false [⟨some 13, none, .mov (.t 1)⟩,
 ⟨some 14, none, .call 36 [.t 13, .k (.c (.int .i64 0)), .k (.c (.int .i64 15))]⟩,
 ⟨some 15, none, .un .not (.t 14)⟩,
 ⟨some 16, none, .mov (.t 15)⟩,
 ⟨some 17, some (16, false), .mov (.t 1)⟩,
 ⟨some 18, some (16, false), .fld (.t 3) 0⟩,
 ⟨some 19, some (16, false), .ixa (.t 18) (.t 17) 16 4⟩,
 ⟨some 20, some (16, false), .fld (.t 19) 0⟩,
 ⟨some 21, some (16, false), .load1 (.t 20)⟩,
 ⟨some 22, some (16, false), .un .not (.t 21)⟩,
 ⟨some 23, none, .pick (.t 16) (.k (.c (.bool true))) (.t 22)⟩,
 ⟨some 24, none, .mov (.t 23)⟩,
 ⟨some 25, some (24, false), .mov (.t 2)⟩,
 ⟨some 26, some (24, false), .len (.t 25)⟩,
 ⟨some 27, some (24, false), .bin .geq (.t 26) (.k (.c (.int .i64 16)))⟩,
 ⟨some 28, none, .pick (.t 24) (.k (.c (.bool true))) (.t 27)⟩])
 (.cond (.t 28) (.seq (.reg false [⟨some 29, none, .mov (.t 2)⟩,
 ⟨some 6, none, .mov (.t 29)⟩,
 ⟨some 7, none, .mov (.k (.c (.bool false)))⟩])
 (.ret (some [6, 7]))) .skip))
 (.seq (.reg false [⟨some 30, none, .mov (.t 1)⟩,
 ⟨some 31, none, .fld (.t 3) 0⟩,
 ⟨some 32, none, .ixa (.t 31) (.t 30) 16 4⟩,
 ⟨some 33, none, .loadN (.t 32) 4⟩,
 ⟨some 8, none, .alloc [.bool false, .int .i64 0, .int .i64 0, .int .i64 0] 46⟩,
 ⟨none, none, .store (.t 8) (.t 33) 4⟩])
 (.seq (.reg false [⟨some 34, none, .mov (.t 1)⟩,
 ⟨some 35, none, .bld [.bool false, .int .i64 0, .int .i64 0, .int .i64 0] []⟩,
 ⟨some 36, none, .fld (.t 3) 0⟩,
 ⟨some 37, none, .ixa (.t 36) (.t 34) 16 4⟩,
 ⟨none, none, .store (.t 37) (.t 35) 4⟩])
 (.seq (.reg false [⟨some 39, none, .loadN (.t 3) 65⟩,
 ⟨some 40, none, .fld (.t 8) 2⟩,
 ⟨some 41, none, .load1 (.t 40)⟩,
 ⟨some 42, none, .mov (.t 2)⟩,
 ⟨some 43, none, .call 100 [.t 39, .t 41, .t 42]⟩,
 ⟨some 38, none, .mov (.t 43)⟩,
 ⟨some 44, none, .ext (.t 38) 0⟩,
 ⟨some 45, none, .ext (.t 38) 1⟩,
 ⟨some 2, none, .mov (.t 44)⟩,
 ⟨some 9, none, .mov (.t 45)⟩])
 (.seq (.seq (.reg false [⟨some 46, none, .mov (.t 9)⟩,
 ⟨some 47, none, .un .not (.t 46)⟩,
 ⟨some 48, none, .mov (.t 47)⟩,
 ⟨some 49, some (48, false), .mov (.t 2)⟩,
 ⟨some 50, some (48, false), .len (.t 49)⟩,
 ⟨some 51, some (48, false), .bin .geq (.t 50) (.k (.c (.int .i64 16)))⟩,
 ⟨some 52, none, .pick (.t 48) (.k (.c (.bool true))) (.t 51)⟩])
 (.cond (.t 52) (.seq (.reg false [⟨some 53, none, .mov (.t 2)⟩,
 ⟨some 6, none, .mov (.t 53)⟩,
 ⟨some 7, none, .mov (.k (.c (.bool false)))⟩])
 (.ret (some [6, 7]))) .skip))
 (.seq (.reg false [⟨some 54, none, .mov (.t 2)⟩,
 ⟨some 55, none, .mov (.t 1)⟩,
 ⟨some 56, none, .lit 1 1 [.int .i64 0] [(0, .t 55)] 3⟩,
 ⟨some 57, none, .app (.t 54) (.t 56) 3 1 8⟩,
 ⟨some 2, none, .mov (.t 57)⟩])
 (.seq (.reg false [⟨some 58, none, .loadN (.t 3) 65⟩,
 ⟨some 59, none, .fld (.t 8) 3⟩,
 ⟨some 60, none, .load1 (.t 59)⟩,
 ⟨some 61, none, .mov (.t 2)⟩,
 ⟨some 62, none, .call 100 [.t 58, .t 60, .t 61]⟩,
 ⟨some 63, none, .ext (.t 62) 0⟩,
 ⟨some 64, none, .ext (.t 62) 1⟩,
 ⟨some 6, none, .mov (.t 63)⟩,
 ⟨some 7, none, .mov (.t 64)⟩])
 (.ret (some [6, 7])))))))))))⟩
theorem c_spec_l15Keys_ok : trF Tryz.prog ⟨[], [6, 7], false, false⟩ Tryz.f100 = some c_spec_l15Keys := by kernel_rfl
def c_spec_l16Place : IFn := ⟨12, [.t 4],
  (.seq (.reg false [⟨some 4, none, .mov (.k (.c (.int .i64 0)))⟩])
 (.seq (.reg false [⟨some 5, none, .mov (.t 0)⟩,
 ⟨some 6, none, .mov (.t 1)⟩,
 ⟨some 7, none, .bin .rem (.t 5) (.t 6)⟩,
 ⟨some 8, none, .mov (.t 1)⟩,
 ⟨some 9, none, .bin .add (.t 7) (.t 8)⟩,
 ⟨some 10, none, .mov (.t 1)⟩,
 ⟨some 11, none, .bin .rem (.t 9) (.t 10)⟩,
 ⟨some 4, none, .mov (.t 11)⟩])
 (.ret (some [4]))))⟩
theorem c_spec_l16Place_ok : trF Tryz.prog ⟨[], [4], false, false⟩ Tryz.f101 = some c_spec_l16Place := by kernel_rfl
def c_spec_l13Walk_b0 : IC :=
  (.seq (.seq (.reg false [⟨some 13, none, .mov (.t 10)⟩,
 ⟨some 14, none, .bin .neq (.t 13) (.k (.c (.int .i64 (-1))))⟩])
 (.cond (.t 14) .skip (.exit 0)))
 (.seq (.block 1 none none
 (.seq (.seq (.reg false [⟨some 20, none, .mov (.t 9)⟩,
 ⟨some 21, none, .bin .eql (.t 20) (.k (.c (.int .i64 10)))⟩])
 (.cond (.t 21) (.seq (.reg false [⟨some 22, none, .mov (.t 9)⟩,
 ⟨some 4, none, .mov (.k (.c (.int .i64 0)))⟩,
 ⟨some 5, none, .mov (.k (.c (.int .i64 0)))⟩,
 ⟨some 6, none, .mov (.t 22)⟩,
 ⟨some 7, none, .mov (.k (.c (.bool false)))⟩])
 (.ret (some [4, 5, 6, 7]))) .skip))
 (.seq (.reg false [⟨some 23, none, .mov (.t 9)⟩,
 ⟨some 24, none, .bin .add (.t 23) (.k (.c (.int .i64 1)))⟩,
 ⟨some 9, none, .mov (.t 24)⟩])
 (.seq (.seq (.reg false [⟨some 25, none, .mov (.t 10)⟩,
 ⟨some 26, none, .fld (.t 2) 0⟩,
 ⟨some 27, none, .ixa (.t 26) (.t 25) 16 4⟩,
 ⟨some 28, none, .fld (.t 27) 1⟩,
 ⟨some 29, none, .load1 (.t 28)⟩,
 ⟨some 30, none, .mov (.t 1)⟩,
 ⟨some 31, none, .bin .geq (.t 29) (.t 30)⟩])
 (.cond (.t 31) (.seq (.reg false [⟨some 32, none, .mov (.t 10)⟩,
 ⟨some 33, none, .mov (.t 8)⟩,
 ⟨some 34, none, .mov (.t 9)⟩,
 ⟨some 4, none, .mov (.t 32)⟩,
 ⟨some 5, none, .mov (.t 33)⟩,
 ⟨some 6, none, .mov (.t 34)⟩,
 ⟨some 7, none, .mov (.k (.c (.bool true)))⟩])
 (.ret (some [4, 5, 6, 7]))) .skip))
 (.reg false [⟨some 35, none, .mov (.t 10)⟩,
 ⟨some 8, none, .mov (.t 35)⟩])))))
 (.reg false [⟨some 15, none, .mov (.t 10)⟩,
 ⟨some 16, none, .fld (.t 2) 0⟩,
 ⟨some 17, none, .ixa (.t 16) (.t 15) 16 4⟩,
 ⟨some 18, none, .fld (.t 17) 3⟩,
 ⟨some 19, none, .load1 (.t 18)⟩,
 ⟨some 10, none, .mov (.t 19)⟩])))
def c_spec_l13Walk : IFn := ⟨38, [.t 4, .t 5, .t 6, .t 7],
  (.seq (.reg false [⟨some 2, none, .box (.t 0) 44⟩,
 ⟨some 4, none, .mov (.k (.c (.int .i64 0)))⟩,
 ⟨some 5, none, .mov (.k (.c (.int .i64 0)))⟩,
 ⟨some 6, none, .mov (.k (.c (.int .i64 0)))⟩,
 ⟨some 7, none, .mov (.k (.c (.bool false)))⟩])
 (.seq (.reg false [⟨some 8, none, .mov (.k (.c (.int .i64 (-1))))⟩,
 ⟨some 9, none, .mov (.k (.c (.int .i64 0)))⟩])
 (.seq (.seq (.reg false [⟨some 11, none, .fld (.t 2) 64⟩,
 ⟨some 12, none, .load1 (.t 11)⟩,
 ⟨some 10, none, .mov (.t 12)⟩])
 (.block 0 (some [1, 2, 8, 9, 10]) (some [8, 9])
 (.loop c_spec_l13Walk_b0)))
 (.seq (.reg false [⟨some 36, none, .mov (.t 8)⟩,
 ⟨some 37, none, .mov (.t 9)⟩,
 ⟨some 4, none, .mov (.k (.c (.int .i64 (-1))))⟩,
 ⟨some 5, none, .mov (.t 36)⟩,
 ⟨some 6, none, .mov (.t 37)⟩,
 ⟨some 7, none, .mov (.k (.c (.bool true)))⟩])
 (.ret (some [4, 5, 6, 7]))))))⟩
theorem c_spec_l13Walk_ok : trF Tryz.prog ⟨[(0, [1, 2, 8, 9, 10], [8, 9])], [4, 5, 6, 7], false, false⟩ Tryz.f102 = some c_spec_l13Walk := by kernel_rfl
def c_spec_l15Walk_b0 : IC :=
  (.seq (.seq (.reg false [⟨some 13, none, .mov (.t 8)⟩,
 ⟨some 14, none, .bin .neq (.t 13) (.k (.c (.int .i64 (-1))))⟩])
 (.cond (.t 14) .skip (.exit 0)))
 (.block 1 none none
 (.seq (.seq (.reg false [⟨some 15, none, .mov (.t 7)⟩,
 ⟨some 16, none, .len (.t 15)⟩,
 ⟨some 17, none, .bin .eql (.t 16) (.k (.c (.int .i64 8)))⟩])
 (.cond (.t 17) (.seq (.reg false [⟨some 18, none, .mov (.t 7)⟩,
 ⟨some 4, none, .mov (.t 18)⟩,
 ⟨some 5, none, .mov (.k (.c (.bool false)))⟩,
 ⟨some 6, none, .mov (.k (.c (.bool false)))⟩])
 (.ret (some [4, 5, 6]))) .skip))
 (.seq (.reg false [⟨some 19, none, .mov (.t 7)⟩,
 ⟨some 20, none, .mov (.t 8)⟩,
 ⟨some 21, none, .lit 1 1 [.int .i64 0] [(0, .t 20)] 3⟩,
 ⟨some 22, none, .app (.t 19) (.t 21) 3 1 8⟩,
 ⟨some 7, none, .mov (.t 22)⟩])
 (.seq (.reg false [⟨some 23, none, .mov (.t 8)⟩,
 ⟨some 24, none, .fld (.t 2) 0⟩,
 ⟨some 25, none, .ixa (.t 24) (.t 23) 16 4⟩,
 ⟨some 26, none, .fld (.t 25) 1⟩,
 ⟨some 27, none, .load1 (.t 26)⟩,
 ⟨some 9, none, .mov (.t 27)⟩])
 (.seq (.seq (.reg false [⟨some 28, none, .mov (.t 9)⟩,
 ⟨some 29, none, .mov (.t 1)⟩,
 ⟨some 30, none, .bin .eql (.t 28) (.t 29)⟩])
 (.cond (.t 30) (.seq (.reg false [⟨some 31, none, .mov (.t 7)⟩,
 ⟨some 4, none, .mov (.t 31)⟩,
 ⟨some 5, none, .mov (.k (.c (.bool true)))⟩,
 ⟨some 6, none, .mov (.k (.c (.bool true)))⟩])
 (.ret (some [4, 5, 6]))) .skip))
 (.seq (.reg false [⟨some 32, none, .mov (.t 1)⟩,
 ⟨some 33, none, .mov (.t 9)⟩,
 ⟨some 34, none, .bin .lss (.t 32) (.t 33)⟩])
 (.cond (.t 34) (.reg false [⟨some 35, none, .mov (.t 8)⟩,
 ⟨some 36, none, .fld (.t 2) 0⟩,
 ⟨some 37, none, .ixa (.t 36) (.t 35) 16 4⟩,
 ⟨some 38, none, .fld (.t 37) 2⟩,
 ⟨some 39, none, .load1 (.t 38)⟩,
 ⟨some 8, none, .mov (.t 39)⟩]) (.reg false [⟨some 40, none, .mov (.t 8)⟩,
 ⟨some 41, none, .fld (.t 2) 0⟩,
 ⟨some 42, none, .ixa (.t 41) (.t 40) 16 4⟩,
 ⟨some 43, none, .fld (.t 42) 3⟩,
 ⟨some 44, none, .load1 (.t 43)⟩,
 ⟨some 8, none, .mov (.t 44)⟩])))))))))
def c_spec_l15Walk : IFn := ⟨46, [.t 4, .t 5, .t 6],
  (.seq (.reg false [⟨some 2, none, .box (.t 0) 49⟩,
 ⟨some 4, none, .mov (.k (.c .nils))⟩,
 ⟨some 5, none, .mov (.k (.c (.bool false)))⟩,
 ⟨some 6, none, .mov (.k (.c (.bool false)))⟩])
 (.seq (.reg false [⟨some 10, none, .lit 0 1 [.int .i64 0] [] 3⟩,
 ⟨some 7, none, .mov (.t 10)⟩])
 (.seq (.seq (.reg false [⟨some 11, none, .fld (.t 2) 64⟩,
 ⟨some 12, none, .load1 (.t 11)⟩,
 ⟨some 8, none, .mov (.t 12)⟩])
 (.block 0 (some [1, 2, 7, 8]) (some [7])
 (.loop c_spec_l15Walk_b0)))
 (.seq (.reg false [⟨some 45, none, .mov (.t 7)⟩,
 ⟨some 4, none, .mov (.t 45)⟩,
 ⟨some 5, none, .mov (.k (.c (.bool false)))⟩,
 ⟨some 6, none, .mov (.k (.c (.bool true)))⟩])
 (.ret (some [4, 5, 6]))))))⟩
theorem c_spec_l15Walk_ok : trF Tryz.prog ⟨[(0, [1, 2, 7, 8], [7])], [4, 5, 6], false, false⟩ Tryz.f103 = some c_spec_l15Walk := by kernel_rfl
def c_spec_l15Hang : IFn := ⟨40, [.cell 8 65 true],
  (.seq (.reg false [⟨some 4, none, .box (.t 0) 49⟩,
 ⟨some 8, none, .alloc [.bool false, .int .i64 0, .int .i64 0, .int .i64 0, .bool false, .int .i64 0, .int .i64 0, .int .i64 0, .bool false, .int .i64 0, .int .i64 0, .int .i64 0, .bool false, .int .i64 0, .int .i64 0, .int .i64 0, .bool false, .int .i64 0, .int .i64 0, .int .i64 0, .bool false, .int .i64 0, .int .i64 0, .int .i64 0, .bool false, .int .i64 0, .int .i64 0, .int .i64 0, .bool false, .int .i64 0, .int .i64 0, .int .i64 0, .bool false, .int .i64 0, .int .i64 0, .int .i64 0, .bool false, .int .i64 0, .int .i64 0, .int .i64 0, .bool false, .int .i64 0, .int .i64 0, .int .i64 0, .bool false, .int .i64 0, .int .i64 0, .int .i64 0, .bool false, .int .i64 0, .int .i64 0, .int .i64 0, .bool false, .int .i64 0, .int .i64 0, .int .i64 0, .bool false, .int .i64 0, .int .i64 0, .int .i64 0, .bool false, .int .i64 0, .int .i64 0, .int .i64 0, .int .i64 0] 49⟩])
 (.seq (.seq (.reg false [⟨some 10, none, .mov (.t 1)⟩,
 ⟨some 11, none, .len (.t 10)⟩,
 ⟨some 12, none, .bin .eql (.t 11) (.k (.c (.int .i64 0)))⟩])
 (.cond (.t 12) (.seq (.reg false [⟨some 13, none, .mov (.t 3)⟩,
 ⟨some 14, none, .fld (.t 4) 64⟩,
 ⟨none, none, .store (.t 14) (.t 13) 1⟩])
 (.seq (.reg false [⟨some 15, none, .loadN (.t 4) 65⟩,
 ⟨none, none, .store (.t 8) (.t 15) 65⟩])
 (.ret (some [8])))) .skip))
 (.seq (.reg false [⟨some 16, none, .mov (.t 1)⟩,
 ⟨some 17, none, .mov (.t 1)⟩,
 ⟨some 18, none, .len (.t 17)⟩,
 ⟨some 19, none, .bin .sub (.t 18) (.k (.c (.int .i64 1)))⟩,
 ⟨some 20, none, .ixs (.t 16) (.t 19) 1⟩,
 ⟨some 21, none, .load1 (.t 20)⟩,
 ⟨some 9, none, .mov (.t 21)⟩])
 (.seq (.seq (.reg false [⟨some 22, none, .mov (.t 2)⟩,
 ⟨some 23, none, .mov (.t 9)⟩,
 ⟨some 24, none, .fld (.t 4) 0⟩,
 ⟨some 25, none, .ixa (.t 24) (.t 23) 16 4⟩,
 ⟨some 26, none, .fld (.t 25) 1⟩,
 ⟨some 27, none, .load1 (.t 26)⟩,
 ⟨some 28, none, .bin .lss (.t 22) (.t 27)⟩])
 (.cond (.t 28) (.reg false [⟨some 29, none, .mov (.t 9)⟩,
 ⟨some 30, none, .mov (.t 3)⟩,
 ⟨some 31, none, .fld (.t 4) 0⟩,
 ⟨some 32, none, .ixa (.t 31) (.t 29) 16 4⟩,
 ⟨some 33, none, .fld (.t 32) 2⟩,
 ⟨none, none, .store (.t 33) (.t 30) 1⟩]) (.reg false [⟨some 34, none, .mov (.t 9)⟩,
 ⟨some 35, none, .mov (.t 3)⟩,
 ⟨some 36, none, .fld (.t 4) 0⟩,
 ⟨some 37, none, .ixa (.t 36) (.t 34) 16 4⟩,
 ⟨some 38, none, .fld (.t 37) 3⟩,
 ⟨none, none, .store (.t 38) (.t 35) 1⟩])))
 (.seq (.reg false [⟨some 39, none, .loadN (.t 4) 65⟩,
 ⟨none, none, .store (.t 8) (.t 39) 65⟩])
 (.ret (some [8])))))))⟩
theorem c_spec_l15Hang_ok : trF Tryz.prog ⟨[], [8], false, false⟩ Tryz.f104 = some c_spec_l15Hang := by kernel_rfl
def c_spec_SetHas16 : IFn := ⟨18, [.t 4],
  (.seq (.reg false [⟨some 4, none, .mov (.k (.c (.bool false)))⟩])
 (.seq (.reg false [⟨some 5, none, .mov (.t 0)⟩,
 ⟨some 6, none, .call 60 [.t 5]⟩,
 ⟨some 7, none, .mov (.t 6)⟩,
 ⟨some 8, some (7, true), .mov (.t 0)⟩,
 ⟨some 9, some (7, true), .mov (.t 1)⟩,
 ⟨some 10, some (7, true), .mov (.t 0)⟩,
 ⟨some 11, some (7, true), .len (.t 10)⟩,
 ⟨some 12, some (7, true), .call 101 [.t 9, .t 11]⟩,
 ⟨some 13, some (7, true), .ixs (.t 8) (.t 12) 1⟩,
 ⟨some 14, some (7, true), .load1 (.t 13)⟩,
 ⟨some 15, some (7, true), .mov (.t 1)⟩,
 ⟨some 16, some (7, true), .call 126 [.t 14, .t 15]⟩,
 ⟨some 17, none, .pick (.t 7) (.t 16) (.k (.c (.bool false)))⟩,
 ⟨some 4, none, .mov (.t 17)⟩])
 (.ret (some [4]))))⟩
theorem c_spec_SetHas16_ok : trF Tryz.prog ⟨[], [4], false, false⟩ Tryz.f105 = some c_spec_SetHas16 := by kernel_rfl
def c_spec_l16Double_b1 : IC :=
  (.seq (.seq (.reg false [⟨some 17, none, .mov (.t 5)⟩,
 ⟨some 18, none, .mov (.t 0)⟩,
 ⟨some 19, none, .mov (.t 4)⟩,
 ⟨some 20, none, .ixs (.t 18) (.t 19) 1⟩,
 ⟨some 21, none, .load1 (.t 20)⟩,
 ⟨some 22, none, .len (.t 21)⟩,
 ⟨some 23, none, .bin .lss (.t 17) (.t 22)⟩])
 (.cond (.t 23) .skip (.exit 2)))
 (.seq (.block 3 none none
 (.seq (.reg false [⟨some 26, none, .mov (.t 0)⟩,
 ⟨some 27, none, .mov (.t 4)⟩,
 ⟨some 28, none, .ixs (.t 26) (.t 27) 1⟩,
 ⟨some 29, none, .load1 (.t 28)⟩,
 ⟨some 30, none, .mov (.t 5)⟩,
 ⟨some 31, none, .ixs (.t 29) (.t 30) 1⟩,
 ⟨some 32, none, .load1 (.t 31)⟩,
 ⟨some 33, none, .mov (.t 3)⟩,
 ⟨some 34, none, .len (.t 33)⟩,
 ⟨some 35, none, .call 101 [.t 32, .t 34]⟩,
 ⟨some 6, none, .mov (.t 35)⟩])
 (.regE 0 [⟨⟨some 36, none, .mov (.t 3)⟩, 0, 0, false, []⟩,
 ⟨⟨some 37, none, .mov (.t 6)⟩, 1, 0, false, []⟩,
 ⟨⟨some 38, none, .mov (.t 3)⟩, 2, 0, false, []⟩,
 ⟨⟨some 39, none, .mov (.t 6)⟩, 3, 0, false, []⟩,
 ⟨⟨some 40, none, .ixs (.t 38) (.t 39) 1⟩, 4, 0, false, []⟩,
 ⟨⟨some 41, none, .load1 (.t 40)⟩, 5, 0, false, []⟩,
 ⟨⟨some 42, none, .mov (.t 0)⟩, 6, 0, false, []⟩,
 ⟨⟨some 43, none, .mov (.t 4)⟩, 7, 0, false, []⟩,
 ⟨⟨some 44, none, .ixs (.t 42) (.t 43) 1⟩, 8, 0, false, []⟩,
 ⟨⟨some 45, none, .load1 (.t 44)⟩, 9, 0, false, []⟩,
 ⟨⟨some 46, none, .mov (.t 5)⟩, 10, 0, false, []⟩,
 ⟨⟨some 47, none, .ixs (.t 45) (.t 46) 1⟩, 11, 0, false, []⟩,
 ⟨⟨some 48, none, .load1 (.t 47)⟩, 12, 0, false, []⟩,
 ⟨⟨some 49, none, .call 107 [.t 41, .t 48]⟩, 13, 0, false, []⟩,
 ⟨⟨some 50, none, .ixs (.t 36) (.t 37) 1⟩, 14, 0, false, []⟩,
 ⟨⟨none, none, .store (.t 50) (.t 49) 1⟩, 15, 0, false, []⟩])))
 (.reg false [⟨some 24, none, .mov (.t 5)⟩,
 ⟨some 25, none, .bin .add (.t 24) (.k (.c (.int .i64 1)))⟩,
 ⟨some 5, none, .mov (.t 25)⟩])))
def c_spec_l16Double_b0 : IC :=
  (.seq (.seq (.reg false [⟨some 11, none, .mov (.t 4)⟩,
 ⟨some 12, none, .mov (.t 0)⟩,
 ⟨some 13, none, .len (.t 12)⟩,
 ⟨some 14, none, .bin .lss (.t 11) (.t 13)⟩])
 (.cond (.t 14) .skip (.exit 0)))
 (.seq (.block 1 none none
 (.seq (.reg false [⟨some 5, none, .mov (.k (.c (.int .i64 0)))⟩])
 (.block 2 (some [0, 3, 4, 5]) (some [0, 3, 4])
 (.loop c_spec_l16Double_b1))))
 (.reg false [⟨some 15, none, .mov (.t 4)⟩,
 ⟨some 16, none, .bin .add (.t 15) (.k (.c (.int .i64 1)))⟩,
 ⟨some 4, none, .mov (.t 16)⟩])))
def c_spec_l16Double : IFn := ⟨52, [.t 2],
  (.seq (.reg false [⟨some 2, none, .mov (.k (.c .nils))⟩])
 (.seq (.reg false [⟨some 7, none, .mov (.t 0)⟩,
 ⟨some 8, none, .len (.t 7)⟩,
 ⟨some 9, none, .bin .mul (.k (.c (.int .i64 2))) (.t 8)⟩,
 ⟨some 10, none, .mks (.t 9) [.nils] 103 24⟩,
 ⟨some 3, none, .mov (.t 10)⟩])
 (.seq (.seq (.reg false [⟨some 4, none, .mov (.k (.c (.int .i64 0)))⟩])
 (.block 0 (some [0, 3, 4]) (some [3])
 (.loop c_spec_l16Double_b0)))
 (.seq (.reg false [⟨some 51, none, .mov (.t 3)⟩,
 ⟨some 2, none, .mov (.t 51)⟩])
 (.ret (some [2]))))))⟩
theorem c_spec_l16Double_ok : trF Tryz.prog ⟨[(0, [0, 3, 4], [3]), (2, [0, 3, 4, 5], [0, 3, 4])], [2], false, false⟩ Tryz.f106 = some c_spec_l16Double := by kernel_rfl
def c_spec_l16Put_b0 : IC :=
  (.seq (.seq (.reg false [⟨some 7, none, .mov (.t 5)⟩,
 ⟨some 8, none, .mov (.t 0)⟩,
 ⟨some 9, none, .len (.t 8)⟩,
 ⟨some 10, none, .bin .lss (.t 7) (.t 9)⟩,
 ⟨some 11, none, .mov (.t 10)⟩,
 ⟨some 12, some (11, true), .mov (.t 0)⟩,
 ⟨some 13, some (11, true), .mov (.t 5)⟩,
 ⟨some 14, some (11, true), .ixs (.t 12) (.t 13) 1⟩,
 ⟨some 15, some (11, true), .load1 (.t 14)⟩,
 ⟨some 16, some (11, true), .mov (.t 1)⟩,
 ⟨some 17, some (11, true), .bin .lss (.t 15) (.t 16)⟩,
 ⟨some 18, none, .pick (.t 11) (.t 17) (.k (.c (.bool false)))⟩])
 (.cond (.t 18) .skip (.exit 0)))
 (.block 1 none none
 (.reg false [⟨some 19, none, .mov (.t 5)⟩,
 ⟨some 20, none, .bin .add (.t 19) (.k (.c (.int .i64 1)))⟩,
 ⟨some 5, none, .mov (.t 20)⟩])))
def c_spec_l16Put : IFn := ⟨34, [.t 4],
  (.seq (.reg false [⟨some 4, none, .mov (.k (.c .nils))⟩])
 (.seq (.reg false [⟨some 5, none, .mov (.k (.c (.int .i64 0)))⟩])
 (.seq (.block 0 (some [0, 1, 5]) (some [0, 1, 5])
 (.loop c_spec_l16Put_b0))
 (.seq (.reg false [⟨some 21, none, .mov (.t 1)⟩,
 ⟨some 22, none, .lit 1 1 [.int .i64 0] [(0, .t 21)] 3⟩,
 ⟨some 23, none, .mov (.t 0)⟩,
 ⟨some 24, none, .mov (.t 5)⟩,
 ⟨some 25, none, .sls (.t 23) 1 (some (.t 24)) none⟩,
 ⟨some 26, none, .app (.t 22) (.t 25) 3 1 8⟩,
 ⟨some 6, none, .mov (.t 26)⟩])
 (.seq (.reg false [⟨some 27, none, .lit 0 1 [.int .i64 0] [] 3⟩,
 ⟨some 28, none, .mov (.t 0)⟩,
 ⟨some 29, none, .mov (.t 5)⟩,
 ⟨some 30, none, .sls (.t 28) 1 none (some (.t 29))⟩,
 ⟨some 31, none, .app (.t 27) (.t 30) 3 1 8⟩,
 ⟨some 32, none, .mov (.t 6)⟩,
 ⟨some 33, none, .app (.t 31) (.t 32) 3 1 8⟩,
 ⟨some 4, none, .mov (.t 33)⟩])
 (.ret (some [4])))))))⟩
theorem c_spec_l16Put_ok : trF Tryz.prog ⟨[(0, [0, 1, 5], [0, 1, 5])], [4], false, false⟩ Tryz.f107 = some c_spec_l16Put := by kernel_rfl
def c_laws_toNode : IFn := ⟨17, [.cell 2 4 true],
  (.seq (.reg false [⟨some 1, none, .box (.t 0) 23⟩,
 ⟨some 2, none, .alloc [.bool false, .int .i64 0, .int .i64 0, .int .i64 0] 41⟩])
 (.seq (.reg false [⟨some 3, none, .alloc [.bool false, .int .i64 0, .int .i64 0, .int .i64 0] 41⟩])
 (.seq (.reg false [⟨some 4, none, .fld (.t 1) 0⟩,
 ⟨some 5, none, .load1 (.t 4)⟩,
 ⟨some 6, none, .fld (.t 3) 0⟩,
 ⟨none, none, .store (.t 6) (.t 5) 1⟩])
 (.seq (.reg false [⟨some 7, none, .fld (.t 1) 1⟩,
 ⟨some 8, none, .load1 (.t 7)⟩,
 ⟨some 9, none, .fld (.t 3) 1⟩,
 ⟨none, none, .store (.t 9) (.t 8) 1⟩])
 (.seq (.reg false [⟨some 10, none, .fld (.t 1) 2⟩,
 ⟨some 11, none, .load1 (.t 10)⟩,
 ⟨some 12, none, .fld (.t 3) 2⟩,
 ⟨none, none, .store (.t 12) (.t 11) 1⟩])
 (.seq (.reg false [⟨some 13, none, .fld (.t 1) 3⟩,
 ⟨some 14, none, .load1 (.t 13)⟩,
 ⟨some 15, none, .fld (.t 3) 3⟩,
 ⟨none, none, .store (.t 15) (.t 14) 1⟩])
 (.seq (.reg false [⟨some 16, none, .loadN (.t 3) 4⟩,
 ⟨none, none, .store (.t 2) (.t 16) 4⟩])
 (.ret (some [2])))))))))⟩
theorem c_laws_toNode_ok : trF Tryz.prog ⟨[], [2], false, false⟩ Tryz.f108 = some c_laws_toNode := by kernel_rfl
def c_laws_toTwig : IFn := ⟨17, [.cell 2 4 true],
  (.seq (.reg false [⟨some 1, none, .box (.t 0) 31⟩,
 ⟨some 2, none, .alloc [.bool false, .int .i64 0, .int .i64 0, .int .i64 0] 46⟩])
 (.seq (.reg false [⟨some 3, none, .alloc [.bool false, .int .i64 0, .int .i64 0, .int .i64 0] 46⟩])
 (.seq (.reg false [⟨some 4, none, .fld (.t 1) 0⟩,
 ⟨some 5, none, .load1 (.t 4)⟩,
 ⟨some 6, none, .fld (.t 3) 0⟩,
 ⟨none, none, .store (.t 6) (.t 5) 1⟩])
 (.seq (.reg false [⟨some 7, none, .fld (.t 1) 1⟩,
 ⟨some 8, none, .load1 (.t 7)⟩,
 ⟨some 9, none, .fld (.t 3) 1⟩,
 ⟨none, none, .store (.t 9) (.t 8) 1⟩])
 (.seq (.reg false [⟨some 10, none, .fld (.t 1) 2⟩,
 ⟨some 11, none, .load1 (.t 10)⟩,
 ⟨some 12, none, .fld (.t 3) 2⟩,
 ⟨none, none, .store (.t 12) (.t 11) 1⟩])
 (.seq (.reg false [⟨some 13, none, .fld (.t 1) 3⟩,
 ⟨some 14, none, .load1 (.t 13)⟩,
 ⟨some 15, none, .fld (.t 3) 3⟩,
 ⟨none, none, .store (.t 15) (.t 14) 1⟩])
 (.seq (.reg false [⟨some 16, none, .loadN (.t 3) 4⟩,
 ⟨none, none, .store (.t 2) (.t 16) 4⟩])
 (.ret (some [2])))))))))⟩
theorem c_laws_toTwig_ok : trF Tryz.prog ⟨[], [2], false, false⟩ Tryz.f109 = some c_laws_toTwig := by kernel_rfl
def c_impl_own : IFn := ⟨6, [.t 2],
  (.seq (.reg false [⟨some 2, none, .mov (.k (.c .nils))⟩])
 (.seq (.reg false [⟨some 3, none, .lit 0 1 [.int .i64 0] [] 3⟩,
 ⟨some 4, none, .mov (.t 0)⟩,
 ⟨some 5, none, .app (.t 3) (.t 4) 3 1 8⟩,
 ⟨some 2, none, .mov (.t 5)⟩])
 (.ret (some [2]))))⟩
theorem c_impl_own_ok : trF Tryz.prog ⟨[], [2], false, false⟩ Tryz.f110 = some c_impl_own := by kernel_rfl
def c_impl_areValues : IFn := ⟨6, [.t 2],
  (.seq (.reg false [⟨some 2, none, .mov (.k (.c (.bool false)))⟩])
 (.seq (.reg false [⟨some 3, none, .mov (.t 0)⟩,
 ⟨some 4, none, .call 127 [.t 3, .k (.c (.fn 128))]⟩,
 ⟨some 5, none, .un .not (.t 4)⟩,
 ⟨some 2, none, .mov (.t 5)⟩])
 (.ret (some [2]))))⟩
theorem c_impl_areValues_ok : trF Tryz.prog ⟨[], [2], false, false⟩ Tryz.f111 = some c_impl_areValues := by kernel_rfl
def c_impl_Tree_isPart : IFn := ⟨71, [.t 10],
  (.seq (.reg false [⟨some 5, none, .box (.t 0) 49⟩,
 ⟨some 10, none, .mov (.k (.c (.bool false)))⟩])
 (.seq (.seq (.reg false [⟨some 12, none, .mov (.t 1)⟩,
 ⟨some 13, none, .bin .eql (.t 12) (.k (.c (.int .i64 (-1))))⟩])
 (.cond (.t 13) (.seq (.reg false [⟨some 10, none, .mov (.k (.c (.bool true)))⟩])
 (.ret (some [10]))) .skip))
 (.seq (.seq (.reg false [⟨some 14, none, .mov (.t 1)⟩,
 ⟨some 15, none, .call 45 [.t 14, .k (.c (.int .i64 0)), .k (.c (.int .i64 15))]⟩,
 ⟨some 16, none, .un .not (.t 15)⟩,
 ⟨some 17, none, .mov (.t 16)⟩,
 ⟨some 18, some (17, false), .mov (.t 4)⟩,
 ⟨some 19, some (17, false), .mov (.t 1)⟩,
 ⟨some 20, some (17, false), .chk (.t 18)⟩,
 ⟨some 21, some (17, false), .ixa (.t 20) (.t 19) 16 1⟩,
 ⟨some 22, some (17, false), .load1 (.t 21)⟩,
 ⟨some 23, none, .pick (.t 17) (.k (.c (.bool true))) (.t 22)⟩,
 ⟨some 24, none, .mov (.t 23)⟩,
 ⟨some 25, some (24, false), .mov (.t 1)⟩,
 ⟨some 26, some (24, false), .fld (.t 5) 0⟩,
 ⟨some 27, some (24, false), .ixa (.t 26) (.t 25) 16 4⟩,
 ⟨some 28, some (24, false), .fld (.t 27) 0⟩,
 ⟨some 29, some (24, false), .load1 (.t 28)⟩,
 ⟨some 30, some (24, false), .un .not (.t 29)⟩,
 ⟨some 31, none, .pick (.t 24) (.k (.c (.bool true))) (.t 30)⟩,
 ⟨some 32, none, .mov (.t 31)⟩,
 ⟨some 33, some (32, false), .mov (.t 1)⟩,
 ⟨some 34, some (32, false), .fld (.t 5) 0⟩,
 ⟨some 35, some (32, false), .ixa (.t 34) (.t 33) 16 4⟩,
 ⟨some 36, some (32, false), .fld (.t 35) 1⟩,
 ⟨some 37, some (32, false), .load1 (.t 36)⟩,
 ⟨some 38, some (32, false), .mov (.t 2)⟩,
 ⟨some 39, some (32, false), .mov (.t 3)⟩,
 ⟨some 40, some (32, false), .call 45 [.t 37, .t 38, .t 39]⟩,
 ⟨some 41, some (32, false), .un .not (.t 40)⟩,
 ⟨some 42, none, .pick (.t 32) (.k (.c (.bool true))) (.t 41)⟩])
 (.cond (.t 42) (.seq (.reg false [⟨some 10, none, .mov (.k (.c (.bool false)))⟩])
 (.ret (some [10]))) .skip))
 (.seq (.reg false [⟨some 43, none, .mov (.t 4)⟩,
 ⟨some 44, none, .mov (.t 1)⟩,
 ⟨some 45, none, .chk (.t 43)⟩,
 ⟨some 46, none, .ixa (.t 45) (.t 44) 16 1⟩,
 ⟨none, none, .store (.t 46) (.k (.c (.bool true))) 1⟩])
 (.seq (.reg false [⟨some 47, none, .mov (.t 1)⟩,
 ⟨some 48, none, .fld (.t 5) 0⟩,
 ⟨some 49, none, .ixa (.t 48) (.t 47) 16 4⟩,
 ⟨some 50, none, .loadN (.t 49) 4⟩,
 ⟨some 11, none, .alloc [.bool false, .int .i64 0, .int .i64 0, .int .i64 0] 46⟩,
 ⟨none, none, .store (.t 11) (.t 50) 4⟩])
 (.seq (.reg false [⟨some 51, none, .loadN (.t 5) 65⟩,
 ⟨some 52, none, .fld (.t 11) 2⟩,
 ⟨some 53, none, .load1 (.t 52)⟩,
 ⟨some 54, none, .mov (.t 2)⟩,
 ⟨some 55, none, .fld (.t 11) 1⟩,
 ⟨some 56, none, .load1 (.t 55)⟩,
 ⟨some 57, none, .bin .sub (.t 56) (.k (.c (.int .i64 1)))⟩,
 ⟨some 58, none, .mov (.t 4)⟩,
 ⟨some 59, none, .call 112 [.t 51, .t 53, .t 54, .t 57, .t 58]⟩,
 ⟨some 60, none, .mov (.t 59)⟩,
 ⟨some 61, some (60, true), .loadN (.t 5) 65⟩,
 ⟨some 62, some (60, true), .fld (.t 11) 3⟩,
 ⟨some 63, some (60, true), .load1 (.t 62)⟩,
 ⟨some 64, some (60, true), .fld (.t 11) 1⟩,
 ⟨some 65, some (60, true), .load1 (.t 64)⟩,
 ⟨some 66, some (60, true), .bin .add (.t 65) (.k (.c (.int .i64 1)))⟩,
 ⟨some 67, some (60, true), .mov (.t 3)⟩,
 ⟨some 68, some (60, true), .mov (.t 4)⟩,
 ⟨some 69, some (60, true), .call 112 [.t 61, .t 63, .t 66, .t 67, .t 68]⟩,
 ⟨some 70, none, .pick (.t 60) (.t 69) (.k (.c (.bool false)))⟩,
 ⟨some 10, none, .mov (.t 70)⟩])
 (.ret (some [10]))))))))⟩
theorem c_impl_Tree_isPart_ok : trF Tryz.prog ⟨[], [10], false, false⟩ Tryz.f112 = some c_impl_Tree_isPart := by kernel_rfl
def c_impl_placeOf : IFn := ⟨12, [.t 4],
  (.seq (.reg false [⟨some 4, none, .mov (.k (.c (.int .i64 0)))⟩])
 (.seq (.reg false [⟨some 5, none, .mov (.t 0)⟩,
 ⟨some 6, none, .mov (.t 1)⟩,
 ⟨some 7, none, .bin .rem (.t 5) (.t 6)⟩,
 ⟨some 8, none, .mov (.t 1)⟩,
 ⟨some 9, none, .bin .add (.t 7) (.t 8)⟩,
 ⟨some 10, none, .mov (.t 1)⟩,
 ⟨some 11, none, .bin .rem (.t 9) (.t 10)⟩,
 ⟨some 4, none, .mov (.t 11)⟩])
 (.ret (some [4]))))⟩
theorem c_impl_placeOf_ok : trF Tryz.prog ⟨[], [4], false, false⟩ Tryz.f113 = some c_impl_placeOf := by kernel_rfl
def c_impl_Chain_walk_b0 : IC :=
  (.seq (.seq (.reg false [⟨some 13, none, .mov (.t 9)⟩,
 ⟨some 14, none, .bin .neq (.t 13) (.k (.c (.int .i64 (-1))))⟩])
 (.cond (.t 14) .skip (.exit 0)))
 (.block 1 none none
 (.seq (.seq (.reg false [⟨some 15, none, .mov (.t 10)⟩,
 ⟨some 16, none, .bin .eql (.t 15) (.k (.c (.int .i64 10)))⟩])
 (.cond (.t 16) (.seq (.reg false [⟨some 17, none, .mov (.t 8)⟩,
 ⟨some 18, none, .mov (.t 9)⟩,
 ⟨some 19, none, .mov (.t 10)⟩,
 ⟨some 4, none, .mov (.t 17)⟩,
 ⟨some 5, none, .mov (.t 18)⟩,
 ⟨some 6, none, .mov (.t 19)⟩,
 ⟨some 7, none, .mov (.k (.c (.bool false)))⟩])
 (.ret (some [4, 5, 6, 7]))) .skip))
 (.seq (.reg false [⟨some 20, none, .mov (.t 10)⟩,
 ⟨some 21, none, .bin .add (.t 20) (.k (.c (.int .i64 1)))⟩,
 ⟨some 10, none, .mov (.t 21)⟩])
 (.seq (.seq (.reg false [⟨some 22, none, .mov (.t 9)⟩,
 ⟨some 23, none, .fld (.t 2) 0⟩,
 ⟨some 24, none, .ixa (.t 23) (.t 22) 16 4⟩,
 ⟨some 25, none, .fld (.t 24) 1⟩,
 ⟨some 26, none, .load1 (.t 25)⟩,
 ⟨some 27, none, .mov (.t 1)⟩,
 ⟨some 28, none, .bin .geq (.t 26) (.t 27)⟩])
 (.cond (.t 28) (.exit 0) .skip))
 (.reg true [⟨some 29, none, .mov (.t 9)⟩,
 ⟨some 30, none, .mov (.t 9)⟩,
 ⟨some 31, none, .fld (.t 2) 0⟩,
 ⟨some 32, none, .ixa (.t 31) (.t 30) 16 4⟩,
 ⟨some 33, none, .fld (.t 32) 3⟩,
 ⟨some 34, none, .load1 (.t 33)⟩,
 ⟨some 8, none, .mov (.t 29)⟩,
 ⟨some 9, none, .mov (.t 34)⟩]))))))
def c_impl_Chain_walk : IFn := ⟨38, [.t 4, .t 5, .t 6, .t 7],
  (.seq (.reg false [⟨some 2, none, .box (.t 0) 44⟩,
 ⟨some 4, none, .mov (.k (.c (.int .i64 0)))⟩,
 ⟨some 5, none, .mov (.k (.c (.int .i64 0)))⟩,
 ⟨some 6, none, .mov (.k (.c (.int .i64 0)))⟩,
 ⟨some 7, none, .mov (.k (.c (.bool false)))⟩])
 (.seq (.reg true [⟨some 11, none, .fld (.t 2) 64⟩,
 ⟨some 12, none, .load1 (.t 11)⟩,
 ⟨some 8, none, .mov (.k (.c (.int .i64 (-1))))⟩,
 ⟨some 9, none, .mov (.t 12)⟩,
 ⟨some 10, none, .mov (.k (.c (.int .i64 0)))⟩])
 (.seq (.block 0 (some [1, 2, 8, 9, 10]) (some [8, 9, 10])
 (.loop c_impl_Chain_walk_b0))
 (.seq (.reg false [⟨some 35, none, .mov (.t 8)⟩,
 ⟨some 36, none, .mov (.t 9)⟩,
 ⟨some 37, none, .mov (.t 10)⟩,
 ⟨some 4, none, .mov (.t 35)⟩,
 ⟨some 5, none, .mov (.t 36)⟩,
 ⟨some 6, none, .mov (.t 37)⟩,
 ⟨some 7, none, .mov (.k (.c (.bool true)))⟩])
 (.ret (some [4, 5, 6, 7]))))))⟩
theorem c_impl_Chain_walk_ok : trF Tryz.prog ⟨[(0, [1, 2, 8, 9, 10], [8, 9, 10])], [4, 5, 6, 7], false, false⟩ Tryz.f114 = some c_impl_Chain_walk := by kernel_rfl
def c_impl_Chain_has : IFn := ⟨18, [.t 6],
  (.seq (.reg false [⟨some 3, none, .box (.t 0) 44⟩,
 ⟨some 6, none, .mov (.k (.c (.bool false)))⟩])
 (.seq (.reg false [⟨some 7, none, .mov (.t 1)⟩,
 ⟨some 8, none, .bin .neq (.t 7) (.k (.c (.int .i64 (-1))))⟩,
 ⟨some 9, none, .mov (.t 8)⟩,
 ⟨some 10, some (9, true), .mov (.t 1)⟩,
 ⟨some 11, some (9, true), .fld (.t 3) 0⟩,
 ⟨some 12, some (9, true), .ixa (.t 11) (.t 10) 16 4⟩,
 ⟨some 13, some (9, true), .fld (.t 12) 1⟩,
 ⟨some 14, some (9, true), .load1 (.t 13)⟩,
 ⟨some 15, some (9, true), .mov (.t 2)⟩,
 ⟨some 16, some (9, true), .bin .eql (.t 14) (.t 15)⟩,
 ⟨some 17, none, .pick (.t 9) (.t 16) (.k (.c (.bool false)))⟩,
 ⟨some 6, none, .mov (.t 17)⟩])
 (.ret (some [6]))))⟩
theorem c_impl_Chain_has_ok : trF Tryz.prog ⟨[], [6], false, false⟩ Tryz.f115 = some c_impl_Chain_has := by kernel_rfl
def c_impl_Chain_link : IFn := ⟨19, [],
  (.seq (.reg false [⟨some 6, none, .mov (.t 1)⟩,
 ⟨some 7, none, .bin .eql (.t 6) (.k (.c (.int .i64 (-1))))⟩])
 (.cond (.t 7) (.reg false [⟨some 8, none, .mov (.t 0)⟩,
 ⟨some 9, none, .mov (.t 2)⟩,
 ⟨some 10, none, .chk (.t 8)⟩,
 ⟨some 11, none, .fld (.t 10) 64⟩,
 ⟨none, none, .store (.t 11) (.t 9) 1⟩]) (.reg false [⟨some 12, none, .mov (.t 0)⟩,
 ⟨some 13, none, .mov (.t 1)⟩,
 ⟨some 14, none, .mov (.t 2)⟩,
 ⟨some 15, none, .chk (.t 12)⟩,
 ⟨some 16, none, .fld (.t 15) 0⟩,
 ⟨some 17, none, .ixa (.t 16) (.t 13) 16 4⟩,
 ⟨some 18, none, .fld (.t 17) 3⟩,
 ⟨none, none, .store (.t 18) (.t 14) 1⟩])))⟩
theorem c_impl_Chain_link_ok : trF Tryz.prog ⟨[], [], false, false⟩ Tryz.f116 = some c_impl_Chain_link := by kernel_rfl
def c_impl_Tree_walk_b0 : IC :=
  (.seq (.seq (.reg false [⟨some 13, none, .mov (.t 7)⟩,
 ⟨some 14, none, .chk (.t 13)⟩,
 ⟨some 15, none, .load1 (.t 14)⟩,
 ⟨some 16, none, .bin .neq (.t 15) (.k (.c (.int .i64 (-1))))⟩])
 (.cond (.t 16) .skip (.exit 0)))
 (.block 1 none none
 (.seq (.seq (.reg false [⟨some 17, none, .mov (.t 8)⟩,
 ⟨some 18, none, .bin .eql (.t 17) (.k (.c (.int .i64 8)))⟩])
 (.cond (.t 18) (.seq (.reg false [⟨some 19, none, .mov (.t 7)⟩,
 ⟨some 20, none, .mov (.t 8)⟩,
 ⟨some 4, none, .mov (.t 19)⟩,
 ⟨some 5, none, .mov (.t 20)⟩,
 ⟨some 6, none, .mov (.k (.c (.bool false)))⟩])
 (.ret (some [4, 5, 6]))) .skip))
 (.seq (.reg false [⟨some 21, none, .mov (.t 8)⟩,
 ⟨some 22, none, .bin .add (.t 21) (.k (.c (.int .i64 1)))⟩,
 ⟨some 8, none, .mov (.t 22)⟩])
 (.seq (.reg true [⟨some 23, none, .mov (.t 0)⟩,
 ⟨some 24, none, .mov (.t 7)⟩,
 ⟨some 25, none, .chk (.t 24)⟩,
 ⟨some 26, none, .load1 (.t 25)⟩,
 ⟨some 27, none, .chk (.t 23)⟩,
 ⟨some 28, none, .fld (.t 27) 0⟩,
 ⟨some 29, none, .ixa (.t 28) (.t 26) 16 4⟩,
 ⟨some 9, none, .mov (.t 29)⟩])
 (.block 2 none none
 (.seq (.reg false [⟨some 33, none, .mov (.t 1)⟩,
 ⟨some 34, none, .mov (.t 9)⟩,
 ⟨some 35, none, .chk (.t 34)⟩,
 ⟨some 36, none, .fld (.t 35) 1⟩,
 ⟨some 37, none, .load1 (.t 36)⟩,
 ⟨some 38, none, .bin .lss (.t 33) (.t 37)⟩,
 ⟨some 32, none, .mov (.t 38)⟩])
 (.cond (.t 32) (.reg false [⟨some 39, none, .mov (.t 9)⟩,
 ⟨some 40, none, .chk (.t 39)⟩,
 ⟨some 41, none, .fld (.t 40) 2⟩,
 ⟨some 7, none, .mov (.t 41)⟩]) (.seq (.reg false [⟨some 43, none, .mov (.t 1)⟩,
 ⟨some 44, none, .mov (.t 9)⟩,
 ⟨some 45, none, .chk (.t 44)⟩,
 ⟨some 46, none, .fld (.t 45) 1⟩,
 ⟨some 47, none, .load1 (.t 46)⟩,
 ⟨some 48, none, .bin .gtr (.t 43) (.t 47)⟩,
 ⟨some 42, none, .mov (.t 48)⟩])
 (.cond (.t 42) (.reg false [⟨some 49, none, .mov (.t 9)⟩,
 ⟨some 50, none, .chk (.t 49)⟩,
 ⟨some 51, none, .fld (.t 50) 3⟩,
 ⟨some 7, none, .mov (.t 51)⟩]) (.seq (.reg false [⟨some 30, none, .mov (.t 7)⟩,
 ⟨some 31, none, .mov (.t 8)⟩,
 ⟨some 4, none, .mov (.t 30)⟩,
 ⟨some 5, none, .mov (.t 31)⟩,
 ⟨some 6, none, .mov (.k (.c (.bool true)))⟩])
 (.ret (some [4, 5, 6])))))))))))))
def c_impl_Tree_walk : IFn := ⟨54, [.t 4, .t 5, .t 6],
  (.seq (.reg false [⟨some 4, none, .mov (.k (.c .nilp))⟩,
 ⟨some 5, none, .mov (.k (.c (.int .i64 0)))⟩,
 ⟨some 6, none, .mov (.k (.c (.bool false)))⟩])
 (.seq (.reg false [⟨some 10, none, .mov (.t 0)⟩,
 ⟨some 11, none, .chk (.t 10)⟩,
 ⟨some 12, none, .fld (.t 11) 64⟩,
 ⟨some 7, none, .mov (.t 12)⟩,
 ⟨some 8, none, .mov (.k (.c (.int .i64 0)))⟩])
 (.seq (.block 0 (some [0, 1, 7, 8]) (some [7, 8])
 (.loop c_impl_Tree_walk_b0))
 (.seq (.reg false [⟨some 52, none, .mov (.t 7)⟩,
 ⟨some 53, none, .mov (.t 8)⟩,
 ⟨some 4, none, .mov (.t 52)⟩,
 ⟨some 5, none, .mov (.t 53)⟩,
 ⟨some 6, none, .mov (.k (.c (.bool true)))⟩])
 (.ret (some [4, 5, 6]))))))⟩
theorem c_impl_Tree_walk_ok : trF Tryz.prog ⟨[(0, [0, 1, 7, 8], [7, 8])], [4, 5, 6], false, false⟩ Tryz.f117 = some c_impl_Tree_walk := by kernel_rfl
def c_impl_setHas : IFn := ⟨14, [.t 4],
  (.seq (.reg false [⟨some 4, none, .mov (.k (.c (.bool false)))⟩])
 (.seq (.reg false [⟨some 5, none, .mov (.t 0)⟩,
 ⟨some 6, none, .mov (.t 1)⟩,
 ⟨some 7, none, .mov (.t 0)⟩,
 ⟨some 8, none, .len (.t 7)⟩,
 ⟨some 9, none, .call 113 [.t 6, .t 8]⟩,
 ⟨some 10, none, .ixs (.t 5) (.t 9) 1⟩,
 ⟨some 11, none, .load1 (.t 10)⟩,
 ⟨some 12, none, .mov (.t 1)⟩,
 ⟨some 13, none, .call 129 [.t 11, .t 12]⟩,
 ⟨some 4, none, .mov (.t 13)⟩])
 (.ret (some [4]))))⟩
theorem c_impl_setHas_ok : trF Tryz.prog ⟨[], [4], false, false⟩ Tryz.f118 = some c_impl_setHas := by kernel_rfl
def c_impl_bucketed_b0 : IC :=
  (.seq (.reg false [⟨some 13, none, .bin .lss (.t 12) (.t 11)⟩])
 (.seq (.cond (.t 13) .skip (.exit 0))
 (.seq (.block 1 none none
 (.seq (.reg false [⟨some 14, none, .ixs (.t 10) (.t 12) 1⟩,
 ⟨some 15, none, .load1 (.t 14)⟩,
 ⟨some 7, none, .mov (.t 15)⟩])
 (.reg false [⟨some 16, none, .mov (.t 5)⟩,
 ⟨some 17, none, .mov (.t 7)⟩,
 ⟨some 18, none, .mov (.t 1)⟩,
 ⟨some 19, none, .call 113 [.t 17, .t 18]⟩,
 ⟨some 20, none, .mov (.t 5)⟩,
 ⟨some 21, none, .mov (.t 7)⟩,
 ⟨some 22, none, .mov (.t 1)⟩,
 ⟨some 23, none, .call 113 [.t 21, .t 22]⟩,
 ⟨some 24, none, .ixs (.t 20) (.t 23) 1⟩,
 ⟨some 25, none, .load1 (.t 24)⟩,
 ⟨some 26, none, .mov (.t 7)⟩,
 ⟨some 27, none, .lit 1 1 [.int .i64 0] [(0, .t 26)] 3⟩,
 ⟨some 28, none, .app (.t 25) (.t 27) 3 1 8⟩,
 ⟨some 29, none, .ixs (.t 16) (.t 19) 1⟩,
 ⟨none, none, .store (.t 29) (.t 28) 1⟩])))
 (.reg false [⟨some 30, none, .bin .add (.t 12) (.k (.c (.int .i64 1)))⟩,
 ⟨some 12, none, .mov (.t 30)⟩]))))
def c_impl_bucketed : IFn := ⟨32, [.t 4],
  (.seq (.reg false [⟨some 4, none, .mov (.k (.c .nils))⟩])
 (.seq (.reg false [⟨some 8, none, .mov (.t 1)⟩,
 ⟨some 9, none, .mks (.t 8) [.nils] 103 24⟩,
 ⟨some 5, none, .mov (.t 9)⟩])
 (.seq (.seq (.reg false [⟨some 10, none, .mov (.t 0)⟩,
 ⟨some 11, none, .len (.t 10)⟩,
 ⟨some 12, none, .mov (.k (.c (.int .i64 0)))⟩])
 (.block 0 (some [1, 5, 10, 11, 12]) (some [5])
 (.loop c_impl_bucketed_b0)))
 (.seq (.reg false [⟨some 31, none, .mov (.t 5)⟩,
 ⟨some 4, none, .mov (.t 31)⟩])
 (.ret (some [4]))))))⟩
theorem c_impl_bucketed_ok : trF Tryz.prog ⟨[(0, [1, 5, 10, 11, 12], [5])], [4], false, false⟩ Tryz.f119 = some c_impl_bucketed := by kernel_rfl
def c_impl_listed : IFn := ⟨9, [.t 2],
  (.seq (.reg false [⟨some 2, none, .mov (.k (.c .nils))⟩])
 (.seq (.reg false [⟨some 4, none, .mov (.t 0)⟩,
 ⟨some 5, none, .call 130 [.t 4]⟩,
 ⟨some 3, none, .mov (.t 5)⟩])
 (.seq (.reg false [⟨some 6, none, .mov (.t 3)⟩,
 ⟨some 7, none, .call 121 [.t 6]⟩])
 (.seq (.reg false [⟨some 8, none, .mov (.t 3)⟩,
 ⟨some 2, none, .mov (.t 8)⟩])
 (.ret (some [2]))))))⟩
theorem c_impl_listed_ok : trF Tryz.prog ⟨[], [2], false, false⟩ Tryz.f120 = some c_impl_listed := by kernel_rfl
def c_slices_DeleteFunc_int_int_b0 : IC :=
  (.seq (.seq (.reg false [⟨some 16, none, .mov (.t 6)⟩,
 ⟨some 17, none, .mov (.t 0)⟩,
 ⟨some 18, none, .len (.t 17)⟩,
 ⟨some 19, none, .bin .lss (.t 16) (.t 18)⟩])
 (.cond (.t 19) .skip (.exit 0)))
 (.seq (.block 1 none none
 (.seq (.reg false [⟨some 22, none, .mov (.t 0)⟩,
 ⟨some 23, none, .mov (.t 6)⟩,
 ⟨some 24, none, .ixs (.t 22) (.t 23) 1⟩,
 ⟨some 25, none, .load1 (.t 24)⟩,
 ⟨some 7, none, .mov (.t 25)⟩])
 (.seq (.reg false [⟨some 26, none, .mov (.t 1)⟩,
 ⟨some 27, none, .mov (.t 7)⟩,
 ⟨some 28, none, .callv (.t 26) [.t 27]⟩,
 ⟨some 29, none, .un .not (.t 28)⟩])
 (.cond (.t 29) (.seq (.reg false [⟨some 30, none, .mov (.t 0)⟩,
 ⟨some 31, none, .mov (.t 5)⟩,
 ⟨some 32, none, .mov (.t 7)⟩,
 ⟨some 33, none, .ixs (.t 30) (.t 31) 1⟩,
 ⟨none, none, .store (.t 33) (.t 32) 1⟩])
 (.reg false [⟨some 34, none, .mov (.t 5)⟩,
 ⟨some 35, none, .bin .add (.t 34) (.k (.c (.int .i64 1)))⟩,
 ⟨some 5, none, .mov (.t 35)⟩])) .skip))))
 (.reg false [⟨some 20, none, .mov (.t 6)⟩,
 ⟨some 21, none, .bin .add (.t 20) (.k (.c (.int .i64 1)))⟩,
 ⟨some 6, none, .mov (.t 21)⟩])))
def c_slices_DeleteFunc_int_int : IFn := ⟨42, [.t 4],
  (.seq (.reg false [⟨some 4, none, .mov (.k (.c .nils))⟩])
 (.seq (.reg false [⟨some 8, none, .mov (.t 0)⟩,
 ⟨some 9, none, .mov (.t 1)⟩,
 ⟨some 10, none, .call 133 [.t 8, .t 9]⟩,
 ⟨some 5, none, .mov (.t 10)⟩])
 (.seq (.seq (.reg false [⟨some 11, none, .mov (.t 5)⟩,
 ⟨some 12, none, .bin .eql (.t 11) (.k (.c (.int .i64 (-1))))⟩])
 (.cond (.t 12) (.seq (.reg false [⟨some 13, none, .mov (.t 0)⟩,
 ⟨some 4, none, .mov (.t 13)⟩])
 (.ret (some [4]))) .skip))
 (.seq (.seq (.reg false [⟨some 14, none, .mov (.t 5)⟩,
 ⟨some 15, none, .bin .add (.t 14) (.k (.c (.int .i64 1)))⟩,
 ⟨some 6, none, .mov (.t 15)⟩])
 (.block 0 (some [0, 1, 5, 6]) (some [0, 5])
 (.loop c_slices_DeleteFunc_int_int_b0)))
 (.seq (.reg false [⟨some 36, none, .mov (.t 0)⟩,
 ⟨some 37, none, .mov (.t 5)⟩,
 ⟨some 38, none, .sls (.t 36) 1 (some (.t 37)) none⟩,
 ⟨none, none, .clr (.t 38) (.int .i64 0)⟩])
 (.seq (.reg false [⟨some 39, none, .mov (.t 0)⟩,
 ⟨some 40, none, .mov (.t 5)⟩,
 ⟨some 41, none, .sls (.t 39) 1 none (some (.t 40))⟩,
 ⟨some 4, none, .mov (.t 41)⟩])
 (.ret (some [4]))))))))⟩
theorem c_slices_DeleteFunc_int_int_ok : trF Tryz.prog ⟨[(0, [0, 1, 5, 6], [0, 5])], [4], false, false⟩ Tryz.f122 = some c_slices_DeleteFunc_int_int := by kernel_rfl
def c_impl_SetDrop_1 : IFn := ⟨7, [.t 3],
  (.seq (.reg false [⟨some 3, none, .mov (.k (.c (.bool false)))⟩])
 (.seq (.reg false [⟨some 4, none, .mov (.t 0)⟩,
 ⟨some 5, none, .load1 (.t 1)⟩,
 ⟨some 6, none, .bin .eql (.t 4) (.t 5)⟩,
 ⟨some 3, none, .mov (.t 6)⟩])
 (.ret (some [3]))))⟩
theorem c_impl_SetDrop_1_ok : trF Tryz.prog ⟨[], [3], false, false⟩ Tryz.f123 = some c_impl_SetDrop_1 := by kernel_rfl
def c_laws_eqNode : IFn := ⟨25, [.t 4],
  (.seq (.reg false [⟨some 2, none, .box (.t 0) 41⟩,
 ⟨some 3, none, .box (.t 1) 41⟩,
 ⟨some 4, none, .mov (.k (.c (.bool false)))⟩])
 (.seq (.seq (.reg false [⟨some 5, none, .fld (.t 2) 0⟩,
 ⟨some 6, none, .load1 (.t 5)⟩,
 ⟨some 7, none, .fld (.t 3) 0⟩,
 ⟨some 8, none, .load1 (.t 7)⟩,
 ⟨some 9, none, .binb true (.t 6) (.t 8)⟩])
 (.cond (.t 9) (.seq (.reg false [⟨some 4, none, .mov (.k (.c (.bool false)))⟩])
 (.ret (some [4]))) .skip))
 (.seq (.seq (.reg false [⟨some 10, none, .fld (.t 2) 1⟩,
 ⟨some 11, none, .load1 (.t 10)⟩,
 ⟨some 12, none, .fld (.t 3) 1⟩,
 ⟨some 13, none, .load1 (.t 12)⟩,
 ⟨some 14, none, .bin .neq (.t 11) (.t 13)⟩])
 (.cond (.t 14) (.seq (.reg false [⟨some 4, none, .mov (.k (.c (.bool false)))⟩])
 (.ret (some [4]))) .skip))
 (.seq (.seq (.reg false [⟨some 15, none, .fld (.t 2) 2⟩,
 ⟨some 16, none, .load1 (.t 15)⟩,
 ⟨some 17, none, .fld (.t 3) 2⟩,
 ⟨some 18, none, .load1 (.t 17)⟩,
 ⟨some 19, none, .bin .neq (.t 16) (.t 18)⟩])
 (.cond (.t 19) (.seq (.reg false [⟨some 4, none, .mov (.k (.c (.bool false)))⟩])
 (.ret (some [4]))) .skip))
 (.seq (.seq (.reg false [⟨some 20, none, .fld (.t 2) 3⟩,
 ⟨some 21, none, .load1 (.t 20)⟩,
 ⟨some 22, none, .fld (.t 3) 3⟩,
 ⟨some 23, none, .load1 (.t 22)⟩,
 ⟨some 24, none, .bin .neq (.t 21) (.t 23)⟩])
 (.cond (.t 24) (.seq (.reg false [⟨some 4, none, .mov (.k (.c (.bool false)))⟩])
 (.ret (some [4]))) .skip))
 (.seq (.reg false [⟨some 4, none, .mov (.k (.c (.bool true)))⟩])
 (.ret (some [4]))))))))⟩
theorem c_laws_eqNode_ok : trF Tryz.prog ⟨[], [4], false, false⟩ Tryz.f124 = some c_laws_eqNode := by kernel_rfl
def c_laws_eqTwig : IFn := ⟨25, [.t 4],
  (.seq (.reg false [⟨some 2, none, .box (.t 0) 46⟩,
 ⟨some 3, none, .box (.t 1) 46⟩,
 ⟨some 4, none, .mov (.k (.c (.bool false)))⟩])
 (.seq (.seq (.reg false [⟨some 5, none, .fld (.t 2) 0⟩,
 ⟨some 6, none, .load1 (.t 5)⟩,
 ⟨some 7, none, .fld (.t 3) 0⟩,
 ⟨some 8, none, .load1 (.t 7)⟩,
 ⟨some 9, none, .binb true (.t 6) (.t 8)⟩])
 (.cond (.t 9) (.seq (.reg false [⟨some 4, none, .mov (.k (.c (.bool false)))⟩])
 (.ret (some [4]))) .skip))
 (.seq (.seq (.reg false [⟨some 10, none, .fld (.t 2) 1⟩,
 ⟨some 11, none, .load1 (.t 10)⟩,
 ⟨some 12, none, .fld (.t 3) 1⟩,
 ⟨some 13, none, .load1 (.t 12)⟩,
 ⟨some 14, none, .bin .neq (.t 11) (.t 13)⟩])
 (.cond (.t 14) (.seq (.reg false [⟨some 4, none, .mov (.k (.c (.bool false)))⟩])
 (.ret (some [4]))) .skip))
 (.seq (.seq (.reg false [⟨some 15, none, .fld (.t 2) 2⟩,
 ⟨some 16, none, .load1 (.t 15)⟩,
 ⟨some 17, none, .fld (.t 3) 2⟩,
 ⟨some 18, none, .load1 (.t 17)⟩,
 ⟨some 19, none, .bin .neq (.t 16) (.t 18)⟩])
 (.cond (.t 19) (.seq (.reg false [⟨some 4, none, .mov (.k (.c (.bool false)))⟩])
 (.ret (some [4]))) .skip))
 (.seq (.seq (.reg false [⟨some 20, none, .fld (.t 2) 3⟩,
 ⟨some 21, none, .load1 (.t 20)⟩,
 ⟨some 22, none, .fld (.t 3) 3⟩,
 ⟨some 23, none, .load1 (.t 22)⟩,
 ⟨some 24, none, .bin .neq (.t 21) (.t 23)⟩])
 (.cond (.t 24) (.seq (.reg false [⟨some 4, none, .mov (.k (.c (.bool false)))⟩])
 (.ret (some [4]))) .skip))
 (.seq (.reg false [⟨some 4, none, .mov (.k (.c (.bool true)))⟩])
 (.ret (some [4]))))))))⟩
theorem c_laws_eqTwig_ok : trF Tryz.prog ⟨[], [4], false, false⟩ Tryz.f125 = some c_laws_eqTwig := by kernel_rfl
def c_spec_l1Has_b0 : IC :=
  (.seq (.seq (.reg false [⟨some 6, none, .mov (.t 5)⟩,
 ⟨some 7, none, .mov (.t 0)⟩,
 ⟨some 8, none, .len (.t 7)⟩,
 ⟨some 9, none, .bin .lss (.t 6) (.t 8)⟩])
 (.cond (.t 9) .skip (.exit 0)))
 (.seq (.block 1 none none
 (.seq (.reg false [⟨some 12, none, .mov (.t 0)⟩,
 ⟨some 13, none, .mov (.t 5)⟩,
 ⟨some 14, none, .ixs (.t 12) (.t 13) 1⟩,
 ⟨some 15, none, .load1 (.t 14)⟩,
 ⟨some 16, none, .mov (.t 1)⟩,
 ⟨some 17, none, .bin .eql (.t 15) (.t 16)⟩])
 (.cond (.t 17) (.seq (.reg false [⟨some 4, none, .mov (.k (.c (.bool true)))⟩])
 (.ret (some [4]))) .skip)))
 (.reg false [⟨some 10, none, .mov (.t 5)⟩,
 ⟨some 11, none, .bin .add (.t 10) (.k (.c (.int .i64 1)))⟩,
 ⟨some 5, none, .mov (.t 11)⟩])))
def c_spec_l1Has : IFn := ⟨18, [.t 4],
  (.seq (.reg false [⟨some 4, none, .mov (.k (.c (.bool false)))⟩])
 (.seq (.seq (.reg false [⟨some 5, none, .mov (.k (.c (.int .i64 0)))⟩])
 (.block 0 (some [0, 1, 5]) (some [])
 (.loop c_spec_l1Has_b0)))
 (.seq (.reg false [⟨some 4, none, .mov (.k (.c (.bool false)))⟩])
 (.ret (some [4])))))⟩
theorem c_spec_l1Has_ok : trF Tryz.prog ⟨[(0, [0, 1, 5], [])], [4], false, false⟩ Tryz.f126 = some c_spec_l1Has := by kernel_rfl
def c_slices_ContainsFunc_int_int : IFn := ⟨9, [.t 4],
  (.seq (.reg false [⟨some 4, none, .mov (.k (.c (.bool false)))⟩])
 (.seq (.reg false [⟨some 5, none, .mov (.t 0)⟩,
 ⟨some 6, none, .mov (.t 1)⟩,
 ⟨some 7, none, .call 133 [.t 5, .t 6]⟩,
 ⟨some 8, none, .bin .geq (.t 7) (.k (.c (.int .i64 0)))⟩,
 ⟨some 4, none, .mov (.t 8)⟩])
 (.ret (some [4]))))⟩
theorem c_slices_ContainsFunc_int_int_ok : trF Tryz.prog ⟨[], [4], false, false⟩ Tryz.f127 = some c_slices_ContainsFunc_int_int := by kernel_rfl
def c_impl_areValues_1 : IFn := ⟨6, [.t 2],
  (.seq (.reg false [⟨some 2, none, .mov (.k (.c (.bool false)))⟩])
 (.seq (.reg false [⟨some 3, none, .mov (.t 0)⟩,
 ⟨some 4, none, .call 46 [.t 3]⟩,
 ⟨some 5, none, .un .not (.t 4)⟩,
 ⟨some 2, none, .mov (.t 5)⟩])
 (.ret (some [2]))))⟩
theorem c_impl_areValues_1_ok : trF Tryz.prog ⟨[], [2], false, false⟩ Tryz.f128 = some c_impl_areValues_1 := by kernel_rfl
def c_slices_Contains_int_int : IFn := ⟨9, [.t 4],
  (.seq (.reg false [⟨some 4, none, .mov (.k (.c (.bool false)))⟩])
 (.seq (.reg false [⟨some 5, none, .mov (.t 0)⟩,
 ⟨some 6, none, .mov (.t 1)⟩,
 ⟨some 7, none, .call 134 [.t 5, .t 6]⟩,
 ⟨some 8, none, .bin .geq (.t 7) (.k (.c (.int .i64 0)))⟩,
 ⟨some 4, none, .mov (.t 8)⟩])
 (.ret (some [4]))))⟩
theorem c_slices_Contains_int_int_ok : trF Tryz.prog ⟨[], [4], false, false⟩ Tryz.f129 = some c_slices_Contains_int_int := by kernel_rfl
def c_slices_Concat_int_int_b0 : IC :=
  (.seq (.reg false [⟨some 12, none, .bin .lss (.t 11) (.t 10)⟩])
 (.seq (.cond (.t 12) .skip (.exit 0))
 (.seq (.block 1 none none
 (.seq (.reg false [⟨some 13, none, .ixs (.t 9) (.t 11) 1⟩,
 ⟨some 14, none, .load1 (.t 13)⟩,
 ⟨some 5, none, .mov (.t 14)⟩])
 (.seq (.reg false [⟨some 15, none, .mov (.t 3)⟩,
 ⟨some 16, none, .mov (.t 5)⟩,
 ⟨some 17, none, .len (.t 16)⟩,
 ⟨some 18, none, .bin .add (.t 15) (.t 17)⟩,
 ⟨some 3, none, .mov (.t 18)⟩])
 (.seq (.reg false [⟨some 19, none, .mov (.t 3)⟩,
 ⟨some 20, none, .bin .lss (.t 19) (.k (.c (.int .i64 0)))⟩])
 (.cond (.t 20) (.reg false [⟨some 21, none, .bad⟩,
 ⟨none, none, .bad⟩]) .skip)))))
 (.reg false [⟨some 22, none, .bin .add (.t 11) (.k (.c (.int .i64 1)))⟩,
 ⟨some 11, none, .mov (.t 22)⟩]))))
def c_slices_Concat_int_int_b1 : IC :=
  (.seq (.reg false [⟨some 28, none, .bin .lss (.t 27) (.t 26)⟩])
 (.seq (.cond (.t 28) .skip (.exit 2))
 (.seq (.block 3 none none
 (.seq (.reg false [⟨some 29, none, .ixs (.t 25) (.t 27) 1⟩,
 ⟨some 30, none, .load1 (.t 29)⟩,
 ⟨some 8, none, .mov (.t 30)⟩])
 (.reg false [⟨some 31, none, .mov (.t 6)⟩,
 ⟨some 32, none, .mov (.t 8)⟩,
 ⟨some 33, none, .app (.t 31) (.t 32) 3 1 8⟩,
 ⟨some 6, none, .mov (.t 33)⟩])))
 (.reg false [⟨some 34, none, .bin .add (.t 27) (.k (.c (.int .i64 1)))⟩,
 ⟨some 27, none, .mov (.t 34)⟩]))))
def c_slices_Concat_int_int : IFn := ⟨36, [.t 2],
  (.seq (.reg false [⟨some 2, none, .mov (.k (.c .nils))⟩])
 (.seq (.reg false [⟨some 3, none, .mov (.k (.c (.int .i64 0)))⟩])
 (.seq (.seq (.reg false [⟨some 9, none, .mov (.t 0)⟩,
 ⟨some 10, none, .len (.t 9)⟩,
 ⟨some 11, none, .mov (.k (.c (.int .i64 0)))⟩])
 (.block 0 (some [0, 3, 9, 10, 11]) (some [0, 3])
 (.loop c_slices_Concat_int_int_b0)))
 (.seq (.reg false [⟨some 23, none, .mov (.t 3)⟩,
 ⟨some 24, none, .call 135 [.k (.c .nils), .t 23]⟩,
 ⟨some 6, none, .mov (.t 24)⟩])
 (.seq (.seq (.reg false [⟨some 25, none, .mov (.t 0)⟩,
 ⟨some 26, none, .len (.t 25)⟩,
 ⟨some 27, none, .mov (.k (.c (.int .i64 0)))⟩])
 (.block 2 (some [6, 25, 26, 27]) (some [6])
 (.loop c_slices_Concat_int_int_b1)))
 (.seq (.reg false [⟨some 35, none, .mov (.t 6)⟩,
 ⟨some 2, none, .mov (.t 35)⟩])
 (.ret (some [2]))))))))⟩
theorem c_slices_Concat_int_int_ok : trF Tryz.prog ⟨[(0, [0, 3, 9, 10, 11], [0, 3]), (2, [6, 25, 26, 27], [6])], [2], false, false⟩ Tryz.f130 = some c_slices_Concat_int_int := by kernel_rfl
def c_slices_IndexFunc_int_int_b0 : IC :=
  (.seq (.reg false [⟨some 9, none, .bin .lss (.t 8) (.t 7)⟩])
 (.seq (.cond (.t 9) .skip (.exit 0))
 (.seq (.block 1 none none
 (.seq (.reg false [⟨some 10, none, .mov (.t 8)⟩,
 ⟨some 5, none, .mov (.t 10)⟩])
 (.seq (.reg false [⟨some 11, none, .mov (.t 1)⟩,
 ⟨some 12, none, .mov (.t 0)⟩,
 ⟨some 13, none, .mov (.t 5)⟩,
 ⟨some 14, none, .ixs (.t 12) (.t 13) 1⟩,
 ⟨some 15, none, .load1 (.t 14)⟩,
 ⟨some 16, none, .callv (.t 11) [.t 15]⟩])
 (.cond (.t 16) (.seq (.reg false [⟨some 17, none, .mov (.t 5)⟩,
 ⟨some 4, none, .mov (.t 17)⟩])
 (.ret (some [4]))) .skip))))
 (.reg false [⟨some 18, none, .bin .add (.t 8) (.k (.c (.int .i64 1)))⟩,
 ⟨some 8, none, .mov (.t 18)⟩]))))
def c_slices_IndexFunc_int_int : IFn := ⟨19, [.t 4],
  (.seq (.reg false [⟨some 4, none, .mov (.k (.c (.int .i64 0)))⟩])
 (.seq (.seq (.reg false [⟨some 6, none, .mov (.t 0)⟩,
 ⟨some 7, none, .len (.t 6)⟩,
 ⟨some 8, none, .mov (.k (.c (.int .i64 0)))⟩])
 (.block 0 (some [0, 1, 7, 8]) (some [])
 (.loop c_slices_IndexFunc_int_int_b0)))
 (.seq (.reg false [⟨some 4, none, .mov (.k (.c (.int .i64 (-1))))⟩])
 (.ret (some [4])))))⟩
theorem c_slices_IndexFunc_int_int_ok : trF Tryz.prog ⟨[(0, [0, 1, 7, 8], [])], [4], false, false⟩ Tryz.f133 = some c_slices_IndexFunc_int_int := by kernel_rfl
def c_slices_Index_int_int_b0 : IC :=
  (.seq (.reg false [⟨some 9, none, .bin .lss (.t 8) (.t 7)⟩])
 (.seq (.cond (.t 9) .skip (.exit 0))
 (.seq (.block 1 none none
 (.seq (.reg false [⟨some 10, none, .mov (.t 8)⟩,
 ⟨some 5, none, .mov (.t 10)⟩])
 (.seq (.reg false [⟨some 11, none, .mov (.t 1)⟩,
 ⟨some 12, none, .mov (.t 0)⟩,
 ⟨some 13, none, .mov (.t 5)⟩,
 ⟨some 14, none, .ixs (.t 12) (.t 13) 1⟩,
 ⟨some 15, none, .load1 (.t 14)⟩,
 ⟨some 16, none, .bin .eql (.t 11) (.t 15)⟩])
 (.cond (.t 16) (.seq (.reg false [⟨some 17, none, .mov (.t 5)⟩,
 ⟨some 4, none, .mov (.t 17)⟩])
 (.ret (some [4]))) .skip))))
 (.reg false [⟨some 18, none, .bin .add (.t 8) (.k (.c (.int .i64 1)))⟩,
 ⟨some 8, none, .mov (.t 18)⟩]))))
def c_slices_Index_int_int : IFn := ⟨19, [.t 4],
  (.seq (.reg false [⟨some 4, none, .mov (.k (.c (.int .i64 0)))⟩])
 (.seq (.seq (.reg false [⟨some 6, none, .mov (.t 0)⟩,
 ⟨some 7, none, .len (.t 6)⟩,
 ⟨some 8, none, .mov (.k (.c (.int .i64 0)))⟩])
 (.block 0 (some [0, 1, 7, 8]) (some [])
 (.loop c_slices_Index_int_int_b0)))
 (.seq (.reg false [⟨some 4, none, .mov (.k (.c (.int .i64 (-1))))⟩])
 (.ret (some [4])))))⟩
theorem c_slices_Index_int_int_ok : trF Tryz.prog ⟨[(0, [0, 1, 7, 8], [])], [4], false, false⟩ Tryz.f134 = some c_slices_Index_int_int := by kernel_rfl
def T : FuncId → Option IFn
  | 3 => some c_laws_FnExactDoDeed
  | 6 => some c_laws_szSpace
  | 7 => some c_spec_DoDeed
  | 8 => some c_laws_toSpace
  | 9 => some c_laws_toDeed
  | 10 => some c_impl_DoDeed
  | 11 => some c_laws_eqSpace
  | 12 => some c_laws_eqTold
  | 13 => some c_laws_markSpace
  | 14 => some c_laws_heldSpace
  | 33 => some c_laws_szIntSS
  | 34 => some c_spec_l17Copy
  | 35 => some c_spec_SpaceOk
  | 36 => some c_spec_l1In
  | 37 => some c_spec_l1Value
  | 38 => some c_spec_l17Deed
  | 39 => some c_laws_toChain
  | 40 => some c_laws_toRing
  | 41 => some c_laws_toTree
  | 42 => some c_laws_toIntSS
  | 43 => some c_impl_ownSpace
  | 44 => some c_impl_SpaceOk
  | 45 => some c_impl_in
  | 46 => some c_impl_isValue
  | 47 => some c_impl_Space_deed
  | 48 => some c_laws_eqChain
  | 49 => some c_laws_eqRing
  | 50 => some c_laws_eqTree
  | 51 => some c_laws_eqIntSS
  | 52 => some c_laws_markIntSS
  | 53 => some c_laws_heldIntSS
  | 55 => some c_laws_szIntS
  | 56 => some c_spec_l16Copy
  | 57 => some c_spec_ChainOk
  | 58 => some c_spec_RingOk
  | 59 => some c_spec_TreeOk
  | 60 => some c_spec_SetOk
  | 61 => some c_spec_MapPut
  | 62 => some c_spec_l17Map
  | 63 => some c_spec_MapDrop
  | 64 => some c_spec_MapGet
  | 65 => some c_spec_RingPut
  | 66 => some c_spec_l17Ring
  | 67 => some c_spec_RingTake
  | 68 => some c_spec_TreeAdd
  | 69 => some c_spec_l17Tree
  | 70 => some c_spec_TreeDrop
  | 71 => some c_spec_SetAdd
  | 72 => some c_spec_l17Set
  | 73 => some c_spec_SetDrop
  | 74 => some c_laws_toNodeA16
  | 75 => some c_laws_toIntA8
  | 76 => some c_laws_toTwigA16
  | 77 => some c_laws_toIntS
  | 78 => some c_impl_ownSet
  | 79 => some c_impl_ChainOk
  | 80 => some c_impl_RingOk
  | 81 => some c_impl_TreeOk
  | 82 => some c_impl_SetOk
  | 83 => some c_impl_MapPut
  | 84 => some c_impl_MapDrop
  | 85 => some c_impl_MapGet
  | 86 => some c_impl_RingPut
  | 87 => some c_impl_RingTake
  | 88 => some c_impl_TreeAdd
  | 89 => some c_impl_TreeDrop
  | 90 => some c_impl_SetAdd
  | 91 => some c_impl_SetDrop
  | 92 => some c_impl_toldBy
  | 93 => some c_laws_eqNodeA16
  | 94 => some c_laws_eqIntA8
  | 95 => some c_laws_eqTwigA16
  | 96 => some c_laws_eqIntS
  | 97 => some c_laws_markIntS
  | 98 => some c_laws_heldIntS
  | 99 => some c_spec_l1Copy
  | 100 => some c_spec_l15Keys
  | 101 => some c_spec_l16Place
  | 102 => some c_spec_l13Walk
  | 103 => some c_spec_l15Walk
  | 104 => some c_spec_l15Hang
  | 105 => some c_spec_SetHas16
  | 106 => some c_spec_l16Double
  | 107 => some c_spec_l16Put
  | 108 => some c_laws_toNode
  | 109 => some c_laws_toTwig
  | 110 => some c_impl_own
  | 111 => some c_impl_areValues
  | 112 => some c_impl_Tree_isPart
  | 113 => some c_impl_placeOf
  | 114 => some c_impl_Chain_walk
  | 115 => some c_impl_Chain_has
  | 116 => some c_impl_Chain_link
  | 117 => some c_impl_Tree_walk
  | 118 => some c_impl_setHas
  | 119 => some c_impl_bucketed
  | 120 => some c_impl_listed
  | 122 => some c_slices_DeleteFunc_int_int
  | 123 => some c_impl_SetDrop_1
  | 124 => some c_laws_eqNode
  | 125 => some c_laws_eqTwig
  | 126 => some c_spec_l1Has
  | 127 => some c_slices_ContainsFunc_int_int
  | 128 => some c_impl_areValues_1
  | 129 => some c_slices_Contains_int_int
  | 130 => some c_slices_Concat_int_int
  | 133 => some c_slices_IndexFunc_int_int
  | 134 => some c_slices_Index_int_int
  | _ => none
theorem T_3 : T 3 = some c_laws_FnExactDoDeed := rfl
theorem T_6 : T 6 = some c_laws_szSpace := rfl
theorem T_7 : T 7 = some c_spec_DoDeed := rfl
theorem T_8 : T 8 = some c_laws_toSpace := rfl
theorem T_9 : T 9 = some c_laws_toDeed := rfl
theorem T_10 : T 10 = some c_impl_DoDeed := rfl
theorem T_11 : T 11 = some c_laws_eqSpace := rfl
theorem T_12 : T 12 = some c_laws_eqTold := rfl
theorem T_13 : T 13 = some c_laws_markSpace := rfl
theorem T_14 : T 14 = some c_laws_heldSpace := rfl
theorem T_33 : T 33 = some c_laws_szIntSS := rfl
theorem T_34 : T 34 = some c_spec_l17Copy := rfl
theorem T_35 : T 35 = some c_spec_SpaceOk := rfl
theorem T_36 : T 36 = some c_spec_l1In := rfl
theorem T_37 : T 37 = some c_spec_l1Value := rfl
theorem T_38 : T 38 = some c_spec_l17Deed := rfl
theorem T_39 : T 39 = some c_laws_toChain := rfl
theorem T_40 : T 40 = some c_laws_toRing := rfl
theorem T_41 : T 41 = some c_laws_toTree := rfl
theorem T_42 : T 42 = some c_laws_toIntSS := rfl
theorem T_43 : T 43 = some c_impl_ownSpace := rfl
theorem T_44 : T 44 = some c_impl_SpaceOk := rfl
theorem T_45 : T 45 = some c_impl_in := rfl
theorem T_46 : T 46 = some c_impl_isValue := rfl
theorem T_47 : T 47 = some c_impl_Space_deed := rfl
theorem T_48 : T 48 = some c_laws_eqChain := rfl
theorem T_49 : T 49 = some c_laws_eqRing := rfl
theorem T_50 : T 50 = some c_laws_eqTree := rfl
theorem T_51 : T 51 = some c_laws_eqIntSS := rfl
theorem T_52 : T 52 = some c_laws_markIntSS := rfl
theorem T_53 : T 53 = some c_laws_heldIntSS := rfl
theorem T_55 : T 55 = some c_laws_szIntS := rfl
theorem T_56 : T 56 = some c_spec_l16Copy := rfl
theorem T_57 : T 57 = some c_spec_ChainOk := rfl
theorem T_58 : T 58 = some c_spec_RingOk := rfl
theorem T_59 : T 59 = some c_spec_TreeOk := rfl
theorem T_60 : T 60 = some c_spec_SetOk := rfl
theorem T_61 : T 61 = some c_spec_MapPut := rfl
theorem T_62 : T 62 = some c_spec_l17Map := rfl
theorem T_63 : T 63 = some c_spec_MapDrop := rfl
theorem T_64 : T 64 = some c_spec_MapGet := rfl
theorem T_65 : T 65 = some c_spec_RingPut := rfl
theorem T_66 : T 66 = some c_spec_l17Ring := rfl
theorem T_67 : T 67 = some c_spec_RingTake := rfl
theorem T_68 : T 68 = some c_spec_TreeAdd := rfl
theorem T_69 : T 69 = some c_spec_l17Tree := rfl
theorem T_70 : T 70 = some c_spec_TreeDrop := rfl
theorem T_71 : T 71 = some c_spec_SetAdd := rfl
theorem T_72 : T 72 = some c_spec_l17Set := rfl
theorem T_73 : T 73 = some c_spec_SetDrop := rfl
theorem T_74 : T 74 = some c_laws_toNodeA16 := rfl
theorem T_75 : T 75 = some c_laws_toIntA8 := rfl
theorem T_76 : T 76 = some c_laws_toTwigA16 := rfl
theorem T_77 : T 77 = some c_laws_toIntS := rfl
theorem T_78 : T 78 = some c_impl_ownSet := rfl
theorem T_79 : T 79 = some c_impl_ChainOk := rfl
theorem T_80 : T 80 = some c_impl_RingOk := rfl
theorem T_81 : T 81 = some c_impl_TreeOk := rfl
theorem T_82 : T 82 = some c_impl_SetOk := rfl
theorem T_83 : T 83 = some c_impl_MapPut := rfl
theorem T_84 : T 84 = some c_impl_MapDrop := rfl
theorem T_85 : T 85 = some c_impl_MapGet := rfl
theorem T_86 : T 86 = some c_impl_RingPut := rfl
theorem T_87 : T 87 = some c_impl_RingTake := rfl
theorem T_88 : T 88 = some c_impl_TreeAdd := rfl
theorem T_89 : T 89 = some c_impl_TreeDrop := rfl
theorem T_90 : T 90 = some c_impl_SetAdd := rfl
theorem T_91 : T 91 = some c_impl_SetDrop := rfl
theorem T_92 : T 92 = some c_impl_toldBy := rfl
theorem T_93 : T 93 = some c_laws_eqNodeA16 := rfl
theorem T_94 : T 94 = some c_laws_eqIntA8 := rfl
theorem T_95 : T 95 = some c_laws_eqTwigA16 := rfl
theorem T_96 : T 96 = some c_laws_eqIntS := rfl
theorem T_97 : T 97 = some c_laws_markIntS := rfl
theorem T_98 : T 98 = some c_laws_heldIntS := rfl
theorem T_99 : T 99 = some c_spec_l1Copy := rfl
theorem T_100 : T 100 = some c_spec_l15Keys := rfl
theorem T_101 : T 101 = some c_spec_l16Place := rfl
theorem T_102 : T 102 = some c_spec_l13Walk := rfl
theorem T_103 : T 103 = some c_spec_l15Walk := rfl
theorem T_104 : T 104 = some c_spec_l15Hang := rfl
theorem T_105 : T 105 = some c_spec_SetHas16 := rfl
theorem T_106 : T 106 = some c_spec_l16Double := rfl
theorem T_107 : T 107 = some c_spec_l16Put := rfl
theorem T_108 : T 108 = some c_laws_toNode := rfl
theorem T_109 : T 109 = some c_laws_toTwig := rfl
theorem T_110 : T 110 = some c_impl_own := rfl
theorem T_111 : T 111 = some c_impl_areValues := rfl
theorem T_112 : T 112 = some c_impl_Tree_isPart := rfl
theorem T_113 : T 113 = some c_impl_placeOf := rfl
theorem T_114 : T 114 = some c_impl_Chain_walk := rfl
theorem T_115 : T 115 = some c_impl_Chain_has := rfl
theorem T_116 : T 116 = some c_impl_Chain_link := rfl
theorem T_117 : T 117 = some c_impl_Tree_walk := rfl
theorem T_118 : T 118 = some c_impl_setHas := rfl
theorem T_119 : T 119 = some c_impl_bucketed := rfl
theorem T_120 : T 120 = some c_impl_listed := rfl
theorem T_122 : T 122 = some c_slices_DeleteFunc_int_int := rfl
theorem T_123 : T 123 = some c_impl_SetDrop_1 := rfl
theorem T_124 : T 124 = some c_laws_eqNode := rfl
theorem T_125 : T 125 = some c_laws_eqTwig := rfl
theorem T_126 : T 126 = some c_spec_l1Has := rfl
theorem T_127 : T 127 = some c_slices_ContainsFunc_int_int := rfl
theorem T_128 : T 128 = some c_impl_areValues_1 := rfl
theorem T_129 : T 129 = some c_slices_Contains_int_int := rfl
theorem T_130 : T 130 = some c_slices_Concat_int_int := rfl
theorem T_133 : T 133 = some c_slices_IndexFunc_int_int := rfl
theorem T_134 : T 134 = some c_slices_Index_int_int := rfl
theorem ne_name {s t : String} (h : (s == t) = false) : s ≠ t := by simpa using h
theorem tabOk : TabOk Tryz.prog T := by
  intro f ifn h
  unfold T at h
  split at h
  · injection h with h; subst h; exact ⟨_, _, Tryz.func3, c_laws_FnExactDoDeed_ok, ne_name (by kernel_rfl)⟩
  · injection h with h; subst h; exact ⟨_, _, Tryz.func6, c_laws_szSpace_ok, ne_name (by kernel_rfl)⟩
  · injection h with h; subst h; exact ⟨_, _, Tryz.func7, c_spec_DoDeed_ok, ne_name (by kernel_rfl)⟩
  · injection h with h; subst h; exact ⟨_, _, Tryz.func8, c_laws_toSpace_ok, ne_name (by kernel_rfl)⟩
  · injection h with h; subst h; exact ⟨_, _, Tryz.func9, c_laws_toDeed_ok, ne_name (by kernel_rfl)⟩
  · injection h with h; subst h; exact ⟨_, _, Tryz.func10, c_impl_DoDeed_ok, ne_name (by kernel_rfl)⟩
  · injection h with h; subst h; exact ⟨_, _, Tryz.func11, c_laws_eqSpace_ok, ne_name (by kernel_rfl)⟩
  · injection h with h; subst h; exact ⟨_, _, Tryz.func12, c_laws_eqTold_ok, ne_name (by kernel_rfl)⟩
  · injection h with h; subst h; exact ⟨_, _, Tryz.func13, c_laws_markSpace_ok, ne_name (by kernel_rfl)⟩
  · injection h with h; subst h; exact ⟨_, _, Tryz.func14, c_laws_heldSpace_ok, ne_name (by kernel_rfl)⟩
  · injection h with h; subst h; exact ⟨_, _, Tryz.func33, c_laws_szIntSS_ok, ne_name (by kernel_rfl)⟩
  · injection h with h; subst h; exact ⟨_, _, Tryz.func34, c_spec_l17Copy_ok, ne_name (by kernel_rfl)⟩
  · injection h with h; subst h; exact ⟨_, _, Tryz.func35, c_spec_SpaceOk_ok, ne_name (by kernel_rfl)⟩
  · injection h with h; subst h; exact ⟨_, _, Tryz.func36, c_spec_l1In_ok, ne_name (by kernel_rfl)⟩
  · injection h with h; subst h; exact ⟨_, _, Tryz.func37, c_spec_l1Value_ok, ne_name (by kernel_rfl)⟩
  · injection h with h; subst h; exact ⟨_, _, Tryz.func38, c_spec_l17Deed_ok, ne_name (by kernel_rfl)⟩
  · injection h with h; subst h; exact ⟨_, _, Tryz.func39, c_laws_toChain_ok, ne_name (by kernel_rfl)⟩
  · injection h with h; subst h; exact ⟨_, _, Tryz.func40, c_laws_toRing_ok, ne_name (by kernel_rfl)⟩
  · injection h with h; subst h; exact ⟨_, _, Tryz.func41, c_laws_toTree_ok, ne_name (by kernel_rfl)⟩
  · injection h with h; subst h; exact ⟨_, _, Tryz.func42, c_laws_toIntSS_ok, ne_name (by kernel_rfl)⟩
  · injection h with h; subst h; exact ⟨_, _, Tryz.func43, c_impl_ownSpace_ok, ne_name (by kernel_rfl)⟩
  · injection h with h; subst h; exact ⟨_, _, Tryz.func44, c_impl_SpaceOk_ok, ne_name (by kernel_rfl)⟩
  · injection h with h; subst h; exact ⟨_, _, Tryz.func45, c_impl_in_ok, ne_name (by kernel_rfl)⟩
  · injection h with h; subst h; exact ⟨_, _, Tryz.func46, c_impl_isValue_ok, ne_name (by kernel_rfl)⟩
  · injection h with h; subst h; exact ⟨_, _, Tryz.func47, c_impl_Space_deed_ok, ne_name (by kernel_rfl)⟩
  · injection h with h; subst h; exact ⟨_, _, Tryz.func48, c_laws_eqChain_ok, ne_name (by kernel_rfl)⟩
  · injection h with h; subst h; exact ⟨_, _, Tryz.func49, c_laws_eqRing_ok, ne_name (by kernel_rfl)⟩
  · injection h with h; subst h; exact ⟨_, _, Tryz.func50, c_laws_eqTree_ok, ne_name (by kernel_rfl)⟩
  · injection h with h; subst h; exact ⟨_, _, Tryz.func51, c_laws_eqIntSS_ok, ne_name (by kernel_rfl)⟩
  · injection h with h; subst h; exact ⟨_, _, Tryz.func52, c_laws_markIntSS_ok, ne_name (by kernel_rfl)⟩
  · injection h with h; subst h; exact ⟨_, _, Tryz.func53, c_laws_heldIntSS_ok, ne_name (by kernel_rfl)⟩
  · injection h with h; subst h; exact ⟨_, _, Tryz.func55, c_laws_szIntS_ok, ne_name (by kernel_rfl)⟩
  · injection h with h; subst h; exact ⟨_, _, Tryz.func56, c_spec_l16Copy_ok, ne_name (by kernel_rfl)⟩
  · injection h with h; subst h; exact ⟨_, _, Tryz.func57, c_spec_ChainOk_ok, ne_name (by kernel_rfl)⟩
  · injection h with h; subst h; exact ⟨_, _, Tryz.func58, c_spec_RingOk_ok, ne_name (by kernel_rfl)⟩
  · injection h with h; subst h; exact ⟨_, _, Tryz.func59, c_spec_TreeOk_ok, ne_name (by kernel_rfl)⟩
  · injection h with h; subst h; exact ⟨_, _, Tryz.func60, c_spec_SetOk_ok, ne_name (by kernel_rfl)⟩
  · injection h with h; subst h; exact ⟨_, _, Tryz.func61, c_spec_MapPut_ok, ne_name (by kernel_rfl)⟩
  · injection h with h; subst h; exact ⟨_, _, Tryz.func62, c_spec_l17Map_ok, ne_name (by kernel_rfl)⟩
  · injection h with h; subst h; exact ⟨_, _, Tryz.func63, c_spec_MapDrop_ok, ne_name (by kernel_rfl)⟩
  · injection h with h; subst h; exact ⟨_, _, Tryz.func64, c_spec_MapGet_ok, ne_name (by kernel_rfl)⟩
  · injection h with h; subst h; exact ⟨_, _, Tryz.func65, c_spec_RingPut_ok, ne_name (by kernel_rfl)⟩
  · injection h with h; subst h; exact ⟨_, _, Tryz.func66, c_spec_l17Ring_ok, ne_name (by kernel_rfl)⟩
  · injection h with h; subst h; exact ⟨_, _, Tryz.func67, c_spec_RingTake_ok, ne_name (by kernel_rfl)⟩
  · injection h with h; subst h; exact ⟨_, _, Tryz.func68, c_spec_TreeAdd_ok, ne_name (by kernel_rfl)⟩
  · injection h with h; subst h; exact ⟨_, _, Tryz.func69, c_spec_l17Tree_ok, ne_name (by kernel_rfl)⟩
  · injection h with h; subst h; exact ⟨_, _, Tryz.func70, c_spec_TreeDrop_ok, ne_name (by kernel_rfl)⟩
  · injection h with h; subst h; exact ⟨_, _, Tryz.func71, c_spec_SetAdd_ok, ne_name (by kernel_rfl)⟩
  · injection h with h; subst h; exact ⟨_, _, Tryz.func72, c_spec_l17Set_ok, ne_name (by kernel_rfl)⟩
  · injection h with h; subst h; exact ⟨_, _, Tryz.func73, c_spec_SetDrop_ok, ne_name (by kernel_rfl)⟩
  · injection h with h; subst h; exact ⟨_, _, Tryz.func74, c_laws_toNodeA16_ok, ne_name (by kernel_rfl)⟩
  · injection h with h; subst h; exact ⟨_, _, Tryz.func75, c_laws_toIntA8_ok, ne_name (by kernel_rfl)⟩
  · injection h with h; subst h; exact ⟨_, _, Tryz.func76, c_laws_toTwigA16_ok, ne_name (by kernel_rfl)⟩
  · injection h with h; subst h; exact ⟨_, _, Tryz.func77, c_laws_toIntS_ok, ne_name (by kernel_rfl)⟩
  · injection h with h; subst h; exact ⟨_, _, Tryz.func78, c_impl_ownSet_ok, ne_name (by kernel_rfl)⟩
  · injection h with h; subst h; exact ⟨_, _, Tryz.func79, c_impl_ChainOk_ok, ne_name (by kernel_rfl)⟩
  · injection h with h; subst h; exact ⟨_, _, Tryz.func80, c_impl_RingOk_ok, ne_name (by kernel_rfl)⟩
  · injection h with h; subst h; exact ⟨_, _, Tryz.func81, c_impl_TreeOk_ok, ne_name (by kernel_rfl)⟩
  · injection h with h; subst h; exact ⟨_, _, Tryz.func82, c_impl_SetOk_ok, ne_name (by kernel_rfl)⟩
  · injection h with h; subst h; exact ⟨_, _, Tryz.func83, c_impl_MapPut_ok, ne_name (by kernel_rfl)⟩
  · injection h with h; subst h; exact ⟨_, _, Tryz.func84, c_impl_MapDrop_ok, ne_name (by kernel_rfl)⟩
  · injection h with h; subst h; exact ⟨_, _, Tryz.func85, c_impl_MapGet_ok, ne_name (by kernel_rfl)⟩
  · injection h with h; subst h; exact ⟨_, _, Tryz.func86, c_impl_RingPut_ok, ne_name (by kernel_rfl)⟩
  · injection h with h; subst h; exact ⟨_, _, Tryz.func87, c_impl_RingTake_ok, ne_name (by kernel_rfl)⟩
  · injection h with h; subst h; exact ⟨_, _, Tryz.func88, c_impl_TreeAdd_ok, ne_name (by kernel_rfl)⟩
  · injection h with h; subst h; exact ⟨_, _, Tryz.func89, c_impl_TreeDrop_ok, ne_name (by kernel_rfl)⟩
  · injection h with h; subst h; exact ⟨_, _, Tryz.func90, c_impl_SetAdd_ok, ne_name (by kernel_rfl)⟩
  · injection h with h; subst h; exact ⟨_, _, Tryz.func91, c_impl_SetDrop_ok, ne_name (by kernel_rfl)⟩
  · injection h with h; subst h; exact ⟨_, _, Tryz.func92, c_impl_toldBy_ok, ne_name (by kernel_rfl)⟩
  · injection h with h; subst h; exact ⟨_, _, Tryz.func93, c_laws_eqNodeA16_ok, ne_name (by kernel_rfl)⟩
  · injection h with h; subst h; exact ⟨_, _, Tryz.func94, c_laws_eqIntA8_ok, ne_name (by kernel_rfl)⟩
  · injection h with h; subst h; exact ⟨_, _, Tryz.func95, c_laws_eqTwigA16_ok, ne_name (by kernel_rfl)⟩
  · injection h with h; subst h; exact ⟨_, _, Tryz.func96, c_laws_eqIntS_ok, ne_name (by kernel_rfl)⟩
  · injection h with h; subst h; exact ⟨_, _, Tryz.func97, c_laws_markIntS_ok, ne_name (by kernel_rfl)⟩
  · injection h with h; subst h; exact ⟨_, _, Tryz.func98, c_laws_heldIntS_ok, ne_name (by kernel_rfl)⟩
  · injection h with h; subst h; exact ⟨_, _, Tryz.func99, c_spec_l1Copy_ok, ne_name (by kernel_rfl)⟩
  · injection h with h; subst h; exact ⟨_, _, Tryz.func100, c_spec_l15Keys_ok, ne_name (by kernel_rfl)⟩
  · injection h with h; subst h; exact ⟨_, _, Tryz.func101, c_spec_l16Place_ok, ne_name (by kernel_rfl)⟩
  · injection h with h; subst h; exact ⟨_, _, Tryz.func102, c_spec_l13Walk_ok, ne_name (by kernel_rfl)⟩
  · injection h with h; subst h; exact ⟨_, _, Tryz.func103, c_spec_l15Walk_ok, ne_name (by kernel_rfl)⟩
  · injection h with h; subst h; exact ⟨_, _, Tryz.func104, c_spec_l15Hang_ok, ne_name (by kernel_rfl)⟩
  · injection h with h; subst h; exact ⟨_, _, Tryz.func105, c_spec_SetHas16_ok, ne_name (by kernel_rfl)⟩
  · injection h with h; subst h; exact ⟨_, _, Tryz.func106, c_spec_l16Double_ok, ne_name (by kernel_rfl)⟩
  · injection h with h; subst h; exact ⟨_, _, Tryz.func107, c_spec_l16Put_ok, ne_name (by kernel_rfl)⟩
  · injection h with h; subst h; exact ⟨_, _, Tryz.func108, c_laws_toNode_ok, ne_name (by kernel_rfl)⟩
  · injection h with h; subst h; exact ⟨_, _, Tryz.func109, c_laws_toTwig_ok, ne_name (by kernel_rfl)⟩
  · injection h with h; subst h; exact ⟨_, _, Tryz.func110, c_impl_own_ok, ne_name (by kernel_rfl)⟩
  · injection h with h; subst h; exact ⟨_, _, Tryz.func111, c_impl_areValues_ok, ne_name (by kernel_rfl)⟩
  · injection h with h; subst h; exact ⟨_, _, Tryz.func112, c_impl_Tree_isPart_ok, ne_name (by kernel_rfl)⟩
  · injection h with h; subst h; exact ⟨_, _, Tryz.func113, c_impl_placeOf_ok, ne_name (by kernel_rfl)⟩
  · injection h with h; subst h; exact ⟨_, _, Tryz.func114, c_impl_Chain_walk_ok, ne_name (by kernel_rfl)⟩
  · injection h with h; subst h; exact ⟨_, _, Tryz.func115, c_impl_Chain_has_ok, ne_name (by kernel_rfl)⟩
  · injection h with h; subst h; exact ⟨_, _, Tryz.func116, c_impl_Chain_link_ok, ne_name (by kernel_rfl)⟩
  · injection h with h; subst h; exact ⟨_, _, Tryz.func117, c_impl_Tree_walk_ok, ne_name (by kernel_rfl)⟩
  · injection h with h; subst h; exact ⟨_, _, Tryz.func118, c_impl_setHas_ok, ne_name (by kernel_rfl)⟩
  · injection h with h; subst h; exact ⟨_, _, Tryz.func119, c_impl_bucketed_ok, ne_name (by kernel_rfl)⟩
  · injection h with h; subst h; exact ⟨_, _, Tryz.func120, c_impl_listed_ok, ne_name (by kernel_rfl)⟩
  · injection h with h; subst h; exact ⟨_, _, Tryz.func122, c_slices_DeleteFunc_int_int_ok, ne_name (by kernel_rfl)⟩
  · injection h with h; subst h; exact ⟨_, _, Tryz.func123, c_impl_SetDrop_1_ok, ne_name (by kernel_rfl)⟩
  · injection h with h; subst h; exact ⟨_, _, Tryz.func124, c_laws_eqNode_ok, ne_name (by kernel_rfl)⟩
  · injection h with h; subst h; exact ⟨_, _, Tryz.func125, c_laws_eqTwig_ok, ne_name (by kernel_rfl)⟩
  · injection h with h; subst h; exact ⟨_, _, Tryz.func126, c_spec_l1Has_ok, ne_name (by kernel_rfl)⟩
  · injection h with h; subst h; exact ⟨_, _, Tryz.func127, c_slices_ContainsFunc_int_int_ok, ne_name (by kernel_rfl)⟩
  · injection h with h; subst h; exact ⟨_, _, Tryz.func128, c_impl_areValues_1_ok, ne_name (by kernel_rfl)⟩
  · injection h with h; subst h; exact ⟨_, _, Tryz.func129, c_slices_Contains_int_int_ok, ne_name (by kernel_rfl)⟩
  · injection h with h; subst h; exact ⟨_, _, Tryz.func130, c_slices_Concat_int_int_ok, ne_name (by kernel_rfl)⟩
  · injection h with h; subst h; exact ⟨_, _, Tryz.func133, c_slices_IndexFunc_int_int_ok, ne_name (by kernel_rfl)⟩
  · injection h with h; subst h; exact ⟨_, _, Tryz.func134, c_slices_Index_int_int_ok, ne_name (by kernel_rfl)⟩
  · cases h
end Go.Proofs.YtfbeplbcaanimaaGreat
