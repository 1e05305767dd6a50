/-
  The functions of the program that the laws here reach, in the small language; each is what the translation gives (checked by the kernel).
-/
import Derived.Test.YtdnfcomgdgdifaaTaba
import Derived.Test.YtdnfcomgdgdifaaMD
import Derived.Test.YtdnfcomgdgdifaaProg
import Derived.KernelRfl
set_option linter.unusedVariables false
namespace Go.Proofs.Ytdnfcomgdgdifaa
def c_laws_heldEventS_b0 : IC :=
  (.seq (.seq (.reg false [⟨some 6, none, .mov (.t 5)⟩,
 ⟨some 7, none, .mov (.t 0)⟩,
 ⟨some 8, none, .len (.t 7)⟩,
 ⟨some 9, none, .bin .lss (.t 6) (.t 8)⟩])
 (.cond (.t 9) .skip (.exit 0)))
 (.seq (.block 1 none none
 (.seq (.seq (.reg false [⟨some 12, none, .mov (.t 0)⟩,
 ⟨some 13, none, .mov (.t 5)⟩,
 ⟨some 14, none, .ixs (.t 12) (.t 13) 4⟩,
 ⟨some 15, none, .fld (.t 14) 0⟩,
 ⟨some 16, none, .load1 (.t 15)⟩,
 ⟨some 17, none, .mov (.t 1)⟩,
 ⟨some 18, none, .bin .neq (.t 16) (.t 17)⟩])
 (.cond (.t 18) (.seq (.reg false [⟨some 4, none, .mov (.k (.c (.int .i64 (-1))))⟩])
 (.ret (some [4]))) .skip))
 (.seq (.reg false [⟨some 19, none, .mov (.t 1)⟩,
 ⟨some 20, none, .bin .add (.t 19) (.k (.c (.int .i64 1)))⟩,
 ⟨some 1, none, .mov (.t 20)⟩])
 (.seq (.seq (.reg false [⟨some 21, none, .mov (.t 0)⟩,
 ⟨some 22, none, .mov (.t 5)⟩,
 ⟨some 23, none, .ixs (.t 21) (.t 22) 4⟩,
 ⟨some 24, none, .fld (.t 23) 1⟩,
 ⟨some 25, none, .load1 (.t 24)⟩,
 ⟨some 26, none, .mov (.t 1)⟩,
 ⟨some 27, none, .bin .neq (.t 25) (.t 26)⟩])
 (.cond (.t 27) (.seq (.reg false [⟨some 4, none, .mov (.k (.c (.int .i64 (-1))))⟩])
 (.ret (some [4]))) .skip))
 (.seq (.reg false [⟨some 28, none, .mov (.t 1)⟩,
 ⟨some 29, none, .bin .add (.t 28) (.k (.c (.int .i64 1)))⟩,
 ⟨some 1, none, .mov (.t 29)⟩])
 (.seq (.seq (.reg false [⟨some 30, none, .mov (.t 0)⟩,
 ⟨some 31, none, .mov (.t 5)⟩,
 ⟨some 32, none, .ixs (.t 30) (.t 31) 4⟩,
 ⟨some 33, none, .fld (.t 32) 2⟩,
 ⟨some 34, none, .load1 (.t 33)⟩,
 ⟨some 35, none, .mov (.t 1)⟩,
 ⟨some 36, none, .bin .neq (.t 34) (.t 35)⟩])
 (.cond (.t 36) (.seq (.reg false [⟨some 4, none, .mov (.k (.c (.int .i64 (-1))))⟩])
 (.ret (some [4]))) .skip))
 (.seq (.reg false [⟨some 37, none, .mov (.t 1)⟩,
 ⟨some 38, none, .bin .add (.t 37) (.k (.c (.int .i64 1)))⟩,
 ⟨some 1, none, .mov (.t 38)⟩])
 (.seq (.seq (.reg false [⟨some 39, none, .mov (.t 0)⟩,
 ⟨some 40, none, .mov (.t 5)⟩,
 ⟨some 41, none, .ixs (.t 39) (.t 40) 4⟩,
 ⟨some 42, none, .fld (.t 41) 3⟩,
 ⟨some 43, none, .load1 (.t 42)⟩,
 ⟨some 44, none, .mov (.t 1)⟩,
 ⟨some 45, none, .bin .neq (.t 43) (.t 44)⟩])
 (.cond (.t 45) (.seq (.reg false [⟨some 4, none, .mov (.k (.c (.int .i64 (-1))))⟩])
 (.ret (some [4]))) .skip))
 (.reg false [⟨some 46, none, .mov (.t 1)⟩,
 ⟨some 47, none, .bin .add (.t 46) (.k (.c (.int .i64 1)))⟩,
 ⟨some 1, none, .mov (.t 47)⟩])))))))))
 (.reg false [⟨some 10, none, .mov (.t 5)⟩,
 ⟨some 11, none, .bin .add (.t 10) (.k (.c (.int .i64 1)))⟩,
 ⟨some 5, none, .mov (.t 11)⟩])))
def c_laws_heldEventS : IFn := ⟨49, [.t 4],
  (.seq (.reg false [⟨some 4, none, .mov (.k (.c (.int .i64 0)))⟩])
 (.seq (.seq (.reg false [⟨some 5, none, .mov (.k (.c (.int .i64 0)))⟩])
 (.block 0 (some [0, 1, 5]) (some [1])
 (.loop c_laws_heldEventS_b0)))
 (.seq (.reg false [⟨some 48, none, .mov (.t 1)⟩,
 ⟨some 4, none, .mov (.t 48)⟩])
 (.ret (some [4])))))⟩
theorem c_laws_heldEventS_ok : trF Try.prog ⟨[(0, [0, 1, 5], [1])], [4], false, false⟩ Try.f157 = some c_laws_heldEventS := by kernel_rfl
def c_laws_heldIntSS_b0 : IC :=
  (.seq (.seq (.reg false [⟨some 6, none, .mov (.t 5)⟩,
 ⟨some 7, none, .mov (.t 0)⟩,
 ⟨some 8, none, .len (.t 7)⟩,
 ⟨some 9, none, .bin .lss (.t 6) (.t 8)⟩])
 (.cond (.t 9) .skip (.exit 0)))
 (.seq (.block 1 none none
 (.seq (.reg false [⟨some 12, none, .mov (.t 0)⟩,
 ⟨some 13, none, .mov (.t 5)⟩,
 ⟨some 14, none, .ixs (.t 12) (.t 13) 1⟩,
 ⟨some 15, none, .load1 (.t 14)⟩,
 ⟨some 16, none, .mov (.t 1)⟩,
 ⟨some 17, none, .call 110 [.t 15, .t 16]⟩,
 ⟨some 1, none, .mov (.t 17)⟩])
 (.seq (.reg false [⟨some 18, none, .mov (.t 1)⟩,
 ⟨some 19, none, .bin .lss (.t 18) (.k (.c (.int .i64 0)))⟩])
 (.cond (.t 19) (.seq (.reg false [⟨some 4, none, .mov (.k (.c (.int .i64 (-1))))⟩])
 (.ret (some [4]))) .skip))))
 (.reg false [⟨some 10, none, .mov (.t 5)⟩,
 ⟨some 11, none, .bin .add (.t 10) (.k (.c (.int .i64 1)))⟩,
 ⟨some 5, none, .mov (.t 11)⟩])))
def c_laws_heldIntSS : IFn := ⟨21, [.t 4],
  (.seq (.reg false [⟨some 4, none, .mov (.k (.c (.int .i64 0)))⟩])
 (.seq (.seq (.reg false [⟨some 5, none, .mov (.k (.c (.int .i64 0)))⟩])
 (.block 0 (some [0, 1, 5]) (some [1])
 (.loop c_laws_heldIntSS_b0)))
 (.seq (.reg false [⟨some 20, none, .mov (.t 1)⟩,
 ⟨some 4, none, .mov (.t 20)⟩])
 (.ret (some [4])))))⟩
theorem c_laws_heldIntSS_ok : trF Try.prog ⟨[(0, [0, 1, 5], [1])], [4], false, false⟩ Try.f158 = some c_laws_heldIntSS := by kernel_rfl
def c_spec_l1Byte : IFn := ⟨58, [.t 2],
  (.seq (.reg false [⟨some 2, none, .mov (.k (.c (.int .i64 0)))⟩])
 (.seq (.reg false [⟨some 4, none, .mov (.t 0)⟩,
 ⟨some 5, none, .mov (.t 0)⟩,
 ⟨some 6, none, .chk (.t 5)⟩,
 ⟨some 7, none, .fld (.t 6) 2⟩,
 ⟨some 8, none, .load1 (.t 7)⟩,
 ⟨some 9, none, .bin .mul (.t 8) (.k (.c (.int .i64 6364136223846793005)))⟩,
 ⟨some 10, none, .bin .add (.t 9) (.k (.c (.int .i64 1442695040888963407)))⟩,
 ⟨some 11, none, .chk (.t 4)⟩,
 ⟨some 12, none, .fld (.t 11) 2⟩,
 ⟨none, none, .store (.t 12) (.t 10) 1⟩])
 (.seq (.reg true [⟨some 13, none, .mov (.t 0)⟩,
 ⟨some 14, none, .chk (.t 13)⟩,
 ⟨some 15, none, .fld (.t 14) 2⟩,
 ⟨some 16, none, .load1 (.t 15)⟩,
 ⟨some 17, none, .shf .shr (.t 16) (.k (.c (.int .u64 33)))⟩,
 ⟨some 18, none, .mov (.t 0)⟩,
 ⟨some 19, none, .chk (.t 18)⟩,
 ⟨some 20, none, .fld (.t 19) 2⟩,
 ⟨some 21, none, .load1 (.t 20)⟩,
 ⟨some 22, none, .shf .shr (.t 21) (.k (.c (.int .u64 45)))⟩,
 ⟨some 23, none, .bin .xor (.t 17) (.t 22)⟩,
 ⟨some 24, none, .bin .and (.t 23) (.k (.c (.int .i64 255)))⟩,
 ⟨some 3, none, .mov (.t 24)⟩])
 (.seq (.seq (.reg true [⟨some 25, none, .mov (.t 0)⟩,
 ⟨some 26, none, .chk (.t 25)⟩,
 ⟨some 27, none, .fld (.t 26) 1⟩,
 ⟨some 28, none, .load1 (.t 27)⟩,
 ⟨some 29, none, .mov (.t 0)⟩,
 ⟨some 30, none, .chk (.t 29)⟩,
 ⟨some 31, none, .fld (.t 30) 0⟩,
 ⟨some 32, none, .load1 (.t 31)⟩,
 ⟨some 33, none, .len (.t 32)⟩,
 ⟨some 34, none, .bin .lss (.t 28) (.t 33)⟩])
 (.cond (.t 34) (.seq (.reg true [⟨some 35, none, .mov (.t 3)⟩,
 ⟨some 36, none, .mov (.t 0)⟩,
 ⟨some 37, none, .chk (.t 36)⟩,
 ⟨some 38, none, .fld (.t 37) 0⟩,
 ⟨some 39, none, .load1 (.t 38)⟩,
 ⟨some 40, none, .mov (.t 0)⟩,
 ⟨some 41, none, .chk (.t 40)⟩,
 ⟨some 42, none, .fld (.t 41) 1⟩,
 ⟨some 43, none, .load1 (.t 42)⟩,
 ⟨some 44, none, .ixs (.t 39) (.t 43) 1⟩,
 ⟨some 45, none, .load1 (.t 44)⟩,
 ⟨some 46, none, .cvt .i64 (.t 45)⟩,
 ⟨some 47, none, .bin .add (.t 35) (.t 46)⟩,
 ⟨some 48, none, .bin .and (.t 47) (.k (.c (.int .i64 255)))⟩,
 ⟨some 3, none, .mov (.t 48)⟩])
 (.reg false [⟨some 49, none, .mov (.t 0)⟩,
 ⟨some 50, none, .mov (.t 0)⟩,
 ⟨some 51, none, .chk (.t 50)⟩,
 ⟨some 52, none, .fld (.t 51) 1⟩,
 ⟨some 53, none, .load1 (.t 52)⟩,
 ⟨some 54, none, .bin .add (.t 53) (.k (.c (.int .i64 1)))⟩,
 ⟨some 55, none, .chk (.t 49)⟩,
 ⟨some 56, none, .fld (.t 55) 1⟩,
 ⟨none, none, .store (.t 56) (.t 54) 1⟩])) .skip))
 (.seq (.reg false [⟨some 57, none, .mov (.t 3)⟩,
 ⟨some 2, none, .mov (.t 57)⟩])
 (.ret (some [2])))))))⟩
theorem c_spec_l1Byte_ok : trF Try.prog ⟨[], [2], false, false⟩ Try.f159 = some c_spec_l1Byte := by kernel_rfl
def c_laws_toNode : IFn := ⟨17, [.cell 2 4 true],
  (.seq (.reg false [⟨some 1, none, .box (.t 0) 80⟩,
 ⟨some 2, none, .alloc [.bool false, .int .i64 0, .int .i64 0, .int .i64 0] 54⟩])
 (.seq (.reg false [⟨some 3, none, .alloc [.bool false, .int .i64 0, .int .i64 0, .int .i64 0] 54⟩])
 (.seq (.reg false [⟨some 4, none, .fld (.t 1) 0⟩,
 ⟨some 5, none, .load1 (.t 4)⟩,
 ⟨some 6, none, .fld (.t 3) 0⟩,
 ⟨none, none, .store (.t 6) (.t 5) 1⟩])
 (.seq (.reg false [⟨some 7, none, .fld (.t 1) 1⟩,
 ⟨some 8, none, .load1 (.t 7)⟩,
 ⟨some 9, none, .fld (.t 3) 1⟩,
 ⟨none, none, .store (.t 9) (.t 8) 1⟩])
 (.seq (.reg false [⟨some 10, none, .fld (.t 1) 2⟩,
 ⟨some 11, none, .load1 (.t 10)⟩,
 ⟨some 12, none, .fld (.t 3) 2⟩,
 ⟨none, none, .store (.t 12) (.t 11) 1⟩])
 (.seq (.reg false [⟨some 13, none, .fld (.t 1) 3⟩,
 ⟨some 14, none, .load1 (.t 13)⟩,
 ⟨some 15, none, .fld (.t 3) 3⟩,
 ⟨none, none, .store (.t 15) (.t 14) 1⟩])
 (.seq (.reg false [⟨some 16, none, .loadN (.t 3) 4⟩,
 ⟨none, none, .store (.t 2) (.t 16) 4⟩])
 (.ret (some [2])))))))))⟩
theorem c_laws_toNode_ok : trF Try.prog ⟨[], [2], false, false⟩ Try.f161 = some c_laws_toNode := by kernel_rfl
def c_laws_eqNode : IFn := ⟨25, [.t 4],
  (.seq (.reg false [⟨some 2, none, .box (.t 0) 54⟩,
 ⟨some 3, none, .box (.t 1) 54⟩,
 ⟨some 4, none, .mov (.k (.c (.bool false)))⟩])
 (.seq (.seq (.reg false [⟨some 5, none, .fld (.t 2) 0⟩,
 ⟨some 6, none, .load1 (.t 5)⟩,
 ⟨some 7, none, .fld (.t 3) 0⟩,
 ⟨some 8, none, .load1 (.t 7)⟩,
 ⟨some 9, none, .binb true (.t 6) (.t 8)⟩])
 (.cond (.t 9) (.seq (.reg false [⟨some 4, none, .mov (.k (.c (.bool false)))⟩])
 (.ret (some [4]))) .skip))
 (.seq (.seq (.reg false [⟨some 10, none, .fld (.t 2) 1⟩,
 ⟨some 11, none, .load1 (.t 10)⟩,
 ⟨some 12, none, .fld (.t 3) 1⟩,
 ⟨some 13, none, .load1 (.t 12)⟩,
 ⟨some 14, none, .bin .neq (.t 11) (.t 13)⟩])
 (.cond (.t 14) (.seq (.reg false [⟨some 4, none, .mov (.k (.c (.bool false)))⟩])
 (.ret (some [4]))) .skip))
 (.seq (.seq (.reg false [⟨some 15, none, .fld (.t 2) 2⟩,
 ⟨some 16, none, .load1 (.t 15)⟩,
 ⟨some 17, none, .fld (.t 3) 2⟩,
 ⟨some 18, none, .load1 (.t 17)⟩,
 ⟨some 19, none, .bin .neq (.t 16) (.t 18)⟩])
 (.cond (.t 19) (.seq (.reg false [⟨some 4, none, .mov (.k (.c (.bool false)))⟩])
 (.ret (some [4]))) .skip))
 (.seq (.seq (.reg false [⟨some 20, none, .fld (.t 2) 3⟩,
 ⟨some 21, none, .load1 (.t 20)⟩,
 ⟨some 22, none, .fld (.t 3) 3⟩,
 ⟨some 23, none, .load1 (.t 22)⟩,
 ⟨some 24, none, .bin .neq (.t 21) (.t 23)⟩])
 (.cond (.t 24) (.seq (.reg false [⟨some 4, none, .mov (.k (.c (.bool false)))⟩])
 (.ret (some [4]))) .skip))
 (.seq (.reg false [⟨some 4, none, .mov (.k (.c (.bool true)))⟩])
 (.ret (some [4]))))))))⟩
theorem c_laws_eqNode_ok : trF Try.prog ⟨[], [4], false, false⟩ Try.f162 = some c_laws_eqNode := by kernel_rfl
def c_spec_l16Copy_b0 : IC :=
  (.seq (.seq (.reg false [⟨some 6, none, .mov (.t 4)⟩,
 ⟨some 7, none, .mov (.t 0)⟩,
 ⟨some 8, none, .len (.t 7)⟩,
 ⟨some 9, none, .bin .lss (.t 6) (.t 8)⟩])
 (.cond (.t 9) .skip (.exit 0)))
 (.seq (.block 1 none none
 (.reg false [⟨some 12, none, .mov (.t 3)⟩,
 ⟨some 13, none, .mov (.t 0)⟩,
 ⟨some 14, none, .mov (.t 4)⟩,
 ⟨some 15, none, .ixs (.t 13) (.t 14) 1⟩,
 ⟨some 16, none, .load1 (.t 15)⟩,
 ⟨some 17, none, .call 193 [.t 16]⟩,
 ⟨some 18, none, .lit 1 1 [.nils] [(0, .t 17)] 28⟩,
 ⟨some 19, none, .app (.t 12) (.t 18) 28 1 24⟩,
 ⟨some 3, none, .mov (.t 19)⟩]))
 (.reg false [⟨some 10, none, .mov (.t 4)⟩,
 ⟨some 11, none, .bin .add (.t 10) (.k (.c (.int .i64 1)))⟩,
 ⟨some 4, none, .mov (.t 11)⟩])))
def c_spec_l16Copy : IFn := ⟨21, [.t 2],
  (.seq (.reg false [⟨some 2, none, .mov (.k (.c .nils))⟩])
 (.seq (.reg false [⟨some 5, none, .lit 0 1 [.nils] [] 28⟩,
 ⟨some 3, none, .mov (.t 5)⟩])
 (.seq (.seq (.reg false [⟨some 4, none, .mov (.k (.c (.int .i64 0)))⟩])
 (.block 0 (some [0, 3, 4]) (some [3])
 (.loop c_spec_l16Copy_b0)))
 (.seq (.reg false [⟨some 20, none, .mov (.t 3)⟩,
 ⟨some 2, none, .mov (.t 20)⟩])
 (.ret (some [2]))))))⟩
theorem c_spec_l16Copy_ok : trF Try.prog ⟨[(0, [0, 3, 4], [3])], [2], false, false⟩ Try.f163 = some c_spec_l16Copy := by kernel_rfl
def c_spec_SetHas16 : IFn := ⟨18, [.t 4],
  (.seq (.reg false [⟨some 4, none, .mov (.k (.c (.bool false)))⟩])
 (.seq (.reg false [⟨some 5, none, .mov (.t 0)⟩,
 ⟨some 6, none, .call 84 [.t 5]⟩,
 ⟨some 7, none, .mov (.t 6)⟩,
 ⟨some 8, some (7, true), .mov (.t 0)⟩,
 ⟨some 9, some (7, true), .mov (.t 1)⟩,
 ⟨some 10, some (7, true), .mov (.t 0)⟩,
 ⟨some 11, some (7, true), .len (.t 10)⟩,
 ⟨some 12, some (7, true), .call 130 [.t 9, .t 11]⟩,
 ⟨some 13, some (7, true), .ixs (.t 8) (.t 12) 1⟩,
 ⟨some 14, some (7, true), .load1 (.t 13)⟩,
 ⟨some 15, some (7, true), .mov (.t 1)⟩,
 ⟨some 16, some (7, true), .call 194 [.t 14, .t 15]⟩,
 ⟨some 17, none, .pick (.t 7) (.t 16) (.k (.c (.bool false)))⟩,
 ⟨some 4, none, .mov (.t 17)⟩])
 (.ret (some [4]))))⟩
theorem c_spec_SetHas16_ok : trF Try.prog ⟨[], [4], false, false⟩ Try.f164 = some c_spec_SetHas16 := by kernel_rfl
def c_spec_l16Double_b1 : IC :=
  (.seq (.seq (.reg false [⟨some 17, none, .mov (.t 5)⟩,
 ⟨some 18, none, .mov (.t 0)⟩,
 ⟨some 19, none, .mov (.t 4)⟩,
 ⟨some 20, none, .ixs (.t 18) (.t 19) 1⟩,
 ⟨some 21, none, .load1 (.t 20)⟩,
 ⟨some 22, none, .len (.t 21)⟩,
 ⟨some 23, none, .bin .lss (.t 17) (.t 22)⟩])
 (.cond (.t 23) .skip (.exit 2)))
 (.seq (.block 3 none none
 (.seq (.reg false [⟨some 26, none, .mov (.t 0)⟩,
 ⟨some 27, none, .mov (.t 4)⟩,
 ⟨some 28, none, .ixs (.t 26) (.t 27) 1⟩,
 ⟨some 29, none, .load1 (.t 28)⟩,
 ⟨some 30, none, .mov (.t 5)⟩,
 ⟨some 31, none, .ixs (.t 29) (.t 30) 1⟩,
 ⟨some 32, none, .load1 (.t 31)⟩,
 ⟨some 33, none, .mov (.t 3)⟩,
 ⟨some 34, none, .len (.t 33)⟩,
 ⟨some 35, none, .call 130 [.t 32, .t 34]⟩,
 ⟨some 6, none, .mov (.t 35)⟩])
 (.regE 0 [⟨⟨some 36, none, .mov (.t 3)⟩, 0, 0, false, []⟩,
 ⟨⟨some 37, none, .mov (.t 6)⟩, 1, 0, false, []⟩,
 ⟨⟨some 38, none, .mov (.t 3)⟩, 2, 0, false, []⟩,
 ⟨⟨some 39, none, .mov (.t 6)⟩, 3, 0, false, []⟩,
 ⟨⟨some 40, none, .ixs (.t 38) (.t 39) 1⟩, 4, 0, false, []⟩,
 ⟨⟨some 41, none, .load1 (.t 40)⟩, 5, 0, false, []⟩,
 ⟨⟨some 42, none, .mov (.t 0)⟩, 6, 0, false, []⟩,
 ⟨⟨some 43, none, .mov (.t 4)⟩, 7, 0, false, []⟩,
 ⟨⟨some 44, none, .ixs (.t 42) (.t 43) 1⟩, 8, 0, false, []⟩,
 ⟨⟨some 45, none, .load1 (.t 44)⟩, 9, 0, false, []⟩,
 ⟨⟨some 46, none, .mov (.t 5)⟩, 10, 0, false, []⟩,
 ⟨⟨some 47, none, .ixs (.t 45) (.t 46) 1⟩, 11, 0, false, []⟩,
 ⟨⟨some 48, none, .load1 (.t 47)⟩, 12, 0, false, []⟩,
 ⟨⟨some 49, none, .call 166 [.t 41, .t 48]⟩, 13, 0, false, []⟩,
 ⟨⟨some 50, none, .ixs (.t 36) (.t 37) 1⟩, 14, 0, false, []⟩,
 ⟨⟨none, none, .store (.t 50) (.t 49) 1⟩, 15, 0, false, []⟩])))
 (.reg false [⟨some 24, none, .mov (.t 5)⟩,
 ⟨some 25, none, .bin .add (.t 24) (.k (.c (.int .i64 1)))⟩,
 ⟨some 5, none, .mov (.t 25)⟩])))
def c_spec_l16Double_b0 : IC :=
  (.seq (.seq (.reg false [⟨some 11, none, .mov (.t 4)⟩,
 ⟨some 12, none, .mov (.t 0)⟩,
 ⟨some 13, none, .len (.t 12)⟩,
 ⟨some 14, none, .bin .lss (.t 11) (.t 13)⟩])
 (.cond (.t 14) .skip (.exit 0)))
 (.seq (.block 1 none none
 (.seq (.reg false [⟨some 5, none, .mov (.k (.c (.int .i64 0)))⟩])
 (.block 2 (some [0, 3, 4, 5]) (some [0, 3, 4])
 (.loop c_spec_l16Double_b1))))
 (.reg false [⟨some 15, none, .mov (.t 4)⟩,
 ⟨some 16, none, .bin .add (.t 15) (.k (.c (.int .i64 1)))⟩,
 ⟨some 4, none, .mov (.t 16)⟩])))
def c_spec_l16Double : IFn := ⟨52, [.t 2],
  (.seq (.reg false [⟨some 2, none, .mov (.k (.c .nils))⟩])
 (.seq (.reg false [⟨some 7, none, .mov (.t 0)⟩,
 ⟨some 8, none, .len (.t 7)⟩,
 ⟨some 9, none, .bin .mul (.k (.c (.int .i64 2))) (.t 8)⟩,
 ⟨some 10, none, .mks (.t 9) [.nils] 28 24⟩,
 ⟨some 3, none, .mov (.t 10)⟩])
 (.seq (.seq (.reg false [⟨some 4, none, .mov (.k (.c (.int .i64 0)))⟩])
 (.block 0 (some [0, 3, 4]) (some [3])
 (.loop c_spec_l16Double_b0)))
 (.seq (.reg false [⟨some 51, none, .mov (.t 3)⟩,
 ⟨some 2, none, .mov (.t 51)⟩])
 (.ret (some [2]))))))⟩
theorem c_spec_l16Double_ok : trF Try.prog ⟨[(0, [0, 3, 4], [3]), (2, [0, 3, 4, 5], [0, 3, 4])], [2], false, false⟩ Try.f165 = some c_spec_l16Double := by kernel_rfl
def c_spec_l16Put_b0 : IC :=
  (.seq (.seq (.reg false [⟨some 7, none, .mov (.t 5)⟩,
 ⟨some 8, none, .mov (.t 0)⟩,
 ⟨some 9, none, .len (.t 8)⟩,
 ⟨some 10, none, .bin .lss (.t 7) (.t 9)⟩,
 ⟨some 11, none, .mov (.t 10)⟩,
 ⟨some 12, some (11, true), .mov (.t 0)⟩,
 ⟨some 13, some (11, true), .mov (.t 5)⟩,
 ⟨some 14, some (11, true), .ixs (.t 12) (.t 13) 1⟩,
 ⟨some 15, some (11, true), .load1 (.t 14)⟩,
 ⟨some 16, some (11, true), .mov (.t 1)⟩,
 ⟨some 17, some (11, true), .bin .lss (.t 15) (.t 16)⟩,
 ⟨some 18, none, .pick (.t 11) (.t 17) (.k (.c (.bool false)))⟩])
 (.cond (.t 18) .skip (.exit 0)))
 (.block 1 none none
 (.reg false [⟨some 19, none, .mov (.t 5)⟩,
 ⟨some 20, none, .bin .add (.t 19) (.k (.c (.int .i64 1)))⟩,
 ⟨some 5, none, .mov (.t 20)⟩])))
def c_spec_l16Put : IFn := ⟨34, [.t 4],
  (.seq (.reg false [⟨some 4, none, .mov (.k (.c .nils))⟩])
 (.seq (.reg false [⟨some 5, none, .mov (.k (.c (.int .i64 0)))⟩])
 (.seq (.block 0 (some [0, 1, 5]) (some [0, 1, 5])
 (.loop c_spec_l16Put_b0))
 (.seq (.reg false [⟨some 21, none, .mov (.t 1)⟩,
 ⟨some 22, none, .lit 1 1 [.int .i64 0] [(0, .t 21)] 3⟩,
 ⟨some 23, none, .mov (.t 0)⟩,
 ⟨some 24, none, .mov (.t 5)⟩,
 ⟨some 25, none, .sls (.t 23) 1 (some (.t 24)) none⟩,
 ⟨some 26, none, .app (.t 22) (.t 25) 3 1 8⟩,
 ⟨some 6, none, .mov (.t 26)⟩])
 (.seq (.reg false [⟨some 27, none, .lit 0 1 [.int .i64 0] [] 3⟩,
 ⟨some 28, none, .mov (.t 0)⟩,
 ⟨some 29, none, .mov (.t 5)⟩,
 ⟨some 30, none, .sls (.t 28) 1 none (some (.t 29))⟩,
 ⟨some 31, none, .app (.t 27) (.t 30) 3 1 8⟩,
 ⟨some 32, none, .mov (.t 6)⟩,
 ⟨some 33, none, .app (.t 31) (.t 32) 3 1 8⟩,
 ⟨some 4, none, .mov (.t 33)⟩])
 (.ret (some [4])))))))⟩
theorem c_spec_l16Put_ok : trF Try.prog ⟨[(0, [0, 1, 5], [0, 1, 5])], [4], false, false⟩ Try.f166 = some c_spec_l16Put := by kernel_rfl
def c_slices_Index_int_int_b0 : IC :=
  (.seq (.reg false [⟨some 9, none, .bin .lss (.t 8) (.t 7)⟩])
 (.seq (.cond (.t 9) .skip (.exit 0))
 (.seq (.block 1 none none
 (.seq (.reg false [⟨some 10, none, .mov (.t 8)⟩,
 ⟨some 5, none, .mov (.t 10)⟩])
 (.seq (.reg false [⟨some 11, none, .mov (.t 1)⟩,
 ⟨some 12, none, .mov (.t 0)⟩,
 ⟨some 13, none, .mov (.t 5)⟩,
 ⟨some 14, none, .ixs (.t 12) (.t 13) 1⟩,
 ⟨some 15, none, .load1 (.t 14)⟩,
 ⟨some 16, none, .bin .eql (.t 11) (.t 15)⟩])
 (.cond (.t 16) (.seq (.reg false [⟨some 17, none, .mov (.t 5)⟩,
 ⟨some 4, none, .mov (.t 17)⟩])
 (.ret (some [4]))) .skip))))
 (.reg false [⟨some 18, none, .bin .add (.t 8) (.k (.c (.int .i64 1)))⟩,
 ⟨some 8, none, .mov (.t 18)⟩]))))
def c_slices_Index_int_int : IFn := ⟨19, [.t 4],
  (.seq (.reg false [⟨some 4, none, .mov (.k (.c (.int .i64 0)))⟩])
 (.seq (.seq (.reg false [⟨some 6, none, .mov (.t 0)⟩,
 ⟨some 7, none, .len (.t 6)⟩,
 ⟨some 8, none, .mov (.k (.c (.int .i64 0)))⟩])
 (.block 0 (some [0, 1, 7, 8]) (some [])
 (.loop c_slices_Index_int_int_b0)))
 (.seq (.reg false [⟨some 4, none, .mov (.k (.c (.int .i64 (-1))))⟩])
 (.ret (some [4])))))⟩
theorem c_slices_Index_int_int_ok : trF Try.prog ⟨[(0, [0, 1, 7, 8], [])], [4], false, false⟩ Try.f168 = some c_slices_Index_int_int := by kernel_rfl
def c_laws_eqInstr : IFn := ⟨20, [.t 4],
  (.seq (.reg false [⟨some 2, none, .box (.t 0) 214⟩,
 ⟨some 3, none, .box (.t 1) 214⟩,
 ⟨some 4, none, .mov (.k (.c (.bool false)))⟩])
 (.seq (.seq (.reg false [⟨some 5, none, .fld (.t 2) 0⟩,
 ⟨some 6, none, .load1 (.t 5)⟩,
 ⟨some 7, none, .fld (.t 3) 0⟩,
 ⟨some 8, none, .load1 (.t 7)⟩,
 ⟨some 9, none, .bin .neq (.t 6) (.t 8)⟩])
 (.cond (.t 9) (.seq (.reg false [⟨some 4, none, .mov (.k (.c (.bool false)))⟩])
 (.ret (some [4]))) .skip))
 (.seq (.seq (.reg false [⟨some 10, none, .fld (.t 2) 1⟩,
 ⟨some 11, none, .load1 (.t 10)⟩,
 ⟨some 12, none, .fld (.t 3) 1⟩,
 ⟨some 13, none, .load1 (.t 12)⟩,
 ⟨some 14, none, .bin .neq (.t 11) (.t 13)⟩])
 (.cond (.t 14) (.seq (.reg false [⟨some 4, none, .mov (.k (.c (.bool false)))⟩])
 (.ret (some [4]))) .skip))
 (.seq (.seq (.reg false [⟨some 15, none, .fld (.t 2) 2⟩,
 ⟨some 16, none, .load1 (.t 15)⟩,
 ⟨some 17, none, .fld (.t 3) 2⟩,
 ⟨some 18, none, .load1 (.t 17)⟩,
 ⟨some 19, none, .bin .neq (.t 16) (.t 18)⟩])
 (.cond (.t 19) (.seq (.reg false [⟨some 4, none, .mov (.k (.c (.bool false)))⟩])
 (.ret (some [4]))) .skip))
 (.seq (.reg false [⟨some 4, none, .mov (.k (.c (.bool true)))⟩])
 (.ret (some [4])))))))⟩
theorem c_laws_eqInstr_ok : trF Try.prog ⟨[], [4], false, false⟩ Try.f180 = some c_laws_eqInstr := by kernel_rfl
def c_laws_eqHeadS_b0 : IC :=
  (.seq (.seq (.reg false [⟨some 11, none, .mov (.t 5)⟩,
 ⟨some 12, none, .mov (.t 0)⟩,
 ⟨some 13, none, .len (.t 12)⟩,
 ⟨some 14, none, .bin .lss (.t 11) (.t 13)⟩])
 (.cond (.t 14) .skip (.exit 0)))
 (.seq (.block 1 none none
 (.seq (.reg true [⟨some 17, none, .mov (.t 0)⟩,
 ⟨some 18, none, .mov (.t 5)⟩,
 ⟨some 19, none, .ixs (.t 17) (.t 18) 3⟩,
 ⟨some 20, none, .loadN (.t 19) 3⟩,
 ⟨some 21, none, .mov (.t 1)⟩,
 ⟨some 22, none, .mov (.t 5)⟩,
 ⟨some 23, none, .ixs (.t 21) (.t 22) 3⟩,
 ⟨some 24, none, .loadN (.t 23) 3⟩,
 ⟨some 25, none, .call 201 [.t 20, .t 24]⟩,
 ⟨some 26, none, .un .not (.t 25)⟩])
 (.cond (.t 26) (.seq (.reg false [⟨some 4, none, .mov (.k (.c (.bool false)))⟩])
 (.ret (some [4]))) .skip)))
 (.reg false [⟨some 15, none, .mov (.t 5)⟩,
 ⟨some 16, none, .bin .add (.t 15) (.k (.c (.int .i64 1)))⟩,
 ⟨some 5, none, .mov (.t 16)⟩])))
def c_laws_eqHeadS : IFn := ⟨27, [.t 4],
  (.seq (.reg false [⟨some 4, none, .mov (.k (.c (.bool false)))⟩])
 (.seq (.seq (.reg false [⟨some 6, none, .mov (.t 0)⟩,
 ⟨some 7, none, .len (.t 6)⟩,
 ⟨some 8, none, .mov (.t 1)⟩,
 ⟨some 9, none, .len (.t 8)⟩,
 ⟨some 10, none, .bin .neq (.t 7) (.t 9)⟩])
 (.cond (.t 10) (.seq (.reg false [⟨some 4, none, .mov (.k (.c (.bool false)))⟩])
 (.ret (some [4]))) .skip))
 (.seq (.seq (.reg false [⟨some 5, none, .mov (.k (.c (.int .i64 0)))⟩])
 (.block 0 (some [0, 1, 5]) (some [])
 (.loop c_laws_eqHeadS_b0)))
 (.seq (.reg false [⟨some 4, none, .mov (.k (.c (.bool true)))⟩])
 (.ret (some [4]))))))⟩
theorem c_laws_eqHeadS_ok : trF Try.prog ⟨[(0, [0, 1, 5], [])], [4], false, false⟩ Try.f181 = some c_laws_eqHeadS := by kernel_rfl
def c_laws_eqDescS_b0 : IC :=
  (.seq (.seq (.reg false [⟨some 11, none, .mov (.t 5)⟩,
 ⟨some 12, none, .mov (.t 0)⟩,
 ⟨some 13, none, .len (.t 12)⟩,
 ⟨some 14, none, .bin .lss (.t 11) (.t 13)⟩])
 (.cond (.t 14) .skip (.exit 0)))
 (.seq (.block 1 none none
 (.seq (.reg true [⟨some 17, none, .mov (.t 0)⟩,
 ⟨some 18, none, .mov (.t 5)⟩,
 ⟨some 19, none, .ixs (.t 17) (.t 18) 3⟩,
 ⟨some 20, none, .loadN (.t 19) 3⟩,
 ⟨some 21, none, .mov (.t 1)⟩,
 ⟨some 22, none, .mov (.t 5)⟩,
 ⟨some 23, none, .ixs (.t 21) (.t 22) 3⟩,
 ⟨some 24, none, .loadN (.t 23) 3⟩,
 ⟨some 25, none, .call 202 [.t 20, .t 24]⟩,
 ⟨some 26, none, .un .not (.t 25)⟩])
 (.cond (.t 26) (.seq (.reg false [⟨some 4, none, .mov (.k (.c (.bool false)))⟩])
 (.ret (some [4]))) .skip)))
 (.reg false [⟨some 15, none, .mov (.t 5)⟩,
 ⟨some 16, none, .bin .add (.t 15) (.k (.c (.int .i64 1)))⟩,
 ⟨some 5, none, .mov (.t 16)⟩])))
def c_laws_eqDescS : IFn := ⟨27, [.t 4],
  (.seq (.reg false [⟨some 4, none, .mov (.k (.c (.bool false)))⟩])
 (.seq (.seq (.reg false [⟨some 6, none, .mov (.t 0)⟩,
 ⟨some 7, none, .len (.t 6)⟩,
 ⟨some 8, none, .mov (.t 1)⟩,
 ⟨some 9, none, .len (.t 8)⟩,
 ⟨some 10, none, .bin .neq (.t 7) (.t 9)⟩])
 (.cond (.t 10) (.seq (.reg false [⟨some 4, none, .mov (.k (.c (.bool false)))⟩])
 (.ret (some [4]))) .skip))
 (.seq (.seq (.reg false [⟨some 5, none, .mov (.k (.c (.int .i64 0)))⟩])
 (.block 0 (some [0, 1, 5]) (some [])
 (.loop c_laws_eqDescS_b0)))
 (.seq (.reg false [⟨some 4, none, .mov (.k (.c (.bool true)))⟩])
 (.ret (some [4]))))))⟩
theorem c_laws_eqDescS_ok : trF Try.prog ⟨[(0, [0, 1, 5], [])], [4], false, false⟩ Try.f182 = some c_laws_eqDescS := by kernel_rfl
def c_laws_eqThread : IFn := ⟨64, [.t 4],
  (.seq (.reg false [⟨some 2, none, .box (.t 0) 222⟩,
 ⟨some 3, none, .box (.t 1) 222⟩,
 ⟨some 4, none, .mov (.k (.c (.bool false)))⟩])
 (.seq (.seq (.reg false [⟨some 5, none, .fld (.t 2) 0⟩,
 ⟨some 6, none, .load1 (.t 5)⟩,
 ⟨some 7, none, .fld (.t 3) 0⟩,
 ⟨some 8, none, .load1 (.t 7)⟩,
 ⟨some 9, none, .bin .neq (.t 6) (.t 8)⟩])
 (.cond (.t 9) (.seq (.reg false [⟨some 4, none, .mov (.k (.c (.bool false)))⟩])
 (.ret (some [4]))) .skip))
 (.seq (.seq (.reg false [⟨some 10, none, .fld (.t 2) 1⟩,
 ⟨some 11, none, .load1 (.t 10)⟩,
 ⟨some 12, none, .fld (.t 3) 1⟩,
 ⟨some 13, none, .load1 (.t 12)⟩,
 ⟨some 14, none, .call 145 [.t 11, .t 13]⟩,
 ⟨some 15, none, .un .not (.t 14)⟩])
 (.cond (.t 15) (.seq (.reg false [⟨some 4, none, .mov (.k (.c (.bool false)))⟩])
 (.ret (some [4]))) .skip))
 (.seq (.seq (.reg false [⟨some 16, none, .fld (.t 2) 2⟩,
 ⟨some 17, none, .load1 (.t 16)⟩,
 ⟨some 18, none, .fld (.t 3) 2⟩,
 ⟨some 19, none, .load1 (.t 18)⟩,
 ⟨some 20, none, .bin .neq (.t 17) (.t 19)⟩])
 (.cond (.t 20) (.seq (.reg false [⟨some 4, none, .mov (.k (.c (.bool false)))⟩])
 (.ret (some [4]))) .skip))
 (.seq (.seq (.reg false [⟨some 21, none, .fld (.t 2) 3⟩,
 ⟨some 22, none, .loadN (.t 21) 4⟩,
 ⟨some 23, none, .fld (.t 3) 3⟩,
 ⟨some 24, none, .loadN (.t 23) 4⟩,
 ⟨some 25, none, .call 203 [.t 22, .t 24]⟩,
 ⟨some 26, none, .un .not (.t 25)⟩])
 (.cond (.t 26) (.seq (.reg false [⟨some 4, none, .mov (.k (.c (.bool false)))⟩])
 (.ret (some [4]))) .skip))
 (.seq (.seq (.reg false [⟨some 27, none, .fld (.t 2) 7⟩,
 ⟨some 28, none, .load1 (.t 27)⟩,
 ⟨some 29, none, .fld (.t 3) 7⟩,
 ⟨some 30, none, .load1 (.t 29)⟩,
 ⟨some 31, none, .call 204 [.t 28, .t 30]⟩,
 ⟨some 32, none, .un .not (.t 31)⟩])
 (.cond (.t 32) (.seq (.reg false [⟨some 4, none, .mov (.k (.c (.bool false)))⟩])
 (.ret (some [4]))) .skip))
 (.seq (.seq (.reg false [⟨some 33, none, .fld (.t 2) 8⟩,
 ⟨some 34, none, .load1 (.t 33)⟩,
 ⟨some 35, none, .fld (.t 3) 8⟩,
 ⟨some 36, none, .load1 (.t 35)⟩,
 ⟨some 37, none, .bin .neq (.t 34) (.t 36)⟩])
 (.cond (.t 37) (.seq (.reg false [⟨some 4, none, .mov (.k (.c (.bool false)))⟩])
 (.ret (some [4]))) .skip))
 (.seq (.seq (.reg false [⟨some 38, none, .fld (.t 2) 9⟩,
 ⟨some 39, none, .load1 (.t 38)⟩,
 ⟨some 40, none, .fld (.t 3) 9⟩,
 ⟨some 41, none, .load1 (.t 40)⟩,
 ⟨some 42, none, .call 205 [.t 39, .t 41]⟩,
 ⟨some 43, none, .un .not (.t 42)⟩])
 (.cond (.t 43) (.seq (.reg false [⟨some 4, none, .mov (.k (.c (.bool false)))⟩])
 (.ret (some [4]))) .skip))
 (.seq (.seq (.reg false [⟨some 44, none, .fld (.t 2) 10⟩,
 ⟨some 45, none, .load1 (.t 44)⟩,
 ⟨some 46, none, .fld (.t 3) 10⟩,
 ⟨some 47, none, .load1 (.t 46)⟩,
 ⟨some 48, none, .bin .neq (.t 45) (.t 47)⟩])
 (.cond (.t 48) (.seq (.reg false [⟨some 4, none, .mov (.k (.c (.bool false)))⟩])
 (.ret (some [4]))) .skip))
 (.seq (.seq (.reg false [⟨some 49, none, .fld (.t 2) 11⟩,
 ⟨some 50, none, .load1 (.t 49)⟩,
 ⟨some 51, none, .fld (.t 3) 11⟩,
 ⟨some 52, none, .load1 (.t 51)⟩,
 ⟨some 53, none, .bin .neq (.t 50) (.t 52)⟩])
 (.cond (.t 53) (.seq (.reg false [⟨some 4, none, .mov (.k (.c (.bool false)))⟩])
 (.ret (some [4]))) .skip))
 (.seq (.seq (.reg false [⟨some 54, none, .fld (.t 2) 12⟩,
 ⟨some 55, none, .load1 (.t 54)⟩,
 ⟨some 56, none, .fld (.t 3) 12⟩,
 ⟨some 57, none, .load1 (.t 56)⟩,
 ⟨some 58, none, .bin .neq (.t 55) (.t 57)⟩])
 (.cond (.t 58) (.seq (.reg false [⟨some 4, none, .mov (.k (.c (.bool false)))⟩])
 (.ret (some [4]))) .skip))
 (.seq (.seq (.reg false [⟨some 59, none, .fld (.t 2) 13⟩,
 ⟨some 60, none, .load1 (.t 59)⟩,
 ⟨some 61, none, .fld (.t 3) 13⟩,
 ⟨some 62, none, .load1 (.t 61)⟩,
 ⟨some 63, none, .bin .neq (.t 60) (.t 62)⟩])
 (.cond (.t 63) (.seq (.reg false [⟨some 4, none, .mov (.k (.c (.bool false)))⟩])
 (.ret (some [4]))) .skip))
 (.seq (.reg false [⟨some 4, none, .mov (.k (.c (.bool true)))⟩])
 (.ret (some [4])))))))))))))))⟩
theorem c_laws_eqThread_ok : trF Try.prog ⟨[], [4], false, false⟩ Try.f183 = some c_laws_eqThread := by kernel_rfl
def c_laws_eqEvent : IFn := ⟨25, [.t 4],
  (.seq (.reg false [⟨some 2, none, .box (.t 0) 225⟩,
 ⟨some 3, none, .box (.t 1) 225⟩,
 ⟨some 4, none, .mov (.k (.c (.bool false)))⟩])
 (.seq (.seq (.reg false [⟨some 5, none, .fld (.t 2) 0⟩,
 ⟨some 6, none, .load1 (.t 5)⟩,
 ⟨some 7, none, .fld (.t 3) 0⟩,
 ⟨some 8, none, .load1 (.t 7)⟩,
 ⟨some 9, none, .bin .neq (.t 6) (.t 8)⟩])
 (.cond (.t 9) (.seq (.reg false [⟨some 4, none, .mov (.k (.c (.bool false)))⟩])
 (.ret (some [4]))) .skip))
 (.seq (.seq (.reg false [⟨some 10, none, .fld (.t 2) 1⟩,
 ⟨some 11, none, .load1 (.t 10)⟩,
 ⟨some 12, none, .fld (.t 3) 1⟩,
 ⟨some 13, none, .load1 (.t 12)⟩,
 ⟨some 14, none, .bin .neq (.t 11) (.t 13)⟩])
 (.cond (.t 14) (.seq (.reg false [⟨some 4, none, .mov (.k (.c (.bool false)))⟩])
 (.ret (some [4]))) .skip))
 (.seq (.seq (.reg false [⟨some 15, none, .fld (.t 2) 2⟩,
 ⟨some 16, none, .load1 (.t 15)⟩,
 ⟨some 17, none, .fld (.t 3) 2⟩,
 ⟨some 18, none, .load1 (.t 17)⟩,
 ⟨some 19, none, .bin .neq (.t 16) (.t 18)⟩])
 (.cond (.t 19) (.seq (.reg false [⟨some 4, none, .mov (.k (.c (.bool false)))⟩])
 (.ret (some [4]))) .skip))
 (.seq (.seq (.reg false [⟨some 20, none, .fld (.t 2) 3⟩,
 ⟨some 21, none, .load1 (.t 20)⟩,
 ⟨some 22, none, .fld (.t 3) 3⟩,
 ⟨some 23, none, .load1 (.t 22)⟩,
 ⟨some 24, none, .bin .neq (.t 21) (.t 23)⟩])
 (.cond (.t 24) (.seq (.reg false [⟨some 4, none, .mov (.k (.c (.bool false)))⟩])
 (.ret (some [4]))) .skip))
 (.seq (.reg false [⟨some 4, none, .mov (.k (.c (.bool true)))⟩])
 (.ret (some [4]))))))))⟩
theorem c_laws_eqEvent_ok : trF Try.prog ⟨[], [4], false, false⟩ Try.f184 = some c_laws_eqEvent := by kernel_rfl
def c_laws_markHeadS_b0 : IC :=
  (.seq (.seq (.reg false [⟨some 6, none, .mov (.t 5)⟩,
 ⟨some 7, none, .mov (.t 0)⟩,
 ⟨some 8, none, .len (.t 7)⟩,
 ⟨some 9, none, .bin .lss (.t 6) (.t 8)⟩])
 (.cond (.t 9) .skip (.exit 0)))
 (.seq (.block 1 none none
 (.seq (.reg false [⟨some 12, none, .mov (.t 0)⟩,
 ⟨some 13, none, .mov (.t 5)⟩,
 ⟨some 14, none, .mov (.t 1)⟩,
 ⟨some 15, none, .ixs (.t 12) (.t 13) 3⟩,
 ⟨some 16, none, .fld (.t 15) 0⟩,
 ⟨none, none, .store (.t 16) (.t 14) 1⟩])
 (.seq (.reg false [⟨some 17, none, .mov (.t 1)⟩,
 ⟨some 18, none, .bin .add (.t 17) (.k (.c (.int .i64 1)))⟩,
 ⟨some 1, none, .mov (.t 18)⟩])
 (.seq (.reg false [⟨some 19, none, .mov (.t 0)⟩,
 ⟨some 20, none, .mov (.t 5)⟩,
 ⟨some 21, none, .mov (.t 1)⟩,
 ⟨some 22, none, .ixs (.t 19) (.t 20) 3⟩,
 ⟨some 23, none, .fld (.t 22) 1⟩,
 ⟨none, none, .store (.t 23) (.t 21) 1⟩])
 (.seq (.reg false [⟨some 24, none, .mov (.t 1)⟩,
 ⟨some 25, none, .bin .add (.t 24) (.k (.c (.int .i64 1)))⟩,
 ⟨some 1, none, .mov (.t 25)⟩])
 (.seq (.reg false [⟨some 26, none, .mov (.t 0)⟩,
 ⟨some 27, none, .mov (.t 5)⟩,
 ⟨some 28, none, .mov (.t 1)⟩,
 ⟨some 29, none, .ixs (.t 26) (.t 27) 3⟩,
 ⟨some 30, none, .fld (.t 29) 2⟩,
 ⟨none, none, .store (.t 30) (.t 28) 1⟩])
 (.reg false [⟨some 31, none, .mov (.t 1)⟩,
 ⟨some 32, none, .bin .add (.t 31) (.k (.c (.int .i64 1)))⟩,
 ⟨some 1, none, .mov (.t 32)⟩])))))))
 (.reg false [⟨some 10, none, .mov (.t 5)⟩,
 ⟨some 11, none, .bin .add (.t 10) (.k (.c (.int .i64 1)))⟩,
 ⟨some 5, none, .mov (.t 11)⟩])))
def c_laws_markHeadS : IFn := ⟨34, [.t 4],
  (.seq (.reg false [⟨some 4, none, .mov (.k (.c (.int .i64 0)))⟩])
 (.seq (.seq (.reg false [⟨some 5, none, .mov (.k (.c (.int .i64 0)))⟩])
 (.block 0 (some [0, 1, 5]) (some [1])
 (.loop c_laws_markHeadS_b0)))
 (.seq (.reg false [⟨some 33, none, .mov (.t 1)⟩,
 ⟨some 4, none, .mov (.t 33)⟩])
 (.ret (some [4])))))⟩
theorem c_laws_markHeadS_ok : trF Try.prog ⟨[(0, [0, 1, 5], [1])], [4], false, false⟩ Try.f185 = some c_laws_markHeadS := by kernel_rfl
def c_laws_markDescS_b0 : IC :=
  (.seq (.seq (.reg false [⟨some 6, none, .mov (.t 5)⟩,
 ⟨some 7, none, .mov (.t 0)⟩,
 ⟨some 8, none, .len (.t 7)⟩,
 ⟨some 9, none, .bin .lss (.t 6) (.t 8)⟩])
 (.cond (.t 9) .skip (.exit 0)))
 (.seq (.block 1 none none
 (.seq (.reg false [⟨some 12, none, .mov (.t 0)⟩,
 ⟨some 13, none, .mov (.t 5)⟩,
 ⟨some 14, none, .mov (.t 1)⟩,
 ⟨some 15, none, .ixs (.t 12) (.t 13) 3⟩,
 ⟨some 16, none, .fld (.t 15) 0⟩,
 ⟨none, none, .store (.t 16) (.t 14) 1⟩])
 (.seq (.reg false [⟨some 17, none, .mov (.t 1)⟩,
 ⟨some 18, none, .bin .add (.t 17) (.k (.c (.int .i64 1)))⟩,
 ⟨some 1, none, .mov (.t 18)⟩])
 (.seq (.reg false [⟨some 19, none, .mov (.t 0)⟩,
 ⟨some 20, none, .mov (.t 5)⟩,
 ⟨some 21, none, .mov (.t 1)⟩,
 ⟨some 22, none, .ixs (.t 19) (.t 20) 3⟩,
 ⟨some 23, none, .fld (.t 22) 1⟩,
 ⟨none, none, .store (.t 23) (.t 21) 1⟩])
 (.seq (.reg false [⟨some 24, none, .mov (.t 1)⟩,
 ⟨some 25, none, .bin .add (.t 24) (.k (.c (.int .i64 1)))⟩,
 ⟨some 1, none, .mov (.t 25)⟩])
 (.reg false [⟨some 26, none, .mov (.t 0)⟩,
 ⟨some 27, none, .mov (.t 5)⟩,
 ⟨some 28, none, .ixs (.t 26) (.t 27) 3⟩,
 ⟨some 29, none, .fld (.t 28) 2⟩,
 ⟨some 30, none, .load1 (.t 29)⟩,
 ⟨some 31, none, .mov (.t 1)⟩,
 ⟨some 32, none, .call 187 [.t 30, .t 31]⟩,
 ⟨some 1, none, .mov (.t 32)⟩]))))))
 (.reg false [⟨some 10, none, .mov (.t 5)⟩,
 ⟨some 11, none, .bin .add (.t 10) (.k (.c (.int .i64 1)))⟩,
 ⟨some 5, none, .mov (.t 11)⟩])))
def c_laws_markDescS : IFn := ⟨34, [.t 4],
  (.seq (.reg false [⟨some 4, none, .mov (.k (.c (.int .i64 0)))⟩])
 (.seq (.seq (.reg false [⟨some 5, none, .mov (.k (.c (.int .i64 0)))⟩])
 (.block 0 (some [0, 1, 5]) (some [1])
 (.loop c_laws_markDescS_b0)))
 (.seq (.reg false [⟨some 33, none, .mov (.t 1)⟩,
 ⟨some 4, none, .mov (.t 33)⟩])
 (.ret (some [4])))))⟩
theorem c_laws_markDescS_ok : trF Try.prog ⟨[(0, [0, 1, 5], [1])], [4], false, false⟩ Try.f186 = some c_laws_markDescS := by kernel_rfl
def c_laws_markEntryS_b0 : IC :=
  (.seq (.seq (.reg false [⟨some 6, none, .mov (.t 5)⟩,
 ⟨some 7, none, .mov (.t 0)⟩,
 ⟨some 8, none, .len (.t 7)⟩,
 ⟨some 9, none, .bin .lss (.t 6) (.t 8)⟩])
 (.cond (.t 9) .skip (.exit 0)))
 (.seq (.block 1 none none
 (.seq (.reg false [⟨some 12, none, .mov (.t 0)⟩,
 ⟨some 13, none, .mov (.t 5)⟩,
 ⟨some 14, none, .mov (.t 1)⟩,
 ⟨some 15, none, .ixs (.t 12) (.t 13) 5⟩,
 ⟨some 16, none, .fld (.t 15) 0⟩,
 ⟨none, none, .store (.t 16) (.t 14) 1⟩])
 (.seq (.reg false [⟨some 17, none, .mov (.t 1)⟩,
 ⟨some 18, none, .bin .add (.t 17) (.k (.c (.int .i64 1)))⟩,
 ⟨some 1, none, .mov (.t 18)⟩])
 (.seq (.reg false [⟨some 19, none, .mov (.t 0)⟩,
 ⟨some 20, none, .mov (.t 5)⟩,
 ⟨some 21, none, .mov (.t 1)⟩,
 ⟨some 22, none, .ixs (.t 19) (.t 20) 5⟩,
 ⟨some 23, none, .fld (.t 22) 1⟩,
 ⟨none, none, .store (.t 23) (.t 21) 1⟩])
 (.seq (.reg false [⟨some 24, none, .mov (.t 1)⟩,
 ⟨some 25, none, .bin .add (.t 24) (.k (.c (.int .i64 1)))⟩,
 ⟨some 1, none, .mov (.t 25)⟩])
 (.seq (.reg false [⟨some 26, none, .mov (.t 0)⟩,
 ⟨some 27, none, .mov (.t 5)⟩,
 ⟨some 28, none, .mov (.t 1)⟩,
 ⟨some 29, none, .ixs (.t 26) (.t 27) 5⟩,
 ⟨some 30, none, .fld (.t 29) 2⟩,
 ⟨none, none, .store (.t 30) (.t 28) 1⟩])
 (.seq (.reg false [⟨some 31, none, .mov (.t 1)⟩,
 ⟨some 32, none, .bin .add (.t 31) (.k (.c (.int .i64 1)))⟩,
 ⟨some 1, none, .mov (.t 32)⟩])
 (.seq (.reg false [⟨some 33, none, .mov (.t 0)⟩,
 ⟨some 34, none, .mov (.t 5)⟩,
 ⟨some 35, none, .mov (.t 1)⟩,
 ⟨some 36, none, .ixs (.t 33) (.t 34) 5⟩,
 ⟨some 37, none, .fld (.t 36) 3⟩,
 ⟨none, none, .store (.t 37) (.t 35) 1⟩])
 (.seq (.reg false [⟨some 38, none, .mov (.t 1)⟩,
 ⟨some 39, none, .bin .add (.t 38) (.k (.c (.int .i64 1)))⟩,
 ⟨some 1, none, .mov (.t 39)⟩])
 (.seq (.reg false [⟨some 40, none, .mov (.t 0)⟩,
 ⟨some 41, none, .mov (.t 5)⟩,
 ⟨some 42, none, .mov (.t 1)⟩,
 ⟨some 43, none, .bin .rem (.t 42) (.k (.c (.int .i64 3)))⟩,
 ⟨some 44, none, .bin .eql (.t 43) (.k (.c (.int .i64 0)))⟩,
 ⟨some 45, none, .ixs (.t 40) (.t 41) 5⟩,
 ⟨some 46, none, .fld (.t 45) 4⟩,
 ⟨none, none, .store (.t 46) (.t 44) 1⟩])
 (.reg false [⟨some 47, none, .mov (.t 1)⟩,
 ⟨some 48, none, .bin .add (.t 47) (.k (.c (.int .i64 1)))⟩,
 ⟨some 1, none, .mov (.t 48)⟩])))))))))))
 (.reg false [⟨some 10, none, .mov (.t 5)⟩,
 ⟨some 11, none, .bin .add (.t 10) (.k (.c (.int .i64 1)))⟩,
 ⟨some 5, none, .mov (.t 11)⟩])))
def c_laws_markEntryS : IFn := ⟨50, [.t 4],
  (.seq (.reg false [⟨some 4, none, .mov (.k (.c (.int .i64 0)))⟩])
 (.seq (.seq (.reg false [⟨some 5, none, .mov (.k (.c (.int .i64 0)))⟩])
 (.block 0 (some [0, 1, 5]) (some [1])
 (.loop c_laws_markEntryS_b0)))
 (.seq (.reg false [⟨some 49, none, .mov (.t 1)⟩,
 ⟨some 4, none, .mov (.t 49)⟩])
 (.ret (some [4])))))⟩
theorem c_laws_markEntryS_ok : trF Try.prog ⟨[(0, [0, 1, 5], [1])], [4], false, false⟩ Try.f187 = some c_laws_markEntryS := by kernel_rfl
def c_laws_markFrameS_b0 : IC :=
  (.seq (.seq (.reg false [⟨some 6, none, .mov (.t 5)⟩,
 ⟨some 7, none, .mov (.t 0)⟩,
 ⟨some 8, none, .len (.t 7)⟩,
 ⟨some 9, none, .bin .lss (.t 6) (.t 8)⟩])
 (.cond (.t 9) .skip (.exit 0)))
 (.seq (.block 1 none none
 (.seq (.reg false [⟨some 12, none, .mov (.t 0)⟩,
 ⟨some 13, none, .mov (.t 5)⟩,
 ⟨some 14, none, .mov (.t 1)⟩,
 ⟨some 15, none, .ixs (.t 12) (.t 13) 3⟩,
 ⟨some 16, none, .fld (.t 15) 0⟩,
 ⟨none, none, .store (.t 16) (.t 14) 1⟩])
 (.seq (.reg false [⟨some 17, none, .mov (.t 1)⟩,
 ⟨some 18, none, .bin .add (.t 17) (.k (.c (.int .i64 1)))⟩,
 ⟨some 1, none, .mov (.t 18)⟩])
 (.seq (.reg false [⟨some 19, none, .mov (.t 0)⟩,
 ⟨some 20, none, .mov (.t 5)⟩,
 ⟨some 21, none, .mov (.t 1)⟩,
 ⟨some 22, none, .ixs (.t 19) (.t 20) 3⟩,
 ⟨some 23, none, .fld (.t 22) 1⟩,
 ⟨none, none, .store (.t 23) (.t 21) 1⟩])
 (.seq (.reg false [⟨some 24, none, .mov (.t 1)⟩,
 ⟨some 25, none, .bin .add (.t 24) (.k (.c (.int .i64 1)))⟩,
 ⟨some 1, none, .mov (.t 25)⟩])
 (.seq (.reg false [⟨some 26, none, .mov (.t 0)⟩,
 ⟨some 27, none, .mov (.t 5)⟩,
 ⟨some 28, none, .mov (.t 1)⟩,
 ⟨some 29, none, .ixs (.t 26) (.t 27) 3⟩,
 ⟨some 30, none, .fld (.t 29) 2⟩,
 ⟨none, none, .store (.t 30) (.t 28) 1⟩])
 (.reg false [⟨some 31, none, .mov (.t 1)⟩,
 ⟨some 32, none, .bin .add (.t 31) (.k (.c (.int .i64 1)))⟩,
 ⟨some 1, none, .mov (.t 32)⟩])))))))
 (.reg false [⟨some 10, none, .mov (.t 5)⟩,
 ⟨some 11, none, .bin .add (.t 10) (.k (.c (.int .i64 1)))⟩,
 ⟨some 5, none, .mov (.t 11)⟩])))
def c_laws_markFrameS : IFn := ⟨34, [.t 4],
  (.seq (.reg false [⟨some 4, none, .mov (.k (.c (.int .i64 0)))⟩])
 (.seq (.seq (.reg false [⟨some 5, none, .mov (.k (.c (.int .i64 0)))⟩])
 (.block 0 (some [0, 1, 5]) (some [1])
 (.loop c_laws_markFrameS_b0)))
 (.seq (.reg false [⟨some 33, none, .mov (.t 1)⟩,
 ⟨some 4, none, .mov (.t 33)⟩])
 (.ret (some [4])))))⟩
theorem c_laws_markFrameS_ok : trF Try.prog ⟨[(0, [0, 1, 5], [1])], [4], false, false⟩ Try.f188 = some c_laws_markFrameS := by kernel_rfl
def c_laws_heldHeadS_b0 : IC :=
  (.seq (.seq (.reg false [⟨some 6, none, .mov (.t 5)⟩,
 ⟨some 7, none, .mov (.t 0)⟩,
 ⟨some 8, none, .len (.t 7)⟩,
 ⟨some 9, none, .bin .lss (.t 6) (.t 8)⟩])
 (.cond (.t 9) .skip (.exit 0)))
 (.seq (.block 1 none none
 (.seq (.seq (.reg false [⟨some 12, none, .mov (.t 0)⟩,
 ⟨some 13, none, .mov (.t 5)⟩,
 ⟨some 14, none, .ixs (.t 12) (.t 13) 3⟩,
 ⟨some 15, none, .fld (.t 14) 0⟩,
 ⟨some 16, none, .load1 (.t 15)⟩,
 ⟨some 17, none, .mov (.t 1)⟩,
 ⟨some 18, none, .bin .neq (.t 16) (.t 17)⟩])
 (.cond (.t 18) (.seq (.reg false [⟨some 4, none, .mov (.k (.c (.int .i64 (-1))))⟩])
 (.ret (some [4]))) .skip))
 (.seq (.reg false [⟨some 19, none, .mov (.t 1)⟩,
 ⟨some 20, none, .bin .add (.t 19) (.k (.c (.int .i64 1)))⟩,
 ⟨some 1, none, .mov (.t 20)⟩])
 (.seq (.seq (.reg false [⟨some 21, none, .mov (.t 0)⟩,
 ⟨some 22, none, .mov (.t 5)⟩,
 ⟨some 23, none, .ixs (.t 21) (.t 22) 3⟩,
 ⟨some 24, none, .fld (.t 23) 1⟩,
 ⟨some 25, none, .load1 (.t 24)⟩,
 ⟨some 26, none, .mov (.t 1)⟩,
 ⟨some 27, none, .bin .neq (.t 25) (.t 26)⟩])
 (.cond (.t 27) (.seq (.reg false [⟨some 4, none, .mov (.k (.c (.int .i64 (-1))))⟩])
 (.ret (some [4]))) .skip))
 (.seq (.reg false [⟨some 28, none, .mov (.t 1)⟩,
 ⟨some 29, none, .bin .add (.t 28) (.k (.c (.int .i64 1)))⟩,
 ⟨some 1, none, .mov (.t 29)⟩])
 (.seq (.seq (.reg false [⟨some 30, none, .mov (.t 0)⟩,
 ⟨some 31, none, .mov (.t 5)⟩,
 ⟨some 32, none, .ixs (.t 30) (.t 31) 3⟩,
 ⟨some 33, none, .fld (.t 32) 2⟩,
 ⟨some 34, none, .load1 (.t 33)⟩,
 ⟨some 35, none, .mov (.t 1)⟩,
 ⟨some 36, none, .bin .neq (.t 34) (.t 35)⟩])
 (.cond (.t 36) (.seq (.reg false [⟨some 4, none, .mov (.k (.c (.int .i64 (-1))))⟩])
 (.ret (some [4]))) .skip))
 (.reg false [⟨some 37, none, .mov (.t 1)⟩,
 ⟨some 38, none, .bin .add (.t 37) (.k (.c (.int .i64 1)))⟩,
 ⟨some 1, none, .mov (.t 38)⟩])))))))
 (.reg false [⟨some 10, none, .mov (.t 5)⟩,
 ⟨some 11, none, .bin .add (.t 10) (.k (.c (.int .i64 1)))⟩,
 ⟨some 5, none, .mov (.t 11)⟩])))
def c_laws_heldHeadS : IFn := ⟨40, [.t 4],
  (.seq (.reg false [⟨some 4, none, .mov (.k (.c (.int .i64 0)))⟩])
 (.seq (.seq (.reg false [⟨some 5, none, .mov (.k (.c (.int .i64 0)))⟩])
 (.block 0 (some [0, 1, 5]) (some [1])
 (.loop c_laws_heldHeadS_b0)))
 (.seq (.reg false [⟨some 39, none, .mov (.t 1)⟩,
 ⟨some 4, none, .mov (.t 39)⟩])
 (.ret (some [4])))))⟩
theorem c_laws_heldHeadS_ok : trF Try.prog ⟨[(0, [0, 1, 5], [1])], [4], false, false⟩ Try.f189 = some c_laws_heldHeadS := by kernel_rfl
def c_laws_heldDescS_b0 : IC :=
  (.seq (.seq (.reg false [⟨some 6, none, .mov (.t 5)⟩,
 ⟨some 7, none, .mov (.t 0)⟩,
 ⟨some 8, none, .len (.t 7)⟩,
 ⟨some 9, none, .bin .lss (.t 6) (.t 8)⟩])
 (.cond (.t 9) .skip (.exit 0)))
 (.seq (.block 1 none none
 (.seq (.seq (.reg false [⟨some 12, none, .mov (.t 0)⟩,
 ⟨some 13, none, .mov (.t 5)⟩,
 ⟨some 14, none, .ixs (.t 12) (.t 13) 3⟩,
 ⟨some 15, none, .fld (.t 14) 0⟩,
 ⟨some 16, none, .load1 (.t 15)⟩,
 ⟨some 17, none, .mov (.t 1)⟩,
 ⟨some 18, none, .bin .neq (.t 16) (.t 17)⟩])
 (.cond (.t 18) (.seq (.reg false [⟨some 4, none, .mov (.k (.c (.int .i64 (-1))))⟩])
 (.ret (some [4]))) .skip))
 (.seq (.reg false [⟨some 19, none, .mov (.t 1)⟩,
 ⟨some 20, none, .bin .add (.t 19) (.k (.c (.int .i64 1)))⟩,
 ⟨some 1, none, .mov (.t 20)⟩])
 (.seq (.seq (.reg false [⟨some 21, none, .mov (.t 0)⟩,
 ⟨some 22, none, .mov (.t 5)⟩,
 ⟨some 23, none, .ixs (.t 21) (.t 22) 3⟩,
 ⟨some 24, none, .fld (.t 23) 1⟩,
 ⟨some 25, none, .load1 (.t 24)⟩,
 ⟨some 26, none, .mov (.t 1)⟩,
 ⟨some 27, none, .bin .neq (.t 25) (.t 26)⟩])
 (.cond (.t 27) (.seq (.reg false [⟨some 4, none, .mov (.k (.c (.int .i64 (-1))))⟩])
 (.ret (some [4]))) .skip))
 (.seq (.reg false [⟨some 28, none, .mov (.t 1)⟩,
 ⟨some 29, none, .bin .add (.t 28) (.k (.c (.int .i64 1)))⟩,
 ⟨some 1, none, .mov (.t 29)⟩])
 (.seq (.reg false [⟨some 30, none, .mov (.t 0)⟩,
 ⟨some 31, none, .mov (.t 5)⟩,
 ⟨some 32, none, .ixs (.t 30) (.t 31) 3⟩,
 ⟨some 33, none, .fld (.t 32) 2⟩,
 ⟨some 34, none, .load1 (.t 33)⟩,
 ⟨some 35, none, .mov (.t 1)⟩,
 ⟨some 36, none, .call 191 [.t 34, .t 35]⟩,
 ⟨some 1, none, .mov (.t 36)⟩])
 (.seq (.reg false [⟨some 37, none, .mov (.t 1)⟩,
 ⟨some 38, none, .bin .lss (.t 37) (.k (.c (.int .i64 0)))⟩])
 (.cond (.t 38) (.seq (.reg false [⟨some 4, none, .mov (.k (.c (.int .i64 (-1))))⟩])
 (.ret (some [4]))) .skip))))))))
 (.reg false [⟨some 10, none, .mov (.t 5)⟩,
 ⟨some 11, none, .bin .add (.t 10) (.k (.c (.int .i64 1)))⟩,
 ⟨some 5, none, .mov (.t 11)⟩])))
def c_laws_heldDescS : IFn := ⟨40, [.t 4],
  (.seq (.reg false [⟨some 4, none, .mov (.k (.c (.int .i64 0)))⟩])
 (.seq (.seq (.reg false [⟨some 5, none, .mov (.k (.c (.int .i64 0)))⟩])
 (.block 0 (some [0, 1, 5]) (some [1])
 (.loop c_laws_heldDescS_b0)))
 (.seq (.reg false [⟨some 39, none, .mov (.t 1)⟩,
 ⟨some 4, none, .mov (.t 39)⟩])
 (.ret (some [4])))))⟩
theorem c_laws_heldDescS_ok : trF Try.prog ⟨[(0, [0, 1, 5], [1])], [4], false, false⟩ Try.f190 = some c_laws_heldDescS := by kernel_rfl
def c_laws_heldEntryS_b0 : IC :=
  (.seq (.seq (.reg false [⟨some 6, none, .mov (.t 5)⟩,
 ⟨some 7, none, .mov (.t 0)⟩,
 ⟨some 8, none, .len (.t 7)⟩,
 ⟨some 9, none, .bin .lss (.t 6) (.t 8)⟩])
 (.cond (.t 9) .skip (.exit 0)))
 (.seq (.block 1 none none
 (.seq (.seq (.reg false [⟨some 12, none, .mov (.t 0)⟩,
 ⟨some 13, none, .mov (.t 5)⟩,
 ⟨some 14, none, .ixs (.t 12) (.t 13) 5⟩,
 ⟨some 15, none, .fld (.t 14) 0⟩,
 ⟨some 16, none, .load1 (.t 15)⟩,
 ⟨some 17, none, .mov (.t 1)⟩,
 ⟨some 18, none, .bin .neq (.t 16) (.t 17)⟩])
 (.cond (.t 18) (.seq (.reg false [⟨some 4, none, .mov (.k (.c (.int .i64 (-1))))⟩])
 (.ret (some [4]))) .skip))
 (.seq (.reg false [⟨some 19, none, .mov (.t 1)⟩,
 ⟨some 20, none, .bin .add (.t 19) (.k (.c (.int .i64 1)))⟩,
 ⟨some 1, none, .mov (.t 20)⟩])
 (.seq (.seq (.reg false [⟨some 21, none, .mov (.t 0)⟩,
 ⟨some 22, none, .mov (.t 5)⟩,
 ⟨some 23, none, .ixs (.t 21) (.t 22) 5⟩,
 ⟨some 24, none, .fld (.t 23) 1⟩,
 ⟨some 25, none, .load1 (.t 24)⟩,
 ⟨some 26, none, .mov (.t 1)⟩,
 ⟨some 27, none, .bin .neq (.t 25) (.t 26)⟩])
 (.cond (.t 27) (.seq (.reg false [⟨some 4, none, .mov (.k (.c (.int .i64 (-1))))⟩])
 (.ret (some [4]))) .skip))
 (.seq (.reg false [⟨some 28, none, .mov (.t 1)⟩,
 ⟨some 29, none, .bin .add (.t 28) (.k (.c (.int .i64 1)))⟩,
 ⟨some 1, none, .mov (.t 29)⟩])
 (.seq (.seq (.reg false [⟨some 30, none, .mov (.t 0)⟩,
 ⟨some 31, none, .mov (.t 5)⟩,
 ⟨some 32, none, .ixs (.t 30) (.t 31) 5⟩,
 ⟨some 33, none, .fld (.t 32) 2⟩,
 ⟨some 34, none, .load1 (.t 33)⟩,
 ⟨some 35, none, .mov (.t 1)⟩,
 ⟨some 36, none, .bin .neq (.t 34) (.t 35)⟩])
 (.cond (.t 36) (.seq (.reg false [⟨some 4, none, .mov (.k (.c (.int .i64 (-1))))⟩])
 (.ret (some [4]))) .skip))
 (.seq (.reg false [⟨some 37, none, .mov (.t 1)⟩,
 ⟨some 38, none, .bin .add (.t 37) (.k (.c (.int .i64 1)))⟩,
 ⟨some 1, none, .mov (.t 38)⟩])
 (.seq (.seq (.reg false [⟨some 39, none, .mov (.t 0)⟩,
 ⟨some 40, none, .mov (.t 5)⟩,
 ⟨some 41, none, .ixs (.t 39) (.t 40) 5⟩,
 ⟨some 42, none, .fld (.t 41) 3⟩,
 ⟨some 43, none, .load1 (.t 42)⟩,
 ⟨some 44, none, .mov (.t 1)⟩,
 ⟨some 45, none, .bin .neq (.t 43) (.t 44)⟩])
 (.cond (.t 45) (.seq (.reg false [⟨some 4, none, .mov (.k (.c (.int .i64 (-1))))⟩])
 (.ret (some [4]))) .skip))
 (.seq (.reg false [⟨some 46, none, .mov (.t 1)⟩,
 ⟨some 47, none, .bin .add (.t 46) (.k (.c (.int .i64 1)))⟩,
 ⟨some 1, none, .mov (.t 47)⟩])
 (.seq (.seq (.reg false [⟨some 48, none, .mov (.t 0)⟩,
 ⟨some 49, none, .mov (.t 5)⟩,
 ⟨some 50, none, .ixs (.t 48) (.t 49) 5⟩,
 ⟨some 51, none, .fld (.t 50) 4⟩,
 ⟨some 52, none, .load1 (.t 51)⟩,
 ⟨some 53, none, .mov (.t 1)⟩,
 ⟨some 54, none, .bin .rem (.t 53) (.k (.c (.int .i64 3)))⟩,
 ⟨some 55, none, .bin .eql (.t 54) (.k (.c (.int .i64 0)))⟩,
 ⟨some 56, none, .binb true (.t 52) (.t 55)⟩])
 (.cond (.t 56) (.seq (.reg false [⟨some 4, none, .mov (.k (.c (.int .i64 (-1))))⟩])
 (.ret (some [4]))) .skip))
 (.reg false [⟨some 57, none, .mov (.t 1)⟩,
 ⟨some 58, none, .bin .add (.t 57) (.k (.c (.int .i64 1)))⟩,
 ⟨some 1, none, .mov (.t 58)⟩])))))))))))
 (.reg false [⟨some 10, none, .mov (.t 5)⟩,
 ⟨some 11, none, .bin .add (.t 10) (.k (.c (.int .i64 1)))⟩,
 ⟨some 5, none, .mov (.t 11)⟩])))
def c_laws_heldEntryS : IFn := ⟨60, [.t 4],
  (.seq (.reg false [⟨some 4, none, .mov (.k (.c (.int .i64 0)))⟩])
 (.seq (.seq (.reg false [⟨some 5, none, .mov (.k (.c (.int .i64 0)))⟩])
 (.block 0 (some [0, 1, 5]) (some [1])
 (.loop c_laws_heldEntryS_b0)))
 (.seq (.reg false [⟨some 59, none, .mov (.t 1)⟩,
 ⟨some 4, none, .mov (.t 59)⟩])
 (.ret (some [4])))))⟩
theorem c_laws_heldEntryS_ok : trF Try.prog ⟨[(0, [0, 1, 5], [1])], [4], false, false⟩ Try.f191 = some c_laws_heldEntryS := by kernel_rfl
def c_laws_heldFrameS_b0 : IC :=
  (.seq (.seq (.reg false [⟨some 6, none, .mov (.t 5)⟩,
 ⟨some 7, none, .mov (.t 0)⟩,
 ⟨some 8, none, .len (.t 7)⟩,
 ⟨some 9, none, .bin .lss (.t 6) (.t 8)⟩])
 (.cond (.t 9) .skip (.exit 0)))
 (.seq (.block 1 none none
 (.seq (.seq (.reg false [⟨some 12, none, .mov (.t 0)⟩,
 ⟨some 13, none, .mov (.t 5)⟩,
 ⟨some 14, none, .ixs (.t 12) (.t 13) 3⟩,
 ⟨some 15, none, .fld (.t 14) 0⟩,
 ⟨some 16, none, .load1 (.t 15)⟩,
 ⟨some 17, none, .mov (.t 1)⟩,
 ⟨some 18, none, .bin .neq (.t 16) (.t 17)⟩])
 (.cond (.t 18) (.seq (.reg false [⟨some 4, none, .mov (.k (.c (.int .i64 (-1))))⟩])
 (.ret (some [4]))) .skip))
 (.seq (.reg false [⟨some 19, none, .mov (.t 1)⟩,
 ⟨some 20, none, .bin .add (.t 19) (.k (.c (.int .i64 1)))⟩,
 ⟨some 1, none, .mov (.t 20)⟩])
 (.seq (.seq (.reg false [⟨some 21, none, .mov (.t 0)⟩,
 ⟨some 22, none, .mov (.t 5)⟩,
 ⟨some 23, none, .ixs (.t 21) (.t 22) 3⟩,
 ⟨some 24, none, .fld (.t 23) 1⟩,
 ⟨some 25, none, .load1 (.t 24)⟩,
 ⟨some 26, none, .mov (.t 1)⟩,
 ⟨some 27, none, .bin .neq (.t 25) (.t 26)⟩])
 (.cond (.t 27) (.seq (.reg false [⟨some 4, none, .mov (.k (.c (.int .i64 (-1))))⟩])
 (.ret (some [4]))) .skip))
 (.seq (.reg false [⟨some 28, none, .mov (.t 1)⟩,
 ⟨some 29, none, .bin .add (.t 28) (.k (.c (.int .i64 1)))⟩,
 ⟨some 1, none, .mov (.t 29)⟩])
 (.seq (.seq (.reg false [⟨some 30, none, .mov (.t 0)⟩,
 ⟨some 31, none, .mov (.t 5)⟩,
 ⟨some 32, none, .ixs (.t 30) (.t 31) 3⟩,
 ⟨some 33, none, .fld (.t 32) 2⟩,
 ⟨some 34, none, .load1 (.t 33)⟩,
 ⟨some 35, none, .mov (.t 1)⟩,
 ⟨some 36, none, .bin .neq (.t 34) (.t 35)⟩])
 (.cond (.t 36) (.seq (.reg false [⟨some 4, none, .mov (.k (.c (.int .i64 (-1))))⟩])
 (.ret (some [4]))) .skip))
 (.reg false [⟨some 37, none, .mov (.t 1)⟩,
 ⟨some 38, none, .bin .add (.t 37) (.k (.c (.int .i64 1)))⟩,
 ⟨some 1, none, .mov (.t 38)⟩])))))))
 (.reg false [⟨some 10, none, .mov (.t 5)⟩,
 ⟨some 11, none, .bin .add (.t 10) (.k (.c (.int .i64 1)))⟩,
 ⟨some 5, none, .mov (.t 11)⟩])))
def c_laws_heldFrameS : IFn := ⟨40, [.t 4],
  (.seq (.reg false [⟨some 4, none, .mov (.k (.c (.int .i64 0)))⟩])
 (.seq (.seq (.reg false [⟨some 5, none, .mov (.k (.c (.int .i64 0)))⟩])
 (.block 0 (some [0, 1, 5]) (some [1])
 (.loop c_laws_heldFrameS_b0)))
 (.seq (.reg false [⟨some 39, none, .mov (.t 1)⟩,
 ⟨some 4, none, .mov (.t 39)⟩])
 (.ret (some [4])))))⟩
theorem c_laws_heldFrameS_ok : trF Try.prog ⟨[(0, [0, 1, 5], [1])], [4], false, false⟩ Try.f192 = some c_laws_heldFrameS := by kernel_rfl
def c_spec_l1Copy : IFn := ⟨6, [.t 2],
  (.seq (.reg false [⟨some 2, none, .mov (.k (.c .nils))⟩])
 (.seq (.reg false [⟨some 3, none, .lit 0 1 [.int .i64 0] [] 3⟩,
 ⟨some 4, none, .mov (.t 0)⟩,
 ⟨some 5, none, .app (.t 3) (.t 4) 3 1 8⟩,
 ⟨some 2, none, .mov (.t 5)⟩])
 (.ret (some [2]))))⟩
theorem c_spec_l1Copy_ok : trF Try.prog ⟨[], [2], false, false⟩ Try.f193 = some c_spec_l1Copy := by kernel_rfl
def c_spec_l1Has_b0 : IC :=
  (.seq (.seq (.reg false [⟨some 6, none, .mov (.t 5)⟩,
 ⟨some 7, none, .mov (.t 0)⟩,
 ⟨some 8, none, .len (.t 7)⟩,
 ⟨some 9, none, .bin .lss (.t 6) (.t 8)⟩])
 (.cond (.t 9) .skip (.exit 0)))
 (.seq (.block 1 none none
 (.seq (.reg false [⟨some 12, none, .mov (.t 0)⟩,
 ⟨some 13, none, .mov (.t 5)⟩,
 ⟨some 14, none, .ixs (.t 12) (.t 13) 1⟩,
 ⟨some 15, none, .load1 (.t 14)⟩,
 ⟨some 16, none, .mov (.t 1)⟩,
 ⟨some 17, none, .bin .eql (.t 15) (.t 16)⟩])
 (.cond (.t 17) (.seq (.reg false [⟨some 4, none, .mov (.k (.c (.bool true)))⟩])
 (.ret (some [4]))) .skip)))
 (.reg false [⟨some 10, none, .mov (.t 5)⟩,
 ⟨some 11, none, .bin .add (.t 10) (.k (.c (.int .i64 1)))⟩,
 ⟨some 5, none, .mov (.t 11)⟩])))
def c_spec_l1Has : IFn := ⟨18, [.t 4],
  (.seq (.reg false [⟨some 4, none, .mov (.k (.c (.bool false)))⟩])
 (.seq (.seq (.reg false [⟨some 5, none, .mov (.k (.c (.int .i64 0)))⟩])
 (.block 0 (some [0, 1, 5]) (some [])
 (.loop c_spec_l1Has_b0)))
 (.seq (.reg false [⟨some 4, none, .mov (.k (.c (.bool false)))⟩])
 (.ret (some [4])))))⟩
theorem c_spec_l1Has_ok : trF Try.prog ⟨[(0, [0, 1, 5], [])], [4], false, false⟩ Try.f194 = some c_spec_l1Has := by kernel_rfl
def c_laws_eqHead : IFn := ⟨20, [.t 4],
  (.seq (.reg false [⟨some 2, none, .box (.t 0) 237⟩,
 ⟨some 3, none, .box (.t 1) 237⟩,
 ⟨some 4, none, .mov (.k (.c (.bool false)))⟩])
 (.seq (.seq (.reg false [⟨some 5, none, .fld (.t 2) 0⟩,
 ⟨some 6, none, .load1 (.t 5)⟩,
 ⟨some 7, none, .fld (.t 3) 0⟩,
 ⟨some 8, none, .load1 (.t 7)⟩,
 ⟨some 9, none, .bin .neq (.t 6) (.t 8)⟩])
 (.cond (.t 9) (.seq (.reg false [⟨some 4, none, .mov (.k (.c (.bool false)))⟩])
 (.ret (some [4]))) .skip))
 (.seq (.seq (.reg false [⟨some 10, none, .fld (.t 2) 1⟩,
 ⟨some 11, none, .load1 (.t 10)⟩,
 ⟨some 12, none, .fld (.t 3) 1⟩,
 ⟨some 13, none, .load1 (.t 12)⟩,
 ⟨some 14, none, .bin .neq (.t 11) (.t 13)⟩])
 (.cond (.t 14) (.seq (.reg false [⟨some 4, none, .mov (.k (.c (.bool false)))⟩])
 (.ret (some [4]))) .skip))
 (.seq (.seq (.reg false [⟨some 15, none, .fld (.t 2) 2⟩,
 ⟨some 16, none, .load1 (.t 15)⟩,
 ⟨some 17, none, .fld (.t 3) 2⟩,
 ⟨some 18, none, .load1 (.t 17)⟩,
 ⟨some 19, none, .bin .neq (.t 16) (.t 18)⟩])
 (.cond (.t 19) (.seq (.reg false [⟨some 4, none, .mov (.k (.c (.bool false)))⟩])
 (.ret (some [4]))) .skip))
 (.seq (.reg false [⟨some 4, none, .mov (.k (.c (.bool true)))⟩])
 (.ret (some [4])))))))⟩
theorem c_laws_eqHead_ok : trF Try.prog ⟨[], [4], false, false⟩ Try.f201 = some c_laws_eqHead := by kernel_rfl
def c_laws_eqDesc : IFn := ⟨21, [.t 4],
  (.seq (.reg false [⟨some 2, none, .box (.t 0) 240⟩,
 ⟨some 3, none, .box (.t 1) 240⟩,
 ⟨some 4, none, .mov (.k (.c (.bool false)))⟩])
 (.seq (.seq (.reg false [⟨some 5, none, .fld (.t 2) 0⟩,
 ⟨some 6, none, .load1 (.t 5)⟩,
 ⟨some 7, none, .fld (.t 3) 0⟩,
 ⟨some 8, none, .load1 (.t 7)⟩,
 ⟨some 9, none, .bin .neq (.t 6) (.t 8)⟩])
 (.cond (.t 9) (.seq (.reg false [⟨some 4, none, .mov (.k (.c (.bool false)))⟩])
 (.ret (some [4]))) .skip))
 (.seq (.seq (.reg false [⟨some 10, none, .fld (.t 2) 1⟩,
 ⟨some 11, none, .load1 (.t 10)⟩,
 ⟨some 12, none, .fld (.t 3) 1⟩,
 ⟨some 13, none, .load1 (.t 12)⟩,
 ⟨some 14, none, .bin .neq (.t 11) (.t 13)⟩])
 (.cond (.t 14) (.seq (.reg false [⟨some 4, none, .mov (.k (.c (.bool false)))⟩])
 (.ret (some [4]))) .skip))
 (.seq (.seq (.reg false [⟨some 15, none, .fld (.t 2) 2⟩,
 ⟨some 16, none, .load1 (.t 15)⟩,
 ⟨some 17, none, .fld (.t 3) 2⟩,
 ⟨some 18, none, .load1 (.t 17)⟩,
 ⟨some 19, none, .call 204 [.t 16, .t 18]⟩,
 ⟨some 20, none, .un .not (.t 19)⟩])
 (.cond (.t 20) (.seq (.reg false [⟨some 4, none, .mov (.k (.c (.bool false)))⟩])
 (.ret (some [4]))) .skip))
 (.seq (.reg false [⟨some 4, none, .mov (.k (.c (.bool true)))⟩])
 (.ret (some [4])))))))⟩
theorem c_laws_eqDesc_ok : trF Try.prog ⟨[], [4], false, false⟩ Try.f202 = some c_laws_eqDesc := by kernel_rfl
def c_laws_eqIntA4_b0 : IC :=
  (.seq (.seq (.reg false [⟨some 6, none, .mov (.t 5)⟩,
 ⟨some 7, none, .bin .lss (.t 6) (.k (.c (.int .i64 4)))⟩])
 (.cond (.t 7) .skip (.exit 0)))
 (.seq (.block 1 none none
 (.seq (.reg true [⟨some 10, none, .mov (.t 5)⟩,
 ⟨some 11, none, .ixa (.t 2) (.t 10) 4 1⟩,
 ⟨some 12, none, .load1 (.t 11)⟩,
 ⟨some 13, none, .mov (.t 5)⟩,
 ⟨some 14, none, .ixa (.t 3) (.t 13) 4 1⟩,
 ⟨some 15, none, .load1 (.t 14)⟩,
 ⟨some 16, none, .bin .neq (.t 12) (.t 15)⟩])
 (.cond (.t 16) (.seq (.reg false [⟨some 4, none, .mov (.k (.c (.bool false)))⟩])
 (.ret (some [4]))) .skip)))
 (.reg false [⟨some 8, none, .mov (.t 5)⟩,
 ⟨some 9, none, .bin .add (.t 8) (.k (.c (.int .i64 1)))⟩,
 ⟨some 5, none, .mov (.t 9)⟩])))
def c_laws_eqIntA4 : IFn := ⟨17, [.t 4],
  (.seq (.reg false [⟨some 2, none, .box (.t 0) 218⟩,
 ⟨some 3, none, .box (.t 1) 218⟩,
 ⟨some 4, none, .mov (.k (.c (.bool false)))⟩])
 (.seq (.seq (.reg false [⟨some 5, none, .mov (.k (.c (.int .i64 0)))⟩])
 (.block 0 (some [2, 3, 5]) (some [])
 (.loop c_laws_eqIntA4_b0)))
 (.seq (.reg false [⟨some 4, none, .mov (.k (.c (.bool true)))⟩])
 (.ret (some [4])))))⟩
theorem c_laws_eqIntA4_ok : trF Try.prog ⟨[(0, [2, 3, 5], [])], [4], false, false⟩ Try.f203 = some c_laws_eqIntA4 := by kernel_rfl
def c_laws_eqEntryS_b0 : IC :=
  (.seq (.seq (.reg false [⟨some 11, none, .mov (.t 5)⟩,
 ⟨some 12, none, .mov (.t 0)⟩,
 ⟨some 13, none, .len (.t 12)⟩,
 ⟨some 14, none, .bin .lss (.t 11) (.t 13)⟩])
 (.cond (.t 14) .skip (.exit 0)))
 (.seq (.block 1 none none
 (.seq (.reg true [⟨some 17, none, .mov (.t 0)⟩,
 ⟨some 18, none, .mov (.t 5)⟩,
 ⟨some 19, none, .ixs (.t 17) (.t 18) 5⟩,
 ⟨some 20, none, .loadN (.t 19) 5⟩,
 ⟨some 21, none, .mov (.t 1)⟩,
 ⟨some 22, none, .mov (.t 5)⟩,
 ⟨some 23, none, .ixs (.t 21) (.t 22) 5⟩,
 ⟨some 24, none, .loadN (.t 23) 5⟩,
 ⟨some 25, none, .call 207 [.t 20, .t 24]⟩,
 ⟨some 26, none, .un .not (.t 25)⟩])
 (.cond (.t 26) (.seq (.reg false [⟨some 4, none, .mov (.k (.c (.bool false)))⟩])
 (.ret (some [4]))) .skip)))
 (.reg false [⟨some 15, none, .mov (.t 5)⟩,
 ⟨some 16, none, .bin .add (.t 15) (.k (.c (.int .i64 1)))⟩,
 ⟨some 5, none, .mov (.t 16)⟩])))
def c_laws_eqEntryS : IFn := ⟨27, [.t 4],
  (.seq (.reg false [⟨some 4, none, .mov (.k (.c (.bool false)))⟩])
 (.seq (.seq (.reg false [⟨some 6, none, .mov (.t 0)⟩,
 ⟨some 7, none, .len (.t 6)⟩,
 ⟨some 8, none, .mov (.t 1)⟩,
 ⟨some 9, none, .len (.t 8)⟩,
 ⟨some 10, none, .bin .neq (.t 7) (.t 9)⟩])
 (.cond (.t 10) (.seq (.reg false [⟨some 4, none, .mov (.k (.c (.bool false)))⟩])
 (.ret (some [4]))) .skip))
 (.seq (.seq (.reg false [⟨some 5, none, .mov (.k (.c (.int .i64 0)))⟩])
 (.block 0 (some [0, 1, 5]) (some [])
 (.loop c_laws_eqEntryS_b0)))
 (.seq (.reg false [⟨some 4, none, .mov (.k (.c (.bool true)))⟩])
 (.ret (some [4]))))))⟩
theorem c_laws_eqEntryS_ok : trF Try.prog ⟨[(0, [0, 1, 5], [])], [4], false, false⟩ Try.f204 = some c_laws_eqEntryS := by kernel_rfl
def c_laws_eqFrameS_b0 : IC :=
  (.seq (.seq (.reg false [⟨some 11, none, .mov (.t 5)⟩,
 ⟨some 12, none, .mov (.t 0)⟩,
 ⟨some 13, none, .len (.t 12)⟩,
 ⟨some 14, none, .bin .lss (.t 11) (.t 13)⟩])
 (.cond (.t 14) .skip (.exit 0)))
 (.seq (.block 1 none none
 (.seq (.reg true [⟨some 17, none, .mov (.t 0)⟩,
 ⟨some 18, none, .mov (.t 5)⟩,
 ⟨some 19, none, .ixs (.t 17) (.t 18) 3⟩,
 ⟨some 20, none, .loadN (.t 19) 3⟩,
 ⟨some 21, none, .mov (.t 1)⟩,
 ⟨some 22, none, .mov (.t 5)⟩,
 ⟨some 23, none, .ixs (.t 21) (.t 22) 3⟩,
 ⟨some 24, none, .loadN (.t 23) 3⟩,
 ⟨some 25, none, .call 208 [.t 20, .t 24]⟩,
 ⟨some 26, none, .un .not (.t 25)⟩])
 (.cond (.t 26) (.seq (.reg false [⟨some 4, none, .mov (.k (.c (.bool false)))⟩])
 (.ret (some [4]))) .skip)))
 (.reg false [⟨some 15, none, .mov (.t 5)⟩,
 ⟨some 16, none, .bin .add (.t 15) (.k (.c (.int .i64 1)))⟩,
 ⟨some 5, none, .mov (.t 16)⟩])))
def c_laws_eqFrameS : IFn := ⟨27, [.t 4],
  (.seq (.reg false [⟨some 4, none, .mov (.k (.c (.bool false)))⟩])
 (.seq (.seq (.reg false [⟨some 6, none, .mov (.t 0)⟩,
 ⟨some 7, none, .len (.t 6)⟩,
 ⟨some 8, none, .mov (.t 1)⟩,
 ⟨some 9, none, .len (.t 8)⟩,
 ⟨some 10, none, .bin .neq (.t 7) (.t 9)⟩])
 (.cond (.t 10) (.seq (.reg false [⟨some 4, none, .mov (.k (.c (.bool false)))⟩])
 (.ret (some [4]))) .skip))
 (.seq (.seq (.reg false [⟨some 5, none, .mov (.k (.c (.int .i64 0)))⟩])
 (.block 0 (some [0, 1, 5]) (some [])
 (.loop c_laws_eqFrameS_b0)))
 (.seq (.reg false [⟨some 4, none, .mov (.k (.c (.bool true)))⟩])
 (.ret (some [4]))))))⟩
theorem c_laws_eqFrameS_ok : trF Try.prog ⟨[(0, [0, 1, 5], [])], [4], false, false⟩ Try.f205 = some c_laws_eqFrameS := by kernel_rfl
def c_laws_eqEntry : IFn := ⟨30, [.t 4],
  (.seq (.reg false [⟨some 2, none, .box (.t 0) 245⟩,
 ⟨some 3, none, .box (.t 1) 245⟩,
 ⟨some 4, none, .mov (.k (.c (.bool false)))⟩])
 (.seq (.seq (.reg false [⟨some 5, none, .fld (.t 2) 0⟩,
 ⟨some 6, none, .load1 (.t 5)⟩,
 ⟨some 7, none, .fld (.t 3) 0⟩,
 ⟨some 8, none, .load1 (.t 7)⟩,
 ⟨some 9, none, .bin .neq (.t 6) (.t 8)⟩])
 (.cond (.t 9) (.seq (.reg false [⟨some 4, none, .mov (.k (.c (.bool false)))⟩])
 (.ret (some [4]))) .skip))
 (.seq (.seq (.reg false [⟨some 10, none, .fld (.t 2) 1⟩,
 ⟨some 11, none, .load1 (.t 10)⟩,
 ⟨some 12, none, .fld (.t 3) 1⟩,
 ⟨some 13, none, .load1 (.t 12)⟩,
 ⟨some 14, none, .bin .neq (.t 11) (.t 13)⟩])
 (.cond (.t 14) (.seq (.reg false [⟨some 4, none, .mov (.k (.c (.bool false)))⟩])
 (.ret (some [4]))) .skip))
 (.seq (.seq (.reg false [⟨some 15, none, .fld (.t 2) 2⟩,
 ⟨some 16, none, .load1 (.t 15)⟩,
 ⟨some 17, none, .fld (.t 3) 2⟩,
 ⟨some 18, none, .load1 (.t 17)⟩,
 ⟨some 19, none, .bin .neq (.t 16) (.t 18)⟩])
 (.cond (.t 19) (.seq (.reg false [⟨some 4, none, .mov (.k (.c (.bool false)))⟩])
 (.ret (some [4]))) .skip))
 (.seq (.seq (.reg false [⟨some 20, none, .fld (.t 2) 3⟩,
 ⟨some 21, none, .load1 (.t 20)⟩,
 ⟨some 22, none, .fld (.t 3) 3⟩,
 ⟨some 23, none, .load1 (.t 22)⟩,
 ⟨some 24, none, .bin .neq (.t 21) (.t 23)⟩])
 (.cond (.t 24) (.seq (.reg false [⟨some 4, none, .mov (.k (.c (.bool false)))⟩])
 (.ret (some [4]))) .skip))
 (.seq (.seq (.reg false [⟨some 25, none, .fld (.t 2) 4⟩,
 ⟨some 26, none, .load1 (.t 25)⟩,
 ⟨some 27, none, .fld (.t 3) 4⟩,
 ⟨some 28, none, .load1 (.t 27)⟩,
 ⟨some 29, none, .binb true (.t 26) (.t 28)⟩])
 (.cond (.t 29) (.seq (.reg false [⟨some 4, none, .mov (.k (.c (.bool false)))⟩])
 (.ret (some [4]))) .skip))
 (.seq (.reg false [⟨some 4, none, .mov (.k (.c (.bool true)))⟩])
 (.ret (some [4])))))))))⟩
theorem c_laws_eqEntry_ok : trF Try.prog ⟨[], [4], false, false⟩ Try.f207 = some c_laws_eqEntry := by kernel_rfl
def c_laws_eqFrame : IFn := ⟨20, [.t 4],
  (.seq (.reg false [⟨some 2, none, .box (.t 0) 247⟩,
 ⟨some 3, none, .box (.t 1) 247⟩,
 ⟨some 4, none, .mov (.k (.c (.bool false)))⟩])
 (.seq (.seq (.reg false [⟨some 5, none, .fld (.t 2) 0⟩,
 ⟨some 6, none, .load1 (.t 5)⟩,
 ⟨some 7, none, .fld (.t 3) 0⟩,
 ⟨some 8, none, .load1 (.t 7)⟩,
 ⟨some 9, none, .bin .neq (.t 6) (.t 8)⟩])
 (.cond (.t 9) (.seq (.reg false [⟨some 4, none, .mov (.k (.c (.bool false)))⟩])
 (.ret (some [4]))) .skip))
 (.seq (.seq (.reg false [⟨some 10, none, .fld (.t 2) 1⟩,
 ⟨some 11, none, .load1 (.t 10)⟩,
 ⟨some 12, none, .fld (.t 3) 1⟩,
 ⟨some 13, none, .load1 (.t 12)⟩,
 ⟨some 14, none, .bin .neq (.t 11) (.t 13)⟩])
 (.cond (.t 14) (.seq (.reg false [⟨some 4, none, .mov (.k (.c (.bool false)))⟩])
 (.ret (some [4]))) .skip))
 (.seq (.seq (.reg false [⟨some 15, none, .fld (.t 2) 2⟩,
 ⟨some 16, none, .load1 (.t 15)⟩,
 ⟨some 17, none, .fld (.t 3) 2⟩,
 ⟨some 18, none, .load1 (.t 17)⟩,
 ⟨some 19, none, .bin .neq (.t 16) (.t 18)⟩])
 (.cond (.t 19) (.seq (.reg false [⟨some 4, none, .mov (.k (.c (.bool false)))⟩])
 (.ret (some [4]))) .skip))
 (.seq (.reg false [⟨some 4, none, .mov (.k (.c (.bool true)))⟩])
 (.ret (some [4])))))))⟩
theorem c_laws_eqFrame_ok : trF Try.prog ⟨[], [4], false, false⟩ Try.f208 = some c_laws_eqFrame := by kernel_rfl
def T : FuncId → Option IFn
  | 7 => some c_laws_FnExactSpaceOk
  | 8 => some c_laws_FnSets
  | 9 => some c_laws_FnExactNewBench
  | 10 => some c_laws_big
  | 14 => some c_impl_RingOk
  | 17 => some c_laws_at
  | 21 => some c_laws_toTree
  | 23 => some c_laws_eqTree
  | 26 => some c_impl_ChainOk
  | 31 => some c_laws_within
  | 32 => some c_impl_NewChain
  | 35 => some c_impl_TreeOk
  | 40 => some c_impl_NewTree
  | 41 => some c_laws_szSpace
  | 42 => some c_spec_SpaceOk
  | 43 => some c_laws_toSpace
  | 44 => some c_impl_SpaceOk
  | 45 => some c_laws_eqSpace
  | 46 => some c_spec_DrawSet
  | 47 => some c_impl_SetList
  | 48 => some c_impl_SetOk
  | 49 => some c_impl_SetHas16
  | 50 => some c_impl_SetAdd
  | 51 => some c_impl_SetSame
  | 52 => some c_impl_SetDrop
  | 53 => some c_impl_NewSet
  | 54 => some c_impl_SetJoin
  | 55 => some c_spec_NewBench
  | 56 => some c_impl_NewBench
  | 57 => some c_laws_eqBench
  | 58 => some c_laws_markBench
  | 59 => some c_laws_heldBench
  | 61 => some c_spec_l1New
  | 62 => some c_impl_isValue
  | 63 => some c_impl_in
  | 64 => some c_impl_areValues
  | 65 => some c_spec_TreeOk
  | 66 => some c_spec_l1Value
  | 69 => some c_laws_toTwigA16
  | 71 => some c_laws_eqTwigA16
  | 78 => some c_impl_Tree_isPart
  | 81 => some c_laws_szIntSS
  | 82 => some c_spec_ChainOk
  | 83 => some c_spec_RingOk
  | 84 => some c_spec_SetOk
  | 85 => some c_laws_toChain
  | 86 => some c_laws_toRing
  | 87 => some c_laws_toIntSS
  | 88 => some c_laws_eqChain
  | 89 => some c_laws_eqRing
  | 90 => some c_laws_eqIntSS
  | 91 => some c_spec_l16Draw
  | 92 => some c_impl_listed
  | 93 => some c_impl_placeOf
  | 94 => some c_impl_setHas
  | 95 => some c_impl_ownSet
  | 96 => some c_impl_bucketed
  | 98 => some c_slices_Equal_int_int
  | 99 => some c_slices_DeleteFunc_int_int
  | 100 => some c_impl_SetDrop_1
  | 101 => some c_spec_NewSpace
  | 102 => some c_impl_NewSpace
  | 103 => some c_laws_eqIntS
  | 104 => some c_laws_eqInstrSS
  | 105 => some c_laws_eqWorld
  | 106 => some c_laws_markIntS
  | 107 => some c_laws_markInstrSS
  | 108 => some c_laws_markWorld
  | 109 => some c_laws_markSpace
  | 110 => some c_laws_heldIntS
  | 111 => some c_laws_heldInstrSS
  | 112 => some c_laws_heldWorld
  | 113 => some c_laws_heldSpace
  | 114 => some c_spec_l1Below
  | 115 => some c_spec_l1Once
  | 118 => some c_slices_ContainsFunc_int_int
  | 119 => some c_impl_areValues_1
  | 120 => some c_spec_l15Keys
  | 121 => some c_spec_l1In
  | 122 => some c_laws_toTwig
  | 123 => some c_laws_eqTwig
  | 124 => some c_spec_NewChain
  | 127 => some c_spec_NewTree
  | 129 => some c_laws_szIntS
  | 130 => some c_spec_l16Place
  | 131 => some c_laws_toNodeA16
  | 132 => some c_laws_toIntA8
  | 133 => some c_laws_toIntS
  | 134 => some c_laws_eqNodeA16
  | 135 => some c_laws_eqIntA8
  | 136 => some c_spec_NewSet
  | 137 => some c_spec_SetDrop
  | 138 => some c_spec_SetAdd
  | 139 => some c_slices_Concat_int_int
  | 140 => some c_slices_Contains_int_int
  | 141 => some c_impl_own
  | 144 => some c_slices_IndexFunc_int_int
  | 145 => some c_laws_eqInstrS
  | 146 => some c_laws_eqStore
  | 147 => some c_laws_eqThreadS
  | 148 => some c_laws_eqEventS
  | 149 => some c_laws_markInstrS
  | 150 => some c_laws_markStore
  | 151 => some c_laws_markThreadS
  | 152 => some c_laws_markEventS
  | 153 => some c_laws_markIntSS
  | 154 => some c_laws_heldInstrS
  | 155 => some c_laws_heldStore
  | 156 => some c_laws_heldThreadS
  | 157 => some c_laws_heldEventS
  | 158 => some c_laws_heldIntSS
  | 159 => some c_spec_l1Byte
  | 161 => some c_laws_toNode
  | 162 => some c_laws_eqNode
  | 163 => some c_spec_l16Copy
  | 164 => some c_spec_SetHas16
  | 165 => some c_spec_l16Double
  | 166 => some c_spec_l16Put
  | 168 => some c_slices_Index_int_int
  | 180 => some c_laws_eqInstr
  | 181 => some c_laws_eqHeadS
  | 182 => some c_laws_eqDescS
  | 183 => some c_laws_eqThread
  | 184 => some c_laws_eqEvent
  | 185 => some c_laws_markHeadS
  | 186 => some c_laws_markDescS
  | 187 => some c_laws_markEntryS
  | 188 => some c_laws_markFrameS
  | 189 => some c_laws_heldHeadS
  | 190 => some c_laws_heldDescS
  | 191 => some c_laws_heldEntryS
  | 192 => some c_laws_heldFrameS
  | 193 => some c_spec_l1Copy
  | 194 => some c_spec_l1Has
  | 201 => some c_laws_eqHead
  | 202 => some c_laws_eqDesc
  | 203 => some c_laws_eqIntA4
  | 204 => some c_laws_eqEntryS
  | 205 => some c_laws_eqFrameS
  | 207 => some c_laws_eqEntry
  | 208 => some c_laws_eqFrame
  | _ => none
theorem T_7 : T 7 = some c_laws_FnExactSpaceOk := rfl
theorem T_8 : T 8 = some c_laws_FnSets := rfl
theorem T_9 : T 9 = some c_laws_FnExactNewBench := rfl
theorem T_10 : T 10 = some c_laws_big := rfl
theorem T_14 : T 14 = some c_impl_RingOk := rfl
theorem T_17 : T 17 = some c_laws_at := rfl
theorem T_21 : T 21 = some c_laws_toTree := rfl
theorem T_23 : T 23 = some c_laws_eqTree := rfl
theorem T_26 : T 26 = some c_impl_ChainOk := rfl
theorem T_31 : T 31 = some c_laws_within := rfl
theorem T_32 : T 32 = some c_impl_NewChain := rfl
theorem T_35 : T 35 = some c_impl_TreeOk := rfl
theorem T_40 : T 40 = some c_impl_NewTree := rfl
theorem T_41 : T 41 = some c_laws_szSpace := rfl
theorem T_42 : T 42 = some c_spec_SpaceOk := rfl
theorem T_43 : T 43 = some c_laws_toSpace := rfl
theorem T_44 : T 44 = some c_impl_SpaceOk := rfl
theorem T_45 : T 45 = some c_laws_eqSpace := rfl
theorem T_46 : T 46 = some c_spec_DrawSet := rfl
theorem T_47 : T 47 = some c_impl_SetList := rfl
theorem T_48 : T 48 = some c_impl_SetOk := rfl
theorem T_49 : T 49 = some c_impl_SetHas16 := rfl
theorem T_50 : T 50 = some c_impl_SetAdd := rfl
theorem T_51 : T 51 = some c_impl_SetSame := rfl
theorem T_52 : T 52 = some c_impl_SetDrop := rfl
theorem T_53 : T 53 = some c_impl_NewSet := rfl
theorem T_54 : T 54 = some c_impl_SetJoin := rfl
theorem T_55 : T 55 = some c_spec_NewBench := rfl
theorem T_56 : T 56 = some c_impl_NewBench := rfl
theorem T_57 : T 57 = some c_laws_eqBench := rfl
theorem T_58 : T 58 = some c_laws_markBench := rfl
theorem T_59 : T 59 = some c_laws_heldBench := rfl
theorem T_61 : T 61 = some c_spec_l1New := rfl
theorem T_62 : T 62 = some c_impl_isValue := rfl
theorem T_63 : T 63 = some c_impl_in := rfl
theorem T_64 : T 64 = some c_impl_areValues := rfl
theorem T_65 : T 65 = some c_spec_TreeOk := rfl
theorem T_66 : T 66 = some c_spec_l1Value := rfl
theorem T_69 : T 69 = some c_laws_toTwigA16 := rfl
theorem T_71 : T 71 = some c_laws_eqTwigA16 := rfl
theorem T_78 : T 78 = some c_impl_Tree_isPart := rfl
theorem T_81 : T 81 = some c_laws_szIntSS := rfl
theorem T_82 : T 82 = some c_spec_ChainOk := rfl
theorem T_83 : T 83 = some c_spec_RingOk := rfl
theorem T_84 : T 84 = some c_spec_SetOk := rfl
theorem T_85 : T 85 = some c_laws_toChain := rfl
theorem T_86 : T 86 = some c_laws_toRing := rfl
theorem T_87 : T 87 = some c_laws_toIntSS := rfl
theorem T_88 : T 88 = some c_laws_eqChain := rfl
theorem T_89 : T 89 = some c_laws_eqRing := rfl
theorem T_90 : T 90 = some c_laws_eqIntSS := rfl
theorem T_91 : T 91 = some c_spec_l16Draw := rfl
theorem T_92 : T 92 = some c_impl_listed := rfl
theorem T_93 : T 93 = some c_impl_placeOf := rfl
theorem T_94 : T 94 = some c_impl_setHas := rfl
theorem T_95 : T 95 = some c_impl_ownSet := rfl
theorem T_96 : T 96 = some c_impl_bucketed := rfl
theorem T_98 : T 98 = some c_slices_Equal_int_int := rfl
theorem T_99 : T 99 = some c_slices_DeleteFunc_int_int := rfl
theorem T_100 : T 100 = some c_impl_SetDrop_1 := rfl
theorem T_101 : T 101 = some c_spec_NewSpace := rfl
theorem T_102 : T 102 = some c_impl_NewSpace := rfl
theorem T_103 : T 103 = some c_laws_eqIntS := rfl
theorem T_104 : T 104 = some c_laws_eqInstrSS := rfl
theorem T_105 : T 105 = some c_laws_eqWorld := rfl
theorem T_106 : T 106 = some c_laws_markIntS := rfl
theorem T_107 : T 107 = some c_laws_markInstrSS := rfl
theorem T_108 : T 108 = some c_laws_markWorld := rfl
theorem T_109 : T 109 = some c_laws_markSpace := rfl
theorem T_110 : T 110 = some c_laws_heldIntS := rfl
theorem T_111 : T 111 = some c_laws_heldInstrSS := rfl
theorem T_112 : T 112 = some c_laws_heldWorld := rfl
theorem T_113 : T 113 = some c_laws_heldSpace := rfl
theorem T_114 : T 114 = some c_spec_l1Below := rfl
theorem T_115 : T 115 = some c_spec_l1Once := rfl
theorem T_118 : T 118 = some c_slices_ContainsFunc_int_int := rfl
theorem T_119 : T 119 = some c_impl_areValues_1 := rfl
theorem T_120 : T 120 = some c_spec_l15Keys := rfl
theorem T_121 : T 121 = some c_spec_l1In := rfl
theorem T_122 : T 122 = some c_laws_toTwig := rfl
theorem T_123 : T 123 = some c_laws_eqTwig := rfl
theorem T_124 : T 124 = some c_spec_NewChain := rfl
theorem T_127 : T 127 = some c_spec_NewTree := rfl
theorem T_129 : T 129 = some c_laws_szIntS := rfl
theorem T_130 : T 130 = some c_spec_l16Place := rfl
theorem T_131 : T 131 = some c_laws_toNodeA16 := rfl
theorem T_132 : T 132 = some c_laws_toIntA8 := rfl
theorem T_133 : T 133 = some c_laws_toIntS := rfl
theorem T_134 : T 134 = some c_laws_eqNodeA16 := rfl
theorem T_135 : T 135 = some c_laws_eqIntA8 := rfl
theorem T_136 : T 136 = some c_spec_NewSet := rfl
theorem T_137 : T 137 = some c_spec_SetDrop := rfl
theorem T_138 : T 138 = some c_spec_SetAdd := rfl
theorem T_139 : T 139 = some c_slices_Concat_int_int := rfl
theorem T_140 : T 140 = some c_slices_Contains_int_int := rfl
theorem T_141 : T 141 = some c_impl_own := rfl
theorem T_144 : T 144 = some c_slices_IndexFunc_int_int := rfl
theorem T_145 : T 145 = some c_laws_eqInstrS := rfl
theorem T_146 : T 146 = some c_laws_eqStore := rfl
theorem T_147 : T 147 = some c_laws_eqThreadS := rfl
theorem T_148 : T 148 = some c_laws_eqEventS := rfl
theorem T_149 : T 149 = some c_laws_markInstrS := rfl
theorem T_150 : T 150 = some c_laws_markStore := rfl
theorem T_151 : T 151 = some c_laws_markThreadS := rfl
theorem T_152 : T 152 = some c_laws_markEventS := rfl
theorem T_153 : T 153 = some c_laws_markIntSS := rfl
theorem T_154 : T 154 = some c_laws_heldInstrS := rfl
theorem T_155 : T 155 = some c_laws_heldStore := rfl
theorem T_156 : T 156 = some c_laws_heldThreadS := rfl
theorem T_157 : T 157 = some c_laws_heldEventS := rfl
theorem T_158 : T 158 = some c_laws_heldIntSS := rfl
theorem T_159 : T 159 = some c_spec_l1Byte := rfl
theorem T_161 : T 161 = some c_laws_toNode := rfl
theorem T_162 : T 162 = some c_laws_eqNode := rfl
theorem T_163 : T 163 = some c_spec_l16Copy := rfl
theorem T_164 : T 164 = some c_spec_SetHas16 := rfl
theorem T_165 : T 165 = some c_spec_l16Double := rfl
theorem T_166 : T 166 = some c_spec_l16Put := rfl
theorem T_168 : T 168 = some c_slices_Index_int_int := rfl
theorem T_180 : T 180 = some c_laws_eqInstr := rfl
theorem T_181 : T 181 = some c_laws_eqHeadS := rfl
theorem T_182 : T 182 = some c_laws_eqDescS := rfl
theorem T_183 : T 183 = some c_laws_eqThread := rfl
theorem T_184 : T 184 = some c_laws_eqEvent := rfl
theorem T_185 : T 185 = some c_laws_markHeadS := rfl
theorem T_186 : T 186 = some c_laws_markDescS := rfl
theorem T_187 : T 187 = some c_laws_markEntryS := rfl
theorem T_188 : T 188 = some c_laws_markFrameS := rfl
theorem T_189 : T 189 = some c_laws_heldHeadS := rfl
theorem T_190 : T 190 = some c_laws_heldDescS := rfl
theorem T_191 : T 191 = some c_laws_heldEntryS := rfl
theorem T_192 : T 192 = some c_laws_heldFrameS := rfl
theorem T_193 : T 193 = some c_spec_l1Copy := rfl
theorem T_194 : T 194 = some c_spec_l1Has := rfl
theorem T_201 : T 201 = some c_laws_eqHead := rfl
theorem T_202 : T 202 = some c_laws_eqDesc := rfl
theorem T_203 : T 203 = some c_laws_eqIntA4 := rfl
theorem T_204 : T 204 = some c_laws_eqEntryS := rfl
theorem T_205 : T 205 = some c_laws_eqFrameS := rfl
theorem T_207 : T 207 = some c_laws_eqEntry := rfl
theorem T_208 : T 208 = some c_laws_eqFrame := rfl
theorem ne_name {s t : String} (h : (s == t) = false) : s ≠ t := by simpa using h
theorem tabOk : TabOk Try.prog T := by
  intro f ifn h
  unfold T at h
  split at h
  · injection h with h; subst h; exact ⟨_, _, Try.func7, c_laws_FnExactSpaceOk_ok, ne_name (by kernel_rfl)⟩
  · injection h with h; subst h; exact ⟨_, _, Try.func8, c_laws_FnSets_ok, ne_name (by kernel_rfl)⟩
  · injection h with h; subst h; exact ⟨_, _, Try.func9, c_laws_FnExactNewBench_ok, ne_name (by kernel_rfl)⟩
  · injection h with h; subst h; exact ⟨_, _, Try.func10, c_laws_big_ok, ne_name (by kernel_rfl)⟩
  · injection h with h; subst h; exact ⟨_, _, Try.func14, c_impl_RingOk_ok, ne_name (by kernel_rfl)⟩
  · injection h with h; subst h; exact ⟨_, _, Try.func17, c_laws_at_ok, ne_name (by kernel_rfl)⟩
  · injection h with h; subst h; exact ⟨_, _, Try.func21, c_laws_toTree_ok, ne_name (by kernel_rfl)⟩
  · injection h with h; subst h; exact ⟨_, _, Try.func23, c_laws_eqTree_ok, ne_name (by kernel_rfl)⟩
  · injection h with h; subst h; exact ⟨_, _, Try.func26, c_impl_ChainOk_ok, ne_name (by kernel_rfl)⟩
  · injection h with h; subst h; exact ⟨_, _, Try.func31, c_laws_within_ok, ne_name (by kernel_rfl)⟩
  · injection h with h; subst h; exact ⟨_, _, Try.func32, c_impl_NewChain_ok, ne_name (by kernel_rfl)⟩
  · injection h with h; subst h; exact ⟨_, _, Try.func35, c_impl_TreeOk_ok, ne_name (by kernel_rfl)⟩
  · injection h with h; subst h; exact ⟨_, _, Try.func40, c_impl_NewTree_ok, ne_name (by kernel_rfl)⟩
  · injection h with h; subst h; exact ⟨_, _, Try.func41, c_laws_szSpace_ok, ne_name (by kernel_rfl)⟩
  · injection h with h; subst h; exact ⟨_, _, Try.func42, c_spec_SpaceOk_ok, ne_name (by kernel_rfl)⟩
  · injection h with h; subst h; exact ⟨_, _, Try.func43, c_laws_toSpace_ok, ne_name (by kernel_rfl)⟩
  · injection h with h; subst h; exact ⟨_, _, Try.func44, c_impl_SpaceOk_ok, ne_name (by kernel_rfl)⟩
  · injection h with h; subst h; exact ⟨_, _, Try.func45, c_laws_eqSpace_ok, ne_name (by kernel_rfl)⟩
  · injection h with h; subst h; exact ⟨_, _, Try.func46, c_spec_DrawSet_ok, ne_name (by kernel_rfl)⟩
  · injection h with h; subst h; exact ⟨_, _, Try.func47, c_impl_SetList_ok, ne_name (by kernel_rfl)⟩
  · injection h with h; subst h; exact ⟨_, _, Try.func48, c_impl_SetOk_ok, ne_name (by kernel_rfl)⟩
  · injection h with h; subst h; exact ⟨_, _, Try.func49, c_impl_SetHas16_ok, ne_name (by kernel_rfl)⟩
  · injection h with h; subst h; exact ⟨_, _, Try.func50, c_impl_SetAdd_ok, ne_name (by kernel_rfl)⟩
  · injection h with h; subst h; exact ⟨_, _, Try.func51, c_impl_SetSame_ok, ne_name (by kernel_rfl)⟩
  · injection h with h; subst h; exact ⟨_, _, Try.func52, c_impl_SetDrop_ok, ne_name (by kernel_rfl)⟩
  · injection h with h; subst h; exact ⟨_, _, Try.func53, c_impl_NewSet_ok, ne_name (by kernel_rfl)⟩
  · injection h with h; subst h; exact ⟨_, _, Try.func54, c_impl_SetJoin_ok, ne_name (by kernel_rfl)⟩
  · injection h with h; subst h; exact ⟨_, _, Try.func55, c_spec_NewBench_ok, ne_name (by kernel_rfl)⟩
  · injection h with h; subst h; exact ⟨_, _, Try.func56, c_impl_NewBench_ok, ne_name (by kernel_rfl)⟩
  · injection h with h; subst h; exact ⟨_, _, Try.func57, c_laws_eqBench_ok, ne_name (by kernel_rfl)⟩
  · injection h with h; subst h; exact ⟨_, _, Try.func58, c_laws_markBench_ok, ne_name (by kernel_rfl)⟩
  · injection h with h; subst h; exact ⟨_, _, Try.func59, c_laws_heldBench_ok, ne_name (by kernel_rfl)⟩
  · injection h with h; subst h; exact ⟨_, _, Try.func61, c_spec_l1New_ok, ne_name (by kernel_rfl)⟩
  · injection h with h; subst h; exact ⟨_, _, Try.func62, c_impl_isValue_ok, ne_name (by kernel_rfl)⟩
  · injection h with h; subst h; exact ⟨_, _, Try.func63, c_impl_in_ok, ne_name (by kernel_rfl)⟩
  · injection h with h; subst h; exact ⟨_, _, Try.func64, c_impl_areValues_ok, ne_name (by kernel_rfl)⟩
  · injection h with h; subst h; exact ⟨_, _, Try.func65, c_spec_TreeOk_ok, ne_name (by kernel_rfl)⟩
  · injection h with h; subst h; exact ⟨_, _, Try.func66, c_spec_l1Value_ok, ne_name (by kernel_rfl)⟩
  · injection h with h; subst h; exact ⟨_, _, Try.func69, c_laws_toTwigA16_ok, ne_name (by kernel_rfl)⟩
  · injection h with h; subst h; exact ⟨_, _, Try.func71, c_laws_eqTwigA16_ok, ne_name (by kernel_rfl)⟩
  · injection h with h; subst h; exact ⟨_, _, Try.func78, c_impl_Tree_isPart_ok, ne_name (by kernel_rfl)⟩
  · injection h with h; subst h; exact ⟨_, _, Try.func81, c_laws_szIntSS_ok, ne_name (by kernel_rfl)⟩
  · injection h with h; subst h; exact ⟨_, _, Try.func82, c_spec_ChainOk_ok, ne_name (by kernel_rfl)⟩
  · injection h with h; subst h; exact ⟨_, _, Try.func83, c_spec_RingOk_ok, ne_name (by kernel_rfl)⟩
  · injection h with h; subst h; exact ⟨_, _, Try.func84, c_spec_SetOk_ok, ne_name (by kernel_rfl)⟩
  · injection h with h; subst h; exact ⟨_, _, Try.func85, c_laws_toChain_ok, ne_name (by kernel_rfl)⟩
  · injection h with h; subst h; exact ⟨_, _, Try.func86, c_laws_toRing_ok, ne_name (by kernel_rfl)⟩
  · injection h with h; subst h; exact ⟨_, _, Try.func87, c_laws_toIntSS_ok, ne_name (by kernel_rfl)⟩
  · injection h with h; subst h; exact ⟨_, _, Try.func88, c_laws_eqChain_ok, ne_name (by kernel_rfl)⟩
  · injection h with h; subst h; exact ⟨_, _, Try.func89, c_laws_eqRing_ok, ne_name (by kernel_rfl)⟩
  · injection h with h; subst h; exact ⟨_, _, Try.func90, c_laws_eqIntSS_ok, ne_name (by kernel_rfl)⟩
  · injection h with h; subst h; exact ⟨_, _, Try.func91, c_spec_l16Draw_ok, ne_name (by kernel_rfl)⟩
  · injection h with h; subst h; exact ⟨_, _, Try.func92, c_impl_listed_ok, ne_name (by kernel_rfl)⟩
  · injection h with h; subst h; exact ⟨_, _, Try.func93, c_impl_placeOf_ok, ne_name (by kernel_rfl)⟩
  · injection h with h; subst h; exact ⟨_, _, Try.func94, c_impl_setHas_ok, ne_name (by kernel_rfl)⟩
  · injection h with h; subst h; exact ⟨_, _, Try.func95, c_impl_ownSet_ok, ne_name (by kernel_rfl)⟩
  · injection h with h; subst h; exact ⟨_, _, Try.func96, c_impl_bucketed_ok, ne_name (by kernel_rfl)⟩
  · injection h with h; subst h; exact ⟨_, _, Try.func98, c_slices_Equal_int_int_ok, ne_name (by kernel_rfl)⟩
  · injection h with h; subst h; exact ⟨_, _, Try.func99, c_slices_DeleteFunc_int_int_ok, ne_name (by kernel_rfl)⟩
  · injection h with h; subst h; exact ⟨_, _, Try.func100, c_impl_SetDrop_1_ok, ne_name (by kernel_rfl)⟩
  · injection h with h; subst h; exact ⟨_, _, Try.func101, c_spec_NewSpace_ok, ne_name (by kernel_rfl)⟩
  · injection h with h; subst h; exact ⟨_, _, Try.func102, c_impl_NewSpace_ok, ne_name (by kernel_rfl)⟩
  · injection h with h; subst h; exact ⟨_, _, Try.func103, c_laws_eqIntS_ok, ne_name (by kernel_rfl)⟩
  · injection h with h; subst h; exact ⟨_, _, Try.func104, c_laws_eqInstrSS_ok, ne_name (by kernel_rfl)⟩
  · injection h with h; subst h; exact ⟨_, _, Try.func105, c_laws_eqWorld_ok, ne_name (by kernel_rfl)⟩
  · injection h with h; subst h; exact ⟨_, _, Try.func106, c_laws_markIntS_ok, ne_name (by kernel_rfl)⟩
  · injection h with h; subst h; exact ⟨_, _, Try.func107, c_laws_markInstrSS_ok, ne_name (by kernel_rfl)⟩
  · injection h with h; subst h; exact ⟨_, _, Try.func108, c_laws_markWorld_ok, ne_name (by kernel_rfl)⟩
  · injection h with h; subst h; exact ⟨_, _, Try.func109, c_laws_markSpace_ok, ne_name (by kernel_rfl)⟩
  · injection h with h; subst h; exact ⟨_, _, Try.func110, c_laws_heldIntS_ok, ne_name (by kernel_rfl)⟩
  · injection h with h; subst h; exact ⟨_, _, Try.func111, c_laws_heldInstrSS_ok, ne_name (by kernel_rfl)⟩
  · injection h with h; subst h; exact ⟨_, _, Try.func112, c_laws_heldWorld_ok, ne_name (by kernel_rfl)⟩
  · injection h with h; subst h; exact ⟨_, _, Try.func113, c_laws_heldSpace_ok, ne_name (by kernel_rfl)⟩
  · injection h with h; subst h; exact ⟨_, _, Try.func114, c_spec_l1Below_ok, ne_name (by kernel_rfl)⟩
  · injection h with h; subst h; exact ⟨_, _, Try.func115, c_spec_l1Once_ok, ne_name (by kernel_rfl)⟩
  · injection h with h; subst h; exact ⟨_, _, Try.func118, c_slices_ContainsFunc_int_int_ok, ne_name (by kernel_rfl)⟩
  · injection h with h; subst h; exact ⟨_, _, Try.func119, c_impl_areValues_1_ok, ne_name (by kernel_rfl)⟩
  · injection h with h; subst h; exact ⟨_, _, Try.func120, c_spec_l15Keys_ok, ne_name (by kernel_rfl)⟩
  · injection h with h; subst h; exact ⟨_, _, Try.func121, c_spec_l1In_ok, ne_name (by kernel_rfl)⟩
  · injection h with h; subst h; exact ⟨_, _, Try.func122, c_laws_toTwig_ok, ne_name (by kernel_rfl)⟩
  · injection h with h; subst h; exact ⟨_, _, Try.func123, c_laws_eqTwig_ok, ne_name (by kernel_rfl)⟩
  · injection h with h; subst h; exact ⟨_, _, Try.func124, c_spec_NewChain_ok, ne_name (by kernel_rfl)⟩
  · injection h with h; subst h; exact ⟨_, _, Try.func127, c_spec_NewTree_ok, ne_name (by kernel_rfl)⟩
  · injection h with h; subst h; exact ⟨_, _, Try.func129, c_laws_szIntS_ok, ne_name (by kernel_rfl)⟩
  · injection h with h; subst h; exact ⟨_, _, Try.func130, c_spec_l16Place_ok, ne_name (by kernel_rfl)⟩
  · injection h with h; subst h; exact ⟨_, _, Try.func131, c_laws_toNodeA16_ok, ne_name (by kernel_rfl)⟩
  · injection h with h; subst h; exact ⟨_, _, Try.func132, c_laws_toIntA8_ok, ne_name (by kernel_rfl)⟩
  · injection h with h; subst h; exact ⟨_, _, Try.func133, c_laws_toIntS_ok, ne_name (by kernel_rfl)⟩
  · injection h with h; subst h; exact ⟨_, _, Try.func134, c_laws_eqNodeA16_ok, ne_name (by kernel_rfl)⟩
  · injection h with h; subst h; exact ⟨_, _, Try.func135, c_laws_eqIntA8_ok, ne_name (by kernel_rfl)⟩
  · injection h with h; subst h; exact ⟨_, _, Try.func136, c_spec_NewSet_ok, ne_name (by kernel_rfl)⟩
  · injection h with h; subst h; exact ⟨_, _, Try.func137, c_spec_SetDrop_ok, ne_name (by kernel_rfl)⟩
  · injection h with h; subst h; exact ⟨_, _, Try.func138, c_spec_SetAdd_ok, ne_name (by kernel_rfl)⟩
  · injection h with h; subst h; exact ⟨_, _, Try.func139, c_slices_Concat_int_int_ok, ne_name (by kernel_rfl)⟩
  · injection h with h; subst h; exact ⟨_, _, Try.func140, c_slices_Contains_int_int_ok, ne_name (by kernel_rfl)⟩
  · injection h with h; subst h; exact ⟨_, _, Try.func141, c_impl_own_ok, ne_name (by kernel_rfl)⟩
  · injection h with h; subst h; exact ⟨_, _, Try.func144, c_slices_IndexFunc_int_int_ok, ne_name (by kernel_rfl)⟩
  · injection h with h; subst h; exact ⟨_, _, Try.func145, c_laws_eqInstrS_ok, ne_name (by kernel_rfl)⟩
  · injection h with h; subst h; exact ⟨_, _, Try.func146, c_laws_eqStore_ok, ne_name (by kernel_rfl)⟩
  · injection h with h; subst h; exact ⟨_, _, Try.func147, c_laws_eqThreadS_ok, ne_name (by kernel_rfl)⟩
  · injection h with h; subst h; exact ⟨_, _, Try.func148, c_laws_eqEventS_ok, ne_name (by kernel_rfl)⟩
  · injection h with h; subst h; exact ⟨_, _, Try.func149, c_laws_markInstrS_ok, ne_name (by kernel_rfl)⟩
  · injection h with h; subst h; exact ⟨_, _, Try.func150, c_laws_markStore_ok, ne_name (by kernel_rfl)⟩
  · injection h with h; subst h; exact ⟨_, _, Try.func151, c_laws_markThreadS_ok, ne_name (by kernel_rfl)⟩
  · injection h with h; subst h; exact ⟨_, _, Try.func152, c_laws_markEventS_ok, ne_name (by kernel_rfl)⟩
  · injection h with h; subst h; exact ⟨_, _, Try.func153, c_laws_markIntSS_ok, ne_name (by kernel_rfl)⟩
  · injection h with h; subst h; exact ⟨_, _, Try.func154, c_laws_heldInstrS_ok, ne_name (by kernel_rfl)⟩
  · injection h with h; subst h; exact ⟨_, _, Try.func155, c_laws_heldStore_ok, ne_name (by kernel_rfl)⟩
  · injection h with h; subst h; exact ⟨_, _, Try.func156, c_laws_heldThreadS_ok, ne_name (by kernel_rfl)⟩
  · injection h with h; subst h; exact ⟨_, _, Try.func157, c_laws_heldEventS_ok, ne_name (by kernel_rfl)⟩
  · injection h with h; subst h; exact ⟨_, _, Try.func158, c_laws_heldIntSS_ok, ne_name (by kernel_rfl)⟩
  · injection h with h; subst h; exact ⟨_, _, Try.func159, c_spec_l1Byte_ok, ne_name (by kernel_rfl)⟩
  · injection h with h; subst h; exact ⟨_, _, Try.func161, c_laws_toNode_ok, ne_name (by kernel_rfl)⟩
  · injection h with h; subst h; exact ⟨_, _, Try.func162, c_laws_eqNode_ok, ne_name (by kernel_rfl)⟩
  · injection h with h; subst h; exact ⟨_, _, Try.func163, c_spec_l16Copy_ok, ne_name (by kernel_rfl)⟩
  · injection h with h; subst h; exact ⟨_, _, Try.func164, c_spec_SetHas16_ok, ne_name (by kernel_rfl)⟩
  · injection h with h; subst h; exact ⟨_, _, Try.func165, c_spec_l16Double_ok, ne_name (by kernel_rfl)⟩
  · injection h with h; subst h; exact ⟨_, _, Try.func166, c_spec_l16Put_ok, ne_name (by kernel_rfl)⟩
  · injection h with h; subst h; exact ⟨_, _, Try.func168, c_slices_Index_int_int_ok, ne_name (by kernel_rfl)⟩
  · injection h with h; subst h; exact ⟨_, _, Try.func180, c_laws_eqInstr_ok, ne_name (by kernel_rfl)⟩
  · injection h with h; subst h; exact ⟨_, _, Try.func181, c_laws_eqHeadS_ok, ne_name (by kernel_rfl)⟩
  · injection h with h; subst h; exact ⟨_, _, Try.func182, c_laws_eqDescS_ok, ne_name (by kernel_rfl)⟩
  · injection h with h; subst h; exact ⟨_, _, Try.func183, c_laws_eqThread_ok, ne_name (by kernel_rfl)⟩
  · injection h with h; subst h; exact ⟨_, _, Try.func184, c_laws_eqEvent_ok, ne_name (by kernel_rfl)⟩
  · injection h with h; subst h; exact ⟨_, _, Try.func185, c_laws_markHeadS_ok, ne_name (by kernel_rfl)⟩
  · injection h with h; subst h; exact ⟨_, _, Try.func186, c_laws_markDescS_ok, ne_name (by kernel_rfl)⟩
  · injection h with h; subst h; exact ⟨_, _, Try.func187, c_laws_markEntryS_ok, ne_name (by kernel_rfl)⟩
  · injection h with h; subst h; exact ⟨_, _, Try.func188, c_laws_markFrameS_ok, ne_name (by kernel_rfl)⟩
  · injection h with h; subst h; exact ⟨_, _, Try.func189, c_laws_heldHeadS_ok, ne_name (by kernel_rfl)⟩
  · injection h with h; subst h; exact ⟨_, _, Try.func190, c_laws_heldDescS_ok, ne_name (by kernel_rfl)⟩
  · injection h with h; subst h; exact ⟨_, _, Try.func191, c_laws_heldEntryS_ok, ne_name (by kernel_rfl)⟩
  · injection h with h; subst h; exact ⟨_, _, Try.func192, c_laws_heldFrameS_ok, ne_name (by kernel_rfl)⟩
  · injection h with h; subst h; exact ⟨_, _, Try.func193, c_spec_l1Copy_ok, ne_name (by kernel_rfl)⟩
  · injection h with h; subst h; exact ⟨_, _, Try.func194, c_spec_l1Has_ok, ne_name (by kernel_rfl)⟩
  · injection h with h; subst h; exact ⟨_, _, Try.func201, c_laws_eqHead_ok, ne_name (by kernel_rfl)⟩
  · injection h with h; subst h; exact ⟨_, _, Try.func202, c_laws_eqDesc_ok, ne_name (by kernel_rfl)⟩
  · injection h with h; subst h; exact ⟨_, _, Try.func203, c_laws_eqIntA4_ok, ne_name (by kernel_rfl)⟩
  · injection h with h; subst h; exact ⟨_, _, Try.func204, c_laws_eqEntryS_ok, ne_name (by kernel_rfl)⟩
  · injection h with h; subst h; exact ⟨_, _, Try.func205, c_laws_eqFrameS_ok, ne_name (by kernel_rfl)⟩
  · injection h with h; subst h; exact ⟨_, _, Try.func207, c_laws_eqEntry_ok, ne_name (by kernel_rfl)⟩
  · injection h with h; subst h; exact ⟨_, _, Try.func208, c_laws_eqFrame_ok, ne_name (by kernel_rfl)⟩
  · cases h
end Go.Proofs.Ytdnfcomgdgdifaa
