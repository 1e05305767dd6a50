/-
  The functions of the program that the laws here reach, in the small language; each is what the translation gives (checked by the kernel).
-/
import Derived.Test.YtkoloapgeilbdaaTaba
import Derived.Test.YtkoloapgeilbdaaD
import Derived.Test.YtkoloapgeilbdaaProg
import Derived.KernelRfl
set_option linter.unusedVariables false
namespace Go.Proofs.Ytkoloapgeilbdaa
def c_impl_Tree_walk_b0 : IC :=
  (.seq (.seq (.reg false [⟨some 13, none, .mov (.t 7)⟩,
 ⟨some 14, none, .chk (.t 13)⟩,
 ⟨some 15, none, .load1 (.t 14)⟩,
 ⟨some 16, none, .bin .neq (.t 15) (.k (.c (.int .i64 (-1))))⟩])
 (.cond (.t 16) .skip (.exit 0)))
 (.block 1 none none
 (.seq (.seq (.reg false [⟨some 17, none, .mov (.t 8)⟩,
 ⟨some 18, none, .bin .eql (.t 17) (.k (.c (.int .i64 8)))⟩])
 (.cond (.t 18) (.seq (.reg false [⟨some 19, none, .mov (.t 7)⟩,
 ⟨some 20, none, .mov (.t 8)⟩,
 ⟨some 4, none, .mov (.t 19)⟩,
 ⟨some 5, none, .mov (.t 20)⟩,
 ⟨some 6, none, .mov (.k (.c (.bool false)))⟩])
 (.ret (some [4, 5, 6]))) .skip))
 (.seq (.reg false [⟨some 21, none, .mov (.t 8)⟩,
 ⟨some 22, none, .bin .add (.t 21) (.k (.c (.int .i64 1)))⟩,
 ⟨some 8, none, .mov (.t 22)⟩])
 (.seq (.reg true [⟨some 23, none, .mov (.t 0)⟩,
 ⟨some 24, none, .mov (.t 7)⟩,
 ⟨some 25, none, .chk (.t 24)⟩,
 ⟨some 26, none, .load1 (.t 25)⟩,
 ⟨some 27, none, .chk (.t 23)⟩,
 ⟨some 28, none, .fld (.t 27) 0⟩,
 ⟨some 29, none, .ixa (.t 28) (.t 26) 16 4⟩,
 ⟨some 9, none, .mov (.t 29)⟩])
 (.block 2 none none
 (.seq (.reg false [⟨some 33, none, .mov (.t 1)⟩,
 ⟨some 34, none, .mov (.t 9)⟩,
 ⟨some 35, none, .chk (.t 34)⟩,
 ⟨some 36, none, .fld (.t 35) 1⟩,
 ⟨some 37, none, .load1 (.t 36)⟩,
 ⟨some 38, none, .bin .lss (.t 33) (.t 37)⟩,
 ⟨some 32, none, .mov (.t 38)⟩])
 (.cond (.t 32) (.reg false [⟨some 39, none, .mov (.t 9)⟩,
 ⟨some 40, none, .chk (.t 39)⟩,
 ⟨some 41, none, .fld (.t 40) 2⟩,
 ⟨some 7, none, .mov (.t 41)⟩]) (.seq (.reg false [⟨some 43, none, .mov (.t 1)⟩,
 ⟨some 44, none, .mov (.t 9)⟩,
 ⟨some 45, none, .chk (.t 44)⟩,
 ⟨some 46, none, .fld (.t 45) 1⟩,
 ⟨some 47, none, .load1 (.t 46)⟩,
 ⟨some 48, none, .bin .gtr (.t 43) (.t 47)⟩,
 ⟨some 42, none, .mov (.t 48)⟩])
 (.cond (.t 42) (.reg false [⟨some 49, none, .mov (.t 9)⟩,
 ⟨some 50, none, .chk (.t 49)⟩,
 ⟨some 51, none, .fld (.t 50) 3⟩,
 ⟨some 7, none, .mov (.t 51)⟩]) (.seq (.reg false [⟨some 30, none, .mov (.t 7)⟩,
 ⟨some 31, none, .mov (.t 8)⟩,
 ⟨some 4, none, .mov (.t 30)⟩,
 ⟨some 5, none, .mov (.t 31)⟩,
 ⟨some 6, none, .mov (.k (.c (.bool true)))⟩])
 (.ret (some [4, 5, 6])))))))))))))
def c_impl_Tree_walk : IFn := ⟨54, [.t 4, .t 5, .t 6],
  (.seq (.reg false [⟨some 4, none, .mov (.k (.c .nilp))⟩,
 ⟨some 5, none, .mov (.k (.c (.int .i64 0)))⟩,
 ⟨some 6, none, .mov (.k (.c (.bool false)))⟩])
 (.seq (.reg false [⟨some 10, none, .mov (.t 0)⟩,
 ⟨some 11, none, .chk (.t 10)⟩,
 ⟨some 12, none, .fld (.t 11) 64⟩,
 ⟨some 7, none, .mov (.t 12)⟩,
 ⟨some 8, none, .mov (.k (.c (.int .i64 0)))⟩])
 (.seq (.block 0 (some [0, 1, 7, 8]) (some [7, 8])
 (.loop c_impl_Tree_walk_b0))
 (.seq (.reg false [⟨some 52, none, .mov (.t 7)⟩,
 ⟨some 53, none, .mov (.t 8)⟩,
 ⟨some 4, none, .mov (.t 52)⟩,
 ⟨some 5, none, .mov (.t 53)⟩,
 ⟨some 6, none, .mov (.k (.c (.bool true)))⟩])
 (.ret (some [4, 5, 6]))))))⟩
theorem c_impl_Tree_walk_ok : trF Try.prog ⟨[(0, [0, 1, 7, 8], [7, 8])], [4, 5, 6], false⟩ Try.f94 = some c_impl_Tree_walk := by kernel_rfl
def c_laws_eqTwigA16_b0 : IC :=
  (.seq (.seq (.reg false [⟨some 6, none, .mov (.t 5)⟩,
 ⟨some 7, none, .bin .lss (.t 6) (.k (.c (.int .i64 16)))⟩])
 (.cond (.t 7) .skip (.exit 0)))
 (.seq (.block 1 none none
 (.seq (.reg true [⟨some 10, none, .mov (.t 5)⟩,
 ⟨some 11, none, .ixa (.t 2) (.t 10) 16 4⟩,
 ⟨some 12, none, .loadN (.t 11) 4⟩,
 ⟨some 13, none, .mov (.t 5)⟩,
 ⟨some 14, none, .ixa (.t 3) (.t 13) 16 4⟩,
 ⟨some 15, none, .loadN (.t 14) 4⟩,
 ⟨some 16, none, .call 114 [.t 12, .t 15]⟩,
 ⟨some 17, none, .un .not (.t 16)⟩])
 (.cond (.t 17) (.seq (.reg false [⟨some 4, none, .mov (.k (.c (.bool false)))⟩])
 (.ret (some [4]))) .skip)))
 (.reg false [⟨some 8, none, .mov (.t 5)⟩,
 ⟨some 9, none, .bin .add (.t 8) (.k (.c (.int .i64 1)))⟩,
 ⟨some 5, none, .mov (.t 9)⟩])))
def c_laws_eqTwigA16 : IFn := ⟨18, [.t 4],
  (.seq (.reg false [⟨some 2, none, .box (.t 0) 49⟩,
 ⟨some 3, none, .box (.t 1) 49⟩,
 ⟨some 4, none, .mov (.k (.c (.bool false)))⟩])
 (.seq (.seq (.reg false [⟨some 5, none, .mov (.k (.c (.int .i64 0)))⟩])
 (.block 0 (some [2, 3, 5]) (some [])
 (.loop c_laws_eqTwigA16_b0)))
 (.seq (.reg false [⟨some 4, none, .mov (.k (.c (.bool true)))⟩])
 (.ret (some [4])))))⟩
theorem c_laws_eqTwigA16_ok : trF Try.prog ⟨[(0, [2, 3, 5], [])], [4], false⟩ Try.f95 = some c_laws_eqTwigA16 := by kernel_rfl
def c_slices_Equal_int_int_b0 : IC :=
  (.seq (.reg false [⟨some 14, none, .bin .lss (.t 13) (.t 12)⟩])
 (.seq (.cond (.t 14) .skip (.exit 0))
 (.seq (.block 1 none none
 (.seq (.reg false [⟨some 15, none, .mov (.t 13)⟩,
 ⟨some 5, none, .mov (.t 15)⟩])
 (.seq (.reg true [⟨some 16, none, .mov (.t 0)⟩,
 ⟨some 17, none, .mov (.t 5)⟩,
 ⟨some 18, none, .ixs (.t 16) (.t 17) 1⟩,
 ⟨some 19, none, .load1 (.t 18)⟩,
 ⟨some 20, none, .mov (.t 1)⟩,
 ⟨some 21, none, .mov (.t 5)⟩,
 ⟨some 22, none, .ixs (.t 20) (.t 21) 1⟩,
 ⟨some 23, none, .load1 (.t 22)⟩,
 ⟨some 24, none, .bin .neq (.t 19) (.t 23)⟩])
 (.cond (.t 24) (.seq (.reg false [⟨some 4, none, .mov (.k (.c (.bool false)))⟩])
 (.ret (some [4]))) .skip))))
 (.reg false [⟨some 25, none, .bin .add (.t 13) (.k (.c (.int .i64 1)))⟩,
 ⟨some 13, none, .mov (.t 25)⟩]))))
def c_slices_Equal_int_int : IFn := ⟨26, [.t 4],
  (.seq (.reg false [⟨some 4, none, .mov (.k (.c (.bool false)))⟩])
 (.seq (.seq (.reg false [⟨some 6, none, .mov (.t 0)⟩,
 ⟨some 7, none, .len (.t 6)⟩,
 ⟨some 8, none, .mov (.t 1)⟩,
 ⟨some 9, none, .len (.t 8)⟩,
 ⟨some 10, none, .bin .neq (.t 7) (.t 9)⟩])
 (.cond (.t 10) (.seq (.reg false [⟨some 4, none, .mov (.k (.c (.bool false)))⟩])
 (.ret (some [4]))) .skip))
 (.seq (.seq (.reg false [⟨some 11, none, .mov (.t 0)⟩,
 ⟨some 12, none, .len (.t 11)⟩,
 ⟨some 13, none, .mov (.k (.c (.int .i64 0)))⟩])
 (.block 0 (some [0, 1, 12, 13]) (some [])
 (.loop c_slices_Equal_int_int_b0)))
 (.seq (.reg false [⟨some 4, none, .mov (.k (.c (.bool true)))⟩])
 (.ret (some [4]))))))⟩
theorem c_slices_Equal_int_int_ok : trF Try.prog ⟨[(0, [0, 1, 12, 13], [])], [4], false⟩ Try.f96 = some c_slices_Equal_int_int := by kernel_rfl
def c_impl_listed : IFn := ⟨9, [.t 2],
  (.seq (.reg false [⟨some 2, none, .mov (.k (.c .nils))⟩])
 (.seq (.reg false [⟨some 4, none, .mov (.t 0)⟩,
 ⟨some 5, none, .call 115 [.t 4]⟩,
 ⟨some 3, none, .mov (.t 5)⟩])
 (.seq (.reg false [⟨some 6, none, .mov (.t 3)⟩,
 ⟨some 7, none, .call 101 [.t 6]⟩])
 (.seq (.reg false [⟨some 8, none, .mov (.t 3)⟩,
 ⟨some 2, none, .mov (.t 8)⟩])
 (.ret (some [2]))))))⟩
theorem c_impl_listed_ok : trF Try.prog ⟨[], [2], false⟩ Try.f97 = some c_impl_listed := by kernel_rfl
def c_spec_l16Put_b0 : IC :=
  (.seq (.seq (.reg false [⟨some 7, none, .mov (.t 5)⟩,
 ⟨some 8, none, .mov (.t 0)⟩,
 ⟨some 9, none, .len (.t 8)⟩,
 ⟨some 10, none, .bin .lss (.t 7) (.t 9)⟩,
 ⟨some 11, none, .mov (.t 10)⟩,
 ⟨some 12, some (11, true), .mov (.t 0)⟩,
 ⟨some 13, some (11, true), .mov (.t 5)⟩,
 ⟨some 14, some (11, true), .ixs (.t 12) (.t 13) 1⟩,
 ⟨some 15, some (11, true), .load1 (.t 14)⟩,
 ⟨some 16, some (11, true), .mov (.t 1)⟩,
 ⟨some 17, some (11, true), .bin .lss (.t 15) (.t 16)⟩,
 ⟨some 18, none, .pick (.t 11) (.t 17) (.k (.c (.bool false)))⟩])
 (.cond (.t 18) .skip (.exit 0)))
 (.block 1 none none
 (.reg false [⟨some 19, none, .mov (.t 5)⟩,
 ⟨some 20, none, .bin .add (.t 19) (.k (.c (.int .i64 1)))⟩,
 ⟨some 5, none, .mov (.t 20)⟩])))
def c_spec_l16Put : IFn := ⟨34, [.t 4],
  (.seq (.reg false [⟨some 4, none, .mov (.k (.c .nils))⟩])
 (.seq (.reg false [⟨some 5, none, .mov (.k (.c (.int .i64 0)))⟩])
 (.seq (.block 0 (some [0, 1, 5]) (some [0, 1, 5])
 (.loop c_spec_l16Put_b0))
 (.seq (.reg false [⟨some 21, none, .mov (.t 1)⟩,
 ⟨some 22, none, .lit 1 1 [.int .i64 0] [(0, .t 21)] 3⟩,
 ⟨some 23, none, .mov (.t 0)⟩,
 ⟨some 24, none, .mov (.t 5)⟩,
 ⟨some 25, none, .sls (.t 23) 1 (some (.t 24)) none⟩,
 ⟨some 26, none, .app (.t 22) (.t 25) 3 1 8⟩,
 ⟨some 6, none, .mov (.t 26)⟩])
 (.seq (.reg false [⟨some 27, none, .lit 0 1 [.int .i64 0] [] 3⟩,
 ⟨some 28, none, .mov (.t 0)⟩,
 ⟨some 29, none, .mov (.t 5)⟩,
 ⟨some 30, none, .sls (.t 28) 1 none (some (.t 29))⟩,
 ⟨some 31, none, .app (.t 27) (.t 30) 3 1 8⟩,
 ⟨some 32, none, .mov (.t 6)⟩,
 ⟨some 33, none, .app (.t 31) (.t 32) 3 1 8⟩,
 ⟨some 4, none, .mov (.t 33)⟩])
 (.ret (some [4])))))))⟩
theorem c_spec_l16Put_ok : trF Try.prog ⟨[(0, [0, 1, 5], [0, 1, 5])], [4], false⟩ Try.f98 = some c_spec_l16Put := by kernel_rfl
def c_spec_l16Double_b1 : IC :=
  (.seq (.seq (.reg false [⟨some 17, none, .mov (.t 5)⟩,
 ⟨some 18, none, .mov (.t 0)⟩,
 ⟨some 19, none, .mov (.t 4)⟩,
 ⟨some 20, none, .ixs (.t 18) (.t 19) 1⟩,
 ⟨some 21, none, .load1 (.t 20)⟩,
 ⟨some 22, none, .len (.t 21)⟩,
 ⟨some 23, none, .bin .lss (.t 17) (.t 22)⟩])
 (.cond (.t 23) .skip (.exit 2)))
 (.seq (.block 3 none none
 (.seq (.reg false [⟨some 26, none, .mov (.t 0)⟩,
 ⟨some 27, none, .mov (.t 4)⟩,
 ⟨some 28, none, .ixs (.t 26) (.t 27) 1⟩,
 ⟨some 29, none, .load1 (.t 28)⟩,
 ⟨some 30, none, .mov (.t 5)⟩,
 ⟨some 31, none, .ixs (.t 29) (.t 30) 1⟩,
 ⟨some 32, none, .load1 (.t 31)⟩,
 ⟨some 33, none, .mov (.t 3)⟩,
 ⟨some 34, none, .len (.t 33)⟩,
 ⟨some 35, none, .call 62 [.t 32, .t 34]⟩,
 ⟨some 6, none, .mov (.t 35)⟩])
 (.regE 0 [⟨⟨some 36, none, .mov (.t 3)⟩, 0, 0, false, []⟩,
 ⟨⟨some 37, none, .mov (.t 6)⟩, 1, 0, false, []⟩,
 ⟨⟨some 38, none, .mov (.t 3)⟩, 2, 0, false, []⟩,
 ⟨⟨some 39, none, .mov (.t 6)⟩, 3, 0, false, []⟩,
 ⟨⟨some 40, none, .ixs (.t 38) (.t 39) 1⟩, 4, 0, false, []⟩,
 ⟨⟨some 41, none, .load1 (.t 40)⟩, 5, 0, false, []⟩,
 ⟨⟨some 42, none, .mov (.t 0)⟩, 6, 0, false, []⟩,
 ⟨⟨some 43, none, .mov (.t 4)⟩, 7, 0, false, []⟩,
 ⟨⟨some 44, none, .ixs (.t 42) (.t 43) 1⟩, 8, 0, false, []⟩,
 ⟨⟨some 45, none, .load1 (.t 44)⟩, 9, 0, false, []⟩,
 ⟨⟨some 46, none, .mov (.t 5)⟩, 10, 0, false, []⟩,
 ⟨⟨some 47, none, .ixs (.t 45) (.t 46) 1⟩, 11, 0, false, []⟩,
 ⟨⟨some 48, none, .load1 (.t 47)⟩, 12, 0, false, []⟩,
 ⟨⟨some 49, none, .call 98 [.t 41, .t 48]⟩, 13, 0, false, []⟩,
 ⟨⟨some 50, none, .ixs (.t 36) (.t 37) 1⟩, 14, 0, false, []⟩,
 ⟨⟨none, none, .store (.t 50) (.t 49) 1⟩, 15, 0, false, []⟩])))
 (.reg false [⟨some 24, none, .mov (.t 5)⟩,
 ⟨some 25, none, .bin .add (.t 24) (.k (.c (.int .i64 1)))⟩,
 ⟨some 5, none, .mov (.t 25)⟩])))
def c_spec_l16Double_b0 : IC :=
  (.seq (.seq (.reg false [⟨some 11, none, .mov (.t 4)⟩,
 ⟨some 12, none, .mov (.t 0)⟩,
 ⟨some 13, none, .len (.t 12)⟩,
 ⟨some 14, none, .bin .lss (.t 11) (.t 13)⟩])
 (.cond (.t 14) .skip (.exit 0)))
 (.seq (.block 1 none none
 (.seq (.reg false [⟨some 5, none, .mov (.k (.c (.int .i64 0)))⟩])
 (.block 2 (some [0, 3, 4, 5]) (some [0, 3, 4])
 (.loop c_spec_l16Double_b1))))
 (.reg false [⟨some 15, none, .mov (.t 4)⟩,
 ⟨some 16, none, .bin .add (.t 15) (.k (.c (.int .i64 1)))⟩,
 ⟨some 4, none, .mov (.t 16)⟩])))
def c_spec_l16Double : IFn := ⟨52, [.t 2],
  (.seq (.reg false [⟨some 2, none, .mov (.k (.c .nils))⟩])
 (.seq (.reg false [⟨some 7, none, .mov (.t 0)⟩,
 ⟨some 8, none, .len (.t 7)⟩,
 ⟨some 9, none, .bin .mul (.k (.c (.int .i64 2))) (.t 8)⟩,
 ⟨some 10, none, .mks (.t 9) [.nils] 30 24⟩,
 ⟨some 3, none, .mov (.t 10)⟩])
 (.seq (.seq (.reg false [⟨some 4, none, .mov (.k (.c (.int .i64 0)))⟩])
 (.block 0 (some [0, 3, 4]) (some [3])
 (.loop c_spec_l16Double_b0)))
 (.seq (.reg false [⟨some 51, none, .mov (.t 3)⟩,
 ⟨some 2, none, .mov (.t 51)⟩])
 (.ret (some [2]))))))⟩
theorem c_spec_l16Double_ok : trF Try.prog ⟨[(0, [0, 3, 4], [3]), (2, [0, 3, 4, 5], [0, 3, 4])], [2], false⟩ Try.f99 = some c_spec_l16Double := by kernel_rfl
def c_impl_bucketed_b0 : IC :=
  (.seq (.reg false [⟨some 13, none, .bin .lss (.t 12) (.t 11)⟩])
 (.seq (.cond (.t 13) .skip (.exit 0))
 (.seq (.block 1 none none
 (.seq (.reg false [⟨some 14, none, .ixs (.t 10) (.t 12) 1⟩,
 ⟨some 15, none, .load1 (.t 14)⟩,
 ⟨some 7, none, .mov (.t 15)⟩])
 (.reg false [⟨some 16, none, .mov (.t 5)⟩,
 ⟨some 17, none, .mov (.t 7)⟩,
 ⟨some 18, none, .mov (.t 1)⟩,
 ⟨some 19, none, .call 65 [.t 17, .t 18]⟩,
 ⟨some 20, none, .mov (.t 5)⟩,
 ⟨some 21, none, .mov (.t 7)⟩,
 ⟨some 22, none, .mov (.t 1)⟩,
 ⟨some 23, none, .call 65 [.t 21, .t 22]⟩,
 ⟨some 24, none, .ixs (.t 20) (.t 23) 1⟩,
 ⟨some 25, none, .load1 (.t 24)⟩,
 ⟨some 26, none, .mov (.t 7)⟩,
 ⟨some 27, none, .lit 1 1 [.int .i64 0] [(0, .t 26)] 3⟩,
 ⟨some 28, none, .app (.t 25) (.t 27) 3 1 8⟩,
 ⟨some 29, none, .ixs (.t 16) (.t 19) 1⟩,
 ⟨none, none, .store (.t 29) (.t 28) 1⟩])))
 (.reg false [⟨some 30, none, .bin .add (.t 12) (.k (.c (.int .i64 1)))⟩,
 ⟨some 12, none, .mov (.t 30)⟩]))))
def c_impl_bucketed : IFn := ⟨32, [.t 4],
  (.seq (.reg false [⟨some 4, none, .mov (.k (.c .nils))⟩])
 (.seq (.reg false [⟨some 8, none, .mov (.t 1)⟩,
 ⟨some 9, none, .mks (.t 8) [.nils] 30 24⟩,
 ⟨some 5, none, .mov (.t 9)⟩])
 (.seq (.seq (.reg false [⟨some 10, none, .mov (.t 0)⟩,
 ⟨some 11, none, .len (.t 10)⟩,
 ⟨some 12, none, .mov (.k (.c (.int .i64 0)))⟩])
 (.block 0 (some [1, 5, 10, 11, 12]) (some [5])
 (.loop c_impl_bucketed_b0)))
 (.seq (.reg false [⟨some 31, none, .mov (.t 5)⟩,
 ⟨some 4, none, .mov (.t 31)⟩])
 (.ret (some [4]))))))⟩
theorem c_impl_bucketed_ok : trF Try.prog ⟨[(0, [1, 5, 10, 11, 12], [5])], [4], false⟩ Try.f100 = some c_impl_bucketed := by kernel_rfl
def c_slices_Contains_int_int : IFn := ⟨9, [.t 4],
  (.seq (.reg false [⟨some 4, none, .mov (.k (.c (.bool false)))⟩])
 (.seq (.reg false [⟨some 5, none, .mov (.t 0)⟩,
 ⟨some 6, none, .mov (.t 1)⟩,
 ⟨some 7, none, .call 118 [.t 5, .t 6]⟩,
 ⟨some 8, none, .bin .geq (.t 7) (.k (.c (.int .i64 0)))⟩,
 ⟨some 4, none, .mov (.t 8)⟩])
 (.ret (some [4]))))⟩
theorem c_slices_Contains_int_int_ok : trF Try.prog ⟨[], [4], false⟩ Try.f102 = some c_slices_Contains_int_int := by kernel_rfl
def c_laws_eqNodeA16_b0 : IC :=
  (.seq (.seq (.reg false [⟨some 6, none, .mov (.t 5)⟩,
 ⟨some 7, none, .bin .lss (.t 6) (.k (.c (.int .i64 16)))⟩])
 (.cond (.t 7) .skip (.exit 0)))
 (.seq (.block 1 none none
 (.seq (.reg true [⟨some 10, none, .mov (.t 5)⟩,
 ⟨some 11, none, .ixa (.t 2) (.t 10) 16 4⟩,
 ⟨some 12, none, .loadN (.t 11) 4⟩,
 ⟨some 13, none, .mov (.t 5)⟩,
 ⟨some 14, none, .ixa (.t 3) (.t 13) 16 4⟩,
 ⟨some 15, none, .loadN (.t 14) 4⟩,
 ⟨some 16, none, .call 119 [.t 12, .t 15]⟩,
 ⟨some 17, none, .un .not (.t 16)⟩])
 (.cond (.t 17) (.seq (.reg false [⟨some 4, none, .mov (.k (.c (.bool false)))⟩])
 (.ret (some [4]))) .skip)))
 (.reg false [⟨some 8, none, .mov (.t 5)⟩,
 ⟨some 9, none, .bin .add (.t 8) (.k (.c (.int .i64 1)))⟩,
 ⟨some 5, none, .mov (.t 9)⟩])))
def c_laws_eqNodeA16 : IFn := ⟨18, [.t 4],
  (.seq (.reg false [⟨some 2, none, .box (.t 0) 44⟩,
 ⟨some 3, none, .box (.t 1) 44⟩,
 ⟨some 4, none, .mov (.k (.c (.bool false)))⟩])
 (.seq (.seq (.reg false [⟨some 5, none, .mov (.k (.c (.int .i64 0)))⟩])
 (.block 0 (some [2, 3, 5]) (some [])
 (.loop c_laws_eqNodeA16_b0)))
 (.seq (.reg false [⟨some 4, none, .mov (.k (.c (.bool true)))⟩])
 (.ret (some [4])))))⟩
theorem c_laws_eqNodeA16_ok : trF Try.prog ⟨[(0, [2, 3, 5], [])], [4], false⟩ Try.f103 = some c_laws_eqNodeA16 := by kernel_rfl
def c_spec_l1Below : IFn := ⟨37, [.t 4],
  (.seq (.reg false [⟨some 4, none, .mov (.k (.c (.int .i64 0)))⟩])
 (.seq (.seq (.reg false [⟨some 9, none, .mov (.t 1)⟩,
 ⟨some 10, none, .bin .leq (.t 9) (.k (.c (.int .i64 0)))⟩])
 (.cond (.t 10) (.seq (.reg false [⟨some 4, none, .mov (.k (.c (.int .i64 0)))⟩])
 (.ret (some [4]))) .skip))
 (.seq (.seq (.reg false [⟨some 11, none, .mov (.t 1)⟩,
 ⟨some 12, none, .bin .leq (.t 11) (.k (.c (.int .i64 256)))⟩])
 (.cond (.t 12) (.seq (.reg false [⟨some 13, none, .mov (.t 0)⟩,
 ⟨some 14, none, .call 120 [.t 13]⟩,
 ⟨some 15, none, .mov (.t 1)⟩,
 ⟨some 16, none, .bin .rem (.t 14) (.t 15)⟩,
 ⟨some 4, none, .mov (.t 16)⟩])
 (.ret (some [4]))) .skip))
 (.seq (.reg false [⟨some 17, none, .mov (.t 0)⟩,
 ⟨some 18, none, .call 120 [.t 17]⟩,
 ⟨some 5, none, .mov (.t 18)⟩])
 (.seq (.reg false [⟨some 19, none, .mov (.t 0)⟩,
 ⟨some 20, none, .call 120 [.t 19]⟩,
 ⟨some 6, none, .mov (.t 20)⟩])
 (.seq (.reg false [⟨some 21, none, .mov (.t 0)⟩,
 ⟨some 22, none, .call 120 [.t 21]⟩,
 ⟨some 7, none, .mov (.t 22)⟩])
 (.seq (.reg false [⟨some 23, none, .mov (.t 0)⟩,
 ⟨some 24, none, .call 120 [.t 23]⟩,
 ⟨some 8, none, .mov (.t 24)⟩])
 (.seq (.reg false [⟨some 25, none, .mov (.t 5)⟩,
 ⟨some 26, none, .bin .mul (.t 25) (.k (.c (.int .i64 16777216)))⟩,
 ⟨some 27, none, .mov (.t 6)⟩,
 ⟨some 28, none, .bin .mul (.t 27) (.k (.c (.int .i64 65536)))⟩,
 ⟨some 29, none, .bin .add (.t 26) (.t 28)⟩,
 ⟨some 30, none, .mov (.t 7)⟩,
 ⟨some 31, none, .bin .mul (.t 30) (.k (.c (.int .i64 256)))⟩,
 ⟨some 32, none, .bin .add (.t 29) (.t 31)⟩,
 ⟨some 33, none, .mov (.t 8)⟩,
 ⟨some 34, none, .bin .add (.t 32) (.t 33)⟩,
 ⟨some 35, none, .mov (.t 1)⟩,
 ⟨some 36, none, .bin .rem (.t 34) (.t 35)⟩,
 ⟨some 4, none, .mov (.t 36)⟩])
 (.ret (some [4]))))))))))⟩
theorem c_spec_l1Below_ok : trF Try.prog ⟨[], [4], false⟩ Try.f104 = some c_spec_l1Below := by kernel_rfl
def c_spec_l1Once : IFn := ⟨9, [.t 4],
  (.seq (.reg false [⟨some 4, none, .mov (.k (.c (.bool false)))⟩])
 (.seq (.reg false [⟨some 5, none, .mov (.t 0)⟩,
 ⟨some 6, none, .mov (.t 1)⟩,
 ⟨some 7, none, .call 104 [.t 5, .t 6]⟩,
 ⟨some 8, none, .bin .eql (.t 7) (.k (.c (.int .i64 0)))⟩,
 ⟨some 4, none, .mov (.t 8)⟩])
 (.ret (some [4]))))⟩
theorem c_spec_l1Once_ok : trF Try.prog ⟨[], [4], false⟩ Try.f105 = some c_spec_l1Once := by kernel_rfl
def c_slices_ContainsFunc_int_int : IFn := ⟨9, [.t 4],
  (.seq (.reg false [⟨some 4, none, .mov (.k (.c (.bool false)))⟩])
 (.seq (.reg false [⟨some 5, none, .mov (.t 0)⟩,
 ⟨some 6, none, .mov (.t 1)⟩,
 ⟨some 7, none, .call 110 [.t 5, .t 6]⟩,
 ⟨some 8, none, .bin .geq (.t 7) (.k (.c (.int .i64 0)))⟩,
 ⟨some 4, none, .mov (.t 8)⟩])
 (.ret (some [4]))))⟩
theorem c_slices_ContainsFunc_int_int_ok : trF Try.prog ⟨[], [4], false⟩ Try.f106 = some c_slices_ContainsFunc_int_int := by kernel_rfl
def c_impl_areValues_1 : IFn := ⟨6, [.t 2],
  (.seq (.reg false [⟨some 2, none, .mov (.k (.c (.bool false)))⟩])
 (.seq (.reg false [⟨some 3, none, .mov (.t 0)⟩,
 ⟨some 4, none, .call 64 [.t 3]⟩,
 ⟨some 5, none, .un .not (.t 4)⟩,
 ⟨some 2, none, .mov (.t 5)⟩])
 (.ret (some [2]))))⟩
theorem c_impl_areValues_1_ok : trF Try.prog ⟨[], [2], false⟩ Try.f107 = some c_impl_areValues_1 := by kernel_rfl
def c_spec_l1Copy : IFn := ⟨6, [.t 2],
  (.seq (.reg false [⟨some 2, none, .mov (.k (.c .nils))⟩])
 (.seq (.reg false [⟨some 3, none, .lit 0 1 [.int .i64 0] [] 3⟩,
 ⟨some 4, none, .mov (.t 0)⟩,
 ⟨some 5, none, .app (.t 3) (.t 4) 3 1 8⟩,
 ⟨some 2, none, .mov (.t 5)⟩])
 (.ret (some [2]))))⟩
theorem c_spec_l1Copy_ok : trF Try.prog ⟨[], [2], false⟩ Try.f108 = some c_spec_l1Copy := by kernel_rfl
def c_impl_own : IFn := ⟨6, [.t 2],
  (.seq (.reg false [⟨some 2, none, .mov (.k (.c .nils))⟩])
 (.seq (.reg false [⟨some 3, none, .lit 0 1 [.int .i64 0] [] 3⟩,
 ⟨some 4, none, .mov (.t 0)⟩,
 ⟨some 5, none, .app (.t 3) (.t 4) 3 1 8⟩,
 ⟨some 2, none, .mov (.t 5)⟩])
 (.ret (some [2]))))⟩
theorem c_impl_own_ok : trF Try.prog ⟨[], [2], false⟩ Try.f109 = some c_impl_own := by kernel_rfl
def c_slices_IndexFunc_int_int_b0 : IC :=
  (.seq (.reg false [⟨some 9, none, .bin .lss (.t 8) (.t 7)⟩])
 (.seq (.cond (.t 9) .skip (.exit 0))
 (.seq (.block 1 none none
 (.seq (.reg false [⟨some 10, none, .mov (.t 8)⟩,
 ⟨some 5, none, .mov (.t 10)⟩])
 (.seq (.reg false [⟨some 11, none, .mov (.t 1)⟩,
 ⟨some 12, none, .mov (.t 0)⟩,
 ⟨some 13, none, .mov (.t 5)⟩,
 ⟨some 14, none, .ixs (.t 12) (.t 13) 1⟩,
 ⟨some 15, none, .load1 (.t 14)⟩,
 ⟨some 16, none, .callv (.t 11) [.t 15]⟩])
 (.cond (.t 16) (.seq (.reg false [⟨some 17, none, .mov (.t 5)⟩,
 ⟨some 4, none, .mov (.t 17)⟩])
 (.ret (some [4]))) .skip))))
 (.reg false [⟨some 18, none, .bin .add (.t 8) (.k (.c (.int .i64 1)))⟩,
 ⟨some 8, none, .mov (.t 18)⟩]))))
def c_slices_IndexFunc_int_int : IFn := ⟨19, [.t 4],
  (.seq (.reg false [⟨some 4, none, .mov (.k (.c (.int .i64 0)))⟩])
 (.seq (.seq (.reg false [⟨some 6, none, .mov (.t 0)⟩,
 ⟨some 7, none, .len (.t 6)⟩,
 ⟨some 8, none, .mov (.k (.c (.int .i64 0)))⟩])
 (.block 0 (some [0, 1, 7, 8]) (some [])
 (.loop c_slices_IndexFunc_int_int_b0)))
 (.seq (.reg false [⟨some 4, none, .mov (.k (.c (.int .i64 (-1))))⟩])
 (.ret (some [4])))))⟩
theorem c_slices_IndexFunc_int_int_ok : trF Try.prog ⟨[(0, [0, 1, 7, 8], [])], [4], false⟩ Try.f110 = some c_slices_IndexFunc_int_int := by kernel_rfl
def c_spec_l15Keys : IFn := ⟨65, [.t 6, .t 7],
  (.seq (.reg false [⟨some 3, none, .box (.t 0) 51⟩,
 ⟨some 6, none, .mov (.k (.c .nils))⟩,
 ⟨some 7, none, .mov (.k (.c (.bool false)))⟩])
 (.seq (.seq (.reg false [⟨some 10, none, .mov (.t 1)⟩,
 ⟨some 11, none, .bin .eql (.t 10) (.k (.c (.int .i64 (-1))))⟩])
 (.cond (.t 11) (.seq (.reg false [⟨some 12, none, .mov (.t 2)⟩,
 ⟨some 6, none, .mov (.t 12)⟩,
 ⟨some 7, none, .mov (.k (.c (.bool true)))⟩])
 (.ret (some [6, 7]))) .skip))
 (.seq (.seq (.reg false [⟨some 13, none, .mov (.t 1)⟩,
 ⟨some 14, none, .call 70 [.t 13, .k (.c (.int .i64 0)), .k (.c (.int .i64 15))]⟩,
 ⟨some 15, none, .un .not (.t 14)⟩,
 ⟨some 16, none, .mov (.t 15)⟩,
 ⟨some 17, some (16, false), .mov (.t 1)⟩,
 ⟨some 18, some (16, false), .fld (.t 3) 0⟩,
 ⟨some 19, some (16, false), .ixa (.t 18) (.t 17) 16 4⟩,
 ⟨some 20, some (16, false), .fld (.t 19) 0⟩,
 ⟨some 21, some (16, false), .load1 (.t 20)⟩,
 ⟨some 22, some (16, false), .un .not (.t 21)⟩,
 ⟨some 23, none, .pick (.t 16) (.k (.c (.bool true))) (.t 22)⟩,
 ⟨some 24, none, .mov (.t 23)⟩,
 ⟨some 25, some (24, false), .mov (.t 2)⟩,
 ⟨some 26, some (24, false), .len (.t 25)⟩,
 ⟨some 27, some (24, false), .bin .geq (.t 26) (.k (.c (.int .i64 16)))⟩,
 ⟨some 28, none, .pick (.t 24) (.k (.c (.bool true))) (.t 27)⟩])
 (.cond (.t 28) (.seq (.reg false [⟨some 29, none, .mov (.t 2)⟩,
 ⟨some 6, none, .mov (.t 29)⟩,
 ⟨some 7, none, .mov (.k (.c (.bool false)))⟩])
 (.ret (some [6, 7]))) .skip))
 (.seq (.reg false [⟨some 30, none, .mov (.t 1)⟩,
 ⟨some 31, none, .fld (.t 3) 0⟩,
 ⟨some 32, none, .ixa (.t 31) (.t 30) 16 4⟩,
 ⟨some 33, none, .loadN (.t 32) 4⟩,
 ⟨some 8, none, .alloc [.bool false, .int .i64 0, .int .i64 0, .int .i64 0] 48⟩,
 ⟨none, none, .store (.t 8) (.t 33) 4⟩])
 (.seq (.reg false [⟨some 34, none, .mov (.t 1)⟩,
 ⟨some 35, none, .bld [.bool false, .int .i64 0, .int .i64 0, .int .i64 0] []⟩,
 ⟨some 36, none, .fld (.t 3) 0⟩,
 ⟨some 37, none, .ixa (.t 36) (.t 34) 16 4⟩,
 ⟨none, none, .store (.t 37) (.t 35) 4⟩])
 (.seq (.reg false [⟨some 39, none, .loadN (.t 3) 65⟩,
 ⟨some 40, none, .fld (.t 8) 2⟩,
 ⟨some 41, none, .load1 (.t 40)⟩,
 ⟨some 42, none, .mov (.t 2)⟩,
 ⟨some 43, none, .call 111 [.t 39, .t 41, .t 42]⟩,
 ⟨some 38, none, .mov (.t 43)⟩,
 ⟨some 44, none, .ext (.t 38) 0⟩,
 ⟨some 45, none, .ext (.t 38) 1⟩,
 ⟨some 2, none, .mov (.t 44)⟩,
 ⟨some 9, none, .mov (.t 45)⟩])
 (.seq (.seq (.reg false [⟨some 46, none, .mov (.t 9)⟩,
 ⟨some 47, none, .un .not (.t 46)⟩,
 ⟨some 48, none, .mov (.t 47)⟩,
 ⟨some 49, some (48, false), .mov (.t 2)⟩,
 ⟨some 50, some (48, false), .len (.t 49)⟩,
 ⟨some 51, some (48, false), .bin .geq (.t 50) (.k (.c (.int .i64 16)))⟩,
 ⟨some 52, none, .pick (.t 48) (.k (.c (.bool true))) (.t 51)⟩])
 (.cond (.t 52) (.seq (.reg false [⟨some 53, none, .mov (.t 2)⟩,
 ⟨some 6, none, .mov (.t 53)⟩,
 ⟨some 7, none, .mov (.k (.c (.bool false)))⟩])
 (.ret (some [6, 7]))) .skip))
 (.seq (.reg false [⟨some 54, none, .mov (.t 2)⟩,
 ⟨some 55, none, .mov (.t 1)⟩,
 ⟨some 56, none, .lit 1 1 [.int .i64 0] [(0, .t 55)] 3⟩,
 ⟨some 57, none, .app (.t 54) (.t 56) 3 1 8⟩,
 ⟨some 2, none, .mov (.t 57)⟩])
 (.seq (.reg false [⟨some 58, none, .loadN (.t 3) 65⟩,
 ⟨some 59, none, .fld (.t 8) 3⟩,
 ⟨some 60, none, .load1 (.t 59)⟩,
 ⟨some 61, none, .mov (.t 2)⟩,
 ⟨some 62, none, .call 111 [.t 58, .t 60, .t 61]⟩,
 ⟨some 63, none, .ext (.t 62) 0⟩,
 ⟨some 64, none, .ext (.t 62) 1⟩,
 ⟨some 6, none, .mov (.t 63)⟩,
 ⟨some 7, none, .mov (.t 64)⟩])
 (.ret (some [6, 7])))))))))))⟩
theorem c_spec_l15Keys_ok : trF Try.prog ⟨[], [6, 7], false⟩ Try.f111 = some c_spec_l15Keys := by kernel_rfl
def c_laws_toTwig : IFn := ⟨17, [.cell 2 4 true],
  (.seq (.reg false [⟨some 1, none, .box (.t 0) 69⟩,
 ⟨some 2, none, .alloc [.bool false, .int .i64 0, .int .i64 0, .int .i64 0] 48⟩])
 (.seq (.reg false [⟨some 3, none, .alloc [.bool false, .int .i64 0, .int .i64 0, .int .i64 0] 48⟩])
 (.seq (.reg false [⟨some 4, none, .fld (.t 1) 0⟩,
 ⟨some 5, none, .load1 (.t 4)⟩,
 ⟨some 6, none, .fld (.t 3) 0⟩,
 ⟨none, none, .store (.t 6) (.t 5) 1⟩])
 (.seq (.reg false [⟨some 7, none, .fld (.t 1) 1⟩,
 ⟨some 8, none, .load1 (.t 7)⟩,
 ⟨some 9, none, .fld (.t 3) 1⟩,
 ⟨none, none, .store (.t 9) (.t 8) 1⟩])
 (.seq (.reg false [⟨some 10, none, .fld (.t 1) 2⟩,
 ⟨some 11, none, .load1 (.t 10)⟩,
 ⟨some 12, none, .fld (.t 3) 2⟩,
 ⟨none, none, .store (.t 12) (.t 11) 1⟩])
 (.seq (.reg false [⟨some 13, none, .fld (.t 1) 3⟩,
 ⟨some 14, none, .load1 (.t 13)⟩,
 ⟨some 15, none, .fld (.t 3) 3⟩,
 ⟨none, none, .store (.t 15) (.t 14) 1⟩])
 (.seq (.reg false [⟨some 16, none, .loadN (.t 3) 4⟩,
 ⟨none, none, .store (.t 2) (.t 16) 4⟩])
 (.ret (some [2])))))))))⟩
theorem c_laws_toTwig_ok : trF Try.prog ⟨[], [2], false⟩ Try.f112 = some c_laws_toTwig := by kernel_rfl
def c_impl_Tree_isPart : IFn := ⟨71, [.t 10],
  (.seq (.reg false [⟨some 5, none, .box (.t 0) 51⟩,
 ⟨some 10, none, .mov (.k (.c (.bool false)))⟩])
 (.seq (.seq (.reg false [⟨some 12, none, .mov (.t 1)⟩,
 ⟨some 13, none, .bin .eql (.t 12) (.k (.c (.int .i64 (-1))))⟩])
 (.cond (.t 13) (.seq (.reg false [⟨some 10, none, .mov (.k (.c (.bool true)))⟩])
 (.ret (some [10]))) .skip))
 (.seq (.seq (.reg false [⟨some 14, none, .mov (.t 1)⟩,
 ⟨some 15, none, .call 73 [.t 14, .k (.c (.int .i64 0)), .k (.c (.int .i64 15))]⟩,
 ⟨some 16, none, .un .not (.t 15)⟩,
 ⟨some 17, none, .mov (.t 16)⟩,
 ⟨some 18, some (17, false), .mov (.t 4)⟩,
 ⟨some 19, some (17, false), .mov (.t 1)⟩,
 ⟨some 20, some (17, false), .chk (.t 18)⟩,
 ⟨some 21, some (17, false), .ixa (.t 20) (.t 19) 16 1⟩,
 ⟨some 22, some (17, false), .load1 (.t 21)⟩,
 ⟨some 23, none, .pick (.t 17) (.k (.c (.bool true))) (.t 22)⟩,
 ⟨some 24, none, .mov (.t 23)⟩,
 ⟨some 25, some (24, false), .mov (.t 1)⟩,
 ⟨some 26, some (24, false), .fld (.t 5) 0⟩,
 ⟨some 27, some (24, false), .ixa (.t 26) (.t 25) 16 4⟩,
 ⟨some 28, some (24, false), .fld (.t 27) 0⟩,
 ⟨some 29, some (24, false), .load1 (.t 28)⟩,
 ⟨some 30, some (24, false), .un .not (.t 29)⟩,
 ⟨some 31, none, .pick (.t 24) (.k (.c (.bool true))) (.t 30)⟩,
 ⟨some 32, none, .mov (.t 31)⟩,
 ⟨some 33, some (32, false), .mov (.t 1)⟩,
 ⟨some 34, some (32, false), .fld (.t 5) 0⟩,
 ⟨some 35, some (32, false), .ixa (.t 34) (.t 33) 16 4⟩,
 ⟨some 36, some (32, false), .fld (.t 35) 1⟩,
 ⟨some 37, some (32, false), .load1 (.t 36)⟩,
 ⟨some 38, some (32, false), .mov (.t 2)⟩,
 ⟨some 39, some (32, false), .mov (.t 3)⟩,
 ⟨some 40, some (32, false), .call 73 [.t 37, .t 38, .t 39]⟩,
 ⟨some 41, some (32, false), .un .not (.t 40)⟩,
 ⟨some 42, none, .pick (.t 32) (.k (.c (.bool true))) (.t 41)⟩])
 (.cond (.t 42) (.seq (.reg false [⟨some 10, none, .mov (.k (.c (.bool false)))⟩])
 (.ret (some [10]))) .skip))
 (.seq (.reg false [⟨some 43, none, .mov (.t 4)⟩,
 ⟨some 44, none, .mov (.t 1)⟩,
 ⟨some 45, none, .chk (.t 43)⟩,
 ⟨some 46, none, .ixa (.t 45) (.t 44) 16 1⟩,
 ⟨none, none, .store (.t 46) (.k (.c (.bool true))) 1⟩])
 (.seq (.reg false [⟨some 47, none, .mov (.t 1)⟩,
 ⟨some 48, none, .fld (.t 5) 0⟩,
 ⟨some 49, none, .ixa (.t 48) (.t 47) 16 4⟩,
 ⟨some 50, none, .loadN (.t 49) 4⟩,
 ⟨some 11, none, .alloc [.bool false, .int .i64 0, .int .i64 0, .int .i64 0] 48⟩,
 ⟨none, none, .store (.t 11) (.t 50) 4⟩])
 (.seq (.reg false [⟨some 51, none, .loadN (.t 5) 65⟩,
 ⟨some 52, none, .fld (.t 11) 2⟩,
 ⟨some 53, none, .load1 (.t 52)⟩,
 ⟨some 54, none, .mov (.t 2)⟩,
 ⟨some 55, none, .fld (.t 11) 1⟩,
 ⟨some 56, none, .load1 (.t 55)⟩,
 ⟨some 57, none, .bin .sub (.t 56) (.k (.c (.int .i64 1)))⟩,
 ⟨some 58, none, .mov (.t 4)⟩,
 ⟨some 59, none, .call 113 [.t 51, .t 53, .t 54, .t 57, .t 58]⟩,
 ⟨some 60, none, .mov (.t 59)⟩,
 ⟨some 61, some (60, true), .loadN (.t 5) 65⟩,
 ⟨some 62, some (60, true), .fld (.t 11) 3⟩,
 ⟨some 63, some (60, true), .load1 (.t 62)⟩,
 ⟨some 64, some (60, true), .fld (.t 11) 1⟩,
 ⟨some 65, some (60, true), .load1 (.t 64)⟩,
 ⟨some 66, some (60, true), .bin .add (.t 65) (.k (.c (.int .i64 1)))⟩,
 ⟨some 67, some (60, true), .mov (.t 3)⟩,
 ⟨some 68, some (60, true), .mov (.t 4)⟩,
 ⟨some 69, some (60, true), .call 113 [.t 61, .t 63, .t 66, .t 67, .t 68]⟩,
 ⟨some 70, none, .pick (.t 60) (.t 69) (.k (.c (.bool false)))⟩,
 ⟨some 10, none, .mov (.t 70)⟩])
 (.ret (some [10]))))))))⟩
theorem c_impl_Tree_isPart_ok : trF Try.prog ⟨[], [10], false⟩ Try.f113 = some c_impl_Tree_isPart := by kernel_rfl
def c_laws_eqTwig : IFn := ⟨25, [.t 4],
  (.seq (.reg false [⟨some 2, none, .box (.t 0) 48⟩,
 ⟨some 3, none, .box (.t 1) 48⟩,
 ⟨some 4, none, .mov (.k (.c (.bool false)))⟩])
 (.seq (.seq (.reg false [⟨some 5, none, .fld (.t 2) 0⟩,
 ⟨some 6, none, .load1 (.t 5)⟩,
 ⟨some 7, none, .fld (.t 3) 0⟩,
 ⟨some 8, none, .load1 (.t 7)⟩,
 ⟨some 9, none, .binb true (.t 6) (.t 8)⟩])
 (.cond (.t 9) (.seq (.reg false [⟨some 4, none, .mov (.k (.c (.bool false)))⟩])
 (.ret (some [4]))) .skip))
 (.seq (.seq (.reg false [⟨some 10, none, .fld (.t 2) 1⟩,
 ⟨some 11, none, .load1 (.t 10)⟩,
 ⟨some 12, none, .fld (.t 3) 1⟩,
 ⟨some 13, none, .load1 (.t 12)⟩,
 ⟨some 14, none, .bin .neq (.t 11) (.t 13)⟩])
 (.cond (.t 14) (.seq (.reg false [⟨some 4, none, .mov (.k (.c (.bool false)))⟩])
 (.ret (some [4]))) .skip))
 (.seq (.seq (.reg false [⟨some 15, none, .fld (.t 2) 2⟩,
 ⟨some 16, none, .load1 (.t 15)⟩,
 ⟨some 17, none, .fld (.t 3) 2⟩,
 ⟨some 18, none, .load1 (.t 17)⟩,
 ⟨some 19, none, .bin .neq (.t 16) (.t 18)⟩])
 (.cond (.t 19) (.seq (.reg false [⟨some 4, none, .mov (.k (.c (.bool false)))⟩])
 (.ret (some [4]))) .skip))
 (.seq (.seq (.reg false [⟨some 20, none, .fld (.t 2) 3⟩,
 ⟨some 21, none, .load1 (.t 20)⟩,
 ⟨some 22, none, .fld (.t 3) 3⟩,
 ⟨some 23, none, .load1 (.t 22)⟩,
 ⟨some 24, none, .bin .neq (.t 21) (.t 23)⟩])
 (.cond (.t 24) (.seq (.reg false [⟨some 4, none, .mov (.k (.c (.bool false)))⟩])
 (.ret (some [4]))) .skip))
 (.seq (.reg false [⟨some 4, none, .mov (.k (.c (.bool true)))⟩])
 (.ret (some [4]))))))))⟩
theorem c_laws_eqTwig_ok : trF Try.prog ⟨[], [4], false⟩ Try.f114 = some c_laws_eqTwig := by kernel_rfl
def c_slices_Concat_int_int_b0 : IC :=
  (.seq (.reg false [⟨some 12, none, .bin .lss (.t 11) (.t 10)⟩])
 (.seq (.cond (.t 12) .skip (.exit 0))
 (.seq (.block 1 none none
 (.seq (.reg false [⟨some 13, none, .ixs (.t 9) (.t 11) 1⟩,
 ⟨some 14, none, .load1 (.t 13)⟩,
 ⟨some 5, none, .mov (.t 14)⟩])
 (.seq (.reg false [⟨some 15, none, .mov (.t 3)⟩,
 ⟨some 16, none, .mov (.t 5)⟩,
 ⟨some 17, none, .len (.t 16)⟩,
 ⟨some 18, none, .bin .add (.t 15) (.t 17)⟩,
 ⟨some 3, none, .mov (.t 18)⟩])
 (.seq (.reg false [⟨some 19, none, .mov (.t 3)⟩,
 ⟨some 20, none, .bin .lss (.t 19) (.k (.c (.int .i64 0)))⟩])
 (.cond (.t 20) (.reg false [⟨some 21, none, .bad⟩,
 ⟨none, none, .bad⟩]) .skip)))))
 (.reg false [⟨some 22, none, .bin .add (.t 11) (.k (.c (.int .i64 1)))⟩,
 ⟨some 11, none, .mov (.t 22)⟩]))))
def c_slices_Concat_int_int_b1 : IC :=
  (.seq (.reg false [⟨some 28, none, .bin .lss (.t 27) (.t 26)⟩])
 (.seq (.cond (.t 28) .skip (.exit 2))
 (.seq (.block 3 none none
 (.seq (.reg false [⟨some 29, none, .ixs (.t 25) (.t 27) 1⟩,
 ⟨some 30, none, .load1 (.t 29)⟩,
 ⟨some 8, none, .mov (.t 30)⟩])
 (.reg false [⟨some 31, none, .mov (.t 6)⟩,
 ⟨some 32, none, .mov (.t 8)⟩,
 ⟨some 33, none, .app (.t 31) (.t 32) 3 1 8⟩,
 ⟨some 6, none, .mov (.t 33)⟩])))
 (.reg false [⟨some 34, none, .bin .add (.t 27) (.k (.c (.int .i64 1)))⟩,
 ⟨some 27, none, .mov (.t 34)⟩]))))
def c_slices_Concat_int_int : IFn := ⟨36, [.t 2],
  (.seq (.reg false [⟨some 2, none, .mov (.k (.c .nils))⟩])
 (.seq (.reg false [⟨some 3, none, .mov (.k (.c (.int .i64 0)))⟩])
 (.seq (.seq (.reg false [⟨some 9, none, .mov (.t 0)⟩,
 ⟨some 10, none, .len (.t 9)⟩,
 ⟨some 11, none, .mov (.k (.c (.int .i64 0)))⟩])
 (.block 0 (some [0, 3, 9, 10, 11]) (some [0, 3])
 (.loop c_slices_Concat_int_int_b0)))
 (.seq (.reg false [⟨some 23, none, .mov (.t 3)⟩,
 ⟨some 24, none, .call 121 [.k (.c .nils), .t 23]⟩,
 ⟨some 6, none, .mov (.t 24)⟩])
 (.seq (.seq (.reg false [⟨some 25, none, .mov (.t 0)⟩,
 ⟨some 26, none, .len (.t 25)⟩,
 ⟨some 27, none, .mov (.k (.c (.int .i64 0)))⟩])
 (.block 2 (some [6, 25, 26, 27]) (some [6])
 (.loop c_slices_Concat_int_int_b1)))
 (.seq (.reg false [⟨some 35, none, .mov (.t 6)⟩,
 ⟨some 2, none, .mov (.t 35)⟩])
 (.ret (some [2]))))))))⟩
theorem c_slices_Concat_int_int_ok : trF Try.prog ⟨[(0, [0, 3, 9, 10, 11], [0, 3]), (2, [6, 25, 26, 27], [6])], [2], false⟩ Try.f115 = some c_slices_Concat_int_int := by kernel_rfl
def c_slices_Index_int_int_b0 : IC :=
  (.seq (.reg false [⟨some 9, none, .bin .lss (.t 8) (.t 7)⟩])
 (.seq (.cond (.t 9) .skip (.exit 0))
 (.seq (.block 1 none none
 (.seq (.reg false [⟨some 10, none, .mov (.t 8)⟩,
 ⟨some 5, none, .mov (.t 10)⟩])
 (.seq (.reg false [⟨some 11, none, .mov (.t 1)⟩,
 ⟨some 12, none, .mov (.t 0)⟩,
 ⟨some 13, none, .mov (.t 5)⟩,
 ⟨some 14, none, .ixs (.t 12) (.t 13) 1⟩,
 ⟨some 15, none, .load1 (.t 14)⟩,
 ⟨some 16, none, .bin .eql (.t 11) (.t 15)⟩])
 (.cond (.t 16) (.seq (.reg false [⟨some 17, none, .mov (.t 5)⟩,
 ⟨some 4, none, .mov (.t 17)⟩])
 (.ret (some [4]))) .skip))))
 (.reg false [⟨some 18, none, .bin .add (.t 8) (.k (.c (.int .i64 1)))⟩,
 ⟨some 8, none, .mov (.t 18)⟩]))))
def c_slices_Index_int_int : IFn := ⟨19, [.t 4],
  (.seq (.reg false [⟨some 4, none, .mov (.k (.c (.int .i64 0)))⟩])
 (.seq (.seq (.reg false [⟨some 6, none, .mov (.t 0)⟩,
 ⟨some 7, none, .len (.t 6)⟩,
 ⟨some 8, none, .mov (.k (.c (.int .i64 0)))⟩])
 (.block 0 (some [0, 1, 7, 8]) (some [])
 (.loop c_slices_Index_int_int_b0)))
 (.seq (.reg false [⟨some 4, none, .mov (.k (.c (.int .i64 (-1))))⟩])
 (.ret (some [4])))))⟩
theorem c_slices_Index_int_int_ok : trF Try.prog ⟨[(0, [0, 1, 7, 8], [])], [4], false⟩ Try.f118 = some c_slices_Index_int_int := by kernel_rfl
def c_laws_eqNode : IFn := ⟨25, [.t 4],
  (.seq (.reg false [⟨some 2, none, .box (.t 0) 43⟩,
 ⟨some 3, none, .box (.t 1) 43⟩,
 ⟨some 4, none, .mov (.k (.c (.bool false)))⟩])
 (.seq (.seq (.reg false [⟨some 5, none, .fld (.t 2) 0⟩,
 ⟨some 6, none, .load1 (.t 5)⟩,
 ⟨some 7, none, .fld (.t 3) 0⟩,
 ⟨some 8, none, .load1 (.t 7)⟩,
 ⟨some 9, none, .binb true (.t 6) (.t 8)⟩])
 (.cond (.t 9) (.seq (.reg false [⟨some 4, none, .mov (.k (.c (.bool false)))⟩])
 (.ret (some [4]))) .skip))
 (.seq (.seq (.reg false [⟨some 10, none, .fld (.t 2) 1⟩,
 ⟨some 11, none, .load1 (.t 10)⟩,
 ⟨some 12, none, .fld (.t 3) 1⟩,
 ⟨some 13, none, .load1 (.t 12)⟩,
 ⟨some 14, none, .bin .neq (.t 11) (.t 13)⟩])
 (.cond (.t 14) (.seq (.reg false [⟨some 4, none, .mov (.k (.c (.bool false)))⟩])
 (.ret (some [4]))) .skip))
 (.seq (.seq (.reg false [⟨some 15, none, .fld (.t 2) 2⟩,
 ⟨some 16, none, .load1 (.t 15)⟩,
 ⟨some 17, none, .fld (.t 3) 2⟩,
 ⟨some 18, none, .load1 (.t 17)⟩,
 ⟨some 19, none, .bin .neq (.t 16) (.t 18)⟩])
 (.cond (.t 19) (.seq (.reg false [⟨some 4, none, .mov (.k (.c (.bool false)))⟩])
 (.ret (some [4]))) .skip))
 (.seq (.seq (.reg false [⟨some 20, none, .fld (.t 2) 3⟩,
 ⟨some 21, none, .load1 (.t 20)⟩,
 ⟨some 22, none, .fld (.t 3) 3⟩,
 ⟨some 23, none, .load1 (.t 22)⟩,
 ⟨some 24, none, .bin .neq (.t 21) (.t 23)⟩])
 (.cond (.t 24) (.seq (.reg false [⟨some 4, none, .mov (.k (.c (.bool false)))⟩])
 (.ret (some [4]))) .skip))
 (.seq (.reg false [⟨some 4, none, .mov (.k (.c (.bool true)))⟩])
 (.ret (some [4]))))))))⟩
theorem c_laws_eqNode_ok : trF Try.prog ⟨[], [4], false⟩ Try.f119 = some c_laws_eqNode := by kernel_rfl
def c_spec_l1Byte : IFn := ⟨58, [.t 2],
  (.seq (.reg false [⟨some 2, none, .mov (.k (.c (.int .i64 0)))⟩])
 (.seq (.reg false [⟨some 4, none, .mov (.t 0)⟩,
 ⟨some 5, none, .mov (.t 0)⟩,
 ⟨some 6, none, .chk (.t 5)⟩,
 ⟨some 7, none, .fld (.t 6) 2⟩,
 ⟨some 8, none, .load1 (.t 7)⟩,
 ⟨some 9, none, .bin .mul (.t 8) (.k (.c (.int .i64 6364136223846793005)))⟩,
 ⟨some 10, none, .bin .add (.t 9) (.k (.c (.int .i64 1442695040888963407)))⟩,
 ⟨some 11, none, .chk (.t 4)⟩,
 ⟨some 12, none, .fld (.t 11) 2⟩,
 ⟨none, none, .store (.t 12) (.t 10) 1⟩])
 (.seq (.reg true [⟨some 13, none, .mov (.t 0)⟩,
 ⟨some 14, none, .chk (.t 13)⟩,
 ⟨some 15, none, .fld (.t 14) 2⟩,
 ⟨some 16, none, .load1 (.t 15)⟩,
 ⟨some 17, none, .shf .shr (.t 16) (.k (.c (.int .u64 33)))⟩,
 ⟨some 18, none, .mov (.t 0)⟩,
 ⟨some 19, none, .chk (.t 18)⟩,
 ⟨some 20, none, .fld (.t 19) 2⟩,
 ⟨some 21, none, .load1 (.t 20)⟩,
 ⟨some 22, none, .shf .shr (.t 21) (.k (.c (.int .u64 45)))⟩,
 ⟨some 23, none, .bin .xor (.t 17) (.t 22)⟩,
 ⟨some 24, none, .bin .and (.t 23) (.k (.c (.int .i64 255)))⟩,
 ⟨some 3, none, .mov (.t 24)⟩])
 (.seq (.seq (.reg true [⟨some 25, none, .mov (.t 0)⟩,
 ⟨some 26, none, .chk (.t 25)⟩,
 ⟨some 27, none, .fld (.t 26) 1⟩,
 ⟨some 28, none, .load1 (.t 27)⟩,
 ⟨some 29, none, .mov (.t 0)⟩,
 ⟨some 30, none, .chk (.t 29)⟩,
 ⟨some 31, none, .fld (.t 30) 0⟩,
 ⟨some 32, none, .load1 (.t 31)⟩,
 ⟨some 33, none, .len (.t 32)⟩,
 ⟨some 34, none, .bin .lss (.t 28) (.t 33)⟩])
 (.cond (.t 34) (.seq (.reg true [⟨some 35, none, .mov (.t 3)⟩,
 ⟨some 36, none, .mov (.t 0)⟩,
 ⟨some 37, none, .chk (.t 36)⟩,
 ⟨some 38, none, .fld (.t 37) 0⟩,
 ⟨some 39, none, .load1 (.t 38)⟩,
 ⟨some 40, none, .mov (.t 0)⟩,
 ⟨some 41, none, .chk (.t 40)⟩,
 ⟨some 42, none, .fld (.t 41) 1⟩,
 ⟨some 43, none, .load1 (.t 42)⟩,
 ⟨some 44, none, .ixs (.t 39) (.t 43) 1⟩,
 ⟨some 45, none, .load1 (.t 44)⟩,
 ⟨some 46, none, .cvt .i64 (.t 45)⟩,
 ⟨some 47, none, .bin .add (.t 35) (.t 46)⟩,
 ⟨some 48, none, .bin .and (.t 47) (.k (.c (.int .i64 255)))⟩,
 ⟨some 3, none, .mov (.t 48)⟩])
 (.reg false [⟨some 49, none, .mov (.t 0)⟩,
 ⟨some 50, none, .mov (.t 0)⟩,
 ⟨some 51, none, .chk (.t 50)⟩,
 ⟨some 52, none, .fld (.t 51) 1⟩,
 ⟨some 53, none, .load1 (.t 52)⟩,
 ⟨some 54, none, .bin .add (.t 53) (.k (.c (.int .i64 1)))⟩,
 ⟨some 55, none, .chk (.t 49)⟩,
 ⟨some 56, none, .fld (.t 55) 1⟩,
 ⟨none, none, .store (.t 56) (.t 54) 1⟩])) .skip))
 (.seq (.reg false [⟨some 57, none, .mov (.t 3)⟩,
 ⟨some 2, none, .mov (.t 57)⟩])
 (.ret (some [2])))))))⟩
theorem c_spec_l1Byte_ok : trF Try.prog ⟨[], [2], false⟩ Try.f120 = some c_spec_l1Byte := by kernel_rfl
def T : FuncId → Option IFn
  | 3 => some c_laws_FnExactSetOk
  | 4 => some c_laws_FnExactRingList
  | 5 => some c_laws_FnExactSetHas16
  | 6 => some c_laws_FnExactRingMove
  | 7 => some c_laws_FnExactNewSpace
  | 8 => some c_laws_FnRings
  | 9 => some c_laws_FnExactSetDrop
  | 10 => some c_laws_FnExactTreeDrop
  | 11 => some c_laws_FnExactSetSame
  | 12 => some c_laws_FnExactSetList
  | 13 => some c_laws_FnExactSetAdd
  | 14 => some c_laws_FnExactSetJoin
  | 15 => some c_laws_szIntSS
  | 16 => some c_spec_SetOk
  | 17 => some c_laws_toIntSS
  | 18 => some c_impl_SetOk
  | 19 => some c_laws_eqIntSS
  | 20 => some c_spec_RingList
  | 21 => some c_laws_toRing
  | 22 => some c_impl_RingList
  | 23 => some c_laws_eqIntS
  | 24 => some c_laws_markIntS
  | 25 => some c_laws_heldIntS
  | 26 => some c_spec_SetHas16
  | 27 => some c_impl_SetHas16
  | 28 => some c_spec_RingMove
  | 29 => some c_impl_RingMove
  | 30 => some c_laws_eqRing
  | 31 => some c_spec_NewSpace
  | 32 => some c_impl_NewSpace
  | 33 => some c_laws_eqSpace
  | 34 => some c_laws_markSpace
  | 35 => some c_laws_heldSpace
  | 36 => some c_laws_big
  | 37 => some c_spec_DrawRing
  | 38 => some c_impl_RingPut
  | 39 => some c_impl_RingOk
  | 40 => some c_laws_sameInts
  | 41 => some c_impl_RingTake
  | 42 => some c_laws_at
  | 43 => some c_impl_RingTurn
  | 44 => some c_spec_SetDrop
  | 45 => some c_impl_SetDrop
  | 46 => some c_laws_markIntSS
  | 47 => some c_laws_heldIntSS
  | 48 => some c_spec_TreeDrop
  | 49 => some c_laws_toTree
  | 50 => some c_impl_TreeDrop
  | 51 => some c_laws_eqTree
  | 52 => some c_spec_SetSame
  | 53 => some c_impl_SetSame
  | 54 => some c_spec_SetList
  | 55 => some c_impl_SetList
  | 56 => some c_spec_SetAdd
  | 57 => some c_impl_SetAdd
  | 58 => some c_spec_SetJoin
  | 59 => some c_impl_SetJoin
  | 60 => some c_laws_szIntS
  | 61 => some c_spec_l1Value
  | 62 => some c_spec_l16Place
  | 63 => some c_laws_toIntS
  | 64 => some c_impl_isValue
  | 65 => some c_impl_placeOf
  | 66 => some c_spec_RingOk
  | 67 => some c_laws_toIntA8
  | 68 => some c_spec_l1Has
  | 69 => some c_impl_setHas
  | 70 => some c_spec_l1In
  | 71 => some c_spec_RingTake
  | 72 => some c_spec_RingPut
  | 73 => some c_impl_in
  | 74 => some c_laws_eqIntA8
  | 75 => some c_spec_NewChain
  | 76 => some c_spec_NewTree
  | 77 => some c_spec_NewSet
  | 78 => some c_impl_NewChain
  | 79 => some c_impl_NewTree
  | 80 => some c_impl_NewSet
  | 81 => some c_laws_eqChain
  | 82 => some c_spec_l14Draw
  | 83 => some c_spec_l1New
  | 84 => some c_impl_areValues
  | 85 => some c_spec_l16Copy
  | 86 => some c_impl_ownSet
  | 87 => some c_slices_DeleteFunc_int_int
  | 88 => some c_impl_SetDrop_1
  | 89 => some c_spec_TreeOk
  | 90 => some c_spec_l15Walk
  | 91 => some c_spec_l15Hang
  | 92 => some c_laws_toTwigA16
  | 93 => some c_impl_TreeOk
  | 94 => some c_impl_Tree_walk
  | 95 => some c_laws_eqTwigA16
  | 96 => some c_slices_Equal_int_int
  | 97 => some c_impl_listed
  | 98 => some c_spec_l16Put
  | 99 => some c_spec_l16Double
  | 100 => some c_impl_bucketed
  | 102 => some c_slices_Contains_int_int
  | 103 => some c_laws_eqNodeA16
  | 104 => some c_spec_l1Below
  | 105 => some c_spec_l1Once
  | 106 => some c_slices_ContainsFunc_int_int
  | 107 => some c_impl_areValues_1
  | 108 => some c_spec_l1Copy
  | 109 => some c_impl_own
  | 110 => some c_slices_IndexFunc_int_int
  | 111 => some c_spec_l15Keys
  | 112 => some c_laws_toTwig
  | 113 => some c_impl_Tree_isPart
  | 114 => some c_laws_eqTwig
  | 115 => some c_slices_Concat_int_int
  | 118 => some c_slices_Index_int_int
  | 119 => some c_laws_eqNode
  | 120 => some c_spec_l1Byte
  | _ => none
theorem T_3 : T 3 = some c_laws_FnExactSetOk := rfl
theorem T_4 : T 4 = some c_laws_FnExactRingList := rfl
theorem T_5 : T 5 = some c_laws_FnExactSetHas16 := rfl
theorem T_6 : T 6 = some c_laws_FnExactRingMove := rfl
theorem T_7 : T 7 = some c_laws_FnExactNewSpace := rfl
theorem T_8 : T 8 = some c_laws_FnRings := rfl
theorem T_9 : T 9 = some c_laws_FnExactSetDrop := rfl
theorem T_10 : T 10 = some c_laws_FnExactTreeDrop := rfl
theorem T_11 : T 11 = some c_laws_FnExactSetSame := rfl
theorem T_12 : T 12 = some c_laws_FnExactSetList := rfl
theorem T_13 : T 13 = some c_laws_FnExactSetAdd := rfl
theorem T_14 : T 14 = some c_laws_FnExactSetJoin := rfl
theorem T_15 : T 15 = some c_laws_szIntSS := rfl
theorem T_16 : T 16 = some c_spec_SetOk := rfl
theorem T_17 : T 17 = some c_laws_toIntSS := rfl
theorem T_18 : T 18 = some c_impl_SetOk := rfl
theorem T_19 : T 19 = some c_laws_eqIntSS := rfl
theorem T_20 : T 20 = some c_spec_RingList := rfl
theorem T_21 : T 21 = some c_laws_toRing := rfl
theorem T_22 : T 22 = some c_impl_RingList := rfl
theorem T_23 : T 23 = some c_laws_eqIntS := rfl
theorem T_24 : T 24 = some c_laws_markIntS := rfl
theorem T_25 : T 25 = some c_laws_heldIntS := rfl
theorem T_26 : T 26 = some c_spec_SetHas16 := rfl
theorem T_27 : T 27 = some c_impl_SetHas16 := rfl
theorem T_28 : T 28 = some c_spec_RingMove := rfl
theorem T_29 : T 29 = some c_impl_RingMove := rfl
theorem T_30 : T 30 = some c_laws_eqRing := rfl
theorem T_31 : T 31 = some c_spec_NewSpace := rfl
theorem T_32 : T 32 = some c_impl_NewSpace := rfl
theorem T_33 : T 33 = some c_laws_eqSpace := rfl
theorem T_34 : T 34 = some c_laws_markSpace := rfl
theorem T_35 : T 35 = some c_laws_heldSpace := rfl
theorem T_36 : T 36 = some c_laws_big := rfl
theorem T_37 : T 37 = some c_spec_DrawRing := rfl
theorem T_38 : T 38 = some c_impl_RingPut := rfl
theorem T_39 : T 39 = some c_impl_RingOk := rfl
theorem T_40 : T 40 = some c_laws_sameInts := rfl
theorem T_41 : T 41 = some c_impl_RingTake := rfl
theorem T_42 : T 42 = some c_laws_at := rfl
theorem T_43 : T 43 = some c_impl_RingTurn := rfl
theorem T_44 : T 44 = some c_spec_SetDrop := rfl
theorem T_45 : T 45 = some c_impl_SetDrop := rfl
theorem T_46 : T 46 = some c_laws_markIntSS := rfl
theorem T_47 : T 47 = some c_laws_heldIntSS := rfl
theorem T_48 : T 48 = some c_spec_TreeDrop := rfl
theorem T_49 : T 49 = some c_laws_toTree := rfl
theorem T_50 : T 50 = some c_impl_TreeDrop := rfl
theorem T_51 : T 51 = some c_laws_eqTree := rfl
theorem T_52 : T 52 = some c_spec_SetSame := rfl
theorem T_53 : T 53 = some c_impl_SetSame := rfl
theorem T_54 : T 54 = some c_spec_SetList := rfl
theorem T_55 : T 55 = some c_impl_SetList := rfl
theorem T_56 : T 56 = some c_spec_SetAdd := rfl
theorem T_57 : T 57 = some c_impl_SetAdd := rfl
theorem T_58 : T 58 = some c_spec_SetJoin := rfl
theorem T_59 : T 59 = some c_impl_SetJoin := rfl
theorem T_60 : T 60 = some c_laws_szIntS := rfl
theorem T_61 : T 61 = some c_spec_l1Value := rfl
theorem T_62 : T 62 = some c_spec_l16Place := rfl
theorem T_63 : T 63 = some c_laws_toIntS := rfl
theorem T_64 : T 64 = some c_impl_isValue := rfl
theorem T_65 : T 65 = some c_impl_placeOf := rfl
theorem T_66 : T 66 = some c_spec_RingOk := rfl
theorem T_67 : T 67 = some c_laws_toIntA8 := rfl
theorem T_68 : T 68 = some c_spec_l1Has := rfl
theorem T_69 : T 69 = some c_impl_setHas := rfl
theorem T_70 : T 70 = some c_spec_l1In := rfl
theorem T_71 : T 71 = some c_spec_RingTake := rfl
theorem T_72 : T 72 = some c_spec_RingPut := rfl
theorem T_73 : T 73 = some c_impl_in := rfl
theorem T_74 : T 74 = some c_laws_eqIntA8 := rfl
theorem T_75 : T 75 = some c_spec_NewChain := rfl
theorem T_76 : T 76 = some c_spec_NewTree := rfl
theorem T_77 : T 77 = some c_spec_NewSet := rfl
theorem T_78 : T 78 = some c_impl_NewChain := rfl
theorem T_79 : T 79 = some c_impl_NewTree := rfl
theorem T_80 : T 80 = some c_impl_NewSet := rfl
theorem T_81 : T 81 = some c_laws_eqChain := rfl
theorem T_82 : T 82 = some c_spec_l14Draw := rfl
theorem T_83 : T 83 = some c_spec_l1New := rfl
theorem T_84 : T 84 = some c_impl_areValues := rfl
theorem T_85 : T 85 = some c_spec_l16Copy := rfl
theorem T_86 : T 86 = some c_impl_ownSet := rfl
theorem T_87 : T 87 = some c_slices_DeleteFunc_int_int := rfl
theorem T_88 : T 88 = some c_impl_SetDrop_1 := rfl
theorem T_89 : T 89 = some c_spec_TreeOk := rfl
theorem T_90 : T 90 = some c_spec_l15Walk := rfl
theorem T_91 : T 91 = some c_spec_l15Hang := rfl
theorem T_92 : T 92 = some c_laws_toTwigA16 := rfl
theorem T_93 : T 93 = some c_impl_TreeOk := rfl
theorem T_94 : T 94 = some c_impl_Tree_walk := rfl
theorem T_95 : T 95 = some c_laws_eqTwigA16 := rfl
theorem T_96 : T 96 = some c_slices_Equal_int_int := rfl
theorem T_97 : T 97 = some c_impl_listed := rfl
theorem T_98 : T 98 = some c_spec_l16Put := rfl
theorem T_99 : T 99 = some c_spec_l16Double := rfl
theorem T_100 : T 100 = some c_impl_bucketed := rfl
theorem T_102 : T 102 = some c_slices_Contains_int_int := rfl
theorem T_103 : T 103 = some c_laws_eqNodeA16 := rfl
theorem T_104 : T 104 = some c_spec_l1Below := rfl
theorem T_105 : T 105 = some c_spec_l1Once := rfl
theorem T_106 : T 106 = some c_slices_ContainsFunc_int_int := rfl
theorem T_107 : T 107 = some c_impl_areValues_1 := rfl
theorem T_108 : T 108 = some c_spec_l1Copy := rfl
theorem T_109 : T 109 = some c_impl_own := rfl
theorem T_110 : T 110 = some c_slices_IndexFunc_int_int := rfl
theorem T_111 : T 111 = some c_spec_l15Keys := rfl
theorem T_112 : T 112 = some c_laws_toTwig := rfl
theorem T_113 : T 113 = some c_impl_Tree_isPart := rfl
theorem T_114 : T 114 = some c_laws_eqTwig := rfl
theorem T_115 : T 115 = some c_slices_Concat_int_int := rfl
theorem T_118 : T 118 = some c_slices_Index_int_int := rfl
theorem T_119 : T 119 = some c_laws_eqNode := rfl
theorem T_120 : T 120 = some c_spec_l1Byte := rfl
theorem ne_name {s t : String} (h : (s == t) = false) : s ≠ t := by simpa using h
theorem tabOk : TabOk Try.prog T := by
  intro f ifn h
  unfold T at h
  split at h
  · injection h with h; subst h; exact ⟨_, _, Try.func3, c_laws_FnExactSetOk_ok, ne_name (by kernel_rfl)⟩
  · injection h with h; subst h; exact ⟨_, _, Try.func4, c_laws_FnExactRingList_ok, ne_name (by kernel_rfl)⟩
  · injection h with h; subst h; exact ⟨_, _, Try.func5, c_laws_FnExactSetHas16_ok, ne_name (by kernel_rfl)⟩
  · injection h with h; subst h; exact ⟨_, _, Try.func6, c_laws_FnExactRingMove_ok, ne_name (by kernel_rfl)⟩
  · injection h with h; subst h; exact ⟨_, _, Try.func7, c_laws_FnExactNewSpace_ok, ne_name (by kernel_rfl)⟩
  · injection h with h; subst h; exact ⟨_, _, Try.func8, c_laws_FnRings_ok, ne_name (by kernel_rfl)⟩
  · injection h with h; subst h; exact ⟨_, _, Try.func9, c_laws_FnExactSetDrop_ok, ne_name (by kernel_rfl)⟩
  · injection h with h; subst h; exact ⟨_, _, Try.func10, c_laws_FnExactTreeDrop_ok, ne_name (by kernel_rfl)⟩
  · injection h with h; subst h; exact ⟨_, _, Try.func11, c_laws_FnExactSetSame_ok, ne_name (by kernel_rfl)⟩
  · injection h with h; subst h; exact ⟨_, _, Try.func12, c_laws_FnExactSetList_ok, ne_name (by kernel_rfl)⟩
  · injection h with h; subst h; exact ⟨_, _, Try.func13, c_laws_FnExactSetAdd_ok, ne_name (by kernel_rfl)⟩
  · injection h with h; subst h; exact ⟨_, _, Try.func14, c_laws_FnExactSetJoin_ok, ne_name (by kernel_rfl)⟩
  · injection h with h; subst h; exact ⟨_, _, Try.func15, c_laws_szIntSS_ok, ne_name (by kernel_rfl)⟩
  · injection h with h; subst h; exact ⟨_, _, Try.func16, c_spec_SetOk_ok, ne_name (by kernel_rfl)⟩
  · injection h with h; subst h; exact ⟨_, _, Try.func17, c_laws_toIntSS_ok, ne_name (by kernel_rfl)⟩
  · injection h with h; subst h; exact ⟨_, _, Try.func18, c_impl_SetOk_ok, ne_name (by kernel_rfl)⟩
  · injection h with h; subst h; exact ⟨_, _, Try.func19, c_laws_eqIntSS_ok, ne_name (by kernel_rfl)⟩
  · injection h with h; subst h; exact ⟨_, _, Try.func20, c_spec_RingList_ok, ne_name (by kernel_rfl)⟩
  · injection h with h; subst h; exact ⟨_, _, Try.func21, c_laws_toRing_ok, ne_name (by kernel_rfl)⟩
  · injection h with h; subst h; exact ⟨_, _, Try.func22, c_impl_RingList_ok, ne_name (by kernel_rfl)⟩
  · injection h with h; subst h; exact ⟨_, _, Try.func23, c_laws_eqIntS_ok, ne_name (by kernel_rfl)⟩
  · injection h with h; subst h; exact ⟨_, _, Try.func24, c_laws_markIntS_ok, ne_name (by kernel_rfl)⟩
  · injection h with h; subst h; exact ⟨_, _, Try.func25, c_laws_heldIntS_ok, ne_name (by kernel_rfl)⟩
  · injection h with h; subst h; exact ⟨_, _, Try.func26, c_spec_SetHas16_ok, ne_name (by kernel_rfl)⟩
  · injection h with h; subst h; exact ⟨_, _, Try.func27, c_impl_SetHas16_ok, ne_name (by kernel_rfl)⟩
  · injection h with h; subst h; exact ⟨_, _, Try.func28, c_spec_RingMove_ok, ne_name (by kernel_rfl)⟩
  · injection h with h; subst h; exact ⟨_, _, Try.func29, c_impl_RingMove_ok, ne_name (by kernel_rfl)⟩
  · injection h with h; subst h; exact ⟨_, _, Try.func30, c_laws_eqRing_ok, ne_name (by kernel_rfl)⟩
  · injection h with h; subst h; exact ⟨_, _, Try.func31, c_spec_NewSpace_ok, ne_name (by kernel_rfl)⟩
  · injection h with h; subst h; exact ⟨_, _, Try.func32, c_impl_NewSpace_ok, ne_name (by kernel_rfl)⟩
  · injection h with h; subst h; exact ⟨_, _, Try.func33, c_laws_eqSpace_ok, ne_name (by kernel_rfl)⟩
  · injection h with h; subst h; exact ⟨_, _, Try.func34, c_laws_markSpace_ok, ne_name (by kernel_rfl)⟩
  · injection h with h; subst h; exact ⟨_, _, Try.func35, c_laws_heldSpace_ok, ne_name (by kernel_rfl)⟩
  · injection h with h; subst h; exact ⟨_, _, Try.func36, c_laws_big_ok, ne_name (by kernel_rfl)⟩
  · injection h with h; subst h; exact ⟨_, _, Try.func37, c_spec_DrawRing_ok, ne_name (by kernel_rfl)⟩
  · injection h with h; subst h; exact ⟨_, _, Try.func38, c_impl_RingPut_ok, ne_name (by kernel_rfl)⟩
  · injection h with h; subst h; exact ⟨_, _, Try.func39, c_impl_RingOk_ok, ne_name (by kernel_rfl)⟩
  · injection h with h; subst h; exact ⟨_, _, Try.func40, c_laws_sameInts_ok, ne_name (by kernel_rfl)⟩
  · injection h with h; subst h; exact ⟨_, _, Try.func41, c_impl_RingTake_ok, ne_name (by kernel_rfl)⟩
  · injection h with h; subst h; exact ⟨_, _, Try.func42, c_laws_at_ok, ne_name (by kernel_rfl)⟩
  · injection h with h; subst h; exact ⟨_, _, Try.func43, c_impl_RingTurn_ok, ne_name (by kernel_rfl)⟩
  · injection h with h; subst h; exact ⟨_, _, Try.func44, c_spec_SetDrop_ok, ne_name (by kernel_rfl)⟩
  · injection h with h; subst h; exact ⟨_, _, Try.func45, c_impl_SetDrop_ok, ne_name (by kernel_rfl)⟩
  · injection h with h; subst h; exact ⟨_, _, Try.func46, c_laws_markIntSS_ok, ne_name (by kernel_rfl)⟩
  · injection h with h; subst h; exact ⟨_, _, Try.func47, c_laws_heldIntSS_ok, ne_name (by kernel_rfl)⟩
  · injection h with h; subst h; exact ⟨_, _, Try.func48, c_spec_TreeDrop_ok, ne_name (by kernel_rfl)⟩
  · injection h with h; subst h; exact ⟨_, _, Try.func49, c_laws_toTree_ok, ne_name (by kernel_rfl)⟩
  · injection h with h; subst h; exact ⟨_, _, Try.func50, c_impl_TreeDrop_ok, ne_name (by kernel_rfl)⟩
  · injection h with h; subst h; exact ⟨_, _, Try.func51, c_laws_eqTree_ok, ne_name (by kernel_rfl)⟩
  · injection h with h; subst h; exact ⟨_, _, Try.func52, c_spec_SetSame_ok, ne_name (by kernel_rfl)⟩
  · injection h with h; subst h; exact ⟨_, _, Try.func53, c_impl_SetSame_ok, ne_name (by kernel_rfl)⟩
  · injection h with h; subst h; exact ⟨_, _, Try.func54, c_spec_SetList_ok, ne_name (by kernel_rfl)⟩
  · injection h with h; subst h; exact ⟨_, _, Try.func55, c_impl_SetList_ok, ne_name (by kernel_rfl)⟩
  · injection h with h; subst h; exact ⟨_, _, Try.func56, c_spec_SetAdd_ok, ne_name (by kernel_rfl)⟩
  · injection h with h; subst h; exact ⟨_, _, Try.func57, c_impl_SetAdd_ok, ne_name (by kernel_rfl)⟩
  · injection h with h; subst h; exact ⟨_, _, Try.func58, c_spec_SetJoin_ok, ne_name (by kernel_rfl)⟩
  · injection h with h; subst h; exact ⟨_, _, Try.func59, c_impl_SetJoin_ok, ne_name (by kernel_rfl)⟩
  · injection h with h; subst h; exact ⟨_, _, Try.func60, c_laws_szIntS_ok, ne_name (by kernel_rfl)⟩
  · injection h with h; subst h; exact ⟨_, _, Try.func61, c_spec_l1Value_ok, ne_name (by kernel_rfl)⟩
  · injection h with h; subst h; exact ⟨_, _, Try.func62, c_spec_l16Place_ok, ne_name (by kernel_rfl)⟩
  · injection h with h; subst h; exact ⟨_, _, Try.func63, c_laws_toIntS_ok, ne_name (by kernel_rfl)⟩
  · injection h with h; subst h; exact ⟨_, _, Try.func64, c_impl_isValue_ok, ne_name (by kernel_rfl)⟩
  · injection h with h; subst h; exact ⟨_, _, Try.func65, c_impl_placeOf_ok, ne_name (by kernel_rfl)⟩
  · injection h with h; subst h; exact ⟨_, _, Try.func66, c_spec_RingOk_ok, ne_name (by kernel_rfl)⟩
  · injection h with h; subst h; exact ⟨_, _, Try.func67, c_laws_toIntA8_ok, ne_name (by kernel_rfl)⟩
  · injection h with h; subst h; exact ⟨_, _, Try.func68, c_spec_l1Has_ok, ne_name (by kernel_rfl)⟩
  · injection h with h; subst h; exact ⟨_, _, Try.func69, c_impl_setHas_ok, ne_name (by kernel_rfl)⟩
  · injection h with h; subst h; exact ⟨_, _, Try.func70, c_spec_l1In_ok, ne_name (by kernel_rfl)⟩
  · injection h with h; subst h; exact ⟨_, _, Try.func71, c_spec_RingTake_ok, ne_name (by kernel_rfl)⟩
  · injection h with h; subst h; exact ⟨_, _, Try.func72, c_spec_RingPut_ok, ne_name (by kernel_rfl)⟩
  · injection h with h; subst h; exact ⟨_, _, Try.func73, c_impl_in_ok, ne_name (by kernel_rfl)⟩
  · injection h with h; subst h; exact ⟨_, _, Try.func74, c_laws_eqIntA8_ok, ne_name (by kernel_rfl)⟩
  · injection h with h; subst h; exact ⟨_, _, Try.func75, c_spec_NewChain_ok, ne_name (by kernel_rfl)⟩
  · injection h with h; subst h; exact ⟨_, _, Try.func76, c_spec_NewTree_ok, ne_name (by kernel_rfl)⟩
  · injection h with h; subst h; exact ⟨_, _, Try.func77, c_spec_NewSet_ok, ne_name (by kernel_rfl)⟩
  · injection h with h; subst h; exact ⟨_, _, Try.func78, c_impl_NewChain_ok, ne_name (by kernel_rfl)⟩
  · injection h with h; subst h; exact ⟨_, _, Try.func79, c_impl_NewTree_ok, ne_name (by kernel_rfl)⟩
  · injection h with h; subst h; exact ⟨_, _, Try.func80, c_impl_NewSet_ok, ne_name (by kernel_rfl)⟩
  · injection h with h; subst h; exact ⟨_, _, Try.func81, c_laws_eqChain_ok, ne_name (by kernel_rfl)⟩
  · injection h with h; subst h; exact ⟨_, _, Try.func82, c_spec_l14Draw_ok, ne_name (by kernel_rfl)⟩
  · injection h with h; subst h; exact ⟨_, _, Try.func83, c_spec_l1New_ok, ne_name (by kernel_rfl)⟩
  · injection h with h; subst h; exact ⟨_, _, Try.func84, c_impl_areValues_ok, ne_name (by kernel_rfl)⟩
  · injection h with h; subst h; exact ⟨_, _, Try.func85, c_spec_l16Copy_ok, ne_name (by kernel_rfl)⟩
  · injection h with h; subst h; exact ⟨_, _, Try.func86, c_impl_ownSet_ok, ne_name (by kernel_rfl)⟩
  · injection h with h; subst h; exact ⟨_, _, Try.func87, c_slices_DeleteFunc_int_int_ok, ne_name (by kernel_rfl)⟩
  · injection h with h; subst h; exact ⟨_, _, Try.func88, c_impl_SetDrop_1_ok, ne_name (by kernel_rfl)⟩
  · injection h with h; subst h; exact ⟨_, _, Try.func89, c_spec_TreeOk_ok, ne_name (by kernel_rfl)⟩
  · injection h with h; subst h; exact ⟨_, _, Try.func90, c_spec_l15Walk_ok, ne_name (by kernel_rfl)⟩
  · injection h with h; subst h; exact ⟨_, _, Try.func91, c_spec_l15Hang_ok, ne_name (by kernel_rfl)⟩
  · injection h with h; subst h; exact ⟨_, _, Try.func92, c_laws_toTwigA16_ok, ne_name (by kernel_rfl)⟩
  · injection h with h; subst h; exact ⟨_, _, Try.func93, c_impl_TreeOk_ok, ne_name (by kernel_rfl)⟩
  · injection h with h; subst h; exact ⟨_, _, Try.func94, c_impl_Tree_walk_ok, ne_name (by kernel_rfl)⟩
  · injection h with h; subst h; exact ⟨_, _, Try.func95, c_laws_eqTwigA16_ok, ne_name (by kernel_rfl)⟩
  · injection h with h; subst h; exact ⟨_, _, Try.func96, c_slices_Equal_int_int_ok, ne_name (by kernel_rfl)⟩
  · injection h with h; subst h; exact ⟨_, _, Try.func97, c_impl_listed_ok, ne_name (by kernel_rfl)⟩
  · injection h with h; subst h; exact ⟨_, _, Try.func98, c_spec_l16Put_ok, ne_name (by kernel_rfl)⟩
  · injection h with h; subst h; exact ⟨_, _, Try.func99, c_spec_l16Double_ok, ne_name (by kernel_rfl)⟩
  · injection h with h; subst h; exact ⟨_, _, Try.func100, c_impl_bucketed_ok, ne_name (by kernel_rfl)⟩
  · injection h with h; subst h; exact ⟨_, _, Try.func102, c_slices_Contains_int_int_ok, ne_name (by kernel_rfl)⟩
  · injection h with h; subst h; exact ⟨_, _, Try.func103, c_laws_eqNodeA16_ok, ne_name (by kernel_rfl)⟩
  · injection h with h; subst h; exact ⟨_, _, Try.func104, c_spec_l1Below_ok, ne_name (by kernel_rfl)⟩
  · injection h with h; subst h; exact ⟨_, _, Try.func105, c_spec_l1Once_ok, ne_name (by kernel_rfl)⟩
  · injection h with h; subst h; exact ⟨_, _, Try.func106, c_slices_ContainsFunc_int_int_ok, ne_name (by kernel_rfl)⟩
  · injection h with h; subst h; exact ⟨_, _, Try.func107, c_impl_areValues_1_ok, ne_name (by kernel_rfl)⟩
  · injection h with h; subst h; exact ⟨_, _, Try.func108, c_spec_l1Copy_ok, ne_name (by kernel_rfl)⟩
  · injection h with h; subst h; exact ⟨_, _, Try.func109, c_impl_own_ok, ne_name (by kernel_rfl)⟩
  · injection h with h; subst h; exact ⟨_, _, Try.func110, c_slices_IndexFunc_int_int_ok, ne_name (by kernel_rfl)⟩
  · injection h with h; subst h; exact ⟨_, _, Try.func111, c_spec_l15Keys_ok, ne_name (by kernel_rfl)⟩
  · injection h with h; subst h; exact ⟨_, _, Try.func112, c_laws_toTwig_ok, ne_name (by kernel_rfl)⟩
  · injection h with h; subst h; exact ⟨_, _, Try.func113, c_impl_Tree_isPart_ok, ne_name (by kernel_rfl)⟩
  · injection h with h; subst h; exact ⟨_, _, Try.func114, c_laws_eqTwig_ok, ne_name (by kernel_rfl)⟩
  · injection h with h; subst h; exact ⟨_, _, Try.func115, c_slices_Concat_int_int_ok, ne_name (by kernel_rfl)⟩
  · injection h with h; subst h; exact ⟨_, _, Try.func118, c_slices_Index_int_int_ok, ne_name (by kernel_rfl)⟩
  · injection h with h; subst h; exact ⟨_, _, Try.func119, c_laws_eqNode_ok, ne_name (by kernel_rfl)⟩
  · injection h with h; subst h; exact ⟨_, _, Try.func120, c_spec_l1Byte_ok, ne_name (by kernel_rfl)⟩
  · cases h
end Go.Proofs.Ytkoloapgeilbdaa
