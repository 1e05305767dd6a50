/-
  The functions of the program that the laws here reach, in the small language; each is what the translation gives (checked by the kernel).
-/
import Derived.Test.YtdnfcomgdgdifaaTaba
import Derived.Test.YtdnfcomgdgdifaaMD
import Derived.Test.YtdnfcomgdgdifaaProg
import Derived.KernelRfl
set_option linter.unusedVariables false
namespace Go.Proofs.Ytdnfcomgdgdifaa
def c_spec_TreeAdd_b0 : IC :=
  (.seq (.seq (.reg false [⟨some 31, none, .mov (.t 9)⟩,
 ⟨some 32, none, .bin .lss (.t 31) (.k (.c (.int .i64 16)))⟩,
 ⟨some 33, none, .mov (.t 32)⟩,
 ⟨some 34, some (33, true), .mov (.t 9)⟩,
 ⟨some 35, some (33, true), .fld (.t 2) 0⟩,
 ⟨some 36, some (33, true), .ixa (.t 35) (.t 34) 16 4⟩,
 ⟨some 37, some (33, true), .fld (.t 36) 0⟩,
 ⟨some 38, some (33, true), .load1 (.t 37)⟩,
 ⟨some 39, none, .pick (.t 33) (.t 38) (.k (.c (.bool false)))⟩])
 (.cond (.t 39) .skip (.exit 0)))
 (.block 1 none none
 (.reg false [⟨some 40, none, .mov (.t 9)⟩,
 ⟨some 41, none, .bin .add (.t 40) (.k (.c (.int .i64 1)))⟩,
 ⟨some 9, none, .mov (.t 41)⟩])))
def c_spec_TreeAdd : IFn := ⟨55, [.cell 4 65 true, .t 5],
  (.seq (.reg false [⟨some 2, none, .box (.t 0) 47⟩,
 ⟨some 4, none, .alloc [.bool false, .int .i64 0, .int .i64 0, .int .i64 0, .bool false, .int .i64 0, .int .i64 0, .int .i64 0, .bool false, .int .i64 0, .int .i64 0, .int .i64 0, .bool false, .int .i64 0, .int .i64 0, .int .i64 0, .bool false, .int .i64 0, .int .i64 0, .int .i64 0, .bool false, .int .i64 0, .int .i64 0, .int .i64 0, .bool false, .int .i64 0, .int .i64 0, .int .i64 0, .bool false, .int .i64 0, .int .i64 0, .int .i64 0, .bool false, .int .i64 0, .int .i64 0, .int .i64 0, .bool false, .int .i64 0, .int .i64 0, .int .i64 0, .bool false, .int .i64 0, .int .i64 0, .int .i64 0, .bool false, .int .i64 0, .int .i64 0, .int .i64 0, .bool false, .int .i64 0, .int .i64 0, .int .i64 0, .bool false, .int .i64 0, .int .i64 0, .int .i64 0, .bool false, .int .i64 0, .int .i64 0, .int .i64 0, .bool false, .int .i64 0, .int .i64 0, .int .i64 0, .int .i64 0] 47⟩,
 ⟨some 5, none, .mov (.k (.c (.int .i64 0)))⟩])
 (.seq (.seq (.reg false [⟨some 10, none, .loadN (.t 2) 65⟩,
 ⟨some 11, none, .call 65 [.t 10]⟩,
 ⟨some 12, none, .un .not (.t 11)⟩,
 ⟨some 13, none, .mov (.t 12)⟩,
 ⟨some 14, some (13, false), .mov (.t 1)⟩,
 ⟨some 15, some (13, false), .call 66 [.t 14]⟩,
 ⟨some 16, some (13, false), .un .not (.t 15)⟩,
 ⟨some 17, none, .pick (.t 13) (.k (.c (.bool true))) (.t 16)⟩])
 (.cond (.t 17) (.seq (.reg false [⟨some 18, none, .loadN (.t 2) 65⟩,
 ⟨none, none, .store (.t 4) (.t 18) 65⟩,
 ⟨some 5, none, .mov (.k (.c (.int .i64 1)))⟩])
 (.ret (some [4, 5]))) .skip))
 (.seq (.reg false [⟨some 20, none, .loadN (.t 2) 65⟩,
 ⟨some 21, none, .mov (.t 1)⟩,
 ⟨some 22, none, .call 67 [.t 20, .t 21]⟩,
 ⟨some 19, none, .mov (.t 22)⟩,
 ⟨some 23, none, .ext (.t 19) 0⟩,
 ⟨some 24, none, .ext (.t 19) 1⟩,
 ⟨some 25, none, .ext (.t 19) 2⟩,
 ⟨some 6, none, .mov (.t 23)⟩,
 ⟨some 7, none, .mov (.t 24)⟩,
 ⟨some 8, none, .mov (.t 25)⟩])
 (.seq (.seq (.reg false [⟨some 26, none, .mov (.t 8)⟩,
 ⟨some 27, none, .un .not (.t 26)⟩])
 (.cond (.t 27) (.seq (.reg false [⟨some 28, none, .loadN (.t 2) 65⟩,
 ⟨none, none, .store (.t 4) (.t 28) 65⟩,
 ⟨some 5, none, .mov (.k (.c (.int .i64 2)))⟩])
 (.ret (some [4, 5]))) .skip))
 (.seq (.seq (.reg false [⟨some 29, none, .mov (.t 7)⟩])
 (.cond (.t 29) (.seq (.reg false [⟨some 30, none, .loadN (.t 2) 65⟩,
 ⟨none, none, .store (.t 4) (.t 30) 65⟩,
 ⟨some 5, none, .mov (.k (.c (.int .i64 4)))⟩])
 (.ret (some [4, 5]))) .skip))
 (.seq (.reg false [⟨some 9, none, .mov (.k (.c (.int .i64 0)))⟩])
 (.seq (.block 0 (some [1, 2, 4, 6, 9]) (some [1, 2, 4, 6, 9])
 (.loop c_spec_TreeAdd_b0))
 (.seq (.seq (.reg false [⟨some 42, none, .mov (.t 9)⟩,
 ⟨some 43, none, .bin .eql (.t 42) (.k (.c (.int .i64 16)))⟩])
 (.cond (.t 43) (.seq (.reg false [⟨some 44, none, .loadN (.t 2) 65⟩,
 ⟨none, none, .store (.t 4) (.t 44) 65⟩,
 ⟨some 5, none, .mov (.k (.c (.int .i64 3)))⟩])
 (.ret (some [4, 5]))) .skip))
 (.seq (.reg false [⟨some 45, none, .mov (.t 9)⟩,
 ⟨some 46, none, .mov (.t 1)⟩,
 ⟨some 47, none, .bld [.bool false, .int .i64 0, .int .i64 0, .int .i64 0] [(0, (1, .k (.c (.bool true)))), (1, (1, .t 46)), (2, (1, .k (.c (.int .i64 (-1))))), (3, (1, .k (.c (.int .i64 (-1)))))]⟩,
 ⟨some 48, none, .fld (.t 2) 0⟩,
 ⟨some 49, none, .ixa (.t 48) (.t 45) 16 4⟩,
 ⟨none, none, .store (.t 49) (.t 47) 4⟩])
 (.seq (.reg false [⟨some 50, none, .loadN (.t 2) 65⟩,
 ⟨some 51, none, .mov (.t 6)⟩,
 ⟨some 52, none, .mov (.t 1)⟩,
 ⟨some 53, none, .mov (.t 9)⟩,
 ⟨some 54, none, .call 68 [.t 50, .t 51, .t 52, .t 53]⟩,
 ⟨none, none, .store (.t 4) (.t 54) 65⟩,
 ⟨some 5, none, .mov (.k (.c (.int .i64 0)))⟩])
 (.ret (some [4, 5]))))))))))))⟩
theorem c_spec_TreeAdd_ok : trF Try.prog ⟨[(0, [1, 2, 4, 6, 9], [1, 2, 4, 6, 9])], [4, 5], false, false⟩ Try.f128 = some c_spec_TreeAdd := by kernel_rfl
def c_slices_IndexFunc_int_int_b0 : IC :=
  (.seq (.reg false [⟨some 9, none, .bin .lss (.t 8) (.t 7)⟩])
 (.seq (.cond (.t 9) .skip (.exit 0))
 (.seq (.block 1 none none
 (.seq (.reg false [⟨some 10, none, .mov (.t 8)⟩,
 ⟨some 5, none, .mov (.t 10)⟩])
 (.seq (.reg false [⟨some 11, none, .mov (.t 1)⟩,
 ⟨some 12, none, .mov (.t 0)⟩,
 ⟨some 13, none, .mov (.t 5)⟩,
 ⟨some 14, none, .ixs (.t 12) (.t 13) 1⟩,
 ⟨some 15, none, .load1 (.t 14)⟩,
 ⟨some 16, none, .callv (.t 11) [.t 15]⟩])
 (.cond (.t 16) (.seq (.reg false [⟨some 17, none, .mov (.t 5)⟩,
 ⟨some 4, none, .mov (.t 17)⟩])
 (.ret (some [4]))) .skip))))
 (.reg false [⟨some 18, none, .bin .add (.t 8) (.k (.c (.int .i64 1)))⟩,
 ⟨some 8, none, .mov (.t 18)⟩]))))
def c_slices_IndexFunc_int_int : IFn := ⟨19, [.t 4],
  (.seq (.reg false [⟨some 4, none, .mov (.k (.c (.int .i64 0)))⟩])
 (.seq (.seq (.reg false [⟨some 6, none, .mov (.t 0)⟩,
 ⟨some 7, none, .len (.t 6)⟩,
 ⟨some 8, none, .mov (.k (.c (.int .i64 0)))⟩])
 (.block 0 (some [0, 1, 7, 8]) (some [])
 (.loop c_slices_IndexFunc_int_int_b0)))
 (.seq (.reg false [⟨some 4, none, .mov (.k (.c (.int .i64 (-1))))⟩])
 (.ret (some [4])))))⟩
theorem c_slices_IndexFunc_int_int_ok : trF Try.prog ⟨[(0, [0, 1, 7, 8], [])], [4], false, false⟩ Try.f144 = some c_slices_IndexFunc_int_int := by kernel_rfl
def c_spec_l1Byte : IFn := ⟨58, [.t 2],
  (.seq (.reg false [⟨some 2, none, .mov (.k (.c (.int .i64 0)))⟩])
 (.seq (.reg false [⟨some 4, none, .mov (.t 0)⟩,
 ⟨some 5, none, .mov (.t 0)⟩,
 ⟨some 6, none, .chk (.t 5)⟩,
 ⟨some 7, none, .fld (.t 6) 2⟩,
 ⟨some 8, none, .load1 (.t 7)⟩,
 ⟨some 9, none, .bin .mul (.t 8) (.k (.c (.int .i64 6364136223846793005)))⟩,
 ⟨some 10, none, .bin .add (.t 9) (.k (.c (.int .i64 1442695040888963407)))⟩,
 ⟨some 11, none, .chk (.t 4)⟩,
 ⟨some 12, none, .fld (.t 11) 2⟩,
 ⟨none, none, .store (.t 12) (.t 10) 1⟩])
 (.seq (.reg true [⟨some 13, none, .mov (.t 0)⟩,
 ⟨some 14, none, .chk (.t 13)⟩,
 ⟨some 15, none, .fld (.t 14) 2⟩,
 ⟨some 16, none, .load1 (.t 15)⟩,
 ⟨some 17, none, .shf .shr (.t 16) (.k (.c (.int .u64 33)))⟩,
 ⟨some 18, none, .mov (.t 0)⟩,
 ⟨some 19, none, .chk (.t 18)⟩,
 ⟨some 20, none, .fld (.t 19) 2⟩,
 ⟨some 21, none, .load1 (.t 20)⟩,
 ⟨some 22, none, .shf .shr (.t 21) (.k (.c (.int .u64 45)))⟩,
 ⟨some 23, none, .bin .xor (.t 17) (.t 22)⟩,
 ⟨some 24, none, .bin .and (.t 23) (.k (.c (.int .i64 255)))⟩,
 ⟨some 3, none, .mov (.t 24)⟩])
 (.seq (.seq (.reg true [⟨some 25, none, .mov (.t 0)⟩,
 ⟨some 26, none, .chk (.t 25)⟩,
 ⟨some 27, none, .fld (.t 26) 1⟩,
 ⟨some 28, none, .load1 (.t 27)⟩,
 ⟨some 29, none, .mov (.t 0)⟩,
 ⟨some 30, none, .chk (.t 29)⟩,
 ⟨some 31, none, .fld (.t 30) 0⟩,
 ⟨some 32, none, .load1 (.t 31)⟩,
 ⟨some 33, none, .len (.t 32)⟩,
 ⟨some 34, none, .bin .lss (.t 28) (.t 33)⟩])
 (.cond (.t 34) (.seq (.reg true [⟨some 35, none, .mov (.t 3)⟩,
 ⟨some 36, none, .mov (.t 0)⟩,
 ⟨some 37, none, .chk (.t 36)⟩,
 ⟨some 38, none, .fld (.t 37) 0⟩,
 ⟨some 39, none, .load1 (.t 38)⟩,
 ⟨some 40, none, .mov (.t 0)⟩,
 ⟨some 41, none, .chk (.t 40)⟩,
 ⟨some 42, none, .fld (.t 41) 1⟩,
 ⟨some 43, none, .load1 (.t 42)⟩,
 ⟨some 44, none, .ixs (.t 39) (.t 43) 1⟩,
 ⟨some 45, none, .load1 (.t 44)⟩,
 ⟨some 46, none, .cvt .i64 (.t 45)⟩,
 ⟨some 47, none, .bin .add (.t 35) (.t 46)⟩,
 ⟨some 48, none, .bin .and (.t 47) (.k (.c (.int .i64 255)))⟩,
 ⟨some 3, none, .mov (.t 48)⟩])
 (.reg false [⟨some 49, none, .mov (.t 0)⟩,
 ⟨some 50, none, .mov (.t 0)⟩,
 ⟨some 51, none, .chk (.t 50)⟩,
 ⟨some 52, none, .fld (.t 51) 1⟩,
 ⟨some 53, none, .load1 (.t 52)⟩,
 ⟨some 54, none, .bin .add (.t 53) (.k (.c (.int .i64 1)))⟩,
 ⟨some 55, none, .chk (.t 49)⟩,
 ⟨some 56, none, .fld (.t 55) 1⟩,
 ⟨none, none, .store (.t 56) (.t 54) 1⟩])) .skip))
 (.seq (.reg false [⟨some 57, none, .mov (.t 3)⟩,
 ⟨some 2, none, .mov (.t 57)⟩])
 (.ret (some [2])))))))⟩
theorem c_spec_l1Byte_ok : trF Try.prog ⟨[], [2], false, false⟩ Try.f159 = some c_spec_l1Byte := by kernel_rfl
def c_spec_l13Walk_b0 : IC :=
  (.seq (.seq (.reg false [⟨some 13, none, .mov (.t 10)⟩,
 ⟨some 14, none, .bin .neq (.t 13) (.k (.c (.int .i64 (-1))))⟩])
 (.cond (.t 14) .skip (.exit 0)))
 (.seq (.block 1 none none
 (.seq (.seq (.reg false [⟨some 20, none, .mov (.t 9)⟩,
 ⟨some 21, none, .bin .eql (.t 20) (.k (.c (.int .i64 10)))⟩])
 (.cond (.t 21) (.seq (.reg false [⟨some 22, none, .mov (.t 9)⟩,
 ⟨some 4, none, .mov (.k (.c (.int .i64 0)))⟩,
 ⟨some 5, none, .mov (.k (.c (.int .i64 0)))⟩,
 ⟨some 6, none, .mov (.t 22)⟩,
 ⟨some 7, none, .mov (.k (.c (.bool false)))⟩])
 (.ret (some [4, 5, 6, 7]))) .skip))
 (.seq (.reg false [⟨some 23, none, .mov (.t 9)⟩,
 ⟨some 24, none, .bin .add (.t 23) (.k (.c (.int .i64 1)))⟩,
 ⟨some 9, none, .mov (.t 24)⟩])
 (.seq (.seq (.reg false [⟨some 25, none, .mov (.t 10)⟩,
 ⟨some 26, none, .fld (.t 2) 0⟩,
 ⟨some 27, none, .ixa (.t 26) (.t 25) 16 4⟩,
 ⟨some 28, none, .fld (.t 27) 1⟩,
 ⟨some 29, none, .load1 (.t 28)⟩,
 ⟨some 30, none, .mov (.t 1)⟩,
 ⟨some 31, none, .bin .geq (.t 29) (.t 30)⟩])
 (.cond (.t 31) (.seq (.reg false [⟨some 32, none, .mov (.t 10)⟩,
 ⟨some 33, none, .mov (.t 8)⟩,
 ⟨some 34, none, .mov (.t 9)⟩,
 ⟨some 4, none, .mov (.t 32)⟩,
 ⟨some 5, none, .mov (.t 33)⟩,
 ⟨some 6, none, .mov (.t 34)⟩,
 ⟨some 7, none, .mov (.k (.c (.bool true)))⟩])
 (.ret (some [4, 5, 6, 7]))) .skip))
 (.reg false [⟨some 35, none, .mov (.t 10)⟩,
 ⟨some 8, none, .mov (.t 35)⟩])))))
 (.reg false [⟨some 15, none, .mov (.t 10)⟩,
 ⟨some 16, none, .fld (.t 2) 0⟩,
 ⟨some 17, none, .ixa (.t 16) (.t 15) 16 4⟩,
 ⟨some 18, none, .fld (.t 17) 3⟩,
 ⟨some 19, none, .load1 (.t 18)⟩,
 ⟨some 10, none, .mov (.t 19)⟩])))
def c_spec_l13Walk : IFn := ⟨38, [.t 4, .t 5, .t 6, .t 7],
  (.seq (.reg false [⟨some 2, none, .box (.t 0) 57⟩,
 ⟨some 4, none, .mov (.k (.c (.int .i64 0)))⟩,
 ⟨some 5, none, .mov (.k (.c (.int .i64 0)))⟩,
 ⟨some 6, none, .mov (.k (.c (.int .i64 0)))⟩,
 ⟨some 7, none, .mov (.k (.c (.bool false)))⟩])
 (.seq (.reg false [⟨some 8, none, .mov (.k (.c (.int .i64 (-1))))⟩,
 ⟨some 9, none, .mov (.k (.c (.int .i64 0)))⟩])
 (.seq (.seq (.reg false [⟨some 11, none, .fld (.t 2) 64⟩,
 ⟨some 12, none, .load1 (.t 11)⟩,
 ⟨some 10, none, .mov (.t 12)⟩])
 (.block 0 (some [1, 2, 8, 9, 10]) (some [8, 9])
 (.loop c_spec_l13Walk_b0)))
 (.seq (.reg false [⟨some 36, none, .mov (.t 8)⟩,
 ⟨some 37, none, .mov (.t 9)⟩,
 ⟨some 4, none, .mov (.k (.c (.int .i64 (-1))))⟩,
 ⟨some 5, none, .mov (.t 36)⟩,
 ⟨some 6, none, .mov (.t 37)⟩,
 ⟨some 7, none, .mov (.k (.c (.bool true)))⟩])
 (.ret (some [4, 5, 6, 7]))))))⟩
theorem c_spec_l13Walk_ok : trF Try.prog ⟨[(0, [1, 2, 8, 9, 10], [8, 9])], [4, 5, 6, 7], false, false⟩ Try.f160 = some c_spec_l13Walk := by kernel_rfl
def T : FuncId → Option IFn
  | 3 => some c_laws_FnRings
  | 4 => some c_laws_FnExactTreeDrop
  | 5 => some c_laws_FnMaps
  | 6 => some c_laws_FnTrees
  | 10 => some c_laws_big
  | 11 => some c_spec_DrawRing
  | 12 => some c_impl_RingList
  | 13 => some c_impl_RingPut
  | 14 => some c_impl_RingOk
  | 15 => some c_laws_sameInts
  | 16 => some c_impl_RingTake
  | 17 => some c_laws_at
  | 18 => some c_impl_RingMove
  | 19 => some c_impl_RingTurn
  | 20 => some c_spec_TreeDrop
  | 21 => some c_laws_toTree
  | 22 => some c_impl_TreeDrop
  | 23 => some c_laws_eqTree
  | 24 => some c_spec_DrawChain
  | 25 => some c_impl_MapPairs
  | 26 => some c_impl_ChainOk
  | 27 => some c_impl_MapPut
  | 28 => some c_impl_MapGet
  | 29 => some c_impl_MapDrop
  | 30 => some c_impl_MapRange
  | 31 => some c_laws_within
  | 32 => some c_impl_NewChain
  | 33 => some c_spec_DrawTree
  | 34 => some c_impl_TreeKeys
  | 35 => some c_impl_TreeOk
  | 36 => some c_impl_TreeHigh
  | 37 => some c_impl_TreeAdd
  | 38 => some c_impl_TreeFind
  | 39 => some c_impl_TreeBuild
  | 40 => some c_impl_NewTree
  | 60 => some c_spec_l14Draw
  | 61 => some c_spec_l1New
  | 62 => some c_impl_isValue
  | 63 => some c_impl_in
  | 64 => some c_impl_areValues
  | 65 => some c_spec_TreeOk
  | 66 => some c_spec_l1Value
  | 67 => some c_spec_l15Walk
  | 68 => some c_spec_l15Hang
  | 69 => some c_laws_toTwigA16
  | 70 => some c_impl_Tree_walk
  | 71 => some c_laws_eqTwigA16
  | 72 => some c_spec_l13Draw
  | 73 => some c_impl_Chain_walk
  | 74 => some c_impl_Chain_has
  | 75 => some c_impl_Chain_link
  | 76 => some c_spec_l15Draw
  | 77 => some c_impl_Tree_keysOf
  | 78 => some c_impl_Tree_isPart
  | 79 => some c_impl_Tree_high
  | 80 => some c_impl_Tree_build
  | 82 => some c_spec_ChainOk
  | 83 => some c_spec_RingOk
  | 114 => some c_spec_l1Below
  | 115 => some c_spec_l1Once
  | 116 => some c_spec_RingTake
  | 117 => some c_spec_RingPut
  | 118 => some c_slices_ContainsFunc_int_int
  | 119 => some c_impl_areValues_1
  | 120 => some c_spec_l15Keys
  | 121 => some c_spec_l1In
  | 122 => some c_laws_toTwig
  | 123 => some c_laws_eqTwig
  | 124 => some c_spec_NewChain
  | 125 => some c_spec_MapDrop
  | 126 => some c_spec_MapPut
  | 127 => some c_spec_NewTree
  | 128 => some c_spec_TreeAdd
  | 144 => some c_slices_IndexFunc_int_int
  | 159 => some c_spec_l1Byte
  | 160 => some c_spec_l13Walk
  | _ => none
theorem T_3 : T 3 = some c_laws_FnRings := rfl
theorem T_4 : T 4 = some c_laws_FnExactTreeDrop := rfl
theorem T_5 : T 5 = some c_laws_FnMaps := rfl
theorem T_6 : T 6 = some c_laws_FnTrees := rfl
theorem T_10 : T 10 = some c_laws_big := rfl
theorem T_11 : T 11 = some c_spec_DrawRing := rfl
theorem T_12 : T 12 = some c_impl_RingList := rfl
theorem T_13 : T 13 = some c_impl_RingPut := rfl
theorem T_14 : T 14 = some c_impl_RingOk := rfl
theorem T_15 : T 15 = some c_laws_sameInts := rfl
theorem T_16 : T 16 = some c_impl_RingTake := rfl
theorem T_17 : T 17 = some c_laws_at := rfl
theorem T_18 : T 18 = some c_impl_RingMove := rfl
theorem T_19 : T 19 = some c_impl_RingTurn := rfl
theorem T_20 : T 20 = some c_spec_TreeDrop := rfl
theorem T_21 : T 21 = some c_laws_toTree := rfl
theorem T_22 : T 22 = some c_impl_TreeDrop := rfl
theorem T_23 : T 23 = some c_laws_eqTree := rfl
theorem T_24 : T 24 = some c_spec_DrawChain := rfl
theorem T_25 : T 25 = some c_impl_MapPairs := rfl
theorem T_26 : T 26 = some c_impl_ChainOk := rfl
theorem T_27 : T 27 = some c_impl_MapPut := rfl
theorem T_28 : T 28 = some c_impl_MapGet := rfl
theorem T_29 : T 29 = some c_impl_MapDrop := rfl
theorem T_30 : T 30 = some c_impl_MapRange := rfl
theorem T_31 : T 31 = some c_laws_within := rfl
theorem T_32 : T 32 = some c_impl_NewChain := rfl
theorem T_33 : T 33 = some c_spec_DrawTree := rfl
theorem T_34 : T 34 = some c_impl_TreeKeys := rfl
theorem T_35 : T 35 = some c_impl_TreeOk := rfl
theorem T_36 : T 36 = some c_impl_TreeHigh := rfl
theorem T_37 : T 37 = some c_impl_TreeAdd := rfl
theorem T_38 : T 38 = some c_impl_TreeFind := rfl
theorem T_39 : T 39 = some c_impl_TreeBuild := rfl
theorem T_40 : T 40 = some c_impl_NewTree := rfl
theorem T_60 : T 60 = some c_spec_l14Draw := rfl
theorem T_61 : T 61 = some c_spec_l1New := rfl
theorem T_62 : T 62 = some c_impl_isValue := rfl
theorem T_63 : T 63 = some c_impl_in := rfl
theorem T_64 : T 64 = some c_impl_areValues := rfl
theorem T_65 : T 65 = some c_spec_TreeOk := rfl
theorem T_66 : T 66 = some c_spec_l1Value := rfl
theorem T_67 : T 67 = some c_spec_l15Walk := rfl
theorem T_68 : T 68 = some c_spec_l15Hang := rfl
theorem T_69 : T 69 = some c_laws_toTwigA16 := rfl
theorem T_70 : T 70 = some c_impl_Tree_walk := rfl
theorem T_71 : T 71 = some c_laws_eqTwigA16 := rfl
theorem T_72 : T 72 = some c_spec_l13Draw := rfl
theorem T_73 : T 73 = some c_impl_Chain_walk := rfl
theorem T_74 : T 74 = some c_impl_Chain_has := rfl
theorem T_75 : T 75 = some c_impl_Chain_link := rfl
theorem T_76 : T 76 = some c_spec_l15Draw := rfl
theorem T_77 : T 77 = some c_impl_Tree_keysOf := rfl
theorem T_78 : T 78 = some c_impl_Tree_isPart := rfl
theorem T_79 : T 79 = some c_impl_Tree_high := rfl
theorem T_80 : T 80 = some c_impl_Tree_build := rfl
theorem T_82 : T 82 = some c_spec_ChainOk := rfl
theorem T_83 : T 83 = some c_spec_RingOk := rfl
theorem T_114 : T 114 = some c_spec_l1Below := rfl
theorem T_115 : T 115 = some c_spec_l1Once := rfl
theorem T_116 : T 116 = some c_spec_RingTake := rfl
theorem T_117 : T 117 = some c_spec_RingPut := rfl
theorem T_118 : T 118 = some c_slices_ContainsFunc_int_int := rfl
theorem T_119 : T 119 = some c_impl_areValues_1 := rfl
theorem T_120 : T 120 = some c_spec_l15Keys := rfl
theorem T_121 : T 121 = some c_spec_l1In := rfl
theorem T_122 : T 122 = some c_laws_toTwig := rfl
theorem T_123 : T 123 = some c_laws_eqTwig := rfl
theorem T_124 : T 124 = some c_spec_NewChain := rfl
theorem T_125 : T 125 = some c_spec_MapDrop := rfl
theorem T_126 : T 126 = some c_spec_MapPut := rfl
theorem T_127 : T 127 = some c_spec_NewTree := rfl
theorem T_128 : T 128 = some c_spec_TreeAdd := rfl
theorem T_144 : T 144 = some c_slices_IndexFunc_int_int := rfl
theorem T_159 : T 159 = some c_spec_l1Byte := rfl
theorem T_160 : T 160 = some c_spec_l13Walk := rfl
theorem ne_name {s t : String} (h : (s == t) = false) : s ≠ t := by simpa using h
theorem tabOk : TabOk Try.prog T := by
  intro f ifn h
  unfold T at h
  split at h
  · injection h with h; subst h; exact ⟨_, _, Try.func3, c_laws_FnRings_ok, ne_name (by kernel_rfl)⟩
  · injection h with h; subst h; exact ⟨_, _, Try.func4, c_laws_FnExactTreeDrop_ok, ne_name (by kernel_rfl)⟩
  · injection h with h; subst h; exact ⟨_, _, Try.func5, c_laws_FnMaps_ok, ne_name (by kernel_rfl)⟩
  · injection h with h; subst h; exact ⟨_, _, Try.func6, c_laws_FnTrees_ok, ne_name (by kernel_rfl)⟩
  · injection h with h; subst h; exact ⟨_, _, Try.func10, c_laws_big_ok, ne_name (by kernel_rfl)⟩
  · injection h with h; subst h; exact ⟨_, _, Try.func11, c_spec_DrawRing_ok, ne_name (by kernel_rfl)⟩
  · injection h with h; subst h; exact ⟨_, _, Try.func12, c_impl_RingList_ok, ne_name (by kernel_rfl)⟩
  · injection h with h; subst h; exact ⟨_, _, Try.func13, c_impl_RingPut_ok, ne_name (by kernel_rfl)⟩
  · injection h with h; subst h; exact ⟨_, _, Try.func14, c_impl_RingOk_ok, ne_name (by kernel_rfl)⟩
  · injection h with h; subst h; exact ⟨_, _, Try.func15, c_laws_sameInts_ok, ne_name (by kernel_rfl)⟩
  · injection h with h; subst h; exact ⟨_, _, Try.func16, c_impl_RingTake_ok, ne_name (by kernel_rfl)⟩
  · injection h with h; subst h; exact ⟨_, _, Try.func17, c_laws_at_ok, ne_name (by kernel_rfl)⟩
  · injection h with h; subst h; exact ⟨_, _, Try.func18, c_impl_RingMove_ok, ne_name (by kernel_rfl)⟩
  · injection h with h; subst h; exact ⟨_, _, Try.func19, c_impl_RingTurn_ok, ne_name (by kernel_rfl)⟩
  · injection h with h; subst h; exact ⟨_, _, Try.func20, c_spec_TreeDrop_ok, ne_name (by kernel_rfl)⟩
  · injection h with h; subst h; exact ⟨_, _, Try.func21, c_laws_toTree_ok, ne_name (by kernel_rfl)⟩
  · injection h with h; subst h; exact ⟨_, _, Try.func22, c_impl_TreeDrop_ok, ne_name (by kernel_rfl)⟩
  · injection h with h; subst h; exact ⟨_, _, Try.func23, c_laws_eqTree_ok, ne_name (by kernel_rfl)⟩
  · injection h with h; subst h; exact ⟨_, _, Try.func24, c_spec_DrawChain_ok, ne_name (by kernel_rfl)⟩
  · injection h with h; subst h; exact ⟨_, _, Try.func25, c_impl_MapPairs_ok, ne_name (by kernel_rfl)⟩
  · injection h with h; subst h; exact ⟨_, _, Try.func26, c_impl_ChainOk_ok, ne_name (by kernel_rfl)⟩
  · injection h with h; subst h; exact ⟨_, _, Try.func27, c_impl_MapPut_ok, ne_name (by kernel_rfl)⟩
  · injection h with h; subst h; exact ⟨_, _, Try.func28, c_impl_MapGet_ok, ne_name (by kernel_rfl)⟩
  · injection h with h; subst h; exact ⟨_, _, Try.func29, c_impl_MapDrop_ok, ne_name (by kernel_rfl)⟩
  · injection h with h; subst h; exact ⟨_, _, Try.func30, c_impl_MapRange_ok, ne_name (by kernel_rfl)⟩
  · injection h with h; subst h; exact ⟨_, _, Try.func31, c_laws_within_ok, ne_name (by kernel_rfl)⟩
  · injection h with h; subst h; exact ⟨_, _, Try.func32, c_impl_NewChain_ok, ne_name (by kernel_rfl)⟩
  · injection h with h; subst h; exact ⟨_, _, Try.func33, c_spec_DrawTree_ok, ne_name (by kernel_rfl)⟩
  · injection h with h; subst h; exact ⟨_, _, Try.func34, c_impl_TreeKeys_ok, ne_name (by kernel_rfl)⟩
  · injection h with h; subst h; exact ⟨_, _, Try.func35, c_impl_TreeOk_ok, ne_name (by kernel_rfl)⟩
  · injection h with h; subst h; exact ⟨_, _, Try.func36, c_impl_TreeHigh_ok, ne_name (by kernel_rfl)⟩
  · injection h with h; subst h; exact ⟨_, _, Try.func37, c_impl_TreeAdd_ok, ne_name (by kernel_rfl)⟩
  · injection h with h; subst h; exact ⟨_, _, Try.func38, c_impl_TreeFind_ok, ne_name (by kernel_rfl)⟩
  · injection h with h; subst h; exact ⟨_, _, Try.func39, c_impl_TreeBuild_ok, ne_name (by kernel_rfl)⟩
  · injection h with h; subst h; exact ⟨_, _, Try.func40, c_impl_NewTree_ok, ne_name (by kernel_rfl)⟩
  · injection h with h; subst h; exact ⟨_, _, Try.func60, c_spec_l14Draw_ok, ne_name (by kernel_rfl)⟩
  · injection h with h; subst h; exact ⟨_, _, Try.func61, c_spec_l1New_ok, ne_name (by kernel_rfl)⟩
  · injection h with h; subst h; exact ⟨_, _, Try.func62, c_impl_isValue_ok, ne_name (by kernel_rfl)⟩
  · injection h with h; subst h; exact ⟨_, _, Try.func63, c_impl_in_ok, ne_name (by kernel_rfl)⟩
  · injection h with h; subst h; exact ⟨_, _, Try.func64, c_impl_areValues_ok, ne_name (by kernel_rfl)⟩
  · injection h with h; subst h; exact ⟨_, _, Try.func65, c_spec_TreeOk_ok, ne_name (by kernel_rfl)⟩
  · injection h with h; subst h; exact ⟨_, _, Try.func66, c_spec_l1Value_ok, ne_name (by kernel_rfl)⟩
  · injection h with h; subst h; exact ⟨_, _, Try.func67, c_spec_l15Walk_ok, ne_name (by kernel_rfl)⟩
  · injection h with h; subst h; exact ⟨_, _, Try.func68, c_spec_l15Hang_ok, ne_name (by kernel_rfl)⟩
  · injection h with h; subst h; exact ⟨_, _, Try.func69, c_laws_toTwigA16_ok, ne_name (by kernel_rfl)⟩
  · injection h with h; subst h; exact ⟨_, _, Try.func70, c_impl_Tree_walk_ok, ne_name (by kernel_rfl)⟩
  · injection h with h; subst h; exact ⟨_, _, Try.func71, c_laws_eqTwigA16_ok, ne_name (by kernel_rfl)⟩
  · injection h with h; subst h; exact ⟨_, _, Try.func72, c_spec_l13Draw_ok, ne_name (by kernel_rfl)⟩
  · injection h with h; subst h; exact ⟨_, _, Try.func73, c_impl_Chain_walk_ok, ne_name (by kernel_rfl)⟩
  · injection h with h; subst h; exact ⟨_, _, Try.func74, c_impl_Chain_has_ok, ne_name (by kernel_rfl)⟩
  · injection h with h; subst h; exact ⟨_, _, Try.func75, c_impl_Chain_link_ok, ne_name (by kernel_rfl)⟩
  · injection h with h; subst h; exact ⟨_, _, Try.func76, c_spec_l15Draw_ok, ne_name (by kernel_rfl)⟩
  · injection h with h; subst h; exact ⟨_, _, Try.func77, c_impl_Tree_keysOf_ok, ne_name (by kernel_rfl)⟩
  · injection h with h; subst h; exact ⟨_, _, Try.func78, c_impl_Tree_isPart_ok, ne_name (by kernel_rfl)⟩
  · injection h with h; subst h; exact ⟨_, _, Try.func79, c_impl_Tree_high_ok, ne_name (by kernel_rfl)⟩
  · injection h with h; subst h; exact ⟨_, _, Try.func80, c_impl_Tree_build_ok, ne_name (by kernel_rfl)⟩
  · injection h with h; subst h; exact ⟨_, _, Try.func82, c_spec_ChainOk_ok, ne_name (by kernel_rfl)⟩
  · injection h with h; subst h; exact ⟨_, _, Try.func83, c_spec_RingOk_ok, ne_name (by kernel_rfl)⟩
  · injection h with h; subst h; exact ⟨_, _, Try.func114, c_spec_l1Below_ok, ne_name (by kernel_rfl)⟩
  · injection h with h; subst h; exact ⟨_, _, Try.func115, c_spec_l1Once_ok, ne_name (by kernel_rfl)⟩
  · injection h with h; subst h; exact ⟨_, _, Try.func116, c_spec_RingTake_ok, ne_name (by kernel_rfl)⟩
  · injection h with h; subst h; exact ⟨_, _, Try.func117, c_spec_RingPut_ok, ne_name (by kernel_rfl)⟩
  · injection h with h; subst h; exact ⟨_, _, Try.func118, c_slices_ContainsFunc_int_int_ok, ne_name (by kernel_rfl)⟩
  · injection h with h; subst h; exact ⟨_, _, Try.func119, c_impl_areValues_1_ok, ne_name (by kernel_rfl)⟩
  · injection h with h; subst h; exact ⟨_, _, Try.func120, c_spec_l15Keys_ok, ne_name (by kernel_rfl)⟩
  · injection h with h; subst h; exact ⟨_, _, Try.func121, c_spec_l1In_ok, ne_name (by kernel_rfl)⟩
  · injection h with h; subst h; exact ⟨_, _, Try.func122, c_laws_toTwig_ok, ne_name (by kernel_rfl)⟩
  · injection h with h; subst h; exact ⟨_, _, Try.func123, c_laws_eqTwig_ok, ne_name (by kernel_rfl)⟩
  · injection h with h; subst h; exact ⟨_, _, Try.func124, c_spec_NewChain_ok, ne_name (by kernel_rfl)⟩
  · injection h with h; subst h; exact ⟨_, _, Try.func125, c_spec_MapDrop_ok, ne_name (by kernel_rfl)⟩
  · injection h with h; subst h; exact ⟨_, _, Try.func126, c_spec_MapPut_ok, ne_name (by kernel_rfl)⟩
  · injection h with h; subst h; exact ⟨_, _, Try.func127, c_spec_NewTree_ok, ne_name (by kernel_rfl)⟩
  · injection h with h; subst h; exact ⟨_, _, Try.func128, c_spec_TreeAdd_ok, ne_name (by kernel_rfl)⟩
  · injection h with h; subst h; exact ⟨_, _, Try.func144, c_slices_IndexFunc_int_int_ok, ne_name (by kernel_rfl)⟩
  · injection h with h; subst h; exact ⟨_, _, Try.func159, c_spec_l1Byte_ok, ne_name (by kernel_rfl)⟩
  · injection h with h; subst h; exact ⟨_, _, Try.func160, c_spec_l13Walk_ok, ne_name (by kernel_rfl)⟩
  · cases h
end Go.Proofs.Ytdnfcomgdgdifaa
