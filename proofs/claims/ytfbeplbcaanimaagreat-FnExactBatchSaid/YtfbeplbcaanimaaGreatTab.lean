/-
  The functions of the program that the laws here reach, in the small language; each is what the translation gives (checked by the kernel).
-/
import Derived.Test.YtfbeplbcaanimaaGreatTaba
import Derived.Test.YtfbeplbcaanimaaGreatMD
import Derived.Test.YtfbeplbcaanimaaGreatProg
import Derived.KernelRfl
set_option linter.unusedVariables false
namespace Go.Proofs.YtfbeplbcaanimaaGreat
def c_impl_MapGet : IFn := ⟨44, [.t 4, .t 5, .t 6],
  (.seq (.reg false [oQ 2 (.box (.t 0) 44),
 oQ 4 (.mov (iK 0)),
 oQ 5 (.mov (iK 0)),
 oQ 6 (.mov (iK 0))])
 (.seq (.seq (.reg false [oQ 11 (.loadN (.t 2) 65),
 oQ 12 (.call 79 [.t 11]),
 oQ 13 (.un .not (.t 12)),
 mW 14 13,
 ⟨some 15, some (14, false), .mov (.t 1)⟩,
 ⟨some 16, some (14, false), .call 46 [.t 15]⟩,
 ⟨some 17, some (14, false), .un .not (.t 16)⟩,
 oQ 18 (.pick (.t 14) (bK true) (.t 17))])
 (.cond (.t 18) (.seq (.reg false [oQ 4 (.mov (iK 0)),
 oQ 5 (.mov (iK 0)),
 oQ 6 (.mov (iK 1))])
 (.ret (some [4, 5, 6]))) .skip))
 (.seq (.reg false [oQ 20 (.loadN (.t 2) 65),
 mW 21 1,
 oQ 22 (.call 114 [.t 20, .t 21]),
 mW 19 22,
 oQ 23 (.ext (.t 19) 0),
 oQ 24 (.ext (.t 19) 1),
 oQ 25 (.ext (.t 19) 2),
 oQ 26 (.ext (.t 19) 3),
 mW 7 23,
 mW 8 24,
 mW 9 25,
 mW 10 26])
 (.seq (.block 0 none none
 (.seq (.reg false [mW 28 10,
 oQ 29 (.un .not (.t 28)),
 mW 27 29])
 (.cond (.t 27) (.seq (.reg false [mW 30 9,
 oQ 4 (.mov (iK 0)),
 mW 5 30,
 oQ 6 (.mov (iK 2))])
 (.ret (some [4, 5, 6]))) (.seq (.reg false [oQ 32 (.loadN (.t 2) 65),
 mW 33 8,
 mW 34 1,
 oQ 35 (.call 115 [.t 32, .t 33, .t 34]),
 oQ 36 (.un .not (.t 35)),
 mW 31 36])
 (.cond (.t 31) (.seq (.reg false [mW 37 9,
 oQ 4 (.mov (iK 0)),
 mW 5 37,
 oQ 6 (.mov (iK 4))])
 (.ret (some [4, 5, 6]))) .skip)))))
 (.seq (.reg false [mW 38 8,
 oQ 39 (.fld (.t 2) 0),
 oQ 40 (.ixa (.t 39) (.t 38) 16 4),
 oQ 41 (.fld (.t 40) 2),
 oQ 42 (.load1 (.t 41)),
 mW 43 9,
 mW 4 42,
 mW 5 43,
 oQ 6 (.mov (iK 0))])
 (.ret (some [4, 5, 6])))))))⟩
theorem c_impl_MapGet_ok : trF Tryz.prog ⟨[], [4, 5, 6], false, false⟩ Tryz.f85 = some c_impl_MapGet := by kernel_rfl
def c_impl_RingPut : IFn := ⟨35, [.cell 4 10 true, .t 5],
  (.seq (.reg false [oQ 2 (.box (.t 0) 45),
 oQ 4 (.alloc [.int .i64 0, .int .i64 0, .int .i64 0, .int .i64 0, .int .i64 0, .int .i64 0, .int .i64 0, .int .i64 0, .int .i64 0, .int .i64 0] 45),
 oQ 5 (.mov (iK 0))])
 (.seq (.block 0 none none
 (.seq (.reg false [oQ 7 (.loadN (.t 2) 10),
 oQ 8 (.call 80 [.t 7]),
 oQ 9 (.un .not (.t 8)),
 mW 10 9,
 ⟨some 11, some (10, false), .mov (.t 1)⟩,
 ⟨some 12, some (10, false), .call 46 [.t 11]⟩,
 ⟨some 13, some (10, false), .un .not (.t 12)⟩,
 oQ 14 (.pick (.t 10) (bK true) (.t 13)),
 mW 6 14])
 (.cond (.t 6) (.seq (.reg false [oQ 15 (.loadN (.t 2) 10),
 nQ (.store (.t 4) (.t 15) 10),
 oQ 5 (.mov (iK 1))])
 (.ret (some [4, 5]))) (.seq (.reg false [oQ 17 (.fld (.t 2) 9),
 oQ 18 (.load1 (.t 17)),
 oQ 19 (.bin .eql (.t 18) (iK 8)),
 mW 16 19])
 (.cond (.t 16) (.seq (.reg false [oQ 20 (.loadN (.t 2) 10),
 nQ (.store (.t 4) (.t 20) 10),
 oQ 5 (.mov (iK 2))])
 (.ret (some [4, 5]))) .skip)))))
 (.seq (.reg false [oQ 21 (.fld (.t 2) 8),
 oQ 22 (.load1 (.t 21)),
 oQ 23 (.fld (.t 2) 9),
 oQ 24 (.load1 (.t 23)),
 oQ 25 (.bin .add (.t 22) (.t 24)),
 oQ 26 (.bin .rem (.t 25) (iK 8)),
 mW 27 1,
 oQ 28 (.fld (.t 2) 0),
 oQ 29 (.ixa (.t 28) (.t 26) 8 1),
 nQ (.store (.t 29) (.t 27) 1)])
 (.seq (.reg false [oQ 30 (.fld (.t 2) 9),
 oQ 31 (.load1 (.t 30)),
 oQ 32 (.bin .add (.t 31) (iK 1)),
 oQ 33 (.fld (.t 2) 9),
 nQ (.store (.t 33) (.t 32) 1)])
 (.seq (.reg false [oQ 34 (.loadN (.t 2) 10),
 nQ (.store (.t 4) (.t 34) 10),
 oQ 5 (.mov (iK 0))])
 (.ret (some [4, 5])))))))⟩
theorem c_impl_RingPut_ok : trF Tryz.prog ⟨[], [4, 5], false, false⟩ Tryz.f86 = some c_impl_RingPut := by kernel_rfl
def c_impl_RingTake : IFn := ⟨36, [.cell 2 10 true, .t 3, .t 4],
  (.seq (.reg false [oQ 1 (.box (.t 0) 45),
 oQ 2 (.alloc [.int .i64 0, .int .i64 0, .int .i64 0, .int .i64 0, .int .i64 0, .int .i64 0, .int .i64 0, .int .i64 0, .int .i64 0, .int .i64 0] 45),
 oQ 3 (.mov (iK 0)),
 oQ 4 (.mov (iK 0))])
 (.seq (.block 0 none none
 (.seq (.reg false [oQ 7 (.loadN (.t 1) 10),
 oQ 8 (.call 80 [.t 7]),
 oQ 9 (.un .not (.t 8)),
 mW 6 9])
 (.cond (.t 6) (.seq (.reg false [oQ 10 (.loadN (.t 1) 10),
 nQ (.store (.t 2) (.t 10) 10),
 oQ 3 (.mov (iK 0)),
 oQ 4 (.mov (iK 1))])
 (.ret (some [2, 3, 4]))) (.seq (.reg false [oQ 12 (.fld (.t 1) 9),
 oQ 13 (.load1 (.t 12)),
 oQ 14 (.bin .eql (.t 13) (iK 0)),
 mW 11 14])
 (.cond (.t 11) (.seq (.reg false [oQ 15 (.loadN (.t 1) 10),
 nQ (.store (.t 2) (.t 15) 10),
 oQ 3 (.mov (iK 0)),
 oQ 4 (.mov (iK 3))])
 (.ret (some [2, 3, 4]))) .skip)))))
 (.seq (.reg false [oQ 16 (.fld (.t 1) 8),
 oQ 17 (.load1 (.t 16)),
 oQ 18 (.fld (.t 1) 0),
 oQ 19 (.ixa (.t 18) (.t 17) 8 1),
 oQ 20 (.load1 (.t 19)),
 mW 5 20])
 (.seq (.reg false [oQ 21 (.fld (.t 1) 8),
 oQ 22 (.load1 (.t 21)),
 oQ 23 (.fld (.t 1) 0),
 oQ 24 (.ixa (.t 23) (.t 22) 8 1),
 nQ (.store (.t 24) (iK 0) 1)])
 (.seq (.reg false [oQ 25 (.fld (.t 1) 8),
 oQ 26 (.load1 (.t 25)),
 oQ 27 (.bin .add (.t 26) (iK 1)),
 oQ 28 (.bin .rem (.t 27) (iK 8)),
 oQ 29 (.fld (.t 1) 8),
 nQ (.store (.t 29) (.t 28) 1)])
 (.seq (.reg false [oQ 30 (.fld (.t 1) 9),
 oQ 31 (.load1 (.t 30)),
 oQ 32 (.bin .sub (.t 31) (iK 1)),
 oQ 33 (.fld (.t 1) 9),
 nQ (.store (.t 33) (.t 32) 1)])
 (.seq (.reg false [oQ 34 (.loadN (.t 1) 10),
 mW 35 5,
 nQ (.store (.t 2) (.t 34) 10),
 mW 3 35,
 oQ 4 (.mov (iK 0))])
 (.ret (some [2, 3, 4])))))))))⟩
theorem c_impl_RingTake_ok : trF Tryz.prog ⟨[], [2, 3, 4], false, false⟩ Tryz.f87 = some c_impl_RingTake := by kernel_rfl
def c_impl_TreeAdd_b0 : IC :=
  (.seq (.reg false [oQ 39 (.bin .lss (.t 38) (iK 16))])
 (.seq (.cond (.t 39) .skip (.exit 1))
 (.seq (.block 2 none none
 (.seq (.reg false [mW 40 38,
 oQ 41 (.idx (.t 37) (.t 38) 16 4 true),
 oQ 10 (.alloc [.bool false, .int .i64 0, .int .i64 0, .int .i64 0] 46),
 mW 9 40,
 nQ (.store (.t 10) (.t 41) 4)])
 (.seq (.reg false [oQ 42 (.fld (.t 10) 0),
 oQ 43 (.load1 (.t 42)),
 oQ 44 (.un .not (.t 43))])
 (.cond (.t 44) (.seq (.reg false [mW 45 6,
 mW 46 9,
 oQ 47 (.chk (.t 45)),
 nQ (.store (.t 47) (.t 46) 1)])
 (.seq (.reg false [mW 48 9,
 mW 49 1,
 oQ 50 (.bld [.bool false, .int .i64 0, .int .i64 0, .int .i64 0] [(0, (1, .k (.c (.bool true)))), (1, (1, .t 49)), (2, (1, .k (.c (.int .i64 (-1))))), (3, (1, .k (.c (.int .i64 (-1)))))]),
 oQ 51 (.fld (.t 2) 0),
 oQ 52 (.ixa (.t 51) (.t 48) 16 4),
 nQ (.store (.t 52) (.t 50) 4)])
 (.seq (.reg false [oQ 53 (.loadN (.t 2) 65),
 nQ (.store (.t 4) (.t 53) 65),
 oQ 5 (.mov (iK 0))])
 (.ret (some [4, 5]))))) .skip))))
 (.reg false [oQ 54 (.bin .add (.t 38) (iK 1)),
 mW 38 54]))))
def c_impl_TreeAdd : IFn := ⟨56, [.cell 4 65 true, .t 5],
  (.seq (.reg false [oQ 2 (.box (.t 0) 49),
 oQ 4 (.alloc Z65 49),
 oQ 5 (.mov (iK 0))])
 (.seq (.seq (.reg false [oQ 11 (.loadN (.t 2) 65),
 oQ 12 (.call 81 [.t 11]),
 oQ 13 (.un .not (.t 12)),
 mW 14 13,
 ⟨some 15, some (14, false), .mov (.t 1)⟩,
 ⟨some 16, some (14, false), .call 46 [.t 15]⟩,
 ⟨some 17, some (14, false), .un .not (.t 16)⟩,
 oQ 18 (.pick (.t 14) (bK true) (.t 17))])
 (.cond (.t 18) (.seq (.reg false [oQ 19 (.loadN (.t 2) 65),
 nQ (.store (.t 4) (.t 19) 65),
 oQ 5 (.mov (iK 1))])
 (.ret (some [4, 5]))) .skip))
 (.seq (.reg false [mW 21 1,
 oQ 22 (.call 117 [.t 2, .t 21]),
 mW 20 22,
 oQ 23 (.ext (.t 20) 0),
 oQ 24 (.ext (.t 20) 1),
 oQ 25 (.ext (.t 20) 2),
 mW 6 23,
 mW 7 24,
 mW 8 25])
 (.seq (.block 0 none none
 (.seq (.reg false [mW 27 8,
 oQ 28 (.un .not (.t 27)),
 mW 26 28])
 (.cond (.t 26) (.seq (.reg false [oQ 29 (.loadN (.t 2) 65),
 nQ (.store (.t 4) (.t 29) 65),
 oQ 5 (.mov (iK 2))])
 (.ret (some [4, 5]))) (.seq (.reg false [mW 31 6,
 oQ 32 (.chk (.t 31)),
 oQ 33 (.load1 (.t 32)),
 oQ 34 (.bin .neq (.t 33) (iK (-1))),
 mW 30 34])
 (.cond (.t 30) (.seq (.reg false [oQ 35 (.loadN (.t 2) 65),
 nQ (.store (.t 4) (.t 35) 65),
 oQ 5 (.mov (iK 4))])
 (.ret (some [4, 5]))) .skip)))))
 (.seq (.seq (.reg false [oQ 36 (.fld (.t 2) 0),
 oQ 37 (.loadN (.t 36) 64),
 oQ 38 (.mov (iK 0))])
 (.block 1 (some [1, 2, 4, 6, 37, 38]) (some [2, 4])
 (.loop c_impl_TreeAdd_b0)))
 (.seq (.reg false [oQ 55 (.loadN (.t 2) 65),
 nQ (.store (.t 4) (.t 55) 65),
 oQ 5 (.mov (iK 3))])
 (.ret (some [4, 5]))))))))⟩
theorem c_impl_TreeAdd_ok : trF Tryz.prog ⟨[(1, [1, 2, 4, 6, 37, 38], [2, 4])], [4, 5], false, false⟩ Tryz.f88 = some c_impl_TreeAdd := by kernel_rfl
def c_impl_TreeDrop_b0 : IC :=
  (.seq (.seq (.reg false [mW 61 7,
 oQ 62 (.chk (.t 61)),
 oQ 63 (.load1 (.t 62)),
 oQ 64 (.fld (.t 2) 0),
 oQ 65 (.ixa (.t 64) (.t 63) 16 4),
 oQ 66 (.fld (.t 65) 2),
 oQ 67 (.load1 (.t 66)),
 oQ 68 (.bin .neq (.t 67) (iK (-1)))])
 (.cond (.t 68) .skip (.exit 1)))
 (.seq (.block 2 none none
 (.reg false [mW 71 7,
 oQ 72 (.chk (.t 71)),
 oQ 73 (.load1 (.t 72)),
 oQ 74 (.fld (.t 2) 0),
 oQ 75 (.ixa (.t 74) (.t 73) 16 4),
 oQ 76 (.fld (.t 75) 2),
 mW 7 76]))
 (.reg false [mW 69 8,
 oQ 70 (.bin .add (.t 69) (iK 1)),
 mW 8 70])))
def c_impl_TreeDrop : IFn := ⟨109, [.cell 4 65 true, .t 5],
  (.seq (.reg false [oQ 2 (.box (.t 0) 49),
 oQ 4 (.alloc Z65 49),
 oQ 5 (.mov (iK 0))])
 (.seq (.seq (.reg false [oQ 13 (.loadN (.t 2) 65),
 oQ 14 (.call 81 [.t 13]),
 oQ 15 (.un .not (.t 14)),
 mW 16 15,
 ⟨some 17, some (16, false), .mov (.t 1)⟩,
 ⟨some 18, some (16, false), .call 46 [.t 17]⟩,
 ⟨some 19, some (16, false), .un .not (.t 18)⟩,
 oQ 20 (.pick (.t 16) (bK true) (.t 19))])
 (.cond (.t 20) (.seq (.reg false [oQ 21 (.loadN (.t 2) 65),
 nQ (.store (.t 4) (.t 21) 65),
 oQ 5 (.mov (iK 1))])
 (.ret (some [4, 5]))) .skip))
 (.seq (.reg false [oQ 22 (.loadN (.t 2) 65),
 oQ 6 (.alloc Z65 49),
 nQ (.store (.t 6) (.t 22) 65)])
 (.seq (.reg false [mW 24 1,
 oQ 25 (.call 117 [.t 2, .t 24]),
 mW 23 25,
 oQ 26 (.ext (.t 23) 0),
 oQ 27 (.ext (.t 23) 1),
 oQ 28 (.ext (.t 23) 2),
 mW 7 26,
 mW 8 27,
 mW 9 28])
 (.seq (.block 0 none none
 (.seq (.reg false [mW 30 9,
 oQ 31 (.un .not (.t 30)),
 mW 29 31])
 (.cond (.t 29) (.seq (.reg false [oQ 32 (.loadN (.t 6) 65),
 nQ (.store (.t 4) (.t 32) 65),
 oQ 5 (.mov (iK 2))])
 (.ret (some [4, 5]))) (.seq (.reg false [mW 34 7,
 oQ 35 (.chk (.t 34)),
 oQ 36 (.load1 (.t 35)),
 oQ 37 (.bin .eql (.t 36) (iK (-1))),
 mW 33 37])
 (.cond (.t 33) (.seq (.reg false [oQ 38 (.loadN (.t 6) 65),
 nQ (.store (.t 4) (.t 38) 65),
 oQ 5 (.mov (iK 5))])
 (.ret (some [4, 5]))) .skip)))))
 (.seq (.reg false [mW 39 7,
 oQ 40 (.chk (.t 39)),
 oQ 41 (.load1 (.t 40)),
 oQ 42 (.fld (.t 2) 0),
 oQ 43 (.ixa (.t 42) (.t 41) 16 4),
 mW 10 43])
 (.seq (.seq (.reg false [mW 44 10,
 oQ 45 (.chk (.t 44)),
 oQ 46 (.fld (.t 45) 2),
 oQ 47 (.load1 (.t 46)),
 oQ 48 (.bin .neq (.t 47) (iK (-1))),
 mW 49 48,
 ⟨some 50, some (49, true), .mov (.t 10)⟩,
 ⟨some 51, some (49, true), .chk (.t 50)⟩,
 ⟨some 52, some (49, true), .fld (.t 51) 3⟩,
 ⟨some 53, some (49, true), .load1 (.t 52)⟩,
 ⟨some 54, some (49, true), .bin .neq (.t 53) (iK (-1))⟩,
 oQ 55 (.pick (.t 49) (.t 54) (bK false))])
 (.cond (.t 55) (.seq (.reg false [mW 56 10,
 oQ 57 (.chk (.t 56)),
 oQ 58 (.fld (.t 57) 3),
 mW 7 58])
 (.seq (.seq (.reg false [mW 59 8,
 oQ 60 (.bin .add (.t 59) (iK 1)),
 mW 8 60])
 (.block 1 (some [2, 4, 6, 7, 8, 10]) (some [2, 4, 6, 7, 8, 10])
 (.loop c_impl_TreeDrop_b0)))
 (.seq (.seq (.reg false [mW 77 8,
 oQ 78 (.bin .gtr (.t 77) (iK 8))])
 (.cond (.t 78) (.seq (.reg false [oQ 79 (.loadN (.t 6) 65),
 nQ (.store (.t 4) (.t 79) 65),
 oQ 5 (.mov (iK 2))])
 (.ret (some [4, 5]))) .skip))
 (.reg false [mW 80 10,
 mW 81 7,
 oQ 82 (.chk (.t 81)),
 oQ 83 (.load1 (.t 82)),
 oQ 84 (.fld (.t 2) 0),
 oQ 85 (.ixa (.t 84) (.t 83) 16 4),
 oQ 86 (.fld (.t 85) 1),
 oQ 87 (.load1 (.t 86)),
 oQ 88 (.chk (.t 80)),
 oQ 89 (.fld (.t 88) 1),
 nQ (.store (.t 89) (.t 87) 1)])))) .skip))
 (.seq (.reg false [mW 90 7,
 oQ 91 (.chk (.t 90)),
 oQ 92 (.load1 (.t 91)),
 mW 11 92])
 (.seq (.reg false [mW 93 11,
 oQ 94 (.fld (.t 2) 0),
 oQ 95 (.ixa (.t 94) (.t 93) 16 4),
 oQ 96 (.loadN (.t 95) 4),
 oQ 12 (.alloc [.bool false, .int .i64 0, .int .i64 0, .int .i64 0] 46),
 nQ (.store (.t 12) (.t 96) 4)])
 (.seq (.reg false [mW 97 7,
 oQ 98 (.fld (.t 12) 2),
 oQ 99 (.load1 (.t 98)),
 oQ 100 (.fld (.t 12) 3),
 oQ 101 (.load1 (.t 100)),
 oQ 102 (.mxi false (.t 99) (.t 101)),
 oQ 103 (.chk (.t 97)),
 nQ (.store (.t 103) (.t 102) 1)])
 (.seq (.reg false [mW 104 11,
 oQ 105 (.bld [.bool false, .int .i64 0, .int .i64 0, .int .i64 0] []),
 oQ 106 (.fld (.t 2) 0),
 oQ 107 (.ixa (.t 106) (.t 104) 16 4),
 nQ (.store (.t 107) (.t 105) 4)])
 (.seq (.reg false [oQ 108 (.loadN (.t 2) 65),
 nQ (.store (.t 4) (.t 108) 65),
 oQ 5 (.mov (iK 0))])
 (.ret (some [4, 5]))))))))))))))⟩
theorem c_impl_TreeDrop_ok : trF Tryz.prog ⟨[(1, [2, 4, 6, 7, 8, 10], [2, 4, 6, 7, 8, 10])], [4, 5], false, false⟩ Tryz.f89 = some c_impl_TreeDrop := by kernel_rfl
def c_impl_SetAdd_b0 : IC :=
  (.seq (.seq (.reg false [mW 27 6,
 mW 28 1,
 mW 29 6,
 oQ 30 (.len (.t 29)),
 oQ 31 (.call 113 [.t 28, .t 30]),
 oQ 32 (.ixs (.t 27) (.t 31) 1),
 oQ 33 (.load1 (.t 32)),
 oQ 34 (.len (.t 33)),
 oQ 35 (.bin .eql (.t 34) (iK 3))])
 (.cond (.t 35) .skip (.exit 1)))
 (.block 2 none none
 (.seq (.seq (.reg false [mW 36 6,
 oQ 37 (.len (.t 36)),
 oQ 38 (.bin .eql (.t 37) (iK 8))])
 (.cond (.t 38) (.seq (.reg false [mW 39 0,
 oQ 40 (.call 78 [.t 39]),
 mW 4 40,
 oQ 5 (.mov (iK 3))])
 (.ret (some [4, 5]))) .skip))
 (.reg false [mW 41 0,
 oQ 42 (.call 120 [.t 41]),
 mW 43 6,
 oQ 44 (.len (.t 43)),
 oQ 45 (.bin .mul (iK 2) (.t 44)),
 oQ 46 (.call 119 [.t 42, .t 45]),
 mW 6 46]))))
def c_impl_SetAdd : IFn := ⟨66, [.t 4, .t 5],
  (.seq (.reg false [oQ 4 (.mov (.k (.c .nils))),
 oQ 5 (.mov (iK 0))])
 (.seq (.block 0 none none
 (.seq (.reg false [mW 9 0,
 oQ 10 (.call 82 [.t 9]),
 oQ 11 (.un .not (.t 10)),
 mW 12 11,
 ⟨some 13, some (12, false), .mov (.t 1)⟩,
 ⟨some 14, some (12, false), .call 46 [.t 13]⟩,
 ⟨some 15, some (12, false), .un .not (.t 14)⟩,
 oQ 16 (.pick (.t 12) (bK true) (.t 15)),
 mW 8 16])
 (.cond (.t 8) (.seq (.reg false [mW 17 0,
 oQ 18 (.call 78 [.t 17]),
 mW 4 18,
 oQ 5 (.mov (iK 1))])
 (.ret (some [4, 5]))) (.seq (.reg false [mW 20 0,
 mW 21 1,
 oQ 22 (.call 118 [.t 20, .t 21]),
 mW 19 22])
 (.cond (.t 19) (.seq (.reg false [mW 23 0,
 oQ 24 (.call 78 [.t 23]),
 mW 4 24,
 oQ 5 (.mov (iK 2))])
 (.ret (some [4, 5]))) .skip)))))
 (.seq (.reg false [mW 25 0,
 oQ 26 (.call 78 [.t 25]),
 mW 6 26])
 (.seq (.block 1 (some [0, 1, 6]) (some [1, 6])
 (.loop c_impl_SetAdd_b0))
 (.seq (.reg false [mW 47 6,
 mW 48 1,
 mW 49 6,
 oQ 50 (.len (.t 49)),
 oQ 51 (.call 113 [.t 48, .t 50]),
 oQ 52 (.ixs (.t 47) (.t 51) 1),
 mW 7 52])
 (.seq (.reg false [mW 53 7,
 mW 54 7,
 oQ 55 (.chk (.t 54)),
 oQ 56 (.load1 (.t 55)),
 mW 57 1,
 oQ 58 (.lit 1 1 [.int .i64 0] [(0, .t 57)] 3),
 oQ 59 (.app (.t 56) (.t 58) 3 1 8),
 oQ 60 (.chk (.t 53)),
 nQ (.store (.t 60) (.t 59) 1)])
 (.seq (.reg false [mW 61 7,
 oQ 62 (.chk (.t 61)),
 oQ 63 (.load1 (.t 62)),
 oQ 64 (.call 121 [.t 63])])
 (.seq (.reg false [mW 65 6,
 mW 4 65,
 oQ 5 (.mov (iK 0))])
 (.ret (some [4, 5]))))))))))⟩
theorem c_impl_SetAdd_ok : trF Tryz.prog ⟨[(1, [0, 1, 6], [1, 6])], [4, 5], false, false⟩ Tryz.f90 = some c_impl_SetAdd := by kernel_rfl
def c_impl_SetDrop : IFn := ⟨40, [.t 4, .t 5],
  (.seq (.reg false [oQ 3 (.box (.t 1) 3),
 oQ 4 (.mov (.k (.c .nils))),
 oQ 5 (.mov (iK 0))])
 (.seq (.reg false [mW 8 0,
 oQ 9 (.call 78 [.t 8]),
 mW 6 9])
 (.seq (.block 0 none none
 (.seq (.reg false [mW 11 0,
 oQ 12 (.call 82 [.t 11]),
 oQ 13 (.un .not (.t 12)),
 mW 14 13,
 ⟨some 15, some (14, false), .load1 (.t 3)⟩,
 ⟨some 16, some (14, false), .call 46 [.t 15]⟩,
 ⟨some 17, some (14, false), .un .not (.t 16)⟩,
 oQ 18 (.pick (.t 14) (bK true) (.t 17)),
 mW 10 18])
 (.cond (.t 10) (.seq (.reg false [mW 19 6,
 mW 4 19,
 oQ 5 (.mov (iK 1))])
 (.ret (some [4, 5]))) (.seq (.reg false [mW 21 0,
 oQ 22 (.load1 (.t 3)),
 oQ 23 (.call 118 [.t 21, .t 22]),
 oQ 24 (.un .not (.t 23)),
 mW 20 24])
 (.cond (.t 20) (.seq (.reg false [mW 25 6,
 mW 4 25,
 oQ 5 (.mov (iK 4))])
 (.ret (some [4, 5]))) .skip)))))
 (.seq (.reg false [oQ 26 (.load1 (.t 3)),
 mW 27 0,
 oQ 28 (.len (.t 27)),
 oQ 29 (.call 113 [.t 26, .t 28]),
 mW 7 29])
 (.seq (.reg false [mW 30 6,
 mW 31 7,
 mW 32 6,
 mW 33 7,
 oQ 34 (.ixs (.t 32) (.t 33) 1),
 oQ 35 (.load1 (.t 34)),
 oQ 36 (.mkc 123 [.t 3]),
 oQ 37 (.call 122 [.t 35, .t 36]),
 oQ 38 (.ixs (.t 30) (.t 31) 1),
 nQ (.store (.t 38) (.t 37) 1)])
 (.seq (.reg false [mW 39 6,
 mW 4 39,
 oQ 5 (.mov (iK 0))])
 (.ret (some [4, 5]))))))))⟩
theorem c_impl_SetDrop_ok : trF Tryz.prog ⟨[], [4, 5], false, false⟩ Tryz.f91 = some c_impl_SetDrop := by kernel_rfl
def c_impl_toldBy_b0 : IC :=
  (.seq (.reg false [oQ 14 (.bin .lss (.t 13) (.t 12))])
 (.seq (.cond (.t 14) .skip (.exit 0))
 (.seq (.block 1 none none
 (.seq (.reg false [oQ 15 (.ixs (.t 11) (.t 13) 1),
 oQ 16 (.load1 (.t 15)),
 mW 10 16])
 (.seq (.reg false [mW 17 0,
 mW 18 10,
 oQ 19 (.bin .eql (.t 17) (.t 18))])
 (.cond (.t 19) (.seq (.reg false [oQ 8 (.mov (iK 1))])
 (.ret (some [8]))) .skip))))
 (.reg false [oQ 20 (.bin .add (.t 13) (iK 1)),
 mW 13 20]))))
def c_impl_toldBy : IFn := ⟨30, [.t 8],
  (.seq (.reg false [oQ 8 (.mov (iK 0))])
 (.seq (.seq (.reg false [mW 11 1,
 oQ 12 (.len (.t 11)),
 oQ 13 (.mov (iK 0))])
 (.block 0 (some [0, 2, 3, 11, 12, 13]) (some [0, 2, 3])
 (.loop c_impl_toldBy_b0)))
 (.seq (.seq (.reg false [mW 21 0])
 (.block 2 none none
 (.seq (.reg false [oQ 23 (.bin .eql (.t 21) (iK 0)),
 mW 22 23])
 (.cond (.t 22) (.seq (.reg false [oQ 8 (.mov (iK 0))])
 (.ret (some [8]))) (.seq (.reg false [mW 25 2,
 oQ 26 (.bin .eql (.t 21) (.t 25)),
 mW 24 26])
 (.cond (.t 24) (.seq (.reg false [oQ 8 (.mov (iK 2))])
 (.ret (some [8]))) (.seq (.reg false [mW 28 3,
 oQ 29 (.bin .eql (.t 21) (.t 28)),
 mW 27 29])
 (.cond (.t 27) (.seq (.reg false [oQ 8 (.mov (iK 3))])
 (.ret (some [8]))) .skip))))))))
 (.seq (.reg false [oQ 8 (.mov (iK 4))])
 (.ret (some [8]))))))⟩
theorem c_impl_toldBy_ok : trF Tryz.prog ⟨[(0, [0, 2, 3, 11, 12, 13], [0, 2, 3])], [8], false, false⟩ Tryz.f92 = some c_impl_toldBy := by kernel_rfl
def c_laws_eqNodeA16_b0 : IC :=
  (.seq (.seq (.reg false [mW 6 5,
 oQ 7 (.bin .lss (.t 6) (iK 16))])
 (.cond (.t 7) .skip (.exit 0)))
 (.seq (.block 1 none none
 (.seq (.reg true [mW 10 5,
 oQ 11 (.ixa (.t 2) (.t 10) 16 4),
 oQ 12 (.loadN (.t 11) 4),
 mW 13 5,
 oQ 14 (.ixa (.t 3) (.t 13) 16 4),
 oQ 15 (.loadN (.t 14) 4),
 oQ 16 (.call 124 [.t 12, .t 15]),
 oQ 17 (.un .not (.t 16))])
 (.cond (.t 17) (.seq (.reg false [oQ 4 (.mov (bK false))])
 (.ret (some [4]))) .skip)))
 (.reg false [mW 8 5,
 oQ 9 (.bin .add (.t 8) (iK 1)),
 mW 5 9])))
def c_laws_eqNodeA16 : IFn := ⟨18, [.t 4],
  (.seq (.reg false [oQ 2 (.box (.t 0) 42),
 oQ 3 (.box (.t 1) 42),
 oQ 4 (.mov (bK false))])
 (.seq (.seq (.reg false [oQ 5 (.mov (iK 0))])
 (.block 0 (some [2, 3, 5]) (some [])
 (.loop c_laws_eqNodeA16_b0)))
 (.seq (.reg false [oQ 4 (.mov (bK true))])
 (.ret (some [4])))))⟩
theorem c_laws_eqNodeA16_ok : trF Tryz.prog ⟨[(0, [2, 3, 5], [])], [4], false, false⟩ Tryz.f93 = some c_laws_eqNodeA16 := by kernel_rfl
def c_laws_eqIntA8_b0 : IC :=
  (.seq (.seq (.reg false [mW 6 5,
 oQ 7 (.bin .lss (.t 6) (iK 8))])
 (.cond (.t 7) .skip (.exit 0)))
 (.seq (.block 1 none none
 (.seq (.reg true [mW 10 5,
 oQ 11 (.ixa (.t 2) (.t 10) 8 1),
 oQ 12 (.load1 (.t 11)),
 mW 13 5,
 oQ 14 (.ixa (.t 3) (.t 13) 8 1),
 oQ 15 (.load1 (.t 14)),
 oQ 16 (.bin .neq (.t 12) (.t 15))])
 (.cond (.t 16) (.seq (.reg false [oQ 4 (.mov (bK false))])
 (.ret (some [4]))) .skip)))
 (.reg false [mW 8 5,
 oQ 9 (.bin .add (.t 8) (iK 1)),
 mW 5 9])))
def c_laws_eqIntA8 : IFn := ⟨17, [.t 4],
  (.seq (.reg false [oQ 2 (.box (.t 0) 27),
 oQ 3 (.box (.t 1) 27),
 oQ 4 (.mov (bK false))])
 (.seq (.seq (.reg false [oQ 5 (.mov (iK 0))])
 (.block 0 (some [2, 3, 5]) (some [])
 (.loop c_laws_eqIntA8_b0)))
 (.seq (.reg false [oQ 4 (.mov (bK true))])
 (.ret (some [4])))))⟩
theorem c_laws_eqIntA8_ok : trF Tryz.prog ⟨[(0, [2, 3, 5], [])], [4], false, false⟩ Tryz.f94 = some c_laws_eqIntA8 := by kernel_rfl
def c_laws_eqTwigA16_b0 : IC :=
  (.seq (.seq (.reg false [mW 6 5,
 oQ 7 (.bin .lss (.t 6) (iK 16))])
 (.cond (.t 7) .skip (.exit 0)))
 (.seq (.block 1 none none
 (.seq (.reg true [mW 10 5,
 oQ 11 (.ixa (.t 2) (.t 10) 16 4),
 oQ 12 (.loadN (.t 11) 4),
 mW 13 5,
 oQ 14 (.ixa (.t 3) (.t 13) 16 4),
 oQ 15 (.loadN (.t 14) 4),
 oQ 16 (.call 125 [.t 12, .t 15]),
 oQ 17 (.un .not (.t 16))])
 (.cond (.t 17) (.seq (.reg false [oQ 4 (.mov (bK false))])
 (.ret (some [4]))) .skip)))
 (.reg false [mW 8 5,
 oQ 9 (.bin .add (.t 8) (iK 1)),
 mW 5 9])))
def c_laws_eqTwigA16 : IFn := ⟨18, [.t 4],
  (.seq (.reg false [oQ 2 (.box (.t 0) 47),
 oQ 3 (.box (.t 1) 47),
 oQ 4 (.mov (bK false))])
 (.seq (.seq (.reg false [oQ 5 (.mov (iK 0))])
 (.block 0 (some [2, 3, 5]) (some [])
 (.loop c_laws_eqTwigA16_b0)))
 (.seq (.reg false [oQ 4 (.mov (bK true))])
 (.ret (some [4])))))⟩
theorem c_laws_eqTwigA16_ok : trF Tryz.prog ⟨[(0, [2, 3, 5], [])], [4], false, false⟩ Tryz.f95 = some c_laws_eqTwigA16 := by kernel_rfl
def c_laws_eqIntS_b0 : IC :=
  (.seq (.seq (.reg false [mW 11 5,
 mW 12 0,
 oQ 13 (.len (.t 12)),
 oQ 14 (.bin .lss (.t 11) (.t 13))])
 (.cond (.t 14) .skip (.exit 0)))
 (.seq (.block 1 none none
 (.seq (.reg true [mW 17 0,
 mW 18 5,
 oQ 19 (.ixs (.t 17) (.t 18) 1),
 oQ 20 (.load1 (.t 19)),
 mW 21 1,
 mW 22 5,
 oQ 23 (.ixs (.t 21) (.t 22) 1),
 oQ 24 (.load1 (.t 23)),
 oQ 25 (.bin .neq (.t 20) (.t 24))])
 (.cond (.t 25) (.seq (.reg false [oQ 4 (.mov (bK false))])
 (.ret (some [4]))) .skip)))
 (.reg false [mW 15 5,
 oQ 16 (.bin .add (.t 15) (iK 1)),
 mW 5 16])))
def c_laws_eqIntS : IFn := ⟨26, [.t 4],
  (.seq (.reg false [oQ 4 (.mov (bK false))])
 (.seq (.seq (.reg false [mW 6 0,
 oQ 7 (.len (.t 6)),
 mW 8 1,
 oQ 9 (.len (.t 8)),
 oQ 10 (.bin .neq (.t 7) (.t 9))])
 (.cond (.t 10) (.seq (.reg false [oQ 4 (.mov (bK false))])
 (.ret (some [4]))) .skip))
 (.seq (.seq (.reg false [oQ 5 (.mov (iK 0))])
 (.block 0 (some [0, 1, 5]) (some [])
 (.loop c_laws_eqIntS_b0)))
 (.seq (.reg false [oQ 4 (.mov (bK true))])
 (.ret (some [4]))))))⟩
theorem c_laws_eqIntS_ok : trF Tryz.prog ⟨[(0, [0, 1, 5], [])], [4], false, false⟩ Tryz.f96 = some c_laws_eqIntS := by kernel_rfl
def c_laws_markIntS_b0 : IC :=
  (.seq (.seq (.reg false [mW 6 5,
 mW 7 0,
 oQ 8 (.len (.t 7)),
 oQ 9 (.bin .lss (.t 6) (.t 8))])
 (.cond (.t 9) .skip (.exit 0)))
 (.seq (.block 1 none none
 (.seq (.reg false [mW 12 0,
 mW 13 5,
 mW 14 1,
 oQ 15 (.ixs (.t 12) (.t 13) 1),
 nQ (.store (.t 15) (.t 14) 1)])
 (.reg false [mW 16 1,
 oQ 17 (.bin .add (.t 16) (iK 1)),
 mW 1 17])))
 (.reg false [mW 10 5,
 oQ 11 (.bin .add (.t 10) (iK 1)),
 mW 5 11])))
def c_laws_markIntS : IFn := ⟨19, [.t 4],
  (.seq (.reg false [oQ 4 (.mov (iK 0))])
 (.seq (.seq (.reg false [oQ 5 (.mov (iK 0))])
 (.block 0 (some [0, 1, 5]) (some [1])
 (.loop c_laws_markIntS_b0)))
 (.seq (.reg false [mW 18 1,
 mW 4 18])
 (.ret (some [4])))))⟩
theorem c_laws_markIntS_ok : trF Tryz.prog ⟨[(0, [0, 1, 5], [1])], [4], false, false⟩ Tryz.f97 = some c_laws_markIntS := by kernel_rfl
def c_laws_heldIntS_b0 : IC :=
  (.seq (.seq (.reg false [mW 6 5,
 mW 7 0,
 oQ 8 (.len (.t 7)),
 oQ 9 (.bin .lss (.t 6) (.t 8))])
 (.cond (.t 9) .skip (.exit 0)))
 (.seq (.block 1 none none
 (.seq (.seq (.reg false [mW 12 0,
 mW 13 5,
 oQ 14 (.ixs (.t 12) (.t 13) 1),
 oQ 15 (.load1 (.t 14)),
 mW 16 1,
 oQ 17 (.bin .neq (.t 15) (.t 16))])
 (.cond (.t 17) (.seq (.reg false [oQ 4 (.mov (iK (-1)))])
 (.ret (some [4]))) .skip))
 (.reg false [mW 18 1,
 oQ 19 (.bin .add (.t 18) (iK 1)),
 mW 1 19])))
 (.reg false [mW 10 5,
 oQ 11 (.bin .add (.t 10) (iK 1)),
 mW 5 11])))
def c_laws_heldIntS : IFn := ⟨21, [.t 4],
  (.seq (.reg false [oQ 4 (.mov (iK 0))])
 (.seq (.seq (.reg false [oQ 5 (.mov (iK 0))])
 (.block 0 (some [0, 1, 5]) (some [1])
 (.loop c_laws_heldIntS_b0)))
 (.seq (.reg false [mW 20 1,
 mW 4 20])
 (.ret (some [4])))))⟩
theorem c_laws_heldIntS_ok : trF Tryz.prog ⟨[(0, [0, 1, 5], [1])], [4], false, false⟩ Tryz.f98 = some c_laws_heldIntS := by kernel_rfl
def c_spec_l1Copy : IFn := ⟨6, [.t 2],
  (.seq (.reg false [oQ 2 (.mov (.k (.c .nils)))])
 (.seq (.reg false [oQ 3 (.lit 0 1 [.int .i64 0] [] 3),
 mW 4 0,
 oQ 5 (.app (.t 3) (.t 4) 3 1 8),
 mW 2 5])
 (.ret (some [2]))))⟩
theorem c_spec_l1Copy_ok : trF Tryz.prog ⟨[], [2], false, false⟩ Tryz.f99 = some c_spec_l1Copy := by kernel_rfl
def c_spec_l15Keys : IFn := ⟨65, [.t 6, .t 7],
  (.seq (.reg false [oQ 3 (.box (.t 0) 49),
 oQ 6 (.mov (.k (.c .nils))),
 oQ 7 (.mov (bK false))])
 (.seq (.seq (.reg false [mW 10 1,
 oQ 11 (.bin .eql (.t 10) (iK (-1)))])
 (.cond (.t 11) (.seq (.reg false [mW 12 2,
 mW 6 12,
 oQ 7 (.mov (bK true))])
 (.ret (some [6, 7]))) .skip))
 (.seq (.seq (.reg false [mW 13 1,
 oQ 14 (.call 36 [.t 13, .k (.c (.int .i64 0)), .k (.c (.int .i64 15))]),
 oQ 15 (.un .not (.t 14)),
 mW 16 15,
 ⟨some 17, some (16, false), .mov (.t 1)⟩,
 ⟨some 18, some (16, false), .fld (.t 3) 0⟩,
 ⟨some 19, some (16, false), .ixa (.t 18) (.t 17) 16 4⟩,
 ⟨some 20, some (16, false), .fld (.t 19) 0⟩,
 ⟨some 21, some (16, false), .load1 (.t 20)⟩,
 ⟨some 22, some (16, false), .un .not (.t 21)⟩,
 oQ 23 (.pick (.t 16) (bK true) (.t 22)),
 mW 24 23,
 ⟨some 25, some (24, false), .mov (.t 2)⟩,
 ⟨some 26, some (24, false), .len (.t 25)⟩,
 ⟨some 27, some (24, false), .bin .geq (.t 26) (iK 16)⟩,
 oQ 28 (.pick (.t 24) (bK true) (.t 27))])
 (.cond (.t 28) (.seq (.reg false [mW 29 2,
 mW 6 29,
 oQ 7 (.mov (bK false))])
 (.ret (some [6, 7]))) .skip))
 (.seq (.reg false [mW 30 1,
 oQ 31 (.fld (.t 3) 0),
 oQ 32 (.ixa (.t 31) (.t 30) 16 4),
 oQ 33 (.loadN (.t 32) 4),
 oQ 8 (.alloc [.bool false, .int .i64 0, .int .i64 0, .int .i64 0] 46),
 nQ (.store (.t 8) (.t 33) 4)])
 (.seq (.reg false [mW 34 1,
 oQ 35 (.bld [.bool false, .int .i64 0, .int .i64 0, .int .i64 0] []),
 oQ 36 (.fld (.t 3) 0),
 oQ 37 (.ixa (.t 36) (.t 34) 16 4),
 nQ (.store (.t 37) (.t 35) 4)])
 (.seq (.reg false [oQ 39 (.loadN (.t 3) 65),
 oQ 40 (.fld (.t 8) 2),
 oQ 41 (.load1 (.t 40)),
 mW 42 2,
 oQ 43 (.call 100 [.t 39, .t 41, .t 42]),
 mW 38 43,
 oQ 44 (.ext (.t 38) 0),
 oQ 45 (.ext (.t 38) 1),
 mW 2 44,
 mW 9 45])
 (.seq (.seq (.reg false [mW 46 9,
 oQ 47 (.un .not (.t 46)),
 mW 48 47,
 ⟨some 49, some (48, false), .mov (.t 2)⟩,
 ⟨some 50, some (48, false), .len (.t 49)⟩,
 ⟨some 51, some (48, false), .bin .geq (.t 50) (iK 16)⟩,
 oQ 52 (.pick (.t 48) (bK true) (.t 51))])
 (.cond (.t 52) (.seq (.reg false [mW 53 2,
 mW 6 53,
 oQ 7 (.mov (bK false))])
 (.ret (some [6, 7]))) .skip))
 (.seq (.reg false [mW 54 2,
 mW 55 1,
 oQ 56 (.lit 1 1 [.int .i64 0] [(0, .t 55)] 3),
 oQ 57 (.app (.t 54) (.t 56) 3 1 8),
 mW 2 57])
 (.seq (.reg false [oQ 58 (.loadN (.t 3) 65),
 oQ 59 (.fld (.t 8) 3),
 oQ 60 (.load1 (.t 59)),
 mW 61 2,
 oQ 62 (.call 100 [.t 58, .t 60, .t 61]),
 oQ 63 (.ext (.t 62) 0),
 oQ 64 (.ext (.t 62) 1),
 mW 6 63,
 mW 7 64])
 (.ret (some [6, 7])))))))))))⟩
theorem c_spec_l15Keys_ok : trF Tryz.prog ⟨[], [6, 7], false, false⟩ Tryz.f100 = some c_spec_l15Keys := by kernel_rfl
def c_spec_l16Place : IFn := ⟨12, [.t 4],
  (.seq (.reg false [oQ 4 (.mov (iK 0))])
 (.seq (.reg false [mW 5 0,
 mW 6 1,
 oQ 7 (.bin .rem (.t 5) (.t 6)),
 mW 8 1,
 oQ 9 (.bin .add (.t 7) (.t 8)),
 mW 10 1,
 oQ 11 (.bin .rem (.t 9) (.t 10)),
 mW 4 11])
 (.ret (some [4]))))⟩
theorem c_spec_l16Place_ok : trF Tryz.prog ⟨[], [4], false, false⟩ Tryz.f101 = some c_spec_l16Place := by kernel_rfl
def c_spec_l13Walk_b0 : IC :=
  (.seq (.seq (.reg false [mW 13 10,
 oQ 14 (.bin .neq (.t 13) (iK (-1)))])
 (.cond (.t 14) .skip (.exit 0)))
 (.seq (.block 1 none none
 (.seq (.seq (.reg false [mW 20 9,
 oQ 21 (.bin .eql (.t 20) (iK 10))])
 (.cond (.t 21) (.seq (.reg false [mW 22 9,
 oQ 4 (.mov (iK 0)),
 oQ 5 (.mov (iK 0)),
 mW 6 22,
 oQ 7 (.mov (bK false))])
 (.ret (some [4, 5, 6, 7]))) .skip))
 (.seq (.reg false [mW 23 9,
 oQ 24 (.bin .add (.t 23) (iK 1)),
 mW 9 24])
 (.seq (.seq (.reg false [mW 25 10,
 oQ 26 (.fld (.t 2) 0),
 oQ 27 (.ixa (.t 26) (.t 25) 16 4),
 oQ 28 (.fld (.t 27) 1),
 oQ 29 (.load1 (.t 28)),
 mW 30 1,
 oQ 31 (.bin .geq (.t 29) (.t 30))])
 (.cond (.t 31) (.seq (.reg false [mW 32 10,
 mW 33 8,
 mW 34 9,
 mW 4 32,
 mW 5 33,
 mW 6 34,
 oQ 7 (.mov (bK true))])
 (.ret (some [4, 5, 6, 7]))) .skip))
 (.reg false [mW 35 10,
 mW 8 35])))))
 (.reg false [mW 15 10,
 oQ 16 (.fld (.t 2) 0),
 oQ 17 (.ixa (.t 16) (.t 15) 16 4),
 oQ 18 (.fld (.t 17) 3),
 oQ 19 (.load1 (.t 18)),
 mW 10 19])))
def c_spec_l13Walk : IFn := ⟨38, [.t 4, .t 5, .t 6, .t 7],
  (.seq (.reg false [oQ 2 (.box (.t 0) 44),
 oQ 4 (.mov (iK 0)),
 oQ 5 (.mov (iK 0)),
 oQ 6 (.mov (iK 0)),
 oQ 7 (.mov (bK false))])
 (.seq (.reg false [oQ 8 (.mov (iK (-1))),
 oQ 9 (.mov (iK 0))])
 (.seq (.seq (.reg false [oQ 11 (.fld (.t 2) 64),
 oQ 12 (.load1 (.t 11)),
 mW 10 12])
 (.block 0 (some [1, 2, 8, 9, 10]) (some [8, 9])
 (.loop c_spec_l13Walk_b0)))
 (.seq (.reg false [mW 36 8,
 mW 37 9,
 oQ 4 (.mov (iK (-1))),
 mW 5 36,
 mW 6 37,
 oQ 7 (.mov (bK true))])
 (.ret (some [4, 5, 6, 7]))))))⟩
theorem c_spec_l13Walk_ok : trF Tryz.prog ⟨[(0, [1, 2, 8, 9, 10], [8, 9])], [4, 5, 6, 7], false, false⟩ Tryz.f102 = some c_spec_l13Walk := by kernel_rfl
def c_spec_l15Walk_b0 : IC :=
  (.seq (.seq (.reg false [mW 13 8,
 oQ 14 (.bin .neq (.t 13) (iK (-1)))])
 (.cond (.t 14) .skip (.exit 0)))
 (.block 1 none none
 (.seq (.seq (.reg false [mW 15 7,
 oQ 16 (.len (.t 15)),
 oQ 17 (.bin .eql (.t 16) (iK 8))])
 (.cond (.t 17) (.seq (.reg false [mW 18 7,
 mW 4 18,
 oQ 5 (.mov (bK false)),
 oQ 6 (.mov (bK false))])
 (.ret (some [4, 5, 6]))) .skip))
 (.seq (.reg false [mW 19 7,
 mW 20 8,
 oQ 21 (.lit 1 1 [.int .i64 0] [(0, .t 20)] 3),
 oQ 22 (.app (.t 19) (.t 21) 3 1 8),
 mW 7 22])
 (.seq (.reg false [mW 23 8,
 oQ 24 (.fld (.t 2) 0),
 oQ 25 (.ixa (.t 24) (.t 23) 16 4),
 oQ 26 (.fld (.t 25) 1),
 oQ 27 (.load1 (.t 26)),
 mW 9 27])
 (.seq (.seq (.reg false [mW 28 9,
 mW 29 1,
 oQ 30 (.bin .eql (.t 28) (.t 29))])
 (.cond (.t 30) (.seq (.reg false [mW 31 7,
 mW 4 31,
 oQ 5 (.mov (bK true)),
 oQ 6 (.mov (bK true))])
 (.ret (some [4, 5, 6]))) .skip))
 (.seq (.reg false [mW 32 1,
 mW 33 9,
 oQ 34 (.bin .lss (.t 32) (.t 33))])
 (.cond (.t 34) (.reg false [mW 35 8,
 oQ 36 (.fld (.t 2) 0),
 oQ 37 (.ixa (.t 36) (.t 35) 16 4),
 oQ 38 (.fld (.t 37) 2),
 oQ 39 (.load1 (.t 38)),
 mW 8 39]) (.reg false [mW 40 8,
 oQ 41 (.fld (.t 2) 0),
 oQ 42 (.ixa (.t 41) (.t 40) 16 4),
 oQ 43 (.fld (.t 42) 3),
 oQ 44 (.load1 (.t 43)),
 mW 8 44])))))))))
def c_spec_l15Walk : IFn := ⟨46, [.t 4, .t 5, .t 6],
  (.seq (.reg false [oQ 2 (.box (.t 0) 49),
 oQ 4 (.mov (.k (.c .nils))),
 oQ 5 (.mov (bK false)),
 oQ 6 (.mov (bK false))])
 (.seq (.reg false [oQ 10 (.lit 0 1 [.int .i64 0] [] 3),
 mW 7 10])
 (.seq (.seq (.reg false [oQ 11 (.fld (.t 2) 64),
 oQ 12 (.load1 (.t 11)),
 mW 8 12])
 (.block 0 (some [1, 2, 7, 8]) (some [7])
 (.loop c_spec_l15Walk_b0)))
 (.seq (.reg false [mW 45 7,
 mW 4 45,
 oQ 5 (.mov (bK false)),
 oQ 6 (.mov (bK true))])
 (.ret (some [4, 5, 6]))))))⟩
theorem c_spec_l15Walk_ok : trF Tryz.prog ⟨[(0, [1, 2, 7, 8], [7])], [4, 5, 6], false, false⟩ Tryz.f103 = some c_spec_l15Walk := by kernel_rfl
def c_spec_l15Hang : IFn := ⟨40, [.cell 8 65 true],
  (.seq (.reg false [oQ 4 (.box (.t 0) 49),
 oQ 8 (.alloc Z65 49)])
 (.seq (.seq (.reg false [mW 10 1,
 oQ 11 (.len (.t 10)),
 oQ 12 (.bin .eql (.t 11) (iK 0))])
 (.cond (.t 12) (.seq (.reg false [mW 13 3,
 oQ 14 (.fld (.t 4) 64),
 nQ (.store (.t 14) (.t 13) 1)])
 (.seq (.reg false [oQ 15 (.loadN (.t 4) 65),
 nQ (.store (.t 8) (.t 15) 65)])
 (.ret (some [8])))) .skip))
 (.seq (.reg false [mW 16 1,
 mW 17 1,
 oQ 18 (.len (.t 17)),
 oQ 19 (.bin .sub (.t 18) (iK 1)),
 oQ 20 (.ixs (.t 16) (.t 19) 1),
 oQ 21 (.load1 (.t 20)),
 mW 9 21])
 (.seq (.seq (.reg false [mW 22 2,
 mW 23 9,
 oQ 24 (.fld (.t 4) 0),
 oQ 25 (.ixa (.t 24) (.t 23) 16 4),
 oQ 26 (.fld (.t 25) 1),
 oQ 27 (.load1 (.t 26)),
 oQ 28 (.bin .lss (.t 22) (.t 27))])
 (.cond (.t 28) (.reg false [mW 29 9,
 mW 30 3,
 oQ 31 (.fld (.t 4) 0),
 oQ 32 (.ixa (.t 31) (.t 29) 16 4),
 oQ 33 (.fld (.t 32) 2),
 nQ (.store (.t 33) (.t 30) 1)]) (.reg false [mW 34 9,
 mW 35 3,
 oQ 36 (.fld (.t 4) 0),
 oQ 37 (.ixa (.t 36) (.t 34) 16 4),
 oQ 38 (.fld (.t 37) 3),
 nQ (.store (.t 38) (.t 35) 1)])))
 (.seq (.reg false [oQ 39 (.loadN (.t 4) 65),
 nQ (.store (.t 8) (.t 39) 65)])
 (.ret (some [8])))))))⟩
theorem c_spec_l15Hang_ok : trF Tryz.prog ⟨[], [8], false, false⟩ Tryz.f104 = some c_spec_l15Hang := by kernel_rfl
def c_spec_SetHas16 : IFn := ⟨18, [.t 4],
  (.seq (.reg false [oQ 4 (.mov (bK false))])
 (.seq (.reg false [mW 5 0,
 oQ 6 (.call 60 [.t 5]),
 mW 7 6,
 ⟨some 8, some (7, true), .mov (.t 0)⟩,
 ⟨some 9, some (7, true), .mov (.t 1)⟩,
 ⟨some 10, some (7, true), .mov (.t 0)⟩,
 ⟨some 11, some (7, true), .len (.t 10)⟩,
 ⟨some 12, some (7, true), .call 101 [.t 9, .t 11]⟩,
 ⟨some 13, some (7, true), .ixs (.t 8) (.t 12) 1⟩,
 ⟨some 14, some (7, true), .load1 (.t 13)⟩,
 ⟨some 15, some (7, true), .mov (.t 1)⟩,
 ⟨some 16, some (7, true), .call 126 [.t 14, .t 15]⟩,
 oQ 17 (.pick (.t 7) (.t 16) (bK false)),
 mW 4 17])
 (.ret (some [4]))))⟩
theorem c_spec_SetHas16_ok : trF Tryz.prog ⟨[], [4], false, false⟩ Tryz.f105 = some c_spec_SetHas16 := by kernel_rfl
def c_spec_l16Double_b1 : IC :=
  (.seq (.seq (.reg false [mW 17 5,
 mW 18 0,
 mW 19 4,
 oQ 20 (.ixs (.t 18) (.t 19) 1),
 oQ 21 (.load1 (.t 20)),
 oQ 22 (.len (.t 21)),
 oQ 23 (.bin .lss (.t 17) (.t 22))])
 (.cond (.t 23) .skip (.exit 2)))
 (.seq (.block 3 none none
 (.seq (.reg false [mW 26 0,
 mW 27 4,
 oQ 28 (.ixs (.t 26) (.t 27) 1),
 oQ 29 (.load1 (.t 28)),
 mW 30 5,
 oQ 31 (.ixs (.t 29) (.t 30) 1),
 oQ 32 (.load1 (.t 31)),
 mW 33 3,
 oQ 34 (.len (.t 33)),
 oQ 35 (.call 101 [.t 32, .t 34]),
 mW 6 35])
 (.regE 0 [⟨mW 36 3, 0, 0, false, []⟩,
 ⟨mW 37 6, 1, 0, false, []⟩,
 ⟨mW 38 3, 2, 0, false, []⟩,
 ⟨mW 39 6, 3, 0, false, []⟩,
 ⟨oQ 40 (.ixs (.t 38) (.t 39) 1), 4, 0, false, []⟩,
 ⟨oQ 41 (.load1 (.t 40)), 5, 0, false, []⟩,
 ⟨mW 42 0, 6, 0, false, []⟩,
 ⟨mW 43 4, 7, 0, false, []⟩,
 ⟨oQ 44 (.ixs (.t 42) (.t 43) 1), 8, 0, false, []⟩,
 ⟨oQ 45 (.load1 (.t 44)), 9, 0, false, []⟩,
 ⟨mW 46 5, 10, 0, false, []⟩,
 ⟨oQ 47 (.ixs (.t 45) (.t 46) 1), 11, 0, false, []⟩,
 ⟨oQ 48 (.load1 (.t 47)), 12, 0, false, []⟩,
 ⟨oQ 49 (.call 107 [.t 41, .t 48]), 13, 0, false, []⟩,
 ⟨oQ 50 (.ixs (.t 36) (.t 37) 1), 14, 0, false, []⟩,
 ⟨nQ (.store (.t 50) (.t 49) 1), 15, 0, false, []⟩])))
 (.reg false [mW 24 5,
 oQ 25 (.bin .add (.t 24) (iK 1)),
 mW 5 25])))
def c_spec_l16Double_b0 : IC :=
  (.seq (.seq (.reg false [mW 11 4,
 mW 12 0,
 oQ 13 (.len (.t 12)),
 oQ 14 (.bin .lss (.t 11) (.t 13))])
 (.cond (.t 14) .skip (.exit 0)))
 (.seq (.block 1 none none
 (.seq (.reg false [oQ 5 (.mov (iK 0))])
 (.block 2 (some [0, 3, 4, 5]) (some [0, 3, 4])
 (.loop c_spec_l16Double_b1))))
 (.reg false [mW 15 4,
 oQ 16 (.bin .add (.t 15) (iK 1)),
 mW 4 16])))
def c_spec_l16Double : IFn := ⟨52, [.t 2],
  (.seq (.reg false [oQ 2 (.mov (.k (.c .nils)))])
 (.seq (.reg false [mW 7 0,
 oQ 8 (.len (.t 7)),
 oQ 9 (.bin .mul (iK 2) (.t 8)),
 oQ 10 (.mks (.t 9) [.nils] 103 24),
 mW 3 10])
 (.seq (.seq (.reg false [oQ 4 (.mov (iK 0))])
 (.block 0 (some [0, 3, 4]) (some [3])
 (.loop c_spec_l16Double_b0)))
 (.seq (.reg false [mW 51 3,
 mW 2 51])
 (.ret (some [2]))))))⟩
theorem c_spec_l16Double_ok : trF Tryz.prog ⟨[(0, [0, 3, 4], [3]), (2, [0, 3, 4, 5], [0, 3, 4])], [2], false, false⟩ Tryz.f106 = some c_spec_l16Double := by kernel_rfl
def c_spec_l16Put_b0 : IC :=
  (.seq (.seq (.reg false [mW 7 5,
 mW 8 0,
 oQ 9 (.len (.t 8)),
 oQ 10 (.bin .lss (.t 7) (.t 9)),
 mW 11 10,
 ⟨some 12, some (11, true), .mov (.t 0)⟩,
 ⟨some 13, some (11, true), .mov (.t 5)⟩,
 ⟨some 14, some (11, true), .ixs (.t 12) (.t 13) 1⟩,
 ⟨some 15, some (11, true), .load1 (.t 14)⟩,
 ⟨some 16, some (11, true), .mov (.t 1)⟩,
 ⟨some 17, some (11, true), .bin .lss (.t 15) (.t 16)⟩,
 oQ 18 (.pick (.t 11) (.t 17) (bK false))])
 (.cond (.t 18) .skip (.exit 0)))
 (.block 1 none none
 (.reg false [mW 19 5,
 oQ 20 (.bin .add (.t 19) (iK 1)),
 mW 5 20])))
def c_spec_l16Put : IFn := ⟨34, [.t 4],
  (.seq (.reg false [oQ 4 (.mov (.k (.c .nils)))])
 (.seq (.reg false [oQ 5 (.mov (iK 0))])
 (.seq (.block 0 (some [0, 1, 5]) (some [0, 1, 5])
 (.loop c_spec_l16Put_b0))
 (.seq (.reg false [mW 21 1,
 oQ 22 (.lit 1 1 [.int .i64 0] [(0, .t 21)] 3),
 mW 23 0,
 mW 24 5,
 oQ 25 (.sls (.t 23) 1 (some (.t 24)) none),
 oQ 26 (.app (.t 22) (.t 25) 3 1 8),
 mW 6 26])
 (.seq (.reg false [oQ 27 (.lit 0 1 [.int .i64 0] [] 3),
 mW 28 0,
 mW 29 5,
 oQ 30 (.sls (.t 28) 1 none (some (.t 29))),
 oQ 31 (.app (.t 27) (.t 30) 3 1 8),
 mW 32 6,
 oQ 33 (.app (.t 31) (.t 32) 3 1 8),
 mW 4 33])
 (.ret (some [4])))))))⟩
theorem c_spec_l16Put_ok : trF Tryz.prog ⟨[(0, [0, 1, 5], [0, 1, 5])], [4], false, false⟩ Tryz.f107 = some c_spec_l16Put := by kernel_rfl
def c_laws_toNode : IFn := ⟨17, [.cell 2 4 true],
  (.seq (.reg false [oQ 1 (.box (.t 0) 23),
 oQ 2 (.alloc [.bool false, .int .i64 0, .int .i64 0, .int .i64 0] 41)])
 (.seq (.reg false [oQ 3 (.alloc [.bool false, .int .i64 0, .int .i64 0, .int .i64 0] 41)])
 (.seq (.reg false [oQ 4 (.fld (.t 1) 0),
 oQ 5 (.load1 (.t 4)),
 oQ 6 (.fld (.t 3) 0),
 nQ (.store (.t 6) (.t 5) 1)])
 (.seq (.reg false [oQ 7 (.fld (.t 1) 1),
 oQ 8 (.load1 (.t 7)),
 oQ 9 (.fld (.t 3) 1),
 nQ (.store (.t 9) (.t 8) 1)])
 (.seq (.reg false [oQ 10 (.fld (.t 1) 2),
 oQ 11 (.load1 (.t 10)),
 oQ 12 (.fld (.t 3) 2),
 nQ (.store (.t 12) (.t 11) 1)])
 (.seq (.reg false [oQ 13 (.fld (.t 1) 3),
 oQ 14 (.load1 (.t 13)),
 oQ 15 (.fld (.t 3) 3),
 nQ (.store (.t 15) (.t 14) 1)])
 (.seq (.reg false [oQ 16 (.loadN (.t 3) 4),
 nQ (.store (.t 2) (.t 16) 4)])
 (.ret (some [2])))))))))⟩
theorem c_laws_toNode_ok : trF Tryz.prog ⟨[], [2], false, false⟩ Tryz.f108 = some c_laws_toNode := by kernel_rfl
def c_laws_toTwig : IFn := ⟨17, [.cell 2 4 true],
  (.seq (.reg false [oQ 1 (.box (.t 0) 31),
 oQ 2 (.alloc [.bool false, .int .i64 0, .int .i64 0, .int .i64 0] 46)])
 (.seq (.reg false [oQ 3 (.alloc [.bool false, .int .i64 0, .int .i64 0, .int .i64 0] 46)])
 (.seq (.reg false [oQ 4 (.fld (.t 1) 0),
 oQ 5 (.load1 (.t 4)),
 oQ 6 (.fld (.t 3) 0),
 nQ (.store (.t 6) (.t 5) 1)])
 (.seq (.reg false [oQ 7 (.fld (.t 1) 1),
 oQ 8 (.load1 (.t 7)),
 oQ 9 (.fld (.t 3) 1),
 nQ (.store (.t 9) (.t 8) 1)])
 (.seq (.reg false [oQ 10 (.fld (.t 1) 2),
 oQ 11 (.load1 (.t 10)),
 oQ 12 (.fld (.t 3) 2),
 nQ (.store (.t 12) (.t 11) 1)])
 (.seq (.reg false [oQ 13 (.fld (.t 1) 3),
 oQ 14 (.load1 (.t 13)),
 oQ 15 (.fld (.t 3) 3),
 nQ (.store (.t 15) (.t 14) 1)])
 (.seq (.reg false [oQ 16 (.loadN (.t 3) 4),
 nQ (.store (.t 2) (.t 16) 4)])
 (.ret (some [2])))))))))⟩
theorem c_laws_toTwig_ok : trF Tryz.prog ⟨[], [2], false, false⟩ Tryz.f109 = some c_laws_toTwig := by kernel_rfl
def c_impl_own : IFn := ⟨6, [.t 2],
  (.seq (.reg false [oQ 2 (.mov (.k (.c .nils)))])
 (.seq (.reg false [oQ 3 (.lit 0 1 [.int .i64 0] [] 3),
 mW 4 0,
 oQ 5 (.app (.t 3) (.t 4) 3 1 8),
 mW 2 5])
 (.ret (some [2]))))⟩
theorem c_impl_own_ok : trF Tryz.prog ⟨[], [2], false, false⟩ Tryz.f110 = some c_impl_own := by kernel_rfl
def c_impl_areValues : IFn := ⟨6, [.t 2],
  (.seq (.reg false [oQ 2 (.mov (bK false))])
 (.seq (.reg false [mW 3 0,
 oQ 4 (.call 127 [.t 3, .k (.c (.fn 128))]),
 oQ 5 (.un .not (.t 4)),
 mW 2 5])
 (.ret (some [2]))))⟩
theorem c_impl_areValues_ok : trF Tryz.prog ⟨[], [2], false, false⟩ Tryz.f111 = some c_impl_areValues := by kernel_rfl
def c_impl_Tree_isPart : IFn := ⟨71, [.t 10],
  (.seq (.reg false [oQ 5 (.box (.t 0) 49),
 oQ 10 (.mov (bK false))])
 (.seq (.seq (.reg false [mW 12 1,
 oQ 13 (.bin .eql (.t 12) (iK (-1)))])
 (.cond (.t 13) (.seq (.reg false [oQ 10 (.mov (bK true))])
 (.ret (some [10]))) .skip))
 (.seq (.seq (.reg false [mW 14 1,
 oQ 15 (.call 45 [.t 14, .k (.c (.int .i64 0)), .k (.c (.int .i64 15))]),
 oQ 16 (.un .not (.t 15)),
 mW 17 16,
 ⟨some 18, some (17, false), .mov (.t 4)⟩,
 ⟨some 19, some (17, false), .mov (.t 1)⟩,
 ⟨some 20, some (17, false), .chk (.t 18)⟩,
 ⟨some 21, some (17, false), .ixa (.t 20) (.t 19) 16 1⟩,
 ⟨some 22, some (17, false), .load1 (.t 21)⟩,
 oQ 23 (.pick (.t 17) (bK true) (.t 22)),
 mW 24 23,
 ⟨some 25, some (24, false), .mov (.t 1)⟩,
 ⟨some 26, some (24, false), .fld (.t 5) 0⟩,
 ⟨some 27, some (24, false), .ixa (.t 26) (.t 25) 16 4⟩,
 ⟨some 28, some (24, false), .fld (.t 27) 0⟩,
 ⟨some 29, some (24, false), .load1 (.t 28)⟩,
 ⟨some 30, some (24, false), .un .not (.t 29)⟩,
 oQ 31 (.pick (.t 24) (bK true) (.t 30)),
 mW 32 31,
 ⟨some 33, some (32, false), .mov (.t 1)⟩,
 ⟨some 34, some (32, false), .fld (.t 5) 0⟩,
 ⟨some 35, some (32, false), .ixa (.t 34) (.t 33) 16 4⟩,
 ⟨some 36, some (32, false), .fld (.t 35) 1⟩,
 ⟨some 37, some (32, false), .load1 (.t 36)⟩,
 ⟨some 38, some (32, false), .mov (.t 2)⟩,
 ⟨some 39, some (32, false), .mov (.t 3)⟩,
 ⟨some 40, some (32, false), .call 45 [.t 37, .t 38, .t 39]⟩,
 ⟨some 41, some (32, false), .un .not (.t 40)⟩,
 oQ 42 (.pick (.t 32) (bK true) (.t 41))])
 (.cond (.t 42) (.seq (.reg false [oQ 10 (.mov (bK false))])
 (.ret (some [10]))) .skip))
 (.seq (.reg false [mW 43 4,
 mW 44 1,
 oQ 45 (.chk (.t 43)),
 oQ 46 (.ixa (.t 45) (.t 44) 16 1),
 nQ (.store (.t 46) (bK true) 1)])
 (.seq (.reg false [mW 47 1,
 oQ 48 (.fld (.t 5) 0),
 oQ 49 (.ixa (.t 48) (.t 47) 16 4),
 oQ 50 (.loadN (.t 49) 4),
 oQ 11 (.alloc [.bool false, .int .i64 0, .int .i64 0, .int .i64 0] 46),
 nQ (.store (.t 11) (.t 50) 4)])
 (.seq (.reg false [oQ 51 (.loadN (.t 5) 65),
 oQ 52 (.fld (.t 11) 2),
 oQ 53 (.load1 (.t 52)),
 mW 54 2,
 oQ 55 (.fld (.t 11) 1),
 oQ 56 (.load1 (.t 55)),
 oQ 57 (.bin .sub (.t 56) (iK 1)),
 mW 58 4,
 oQ 59 (.call 112 [.t 51, .t 53, .t 54, .t 57, .t 58]),
 mW 60 59,
 ⟨some 61, some (60, true), .loadN (.t 5) 65⟩,
 ⟨some 62, some (60, true), .fld (.t 11) 3⟩,
 ⟨some 63, some (60, true), .load1 (.t 62)⟩,
 ⟨some 64, some (60, true), .fld (.t 11) 1⟩,
 ⟨some 65, some (60, true), .load1 (.t 64)⟩,
 ⟨some 66, some (60, true), .bin .add (.t 65) (iK 1)⟩,
 ⟨some 67, some (60, true), .mov (.t 3)⟩,
 ⟨some 68, some (60, true), .mov (.t 4)⟩,
 ⟨some 69, some (60, true), .call 112 [.t 61, .t 63, .t 66, .t 67, .t 68]⟩,
 oQ 70 (.pick (.t 60) (.t 69) (bK false)),
 mW 10 70])
 (.ret (some [10]))))))))⟩
theorem c_impl_Tree_isPart_ok : trF Tryz.prog ⟨[], [10], false, false⟩ Tryz.f112 = some c_impl_Tree_isPart := by kernel_rfl
def c_impl_placeOf : IFn := ⟨12, [.t 4],
  (.seq (.reg false [oQ 4 (.mov (iK 0))])
 (.seq (.reg false [mW 5 0,
 mW 6 1,
 oQ 7 (.bin .rem (.t 5) (.t 6)),
 mW 8 1,
 oQ 9 (.bin .add (.t 7) (.t 8)),
 mW 10 1,
 oQ 11 (.bin .rem (.t 9) (.t 10)),
 mW 4 11])
 (.ret (some [4]))))⟩
theorem c_impl_placeOf_ok : trF Tryz.prog ⟨[], [4], false, false⟩ Tryz.f113 = some c_impl_placeOf := by kernel_rfl
def c_impl_Chain_walk_b0 : IC :=
  (.seq (.seq (.reg false [mW 13 9,
 oQ 14 (.bin .neq (.t 13) (iK (-1)))])
 (.cond (.t 14) .skip (.exit 0)))
 (.block 1 none none
 (.seq (.seq (.reg false [mW 15 10,
 oQ 16 (.bin .eql (.t 15) (iK 10))])
 (.cond (.t 16) (.seq (.reg false [mW 17 8,
 mW 18 9,
 mW 19 10,
 mW 4 17,
 mW 5 18,
 mW 6 19,
 oQ 7 (.mov (bK false))])
 (.ret (some [4, 5, 6, 7]))) .skip))
 (.seq (.reg false [mW 20 10,
 oQ 21 (.bin .add (.t 20) (iK 1)),
 mW 10 21])
 (.seq (.seq (.reg false [mW 22 9,
 oQ 23 (.fld (.t 2) 0),
 oQ 24 (.ixa (.t 23) (.t 22) 16 4),
 oQ 25 (.fld (.t 24) 1),
 oQ 26 (.load1 (.t 25)),
 mW 27 1,
 oQ 28 (.bin .geq (.t 26) (.t 27))])
 (.cond (.t 28) (.exit 0) .skip))
 (.reg true [mW 29 9,
 mW 30 9,
 oQ 31 (.fld (.t 2) 0),
 oQ 32 (.ixa (.t 31) (.t 30) 16 4),
 oQ 33 (.fld (.t 32) 3),
 oQ 34 (.load1 (.t 33)),
 mW 8 29,
 mW 9 34]))))))
def c_impl_Chain_walk : IFn := ⟨38, [.t 4, .t 5, .t 6, .t 7],
  (.seq (.reg false [oQ 2 (.box (.t 0) 44),
 oQ 4 (.mov (iK 0)),
 oQ 5 (.mov (iK 0)),
 oQ 6 (.mov (iK 0)),
 oQ 7 (.mov (bK false))])
 (.seq (.reg true [oQ 11 (.fld (.t 2) 64),
 oQ 12 (.load1 (.t 11)),
 oQ 8 (.mov (iK (-1))),
 mW 9 12,
 oQ 10 (.mov (iK 0))])
 (.seq (.block 0 (some [1, 2, 8, 9, 10]) (some [8, 9, 10])
 (.loop c_impl_Chain_walk_b0))
 (.seq (.reg false [mW 35 8,
 mW 36 9,
 mW 37 10,
 mW 4 35,
 mW 5 36,
 mW 6 37,
 oQ 7 (.mov (bK true))])
 (.ret (some [4, 5, 6, 7]))))))⟩
theorem c_impl_Chain_walk_ok : trF Tryz.prog ⟨[(0, [1, 2, 8, 9, 10], [8, 9, 10])], [4, 5, 6, 7], false, false⟩ Tryz.f114 = some c_impl_Chain_walk := by kernel_rfl
def c_impl_Chain_has : IFn := ⟨18, [.t 6],
  (.seq (.reg false [oQ 3 (.box (.t 0) 44),
 oQ 6 (.mov (bK false))])
 (.seq (.reg false [mW 7 1,
 oQ 8 (.bin .neq (.t 7) (iK (-1))),
 mW 9 8,
 ⟨some 10, some (9, true), .mov (.t 1)⟩,
 ⟨some 11, some (9, true), .fld (.t 3) 0⟩,
 ⟨some 12, some (9, true), .ixa (.t 11) (.t 10) 16 4⟩,
 ⟨some 13, some (9, true), .fld (.t 12) 1⟩,
 ⟨some 14, some (9, true), .load1 (.t 13)⟩,
 ⟨some 15, some (9, true), .mov (.t 2)⟩,
 ⟨some 16, some (9, true), .bin .eql (.t 14) (.t 15)⟩,
 oQ 17 (.pick (.t 9) (.t 16) (bK false)),
 mW 6 17])
 (.ret (some [6]))))⟩
theorem c_impl_Chain_has_ok : trF Tryz.prog ⟨[], [6], false, false⟩ Tryz.f115 = some c_impl_Chain_has := by kernel_rfl
def c_impl_Chain_link : IFn := ⟨19, [],
  (.seq (.reg false [mW 6 1,
 oQ 7 (.bin .eql (.t 6) (iK (-1)))])
 (.cond (.t 7) (.reg false [mW 8 0,
 mW 9 2,
 oQ 10 (.chk (.t 8)),
 oQ 11 (.fld (.t 10) 64),
 nQ (.store (.t 11) (.t 9) 1)]) (.reg false [mW 12 0,
 mW 13 1,
 mW 14 2,
 oQ 15 (.chk (.t 12)),
 oQ 16 (.fld (.t 15) 0),
 oQ 17 (.ixa (.t 16) (.t 13) 16 4),
 oQ 18 (.fld (.t 17) 3),
 nQ (.store (.t 18) (.t 14) 1)])))⟩
theorem c_impl_Chain_link_ok : trF Tryz.prog ⟨[], [], false, false⟩ Tryz.f116 = some c_impl_Chain_link := by kernel_rfl
def c_impl_Tree_walk_b0 : IC :=
  (.seq (.seq (.reg false [mW 13 7,
 oQ 14 (.chk (.t 13)),
 oQ 15 (.load1 (.t 14)),
 oQ 16 (.bin .neq (.t 15) (iK (-1)))])
 (.cond (.t 16) .skip (.exit 0)))
 (.block 1 none none
 (.seq (.seq (.reg false [mW 17 8,
 oQ 18 (.bin .eql (.t 17) (iK 8))])
 (.cond (.t 18) (.seq (.reg false [mW 19 7,
 mW 20 8,
 mW 4 19,
 mW 5 20,
 oQ 6 (.mov (bK false))])
 (.ret (some [4, 5, 6]))) .skip))
 (.seq (.reg false [mW 21 8,
 oQ 22 (.bin .add (.t 21) (iK 1)),
 mW 8 22])
 (.seq (.reg true [mW 23 0,
 mW 24 7,
 oQ 25 (.chk (.t 24)),
 oQ 26 (.load1 (.t 25)),
 oQ 27 (.chk (.t 23)),
 oQ 28 (.fld (.t 27) 0),
 oQ 29 (.ixa (.t 28) (.t 26) 16 4),
 mW 9 29])
 (.block 2 none none
 (.seq (.reg false [mW 33 1,
 mW 34 9,
 oQ 35 (.chk (.t 34)),
 oQ 36 (.fld (.t 35) 1),
 oQ 37 (.load1 (.t 36)),
 oQ 38 (.bin .lss (.t 33) (.t 37)),
 mW 32 38])
 (.cond (.t 32) (.reg false [mW 39 9,
 oQ 40 (.chk (.t 39)),
 oQ 41 (.fld (.t 40) 2),
 mW 7 41]) (.seq (.reg false [mW 43 1,
 mW 44 9,
 oQ 45 (.chk (.t 44)),
 oQ 46 (.fld (.t 45) 1),
 oQ 47 (.load1 (.t 46)),
 oQ 48 (.bin .gtr (.t 43) (.t 47)),
 mW 42 48])
 (.cond (.t 42) (.reg false [mW 49 9,
 oQ 50 (.chk (.t 49)),
 oQ 51 (.fld (.t 50) 3),
 mW 7 51]) (.seq (.reg false [mW 30 7,
 mW 31 8,
 mW 4 30,
 mW 5 31,
 oQ 6 (.mov (bK true))])
 (.ret (some [4, 5, 6])))))))))))))
def c_impl_Tree_walk : IFn := ⟨54, [.t 4, .t 5, .t 6],
  (.seq (.reg false [oQ 4 (.mov (.k (.c .nilp))),
 oQ 5 (.mov (iK 0)),
 oQ 6 (.mov (bK false))])
 (.seq (.reg false [mW 10 0,
 oQ 11 (.chk (.t 10)),
 oQ 12 (.fld (.t 11) 64),
 mW 7 12,
 oQ 8 (.mov (iK 0))])
 (.seq (.block 0 (some [0, 1, 7, 8]) (some [7, 8])
 (.loop c_impl_Tree_walk_b0))
 (.seq (.reg false [mW 52 7,
 mW 53 8,
 mW 4 52,
 mW 5 53,
 oQ 6 (.mov (bK true))])
 (.ret (some [4, 5, 6]))))))⟩
theorem c_impl_Tree_walk_ok : trF Tryz.prog ⟨[(0, [0, 1, 7, 8], [7, 8])], [4, 5, 6], false, false⟩ Tryz.f117 = some c_impl_Tree_walk := by kernel_rfl
def c_impl_setHas : IFn := ⟨14, [.t 4],
  (.seq (.reg false [oQ 4 (.mov (bK false))])
 (.seq (.reg false [mW 5 0,
 mW 6 1,
 mW 7 0,
 oQ 8 (.len (.t 7)),
 oQ 9 (.call 113 [.t 6, .t 8]),
 oQ 10 (.ixs (.t 5) (.t 9) 1),
 oQ 11 (.load1 (.t 10)),
 mW 12 1,
 oQ 13 (.call 129 [.t 11, .t 12]),
 mW 4 13])
 (.ret (some [4]))))⟩
theorem c_impl_setHas_ok : trF Tryz.prog ⟨[], [4], false, false⟩ Tryz.f118 = some c_impl_setHas := by kernel_rfl
def c_impl_bucketed_b0 : IC :=
  (.seq (.reg false [oQ 13 (.bin .lss (.t 12) (.t 11))])
 (.seq (.cond (.t 13) .skip (.exit 0))
 (.seq (.block 1 none none
 (.seq (.reg false [oQ 14 (.ixs (.t 10) (.t 12) 1),
 oQ 15 (.load1 (.t 14)),
 mW 7 15])
 (.reg false [mW 16 5,
 mW 17 7,
 mW 18 1,
 oQ 19 (.call 113 [.t 17, .t 18]),
 mW 20 5,
 mW 21 7,
 mW 22 1,
 oQ 23 (.call 113 [.t 21, .t 22]),
 oQ 24 (.ixs (.t 20) (.t 23) 1),
 oQ 25 (.load1 (.t 24)),
 mW 26 7,
 oQ 27 (.lit 1 1 [.int .i64 0] [(0, .t 26)] 3),
 oQ 28 (.app (.t 25) (.t 27) 3 1 8),
 oQ 29 (.ixs (.t 16) (.t 19) 1),
 nQ (.store (.t 29) (.t 28) 1)])))
 (.reg false [oQ 30 (.bin .add (.t 12) (iK 1)),
 mW 12 30]))))
def c_impl_bucketed : IFn := ⟨32, [.t 4],
  (.seq (.reg false [oQ 4 (.mov (.k (.c .nils)))])
 (.seq (.reg false [mW 8 1,
 oQ 9 (.mks (.t 8) [.nils] 103 24),
 mW 5 9])
 (.seq (.seq (.reg false [mW 10 0,
 oQ 11 (.len (.t 10)),
 oQ 12 (.mov (iK 0))])
 (.block 0 (some [1, 5, 10, 11, 12]) (some [5])
 (.loop c_impl_bucketed_b0)))
 (.seq (.reg false [mW 31 5,
 mW 4 31])
 (.ret (some [4]))))))⟩
theorem c_impl_bucketed_ok : trF Tryz.prog ⟨[(0, [1, 5, 10, 11, 12], [5])], [4], false, false⟩ Tryz.f119 = some c_impl_bucketed := by kernel_rfl
def c_impl_listed : IFn := ⟨9, [.t 2],
  (.seq (.reg false [oQ 2 (.mov (.k (.c .nils)))])
 (.seq (.reg false [mW 4 0,
 oQ 5 (.call 130 [.t 4]),
 mW 3 5])
 (.seq (.reg false [mW 6 3,
 oQ 7 (.call 121 [.t 6])])
 (.seq (.reg false [mW 8 3,
 mW 2 8])
 (.ret (some [2]))))))⟩
theorem c_impl_listed_ok : trF Tryz.prog ⟨[], [2], false, false⟩ Tryz.f120 = some c_impl_listed := by kernel_rfl
def c_slices_DeleteFunc_int_int_b0 : IC :=
  (.seq (.seq (.reg false [mW 16 6,
 mW 17 0,
 oQ 18 (.len (.t 17)),
 oQ 19 (.bin .lss (.t 16) (.t 18))])
 (.cond (.t 19) .skip (.exit 0)))
 (.seq (.block 1 none none
 (.seq (.reg false [mW 22 0,
 mW 23 6,
 oQ 24 (.ixs (.t 22) (.t 23) 1),
 oQ 25 (.load1 (.t 24)),
 mW 7 25])
 (.seq (.reg false [mW 26 1,
 mW 27 7,
 oQ 28 (.callv (.t 26) [.t 27]),
 oQ 29 (.un .not (.t 28))])
 (.cond (.t 29) (.seq (.reg false [mW 30 0,
 mW 31 5,
 mW 32 7,
 oQ 33 (.ixs (.t 30) (.t 31) 1),
 nQ (.store (.t 33) (.t 32) 1)])
 (.reg false [mW 34 5,
 oQ 35 (.bin .add (.t 34) (iK 1)),
 mW 5 35])) .skip))))
 (.reg false [mW 20 6,
 oQ 21 (.bin .add (.t 20) (iK 1)),
 mW 6 21])))
def c_slices_DeleteFunc_int_int : IFn := ⟨42, [.t 4],
  (.seq (.reg false [oQ 4 (.mov (.k (.c .nils)))])
 (.seq (.reg false [mW 8 0,
 mW 9 1,
 oQ 10 (.call 133 [.t 8, .t 9]),
 mW 5 10])
 (.seq (.seq (.reg false [mW 11 5,
 oQ 12 (.bin .eql (.t 11) (iK (-1)))])
 (.cond (.t 12) (.seq (.reg false [mW 13 0,
 mW 4 13])
 (.ret (some [4]))) .skip))
 (.seq (.seq (.reg false [mW 14 5,
 oQ 15 (.bin .add (.t 14) (iK 1)),
 mW 6 15])
 (.block 0 (some [0, 1, 5, 6]) (some [0, 5])
 (.loop c_slices_DeleteFunc_int_int_b0)))
 (.seq (.reg false [mW 36 0,
 mW 37 5,
 oQ 38 (.sls (.t 36) 1 (some (.t 37)) none),
 nQ (.clr (.t 38) (.int .i64 0))])
 (.seq (.reg false [mW 39 0,
 mW 40 5,
 oQ 41 (.sls (.t 39) 1 none (some (.t 40))),
 mW 4 41])
 (.ret (some [4]))))))))⟩
theorem c_slices_DeleteFunc_int_int_ok : trF Tryz.prog ⟨[(0, [0, 1, 5, 6], [0, 5])], [4], false, false⟩ Tryz.f122 = some c_slices_DeleteFunc_int_int := by kernel_rfl
def c_impl_SetDrop_1 : IFn := ⟨7, [.t 3],
  (.seq (.reg false [oQ 3 (.mov (bK false))])
 (.seq (.reg false [mW 4 0,
 oQ 5 (.load1 (.t 1)),
 oQ 6 (.bin .eql (.t 4) (.t 5)),
 mW 3 6])
 (.ret (some [3]))))⟩
theorem c_impl_SetDrop_1_ok : trF Tryz.prog ⟨[], [3], false, false⟩ Tryz.f123 = some c_impl_SetDrop_1 := by kernel_rfl
def c_laws_eqNode : IFn := ⟨25, [.t 4],
  (.seq (.reg false [oQ 2 (.box (.t 0) 41),
 oQ 3 (.box (.t 1) 41),
 oQ 4 (.mov (bK false))])
 (.seq (.seq (.reg false [oQ 5 (.fld (.t 2) 0),
 oQ 6 (.load1 (.t 5)),
 oQ 7 (.fld (.t 3) 0),
 oQ 8 (.load1 (.t 7)),
 oQ 9 (.binb true (.t 6) (.t 8))])
 (.cond (.t 9) (.seq (.reg false [oQ 4 (.mov (bK false))])
 (.ret (some [4]))) .skip))
 (.seq (.seq (.reg false [oQ 10 (.fld (.t 2) 1),
 oQ 11 (.load1 (.t 10)),
 oQ 12 (.fld (.t 3) 1),
 oQ 13 (.load1 (.t 12)),
 oQ 14 (.bin .neq (.t 11) (.t 13))])
 (.cond (.t 14) (.seq (.reg false [oQ 4 (.mov (bK false))])
 (.ret (some [4]))) .skip))
 (.seq (.seq (.reg false [oQ 15 (.fld (.t 2) 2),
 oQ 16 (.load1 (.t 15)),
 oQ 17 (.fld (.t 3) 2),
 oQ 18 (.load1 (.t 17)),
 oQ 19 (.bin .neq (.t 16) (.t 18))])
 (.cond (.t 19) (.seq (.reg false [oQ 4 (.mov (bK false))])
 (.ret (some [4]))) .skip))
 (.seq (.seq (.reg false [oQ 20 (.fld (.t 2) 3),
 oQ 21 (.load1 (.t 20)),
 oQ 22 (.fld (.t 3) 3),
 oQ 23 (.load1 (.t 22)),
 oQ 24 (.bin .neq (.t 21) (.t 23))])
 (.cond (.t 24) (.seq (.reg false [oQ 4 (.mov (bK false))])
 (.ret (some [4]))) .skip))
 (.seq (.reg false [oQ 4 (.mov (bK true))])
 (.ret (some [4]))))))))⟩
theorem c_laws_eqNode_ok : trF Tryz.prog ⟨[], [4], false, false⟩ Tryz.f124 = some c_laws_eqNode := by kernel_rfl
def c_laws_eqTwig : IFn := ⟨25, [.t 4],
  (.seq (.reg false [oQ 2 (.box (.t 0) 46),
 oQ 3 (.box (.t 1) 46),
 oQ 4 (.mov (bK false))])
 (.seq (.seq (.reg false [oQ 5 (.fld (.t 2) 0),
 oQ 6 (.load1 (.t 5)),
 oQ 7 (.fld (.t 3) 0),
 oQ 8 (.load1 (.t 7)),
 oQ 9 (.binb true (.t 6) (.t 8))])
 (.cond (.t 9) (.seq (.reg false [oQ 4 (.mov (bK false))])
 (.ret (some [4]))) .skip))
 (.seq (.seq (.reg false [oQ 10 (.fld (.t 2) 1),
 oQ 11 (.load1 (.t 10)),
 oQ 12 (.fld (.t 3) 1),
 oQ 13 (.load1 (.t 12)),
 oQ 14 (.bin .neq (.t 11) (.t 13))])
 (.cond (.t 14) (.seq (.reg false [oQ 4 (.mov (bK false))])
 (.ret (some [4]))) .skip))
 (.seq (.seq (.reg false [oQ 15 (.fld (.t 2) 2),
 oQ 16 (.load1 (.t 15)),
 oQ 17 (.fld (.t 3) 2),
 oQ 18 (.load1 (.t 17)),
 oQ 19 (.bin .neq (.t 16) (.t 18))])
 (.cond (.t 19) (.seq (.reg false [oQ 4 (.mov (bK false))])
 (.ret (some [4]))) .skip))
 (.seq (.seq (.reg false [oQ 20 (.fld (.t 2) 3),
 oQ 21 (.load1 (.t 20)),
 oQ 22 (.fld (.t 3) 3),
 oQ 23 (.load1 (.t 22)),
 oQ 24 (.bin .neq (.t 21) (.t 23))])
 (.cond (.t 24) (.seq (.reg false [oQ 4 (.mov (bK false))])
 (.ret (some [4]))) .skip))
 (.seq (.reg false [oQ 4 (.mov (bK true))])
 (.ret (some [4]))))))))⟩
theorem c_laws_eqTwig_ok : trF Tryz.prog ⟨[], [4], false, false⟩ Tryz.f125 = some c_laws_eqTwig := by kernel_rfl
def c_spec_l1Has_b0 : IC :=
  (.seq (.seq (.reg false [mW 6 5,
 mW 7 0,
 oQ 8 (.len (.t 7)),
 oQ 9 (.bin .lss (.t 6) (.t 8))])
 (.cond (.t 9) .skip (.exit 0)))
 (.seq (.block 1 none none
 (.seq (.reg false [mW 12 0,
 mW 13 5,
 oQ 14 (.ixs (.t 12) (.t 13) 1),
 oQ 15 (.load1 (.t 14)),
 mW 16 1,
 oQ 17 (.bin .eql (.t 15) (.t 16))])
 (.cond (.t 17) (.seq (.reg false [oQ 4 (.mov (bK true))])
 (.ret (some [4]))) .skip)))
 (.reg false [mW 10 5,
 oQ 11 (.bin .add (.t 10) (iK 1)),
 mW 5 11])))
def c_spec_l1Has : IFn := ⟨18, [.t 4],
  (.seq (.reg false [oQ 4 (.mov (bK false))])
 (.seq (.seq (.reg false [oQ 5 (.mov (iK 0))])
 (.block 0 (some [0, 1, 5]) (some [])
 (.loop c_spec_l1Has_b0)))
 (.seq (.reg false [oQ 4 (.mov (bK false))])
 (.ret (some [4])))))⟩
theorem c_spec_l1Has_ok : trF Tryz.prog ⟨[(0, [0, 1, 5], [])], [4], false, false⟩ Tryz.f126 = some c_spec_l1Has := by kernel_rfl
def c_slices_ContainsFunc_int_int : IFn := ⟨9, [.t 4],
  (.seq (.reg false [oQ 4 (.mov (bK false))])
 (.seq (.reg false [mW 5 0,
 mW 6 1,
 oQ 7 (.call 133 [.t 5, .t 6]),
 oQ 8 (.bin .geq (.t 7) (iK 0)),
 mW 4 8])
 (.ret (some [4]))))⟩
theorem c_slices_ContainsFunc_int_int_ok : trF Tryz.prog ⟨[], [4], false, false⟩ Tryz.f127 = some c_slices_ContainsFunc_int_int := by kernel_rfl
def c_impl_areValues_1 : IFn := ⟨6, [.t 2],
  (.seq (.reg false [oQ 2 (.mov (bK false))])
 (.seq (.reg false [mW 3 0,
 oQ 4 (.call 46 [.t 3]),
 oQ 5 (.un .not (.t 4)),
 mW 2 5])
 (.ret (some [2]))))⟩
theorem c_impl_areValues_1_ok : trF Tryz.prog ⟨[], [2], false, false⟩ Tryz.f128 = some c_impl_areValues_1 := by kernel_rfl
def c_slices_Contains_int_int : IFn := ⟨9, [.t 4],
  (.seq (.reg false [oQ 4 (.mov (bK false))])
 (.seq (.reg false [mW 5 0,
 mW 6 1,
 oQ 7 (.call 134 [.t 5, .t 6]),
 oQ 8 (.bin .geq (.t 7) (iK 0)),
 mW 4 8])
 (.ret (some [4]))))⟩
theorem c_slices_Contains_int_int_ok : trF Tryz.prog ⟨[], [4], false, false⟩ Tryz.f129 = some c_slices_Contains_int_int := by kernel_rfl
def c_slices_Concat_int_int_b0 : IC :=
  (.seq (.reg false [oQ 12 (.bin .lss (.t 11) (.t 10))])
 (.seq (.cond (.t 12) .skip (.exit 0))
 (.seq (.block 1 none none
 (.seq (.reg false [oQ 13 (.ixs (.t 9) (.t 11) 1),
 oQ 14 (.load1 (.t 13)),
 mW 5 14])
 (.seq (.reg false [mW 15 3,
 mW 16 5,
 oQ 17 (.len (.t 16)),
 oQ 18 (.bin .add (.t 15) (.t 17)),
 mW 3 18])
 (.seq (.reg false [mW 19 3,
 oQ 20 (.bin .lss (.t 19) (iK 0))])
 (.cond (.t 20) (.reg false [oQ 21 (.bad),
 nQ (.bad)]) .skip)))))
 (.reg false [oQ 22 (.bin .add (.t 11) (iK 1)),
 mW 11 22]))))
def c_slices_Concat_int_int_b1 : IC :=
  (.seq (.reg false [oQ 28 (.bin .lss (.t 27) (.t 26))])
 (.seq (.cond (.t 28) .skip (.exit 2))
 (.seq (.block 3 none none
 (.seq (.reg false [oQ 29 (.ixs (.t 25) (.t 27) 1),
 oQ 30 (.load1 (.t 29)),
 mW 8 30])
 (.reg false [mW 31 6,
 mW 32 8,
 oQ 33 (.app (.t 31) (.t 32) 3 1 8),
 mW 6 33])))
 (.reg false [oQ 34 (.bin .add (.t 27) (iK 1)),
 mW 27 34]))))
def c_slices_Concat_int_int : IFn := ⟨36, [.t 2],
  (.seq (.reg false [oQ 2 (.mov (.k (.c .nils)))])
 (.seq (.reg false [oQ 3 (.mov (iK 0))])
 (.seq (.seq (.reg false [mW 9 0,
 oQ 10 (.len (.t 9)),
 oQ 11 (.mov (iK 0))])
 (.block 0 (some [0, 3, 9, 10, 11]) (some [0, 3])
 (.loop c_slices_Concat_int_int_b0)))
 (.seq (.reg false [mW 23 3,
 oQ 24 (.call 135 [.k (.c .nils), .t 23]),
 mW 6 24])
 (.seq (.seq (.reg false [mW 25 0,
 oQ 26 (.len (.t 25)),
 oQ 27 (.mov (iK 0))])
 (.block 2 (some [6, 25, 26, 27]) (some [6])
 (.loop c_slices_Concat_int_int_b1)))
 (.seq (.reg false [mW 35 6,
 mW 2 35])
 (.ret (some [2]))))))))⟩
theorem c_slices_Concat_int_int_ok : trF Tryz.prog ⟨[(0, [0, 3, 9, 10, 11], [0, 3]), (2, [6, 25, 26, 27], [6])], [2], false, false⟩ Tryz.f130 = some c_slices_Concat_int_int := by kernel_rfl
def c_slices_IndexFunc_int_int_b0 : IC :=
  (.seq (.reg false [oQ 9 (.bin .lss (.t 8) (.t 7))])
 (.seq (.cond (.t 9) .skip (.exit 0))
 (.seq (.block 1 none none
 (.seq (.reg false [mW 10 8,
 mW 5 10])
 (.seq (.reg false [mW 11 1,
 mW 12 0,
 mW 13 5,
 oQ 14 (.ixs (.t 12) (.t 13) 1),
 oQ 15 (.load1 (.t 14)),
 oQ 16 (.callv (.t 11) [.t 15])])
 (.cond (.t 16) (.seq (.reg false [mW 17 5,
 mW 4 17])
 (.ret (some [4]))) .skip))))
 (.reg false [oQ 18 (.bin .add (.t 8) (iK 1)),
 mW 8 18]))))
def c_slices_IndexFunc_int_int : IFn := ⟨19, [.t 4],
  (.seq (.reg false [oQ 4 (.mov (iK 0))])
 (.seq (.seq (.reg false [mW 6 0,
 oQ 7 (.len (.t 6)),
 oQ 8 (.mov (iK 0))])
 (.block 0 (some [0, 1, 7, 8]) (some [])
 (.loop c_slices_IndexFunc_int_int_b0)))
 (.seq (.reg false [oQ 4 (.mov (iK (-1)))])
 (.ret (some [4])))))⟩
theorem c_slices_IndexFunc_int_int_ok : trF Tryz.prog ⟨[(0, [0, 1, 7, 8], [])], [4], false, false⟩ Tryz.f133 = some c_slices_IndexFunc_int_int := by kernel_rfl
def c_slices_Index_int_int_b0 : IC :=
  (.seq (.reg false [oQ 9 (.bin .lss (.t 8) (.t 7))])
 (.seq (.cond (.t 9) .skip (.exit 0))
 (.seq (.block 1 none none
 (.seq (.reg false [mW 10 8,
 mW 5 10])
 (.seq (.reg false [mW 11 1,
 mW 12 0,
 mW 13 5,
 oQ 14 (.ixs (.t 12) (.t 13) 1),
 oQ 15 (.load1 (.t 14)),
 oQ 16 (.bin .eql (.t 11) (.t 15))])
 (.cond (.t 16) (.seq (.reg false [mW 17 5,
 mW 4 17])
 (.ret (some [4]))) .skip))))
 (.reg false [oQ 18 (.bin .add (.t 8) (iK 1)),
 mW 8 18]))))
def c_slices_Index_int_int : IFn := ⟨19, [.t 4],
  (.seq (.reg false [oQ 4 (.mov (iK 0))])
 (.seq (.seq (.reg false [mW 6 0,
 oQ 7 (.len (.t 6)),
 oQ 8 (.mov (iK 0))])
 (.block 0 (some [0, 1, 7, 8]) (some [])
 (.loop c_slices_Index_int_int_b0)))
 (.seq (.reg false [oQ 4 (.mov (iK (-1)))])
 (.ret (some [4])))))⟩
theorem c_slices_Index_int_int_ok : trF Tryz.prog ⟨[(0, [0, 1, 7, 8], [])], [4], false, false⟩ Tryz.f134 = some c_slices_Index_int_int := by kernel_rfl
def T : FuncId → Option IFn
  | 4 => some c_laws_FnExactBatch
  | 6 => some c_laws_szSpace
  | 7 => some c_spec_DoDeed
  | 8 => some c_laws_toSpace
  | 9 => some c_laws_toDeed
  | 10 => some c_impl_DoDeed
  | 11 => some c_laws_eqSpace
  | 12 => some c_laws_eqTold
  | 13 => some c_laws_markSpace
  | 14 => some c_laws_heldSpace
  | 15 => some c_laws_szDeedS
  | 16 => some c_spec_Batch
  | 17 => some c_laws_toDeedS
  | 18 => some c_impl_Batch
  | 19 => some c_laws_eqToldS
  | 20 => some c_laws_eqDeedS
  | 21 => some c_laws_markDeedS
  | 22 => some c_laws_markToldS
  | 23 => some c_laws_heldToldS
  | 33 => some c_laws_szIntSS
  | 34 => some c_spec_l17Copy
  | 35 => some c_spec_SpaceOk
  | 36 => some c_spec_l1In
  | 37 => some c_spec_l1Value
  | 38 => some c_spec_l17Deed
  | 39 => some c_laws_toChain
  | 40 => some c_laws_toRing
  | 41 => some c_laws_toTree
  | 42 => some c_laws_toIntSS
  | 43 => some c_impl_ownSpace
  | 44 => some c_impl_SpaceOk
  | 45 => some c_impl_in
  | 46 => some c_impl_isValue
  | 47 => some c_impl_Space_deed
  | 48 => some c_laws_eqChain
  | 49 => some c_laws_eqRing
  | 50 => some c_laws_eqTree
  | 51 => some c_laws_eqIntSS
  | 52 => some c_laws_markIntSS
  | 53 => some c_laws_heldIntSS
  | 54 => some c_laws_eqDeed
  | 55 => some c_laws_szIntS
  | 56 => some c_spec_l16Copy
  | 57 => some c_spec_ChainOk
  | 58 => some c_spec_RingOk
  | 59 => some c_spec_TreeOk
  | 60 => some c_spec_SetOk
  | 61 => some c_spec_MapPut
  | 62 => some c_spec_l17Map
  | 63 => some c_spec_MapDrop
  | 64 => some c_spec_MapGet
  | 65 => some c_spec_RingPut
  | 66 => some c_spec_l17Ring
  | 67 => some c_spec_RingTake
  | 68 => some c_spec_TreeAdd
  | 69 => some c_spec_l17Tree
  | 70 => some c_spec_TreeDrop
  | 71 => some c_spec_SetAdd
  | 72 => some c_spec_l17Set
  | 73 => some c_spec_SetDrop
  | 74 => some c_laws_toNodeA16
  | 75 => some c_laws_toIntA8
  | 76 => some c_laws_toTwigA16
  | 77 => some c_laws_toIntS
  | 78 => some c_impl_ownSet
  | 79 => some c_impl_ChainOk
  | 80 => some c_impl_RingOk
  | 81 => some c_impl_TreeOk
  | 82 => some c_impl_SetOk
  | 83 => some c_impl_MapPut
  | 84 => some c_impl_MapDrop
  | 85 => some c_impl_MapGet
  | 86 => some c_impl_RingPut
  | 87 => some c_impl_RingTake
  | 88 => some c_impl_TreeAdd
  | 89 => some c_impl_TreeDrop
  | 90 => some c_impl_SetAdd
  | 91 => some c_impl_SetDrop
  | 92 => some c_impl_toldBy
  | 93 => some c_laws_eqNodeA16
  | 94 => some c_laws_eqIntA8
  | 95 => some c_laws_eqTwigA16
  | 96 => some c_laws_eqIntS
  | 97 => some c_laws_markIntS
  | 98 => some c_laws_heldIntS
  | 99 => some c_spec_l1Copy
  | 100 => some c_spec_l15Keys
  | 101 => some c_spec_l16Place
  | 102 => some c_spec_l13Walk
  | 103 => some c_spec_l15Walk
  | 104 => some c_spec_l15Hang
  | 105 => some c_spec_SetHas16
  | 106 => some c_spec_l16Double
  | 107 => some c_spec_l16Put
  | 108 => some c_laws_toNode
  | 109 => some c_laws_toTwig
  | 110 => some c_impl_own
  | 111 => some c_impl_areValues
  | 112 => some c_impl_Tree_isPart
  | 113 => some c_impl_placeOf
  | 114 => some c_impl_Chain_walk
  | 115 => some c_impl_Chain_has
  | 116 => some c_impl_Chain_link
  | 117 => some c_impl_Tree_walk
  | 118 => some c_impl_setHas
  | 119 => some c_impl_bucketed
  | 120 => some c_impl_listed
  | 122 => some c_slices_DeleteFunc_int_int
  | 123 => some c_impl_SetDrop_1
  | 124 => some c_laws_eqNode
  | 125 => some c_laws_eqTwig
  | 126 => some c_spec_l1Has
  | 127 => some c_slices_ContainsFunc_int_int
  | 128 => some c_impl_areValues_1
  | 129 => some c_slices_Contains_int_int
  | 130 => some c_slices_Concat_int_int
  | 133 => some c_slices_IndexFunc_int_int
  | 134 => some c_slices_Index_int_int
  | _ => none
theorem T_4 : T 4 = some c_laws_FnExactBatch := rfl
theorem T_6 : T 6 = some c_laws_szSpace := rfl
theorem T_7 : T 7 = some c_spec_DoDeed := rfl
theorem T_8 : T 8 = some c_laws_toSpace := rfl
theorem T_9 : T 9 = some c_laws_toDeed := rfl
theorem T_10 : T 10 = some c_impl_DoDeed := rfl
theorem T_11 : T 11 = some c_laws_eqSpace := rfl
theorem T_12 : T 12 = some c_laws_eqTold := rfl
theorem T_13 : T 13 = some c_laws_markSpace := rfl
theorem T_14 : T 14 = some c_laws_heldSpace := rfl
theorem T_15 : T 15 = some c_laws_szDeedS := rfl
theorem T_16 : T 16 = some c_spec_Batch := rfl
theorem T_17 : T 17 = some c_laws_toDeedS := rfl
theorem T_18 : T 18 = some c_impl_Batch := rfl
theorem T_19 : T 19 = some c_laws_eqToldS := rfl
theorem T_20 : T 20 = some c_laws_eqDeedS := rfl
theorem T_21 : T 21 = some c_laws_markDeedS := rfl
theorem T_22 : T 22 = some c_laws_markToldS := rfl
theorem T_23 : T 23 = some c_laws_heldToldS := rfl
theorem T_33 : T 33 = some c_laws_szIntSS := rfl
theorem T_34 : T 34 = some c_spec_l17Copy := rfl
theorem T_35 : T 35 = some c_spec_SpaceOk := rfl
theorem T_36 : T 36 = some c_spec_l1In := rfl
theorem T_37 : T 37 = some c_spec_l1Value := rfl
theorem T_38 : T 38 = some c_spec_l17Deed := rfl
theorem T_39 : T 39 = some c_laws_toChain := rfl
theorem T_40 : T 40 = some c_laws_toRing := rfl
theorem T_41 : T 41 = some c_laws_toTree := rfl
theorem T_42 : T 42 = some c_laws_toIntSS := rfl
theorem T_43 : T 43 = some c_impl_ownSpace := rfl
theorem T_44 : T 44 = some c_impl_SpaceOk := rfl
theorem T_45 : T 45 = some c_impl_in := rfl
theorem T_46 : T 46 = some c_impl_isValue := rfl
theorem T_47 : T 47 = some c_impl_Space_deed := rfl
theorem T_48 : T 48 = some c_laws_eqChain := rfl
theorem T_49 : T 49 = some c_laws_eqRing := rfl
theorem T_50 : T 50 = some c_laws_eqTree := rfl
theorem T_51 : T 51 = some c_laws_eqIntSS := rfl
theorem T_52 : T 52 = some c_laws_markIntSS := rfl
theorem T_53 : T 53 = some c_laws_heldIntSS := rfl
theorem T_54 : T 54 = some c_laws_eqDeed := rfl
theorem T_55 : T 55 = some c_laws_szIntS := rfl
theorem T_56 : T 56 = some c_spec_l16Copy := rfl
theorem T_57 : T 57 = some c_spec_ChainOk := rfl
theorem T_58 : T 58 = some c_spec_RingOk := rfl
theorem T_59 : T 59 = some c_spec_TreeOk := rfl
theorem T_60 : T 60 = some c_spec_SetOk := rfl
theorem T_61 : T 61 = some c_spec_MapPut := rfl
theorem T_62 : T 62 = some c_spec_l17Map := rfl
theorem T_63 : T 63 = some c_spec_MapDrop := rfl
theorem T_64 : T 64 = some c_spec_MapGet := rfl
theorem T_65 : T 65 = some c_spec_RingPut := rfl
theorem T_66 : T 66 = some c_spec_l17Ring := rfl
theorem T_67 : T 67 = some c_spec_RingTake := rfl
theorem T_68 : T 68 = some c_spec_TreeAdd := rfl
theorem T_69 : T 69 = some c_spec_l17Tree := rfl
theorem T_70 : T 70 = some c_spec_TreeDrop := rfl
theorem T_71 : T 71 = some c_spec_SetAdd := rfl
theorem T_72 : T 72 = some c_spec_l17Set := rfl
theorem T_73 : T 73 = some c_spec_SetDrop := rfl
theorem T_74 : T 74 = some c_laws_toNodeA16 := rfl
theorem T_75 : T 75 = some c_laws_toIntA8 := rfl
theorem T_76 : T 76 = some c_laws_toTwigA16 := rfl
theorem T_77 : T 77 = some c_laws_toIntS := rfl
theorem T_78 : T 78 = some c_impl_ownSet := rfl
theorem T_79 : T 79 = some c_impl_ChainOk := rfl
theorem T_80 : T 80 = some c_impl_RingOk := rfl
theorem T_81 : T 81 = some c_impl_TreeOk := rfl
theorem T_82 : T 82 = some c_impl_SetOk := rfl
theorem T_83 : T 83 = some c_impl_MapPut := rfl
theorem T_84 : T 84 = some c_impl_MapDrop := rfl
theorem T_85 : T 85 = some c_impl_MapGet := rfl
theorem T_86 : T 86 = some c_impl_RingPut := rfl
theorem T_87 : T 87 = some c_impl_RingTake := rfl
theorem T_88 : T 88 = some c_impl_TreeAdd := rfl
theorem T_89 : T 89 = some c_impl_TreeDrop := rfl
theorem T_90 : T 90 = some c_impl_SetAdd := rfl
theorem T_91 : T 91 = some c_impl_SetDrop := rfl
theorem T_92 : T 92 = some c_impl_toldBy := rfl
theorem T_93 : T 93 = some c_laws_eqNodeA16 := rfl
theorem T_94 : T 94 = some c_laws_eqIntA8 := rfl
theorem T_95 : T 95 = some c_laws_eqTwigA16 := rfl
theorem T_96 : T 96 = some c_laws_eqIntS := rfl
theorem T_97 : T 97 = some c_laws_markIntS := rfl
theorem T_98 : T 98 = some c_laws_heldIntS := rfl
theorem T_99 : T 99 = some c_spec_l1Copy := rfl
theorem T_100 : T 100 = some c_spec_l15Keys := rfl
theorem T_101 : T 101 = some c_spec_l16Place := rfl
theorem T_102 : T 102 = some c_spec_l13Walk := rfl
theorem T_103 : T 103 = some c_spec_l15Walk := rfl
theorem T_104 : T 104 = some c_spec_l15Hang := rfl
theorem T_105 : T 105 = some c_spec_SetHas16 := rfl
theorem T_106 : T 106 = some c_spec_l16Double := rfl
theorem T_107 : T 107 = some c_spec_l16Put := rfl
theorem T_108 : T 108 = some c_laws_toNode := rfl
theorem T_109 : T 109 = some c_laws_toTwig := rfl
theorem T_110 : T 110 = some c_impl_own := rfl
theorem T_111 : T 111 = some c_impl_areValues := rfl
theorem T_112 : T 112 = some c_impl_Tree_isPart := rfl
theorem T_113 : T 113 = some c_impl_placeOf := rfl
theorem T_114 : T 114 = some c_impl_Chain_walk := rfl
theorem T_115 : T 115 = some c_impl_Chain_has := rfl
theorem T_116 : T 116 = some c_impl_Chain_link := rfl
theorem T_117 : T 117 = some c_impl_Tree_walk := rfl
theorem T_118 : T 118 = some c_impl_setHas := rfl
theorem T_119 : T 119 = some c_impl_bucketed := rfl
theorem T_120 : T 120 = some c_impl_listed := rfl
theorem T_122 : T 122 = some c_slices_DeleteFunc_int_int := rfl
theorem T_123 : T 123 = some c_impl_SetDrop_1 := rfl
theorem T_124 : T 124 = some c_laws_eqNode := rfl
theorem T_125 : T 125 = some c_laws_eqTwig := rfl
theorem T_126 : T 126 = some c_spec_l1Has := rfl
theorem T_127 : T 127 = some c_slices_ContainsFunc_int_int := rfl
theorem T_128 : T 128 = some c_impl_areValues_1 := rfl
theorem T_129 : T 129 = some c_slices_Contains_int_int := rfl
theorem T_130 : T 130 = some c_slices_Concat_int_int := rfl
theorem T_133 : T 133 = some c_slices_IndexFunc_int_int := rfl
theorem T_134 : T 134 = some c_slices_Index_int_int := rfl
theorem ne_name {s t : String} (h : (s == t) = false) : s ≠ t := by simpa using h
theorem tk {f : FuncId} {fn : Func} {keep : Keep} {c ifn : IFn} (h : some c = some ifn) (a : Tryz.prog.funcs[f]? = some fn) (b : trF Tryz.prog keep fn = some c) (n : (fn.name == "runtime.NumGoroutine") = false) : ∃ fn keep, Tryz.prog.funcs[f]? = some fn ∧ trF Tryz.prog keep fn = some ifn ∧ fn.name ≠ "runtime.NumGoroutine" := by
  injection h with h; subst h; exact ⟨_, _, a, b, ne_name n⟩
theorem tabOk : TabOk Tryz.prog T := by
  intro f ifn h
  unfold T at h
  split at h
  · exact tk h Tryz.func4 c_laws_FnExactBatch_ok (by kernel_rfl)
  · exact tk h Tryz.func6 c_laws_szSpace_ok (by kernel_rfl)
  · exact tk h Tryz.func7 c_spec_DoDeed_ok (by kernel_rfl)
  · exact tk h Tryz.func8 c_laws_toSpace_ok (by kernel_rfl)
  · exact tk h Tryz.func9 c_laws_toDeed_ok (by kernel_rfl)
  · exact tk h Tryz.func10 c_impl_DoDeed_ok (by kernel_rfl)
  · exact tk h Tryz.func11 c_laws_eqSpace_ok (by kernel_rfl)
  · exact tk h Tryz.func12 c_laws_eqTold_ok (by kernel_rfl)
  · exact tk h Tryz.func13 c_laws_markSpace_ok (by kernel_rfl)
  · exact tk h Tryz.func14 c_laws_heldSpace_ok (by kernel_rfl)
  · exact tk h Tryz.func15 c_laws_szDeedS_ok (by kernel_rfl)
  · exact tk h Tryz.func16 c_spec_Batch_ok (by kernel_rfl)
  · exact tk h Tryz.func17 c_laws_toDeedS_ok (by kernel_rfl)
  · exact tk h Tryz.func18 c_impl_Batch_ok (by kernel_rfl)
  · exact tk h Tryz.func19 c_laws_eqToldS_ok (by kernel_rfl)
  · exact tk h Tryz.func20 c_laws_eqDeedS_ok (by kernel_rfl)
  · exact tk h Tryz.func21 c_laws_markDeedS_ok (by kernel_rfl)
  · exact tk h Tryz.func22 c_laws_markToldS_ok (by kernel_rfl)
  · exact tk h Tryz.func23 c_laws_heldToldS_ok (by kernel_rfl)
  · exact tk h Tryz.func33 c_laws_szIntSS_ok (by kernel_rfl)
  · exact tk h Tryz.func34 c_spec_l17Copy_ok (by kernel_rfl)
  · exact tk h Tryz.func35 c_spec_SpaceOk_ok (by kernel_rfl)
  · exact tk h Tryz.func36 c_spec_l1In_ok (by kernel_rfl)
  · exact tk h Tryz.func37 c_spec_l1Value_ok (by kernel_rfl)
  · exact tk h Tryz.func38 c_spec_l17Deed_ok (by kernel_rfl)
  · exact tk h Tryz.func39 c_laws_toChain_ok (by kernel_rfl)
  · exact tk h Tryz.func40 c_laws_toRing_ok (by kernel_rfl)
  · exact tk h Tryz.func41 c_laws_toTree_ok (by kernel_rfl)
  · exact tk h Tryz.func42 c_laws_toIntSS_ok (by kernel_rfl)
  · exact tk h Tryz.func43 c_impl_ownSpace_ok (by kernel_rfl)
  · exact tk h Tryz.func44 c_impl_SpaceOk_ok (by kernel_rfl)
  · exact tk h Tryz.func45 c_impl_in_ok (by kernel_rfl)
  · exact tk h Tryz.func46 c_impl_isValue_ok (by kernel_rfl)
  · exact tk h Tryz.func47 c_impl_Space_deed_ok (by kernel_rfl)
  · exact tk h Tryz.func48 c_laws_eqChain_ok (by kernel_rfl)
  · exact tk h Tryz.func49 c_laws_eqRing_ok (by kernel_rfl)
  · exact tk h Tryz.func50 c_laws_eqTree_ok (by kernel_rfl)
  · exact tk h Tryz.func51 c_laws_eqIntSS_ok (by kernel_rfl)
  · exact tk h Tryz.func52 c_laws_markIntSS_ok (by kernel_rfl)
  · exact tk h Tryz.func53 c_laws_heldIntSS_ok (by kernel_rfl)
  · exact tk h Tryz.func54 c_laws_eqDeed_ok (by kernel_rfl)
  · exact tk h Tryz.func55 c_laws_szIntS_ok (by kernel_rfl)
  · exact tk h Tryz.func56 c_spec_l16Copy_ok (by kernel_rfl)
  · exact tk h Tryz.func57 c_spec_ChainOk_ok (by kernel_rfl)
  · exact tk h Tryz.func58 c_spec_RingOk_ok (by kernel_rfl)
  · exact tk h Tryz.func59 c_spec_TreeOk_ok (by kernel_rfl)
  · exact tk h Tryz.func60 c_spec_SetOk_ok (by kernel_rfl)
  · exact tk h Tryz.func61 c_spec_MapPut_ok (by kernel_rfl)
  · exact tk h Tryz.func62 c_spec_l17Map_ok (by kernel_rfl)
  · exact tk h Tryz.func63 c_spec_MapDrop_ok (by kernel_rfl)
  · exact tk h Tryz.func64 c_spec_MapGet_ok (by kernel_rfl)
  · exact tk h Tryz.func65 c_spec_RingPut_ok (by kernel_rfl)
  · exact tk h Tryz.func66 c_spec_l17Ring_ok (by kernel_rfl)
  · exact tk h Tryz.func67 c_spec_RingTake_ok (by kernel_rfl)
  · exact tk h Tryz.func68 c_spec_TreeAdd_ok (by kernel_rfl)
  · exact tk h Tryz.func69 c_spec_l17Tree_ok (by kernel_rfl)
  · exact tk h Tryz.func70 c_spec_TreeDrop_ok (by kernel_rfl)
  · exact tk h Tryz.func71 c_spec_SetAdd_ok (by kernel_rfl)
  · exact tk h Tryz.func72 c_spec_l17Set_ok (by kernel_rfl)
  · exact tk h Tryz.func73 c_spec_SetDrop_ok (by kernel_rfl)
  · exact tk h Tryz.func74 c_laws_toNodeA16_ok (by kernel_rfl)
  · exact tk h Tryz.func75 c_laws_toIntA8_ok (by kernel_rfl)
  · exact tk h Tryz.func76 c_laws_toTwigA16_ok (by kernel_rfl)
  · exact tk h Tryz.func77 c_laws_toIntS_ok (by kernel_rfl)
  · exact tk h Tryz.func78 c_impl_ownSet_ok (by kernel_rfl)
  · exact tk h Tryz.func79 c_impl_ChainOk_ok (by kernel_rfl)
  · exact tk h Tryz.func80 c_impl_RingOk_ok (by kernel_rfl)
  · exact tk h Tryz.func81 c_impl_TreeOk_ok (by kernel_rfl)
  · exact tk h Tryz.func82 c_impl_SetOk_ok (by kernel_rfl)
  · exact tk h Tryz.func83 c_impl_MapPut_ok (by kernel_rfl)
  · exact tk h Tryz.func84 c_impl_MapDrop_ok (by kernel_rfl)
  · exact tk h Tryz.func85 c_impl_MapGet_ok (by kernel_rfl)
  · exact tk h Tryz.func86 c_impl_RingPut_ok (by kernel_rfl)
  · exact tk h Tryz.func87 c_impl_RingTake_ok (by kernel_rfl)
  · exact tk h Tryz.func88 c_impl_TreeAdd_ok (by kernel_rfl)
  · exact tk h Tryz.func89 c_impl_TreeDrop_ok (by kernel_rfl)
  · exact tk h Tryz.func90 c_impl_SetAdd_ok (by kernel_rfl)
  · exact tk h Tryz.func91 c_impl_SetDrop_ok (by kernel_rfl)
  · exact tk h Tryz.func92 c_impl_toldBy_ok (by kernel_rfl)
  · exact tk h Tryz.func93 c_laws_eqNodeA16_ok (by kernel_rfl)
  · exact tk h Tryz.func94 c_laws_eqIntA8_ok (by kernel_rfl)
  · exact tk h Tryz.func95 c_laws_eqTwigA16_ok (by kernel_rfl)
  · exact tk h Tryz.func96 c_laws_eqIntS_ok (by kernel_rfl)
  · exact tk h Tryz.func97 c_laws_markIntS_ok (by kernel_rfl)
  · exact tk h Tryz.func98 c_laws_heldIntS_ok (by kernel_rfl)
  · exact tk h Tryz.func99 c_spec_l1Copy_ok (by kernel_rfl)
  · exact tk h Tryz.func100 c_spec_l15Keys_ok (by kernel_rfl)
  · exact tk h Tryz.func101 c_spec_l16Place_ok (by kernel_rfl)
  · exact tk h Tryz.func102 c_spec_l13Walk_ok (by kernel_rfl)
  · exact tk h Tryz.func103 c_spec_l15Walk_ok (by kernel_rfl)
  · exact tk h Tryz.func104 c_spec_l15Hang_ok (by kernel_rfl)
  · exact tk h Tryz.func105 c_spec_SetHas16_ok (by kernel_rfl)
  · exact tk h Tryz.func106 c_spec_l16Double_ok (by kernel_rfl)
  · exact tk h Tryz.func107 c_spec_l16Put_ok (by kernel_rfl)
  · exact tk h Tryz.func108 c_laws_toNode_ok (by kernel_rfl)
  · exact tk h Tryz.func109 c_laws_toTwig_ok (by kernel_rfl)
  · exact tk h Tryz.func110 c_impl_own_ok (by kernel_rfl)
  · exact tk h Tryz.func111 c_impl_areValues_ok (by kernel_rfl)
  · exact tk h Tryz.func112 c_impl_Tree_isPart_ok (by kernel_rfl)
  · exact tk h Tryz.func113 c_impl_placeOf_ok (by kernel_rfl)
  · exact tk h Tryz.func114 c_impl_Chain_walk_ok (by kernel_rfl)
  · exact tk h Tryz.func115 c_impl_Chain_has_ok (by kernel_rfl)
  · exact tk h Tryz.func116 c_impl_Chain_link_ok (by kernel_rfl)
  · exact tk h Tryz.func117 c_impl_Tree_walk_ok (by kernel_rfl)
  · exact tk h Tryz.func118 c_impl_setHas_ok (by kernel_rfl)
  · exact tk h Tryz.func119 c_impl_bucketed_ok (by kernel_rfl)
  · exact tk h Tryz.func120 c_impl_listed_ok (by kernel_rfl)
  · exact tk h Tryz.func122 c_slices_DeleteFunc_int_int_ok (by kernel_rfl)
  · exact tk h Tryz.func123 c_impl_SetDrop_1_ok (by kernel_rfl)
  · exact tk h Tryz.func124 c_laws_eqNode_ok (by kernel_rfl)
  · exact tk h Tryz.func125 c_laws_eqTwig_ok (by kernel_rfl)
  · exact tk h Tryz.func126 c_spec_l1Has_ok (by kernel_rfl)
  · exact tk h Tryz.func127 c_slices_ContainsFunc_int_int_ok (by kernel_rfl)
  · exact tk h Tryz.func128 c_impl_areValues_1_ok (by kernel_rfl)
  · exact tk h Tryz.func129 c_slices_Contains_int_int_ok (by kernel_rfl)
  · exact tk h Tryz.func130 c_slices_Concat_int_int_ok (by kernel_rfl)
  · exact tk h Tryz.func133 c_slices_IndexFunc_int_int_ok (by kernel_rfl)
  · exact tk h Tryz.func134 c_slices_Index_int_int_ok (by kernel_rfl)
  · cases h
end Go.Proofs.YtfbeplbcaanimaaGreat
