/-
  The functions of the program that the laws here reach, in the small language; each is what the translation gives (checked by the kernel).
-/
import Derived.Test.YtfbeplbcaanimaaGreatMD
import Derived.Test.YtfbeplbcaanimaaGreatProg
import Derived.KernelRfl
set_option linter.unusedVariables false
namespace Go.Proofs.YtfbeplbcaanimaaGreat
@[simp] def Z64 : List C := [.bool false, .int .i64 0, .int .i64 0, .int .i64 0, .bool false, .int .i64 0, .int .i64 0, .int .i64 0, .bool false, .int .i64 0, .int .i64 0, .int .i64 0, .bool false, .int .i64 0, .int .i64 0, .int .i64 0, .bool false, .int .i64 0, .int .i64 0, .int .i64 0, .bool false, .int .i64 0, .int .i64 0, .int .i64 0, .bool false, .int .i64 0, .int .i64 0, .int .i64 0, .bool false, .int .i64 0, .int .i64 0, .int .i64 0, .bool false, .int .i64 0, .int .i64 0, .int .i64 0, .bool false, .int .i64 0, .int .i64 0, .int .i64 0, .bool false, .int .i64 0, .int .i64 0, .int .i64 0, .bool false, .int .i64 0, .int .i64 0, .int .i64 0, .bool false, .int .i64 0, .int .i64 0, .int .i64 0, .bool false, .int .i64 0, .int .i64 0, .int .i64 0, .bool false, .int .i64 0, .int .i64 0, .int .i64 0, .bool false, .int .i64 0, .int .i64 0, .int .i64 0]
@[simp] def Z65 : List C := [.bool false, .int .i64 0, .int .i64 0, .int .i64 0, .bool false, .int .i64 0, .int .i64 0, .int .i64 0, .bool false, .int .i64 0, .int .i64 0, .int .i64 0, .bool false, .int .i64 0, .int .i64 0, .int .i64 0, .bool false, .int .i64 0, .int .i64 0, .int .i64 0, .bool false, .int .i64 0, .int .i64 0, .int .i64 0, .bool false, .int .i64 0, .int .i64 0, .int .i64 0, .bool false, .int .i64 0, .int .i64 0, .int .i64 0, .bool false, .int .i64 0, .int .i64 0, .int .i64 0, .bool false, .int .i64 0, .int .i64 0, .int .i64 0, .bool false, .int .i64 0, .int .i64 0, .int .i64 0, .bool false, .int .i64 0, .int .i64 0, .int .i64 0, .bool false, .int .i64 0, .int .i64 0, .int .i64 0, .bool false, .int .i64 0, .int .i64 0, .int .i64 0, .bool false, .int .i64 0, .int .i64 0, .int .i64 0, .bool false, .int .i64 0, .int .i64 0, .int .i64 0, .int .i64 0]
@[simp] def Z141 : List C := [.bool false, .int .i64 0, .int .i64 0, .int .i64 0, .bool false, .int .i64 0, .int .i64 0, .int .i64 0, .bool false, .int .i64 0, .int .i64 0, .int .i64 0, .bool false, .int .i64 0, .int .i64 0, .int .i64 0, .bool false, .int .i64 0, .int .i64 0, .int .i64 0, .bool false, .int .i64 0, .int .i64 0, .int .i64 0, .bool false, .int .i64 0, .int .i64 0, .int .i64 0, .bool false, .int .i64 0, .int .i64 0, .int .i64 0, .bool false, .int .i64 0, .int .i64 0, .int .i64 0, .bool false, .int .i64 0, .int .i64 0, .int .i64 0, .bool false, .int .i64 0, .int .i64 0, .int .i64 0, .bool false, .int .i64 0, .int .i64 0, .int .i64 0, .bool false, .int .i64 0, .int .i64 0, .int .i64 0, .bool false, .int .i64 0, .int .i64 0, .int .i64 0, .bool false, .int .i64 0, .int .i64 0, .int .i64 0, .bool false, .int .i64 0, .int .i64 0, .int .i64 0, .int .i64 0, .int .i64 0, .int .i64 0, .int .i64 0, .int .i64 0, .int .i64 0, .int .i64 0, .int .i64 0, .int .i64 0, .int .i64 0, .int .i64 0, .bool false, .int .i64 0, .int .i64 0, .int .i64 0, .bool false, .int .i64 0, .int .i64 0, .int .i64 0, .bool false, .int .i64 0, .int .i64 0, .int .i64 0, .bool false, .int .i64 0, .int .i64 0, .int .i64 0, .bool false, .int .i64 0, .int .i64 0, .int .i64 0, .bool false, .int .i64 0, .int .i64 0, .int .i64 0, .bool false, .int .i64 0, .int .i64 0, .int .i64 0, .bool false, .int .i64 0, .int .i64 0, .int .i64 0, .bool false, .int .i64 0, .int .i64 0, .int .i64 0, .bool false, .int .i64 0, .int .i64 0, .int .i64 0, .bool false, .int .i64 0, .int .i64 0, .int .i64 0, .bool false, .int .i64 0, .int .i64 0, .int .i64 0, .bool false, .int .i64 0, .int .i64 0, .int .i64 0, .bool false, .int .i64 0, .int .i64 0, .int .i64 0, .bool false, .int .i64 0, .int .i64 0, .int .i64 0, .bool false, .int .i64 0, .int .i64 0, .int .i64 0, .int .i64 0, .nils]
@[simp] def iK (n : Int) : Opd := .k (.c (.int .i64 n))
@[simp] def bK (x : Bool) : Opd := .k (.c (.bool x))
@[simp] def oQ (d : Nat) (i : I) : IOp := ⟨some d, none, i⟩
@[simp] def nQ (i : I) : IOp := ⟨none, none, i⟩
@[simp] def mW (d a : Nat) : IOp := ⟨some d, none, .mov (.t a)⟩
def c_laws_FnExactBatch : IFn := ⟨156, [.t 4],
  (.seq (.reg false [oQ 2 (.box (.t 0) 37),
 oQ 4 (.mov (bK false))])
 (.seq (.reg false [oQ 5 (.mov (iK 1048576))])
 (.seq (.reg false [oQ 20 (.loadN (.t 2) 141),
 mW 21 5,
 oQ 22 (.call 6 [.t 20, .t 21]),
 mW 5 22])
 (.seq (.seq (.reg false [mW 23 5,
 oQ 24 (.bin .lss (.t 23) (iK 0))])
 (.cond (.t 24) (.seq (.reg false [oQ 4 (.mov (bK true))])
 (.ret (some [4]))) .skip))
 (.seq (.reg false [mW 25 1,
 mW 26 5,
 oQ 27 (.call 15 [.t 25, .t 26]),
 mW 5 27])
 (.seq (.seq (.reg false [mW 28 5,
 oQ 29 (.bin .lss (.t 28) (iK 0))])
 (.cond (.t 29) (.seq (.reg false [oQ 4 (.mov (bK true))])
 (.ret (some [4]))) .skip))
 (.seq (.reg false [oQ 31 (.loadN (.t 2) 141),
 oQ 32 (.call 8 [.t 31]),
 mW 33 1,
 oQ 34 (.call 17 [.t 33]),
 oQ 35 (.call 16 [.t 32, .t 34]),
 mW 30 35,
 oQ 36 (.ext (.t 30) 0),
 oQ 37 (.ext (.t 30) 1),
 oQ 38 (.ext (.t 30) 2),
 oQ 6 (.alloc Z141 51),
 nQ (.store (.t 6) (.t 36) 141),
 mW 7 37,
 mW 8 38])
 (.seq (.reg false [oQ 39 (.loadN (.t 2) 141),
 oQ 40 (.call 8 [.t 39]),
 oQ 9 (.alloc Z141 51),
 nQ (.store (.t 9) (.t 40) 141)])
 (.seq (.reg false [mW 41 1,
 oQ 42 (.call 17 [.t 41]),
 mW 10 42])
 (.seq (.reg false [oQ 44 (.loadN (.t 9) 141),
 mW 45 10,
 oQ 46 (.call 18 [.t 44, .t 45]),
 mW 43 46,
 oQ 47 (.ext (.t 43) 0),
 oQ 48 (.ext (.t 43) 1),
 oQ 49 (.ext (.t 43) 2),
 oQ 11 (.alloc Z141 51),
 nQ (.store (.t 11) (.t 47) 141),
 mW 12 48,
 mW 13 49])
 (.seq (.seq (.reg false [oQ 50 (.loadN (.t 11) 141),
 oQ 51 (.loadN (.t 6) 141),
 oQ 52 (.call 11 [.t 50, .t 51]),
 oQ 53 (.un .not (.t 52)),
 mW 54 53,
 ⟨some 55, some (54, false), .mov (.t 12)⟩,
 ⟨some 56, some (54, false), .mov (.t 7)⟩,
 ⟨some 57, some (54, false), .call 19 [.t 55, .t 56]⟩,
 ⟨some 58, some (54, false), .un .not (.t 57)⟩,
 oQ 59 (.pick (.t 54) (bK true) (.t 58)),
 mW 60 59,
 ⟨some 61, some (60, false), .mov (.t 13)⟩,
 ⟨some 62, some (60, false), .mov (.t 8)⟩,
 ⟨some 63, some (60, false), .binb true (.t 61) (.t 62)⟩,
 oQ 64 (.pick (.t 60) (bK true) (.t 63))])
 (.cond (.t 64) (.seq (.reg false [oQ 4 (.mov (bK false))])
 (.ret (some [4]))) .skip))
 (.seq (.seq (.regE 0 [⟨oQ 65 (.loadN (.t 9) 141), 0, 0, false, []⟩,
 ⟨oQ 66 (.loadN (.t 2) 141), 1, 0, false, []⟩,
 ⟨oQ 67 (.call 8 [.t 66]), 2, 0, false, [0]⟩,
 ⟨oQ 68 (.call 11 [.t 65, .t 67]), 3, 0, false, []⟩,
 ⟨oQ 69 (.un .not (.t 68)), 4, 0, false, []⟩])
 (.cond (.t 69) (.seq (.reg false [oQ 4 (.mov (bK false))])
 (.ret (some [4]))) .skip))
 (.seq (.seq (.reg false [mW 70 10,
 mW 71 1,
 oQ 72 (.call 17 [.t 71]),
 oQ 73 (.call 20 [.t 70, .t 72]),
 oQ 74 (.un .not (.t 73))])
 (.cond (.t 74) (.seq (.reg false [oQ 4 (.mov (bK false))])
 (.ret (some [4]))) .skip))
 (.seq (.reg false [oQ 14 (.mov (iK 1))])
 (.seq (.reg false [oQ 75 (.loadN (.t 9) 141),
 mW 76 14,
 oQ 77 (.call 13 [.t 75, .t 76]),
 mW 14 77])
 (.seq (.reg false [mW 78 10,
 mW 79 14,
 oQ 80 (.call 21 [.t 78, .t 79]),
 mW 14 80])
 (.seq (.seq (.reg false [mW 81 14,
 oQ 82 (.bin .lss (.t 81) (iK 0)),
 mW 83 82,
 ⟨some 84, some (83, false), .loadN (.t 11) 141⟩,
 ⟨some 85, some (83, false), .loadN (.t 6) 141⟩,
 ⟨some 86, some (83, false), .call 11 [.t 84, .t 85]⟩,
 ⟨some 87, some (83, false), .un .not (.t 86)⟩,
 oQ 88 (.pick (.t 83) (bK true) (.t 87)),
 mW 89 88,
 ⟨some 90, some (89, false), .mov (.t 12)⟩,
 ⟨some 91, some (89, false), .mov (.t 7)⟩,
 ⟨some 92, some (89, false), .call 19 [.t 90, .t 91]⟩,
 ⟨some 93, some (89, false), .un .not (.t 92)⟩,
 oQ 94 (.pick (.t 89) (bK true) (.t 93)),
 mW 95 94,
 ⟨some 96, some (95, false), .mov (.t 13)⟩,
 ⟨some 97, some (95, false), .mov (.t 8)⟩,
 ⟨some 98, some (95, false), .binb true (.t 96) (.t 97)⟩,
 oQ 99 (.pick (.t 95) (bK true) (.t 98))])
 (.cond (.t 99) (.seq (.reg false [oQ 4 (.mov (bK false))])
 (.ret (some [4]))) .skip))
 (.seq (.reg false [oQ 15 (.mov (iK 1))])
 (.seq (.reg false [oQ 100 (.loadN (.t 11) 141),
 mW 101 15,
 oQ 102 (.call 13 [.t 100, .t 101]),
 mW 15 102])
 (.seq (.reg false [mW 103 12,
 mW 104 15,
 oQ 105 (.call 22 [.t 103, .t 104]),
 mW 15 105])
 (.seq (.reg false [oQ 16 (.mov (iK 1))])
 (.seq (.reg false [oQ 106 (.loadN (.t 11) 141),
 mW 107 16,
 oQ 108 (.call 14 [.t 106, .t 107]),
 mW 16 108])
 (.seq (.seq (.reg false [mW 109 16,
 oQ 110 (.bin .lss (.t 109) (iK 0))])
 (.cond (.t 110) (.seq (.reg false [oQ 4 (.mov (bK false))])
 (.ret (some [4]))) .skip))
 (.seq (.reg false [mW 111 12,
 mW 112 16,
 oQ 113 (.call 23 [.t 111, .t 112]),
 mW 16 113])
 (.seq (.seq (.reg false [mW 114 16,
 oQ 115 (.bin .lss (.t 114) (iK 0))])
 (.cond (.t 115) (.seq (.reg false [oQ 4 (.mov (bK false))])
 (.ret (some [4]))) .skip))
 (.seq (.seq (.reg false [mW 116 16,
 mW 117 15,
 oQ 118 (.bin .neq (.t 116) (.t 117))])
 (.cond (.t 118) (.seq (.reg false [oQ 4 (.mov (bK false))])
 (.ret (some [4]))) .skip))
 (.seq (.reg false [oQ 120 (.loadN (.t 2) 141),
 oQ 121 (.call 8 [.t 120]),
 mW 122 1,
 oQ 123 (.call 17 [.t 122]),
 oQ 124 (.call 18 [.t 121, .t 123]),
 mW 119 124,
 oQ 125 (.ext (.t 119) 0),
 oQ 126 (.ext (.t 119) 1),
 oQ 127 (.ext (.t 119) 2),
 oQ 17 (.alloc Z141 51),
 nQ (.store (.t 17) (.t 125) 141),
 mW 18 126,
 mW 19 127])
 (.seq (.seq (.reg false [oQ 128 (.loadN (.t 17) 141),
 oQ 129 (.loadN (.t 6) 141),
 oQ 130 (.call 11 [.t 128, .t 129]),
 oQ 131 (.un .not (.t 130)),
 mW 132 131,
 ⟨some 133, some (132, false), .mov (.t 18)⟩,
 ⟨some 134, some (132, false), .mov (.t 7)⟩,
 ⟨some 135, some (132, false), .call 19 [.t 133, .t 134]⟩,
 ⟨some 136, some (132, false), .un .not (.t 135)⟩,
 oQ 137 (.pick (.t 132) (bK true) (.t 136)),
 mW 138 137,
 ⟨some 139, some (138, false), .mov (.t 19)⟩,
 ⟨some 140, some (138, false), .mov (.t 8)⟩,
 ⟨some 141, some (138, false), .binb true (.t 139) (.t 140)⟩,
 oQ 142 (.pick (.t 138) (bK true) (.t 141))])
 (.cond (.t 142) (.seq (.reg false [oQ 4 (.mov (bK false))])
 (.ret (some [4]))) .skip))
 (.seq (.reg false [oQ 16 (.mov (iK 1))])
 (.seq (.reg false [oQ 143 (.loadN (.t 11) 141),
 mW 144 16,
 oQ 145 (.call 14 [.t 143, .t 144]),
 mW 16 145])
 (.seq (.seq (.reg false [mW 146 16,
 oQ 147 (.bin .lss (.t 146) (iK 0))])
 (.cond (.t 147) (.seq (.reg false [oQ 4 (.mov (bK false))])
 (.ret (some [4]))) .skip))
 (.seq (.reg false [mW 148 12,
 mW 149 16,
 oQ 150 (.call 23 [.t 148, .t 149]),
 mW 16 150])
 (.seq (.seq (.reg false [mW 151 16,
 oQ 152 (.bin .lss (.t 151) (iK 0))])
 (.cond (.t 152) (.seq (.reg false [oQ 4 (.mov (bK false))])
 (.ret (some [4]))) .skip))
 (.seq (.seq (.reg false [mW 153 16,
 mW 154 15,
 oQ 155 (.bin .neq (.t 153) (.t 154))])
 (.cond (.t 155) (.seq (.reg false [oQ 4 (.mov (bK false))])
 (.ret (some [4]))) .skip))
 (.seq (.reg false [oQ 4 (.mov (bK true))])
 (.ret (some [4])))))))))))))))))))))))))))))))))))))⟩
theorem c_laws_FnExactBatch_ok : trF Tryz.prog ⟨[], [4], true, false⟩ Tryz.f4 = some c_laws_FnExactBatch := by kernel_rfl
def c_laws_szSpace : IFn := ⟨12, [.t 4],
  (.seq (.reg false [oQ 2 (.box (.t 0) 37),
 oQ 4 (.mov (iK 0))])
 (.seq (.reg false [oQ 5 (.fld (.t 2) 140),
 oQ 6 (.load1 (.t 5)),
 mW 7 1,
 oQ 8 (.call 33 [.t 6, .t 7]),
 mW 1 8])
 (.seq (.seq (.reg false [mW 9 1,
 oQ 10 (.bin .lss (.t 9) (iK 0))])
 (.cond (.t 10) (.seq (.reg false [oQ 4 (.mov (iK (-1)))])
 (.ret (some [4]))) .skip))
 (.seq (.reg false [mW 11 1,
 mW 4 11])
 (.ret (some [4]))))))⟩
theorem c_laws_szSpace_ok : trF Tryz.prog ⟨[], [4], false, false⟩ Tryz.f6 = some c_laws_szSpace := by kernel_rfl
def c_spec_DoDeed : IFn := ⟨47, [.cell 4 141 true, .cell 5 2 true],
  (.seq (.reg false [oQ 2 (.box (.t 0) 51),
 oQ 3 (.box (.t 1) 57),
 oQ 4 (.alloc Z141 51),
 oQ 5 (.alloc [.int .i64 0, .int .i64 0] 53)])
 (.seq (.reg false [oQ 7 (.loadN (.t 2) 141),
 oQ 8 (.call 34 [.t 7]),
 oQ 6 (.alloc Z141 51),
 nQ (.store (.t 6) (.t 8) 141)])
 (.seq (.seq (.reg false [oQ 9 (.loadN (.t 2) 141),
 oQ 10 (.call 35 [.t 9]),
 oQ 11 (.un .not (.t 10)),
 mW 12 11,
 ⟨some 13, some (12, false), .fld (.t 3) 0⟩,
 ⟨some 14, some (12, false), .load1 (.t 13)⟩,
 ⟨some 15, some (12, false), .call 36 [.t 14, .k (.c (.int .i64 1)), .k (.c (.int .i64 9))]⟩,
 ⟨some 16, some (12, false), .un .not (.t 15)⟩,
 oQ 17 (.pick (.t 12) (bK true) (.t 16)),
 mW 18 17,
 ⟨some 19, some (18, false), .fld (.t 3) 0⟩,
 ⟨some 20, some (18, false), .load1 (.t 19)⟩,
 ⟨some 21, some (18, false), .bin .neq (.t 20) (iK 5)⟩,
 ⟨some 22, some (18, false), .mov (.t 21)⟩,
 ⟨some 23, some (22, true), .fld (.t 3) 1⟩,
 ⟨some 24, some (22, true), .load1 (.t 23)⟩,
 ⟨some 25, some (22, true), .call 37 [.t 24]⟩,
 ⟨some 26, some (22, true), .un .not (.t 25)⟩,
 ⟨some 27, some (18, false), .pick (.t 22) (.t 26) (bK false)⟩,
 oQ 28 (.pick (.t 18) (bK true) (.t 27)),
 mW 29 28,
 ⟨some 30, some (29, false), .fld (.t 3) 0⟩,
 ⟨some 31, some (29, false), .load1 (.t 30)⟩,
 ⟨some 32, some (29, false), .bin .eql (.t 31) (iK 1)⟩,
 ⟨some 33, some (29, false), .mov (.t 32)⟩,
 ⟨some 34, some (33, true), .fld (.t 3) 2⟩,
 ⟨some 35, some (33, true), .load1 (.t 34)⟩,
 ⟨some 36, some (33, true), .call 37 [.t 35]⟩,
 ⟨some 37, some (33, true), .un .not (.t 36)⟩,
 ⟨some 38, some (29, false), .pick (.t 33) (.t 37) (bK false)⟩,
 oQ 39 (.pick (.t 29) (bK true) (.t 38))])
 (.cond (.t 39) (.seq (.reg false [oQ 40 (.loadN (.t 6) 141),
 oQ 41 (.bld [.int .i64 0, .int .i64 0] [(0, (1, .k (.c (.int .i64 4))))]),
 nQ (.store (.t 4) (.t 40) 141),
 nQ (.store (.t 5) (.t 41) 2)])
 (.ret (some [4, 5]))) .skip))
 (.seq (.reg false [oQ 42 (.loadN (.t 6) 141),
 oQ 43 (.loadN (.t 3) 3),
 oQ 44 (.call 38 [.t 42, .t 43]),
 oQ 45 (.ext (.t 44) 0),
 oQ 46 (.ext (.t 44) 1),
 nQ (.store (.t 4) (.t 45) 141),
 nQ (.store (.t 5) (.t 46) 2)])
 (.ret (some [4, 5]))))))⟩
theorem c_spec_DoDeed_ok : trF Tryz.prog ⟨[], [4, 5], false, false⟩ Tryz.f7 = some c_spec_DoDeed := by kernel_rfl
def c_laws_toSpace : IFn := ⟨21, [.cell 2 141 true],
  (.seq (.reg false [oQ 1 (.box (.t 0) 37),
 oQ 2 (.alloc Z141 51)])
 (.seq (.reg false [oQ 3 (.alloc Z141 51)])
 (.seq (.reg false [oQ 4 (.fld (.t 1) 0),
 oQ 5 (.loadN (.t 4) 65),
 oQ 6 (.call 39 [.t 5]),
 oQ 7 (.fld (.t 3) 0),
 nQ (.store (.t 7) (.t 6) 65)])
 (.seq (.reg false [oQ 8 (.fld (.t 1) 65),
 oQ 9 (.loadN (.t 8) 10),
 oQ 10 (.call 40 [.t 9]),
 oQ 11 (.fld (.t 3) 65),
 nQ (.store (.t 11) (.t 10) 10)])
 (.seq (.reg false [oQ 12 (.fld (.t 1) 75),
 oQ 13 (.loadN (.t 12) 65),
 oQ 14 (.call 41 [.t 13]),
 oQ 15 (.fld (.t 3) 75),
 nQ (.store (.t 15) (.t 14) 65)])
 (.seq (.reg false [oQ 16 (.fld (.t 1) 140),
 oQ 17 (.load1 (.t 16)),
 oQ 18 (.call 42 [.t 17]),
 oQ 19 (.fld (.t 3) 140),
 nQ (.store (.t 19) (.t 18) 1)])
 (.seq (.reg false [oQ 20 (.loadN (.t 3) 141),
 nQ (.store (.t 2) (.t 20) 141)])
 (.ret (some [2])))))))))⟩
theorem c_laws_toSpace_ok : trF Tryz.prog ⟨[], [2], false, false⟩ Tryz.f8 = some c_laws_toSpace := by kernel_rfl
def c_laws_toDeed : IFn := ⟨14, [.cell 2 3 true],
  (.seq (.reg false [oQ 1 (.box (.t 0) 39),
 oQ 2 (.alloc [.int .i64 0, .int .i64 0, .int .i64 0] 57)])
 (.seq (.reg false [oQ 3 (.alloc [.int .i64 0, .int .i64 0, .int .i64 0] 57)])
 (.seq (.reg false [oQ 4 (.fld (.t 1) 0),
 oQ 5 (.load1 (.t 4)),
 oQ 6 (.fld (.t 3) 0),
 nQ (.store (.t 6) (.t 5) 1)])
 (.seq (.reg false [oQ 7 (.fld (.t 1) 1),
 oQ 8 (.load1 (.t 7)),
 oQ 9 (.fld (.t 3) 1),
 nQ (.store (.t 9) (.t 8) 1)])
 (.seq (.reg false [oQ 10 (.fld (.t 1) 2),
 oQ 11 (.load1 (.t 10)),
 oQ 12 (.fld (.t 3) 2),
 nQ (.store (.t 12) (.t 11) 1)])
 (.seq (.reg false [oQ 13 (.loadN (.t 3) 3),
 nQ (.store (.t 2) (.t 13) 3)])
 (.ret (some [2]))))))))⟩
theorem c_laws_toDeed_ok : trF Tryz.prog ⟨[], [2], false, false⟩ Tryz.f9 = some c_laws_toDeed := by kernel_rfl
def c_impl_DoDeed : IFn := ⟨47, [.cell 4 141 true, .cell 5 2 true],
  (.seq (.reg false [oQ 2 (.box (.t 0) 51),
 oQ 3 (.box (.t 1) 57),
 oQ 4 (.alloc Z141 51),
 oQ 5 (.alloc [.int .i64 0, .int .i64 0] 53)])
 (.seq (.reg false [oQ 8 (.loadN (.t 2) 141),
 oQ 9 (.call 43 [.t 8]),
 oQ 6 (.alloc Z141 51),
 nQ (.store (.t 6) (.t 9) 141)])
 (.seq (.seq (.reg false [oQ 10 (.loadN (.t 2) 141),
 oQ 11 (.call 44 [.t 10]),
 oQ 12 (.un .not (.t 11)),
 mW 13 12,
 ⟨some 14, some (13, false), .fld (.t 3) 0⟩,
 ⟨some 15, some (13, false), .load1 (.t 14)⟩,
 ⟨some 16, some (13, false), .call 45 [.t 15, .k (.c (.int .i64 1)), .k (.c (.int .i64 9))]⟩,
 ⟨some 17, some (13, false), .un .not (.t 16)⟩,
 oQ 18 (.pick (.t 13) (bK true) (.t 17)),
 mW 19 18,
 ⟨some 20, some (19, false), .fld (.t 3) 0⟩,
 ⟨some 21, some (19, false), .load1 (.t 20)⟩,
 ⟨some 22, some (19, false), .bin .neq (.t 21) (iK 5)⟩,
 ⟨some 23, some (19, false), .mov (.t 22)⟩,
 ⟨some 24, some (23, true), .fld (.t 3) 1⟩,
 ⟨some 25, some (23, true), .load1 (.t 24)⟩,
 ⟨some 26, some (23, true), .call 46 [.t 25]⟩,
 ⟨some 27, some (23, true), .un .not (.t 26)⟩,
 ⟨some 28, some (19, false), .pick (.t 23) (.t 27) (bK false)⟩,
 oQ 29 (.pick (.t 19) (bK true) (.t 28)),
 mW 30 29,
 ⟨some 31, some (30, false), .fld (.t 3) 0⟩,
 ⟨some 32, some (30, false), .load1 (.t 31)⟩,
 ⟨some 33, some (30, false), .bin .eql (.t 32) (iK 1)⟩,
 ⟨some 34, some (30, false), .mov (.t 33)⟩,
 ⟨some 35, some (34, true), .fld (.t 3) 2⟩,
 ⟨some 36, some (34, true), .load1 (.t 35)⟩,
 ⟨some 37, some (34, true), .call 46 [.t 36]⟩,
 ⟨some 38, some (34, true), .un .not (.t 37)⟩,
 ⟨some 39, some (30, false), .pick (.t 34) (.t 38) (bK false)⟩,
 oQ 40 (.pick (.t 30) (bK true) (.t 39))])
 (.cond (.t 40) (.seq (.reg false [oQ 41 (.loadN (.t 6) 141),
 oQ 42 (.bld [.int .i64 0, .int .i64 0] [(0, (1, .k (.c (.int .i64 4))))]),
 nQ (.store (.t 4) (.t 41) 141),
 nQ (.store (.t 5) (.t 42) 2)])
 (.ret (some [4, 5]))) .skip))
 (.seq (.reg false [oQ 43 (.loadN (.t 3) 3),
 oQ 44 (.call 47 [.t 6, .t 43]),
 oQ 7 (.alloc [.int .i64 0, .int .i64 0] 53),
 nQ (.store (.t 7) (.t 44) 2)])
 (.seq (.regE 0 [⟨oQ 45 (.loadN (.t 6) 141), 0, 0, false, []⟩,
 ⟨oQ 46 (.loadN (.t 7) 2), 1, 0, false, []⟩,
 ⟨nQ (.store (.t 4) (.t 45) 141), 2, 0, false, [1]⟩,
 ⟨nQ (.store (.t 5) (.t 46) 2), 3, 0, false, []⟩])
 (.ret (some [4, 5])))))))⟩
theorem c_impl_DoDeed_ok : trF Tryz.prog ⟨[], [4, 5], false, false⟩ Tryz.f10 = some c_impl_DoDeed := by kernel_rfl
def c_laws_eqSpace : IFn := ⟨29, [.t 4],
  (.seq (.reg false [oQ 2 (.box (.t 0) 51),
 oQ 3 (.box (.t 1) 51),
 oQ 4 (.mov (bK false))])
 (.seq (.seq (.reg false [oQ 5 (.fld (.t 2) 0),
 oQ 6 (.loadN (.t 5) 65),
 oQ 7 (.fld (.t 3) 0),
 oQ 8 (.loadN (.t 7) 65),
 oQ 9 (.call 48 [.t 6, .t 8]),
 oQ 10 (.un .not (.t 9))])
 (.cond (.t 10) (.seq (.reg false [oQ 4 (.mov (bK false))])
 (.ret (some [4]))) .skip))
 (.seq (.seq (.reg false [oQ 11 (.fld (.t 2) 65),
 oQ 12 (.loadN (.t 11) 10),
 oQ 13 (.fld (.t 3) 65),
 oQ 14 (.loadN (.t 13) 10),
 oQ 15 (.call 49 [.t 12, .t 14]),
 oQ 16 (.un .not (.t 15))])
 (.cond (.t 16) (.seq (.reg false [oQ 4 (.mov (bK false))])
 (.ret (some [4]))) .skip))
 (.seq (.seq (.reg false [oQ 17 (.fld (.t 2) 75),
 oQ 18 (.loadN (.t 17) 65),
 oQ 19 (.fld (.t 3) 75),
 oQ 20 (.loadN (.t 19) 65),
 oQ 21 (.call 50 [.t 18, .t 20]),
 oQ 22 (.un .not (.t 21))])
 (.cond (.t 22) (.seq (.reg false [oQ 4 (.mov (bK false))])
 (.ret (some [4]))) .skip))
 (.seq (.seq (.reg false [oQ 23 (.fld (.t 2) 140),
 oQ 24 (.load1 (.t 23)),
 oQ 25 (.fld (.t 3) 140),
 oQ 26 (.load1 (.t 25)),
 oQ 27 (.call 51 [.t 24, .t 26]),
 oQ 28 (.un .not (.t 27))])
 (.cond (.t 28) (.seq (.reg false [oQ 4 (.mov (bK false))])
 (.ret (some [4]))) .skip))
 (.seq (.reg false [oQ 4 (.mov (bK true))])
 (.ret (some [4]))))))))⟩
theorem c_laws_eqSpace_ok : trF Tryz.prog ⟨[], [4], false, false⟩ Tryz.f11 = some c_laws_eqSpace := by kernel_rfl
def c_laws_eqTold : IFn := ⟨15, [.t 4],
  (.seq (.reg false [oQ 2 (.box (.t 0) 53),
 oQ 3 (.box (.t 1) 53),
 oQ 4 (.mov (bK false))])
 (.seq (.seq (.reg false [oQ 5 (.fld (.t 2) 0),
 oQ 6 (.load1 (.t 5)),
 oQ 7 (.fld (.t 3) 0),
 oQ 8 (.load1 (.t 7)),
 oQ 9 (.bin .neq (.t 6) (.t 8))])
 (.cond (.t 9) (.seq (.reg false [oQ 4 (.mov (bK false))])
 (.ret (some [4]))) .skip))
 (.seq (.seq (.reg false [oQ 10 (.fld (.t 2) 1),
 oQ 11 (.load1 (.t 10)),
 oQ 12 (.fld (.t 3) 1),
 oQ 13 (.load1 (.t 12)),
 oQ 14 (.bin .neq (.t 11) (.t 13))])
 (.cond (.t 14) (.seq (.reg false [oQ 4 (.mov (bK false))])
 (.ret (some [4]))) .skip))
 (.seq (.reg false [oQ 4 (.mov (bK true))])
 (.ret (some [4]))))))⟩
theorem c_laws_eqTold_ok : trF Tryz.prog ⟨[], [4], false, false⟩ Tryz.f12 = some c_laws_eqTold := by kernel_rfl
def c_laws_markSpace : IFn := ⟨10, [.t 4],
  (.seq (.reg false [oQ 2 (.box (.t 0) 51),
 oQ 4 (.mov (iK 0))])
 (.seq (.reg false [oQ 5 (.fld (.t 2) 140),
 oQ 6 (.load1 (.t 5)),
 mW 7 1,
 oQ 8 (.call 52 [.t 6, .t 7]),
 mW 1 8])
 (.seq (.reg false [mW 9 1,
 mW 4 9])
 (.ret (some [4])))))⟩
theorem c_laws_markSpace_ok : trF Tryz.prog ⟨[], [4], false, false⟩ Tryz.f13 = some c_laws_markSpace := by kernel_rfl
def c_laws_heldSpace : IFn := ⟨12, [.t 4],
  (.seq (.reg false [oQ 2 (.box (.t 0) 51),
 oQ 4 (.mov (iK 0))])
 (.seq (.reg false [oQ 5 (.fld (.t 2) 140),
 oQ 6 (.load1 (.t 5)),
 mW 7 1,
 oQ 8 (.call 53 [.t 6, .t 7]),
 mW 1 8])
 (.seq (.seq (.reg false [mW 9 1,
 oQ 10 (.bin .lss (.t 9) (iK 0))])
 (.cond (.t 10) (.seq (.reg false [oQ 4 (.mov (iK (-1)))])
 (.ret (some [4]))) .skip))
 (.seq (.reg false [mW 11 1,
 mW 4 11])
 (.ret (some [4]))))))⟩
theorem c_laws_heldSpace_ok : trF Tryz.prog ⟨[], [4], false, false⟩ Tryz.f14 = some c_laws_heldSpace := by kernel_rfl
def c_laws_szDeedS : IFn := ⟨12, [.t 4],
  (.seq (.reg false [oQ 4 (.mov (iK 0))])
 (.seq (.reg false [mW 5 1,
 mW 6 0,
 oQ 7 (.len (.t 6)),
 oQ 8 (.bin .sub (.t 5) (.t 7)),
 mW 1 8])
 (.seq (.seq (.reg false [mW 9 1,
 oQ 10 (.bin .lss (.t 9) (iK 0))])
 (.cond (.t 10) (.seq (.reg false [oQ 4 (.mov (iK (-1)))])
 (.ret (some [4]))) .skip))
 (.seq (.reg false [mW 11 1,
 mW 4 11])
 (.ret (some [4]))))))⟩
theorem c_laws_szDeedS_ok : trF Tryz.prog ⟨[], [4], false, false⟩ Tryz.f15 = some c_laws_szDeedS := by kernel_rfl
def c_spec_Batch_b0 : IC :=
  (.seq (.seq (.reg false [mW 20 9,
 mW 21 1,
 oQ 22 (.len (.t 21)),
 oQ 23 (.bin .lss (.t 20) (.t 22))])
 (.cond (.t 23) .skip (.exit 0)))
 (.seq (.block 1 none none
 (.seq (.regE 2 [⟨oQ 27 (.loadN (.t 7) 141), 0, 0, false, []⟩,
 ⟨mW 28 1, 1, 0, false, []⟩,
 ⟨mW 29 9, 2, 0, false, []⟩,
 ⟨oQ 30 (.ixs (.t 28) (.t 29) 3), 3, 0, false, []⟩,
 ⟨oQ 31 (.loadN (.t 30) 3), 4, 0, false, []⟩,
 ⟨oQ 32 (.call 7 [.t 27, .t 31]), 5, 0, false, []⟩,
 ⟨mW 26 32, 6, 0, false, []⟩,
 ⟨oQ 33 (.ext (.t 26) 0), 7, 0, false, []⟩,
 ⟨oQ 34 (.ext (.t 26) 1), 8, 0, false, []⟩,
 ⟨oQ 10 (.alloc Z141 51), 9, 0, false, [0, 3, 4]⟩,
 ⟨oQ 11 (.alloc [.int .i64 0, .int .i64 0] 53), 10, 1, false, [0, 3, 4, 9]⟩,
 ⟨nQ (.store (.t 10) (.t 33) 141), 11, 2, false, []⟩,
 ⟨nQ (.store (.t 11) (.t 34) 2), 12, 2, false, []⟩])
 (.seq (.reg false [mW 35 8,
 oQ 36 (.loadN (.t 11) 2),
 oQ 37 (.lit 1 2 [.int .i64 0, .int .i64 0] [(0, .t 36)] 53),
 oQ 38 (.app (.t 35) (.t 37) 53 2 16),
 mW 8 38])
 (.seq (.seq (.reg false [oQ 39 (.fld (.t 11) 0),
 oQ 40 (.load1 (.t 39)),
 oQ 41 (.bin .gtr (.t 40) (iK 1))])
 (.cond (.t 41) (.seq (.reg false [oQ 42 (.loadN (.t 2) 141),
 oQ 43 (.call 34 [.t 42]),
 mW 44 8,
 nQ (.store (.t 4) (.t 43) 141),
 mW 5 44,
 oQ 6 (.mov (bK false))])
 (.ret (some [4, 5, 6]))) .skip))
 (.reg false [oQ 45 (.loadN (.t 10) 141),
 nQ (.store (.t 7) (.t 45) 141)])))))
 (.reg false [mW 24 9,
 oQ 25 (.bin .add (.t 24) (iK 1)),
 mW 9 25])))
def c_spec_Batch : IFn := ⟨48, [.cell 4 141 true, .t 5, .t 6],
  (.seq (.reg false [oQ 2 (.box (.t 0) 51),
 oQ 4 (.alloc Z141 51),
 oQ 5 (.mov (.k (.c .nils))),
 oQ 6 (.mov (bK false))])
 (.seq (.reg false [oQ 12 (.loadN (.t 2) 141),
 oQ 13 (.call 34 [.t 12]),
 oQ 7 (.alloc Z141 51),
 nQ (.store (.t 7) (.t 13) 141)])
 (.seq (.reg false [oQ 14 (.lit 0 2 [.int .i64 0, .int .i64 0] [] 53),
 mW 8 14])
 (.seq (.seq (.reg false [mW 15 1,
 oQ 16 (.len (.t 15)),
 oQ 17 (.bin .gtr (.t 16) (iK 30))])
 (.cond (.t 17) (.seq (.reg false [oQ 18 (.loadN (.t 7) 141),
 mW 19 8,
 nQ (.store (.t 4) (.t 18) 141),
 mW 5 19,
 oQ 6 (.mov (bK false))])
 (.ret (some [4, 5, 6]))) .skip))
 (.seq (.seq (.reg false [oQ 9 (.mov (iK 0))])
 (.block 0 (some [1, 2, 4, 7, 8, 9]) (some [4, 7, 8])
 (.loop c_spec_Batch_b0)))
 (.seq (.reg false [oQ 46 (.loadN (.t 7) 141),
 mW 47 8,
 nQ (.store (.t 4) (.t 46) 141),
 mW 5 47,
 oQ 6 (.mov (bK true))])
 (.ret (some [4, 5, 6]))))))))⟩
theorem c_spec_Batch_ok : trF Tryz.prog ⟨[(0, [1, 2, 4, 7, 8, 9], [4, 7, 8])], [4, 5, 6], false, false⟩ Tryz.f16 = some c_spec_Batch := by kernel_rfl
def c_laws_toDeedS_b0 : IC :=
  (.seq (.seq (.reg false [mW 8 4,
 mW 9 0,
 oQ 10 (.len (.t 9)),
 oQ 11 (.bin .lss (.t 8) (.t 10))])
 (.cond (.t 11) .skip (.exit 0)))
 (.seq (.block 1 none none
 (.reg false [mW 14 3,
 mW 15 4,
 mW 16 0,
 mW 17 4,
 oQ 18 (.ixs (.t 16) (.t 17) 3),
 oQ 19 (.loadN (.t 18) 3),
 oQ 20 (.call 9 [.t 19]),
 oQ 21 (.ixs (.t 14) (.t 15) 3),
 nQ (.store (.t 21) (.t 20) 3)]))
 (.reg false [mW 12 4,
 oQ 13 (.bin .add (.t 12) (iK 1)),
 mW 4 13])))
def c_laws_toDeedS : IFn := ⟨23, [.t 2],
  (.seq (.reg false [oQ 2 (.mov (.k (.c .nils)))])
 (.seq (.reg false [mW 5 0,
 oQ 6 (.len (.t 5)),
 oQ 7 (.mks (.t 6) [.int .i64 0, .int .i64 0, .int .i64 0] 57 24),
 mW 3 7])
 (.seq (.seq (.reg false [oQ 4 (.mov (iK 0))])
 (.block 0 (some [0, 3, 4]) (some [3])
 (.loop c_laws_toDeedS_b0)))
 (.seq (.reg false [mW 22 3,
 mW 2 22])
 (.ret (some [2]))))))⟩
theorem c_laws_toDeedS_ok : trF Tryz.prog ⟨[(0, [0, 3, 4], [3])], [2], false, false⟩ Tryz.f17 = some c_laws_toDeedS := by kernel_rfl
def c_impl_Batch_b0 : IC :=
  (.seq (.reg false [oQ 24 (.bin .lss (.t 23) (.t 22))])
 (.seq (.cond (.t 24) .skip (.exit 0))
 (.seq (.block 1 none none
 (.seq (.reg false [oQ 25 (.ixs (.t 21) (.t 23) 3),
 oQ 26 (.loadN (.t 25) 3),
 oQ 10 (.alloc [.int .i64 0, .int .i64 0, .int .i64 0] 57),
 nQ (.store (.t 10) (.t 26) 3)])
 (.seq (.reg false [oQ 28 (.loadN (.t 7) 141),
 oQ 29 (.loadN (.t 10) 3),
 oQ 30 (.call 10 [.t 28, .t 29]),
 mW 27 30,
 oQ 31 (.ext (.t 27) 0),
 oQ 32 (.ext (.t 27) 1),
 oQ 11 (.alloc Z141 51),
 oQ 12 (.alloc [.int .i64 0, .int .i64 0] 53),
 nQ (.store (.t 11) (.t 31) 141),
 nQ (.store (.t 12) (.t 32) 2)])
 (.seq (.reg false [mW 33 8,
 oQ 34 (.loadN (.t 12) 2),
 oQ 35 (.lit 1 2 [.int .i64 0, .int .i64 0] [(0, .t 34)] 53),
 oQ 36 (.app (.t 33) (.t 35) 53 2 16),
 mW 8 36])
 (.seq (.seq (.reg false [oQ 37 (.fld (.t 12) 0),
 oQ 38 (.load1 (.t 37)),
 oQ 39 (.bin .neq (.t 38) (iK 0)),
 mW 40 39,
 ⟨some 41, some (40, true), .fld (.t 12) 0⟩,
 ⟨some 42, some (40, true), .load1 (.t 41)⟩,
 ⟨some 43, some (40, true), .bin .neq (.t 42) (iK 1)⟩,
 oQ 44 (.pick (.t 40) (.t 43) (bK false))])
 (.cond (.t 44) (.seq (.reg false [oQ 45 (.loadN (.t 2) 141),
 oQ 46 (.call 43 [.t 45]),
 mW 47 8,
 nQ (.store (.t 4) (.t 46) 141),
 mW 5 47,
 oQ 6 (.mov (bK false))])
 (.ret (some [4, 5, 6]))) .skip))
 (.reg false [oQ 48 (.loadN (.t 11) 141),
 nQ (.store (.t 7) (.t 48) 141)]))))))
 (.reg false [oQ 49 (.bin .add (.t 23) (iK 1)),
 mW 23 49]))))
def c_impl_Batch : IFn := ⟨52, [.cell 4 141 true, .t 5, .t 6],
  (.seq (.reg false [oQ 2 (.box (.t 0) 51),
 oQ 4 (.alloc Z141 51),
 oQ 5 (.mov (.k (.c .nils))),
 oQ 6 (.mov (bK false))])
 (.seq (.seq (.reg false [mW 13 1,
 oQ 14 (.len (.t 13)),
 oQ 15 (.bin .gtr (.t 14) (iK 30))])
 (.cond (.t 15) (.seq (.reg false [oQ 16 (.loadN (.t 2) 141),
 oQ 17 (.call 43 [.t 16]),
 nQ (.store (.t 4) (.t 17) 141),
 oQ 5 (.mov (.k (.c .nils))),
 oQ 6 (.mov (bK false))])
 (.ret (some [4, 5, 6]))) .skip))
 (.seq (.reg false [oQ 18 (.loadN (.t 2) 141),
 oQ 19 (.call 43 [.t 18]),
 oQ 20 (.lit 0 2 [.int .i64 0, .int .i64 0] [] 53),
 oQ 7 (.alloc Z141 51),
 nQ (.store (.t 7) (.t 19) 141),
 mW 8 20])
 (.seq (.seq (.reg false [mW 21 1,
 oQ 22 (.len (.t 21)),
 oQ 23 (.mov (iK 0))])
 (.block 0 (some [2, 4, 7, 8, 21, 22, 23]) (some [4, 7, 8])
 (.loop c_impl_Batch_b0)))
 (.seq (.reg false [oQ 50 (.loadN (.t 7) 141),
 mW 51 8,
 nQ (.store (.t 4) (.t 50) 141),
 mW 5 51,
 oQ 6 (.mov (bK true))])
 (.ret (some [4, 5, 6])))))))⟩
theorem c_impl_Batch_ok : trF Tryz.prog ⟨[(0, [2, 4, 7, 8, 21, 22, 23], [4, 7, 8])], [4, 5, 6], false, false⟩ Tryz.f18 = some c_impl_Batch := by kernel_rfl
def c_laws_eqToldS_b0 : IC :=
  (.seq (.seq (.reg false [mW 11 5,
 mW 12 0,
 oQ 13 (.len (.t 12)),
 oQ 14 (.bin .lss (.t 11) (.t 13))])
 (.cond (.t 14) .skip (.exit 0)))
 (.seq (.block 1 none none
 (.seq (.reg true [mW 17 0,
 mW 18 5,
 oQ 19 (.ixs (.t 17) (.t 18) 2),
 oQ 20 (.loadN (.t 19) 2),
 mW 21 1,
 mW 22 5,
 oQ 23 (.ixs (.t 21) (.t 22) 2),
 oQ 24 (.loadN (.t 23) 2),
 oQ 25 (.call 12 [.t 20, .t 24]),
 oQ 26 (.un .not (.t 25))])
 (.cond (.t 26) (.seq (.reg false [oQ 4 (.mov (bK false))])
 (.ret (some [4]))) .skip)))
 (.reg false [mW 15 5,
 oQ 16 (.bin .add (.t 15) (iK 1)),
 mW 5 16])))
def c_laws_eqToldS : IFn := ⟨27, [.t 4],
  (.seq (.reg false [oQ 4 (.mov (bK false))])
 (.seq (.seq (.reg false [mW 6 0,
 oQ 7 (.len (.t 6)),
 mW 8 1,
 oQ 9 (.len (.t 8)),
 oQ 10 (.bin .neq (.t 7) (.t 9))])
 (.cond (.t 10) (.seq (.reg false [oQ 4 (.mov (bK false))])
 (.ret (some [4]))) .skip))
 (.seq (.seq (.reg false [oQ 5 (.mov (iK 0))])
 (.block 0 (some [0, 1, 5]) (some [])
 (.loop c_laws_eqToldS_b0)))
 (.seq (.reg false [oQ 4 (.mov (bK true))])
 (.ret (some [4]))))))⟩
theorem c_laws_eqToldS_ok : trF Tryz.prog ⟨[(0, [0, 1, 5], [])], [4], false, false⟩ Tryz.f19 = some c_laws_eqToldS := by kernel_rfl
def c_laws_eqDeedS_b0 : IC :=
  (.seq (.seq (.reg false [mW 11 5,
 mW 12 0,
 oQ 13 (.len (.t 12)),
 oQ 14 (.bin .lss (.t 11) (.t 13))])
 (.cond (.t 14) .skip (.exit 0)))
 (.seq (.block 1 none none
 (.seq (.reg true [mW 17 0,
 mW 18 5,
 oQ 19 (.ixs (.t 17) (.t 18) 3),
 oQ 20 (.loadN (.t 19) 3),
 mW 21 1,
 mW 22 5,
 oQ 23 (.ixs (.t 21) (.t 22) 3),
 oQ 24 (.loadN (.t 23) 3),
 oQ 25 (.call 54 [.t 20, .t 24]),
 oQ 26 (.un .not (.t 25))])
 (.cond (.t 26) (.seq (.reg false [oQ 4 (.mov (bK false))])
 (.ret (some [4]))) .skip)))
 (.reg false [mW 15 5,
 oQ 16 (.bin .add (.t 15) (iK 1)),
 mW 5 16])))
def c_laws_eqDeedS : IFn := ⟨27, [.t 4],
  (.seq (.reg false [oQ 4 (.mov (bK false))])
 (.seq (.seq (.reg false [mW 6 0,
 oQ 7 (.len (.t 6)),
 mW 8 1,
 oQ 9 (.len (.t 8)),
 oQ 10 (.bin .neq (.t 7) (.t 9))])
 (.cond (.t 10) (.seq (.reg false [oQ 4 (.mov (bK false))])
 (.ret (some [4]))) .skip))
 (.seq (.seq (.reg false [oQ 5 (.mov (iK 0))])
 (.block 0 (some [0, 1, 5]) (some [])
 (.loop c_laws_eqDeedS_b0)))
 (.seq (.reg false [oQ 4 (.mov (bK true))])
 (.ret (some [4]))))))⟩
theorem c_laws_eqDeedS_ok : trF Tryz.prog ⟨[(0, [0, 1, 5], [])], [4], false, false⟩ Tryz.f20 = some c_laws_eqDeedS := by kernel_rfl
def c_laws_markDeedS_b0 : IC :=
  (.seq (.seq (.reg false [mW 6 5,
 mW 7 0,
 oQ 8 (.len (.t 7)),
 oQ 9 (.bin .lss (.t 6) (.t 8))])
 (.cond (.t 9) .skip (.exit 0)))
 (.seq (.block 1 none none
 (.seq (.reg false [mW 12 0,
 mW 13 5,
 mW 14 1,
 oQ 15 (.ixs (.t 12) (.t 13) 3),
 oQ 16 (.fld (.t 15) 0),
 nQ (.store (.t 16) (.t 14) 1)])
 (.seq (.reg false [mW 17 1,
 oQ 18 (.bin .add (.t 17) (iK 1)),
 mW 1 18])
 (.seq (.reg false [mW 19 0,
 mW 20 5,
 mW 21 1,
 oQ 22 (.ixs (.t 19) (.t 20) 3),
 oQ 23 (.fld (.t 22) 1),
 nQ (.store (.t 23) (.t 21) 1)])
 (.seq (.reg false [mW 24 1,
 oQ 25 (.bin .add (.t 24) (iK 1)),
 mW 1 25])
 (.seq (.reg false [mW 26 0,
 mW 27 5,
 mW 28 1,
 oQ 29 (.ixs (.t 26) (.t 27) 3),
 oQ 30 (.fld (.t 29) 2),
 nQ (.store (.t 30) (.t 28) 1)])
 (.reg false [mW 31 1,
 oQ 32 (.bin .add (.t 31) (iK 1)),
 mW 1 32])))))))
 (.reg false [mW 10 5,
 oQ 11 (.bin .add (.t 10) (iK 1)),
 mW 5 11])))
def c_laws_markDeedS : IFn := ⟨34, [.t 4],
  (.seq (.reg false [oQ 4 (.mov (iK 0))])
 (.seq (.seq (.reg false [oQ 5 (.mov (iK 0))])
 (.block 0 (some [0, 1, 5]) (some [1])
 (.loop c_laws_markDeedS_b0)))
 (.seq (.reg false [mW 33 1,
 mW 4 33])
 (.ret (some [4])))))⟩
theorem c_laws_markDeedS_ok : trF Tryz.prog ⟨[(0, [0, 1, 5], [1])], [4], false, false⟩ Tryz.f21 = some c_laws_markDeedS := by kernel_rfl
def c_laws_markToldS_b0 : IC :=
  (.seq (.seq (.reg false [mW 6 5,
 mW 7 0,
 oQ 8 (.len (.t 7)),
 oQ 9 (.bin .lss (.t 6) (.t 8))])
 (.cond (.t 9) .skip (.exit 0)))
 (.seq (.block 1 none none
 (.seq (.reg false [mW 12 0,
 mW 13 5,
 mW 14 1,
 oQ 15 (.ixs (.t 12) (.t 13) 2),
 oQ 16 (.fld (.t 15) 0),
 nQ (.store (.t 16) (.t 14) 1)])
 (.seq (.reg false [mW 17 1,
 oQ 18 (.bin .add (.t 17) (iK 1)),
 mW 1 18])
 (.seq (.reg false [mW 19 0,
 mW 20 5,
 mW 21 1,
 oQ 22 (.ixs (.t 19) (.t 20) 2),
 oQ 23 (.fld (.t 22) 1),
 nQ (.store (.t 23) (.t 21) 1)])
 (.reg false [mW 24 1,
 oQ 25 (.bin .add (.t 24) (iK 1)),
 mW 1 25])))))
 (.reg false [mW 10 5,
 oQ 11 (.bin .add (.t 10) (iK 1)),
 mW 5 11])))
def c_laws_markToldS : IFn := ⟨27, [.t 4],
  (.seq (.reg false [oQ 4 (.mov (iK 0))])
 (.seq (.seq (.reg false [oQ 5 (.mov (iK 0))])
 (.block 0 (some [0, 1, 5]) (some [1])
 (.loop c_laws_markToldS_b0)))
 (.seq (.reg false [mW 26 1,
 mW 4 26])
 (.ret (some [4])))))⟩
theorem c_laws_markToldS_ok : trF Tryz.prog ⟨[(0, [0, 1, 5], [1])], [4], false, false⟩ Tryz.f22 = some c_laws_markToldS := by kernel_rfl
def c_laws_heldToldS_b0 : IC :=
  (.seq (.seq (.reg false [mW 6 5,
 mW 7 0,
 oQ 8 (.len (.t 7)),
 oQ 9 (.bin .lss (.t 6) (.t 8))])
 (.cond (.t 9) .skip (.exit 0)))
 (.seq (.block 1 none none
 (.seq (.seq (.reg false [mW 12 0,
 mW 13 5,
 oQ 14 (.ixs (.t 12) (.t 13) 2),
 oQ 15 (.fld (.t 14) 0),
 oQ 16 (.load1 (.t 15)),
 mW 17 1,
 oQ 18 (.bin .neq (.t 16) (.t 17))])
 (.cond (.t 18) (.seq (.reg false [oQ 4 (.mov (iK (-1)))])
 (.ret (some [4]))) .skip))
 (.seq (.reg false [mW 19 1,
 oQ 20 (.bin .add (.t 19) (iK 1)),
 mW 1 20])
 (.seq (.seq (.reg false [mW 21 0,
 mW 22 5,
 oQ 23 (.ixs (.t 21) (.t 22) 2),
 oQ 24 (.fld (.t 23) 1),
 oQ 25 (.load1 (.t 24)),
 mW 26 1,
 oQ 27 (.bin .neq (.t 25) (.t 26))])
 (.cond (.t 27) (.seq (.reg false [oQ 4 (.mov (iK (-1)))])
 (.ret (some [4]))) .skip))
 (.reg false [mW 28 1,
 oQ 29 (.bin .add (.t 28) (iK 1)),
 mW 1 29])))))
 (.reg false [mW 10 5,
 oQ 11 (.bin .add (.t 10) (iK 1)),
 mW 5 11])))
def c_laws_heldToldS : IFn := ⟨31, [.t 4],
  (.seq (.reg false [oQ 4 (.mov (iK 0))])
 (.seq (.seq (.reg false [oQ 5 (.mov (iK 0))])
 (.block 0 (some [0, 1, 5]) (some [1])
 (.loop c_laws_heldToldS_b0)))
 (.seq (.reg false [mW 30 1,
 mW 4 30])
 (.ret (some [4])))))⟩
theorem c_laws_heldToldS_ok : trF Tryz.prog ⟨[(0, [0, 1, 5], [1])], [4], false, false⟩ Tryz.f23 = some c_laws_heldToldS := by kernel_rfl
def c_laws_szIntSS_b0 : IC :=
  (.seq (.seq (.reg false [mW 12 5,
 mW 13 0,
 oQ 14 (.len (.t 13)),
 oQ 15 (.bin .lss (.t 12) (.t 14))])
 (.cond (.t 15) .skip (.exit 0)))
 (.seq (.block 1 none none
 (.seq (.reg false [mW 18 0,
 mW 19 5,
 oQ 20 (.ixs (.t 18) (.t 19) 1),
 oQ 21 (.load1 (.t 20)),
 mW 22 1,
 oQ 23 (.call 55 [.t 21, .t 22]),
 mW 1 23])
 (.seq (.reg false [mW 24 1,
 oQ 25 (.bin .lss (.t 24) (iK 0))])
 (.cond (.t 25) (.seq (.reg false [oQ 4 (.mov (iK (-1)))])
 (.ret (some [4]))) .skip))))
 (.reg false [mW 16 5,
 oQ 17 (.bin .add (.t 16) (iK 1)),
 mW 5 17])))
def c_laws_szIntSS : IFn := ⟨27, [.t 4],
  (.seq (.reg false [oQ 4 (.mov (iK 0))])
 (.seq (.reg false [mW 6 1,
 mW 7 0,
 oQ 8 (.len (.t 7)),
 oQ 9 (.bin .sub (.t 6) (.t 8)),
 mW 1 9])
 (.seq (.seq (.reg false [mW 10 1,
 oQ 11 (.bin .lss (.t 10) (iK 0))])
 (.cond (.t 11) (.seq (.reg false [oQ 4 (.mov (iK (-1)))])
 (.ret (some [4]))) .skip))
 (.seq (.seq (.reg false [oQ 5 (.mov (iK 0))])
 (.block 0 (some [0, 1, 5]) (some [1])
 (.loop c_laws_szIntSS_b0)))
 (.seq (.reg false [mW 26 1,
 mW 4 26])
 (.ret (some [4])))))))⟩
theorem c_laws_szIntSS_ok : trF Tryz.prog ⟨[(0, [0, 1, 5], [1])], [4], false, false⟩ Tryz.f33 = some c_laws_szIntSS := by kernel_rfl
def c_spec_l17Copy : IFn := ⟨8, [.cell 2 141 true],
  (.seq (.reg false [oQ 1 (.box (.t 0) 51),
 oQ 2 (.alloc Z141 51)])
 (.seq (.reg false [oQ 3 (.fld (.t 1) 140),
 oQ 4 (.load1 (.t 3)),
 oQ 5 (.call 56 [.t 4]),
 oQ 6 (.fld (.t 1) 140),
 nQ (.store (.t 6) (.t 5) 1)])
 (.seq (.reg false [oQ 7 (.loadN (.t 1) 141),
 nQ (.store (.t 2) (.t 7) 141)])
 (.ret (some [2])))))⟩
theorem c_spec_l17Copy_ok : trF Tryz.prog ⟨[], [2], false, false⟩ Tryz.f34 = some c_spec_l17Copy := by kernel_rfl
def c_spec_SpaceOk : IFn := ⟨21, [.t 2],
  (.seq (.reg false [oQ 1 (.box (.t 0) 51),
 oQ 2 (.mov (bK false))])
 (.seq (.reg false [oQ 3 (.fld (.t 1) 0),
 oQ 4 (.loadN (.t 3) 65),
 oQ 5 (.call 57 [.t 4]),
 mW 6 5,
 ⟨some 7, some (6, true), .fld (.t 1) 65⟩,
 ⟨some 8, some (6, true), .loadN (.t 7) 10⟩,
 ⟨some 9, some (6, true), .call 58 [.t 8]⟩,
 oQ 10 (.pick (.t 6) (.t 9) (bK false)),
 mW 11 10,
 ⟨some 12, some (11, true), .fld (.t 1) 75⟩,
 ⟨some 13, some (11, true), .loadN (.t 12) 65⟩,
 ⟨some 14, some (11, true), .call 59 [.t 13]⟩,
 oQ 15 (.pick (.t 11) (.t 14) (bK false)),
 mW 16 15,
 ⟨some 17, some (16, true), .fld (.t 1) 140⟩,
 ⟨some 18, some (16, true), .load1 (.t 17)⟩,
 ⟨some 19, some (16, true), .call 60 [.t 18]⟩,
 oQ 20 (.pick (.t 16) (.t 19) (bK false)),
 mW 2 20])
 (.ret (some [2]))))⟩
theorem c_spec_SpaceOk_ok : trF Tryz.prog ⟨[], [2], false, false⟩ Tryz.f35 = some c_spec_SpaceOk := by kernel_rfl
def c_spec_l1In : IFn := ⟨15, [.t 6],
  (.seq (.reg false [oQ 6 (.mov (bK false))])
 (.seq (.reg false [mW 7 0,
 mW 8 1,
 oQ 9 (.bin .geq (.t 7) (.t 8)),
 mW 10 9,
 ⟨some 11, some (10, true), .mov (.t 0)⟩,
 ⟨some 12, some (10, true), .mov (.t 2)⟩,
 ⟨some 13, some (10, true), .bin .leq (.t 11) (.t 12)⟩,
 oQ 14 (.pick (.t 10) (.t 13) (bK false)),
 mW 6 14])
 (.ret (some [6]))))⟩
theorem c_spec_l1In_ok : trF Tryz.prog ⟨[], [6], false, false⟩ Tryz.f36 = some c_spec_l1In := by kernel_rfl
def c_spec_l1Value : IFn := ⟨5, [.t 2],
  (.seq (.reg false [oQ 2 (.mov (bK false))])
 (.seq (.reg false [mW 3 0,
 oQ 4 (.call 36 [.t 3, .k (.c (.int .i64 (-1000000000))), .k (.c (.int .i64 1000000000))]),
 mW 2 4])
 (.ret (some [2]))))⟩
theorem c_spec_l1Value_ok : trF Tryz.prog ⟨[], [2], false, false⟩ Tryz.f37 = some c_spec_l1Value := by kernel_rfl
def c_spec_l17Deed : IFn := ⟨176, [.cell 4 141 true, .cell 5 2 true],
  (.seq (.reg false [oQ 2 (.box (.t 0) 51),
 oQ 3 (.box (.t 1) 57),
 oQ 4 (.alloc Z141 51),
 oQ 5 (.alloc [.int .i64 0, .int .i64 0] 53)])
 (.seq (.seq (.reg false [oQ 28 (.fld (.t 3) 0),
 oQ 29 (.load1 (.t 28))])
 (.block 0 none none
 (.seq (.reg false [oQ 31 (.bin .eql (.t 29) (iK 1)),
 mW 30 31])
 (.cond (.t 30) (.seq (.reg false [oQ 33 (.fld (.t 2) 0),
 oQ 34 (.loadN (.t 33) 65),
 oQ 35 (.fld (.t 3) 1),
 oQ 36 (.load1 (.t 35)),
 oQ 37 (.fld (.t 3) 2),
 oQ 38 (.load1 (.t 37)),
 oQ 39 (.call 61 [.t 34, .t 36, .t 38]),
 mW 32 39,
 oQ 40 (.ext (.t 32) 0),
 oQ 41 (.ext (.t 32) 1),
 oQ 42 (.ext (.t 32) 2),
 oQ 6 (.alloc Z65 44),
 nQ (.store (.t 6) (.t 40) 65),
 mW 7 41,
 mW 8 42])
 (.seq (.reg false [oQ 43 (.loadN (.t 6) 65),
 oQ 44 (.fld (.t 2) 0),
 nQ (.store (.t 44) (.t 43) 65)])
 (.seq (.regE 0 [⟨oQ 45 (.loadN (.t 2) 141), 0, 0, false, []⟩,
 ⟨mW 46 8, 1, 0, false, []⟩,
 ⟨oQ 47 (.call 62 [.t 46]), 2, 0, false, [0]⟩,
 ⟨oQ 48 (.bld [.int .i64 0, .int .i64 0] [(0, (1, .t 47))]), 3, 0, false, []⟩,
 ⟨nQ (.store (.t 4) (.t 45) 141), 4, 0, false, []⟩,
 ⟨nQ (.store (.t 5) (.t 48) 2), 5, 0, false, []⟩])
 (.ret (some [4, 5]))))) (.seq (.reg false [oQ 50 (.bin .eql (.t 29) (iK 2)),
 mW 49 50])
 (.cond (.t 49) (.seq (.reg false [oQ 52 (.fld (.t 2) 0),
 oQ 53 (.loadN (.t 52) 65),
 oQ 54 (.fld (.t 3) 1),
 oQ 55 (.load1 (.t 54)),
 oQ 56 (.call 63 [.t 53, .t 55]),
 mW 51 56,
 oQ 57 (.ext (.t 51) 0),
 oQ 58 (.ext (.t 51) 1),
 oQ 59 (.ext (.t 51) 2),
 oQ 9 (.alloc Z65 44),
 nQ (.store (.t 9) (.t 57) 65),
 mW 10 58,
 mW 11 59])
 (.seq (.reg false [oQ 60 (.loadN (.t 9) 65),
 oQ 61 (.fld (.t 2) 0),
 nQ (.store (.t 61) (.t 60) 65)])
 (.seq (.regE 0 [⟨oQ 62 (.loadN (.t 2) 141), 0, 0, false, []⟩,
 ⟨mW 63 11, 1, 0, false, []⟩,
 ⟨oQ 64 (.call 62 [.t 63]), 2, 0, false, [0]⟩,
 ⟨oQ 65 (.bld [.int .i64 0, .int .i64 0] [(0, (1, .t 64))]), 3, 0, false, []⟩,
 ⟨nQ (.store (.t 4) (.t 62) 141), 4, 0, false, []⟩,
 ⟨nQ (.store (.t 5) (.t 65) 2), 5, 0, false, []⟩])
 (.ret (some [4, 5]))))) (.seq (.reg false [oQ 67 (.bin .eql (.t 29) (iK 3)),
 mW 66 67])
 (.cond (.t 66) (.seq (.reg false [oQ 69 (.fld (.t 2) 0),
 oQ 70 (.loadN (.t 69) 65),
 oQ 71 (.fld (.t 3) 1),
 oQ 72 (.load1 (.t 71)),
 oQ 73 (.call 64 [.t 70, .t 72]),
 mW 68 73,
 oQ 74 (.ext (.t 68) 0),
 oQ 75 (.ext (.t 68) 1),
 oQ 76 (.ext (.t 68) 2),
 mW 12 74,
 mW 13 75,
 mW 14 76])
 (.seq (.regE 0 [⟨oQ 77 (.loadN (.t 2) 141), 0, 0, false, []⟩,
 ⟨mW 78 14, 1, 0, false, []⟩,
 ⟨oQ 79 (.call 62 [.t 78]), 2, 0, false, [0]⟩,
 ⟨mW 80 12, 3, 0, false, []⟩,
 ⟨oQ 81 (.bld [.int .i64 0, .int .i64 0] [(0, (1, .t 79)), (1, (1, .t 80))]), 4, 0, false, []⟩,
 ⟨nQ (.store (.t 4) (.t 77) 141), 5, 0, false, []⟩,
 ⟨nQ (.store (.t 5) (.t 81) 2), 6, 0, false, []⟩])
 (.ret (some [4, 5])))) (.seq (.reg false [oQ 83 (.bin .eql (.t 29) (iK 4)),
 mW 82 83])
 (.cond (.t 82) (.seq (.reg false [oQ 85 (.fld (.t 2) 65),
 oQ 86 (.loadN (.t 85) 10),
 oQ 87 (.fld (.t 3) 1),
 oQ 88 (.load1 (.t 87)),
 oQ 89 (.call 65 [.t 86, .t 88]),
 mW 84 89,
 oQ 90 (.ext (.t 84) 0),
 oQ 91 (.ext (.t 84) 1),
 oQ 15 (.alloc [.int .i64 0, .int .i64 0, .int .i64 0, .int .i64 0, .int .i64 0, .int .i64 0, .int .i64 0, .int .i64 0, .int .i64 0, .int .i64 0] 45),
 nQ (.store (.t 15) (.t 90) 10),
 mW 16 91])
 (.seq (.reg false [oQ 92 (.loadN (.t 15) 10),
 oQ 93 (.fld (.t 2) 65),
 nQ (.store (.t 93) (.t 92) 10)])
 (.seq (.regE 0 [⟨oQ 94 (.loadN (.t 2) 141), 0, 0, false, []⟩,
 ⟨mW 95 16, 1, 0, false, []⟩,
 ⟨oQ 96 (.call 66 [.t 95]), 2, 0, false, [0]⟩,
 ⟨oQ 97 (.bld [.int .i64 0, .int .i64 0] [(0, (1, .t 96))]), 3, 0, false, []⟩,
 ⟨nQ (.store (.t 4) (.t 94) 141), 4, 0, false, []⟩,
 ⟨nQ (.store (.t 5) (.t 97) 2), 5, 0, false, []⟩])
 (.ret (some [4, 5]))))) (.seq (.reg false [oQ 99 (.bin .eql (.t 29) (iK 5)),
 mW 98 99])
 (.cond (.t 98) (.seq (.reg false [oQ 101 (.fld (.t 2) 65),
 oQ 102 (.loadN (.t 101) 10),
 oQ 103 (.call 67 [.t 102]),
 mW 100 103,
 oQ 104 (.ext (.t 100) 0),
 oQ 105 (.ext (.t 100) 1),
 oQ 106 (.ext (.t 100) 2),
 oQ 17 (.alloc [.int .i64 0, .int .i64 0, .int .i64 0, .int .i64 0, .int .i64 0, .int .i64 0, .int .i64 0, .int .i64 0, .int .i64 0, .int .i64 0] 45),
 nQ (.store (.t 17) (.t 104) 10),
 mW 18 105,
 mW 19 106])
 (.seq (.reg false [oQ 107 (.loadN (.t 17) 10),
 oQ 108 (.fld (.t 2) 65),
 nQ (.store (.t 108) (.t 107) 10)])
 (.seq (.regE 0 [⟨oQ 109 (.loadN (.t 2) 141), 0, 0, false, []⟩,
 ⟨mW 110 19, 1, 0, false, []⟩,
 ⟨oQ 111 (.call 66 [.t 110]), 2, 0, false, [0]⟩,
 ⟨mW 112 18, 3, 0, false, []⟩,
 ⟨oQ 113 (.bld [.int .i64 0, .int .i64 0] [(0, (1, .t 111)), (1, (1, .t 112))]), 4, 0, false, []⟩,
 ⟨nQ (.store (.t 4) (.t 109) 141), 5, 0, false, []⟩,
 ⟨nQ (.store (.t 5) (.t 113) 2), 6, 0, false, []⟩])
 (.ret (some [4, 5]))))) (.seq (.reg false [oQ 115 (.bin .eql (.t 29) (iK 6)),
 mW 114 115])
 (.cond (.t 114) (.seq (.reg false [oQ 117 (.fld (.t 2) 75),
 oQ 118 (.loadN (.t 117) 65),
 oQ 119 (.fld (.t 3) 1),
 oQ 120 (.load1 (.t 119)),
 oQ 121 (.call 68 [.t 118, .t 120]),
 mW 116 121,
 oQ 122 (.ext (.t 116) 0),
 oQ 123 (.ext (.t 116) 1),
 oQ 20 (.alloc Z65 49),
 nQ (.store (.t 20) (.t 122) 65),
 mW 21 123])
 (.seq (.reg false [oQ 124 (.loadN (.t 20) 65),
 oQ 125 (.fld (.t 2) 75),
 nQ (.store (.t 125) (.t 124) 65)])
 (.seq (.regE 0 [⟨oQ 126 (.loadN (.t 2) 141), 0, 0, false, []⟩,
 ⟨mW 127 21, 1, 0, false, []⟩,
 ⟨oQ 128 (.call 69 [.t 127]), 2, 0, false, [0]⟩,
 ⟨oQ 129 (.bld [.int .i64 0, .int .i64 0] [(0, (1, .t 128))]), 3, 0, false, []⟩,
 ⟨nQ (.store (.t 4) (.t 126) 141), 4, 0, false, []⟩,
 ⟨nQ (.store (.t 5) (.t 129) 2), 5, 0, false, []⟩])
 (.ret (some [4, 5]))))) (.seq (.reg false [oQ 131 (.bin .eql (.t 29) (iK 7)),
 mW 130 131])
 (.cond (.t 130) (.seq (.reg false [oQ 133 (.fld (.t 2) 75),
 oQ 134 (.loadN (.t 133) 65),
 oQ 135 (.fld (.t 3) 1),
 oQ 136 (.load1 (.t 135)),
 oQ 137 (.call 70 [.t 134, .t 136]),
 mW 132 137,
 oQ 138 (.ext (.t 132) 0),
 oQ 139 (.ext (.t 132) 1),
 oQ 22 (.alloc Z65 49),
 nQ (.store (.t 22) (.t 138) 65),
 mW 23 139])
 (.seq (.reg false [oQ 140 (.loadN (.t 22) 65),
 oQ 141 (.fld (.t 2) 75),
 nQ (.store (.t 141) (.t 140) 65)])
 (.seq (.regE 0 [⟨oQ 142 (.loadN (.t 2) 141), 0, 0, false, []⟩,
 ⟨mW 143 23, 1, 0, false, []⟩,
 ⟨oQ 144 (.call 69 [.t 143]), 2, 0, false, [0]⟩,
 ⟨oQ 145 (.bld [.int .i64 0, .int .i64 0] [(0, (1, .t 144))]), 3, 0, false, []⟩,
 ⟨nQ (.store (.t 4) (.t 142) 141), 4, 0, false, []⟩,
 ⟨nQ (.store (.t 5) (.t 145) 2), 5, 0, false, []⟩])
 (.ret (some [4, 5]))))) (.seq (.reg false [oQ 147 (.bin .eql (.t 29) (iK 8)),
 mW 146 147])
 (.cond (.t 146) (.seq (.reg false [oQ 149 (.fld (.t 2) 140),
 oQ 150 (.load1 (.t 149)),
 oQ 151 (.fld (.t 3) 1),
 oQ 152 (.load1 (.t 151)),
 oQ 153 (.call 71 [.t 150, .t 152]),
 mW 148 153,
 oQ 154 (.ext (.t 148) 0),
 oQ 155 (.ext (.t 148) 1),
 mW 24 154,
 mW 25 155])
 (.seq (.reg false [mW 156 24,
 oQ 157 (.fld (.t 2) 140),
 nQ (.store (.t 157) (.t 156) 1)])
 (.seq (.regE 0 [⟨oQ 158 (.loadN (.t 2) 141), 0, 0, false, []⟩,
 ⟨mW 159 25, 1, 0, false, []⟩,
 ⟨oQ 160 (.call 72 [.t 159]), 2, 0, false, [0]⟩,
 ⟨oQ 161 (.bld [.int .i64 0, .int .i64 0] [(0, (1, .t 160))]), 3, 0, false, []⟩,
 ⟨nQ (.store (.t 4) (.t 158) 141), 4, 0, false, []⟩,
 ⟨nQ (.store (.t 5) (.t 161) 2), 5, 0, false, []⟩])
 (.ret (some [4, 5]))))) .skip))))))))))))))))))
 (.seq (.reg false [oQ 163 (.fld (.t 2) 140),
 oQ 164 (.load1 (.t 163)),
 oQ 165 (.fld (.t 3) 1),
 oQ 166 (.load1 (.t 165)),
 oQ 167 (.call 73 [.t 164, .t 166]),
 mW 162 167,
 oQ 168 (.ext (.t 162) 0),
 oQ 169 (.ext (.t 162) 1),
 mW 26 168,
 mW 27 169])
 (.seq (.reg false [mW 170 26,
 oQ 171 (.fld (.t 2) 140),
 nQ (.store (.t 171) (.t 170) 1)])
 (.seq (.regE 0 [⟨oQ 172 (.loadN (.t 2) 141), 0, 0, false, []⟩,
 ⟨mW 173 27, 1, 0, false, []⟩,
 ⟨oQ 174 (.call 72 [.t 173]), 2, 0, false, [0]⟩,
 ⟨oQ 175 (.bld [.int .i64 0, .int .i64 0] [(0, (1, .t 174))]), 3, 0, false, []⟩,
 ⟨nQ (.store (.t 4) (.t 172) 141), 4, 0, false, []⟩,
 ⟨nQ (.store (.t 5) (.t 175) 2), 5, 0, false, []⟩])
 (.ret (some [4, 5])))))))⟩
theorem c_spec_l17Deed_ok : trF Tryz.prog ⟨[], [4, 5], false, false⟩ Tryz.f38 = some c_spec_l17Deed := by kernel_rfl
def c_laws_toChain : IFn := ⟨12, [.cell 2 65 true],
  (.seq (.reg false [oQ 1 (.box (.t 0) 26),
 oQ 2 (.alloc Z65 44)])
 (.seq (.reg false [oQ 3 (.alloc Z65 44)])
 (.seq (.reg false [oQ 4 (.fld (.t 1) 0),
 oQ 5 (.loadN (.t 4) 64),
 oQ 6 (.call 74 [.t 5]),
 oQ 7 (.fld (.t 3) 0),
 nQ (.store (.t 7) (.t 6) 64)])
 (.seq (.reg false [oQ 8 (.fld (.t 1) 64),
 oQ 9 (.load1 (.t 8)),
 oQ 10 (.fld (.t 3) 64),
 nQ (.store (.t 10) (.t 9) 1)])
 (.seq (.reg false [oQ 11 (.loadN (.t 3) 65),
 nQ (.store (.t 2) (.t 11) 65)])
 (.ret (some [2])))))))⟩
theorem c_laws_toChain_ok : trF Tryz.prog ⟨[], [2], false, false⟩ Tryz.f39 = some c_laws_toChain := by kernel_rfl
def c_laws_toRing : IFn := ⟨15, [.cell 2 10 true],
  (.seq (.reg false [oQ 1 (.box (.t 0) 29),
 oQ 2 (.alloc [.int .i64 0, .int .i64 0, .int .i64 0, .int .i64 0, .int .i64 0, .int .i64 0, .int .i64 0, .int .i64 0, .int .i64 0, .int .i64 0] 45)])
 (.seq (.reg false [oQ 3 (.alloc [.int .i64 0, .int .i64 0, .int .i64 0, .int .i64 0, .int .i64 0, .int .i64 0, .int .i64 0, .int .i64 0, .int .i64 0, .int .i64 0] 45)])
 (.seq (.reg false [oQ 4 (.fld (.t 1) 0),
 oQ 5 (.loadN (.t 4) 8),
 oQ 6 (.call 75 [.t 5]),
 oQ 7 (.fld (.t 3) 0),
 nQ (.store (.t 7) (.t 6) 8)])
 (.seq (.reg false [oQ 8 (.fld (.t 1) 8),
 oQ 9 (.load1 (.t 8)),
 oQ 10 (.fld (.t 3) 8),
 nQ (.store (.t 10) (.t 9) 1)])
 (.seq (.reg false [oQ 11 (.fld (.t 1) 9),
 oQ 12 (.load1 (.t 11)),
 oQ 13 (.fld (.t 3) 9),
 nQ (.store (.t 13) (.t 12) 1)])
 (.seq (.reg false [oQ 14 (.loadN (.t 3) 10),
 nQ (.store (.t 2) (.t 14) 10)])
 (.ret (some [2]))))))))⟩
theorem c_laws_toRing_ok : trF Tryz.prog ⟨[], [2], false, false⟩ Tryz.f40 = some c_laws_toRing := by kernel_rfl
def c_laws_toTree : IFn := ⟨12, [.cell 2 65 true],
  (.seq (.reg false [oQ 1 (.box (.t 0) 34),
 oQ 2 (.alloc Z65 49)])
 (.seq (.reg false [oQ 3 (.alloc Z65 49)])
 (.seq (.reg false [oQ 4 (.fld (.t 1) 0),
 oQ 5 (.loadN (.t 4) 64),
 oQ 6 (.call 76 [.t 5]),
 oQ 7 (.fld (.t 3) 0),
 nQ (.store (.t 7) (.t 6) 64)])
 (.seq (.reg false [oQ 8 (.fld (.t 1) 64),
 oQ 9 (.load1 (.t 8)),
 oQ 10 (.fld (.t 3) 64),
 nQ (.store (.t 10) (.t 9) 1)])
 (.seq (.reg false [oQ 11 (.loadN (.t 3) 65),
 nQ (.store (.t 2) (.t 11) 65)])
 (.ret (some [2])))))))⟩
theorem c_laws_toTree_ok : trF Tryz.prog ⟨[], [2], false, false⟩ Tryz.f41 = some c_laws_toTree := by kernel_rfl
def c_laws_toIntSS_b0 : IC :=
  (.seq (.seq (.reg false [mW 8 4,
 mW 9 0,
 oQ 10 (.len (.t 9)),
 oQ 11 (.bin .lss (.t 8) (.t 10))])
 (.cond (.t 11) .skip (.exit 0)))
 (.seq (.block 1 none none
 (.reg false [mW 14 3,
 mW 15 4,
 mW 16 0,
 mW 17 4,
 oQ 18 (.ixs (.t 16) (.t 17) 1),
 oQ 19 (.load1 (.t 18)),
 oQ 20 (.call 77 [.t 19]),
 oQ 21 (.ixs (.t 14) (.t 15) 1),
 nQ (.store (.t 21) (.t 20) 1)]))
 (.reg false [mW 12 4,
 oQ 13 (.bin .add (.t 12) (iK 1)),
 mW 4 13])))
def c_laws_toIntSS : IFn := ⟨23, [.t 2],
  (.seq (.reg false [oQ 2 (.mov (.k (.c .nils)))])
 (.seq (.reg false [mW 5 0,
 oQ 6 (.len (.t 5)),
 oQ 7 (.mks (.t 6) [.nils] 103 24),
 mW 3 7])
 (.seq (.seq (.reg false [oQ 4 (.mov (iK 0))])
 (.block 0 (some [0, 3, 4]) (some [3])
 (.loop c_laws_toIntSS_b0)))
 (.seq (.reg false [mW 22 3,
 mW 2 22])
 (.ret (some [2]))))))⟩
theorem c_laws_toIntSS_ok : trF Tryz.prog ⟨[(0, [0, 3, 4], [3])], [2], false, false⟩ Tryz.f42 = some c_laws_toIntSS := by kernel_rfl
def c_impl_ownSpace : IFn := ⟨8, [.cell 2 141 true],
  (.seq (.reg false [oQ 1 (.box (.t 0) 51),
 oQ 2 (.alloc Z141 51)])
 (.seq (.reg false [oQ 3 (.fld (.t 1) 140),
 oQ 4 (.load1 (.t 3)),
 oQ 5 (.call 78 [.t 4]),
 oQ 6 (.fld (.t 1) 140),
 nQ (.store (.t 6) (.t 5) 1)])
 (.seq (.reg false [oQ 7 (.loadN (.t 1) 141),
 nQ (.store (.t 2) (.t 7) 141)])
 (.ret (some [2])))))⟩
theorem c_impl_ownSpace_ok : trF Tryz.prog ⟨[], [2], false, false⟩ Tryz.f43 = some c_impl_ownSpace := by kernel_rfl
def c_impl_SpaceOk : IFn := ⟨21, [.t 2],
  (.seq (.reg false [oQ 1 (.box (.t 0) 51),
 oQ 2 (.mov (bK false))])
 (.seq (.reg false [oQ 3 (.fld (.t 1) 0),
 oQ 4 (.loadN (.t 3) 65),
 oQ 5 (.call 79 [.t 4]),
 mW 6 5,
 ⟨some 7, some (6, true), .fld (.t 1) 65⟩,
 ⟨some 8, some (6, true), .loadN (.t 7) 10⟩,
 ⟨some 9, some (6, true), .call 80 [.t 8]⟩,
 oQ 10 (.pick (.t 6) (.t 9) (bK false)),
 mW 11 10,
 ⟨some 12, some (11, true), .fld (.t 1) 75⟩,
 ⟨some 13, some (11, true), .loadN (.t 12) 65⟩,
 ⟨some 14, some (11, true), .call 81 [.t 13]⟩,
 oQ 15 (.pick (.t 11) (.t 14) (bK false)),
 mW 16 15,
 ⟨some 17, some (16, true), .fld (.t 1) 140⟩,
 ⟨some 18, some (16, true), .load1 (.t 17)⟩,
 ⟨some 19, some (16, true), .call 82 [.t 18]⟩,
 oQ 20 (.pick (.t 16) (.t 19) (bK false)),
 mW 2 20])
 (.ret (some [2]))))⟩
theorem c_impl_SpaceOk_ok : trF Tryz.prog ⟨[], [2], false, false⟩ Tryz.f44 = some c_impl_SpaceOk := by kernel_rfl
def c_impl_in : IFn := ⟨15, [.t 6],
  (.seq (.reg false [oQ 6 (.mov (bK false))])
 (.seq (.reg false [mW 7 1,
 mW 8 0,
 oQ 9 (.bin .leq (.t 7) (.t 8)),
 mW 10 9,
 ⟨some 11, some (10, true), .mov (.t 0)⟩,
 ⟨some 12, some (10, true), .mov (.t 2)⟩,
 ⟨some 13, some (10, true), .bin .leq (.t 11) (.t 12)⟩,
 oQ 14 (.pick (.t 10) (.t 13) (bK false)),
 mW 6 14])
 (.ret (some [6]))))⟩
theorem c_impl_in_ok : trF Tryz.prog ⟨[], [6], false, false⟩ Tryz.f45 = some c_impl_in := by kernel_rfl
def c_impl_isValue : IFn := ⟨5, [.t 2],
  (.seq (.reg false [oQ 2 (.mov (bK false))])
 (.seq (.reg false [mW 3 0,
 oQ 4 (.call 45 [.t 3, .k (.c (.int .i64 (-1000000000))), .k (.c (.int .i64 1000000000))]),
 mW 2 4])
 (.ret (some [2]))))⟩
theorem c_impl_isValue_ok : trF Tryz.prog ⟨[], [2], false, false⟩ Tryz.f46 = some c_impl_isValue := by kernel_rfl
def c_impl_Space_deed : IFn := ⟨177, [.cell 4 2 true],
  (.seq (.reg false [oQ 3 (.box (.t 1) 57),
 oQ 4 (.alloc [.int .i64 0, .int .i64 0] 53)])
 (.seq (.reg false [oQ 5 (.mov (iK 0)),
 oQ 6 (.mov (iK 0))])
 (.seq (.seq (.reg false [oQ 7 (.fld (.t 3) 0),
 oQ 8 (.load1 (.t 7))])
 (.block 0 none none
 (.seq (.reg false [oQ 10 (.bin .eql (.t 8) (iK 1)),
 mW 9 10])
 (.cond (.t 9) (.regE 0 [⟨mW 12 0, 0, 0, false, []⟩,
 ⟨mW 13 0, 1, 0, false, []⟩,
 ⟨oQ 14 (.chk (.t 13)), 2, 0, false, []⟩,
 ⟨oQ 15 (.fld (.t 14) 0), 3, 0, false, []⟩,
 ⟨oQ 16 (.loadN (.t 15) 65), 4, 0, false, []⟩,
 ⟨oQ 17 (.fld (.t 3) 1), 5, 0, false, []⟩,
 ⟨oQ 18 (.load1 (.t 17)), 6, 0, false, []⟩,
 ⟨oQ 19 (.fld (.t 3) 2), 7, 0, false, []⟩,
 ⟨oQ 20 (.load1 (.t 19)), 8, 0, false, []⟩,
 ⟨oQ 21 (.call 83 [.t 16, .t 18, .t 20]), 9, 0, false, []⟩,
 ⟨mW 11 21, 10, 0, false, []⟩,
 ⟨oQ 22 (.ext (.t 11) 0), 11, 0, false, []⟩,
 ⟨oQ 23 (.ext (.t 11) 1), 12, 0, false, []⟩,
 ⟨oQ 24 (.ext (.t 11) 2), 13, 0, false, []⟩,
 ⟨oQ 25 (.chk (.t 12)), 14, 0, false, []⟩,
 ⟨oQ 26 (.fld (.t 25) 0), 15, 0, false, []⟩,
 ⟨nQ (.store (.t 26) (.t 22) 65), 16, 0, false, []⟩,
 ⟨mW 5 24, 17, 0, false, []⟩]) (.seq (.reg false [oQ 28 (.bin .eql (.t 8) (iK 2)),
 mW 27 28])
 (.cond (.t 27) (.regE 0 [⟨mW 30 0, 0, 0, false, []⟩,
 ⟨mW 31 0, 1, 0, false, []⟩,
 ⟨oQ 32 (.chk (.t 31)), 2, 0, false, []⟩,
 ⟨oQ 33 (.fld (.t 32) 0), 3, 0, false, []⟩,
 ⟨oQ 34 (.loadN (.t 33) 65), 4, 0, false, []⟩,
 ⟨oQ 35 (.fld (.t 3) 1), 5, 0, false, []⟩,
 ⟨oQ 36 (.load1 (.t 35)), 6, 0, false, []⟩,
 ⟨oQ 37 (.call 84 [.t 34, .t 36]), 7, 0, false, []⟩,
 ⟨mW 29 37, 8, 0, false, []⟩,
 ⟨oQ 38 (.ext (.t 29) 0), 9, 0, false, []⟩,
 ⟨oQ 39 (.ext (.t 29) 1), 10, 0, false, []⟩,
 ⟨oQ 40 (.ext (.t 29) 2), 11, 0, false, []⟩,
 ⟨oQ 41 (.chk (.t 30)), 12, 0, false, []⟩,
 ⟨oQ 42 (.fld (.t 41) 0), 13, 0, false, []⟩,
 ⟨nQ (.store (.t 42) (.t 38) 65), 14, 0, false, []⟩,
 ⟨mW 5 40, 15, 0, false, []⟩]) (.seq (.reg false [oQ 44 (.bin .eql (.t 8) (iK 3)),
 mW 43 44])
 (.cond (.t 43) (.reg true [mW 46 0,
 oQ 47 (.chk (.t 46)),
 oQ 48 (.fld (.t 47) 0),
 oQ 49 (.loadN (.t 48) 65),
 oQ 50 (.fld (.t 3) 1),
 oQ 51 (.load1 (.t 50)),
 oQ 52 (.call 85 [.t 49, .t 51]),
 mW 45 52,
 oQ 53 (.ext (.t 45) 0),
 oQ 54 (.ext (.t 45) 1),
 oQ 55 (.ext (.t 45) 2),
 mW 6 53,
 mW 5 55]) (.seq (.reg false [oQ 57 (.bin .eql (.t 8) (iK 4)),
 mW 56 57])
 (.cond (.t 56) (.regE 0 [⟨mW 59 0, 0, 0, false, []⟩,
 ⟨mW 60 0, 1, 0, false, []⟩,
 ⟨oQ 61 (.chk (.t 60)), 2, 0, false, []⟩,
 ⟨oQ 62 (.fld (.t 61) 65), 3, 0, false, []⟩,
 ⟨oQ 63 (.loadN (.t 62) 10), 4, 0, false, []⟩,
 ⟨oQ 64 (.fld (.t 3) 1), 5, 0, false, []⟩,
 ⟨oQ 65 (.load1 (.t 64)), 6, 0, false, []⟩,
 ⟨oQ 66 (.call 86 [.t 63, .t 65]), 7, 0, false, []⟩,
 ⟨mW 58 66, 8, 0, false, []⟩,
 ⟨oQ 67 (.ext (.t 58) 0), 9, 0, false, []⟩,
 ⟨oQ 68 (.ext (.t 58) 1), 10, 0, false, []⟩,
 ⟨oQ 69 (.chk (.t 59)), 11, 0, false, []⟩,
 ⟨oQ 70 (.fld (.t 69) 65), 12, 0, false, []⟩,
 ⟨nQ (.store (.t 70) (.t 67) 10), 13, 0, false, []⟩,
 ⟨mW 5 68, 14, 0, false, []⟩]) (.seq (.reg false [oQ 72 (.bin .eql (.t 8) (iK 5)),
 mW 71 72])
 (.cond (.t 71) (.reg false [mW 74 0,
 mW 75 0,
 oQ 76 (.chk (.t 75)),
 oQ 77 (.fld (.t 76) 65),
 oQ 78 (.loadN (.t 77) 10),
 oQ 79 (.call 87 [.t 78]),
 mW 73 79,
 oQ 80 (.ext (.t 73) 0),
 oQ 81 (.ext (.t 73) 1),
 oQ 82 (.ext (.t 73) 2),
 oQ 83 (.chk (.t 74)),
 oQ 84 (.fld (.t 83) 65),
 nQ (.store (.t 84) (.t 80) 10),
 mW 6 81,
 mW 5 82]) (.seq (.reg false [oQ 86 (.bin .eql (.t 8) (iK 6)),
 mW 85 86])
 (.cond (.t 85) (.regE 0 [⟨mW 88 0, 0, 0, false, []⟩,
 ⟨mW 89 0, 1, 0, false, []⟩,
 ⟨oQ 90 (.chk (.t 89)), 2, 0, false, []⟩,
 ⟨oQ 91 (.fld (.t 90) 75), 3, 0, false, []⟩,
 ⟨oQ 92 (.loadN (.t 91) 65), 4, 0, false, []⟩,
 ⟨oQ 93 (.fld (.t 3) 1), 5, 0, false, []⟩,
 ⟨oQ 94 (.load1 (.t 93)), 6, 0, false, []⟩,
 ⟨oQ 95 (.call 88 [.t 92, .t 94]), 7, 0, false, []⟩,
 ⟨mW 87 95, 8, 0, false, []⟩,
 ⟨oQ 96 (.ext (.t 87) 0), 9, 0, false, []⟩,
 ⟨oQ 97 (.ext (.t 87) 1), 10, 0, false, []⟩,
 ⟨oQ 98 (.chk (.t 88)), 11, 0, false, []⟩,
 ⟨oQ 99 (.fld (.t 98) 75), 12, 0, false, []⟩,
 ⟨nQ (.store (.t 99) (.t 96) 65), 13, 0, false, []⟩,
 ⟨mW 5 97, 14, 0, false, []⟩]) (.seq (.reg false [oQ 101 (.bin .eql (.t 8) (iK 7)),
 mW 100 101])
 (.cond (.t 100) (.regE 0 [⟨mW 103 0, 0, 0, false, []⟩,
 ⟨mW 104 0, 1, 0, false, []⟩,
 ⟨oQ 105 (.chk (.t 104)), 2, 0, false, []⟩,
 ⟨oQ 106 (.fld (.t 105) 75), 3, 0, false, []⟩,
 ⟨oQ 107 (.loadN (.t 106) 65), 4, 0, false, []⟩,
 ⟨oQ 108 (.fld (.t 3) 1), 5, 0, false, []⟩,
 ⟨oQ 109 (.load1 (.t 108)), 6, 0, false, []⟩,
 ⟨oQ 110 (.call 89 [.t 107, .t 109]), 7, 0, false, []⟩,
 ⟨mW 102 110, 8, 0, false, []⟩,
 ⟨oQ 111 (.ext (.t 102) 0), 9, 0, false, []⟩,
 ⟨oQ 112 (.ext (.t 102) 1), 10, 0, false, []⟩,
 ⟨oQ 113 (.chk (.t 103)), 11, 0, false, []⟩,
 ⟨oQ 114 (.fld (.t 113) 75), 12, 0, false, []⟩,
 ⟨nQ (.store (.t 114) (.t 111) 65), 13, 0, false, []⟩,
 ⟨mW 5 112, 14, 0, false, []⟩]) (.seq (.reg false [oQ 116 (.bin .eql (.t 8) (iK 8)),
 mW 115 116])
 (.cond (.t 115) (.regE 0 [⟨mW 118 0, 0, 0, false, []⟩,
 ⟨mW 119 0, 1, 0, false, []⟩,
 ⟨oQ 120 (.chk (.t 119)), 2, 0, false, []⟩,
 ⟨oQ 121 (.fld (.t 120) 140), 3, 0, false, []⟩,
 ⟨oQ 122 (.load1 (.t 121)), 4, 0, false, []⟩,
 ⟨oQ 123 (.fld (.t 3) 1), 5, 0, false, []⟩,
 ⟨oQ 124 (.load1 (.t 123)), 6, 0, false, []⟩,
 ⟨oQ 125 (.call 90 [.t 122, .t 124]), 7, 0, false, []⟩,
 ⟨mW 117 125, 8, 0, false, []⟩,
 ⟨oQ 126 (.ext (.t 117) 0), 9, 0, false, []⟩,
 ⟨oQ 127 (.ext (.t 117) 1), 10, 0, false, []⟩,
 ⟨oQ 128 (.chk (.t 118)), 11, 0, false, []⟩,
 ⟨oQ 129 (.fld (.t 128) 140), 12, 0, false, []⟩,
 ⟨nQ (.store (.t 129) (.t 126) 1), 13, 0, false, []⟩,
 ⟨mW 5 127, 14, 0, false, []⟩]) (.seq (.reg false [oQ 131 (.bin .eql (.t 8) (iK 9)),
 mW 130 131])
 (.cond (.t 130) (.regE 0 [⟨mW 133 0, 0, 0, false, []⟩,
 ⟨mW 134 0, 1, 0, false, []⟩,
 ⟨oQ 135 (.chk (.t 134)), 2, 0, false, []⟩,
 ⟨oQ 136 (.fld (.t 135) 140), 3, 0, false, []⟩,
 ⟨oQ 137 (.load1 (.t 136)), 4, 0, false, []⟩,
 ⟨oQ 138 (.fld (.t 3) 1), 5, 0, false, []⟩,
 ⟨oQ 139 (.load1 (.t 138)), 6, 0, false, []⟩,
 ⟨oQ 140 (.call 91 [.t 137, .t 139]), 7, 0, false, []⟩,
 ⟨mW 132 140, 8, 0, false, []⟩,
 ⟨oQ 141 (.ext (.t 132) 0), 9, 0, false, []⟩,
 ⟨oQ 142 (.ext (.t 132) 1), 10, 0, false, []⟩,
 ⟨oQ 143 (.chk (.t 133)), 11, 0, false, []⟩,
 ⟨oQ 144 (.fld (.t 143) 140), 12, 0, false, []⟩,
 ⟨nQ (.store (.t 144) (.t 141) 1), 13, 0, false, []⟩,
 ⟨mW 5 142, 14, 0, false, []⟩]) .skip))))))))))))))))))))
 (.seq (.block 1 none none
 (.seq (.reg false [oQ 146 (.fld (.t 3) 0),
 oQ 147 (.load1 (.t 146)),
 oQ 148 (.bin .leq (.t 147) (iK 3)),
 mW 145 148])
 (.cond (.t 145) (.seq (.reg false [mW 149 5,
 oQ 150 (.lit 1 1 [.int .i64 0] [(0, .k (.c (.int .i64 4)))] 3),
 oQ 151 (.call 92 [.t 149, .t 150, .k (.c (.int .i64 2)), .k (.c (.int .i64 3))]),
 mW 152 6,
 oQ 153 (.bld [.int .i64 0, .int .i64 0] [(0, (1, .t 151)), (1, (1, .t 152))]),
 nQ (.store (.t 4) (.t 153) 2)])
 (.ret (some [4]))) (.seq (.reg false [oQ 155 (.fld (.t 3) 0),
 oQ 156 (.load1 (.t 155)),
 oQ 157 (.bin .leq (.t 156) (iK 5)),
 mW 154 157])
 (.cond (.t 154) (.seq (.reg false [mW 158 5,
 oQ 159 (.lit 1 1 [.int .i64 0] [(0, .k (.c (.int .i64 3)))] 3),
 oQ 160 (.call 92 [.t 158, .t 159, .k (.c (.int .i64 (-1))), .k (.c (.int .i64 2))]),
 mW 161 6,
 oQ 162 (.bld [.int .i64 0, .int .i64 0] [(0, (1, .t 160)), (1, (1, .t 161))]),
 nQ (.store (.t 4) (.t 162) 2)])
 (.ret (some [4]))) (.seq (.reg false [oQ 164 (.fld (.t 3) 0),
 oQ 165 (.load1 (.t 164)),
 oQ 166 (.bin .leq (.t 165) (iK 7)),
 mW 163 166])
 (.cond (.t 163) (.seq (.reg false [mW 167 5,
 oQ 168 (.lit 2 1 [.int .i64 0] [(0, .k (.c (.int .i64 4))), (1, .k (.c (.int .i64 5)))] 3),
 oQ 169 (.call 92 [.t 167, .t 168, .k (.c (.int .i64 2)), .k (.c (.int .i64 3))]),
 mW 170 6,
 oQ 171 (.bld [.int .i64 0, .int .i64 0] [(0, (1, .t 169)), (1, (1, .t 170))]),
 nQ (.store (.t 4) (.t 171) 2)])
 (.ret (some [4]))) .skip)))))))
 (.seq (.reg false [mW 172 5,
 oQ 173 (.lit 2 1 [.int .i64 0] [(0, .k (.c (.int .i64 2))), (1, .k (.c (.int .i64 4)))] 3),
 oQ 174 (.call 92 [.t 172, .t 173, .k (.c (.int .i64 (-1))), .k (.c (.int .i64 3))]),
 mW 175 6,
 oQ 176 (.bld [.int .i64 0, .int .i64 0] [(0, (1, .t 174)), (1, (1, .t 175))]),
 nQ (.store (.t 4) (.t 176) 2)])
 (.ret (some [4])))))))⟩
theorem c_impl_Space_deed_ok : trF Tryz.prog ⟨[], [4], false, false⟩ Tryz.f47 = some c_impl_Space_deed := by kernel_rfl
def c_laws_eqChain : IFn := ⟨16, [.t 4],
  (.seq (.reg false [oQ 2 (.box (.t 0) 44),
 oQ 3 (.box (.t 1) 44),
 oQ 4 (.mov (bK false))])
 (.seq (.seq (.reg false [oQ 5 (.fld (.t 2) 0),
 oQ 6 (.loadN (.t 5) 64),
 oQ 7 (.fld (.t 3) 0),
 oQ 8 (.loadN (.t 7) 64),
 oQ 9 (.call 93 [.t 6, .t 8]),
 oQ 10 (.un .not (.t 9))])
 (.cond (.t 10) (.seq (.reg false [oQ 4 (.mov (bK false))])
 (.ret (some [4]))) .skip))
 (.seq (.seq (.reg false [oQ 11 (.fld (.t 2) 64),
 oQ 12 (.load1 (.t 11)),
 oQ 13 (.fld (.t 3) 64),
 oQ 14 (.load1 (.t 13)),
 oQ 15 (.bin .neq (.t 12) (.t 14))])
 (.cond (.t 15) (.seq (.reg false [oQ 4 (.mov (bK false))])
 (.ret (some [4]))) .skip))
 (.seq (.reg false [oQ 4 (.mov (bK true))])
 (.ret (some [4]))))))⟩
theorem c_laws_eqChain_ok : trF Tryz.prog ⟨[], [4], false, false⟩ Tryz.f48 = some c_laws_eqChain := by kernel_rfl
def c_laws_eqRing : IFn := ⟨21, [.t 4],
  (.seq (.reg false [oQ 2 (.box (.t 0) 45),
 oQ 3 (.box (.t 1) 45),
 oQ 4 (.mov (bK false))])
 (.seq (.seq (.reg false [oQ 5 (.fld (.t 2) 0),
 oQ 6 (.loadN (.t 5) 8),
 oQ 7 (.fld (.t 3) 0),
 oQ 8 (.loadN (.t 7) 8),
 oQ 9 (.call 94 [.t 6, .t 8]),
 oQ 10 (.un .not (.t 9))])
 (.cond (.t 10) (.seq (.reg false [oQ 4 (.mov (bK false))])
 (.ret (some [4]))) .skip))
 (.seq (.seq (.reg false [oQ 11 (.fld (.t 2) 8),
 oQ 12 (.load1 (.t 11)),
 oQ 13 (.fld (.t 3) 8),
 oQ 14 (.load1 (.t 13)),
 oQ 15 (.bin .neq (.t 12) (.t 14))])
 (.cond (.t 15) (.seq (.reg false [oQ 4 (.mov (bK false))])
 (.ret (some [4]))) .skip))
 (.seq (.seq (.reg false [oQ 16 (.fld (.t 2) 9),
 oQ 17 (.load1 (.t 16)),
 oQ 18 (.fld (.t 3) 9),
 oQ 19 (.load1 (.t 18)),
 oQ 20 (.bin .neq (.t 17) (.t 19))])
 (.cond (.t 20) (.seq (.reg false [oQ 4 (.mov (bK false))])
 (.ret (some [4]))) .skip))
 (.seq (.reg false [oQ 4 (.mov (bK true))])
 (.ret (some [4])))))))⟩
theorem c_laws_eqRing_ok : trF Tryz.prog ⟨[], [4], false, false⟩ Tryz.f49 = some c_laws_eqRing := by kernel_rfl
def c_laws_eqTree : IFn := ⟨16, [.t 4],
  (.seq (.reg false [oQ 2 (.box (.t 0) 49),
 oQ 3 (.box (.t 1) 49),
 oQ 4 (.mov (bK false))])
 (.seq (.seq (.reg false [oQ 5 (.fld (.t 2) 0),
 oQ 6 (.loadN (.t 5) 64),
 oQ 7 (.fld (.t 3) 0),
 oQ 8 (.loadN (.t 7) 64),
 oQ 9 (.call 95 [.t 6, .t 8]),
 oQ 10 (.un .not (.t 9))])
 (.cond (.t 10) (.seq (.reg false [oQ 4 (.mov (bK false))])
 (.ret (some [4]))) .skip))
 (.seq (.seq (.reg false [oQ 11 (.fld (.t 2) 64),
 oQ 12 (.load1 (.t 11)),
 oQ 13 (.fld (.t 3) 64),
 oQ 14 (.load1 (.t 13)),
 oQ 15 (.bin .neq (.t 12) (.t 14))])
 (.cond (.t 15) (.seq (.reg false [oQ 4 (.mov (bK false))])
 (.ret (some [4]))) .skip))
 (.seq (.reg false [oQ 4 (.mov (bK true))])
 (.ret (some [4]))))))⟩
theorem c_laws_eqTree_ok : trF Tryz.prog ⟨[], [4], false, false⟩ Tryz.f50 = some c_laws_eqTree := by kernel_rfl
def c_laws_eqIntSS_b0 : IC :=
  (.seq (.seq (.reg false [mW 11 5,
 mW 12 0,
 oQ 13 (.len (.t 12)),
 oQ 14 (.bin .lss (.t 11) (.t 13))])
 (.cond (.t 14) .skip (.exit 0)))
 (.seq (.block 1 none none
 (.seq (.reg true [mW 17 0,
 mW 18 5,
 oQ 19 (.ixs (.t 17) (.t 18) 1),
 oQ 20 (.load1 (.t 19)),
 mW 21 1,
 mW 22 5,
 oQ 23 (.ixs (.t 21) (.t 22) 1),
 oQ 24 (.load1 (.t 23)),
 oQ 25 (.call 96 [.t 20, .t 24]),
 oQ 26 (.un .not (.t 25))])
 (.cond (.t 26) (.seq (.reg false [oQ 4 (.mov (bK false))])
 (.ret (some [4]))) .skip)))
 (.reg false [mW 15 5,
 oQ 16 (.bin .add (.t 15) (iK 1)),
 mW 5 16])))
def c_laws_eqIntSS : IFn := ⟨27, [.t 4],
  (.seq (.reg false [oQ 4 (.mov (bK false))])
 (.seq (.seq (.reg false [mW 6 0,
 oQ 7 (.len (.t 6)),
 mW 8 1,
 oQ 9 (.len (.t 8)),
 oQ 10 (.bin .neq (.t 7) (.t 9))])
 (.cond (.t 10) (.seq (.reg false [oQ 4 (.mov (bK false))])
 (.ret (some [4]))) .skip))
 (.seq (.seq (.reg false [oQ 5 (.mov (iK 0))])
 (.block 0 (some [0, 1, 5]) (some [])
 (.loop c_laws_eqIntSS_b0)))
 (.seq (.reg false [oQ 4 (.mov (bK true))])
 (.ret (some [4]))))))⟩
theorem c_laws_eqIntSS_ok : trF Tryz.prog ⟨[(0, [0, 1, 5], [])], [4], false, false⟩ Tryz.f51 = some c_laws_eqIntSS := by kernel_rfl
def c_laws_markIntSS_b0 : IC :=
  (.seq (.seq (.reg false [mW 6 5,
 mW 7 0,
 oQ 8 (.len (.t 7)),
 oQ 9 (.bin .lss (.t 6) (.t 8))])
 (.cond (.t 9) .skip (.exit 0)))
 (.seq (.block 1 none none
 (.reg false [mW 12 0,
 mW 13 5,
 oQ 14 (.ixs (.t 12) (.t 13) 1),
 oQ 15 (.load1 (.t 14)),
 mW 16 1,
 oQ 17 (.call 97 [.t 15, .t 16]),
 mW 1 17]))
 (.reg false [mW 10 5,
 oQ 11 (.bin .add (.t 10) (iK 1)),
 mW 5 11])))
def c_laws_markIntSS : IFn := ⟨19, [.t 4],
  (.seq (.reg false [oQ 4 (.mov (iK 0))])
 (.seq (.seq (.reg false [oQ 5 (.mov (iK 0))])
 (.block 0 (some [0, 1, 5]) (some [1])
 (.loop c_laws_markIntSS_b0)))
 (.seq (.reg false [mW 18 1,
 mW 4 18])
 (.ret (some [4])))))⟩
theorem c_laws_markIntSS_ok : trF Tryz.prog ⟨[(0, [0, 1, 5], [1])], [4], false, false⟩ Tryz.f52 = some c_laws_markIntSS := by kernel_rfl
def c_laws_heldIntSS_b0 : IC :=
  (.seq (.seq (.reg false [mW 6 5,
 mW 7 0,
 oQ 8 (.len (.t 7)),
 oQ 9 (.bin .lss (.t 6) (.t 8))])
 (.cond (.t 9) .skip (.exit 0)))
 (.seq (.block 1 none none
 (.seq (.reg false [mW 12 0,
 mW 13 5,
 oQ 14 (.ixs (.t 12) (.t 13) 1),
 oQ 15 (.load1 (.t 14)),
 mW 16 1,
 oQ 17 (.call 98 [.t 15, .t 16]),
 mW 1 17])
 (.seq (.reg false [mW 18 1,
 oQ 19 (.bin .lss (.t 18) (iK 0))])
 (.cond (.t 19) (.seq (.reg false [oQ 4 (.mov (iK (-1)))])
 (.ret (some [4]))) .skip))))
 (.reg false [mW 10 5,
 oQ 11 (.bin .add (.t 10) (iK 1)),
 mW 5 11])))
def c_laws_heldIntSS : IFn := ⟨21, [.t 4],
  (.seq (.reg false [oQ 4 (.mov (iK 0))])
 (.seq (.seq (.reg false [oQ 5 (.mov (iK 0))])
 (.block 0 (some [0, 1, 5]) (some [1])
 (.loop c_laws_heldIntSS_b0)))
 (.seq (.reg false [mW 20 1,
 mW 4 20])
 (.ret (some [4])))))⟩
theorem c_laws_heldIntSS_ok : trF Tryz.prog ⟨[(0, [0, 1, 5], [1])], [4], false, false⟩ Tryz.f53 = some c_laws_heldIntSS := by kernel_rfl
def c_laws_eqDeed : IFn := ⟨20, [.t 4],
  (.seq (.reg false [oQ 2 (.box (.t 0) 57),
 oQ 3 (.box (.t 1) 57),
 oQ 4 (.mov (bK false))])
 (.seq (.seq (.reg false [oQ 5 (.fld (.t 2) 0),
 oQ 6 (.load1 (.t 5)),
 oQ 7 (.fld (.t 3) 0),
 oQ 8 (.load1 (.t 7)),
 oQ 9 (.bin .neq (.t 6) (.t 8))])
 (.cond (.t 9) (.seq (.reg false [oQ 4 (.mov (bK false))])
 (.ret (some [4]))) .skip))
 (.seq (.seq (.reg false [oQ 10 (.fld (.t 2) 1),
 oQ 11 (.load1 (.t 10)),
 oQ 12 (.fld (.t 3) 1),
 oQ 13 (.load1 (.t 12)),
 oQ 14 (.bin .neq (.t 11) (.t 13))])
 (.cond (.t 14) (.seq (.reg false [oQ 4 (.mov (bK false))])
 (.ret (some [4]))) .skip))
 (.seq (.seq (.reg false [oQ 15 (.fld (.t 2) 2),
 oQ 16 (.load1 (.t 15)),
 oQ 17 (.fld (.t 3) 2),
 oQ 18 (.load1 (.t 17)),
 oQ 19 (.bin .neq (.t 16) (.t 18))])
 (.cond (.t 19) (.seq (.reg false [oQ 4 (.mov (bK false))])
 (.ret (some [4]))) .skip))
 (.seq (.reg false [oQ 4 (.mov (bK true))])
 (.ret (some [4])))))))⟩
theorem c_laws_eqDeed_ok : trF Tryz.prog ⟨[], [4], false, false⟩ Tryz.f54 = some c_laws_eqDeed := by kernel_rfl
def c_laws_szIntS : IFn := ⟨12, [.t 4],
  (.seq (.reg false [oQ 4 (.mov (iK 0))])
 (.seq (.reg false [mW 5 1,
 mW 6 0,
 oQ 7 (.len (.t 6)),
 oQ 8 (.bin .sub (.t 5) (.t 7)),
 mW 1 8])
 (.seq (.seq (.reg false [mW 9 1,
 oQ 10 (.bin .lss (.t 9) (iK 0))])
 (.cond (.t 10) (.seq (.reg false [oQ 4 (.mov (iK (-1)))])
 (.ret (some [4]))) .skip))
 (.seq (.reg false [mW 11 1,
 mW 4 11])
 (.ret (some [4]))))))⟩
theorem c_laws_szIntS_ok : trF Tryz.prog ⟨[], [4], false, false⟩ Tryz.f55 = some c_laws_szIntS := by kernel_rfl
def c_spec_l16Copy_b0 : IC :=
  (.seq (.seq (.reg false [mW 6 4,
 mW 7 0,
 oQ 8 (.len (.t 7)),
 oQ 9 (.bin .lss (.t 6) (.t 8))])
 (.cond (.t 9) .skip (.exit 0)))
 (.seq (.block 1 none none
 (.reg false [mW 12 3,
 mW 13 0,
 mW 14 4,
 oQ 15 (.ixs (.t 13) (.t 14) 1),
 oQ 16 (.load1 (.t 15)),
 oQ 17 (.call 99 [.t 16]),
 oQ 18 (.lit 1 1 [.nils] [(0, .t 17)] 103),
 oQ 19 (.app (.t 12) (.t 18) 103 1 24),
 mW 3 19]))
 (.reg false [mW 10 4,
 oQ 11 (.bin .add (.t 10) (iK 1)),
 mW 4 11])))
def c_spec_l16Copy : IFn := ⟨21, [.t 2],
  (.seq (.reg false [oQ 2 (.mov (.k (.c .nils)))])
 (.seq (.reg false [oQ 5 (.lit 0 1 [.nils] [] 103),
 mW 3 5])
 (.seq (.seq (.reg false [oQ 4 (.mov (iK 0))])
 (.block 0 (some [0, 3, 4]) (some [3])
 (.loop c_spec_l16Copy_b0)))
 (.seq (.reg false [mW 20 3,
 mW 2 20])
 (.ret (some [2]))))))⟩
theorem c_spec_l16Copy_ok : trF Tryz.prog ⟨[(0, [0, 3, 4], [3])], [2], false, false⟩ Tryz.f56 = some c_spec_l16Copy := by kernel_rfl
def c_spec_ChainOk_b0 : IC :=
  (.seq (.seq (.reg false [mW 8 4,
 oQ 9 (.bin .lss (.t 8) (iK 16))])
 (.cond (.t 9) .skip (.exit 0)))
 (.seq (.block 1 none none
 (.seq (.reg false [mW 12 4,
 oQ 13 (.fld (.t 1) 0),
 oQ 14 (.ixa (.t 13) (.t 12) 16 4),
 oQ 15 (.loadN (.t 14) 4),
 oQ 5 (.alloc [.bool false, .int .i64 0, .int .i64 0, .int .i64 0] 41),
 nQ (.store (.t 5) (.t 15) 4)])
 (.seq (.seq (.reg false [oQ 16 (.fld (.t 5) 0),
 oQ 17 (.load1 (.t 16)),
 oQ 18 (.un .not (.t 17)),
 mW 19 18,
 ⟨some 20, some (19, true), .loadN (.t 5) 4⟩,
 ⟨some 21, some (19, true), .bld [.bool false, .int .i64 0, .int .i64 0, .int .i64 0] []⟩,
 ⟨some 22, some (19, true), .eqa true [none, some .i64, some .i64, some .i64] (.t 20) (.t 21)⟩,
 oQ 23 (.pick (.t 19) (.t 22) (bK false)),
 mW 24 23,
 ⟨some 25, some (24, false), .fld (.t 5) 0⟩,
 ⟨some 26, some (24, false), .load1 (.t 25)⟩,
 ⟨some 27, some (24, false), .mov (.t 26)⟩,
 ⟨some 28, some (27, true), .fld (.t 5) 1⟩,
 ⟨some 29, some (27, true), .load1 (.t 28)⟩,
 ⟨some 30, some (27, true), .call 37 [.t 29]⟩,
 ⟨some 31, some (27, true), .un .not (.t 30)⟩,
 ⟨some 32, some (27, true), .mov (.t 31)⟩,
 ⟨some 33, some (32, false), .fld (.t 5) 2⟩,
 ⟨some 34, some (32, false), .load1 (.t 33)⟩,
 ⟨some 35, some (32, false), .call 37 [.t 34]⟩,
 ⟨some 36, some (32, false), .un .not (.t 35)⟩,
 ⟨some 37, some (27, true), .pick (.t 32) (bK true) (.t 36)⟩,
 ⟨some 38, some (24, false), .pick (.t 27) (.t 37) (bK false)⟩,
 oQ 39 (.pick (.t 24) (bK true) (.t 38))])
 (.cond (.t 39) (.seq (.reg false [oQ 2 (.mov (bK false))])
 (.ret (some [2]))) .skip))
 (.seq (.reg false [oQ 40 (.fld (.t 5) 0),
 oQ 41 (.load1 (.t 40))])
 (.cond (.t 41) (.reg false [mW 42 3,
 oQ 43 (.bin .add (.t 42) (iK 1)),
 mW 3 43]) .skip)))))
 (.reg false [mW 10 4,
 oQ 11 (.bin .add (.t 10) (iK 1)),
 mW 4 11])))
def c_spec_ChainOk_b1 : IC :=
  (.seq (.seq (.reg false [mW 46 6,
 oQ 47 (.bin .neq (.t 46) (iK (-1)))])
 (.cond (.t 47) .skip (.exit 2)))
 (.block 3 none none
 (.seq (.seq (.reg true [mW 48 6,
 oQ 49 (.call 36 [.t 48, .k (.c (.int .i64 0)), .k (.c (.int .i64 15))]),
 oQ 50 (.un .not (.t 49)),
 mW 51 50,
 ⟨some 52, some (51, false), .mov (.t 6)⟩,
 ⟨some 53, some (51, false), .fld (.t 1) 0⟩,
 ⟨some 54, some (51, false), .ixa (.t 53) (.t 52) 16 4⟩,
 ⟨some 55, some (51, false), .fld (.t 54) 0⟩,
 ⟨some 56, some (51, false), .load1 (.t 55)⟩,
 ⟨some 57, some (51, false), .un .not (.t 56)⟩,
 oQ 58 (.pick (.t 51) (bK true) (.t 57)),
 mW 59 58,
 ⟨some 60, some (59, false), .mov (.t 3)⟩,
 ⟨some 61, some (59, false), .bin .eql (.t 60) (iK 0)⟩,
 oQ 62 (.pick (.t 59) (bK true) (.t 61)),
 mW 63 62,
 ⟨some 64, some (63, false), .mov (.t 7)⟩,
 ⟨some 65, some (63, false), .bin .geq (.t 64) (iK 0)⟩,
 ⟨some 66, some (63, false), .mov (.t 65)⟩,
 ⟨some 67, some (66, true), .mov (.t 7)⟩,
 ⟨some 68, some (66, true), .fld (.t 1) 0⟩,
 ⟨some 69, some (66, true), .ixa (.t 68) (.t 67) 16 4⟩,
 ⟨some 70, some (66, true), .fld (.t 69) 1⟩,
 ⟨some 71, some (66, true), .load1 (.t 70)⟩,
 ⟨some 72, some (66, true), .mov (.t 6)⟩,
 ⟨some 73, some (66, true), .fld (.t 1) 0⟩,
 ⟨some 74, some (66, true), .ixa (.t 73) (.t 72) 16 4⟩,
 ⟨some 75, some (66, true), .fld (.t 74) 1⟩,
 ⟨some 76, some (66, true), .load1 (.t 75)⟩,
 ⟨some 77, some (66, true), .bin .geq (.t 71) (.t 76)⟩,
 ⟨some 78, some (63, false), .pick (.t 66) (.t 77) (bK false)⟩,
 oQ 79 (.pick (.t 63) (bK true) (.t 78))])
 (.cond (.t 79) (.seq (.reg false [oQ 2 (.mov (bK false))])
 (.ret (some [2]))) .skip))
 (.seq (.reg false [mW 80 3,
 oQ 81 (.bin .sub (.t 80) (iK 1)),
 mW 3 81])
 (.seq (.reg false [mW 82 6,
 mW 7 82])
 (.reg false [mW 83 6,
 oQ 84 (.fld (.t 1) 0),
 oQ 85 (.ixa (.t 84) (.t 83) 16 4),
 oQ 86 (.fld (.t 85) 3),
 oQ 87 (.load1 (.t 86)),
 mW 6 87]))))))
def c_spec_ChainOk : IFn := ⟨90, [.t 2],
  (.seq (.reg false [oQ 1 (.box (.t 0) 44),
 oQ 2 (.mov (bK false))])
 (.seq (.reg false [oQ 3 (.mov (iK 0))])
 (.seq (.seq (.reg false [oQ 4 (.mov (iK 0))])
 (.block 0 (some [1, 3, 4]) (some [1, 3])
 (.loop c_spec_ChainOk_b0)))
 (.seq (.reg false [oQ 44 (.fld (.t 1) 64),
 oQ 45 (.load1 (.t 44)),
 mW 6 45,
 oQ 7 (.mov (iK (-1)))])
 (.seq (.block 2 (some [1, 3, 6, 7]) (some [3])
 (.loop c_spec_ChainOk_b1))
 (.seq (.reg false [mW 88 3,
 oQ 89 (.bin .eql (.t 88) (iK 0)),
 mW 2 89])
 (.ret (some [2]))))))))⟩
theorem c_spec_ChainOk_ok : trF Tryz.prog ⟨[(0, [1, 3, 4], [1, 3]), (2, [1, 3, 6, 7], [3])], [2], false, false⟩ Tryz.f57 = some c_spec_ChainOk := by kernel_rfl
def c_spec_RingOk_b0 : IC :=
  (.seq (.seq (.reg false [mW 15 3,
 oQ 16 (.bin .lss (.t 15) (iK 8))])
 (.cond (.t 16) .skip (.exit 0)))
 (.seq (.block 1 none none
 (.seq (.reg false [oQ 19 (.fld (.t 1) 8),
 oQ 20 (.load1 (.t 19)),
 mW 21 3,
 oQ 22 (.bin .add (.t 20) (.t 21)),
 oQ 23 (.bin .rem (.t 22) (iK 8)),
 oQ 24 (.fld (.t 1) 0),
 oQ 25 (.ixa (.t 24) (.t 23) 8 1),
 oQ 26 (.load1 (.t 25)),
 mW 4 26])
 (.seq (.reg false [mW 27 3,
 oQ 28 (.fld (.t 1) 9),
 oQ 29 (.load1 (.t 28)),
 oQ 30 (.bin .lss (.t 27) (.t 29)),
 mW 31 30,
 ⟨some 32, some (31, true), .mov (.t 4)⟩,
 ⟨some 33, some (31, true), .call 37 [.t 32]⟩,
 ⟨some 34, some (31, true), .un .not (.t 33)⟩,
 oQ 35 (.pick (.t 31) (.t 34) (bK false)),
 mW 36 35,
 ⟨some 37, some (36, false), .mov (.t 3)⟩,
 ⟨some 38, some (36, false), .fld (.t 1) 9⟩,
 ⟨some 39, some (36, false), .load1 (.t 38)⟩,
 ⟨some 40, some (36, false), .bin .geq (.t 37) (.t 39)⟩,
 ⟨some 41, some (36, false), .mov (.t 40)⟩,
 ⟨some 42, some (41, true), .mov (.t 4)⟩,
 ⟨some 43, some (41, true), .bin .neq (.t 42) (iK 0)⟩,
 ⟨some 44, some (36, false), .pick (.t 41) (.t 43) (bK false)⟩,
 oQ 45 (.pick (.t 36) (bK true) (.t 44))])
 (.cond (.t 45) (.seq (.reg false [oQ 2 (.mov (bK false))])
 (.ret (some [2]))) .skip))))
 (.reg false [mW 17 3,
 oQ 18 (.bin .add (.t 17) (iK 1)),
 mW 3 18])))
def c_spec_RingOk : IFn := ⟨46, [.t 2],
  (.seq (.reg false [oQ 1 (.box (.t 0) 45),
 oQ 2 (.mov (bK false))])
 (.seq (.seq (.reg false [oQ 5 (.fld (.t 1) 8),
 oQ 6 (.load1 (.t 5)),
 oQ 7 (.call 36 [.t 6, .k (.c (.int .i64 0)), .k (.c (.int .i64 7))]),
 oQ 8 (.un .not (.t 7)),
 mW 9 8,
 ⟨some 10, some (9, false), .fld (.t 1) 9⟩,
 ⟨some 11, some (9, false), .load1 (.t 10)⟩,
 ⟨some 12, some (9, false), .call 36 [.t 11, .k (.c (.int .i64 0)), .k (.c (.int .i64 8))]⟩,
 ⟨some 13, some (9, false), .un .not (.t 12)⟩,
 oQ 14 (.pick (.t 9) (bK true) (.t 13))])
 (.cond (.t 14) (.seq (.reg false [oQ 2 (.mov (bK false))])
 (.ret (some [2]))) .skip))
 (.seq (.seq (.reg false [oQ 3 (.mov (iK 0))])
 (.block 0 (some [1, 3]) (some [])
 (.loop c_spec_RingOk_b0)))
 (.seq (.reg false [oQ 2 (.mov (bK true))])
 (.ret (some [2]))))))⟩
theorem c_spec_RingOk_ok : trF Tryz.prog ⟨[(0, [1, 3], [])], [2], false, false⟩ Tryz.f58 = some c_spec_RingOk := by kernel_rfl
def c_spec_TreeOk_b0 : IC :=
  (.seq (.seq (.reg false [mW 9 4,
 oQ 10 (.bin .lss (.t 9) (iK 16))])
 (.cond (.t 10) .skip (.exit 0)))
 (.seq (.block 1 none none
 (.seq (.reg false [mW 13 4,
 oQ 14 (.fld (.t 1) 0),
 oQ 15 (.ixa (.t 14) (.t 13) 16 4),
 oQ 16 (.loadN (.t 15) 4),
 oQ 5 (.alloc [.bool false, .int .i64 0, .int .i64 0, .int .i64 0] 46),
 nQ (.store (.t 5) (.t 16) 4)])
 (.seq (.seq (.reg false [oQ 17 (.fld (.t 5) 0),
 oQ 18 (.load1 (.t 17)),
 oQ 19 (.un .not (.t 18)),
 mW 20 19,
 ⟨some 21, some (20, true), .loadN (.t 5) 4⟩,
 ⟨some 22, some (20, true), .bld [.bool false, .int .i64 0, .int .i64 0, .int .i64 0] []⟩,
 ⟨some 23, some (20, true), .eqa true [none, some .i64, some .i64, some .i64] (.t 21) (.t 22)⟩,
 oQ 24 (.pick (.t 20) (.t 23) (bK false)),
 mW 25 24,
 ⟨some 26, some (25, false), .fld (.t 5) 0⟩,
 ⟨some 27, some (25, false), .load1 (.t 26)⟩,
 ⟨some 28, some (25, false), .mov (.t 27)⟩,
 ⟨some 29, some (28, true), .fld (.t 5) 1⟩,
 ⟨some 30, some (28, true), .load1 (.t 29)⟩,
 ⟨some 31, some (28, true), .call 37 [.t 30]⟩,
 ⟨some 32, some (28, true), .un .not (.t 31)⟩,
 ⟨some 33, some (25, false), .pick (.t 28) (.t 32) (bK false)⟩,
 oQ 34 (.pick (.t 25) (bK true) (.t 33))])
 (.cond (.t 34) (.seq (.reg false [oQ 2 (.mov (bK false))])
 (.ret (some [2]))) .skip))
 (.seq (.reg false [oQ 35 (.fld (.t 5) 0),
 oQ 36 (.load1 (.t 35))])
 (.cond (.t 36) (.reg false [mW 37 3,
 oQ 38 (.bin .add (.t 37) (iK 1)),
 mW 3 38]) .skip)))))
 (.reg false [mW 11 4,
 oQ 12 (.bin .add (.t 11) (iK 1)),
 mW 4 12])))
def c_spec_TreeOk_b1 : IC :=
  (.seq (.seq (.reg false [mW 47 8,
 mW 48 6,
 oQ 49 (.len (.t 48)),
 oQ 50 (.bin .lss (.t 47) (.t 49))])
 (.cond (.t 50) .skip (.exit 2)))
 (.seq (.block 3 none none
 (.seq (.reg true [mW 53 6,
 mW 54 8,
 oQ 55 (.bin .sub (.t 54) (iK 1)),
 oQ 56 (.ixs (.t 53) (.t 55) 1),
 oQ 57 (.load1 (.t 56)),
 oQ 58 (.fld (.t 1) 0),
 oQ 59 (.ixa (.t 58) (.t 57) 16 4),
 oQ 60 (.fld (.t 59) 1),
 oQ 61 (.load1 (.t 60)),
 mW 62 6,
 mW 63 8,
 oQ 64 (.ixs (.t 62) (.t 63) 1),
 oQ 65 (.load1 (.t 64)),
 oQ 66 (.fld (.t 1) 0),
 oQ 67 (.ixa (.t 66) (.t 65) 16 4),
 oQ 68 (.fld (.t 67) 1),
 oQ 69 (.load1 (.t 68)),
 oQ 70 (.bin .geq (.t 61) (.t 69))])
 (.cond (.t 70) (.seq (.reg false [oQ 2 (.mov (bK false))])
 (.ret (some [2]))) .skip)))
 (.reg false [mW 51 8,
 oQ 52 (.bin .add (.t 51) (iK 1)),
 mW 8 52])))
def c_spec_TreeOk : IFn := ⟨78, [.t 2],
  (.seq (.reg false [oQ 1 (.box (.t 0) 49),
 oQ 2 (.mov (bK false))])
 (.seq (.reg false [oQ 3 (.mov (iK 0))])
 (.seq (.seq (.reg false [oQ 4 (.mov (iK 0))])
 (.block 0 (some [1, 3, 4]) (some [1, 3])
 (.loop c_spec_TreeOk_b0)))
 (.seq (.reg false [oQ 40 (.loadN (.t 1) 65),
 oQ 41 (.fld (.t 1) 64),
 oQ 42 (.load1 (.t 41)),
 oQ 43 (.lit 0 1 [.int .i64 0] [] 3),
 oQ 44 (.call 100 [.t 40, .t 42, .t 43]),
 mW 39 44,
 oQ 45 (.ext (.t 39) 0),
 oQ 46 (.ext (.t 39) 1),
 mW 6 45,
 mW 7 46])
 (.seq (.seq (.reg false [oQ 8 (.mov (iK 1))])
 (.block 2 (some [1, 3, 6, 7, 8]) (some [3, 6, 7])
 (.loop c_spec_TreeOk_b1)))
 (.seq (.reg false [mW 71 7,
 mW 72 71,
 ⟨some 73, some (72, true), .mov (.t 6)⟩,
 ⟨some 74, some (72, true), .len (.t 73)⟩,
 ⟨some 75, some (72, true), .mov (.t 3)⟩,
 ⟨some 76, some (72, true), .bin .eql (.t 74) (.t 75)⟩,
 oQ 77 (.pick (.t 72) (.t 76) (bK false)),
 mW 2 77])
 (.ret (some [2]))))))))⟩
theorem c_spec_TreeOk_ok : trF Tryz.prog ⟨[(0, [1, 3, 4], [1, 3]), (2, [1, 3, 6, 7, 8], [3, 6, 7])], [2], false, false⟩ Tryz.f59 = some c_spec_TreeOk := by kernel_rfl
def c_spec_SetOk_b1 : IC :=
  (.seq (.seq (.reg false [mW 33 5,
 mW 34 0,
 mW 35 4,
 oQ 36 (.ixs (.t 34) (.t 35) 1),
 oQ 37 (.load1 (.t 36)),
 oQ 38 (.len (.t 37)),
 oQ 39 (.bin .lss (.t 33) (.t 38))])
 (.cond (.t 39) .skip (.exit 2)))
 (.seq (.block 3 none none
 (.seq (.reg true [mW 42 0,
 mW 43 4,
 oQ 44 (.ixs (.t 42) (.t 43) 1),
 oQ 45 (.load1 (.t 44)),
 mW 46 5,
 oQ 47 (.ixs (.t 45) (.t 46) 1),
 oQ 48 (.load1 (.t 47)),
 oQ 49 (.call 37 [.t 48]),
 oQ 50 (.un .not (.t 49)),
 mW 51 50,
 ⟨some 52, some (51, false), .mov (.t 0)⟩,
 ⟨some 53, some (51, false), .mov (.t 4)⟩,
 ⟨some 54, some (51, false), .ixs (.t 52) (.t 53) 1⟩,
 ⟨some 55, some (51, false), .load1 (.t 54)⟩,
 ⟨some 56, some (51, false), .mov (.t 5)⟩,
 ⟨some 57, some (51, false), .ixs (.t 55) (.t 56) 1⟩,
 ⟨some 58, some (51, false), .load1 (.t 57)⟩,
 ⟨some 59, some (51, false), .mov (.t 3)⟩,
 ⟨some 60, some (51, false), .call 101 [.t 58, .t 59]⟩,
 ⟨some 61, some (51, false), .mov (.t 4)⟩,
 ⟨some 62, some (51, false), .bin .neq (.t 60) (.t 61)⟩,
 oQ 63 (.pick (.t 51) (bK true) (.t 62)),
 mW 64 63,
 ⟨some 65, some (64, false), .mov (.t 5)⟩,
 ⟨some 66, some (64, false), .bin .gtr (.t 65) (iK 0)⟩,
 ⟨some 67, some (64, false), .mov (.t 66)⟩,
 ⟨some 68, some (67, true), .mov (.t 0)⟩,
 ⟨some 69, some (67, true), .mov (.t 4)⟩,
 ⟨some 70, some (67, true), .ixs (.t 68) (.t 69) 1⟩,
 ⟨some 71, some (67, true), .load1 (.t 70)⟩,
 ⟨some 72, some (67, true), .mov (.t 5)⟩,
 ⟨some 73, some (67, true), .bin .sub (.t 72) (iK 1)⟩,
 ⟨some 74, some (67, true), .ixs (.t 71) (.t 73) 1⟩,
 ⟨some 75, some (67, true), .load1 (.t 74)⟩,
 ⟨some 76, some (67, true), .mov (.t 0)⟩,
 ⟨some 77, some (67, true), .mov (.t 4)⟩,
 ⟨some 78, some (67, true), .ixs (.t 76) (.t 77) 1⟩,
 ⟨some 79, some (67, true), .load1 (.t 78)⟩,
 ⟨some 80, some (67, true), .mov (.t 5)⟩,
 ⟨some 81, some (67, true), .ixs (.t 79) (.t 80) 1⟩,
 ⟨some 82, some (67, true), .load1 (.t 81)⟩,
 ⟨some 83, some (67, true), .bin .geq (.t 75) (.t 82)⟩,
 ⟨some 84, some (64, false), .pick (.t 67) (.t 83) (bK false)⟩,
 oQ 85 (.pick (.t 64) (bK true) (.t 84))])
 (.cond (.t 85) (.seq (.reg false [oQ 2 (.mov (bK false))])
 (.ret (some [2]))) .skip)))
 (.reg false [mW 40 5,
 oQ 41 (.bin .add (.t 40) (iK 1)),
 mW 5 41])))
def c_spec_SetOk_b0 : IC :=
  (.seq (.seq (.reg false [mW 22 4,
 mW 23 3,
 oQ 24 (.bin .lss (.t 22) (.t 23))])
 (.cond (.t 24) .skip (.exit 0)))
 (.seq (.block 1 none none
 (.seq (.seq (.reg false [mW 27 0,
 mW 28 4,
 oQ 29 (.ixs (.t 27) (.t 28) 1),
 oQ 30 (.load1 (.t 29)),
 oQ 31 (.len (.t 30)),
 oQ 32 (.bin .gtr (.t 31) (iK 3))])
 (.cond (.t 32) (.seq (.reg false [oQ 2 (.mov (bK false))])
 (.ret (some [2]))) .skip))
 (.seq (.reg false [oQ 5 (.mov (iK 0))])
 (.block 2 (some [0, 3, 4, 5]) (some [0, 3, 4])
 (.loop c_spec_SetOk_b1)))))
 (.reg false [mW 25 4,
 oQ 26 (.bin .add (.t 25) (iK 1)),
 mW 4 26])))
def c_spec_SetOk : IFn := ⟨86, [.t 2],
  (.seq (.reg false [oQ 2 (.mov (bK false))])
 (.seq (.reg false [mW 6 0,
 oQ 7 (.len (.t 6)),
 mW 3 7])
 (.seq (.seq (.reg false [mW 8 3,
 oQ 9 (.bin .neq (.t 8) (iK 1)),
 mW 10 9,
 ⟨some 11, some (10, true), .mov (.t 3)⟩,
 ⟨some 12, some (10, true), .bin .neq (.t 11) (iK 2)⟩,
 oQ 13 (.pick (.t 10) (.t 12) (bK false)),
 mW 14 13,
 ⟨some 15, some (14, true), .mov (.t 3)⟩,
 ⟨some 16, some (14, true), .bin .neq (.t 15) (iK 4)⟩,
 oQ 17 (.pick (.t 14) (.t 16) (bK false)),
 mW 18 17,
 ⟨some 19, some (18, true), .mov (.t 3)⟩,
 ⟨some 20, some (18, true), .bin .neq (.t 19) (iK 8)⟩,
 oQ 21 (.pick (.t 18) (.t 20) (bK false))])
 (.cond (.t 21) (.seq (.reg false [oQ 2 (.mov (bK false))])
 (.ret (some [2]))) .skip))
 (.seq (.seq (.reg false [oQ 4 (.mov (iK 0))])
 (.block 0 (some [0, 3, 4]) (some [])
 (.loop c_spec_SetOk_b0)))
 (.seq (.reg false [oQ 2 (.mov (bK true))])
 (.ret (some [2])))))))⟩
theorem c_spec_SetOk_ok : trF Tryz.prog ⟨[(0, [0, 3, 4], []), (2, [0, 3, 4, 5], [0, 3, 4])], [2], false, false⟩ Tryz.f60 = some c_spec_SetOk := by kernel_rfl
def c_spec_MapPut_b0 : IC :=
  (.seq (.seq (.reg false [mW 58 13,
 oQ 59 (.bin .lss (.t 58) (iK 16)),
 mW 60 59,
 ⟨some 61, some (60, true), .mov (.t 13)⟩,
 ⟨some 62, some (60, true), .fld (.t 3) 0⟩,
 ⟨some 63, some (60, true), .ixa (.t 62) (.t 61) 16 4⟩,
 ⟨some 64, some (60, true), .fld (.t 63) 0⟩,
 ⟨some 65, some (60, true), .load1 (.t 64)⟩,
 oQ 66 (.pick (.t 60) (.t 65) (bK false))])
 (.cond (.t 66) .skip (.exit 0)))
 (.block 1 none none
 (.reg false [mW 67 13,
 oQ 68 (.bin .add (.t 67) (iK 1)),
 mW 13 68])))
def c_spec_MapPut : IFn := ⟨91, [.cell 6 65 true, .t 7, .t 8],
  (.seq (.reg false [oQ 3 (.box (.t 0) 44),
 oQ 6 (.alloc Z65 44),
 oQ 7 (.mov (iK 0)),
 oQ 8 (.mov (iK 0))])
 (.seq (.seq (.reg false [oQ 14 (.loadN (.t 3) 65),
 oQ 15 (.call 57 [.t 14]),
 oQ 16 (.un .not (.t 15)),
 mW 17 16,
 ⟨some 18, some (17, false), .mov (.t 1)⟩,
 ⟨some 19, some (17, false), .call 37 [.t 18]⟩,
 ⟨some 20, some (17, false), .un .not (.t 19)⟩,
 oQ 21 (.pick (.t 17) (bK true) (.t 20)),
 mW 22 21,
 ⟨some 23, some (22, false), .mov (.t 2)⟩,
 ⟨some 24, some (22, false), .call 37 [.t 23]⟩,
 ⟨some 25, some (22, false), .un .not (.t 24)⟩,
 oQ 26 (.pick (.t 22) (bK true) (.t 25))])
 (.cond (.t 26) (.seq (.reg false [oQ 27 (.loadN (.t 3) 65),
 nQ (.store (.t 6) (.t 27) 65),
 oQ 7 (.mov (iK 0)),
 oQ 8 (.mov (iK 1))])
 (.ret (some [6, 7, 8]))) .skip))
 (.seq (.reg false [oQ 29 (.loadN (.t 3) 65),
 mW 30 1,
 oQ 31 (.call 102 [.t 29, .t 30]),
 mW 28 31,
 oQ 32 (.ext (.t 28) 0),
 oQ 33 (.ext (.t 28) 1),
 oQ 34 (.ext (.t 28) 2),
 oQ 35 (.ext (.t 28) 3),
 mW 9 32,
 mW 10 33,
 mW 11 34,
 mW 12 35])
 (.seq (.seq (.reg false [mW 36 12,
 oQ 37 (.un .not (.t 36))])
 (.cond (.t 37) (.seq (.reg false [oQ 38 (.loadN (.t 3) 65),
 mW 39 11,
 nQ (.store (.t 6) (.t 38) 65),
 mW 7 39,
 oQ 8 (.mov (iK 2))])
 (.ret (some [6, 7, 8]))) .skip))
 (.seq (.seq (.reg false [mW 40 9,
 oQ 41 (.bin .geq (.t 40) (iK 0)),
 mW 42 41,
 ⟨some 43, some (42, true), .mov (.t 9)⟩,
 ⟨some 44, some (42, true), .fld (.t 3) 0⟩,
 ⟨some 45, some (42, true), .ixa (.t 44) (.t 43) 16 4⟩,
 ⟨some 46, some (42, true), .fld (.t 45) 1⟩,
 ⟨some 47, some (42, true), .load1 (.t 46)⟩,
 ⟨some 48, some (42, true), .mov (.t 1)⟩,
 ⟨some 49, some (42, true), .bin .eql (.t 47) (.t 48)⟩,
 oQ 50 (.pick (.t 42) (.t 49) (bK false))])
 (.cond (.t 50) (.seq (.reg false [mW 51 9,
 mW 52 2,
 oQ 53 (.fld (.t 3) 0),
 oQ 54 (.ixa (.t 53) (.t 51) 16 4),
 oQ 55 (.fld (.t 54) 2),
 nQ (.store (.t 55) (.t 52) 1)])
 (.seq (.reg false [oQ 56 (.loadN (.t 3) 65),
 mW 57 11,
 nQ (.store (.t 6) (.t 56) 65),
 mW 7 57,
 oQ 8 (.mov (iK 0))])
 (.ret (some [6, 7, 8])))) .skip))
 (.seq (.reg false [oQ 13 (.mov (iK 0))])
 (.seq (.block 0 (some [1, 2, 3, 6, 9, 10, 11, 13]) (some [1, 2, 3, 6, 9, 10, 11, 13])
 (.loop c_spec_MapPut_b0))
 (.seq (.seq (.reg false [mW 69 13,
 oQ 70 (.bin .eql (.t 69) (iK 16))])
 (.cond (.t 70) (.seq (.reg false [oQ 71 (.loadN (.t 3) 65),
 mW 72 11,
 nQ (.store (.t 6) (.t 71) 65),
 mW 7 72,
 oQ 8 (.mov (iK 3))])
 (.ret (some [6, 7, 8]))) .skip))
 (.seq (.reg false [mW 73 13,
 mW 74 1,
 mW 75 2,
 mW 76 9,
 oQ 77 (.bld [.bool false, .int .i64 0, .int .i64 0, .int .i64 0] [(0, (1, .k (.c (.bool true)))), (1, (1, .t 74)), (2, (1, .t 75)), (3, (1, .t 76))]),
 oQ 78 (.fld (.t 3) 0),
 oQ 79 (.ixa (.t 78) (.t 73) 16 4),
 nQ (.store (.t 79) (.t 77) 4)])
 (.seq (.seq (.reg false [mW 80 10,
 oQ 81 (.bin .lss (.t 80) (iK 0))])
 (.cond (.t 81) (.reg false [mW 82 13,
 oQ 83 (.fld (.t 3) 64),
 nQ (.store (.t 83) (.t 82) 1)]) (.reg false [mW 84 10,
 mW 85 13,
 oQ 86 (.fld (.t 3) 0),
 oQ 87 (.ixa (.t 86) (.t 84) 16 4),
 oQ 88 (.fld (.t 87) 3),
 nQ (.store (.t 88) (.t 85) 1)])))
 (.seq (.reg false [oQ 89 (.loadN (.t 3) 65),
 mW 90 11,
 nQ (.store (.t 6) (.t 89) 65),
 mW 7 90,
 oQ 8 (.mov (iK 0))])
 (.ret (some [6, 7, 8])))))))))))))⟩
theorem c_spec_MapPut_ok : trF Tryz.prog ⟨[(0, [1, 2, 3, 6, 9, 10, 11, 13], [1, 2, 3, 6, 9, 10, 11, 13])], [6, 7, 8], false, false⟩ Tryz.f61 = some c_spec_MapPut := by kernel_rfl
def c_spec_l17Map : IFn := ⟨7, [.t 2],
  (.seq (.reg false [oQ 2 (.mov (iK 0))])
 (.seq (.reg false [oQ 3 (.lit 5 1 [.int .i64 0] [(0, .k (.c (.int .i64 0))), (1, .k (.c (.int .i64 4))), (2, .k (.c (.int .i64 2))), (3, .k (.c (.int .i64 3))), (4, .k (.c (.int .i64 1)))] 3),
 mW 4 0,
 oQ 5 (.ixs (.t 3) (.t 4) 1),
 oQ 6 (.load1 (.t 5)),
 mW 2 6])
 (.ret (some [2]))))⟩
theorem c_spec_l17Map_ok : trF Tryz.prog ⟨[], [2], false, false⟩ Tryz.f62 = some c_spec_l17Map := by kernel_rfl
def c_spec_MapDrop : IFn := ⟨68, [.cell 4 65 true, .t 5, .t 6],
  (.seq (.reg false [oQ 2 (.box (.t 0) 44),
 oQ 4 (.alloc Z65 44),
 oQ 5 (.mov (iK 0)),
 oQ 6 (.mov (iK 0))])
 (.seq (.seq (.reg false [oQ 11 (.loadN (.t 2) 65),
 oQ 12 (.call 57 [.t 11]),
 oQ 13 (.un .not (.t 12)),
 mW 14 13,
 ⟨some 15, some (14, false), .mov (.t 1)⟩,
 ⟨some 16, some (14, false), .call 37 [.t 15]⟩,
 ⟨some 17, some (14, false), .un .not (.t 16)⟩,
 oQ 18 (.pick (.t 14) (bK true) (.t 17))])
 (.cond (.t 18) (.seq (.reg false [oQ 19 (.loadN (.t 2) 65),
 nQ (.store (.t 4) (.t 19) 65),
 oQ 5 (.mov (iK 0)),
 oQ 6 (.mov (iK 1))])
 (.ret (some [4, 5, 6]))) .skip))
 (.seq (.reg false [oQ 21 (.loadN (.t 2) 65),
 mW 22 1,
 oQ 23 (.call 102 [.t 21, .t 22]),
 mW 20 23,
 oQ 24 (.ext (.t 20) 0),
 oQ 25 (.ext (.t 20) 1),
 oQ 26 (.ext (.t 20) 2),
 oQ 27 (.ext (.t 20) 3),
 mW 7 24,
 mW 8 25,
 mW 9 26,
 mW 10 27])
 (.seq (.seq (.reg false [mW 28 10,
 oQ 29 (.un .not (.t 28))])
 (.cond (.t 29) (.seq (.reg false [oQ 30 (.loadN (.t 2) 65),
 mW 31 9,
 nQ (.store (.t 4) (.t 30) 65),
 mW 5 31,
 oQ 6 (.mov (iK 2))])
 (.ret (some [4, 5, 6]))) .skip))
 (.seq (.seq (.reg false [mW 32 7,
 oQ 33 (.bin .lss (.t 32) (iK 0)),
 mW 34 33,
 ⟨some 35, some (34, false), .mov (.t 7)⟩,
 ⟨some 36, some (34, false), .fld (.t 2) 0⟩,
 ⟨some 37, some (34, false), .ixa (.t 36) (.t 35) 16 4⟩,
 ⟨some 38, some (34, false), .fld (.t 37) 1⟩,
 ⟨some 39, some (34, false), .load1 (.t 38)⟩,
 ⟨some 40, some (34, false), .mov (.t 1)⟩,
 ⟨some 41, some (34, false), .bin .neq (.t 39) (.t 40)⟩,
 oQ 42 (.pick (.t 34) (bK true) (.t 41))])
 (.cond (.t 42) (.seq (.reg false [oQ 43 (.loadN (.t 2) 65),
 mW 44 9,
 nQ (.store (.t 4) (.t 43) 65),
 mW 5 44,
 oQ 6 (.mov (iK 4))])
 (.ret (some [4, 5, 6]))) .skip))
 (.seq (.seq (.reg false [mW 45 8,
 oQ 46 (.bin .lss (.t 45) (iK 0))])
 (.cond (.t 46) (.reg false [mW 47 7,
 oQ 48 (.fld (.t 2) 0),
 oQ 49 (.ixa (.t 48) (.t 47) 16 4),
 oQ 50 (.fld (.t 49) 3),
 oQ 51 (.load1 (.t 50)),
 oQ 52 (.fld (.t 2) 64),
 nQ (.store (.t 52) (.t 51) 1)]) (.reg false [mW 53 8,
 mW 54 7,
 oQ 55 (.fld (.t 2) 0),
 oQ 56 (.ixa (.t 55) (.t 54) 16 4),
 oQ 57 (.fld (.t 56) 3),
 oQ 58 (.load1 (.t 57)),
 oQ 59 (.fld (.t 2) 0),
 oQ 60 (.ixa (.t 59) (.t 53) 16 4),
 oQ 61 (.fld (.t 60) 3),
 nQ (.store (.t 61) (.t 58) 1)])))
 (.seq (.reg false [mW 62 7,
 oQ 63 (.bld [.bool false, .int .i64 0, .int .i64 0, .int .i64 0] []),
 oQ 64 (.fld (.t 2) 0),
 oQ 65 (.ixa (.t 64) (.t 62) 16 4),
 nQ (.store (.t 65) (.t 63) 4)])
 (.seq (.reg false [oQ 66 (.loadN (.t 2) 65),
 mW 67 9,
 nQ (.store (.t 4) (.t 66) 65),
 mW 5 67,
 oQ 6 (.mov (iK 0))])
 (.ret (some [4, 5, 6]))))))))))⟩
theorem c_spec_MapDrop_ok : trF Tryz.prog ⟨[], [4, 5, 6], false, false⟩ Tryz.f63 = some c_spec_MapDrop := by kernel_rfl
def c_spec_MapGet : IFn := ⟨48, [.t 4, .t 5, .t 6],
  (.seq (.reg false [oQ 2 (.box (.t 0) 44),
 oQ 4 (.mov (iK 0)),
 oQ 5 (.mov (iK 0)),
 oQ 6 (.mov (iK 0))])
 (.seq (.seq (.reg false [oQ 11 (.loadN (.t 2) 65),
 oQ 12 (.call 57 [.t 11]),
 oQ 13 (.un .not (.t 12)),
 mW 14 13,
 ⟨some 15, some (14, false), .mov (.t 1)⟩,
 ⟨some 16, some (14, false), .call 37 [.t 15]⟩,
 ⟨some 17, some (14, false), .un .not (.t 16)⟩,
 oQ 18 (.pick (.t 14) (bK true) (.t 17))])
 (.cond (.t 18) (.seq (.reg false [oQ 4 (.mov (iK 0)),
 oQ 5 (.mov (iK 0)),
 oQ 6 (.mov (iK 1))])
 (.ret (some [4, 5, 6]))) .skip))
 (.seq (.reg false [oQ 20 (.loadN (.t 2) 65),
 mW 21 1,
 oQ 22 (.call 102 [.t 20, .t 21]),
 mW 19 22,
 oQ 23 (.ext (.t 19) 0),
 oQ 24 (.ext (.t 19) 1),
 oQ 25 (.ext (.t 19) 2),
 oQ 26 (.ext (.t 19) 3),
 mW 7 23,
 mW 8 24,
 mW 9 25,
 mW 10 26])
 (.seq (.seq (.reg false [mW 27 10,
 oQ 28 (.un .not (.t 27))])
 (.cond (.t 28) (.seq (.reg false [mW 29 9,
 oQ 4 (.mov (iK 0)),
 mW 5 29,
 oQ 6 (.mov (iK 2))])
 (.ret (some [4, 5, 6]))) .skip))
 (.seq (.seq (.reg false [mW 30 7,
 oQ 31 (.bin .lss (.t 30) (iK 0)),
 mW 32 31,
 ⟨some 33, some (32, false), .mov (.t 7)⟩,
 ⟨some 34, some (32, false), .fld (.t 2) 0⟩,
 ⟨some 35, some (32, false), .ixa (.t 34) (.t 33) 16 4⟩,
 ⟨some 36, some (32, false), .fld (.t 35) 1⟩,
 ⟨some 37, some (32, false), .load1 (.t 36)⟩,
 ⟨some 38, some (32, false), .mov (.t 1)⟩,
 ⟨some 39, some (32, false), .bin .neq (.t 37) (.t 38)⟩,
 oQ 40 (.pick (.t 32) (bK true) (.t 39))])
 (.cond (.t 40) (.seq (.reg false [mW 41 9,
 oQ 4 (.mov (iK 0)),
 mW 5 41,
 oQ 6 (.mov (iK 4))])
 (.ret (some [4, 5, 6]))) .skip))
 (.seq (.reg false [mW 42 7,
 oQ 43 (.fld (.t 2) 0),
 oQ 44 (.ixa (.t 43) (.t 42) 16 4),
 oQ 45 (.fld (.t 44) 2),
 oQ 46 (.load1 (.t 45)),
 mW 47 9,
 mW 4 46,
 mW 5 47,
 oQ 6 (.mov (iK 0))])
 (.ret (some [4, 5, 6]))))))))⟩
theorem c_spec_MapGet_ok : trF Tryz.prog ⟨[], [4, 5, 6], false, false⟩ Tryz.f64 = some c_spec_MapGet := by kernel_rfl
def c_spec_RingPut : IFn := ⟨35, [.cell 4 10 true, .t 5],
  (.seq (.reg false [oQ 2 (.box (.t 0) 45),
 oQ 4 (.alloc [.int .i64 0, .int .i64 0, .int .i64 0, .int .i64 0, .int .i64 0, .int .i64 0, .int .i64 0, .int .i64 0, .int .i64 0, .int .i64 0] 45),
 oQ 5 (.mov (iK 0))])
 (.seq (.block 0 none none
 (.seq (.reg false [oQ 7 (.loadN (.t 2) 10),
 oQ 8 (.call 58 [.t 7]),
 oQ 9 (.un .not (.t 8)),
 mW 10 9,
 ⟨some 11, some (10, false), .mov (.t 1)⟩,
 ⟨some 12, some (10, false), .call 37 [.t 11]⟩,
 ⟨some 13, some (10, false), .un .not (.t 12)⟩,
 oQ 14 (.pick (.t 10) (bK true) (.t 13)),
 mW 6 14])
 (.cond (.t 6) (.seq (.reg false [oQ 15 (.loadN (.t 2) 10),
 nQ (.store (.t 4) (.t 15) 10),
 oQ 5 (.mov (iK 1))])
 (.ret (some [4, 5]))) (.seq (.reg false [oQ 17 (.fld (.t 2) 9),
 oQ 18 (.load1 (.t 17)),
 oQ 19 (.bin .eql (.t 18) (iK 8)),
 mW 16 19])
 (.cond (.t 16) (.seq (.reg false [oQ 20 (.loadN (.t 2) 10),
 nQ (.store (.t 4) (.t 20) 10),
 oQ 5 (.mov (iK 2))])
 (.ret (some [4, 5]))) .skip)))))
 (.seq (.reg false [oQ 21 (.fld (.t 2) 8),
 oQ 22 (.load1 (.t 21)),
 oQ 23 (.fld (.t 2) 9),
 oQ 24 (.load1 (.t 23)),
 oQ 25 (.bin .add (.t 22) (.t 24)),
 oQ 26 (.bin .rem (.t 25) (iK 8)),
 mW 27 1,
 oQ 28 (.fld (.t 2) 0),
 oQ 29 (.ixa (.t 28) (.t 26) 8 1),
 nQ (.store (.t 29) (.t 27) 1)])
 (.seq (.reg false [oQ 30 (.fld (.t 2) 9),
 oQ 31 (.load1 (.t 30)),
 oQ 32 (.bin .add (.t 31) (iK 1)),
 oQ 33 (.fld (.t 2) 9),
 nQ (.store (.t 33) (.t 32) 1)])
 (.seq (.reg false [oQ 34 (.loadN (.t 2) 10),
 nQ (.store (.t 4) (.t 34) 10),
 oQ 5 (.mov (iK 0))])
 (.ret (some [4, 5])))))))⟩
theorem c_spec_RingPut_ok : trF Tryz.prog ⟨[], [4, 5], false, false⟩ Tryz.f65 = some c_spec_RingPut := by kernel_rfl
def c_spec_l17Ring : IFn := ⟨7, [.t 2],
  (.seq (.reg false [oQ 2 (.mov (iK 0))])
 (.seq (.reg false [oQ 3 (.lit 4 1 [.int .i64 0] [(0, .k (.c (.int .i64 0))), (1, .k (.c (.int .i64 4))), (2, .k (.c (.int .i64 3))), (3, .k (.c (.int .i64 1)))] 3),
 mW 4 0,
 oQ 5 (.ixs (.t 3) (.t 4) 1),
 oQ 6 (.load1 (.t 5)),
 mW 2 6])
 (.ret (some [2]))))⟩
theorem c_spec_l17Ring_ok : trF Tryz.prog ⟨[], [2], false, false⟩ Tryz.f66 = some c_spec_l17Ring := by kernel_rfl
def c_spec_RingTake : IFn := ⟨36, [.cell 2 10 true, .t 3, .t 4],
  (.seq (.reg false [oQ 1 (.box (.t 0) 45),
 oQ 2 (.alloc [.int .i64 0, .int .i64 0, .int .i64 0, .int .i64 0, .int .i64 0, .int .i64 0, .int .i64 0, .int .i64 0, .int .i64 0, .int .i64 0] 45),
 oQ 3 (.mov (iK 0)),
 oQ 4 (.mov (iK 0))])
 (.seq (.block 0 none none
 (.seq (.reg false [oQ 7 (.loadN (.t 1) 10),
 oQ 8 (.call 58 [.t 7]),
 oQ 9 (.un .not (.t 8)),
 mW 6 9])
 (.cond (.t 6) (.seq (.reg false [oQ 10 (.loadN (.t 1) 10),
 nQ (.store (.t 2) (.t 10) 10),
 oQ 3 (.mov (iK 0)),
 oQ 4 (.mov (iK 1))])
 (.ret (some [2, 3, 4]))) (.seq (.reg false [oQ 12 (.fld (.t 1) 9),
 oQ 13 (.load1 (.t 12)),
 oQ 14 (.bin .eql (.t 13) (iK 0)),
 mW 11 14])
 (.cond (.t 11) (.seq (.reg false [oQ 15 (.loadN (.t 1) 10),
 nQ (.store (.t 2) (.t 15) 10),
 oQ 3 (.mov (iK 0)),
 oQ 4 (.mov (iK 3))])
 (.ret (some [2, 3, 4]))) .skip)))))
 (.seq (.reg false [oQ 16 (.fld (.t 1) 8),
 oQ 17 (.load1 (.t 16)),
 oQ 18 (.fld (.t 1) 0),
 oQ 19 (.ixa (.t 18) (.t 17) 8 1),
 oQ 20 (.load1 (.t 19)),
 mW 5 20])
 (.seq (.reg false [oQ 21 (.fld (.t 1) 8),
 oQ 22 (.load1 (.t 21)),
 oQ 23 (.fld (.t 1) 0),
 oQ 24 (.ixa (.t 23) (.t 22) 8 1),
 nQ (.store (.t 24) (iK 0) 1)])
 (.seq (.reg false [oQ 25 (.fld (.t 1) 8),
 oQ 26 (.load1 (.t 25)),
 oQ 27 (.bin .add (.t 26) (iK 1)),
 oQ 28 (.bin .rem (.t 27) (iK 8)),
 oQ 29 (.fld (.t 1) 8),
 nQ (.store (.t 29) (.t 28) 1)])
 (.seq (.reg false [oQ 30 (.fld (.t 1) 9),
 oQ 31 (.load1 (.t 30)),
 oQ 32 (.bin .sub (.t 31) (iK 1)),
 oQ 33 (.fld (.t 1) 9),
 nQ (.store (.t 33) (.t 32) 1)])
 (.seq (.reg false [oQ 34 (.loadN (.t 1) 10),
 mW 35 5,
 nQ (.store (.t 2) (.t 34) 10),
 mW 3 35,
 oQ 4 (.mov (iK 0))])
 (.ret (some [2, 3, 4])))))))))⟩
theorem c_spec_RingTake_ok : trF Tryz.prog ⟨[], [2, 3, 4], false, false⟩ Tryz.f67 = some c_spec_RingTake := by kernel_rfl
def c_spec_TreeAdd_b0 : IC :=
  (.seq (.seq (.reg false [mW 31 9,
 oQ 32 (.bin .lss (.t 31) (iK 16)),
 mW 33 32,
 ⟨some 34, some (33, true), .mov (.t 9)⟩,
 ⟨some 35, some (33, true), .fld (.t 2) 0⟩,
 ⟨some 36, some (33, true), .ixa (.t 35) (.t 34) 16 4⟩,
 ⟨some 37, some (33, true), .fld (.t 36) 0⟩,
 ⟨some 38, some (33, true), .load1 (.t 37)⟩,
 oQ 39 (.pick (.t 33) (.t 38) (bK false))])
 (.cond (.t 39) .skip (.exit 0)))
 (.block 1 none none
 (.reg false [mW 40 9,
 oQ 41 (.bin .add (.t 40) (iK 1)),
 mW 9 41])))
def c_spec_TreeAdd : IFn := ⟨55, [.cell 4 65 true, .t 5],
  (.seq (.reg false [oQ 2 (.box (.t 0) 49),
 oQ 4 (.alloc Z65 49),
 oQ 5 (.mov (iK 0))])
 (.seq (.seq (.reg false [oQ 10 (.loadN (.t 2) 65),
 oQ 11 (.call 59 [.t 10]),
 oQ 12 (.un .not (.t 11)),
 mW 13 12,
 ⟨some 14, some (13, false), .mov (.t 1)⟩,
 ⟨some 15, some (13, false), .call 37 [.t 14]⟩,
 ⟨some 16, some (13, false), .un .not (.t 15)⟩,
 oQ 17 (.pick (.t 13) (bK true) (.t 16))])
 (.cond (.t 17) (.seq (.reg false [oQ 18 (.loadN (.t 2) 65),
 nQ (.store (.t 4) (.t 18) 65),
 oQ 5 (.mov (iK 1))])
 (.ret (some [4, 5]))) .skip))
 (.seq (.reg false [oQ 20 (.loadN (.t 2) 65),
 mW 21 1,
 oQ 22 (.call 103 [.t 20, .t 21]),
 mW 19 22,
 oQ 23 (.ext (.t 19) 0),
 oQ 24 (.ext (.t 19) 1),
 oQ 25 (.ext (.t 19) 2),
 mW 6 23,
 mW 7 24,
 mW 8 25])
 (.seq (.seq (.reg false [mW 26 8,
 oQ 27 (.un .not (.t 26))])
 (.cond (.t 27) (.seq (.reg false [oQ 28 (.loadN (.t 2) 65),
 nQ (.store (.t 4) (.t 28) 65),
 oQ 5 (.mov (iK 2))])
 (.ret (some [4, 5]))) .skip))
 (.seq (.seq (.reg false [mW 29 7])
 (.cond (.t 29) (.seq (.reg false [oQ 30 (.loadN (.t 2) 65),
 nQ (.store (.t 4) (.t 30) 65),
 oQ 5 (.mov (iK 4))])
 (.ret (some [4, 5]))) .skip))
 (.seq (.reg false [oQ 9 (.mov (iK 0))])
 (.seq (.block 0 (some [1, 2, 4, 6, 9]) (some [1, 2, 4, 6, 9])
 (.loop c_spec_TreeAdd_b0))
 (.seq (.seq (.reg false [mW 42 9,
 oQ 43 (.bin .eql (.t 42) (iK 16))])
 (.cond (.t 43) (.seq (.reg false [oQ 44 (.loadN (.t 2) 65),
 nQ (.store (.t 4) (.t 44) 65),
 oQ 5 (.mov (iK 3))])
 (.ret (some [4, 5]))) .skip))
 (.seq (.reg false [mW 45 9,
 mW 46 1,
 oQ 47 (.bld [.bool false, .int .i64 0, .int .i64 0, .int .i64 0] [(0, (1, .k (.c (.bool true)))), (1, (1, .t 46)), (2, (1, .k (.c (.int .i64 (-1))))), (3, (1, .k (.c (.int .i64 (-1)))))]),
 oQ 48 (.fld (.t 2) 0),
 oQ 49 (.ixa (.t 48) (.t 45) 16 4),
 nQ (.store (.t 49) (.t 47) 4)])
 (.seq (.reg false [oQ 50 (.loadN (.t 2) 65),
 mW 51 6,
 mW 52 1,
 mW 53 9,
 oQ 54 (.call 104 [.t 50, .t 51, .t 52, .t 53]),
 nQ (.store (.t 4) (.t 54) 65),
 oQ 5 (.mov (iK 0))])
 (.ret (some [4, 5]))))))))))))⟩
theorem c_spec_TreeAdd_ok : trF Tryz.prog ⟨[(0, [1, 2, 4, 6, 9], [1, 2, 4, 6, 9])], [4, 5], false, false⟩ Tryz.f68 = some c_spec_TreeAdd := by kernel_rfl
def c_spec_l17Tree : IFn := ⟨7, [.t 2],
  (.seq (.reg false [oQ 2 (.mov (iK 0))])
 (.seq (.reg false [oQ 3 (.lit 6 1 [.int .i64 0] [(0, .k (.c (.int .i64 0))), (1, .k (.c (.int .i64 4))), (2, .k (.c (.int .i64 2))), (3, .k (.c (.int .i64 3))), (4, .k (.c (.int .i64 1))), (5, .k (.c (.int .i64 1)))] 3),
 mW 4 0,
 oQ 5 (.ixs (.t 3) (.t 4) 1),
 oQ 6 (.load1 (.t 5)),
 mW 2 6])
 (.ret (some [2]))))⟩
theorem c_spec_l17Tree_ok : trF Tryz.prog ⟨[], [2], false, false⟩ Tryz.f69 = some c_spec_l17Tree := by kernel_rfl
def c_spec_TreeDrop_b0 : IC :=
  (.seq (.seq (.reg false [mW 63 14,
 oQ 64 (.fld (.t 2) 0),
 oQ 65 (.ixa (.t 64) (.t 63) 16 4),
 oQ 66 (.fld (.t 65) 2),
 oQ 67 (.load1 (.t 66)),
 oQ 68 (.bin .geq (.t 67) (iK 0))])
 (.cond (.t 68) .skip (.exit 0)))
 (.block 1 none none
 (.seq (.reg false [mW 69 14,
 mW 13 69])
 (.seq (.reg false [mW 70 14,
 oQ 71 (.fld (.t 2) 0),
 oQ 72 (.ixa (.t 71) (.t 70) 16 4),
 oQ 73 (.fld (.t 72) 2),
 oQ 74 (.load1 (.t 73)),
 mW 14 74])
 (.reg false [mW 75 12,
 oQ 76 (.bin .add (.t 75) (iK 1)),
 mW 12 76])))))
def c_spec_TreeDrop : IFn := ⟨135, [.cell 4 65 true, .t 5],
  (.seq (.reg false [oQ 2 (.box (.t 0) 49),
 oQ 4 (.alloc Z65 49),
 oQ 5 (.mov (iK 0))])
 (.seq (.seq (.reg false [oQ 16 (.loadN (.t 2) 65),
 oQ 17 (.call 59 [.t 16]),
 oQ 18 (.un .not (.t 17)),
 mW 19 18,
 ⟨some 20, some (19, false), .mov (.t 1)⟩,
 ⟨some 21, some (19, false), .call 37 [.t 20]⟩,
 ⟨some 22, some (19, false), .un .not (.t 21)⟩,
 oQ 23 (.pick (.t 19) (bK true) (.t 22))])
 (.cond (.t 23) (.seq (.reg false [oQ 24 (.loadN (.t 2) 65),
 nQ (.store (.t 4) (.t 24) 65),
 oQ 5 (.mov (iK 1))])
 (.ret (some [4, 5]))) .skip))
 (.seq (.reg false [oQ 26 (.loadN (.t 2) 65),
 mW 27 1,
 oQ 28 (.call 103 [.t 26, .t 27]),
 mW 25 28,
 oQ 29 (.ext (.t 25) 0),
 oQ 30 (.ext (.t 25) 1),
 oQ 31 (.ext (.t 25) 2),
 mW 6 29,
 mW 7 30,
 mW 8 31])
 (.seq (.seq (.reg false [mW 32 8,
 oQ 33 (.un .not (.t 32))])
 (.cond (.t 33) (.seq (.reg false [oQ 34 (.loadN (.t 2) 65),
 nQ (.store (.t 4) (.t 34) 65),
 oQ 5 (.mov (iK 2))])
 (.ret (some [4, 5]))) .skip))
 (.seq (.seq (.reg false [mW 35 7,
 oQ 36 (.un .not (.t 35))])
 (.cond (.t 36) (.seq (.reg false [oQ 37 (.loadN (.t 2) 65),
 nQ (.store (.t 4) (.t 37) 65),
 oQ 5 (.mov (iK 5))])
 (.ret (some [4, 5]))) .skip))
 (.seq (.reg false [oQ 38 (.loadN (.t 2) 65),
 oQ 9 (.alloc Z65 49),
 nQ (.store (.t 9) (.t 38) 65)])
 (.seq (.reg false [mW 39 6,
 mW 40 6,
 oQ 41 (.len (.t 40)),
 oQ 42 (.bin .sub (.t 41) (iK 1)),
 oQ 43 (.ixs (.t 39) (.t 42) 1),
 oQ 44 (.load1 (.t 43)),
 mW 10 44])
 (.seq (.reg false [mW 45 10,
 oQ 46 (.fld (.t 2) 0),
 oQ 47 (.ixa (.t 46) (.t 45) 16 4),
 oQ 48 (.loadN (.t 47) 4),
 oQ 11 (.alloc [.bool false, .int .i64 0, .int .i64 0, .int .i64 0] 46),
 nQ (.store (.t 11) (.t 48) 4)])
 (.seq (.seq (.reg false [oQ 49 (.fld (.t 11) 2),
 oQ 50 (.load1 (.t 49)),
 oQ 51 (.bin .geq (.t 50) (iK 0)),
 mW 52 51,
 ⟨some 53, some (52, true), .fld (.t 11) 3⟩,
 ⟨some 54, some (52, true), .load1 (.t 53)⟩,
 ⟨some 55, some (52, true), .bin .geq (.t 54) (iK 0)⟩,
 oQ 56 (.pick (.t 52) (.t 55) (bK false))])
 (.cond (.t 56) (.seq (.reg false [mW 57 6,
 oQ 58 (.len (.t 57)),
 oQ 59 (.bin .add (.t 58) (iK 1)),
 mW 12 59])
 (.seq (.reg true [mW 60 10,
 oQ 61 (.fld (.t 11) 3),
 oQ 62 (.load1 (.t 61)),
 mW 13 60,
 mW 14 62])
 (.seq (.block 0 (some [2, 4, 9, 10, 12, 13, 14]) (some [2, 4, 9, 10, 12, 13, 14])
 (.loop c_spec_TreeDrop_b0))
 (.seq (.seq (.reg false [mW 77 12,
 oQ 78 (.bin .gtr (.t 77) (iK 8))])
 (.cond (.t 78) (.seq (.reg false [oQ 79 (.loadN (.t 9) 65),
 nQ (.store (.t 4) (.t 79) 65),
 oQ 5 (.mov (iK 2))])
 (.ret (some [4, 5]))) .skip))
 (.seq (.reg false [mW 80 10,
 mW 81 14,
 oQ 82 (.fld (.t 2) 0),
 oQ 83 (.ixa (.t 82) (.t 81) 16 4),
 oQ 84 (.fld (.t 83) 1),
 oQ 85 (.load1 (.t 84)),
 oQ 86 (.fld (.t 2) 0),
 oQ 87 (.ixa (.t 86) (.t 80) 16 4),
 oQ 88 (.fld (.t 87) 1),
 nQ (.store (.t 88) (.t 85) 1)])
 (.seq (.seq (.reg false [mW 89 13,
 mW 90 10,
 oQ 91 (.bin .eql (.t 89) (.t 90))])
 (.cond (.t 91) (.reg false [mW 92 10,
 mW 93 14,
 oQ 94 (.fld (.t 2) 0),
 oQ 95 (.ixa (.t 94) (.t 93) 16 4),
 oQ 96 (.fld (.t 95) 3),
 oQ 97 (.load1 (.t 96)),
 oQ 98 (.fld (.t 2) 0),
 oQ 99 (.ixa (.t 98) (.t 92) 16 4),
 oQ 100 (.fld (.t 99) 3),
 nQ (.store (.t 100) (.t 97) 1)]) (.reg false [mW 101 13,
 mW 102 14,
 oQ 103 (.fld (.t 2) 0),
 oQ 104 (.ixa (.t 103) (.t 102) 16 4),
 oQ 105 (.fld (.t 104) 3),
 oQ 106 (.load1 (.t 105)),
 oQ 107 (.fld (.t 2) 0),
 oQ 108 (.ixa (.t 107) (.t 101) 16 4),
 oQ 109 (.fld (.t 108) 2),
 nQ (.store (.t 109) (.t 106) 1)])))
 (.seq (.reg false [mW 110 14,
 oQ 111 (.bld [.bool false, .int .i64 0, .int .i64 0, .int .i64 0] []),
 oQ 112 (.fld (.t 2) 0),
 oQ 113 (.ixa (.t 112) (.t 110) 16 4),
 nQ (.store (.t 113) (.t 111) 4)])
 (.seq (.reg false [oQ 114 (.loadN (.t 2) 65),
 nQ (.store (.t 4) (.t 114) 65),
 oQ 5 (.mov (iK 0))])
 (.ret (some [4, 5])))))))))) .skip))
 (.seq (.reg false [oQ 115 (.fld (.t 11) 2),
 oQ 116 (.load1 (.t 115)),
 mW 15 116])
 (.seq (.seq (.reg false [mW 117 15,
 oQ 118 (.bin .lss (.t 117) (iK 0))])
 (.cond (.t 118) (.reg false [oQ 119 (.fld (.t 11) 3),
 oQ 120 (.load1 (.t 119)),
 mW 15 120]) .skip))
 (.seq (.regE 0 [⟨oQ 121 (.loadN (.t 2) 65), 0, 0, false, []⟩,
 ⟨mW 122 6, 1, 0, false, []⟩,
 ⟨mW 123 6, 2, 0, false, []⟩,
 ⟨oQ 124 (.len (.t 123)), 3, 0, false, []⟩,
 ⟨oQ 125 (.bin .sub (.t 124) (iK 1)), 4, 0, false, []⟩,
 ⟨oQ 126 (.sls (.t 122) 1 none (some (.t 125))), 5, 0, false, []⟩,
 ⟨mW 127 1, 6, 0, false, []⟩,
 ⟨mW 128 15, 7, 0, false, []⟩,
 ⟨oQ 129 (.call 104 [.t 121, .t 126, .t 127, .t 128]), 8, 0, false, []⟩,
 ⟨nQ (.store (.t 2) (.t 129) 65), 9, 0, false, []⟩])
 (.seq (.reg false [mW 130 10,
 oQ 131 (.bld [.bool false, .int .i64 0, .int .i64 0, .int .i64 0] []),
 oQ 132 (.fld (.t 2) 0),
 oQ 133 (.ixa (.t 132) (.t 130) 16 4),
 nQ (.store (.t 133) (.t 131) 4)])
 (.seq (.reg false [oQ 134 (.loadN (.t 2) 65),
 nQ (.store (.t 4) (.t 134) 65),
 oQ 5 (.mov (iK 0))])
 (.ret (some [4, 5]))))))))))))))))⟩
theorem c_spec_TreeDrop_ok : trF Tryz.prog ⟨[(0, [2, 4, 9, 10, 12, 13, 14], [2, 4, 9, 10, 12, 13, 14])], [4, 5], false, false⟩ Tryz.f70 = some c_spec_TreeDrop := by kernel_rfl
def c_spec_SetAdd_b0 : IC :=
  (.seq (.seq (.reg false [mW 23 6,
 mW 24 1,
 mW 25 6,
 oQ 26 (.len (.t 25)),
 oQ 27 (.call 101 [.t 24, .t 26]),
 oQ 28 (.ixs (.t 23) (.t 27) 1),
 oQ 29 (.load1 (.t 28)),
 oQ 30 (.len (.t 29)),
 oQ 31 (.bin .eql (.t 30) (iK 3))])
 (.cond (.t 31) .skip (.exit 0)))
 (.block 1 none none
 (.seq (.seq (.reg false [mW 32 6,
 oQ 33 (.len (.t 32)),
 oQ 34 (.bin .eql (.t 33) (iK 8))])
 (.cond (.t 34) (.seq (.reg false [mW 35 0,
 oQ 36 (.call 56 [.t 35]),
 mW 4 36,
 oQ 5 (.mov (iK 3))])
 (.ret (some [4, 5]))) .skip))
 (.reg false [mW 37 6,
 oQ 38 (.call 106 [.t 37]),
 mW 6 38]))))
def c_spec_SetAdd : IFn := ⟨53, [.t 4, .t 5],
  (.seq (.reg false [oQ 4 (.mov (.k (.c .nils))),
 oQ 5 (.mov (iK 0))])
 (.seq (.reg false [mW 8 0,
 oQ 9 (.call 56 [.t 8]),
 mW 6 9])
 (.seq (.seq (.reg false [mW 10 0,
 oQ 11 (.call 60 [.t 10]),
 oQ 12 (.un .not (.t 11)),
 mW 13 12,
 ⟨some 14, some (13, false), .mov (.t 1)⟩,
 ⟨some 15, some (13, false), .call 37 [.t 14]⟩,
 ⟨some 16, some (13, false), .un .not (.t 15)⟩,
 oQ 17 (.pick (.t 13) (bK true) (.t 16))])
 (.cond (.t 17) (.seq (.reg false [mW 18 6,
 mW 4 18,
 oQ 5 (.mov (iK 1))])
 (.ret (some [4, 5]))) .skip))
 (.seq (.seq (.reg false [mW 19 0,
 mW 20 1,
 oQ 21 (.call 105 [.t 19, .t 20])])
 (.cond (.t 21) (.seq (.reg false [mW 22 6,
 mW 4 22,
 oQ 5 (.mov (iK 2))])
 (.ret (some [4, 5]))) .skip))
 (.seq (.block 0 (some [0, 1, 6]) (some [1, 6])
 (.loop c_spec_SetAdd_b0))
 (.seq (.reg false [mW 39 1,
 mW 40 6,
 oQ 41 (.len (.t 40)),
 oQ 42 (.call 101 [.t 39, .t 41]),
 mW 7 42])
 (.seq (.reg false [mW 43 6,
 mW 44 7,
 mW 45 6,
 mW 46 7,
 oQ 47 (.ixs (.t 45) (.t 46) 1),
 oQ 48 (.load1 (.t 47)),
 mW 49 1,
 oQ 50 (.call 107 [.t 48, .t 49]),
 oQ 51 (.ixs (.t 43) (.t 44) 1),
 nQ (.store (.t 51) (.t 50) 1)])
 (.seq (.reg false [mW 52 6,
 mW 4 52,
 oQ 5 (.mov (iK 0))])
 (.ret (some [4, 5]))))))))))⟩
theorem c_spec_SetAdd_ok : trF Tryz.prog ⟨[(0, [0, 1, 6], [1, 6])], [4, 5], false, false⟩ Tryz.f71 = some c_spec_SetAdd := by kernel_rfl
def c_spec_l17Set : IFn := ⟨7, [.t 2],
  (.seq (.reg false [oQ 2 (.mov (iK 0))])
 (.seq (.reg false [oQ 3 (.lit 5 1 [.int .i64 0] [(0, .k (.c (.int .i64 0))), (1, .k (.c (.int .i64 4))), (2, .k (.c (.int .i64 1))), (3, .k (.c (.int .i64 3))), (4, .k (.c (.int .i64 1)))] 3),
 mW 4 0,
 oQ 5 (.ixs (.t 3) (.t 4) 1),
 oQ 6 (.load1 (.t 5)),
 mW 2 6])
 (.ret (some [2]))))⟩
theorem c_spec_l17Set_ok : trF Tryz.prog ⟨[], [2], false, false⟩ Tryz.f72 = some c_spec_l17Set := by kernel_rfl
def c_spec_SetDrop_b0 : IC :=
  (.seq (.seq (.reg false [mW 33 8,
 mW 34 0,
 mW 35 7,
 oQ 36 (.ixs (.t 34) (.t 35) 1),
 oQ 37 (.load1 (.t 36)),
 oQ 38 (.len (.t 37)),
 oQ 39 (.bin .lss (.t 33) (.t 38))])
 (.cond (.t 39) .skip (.exit 0)))
 (.seq (.block 1 none none
 (.seq (.reg false [mW 42 0,
 mW 43 7,
 oQ 44 (.ixs (.t 42) (.t 43) 1),
 oQ 45 (.load1 (.t 44)),
 mW 46 8,
 oQ 47 (.ixs (.t 45) (.t 46) 1),
 oQ 48 (.load1 (.t 47)),
 mW 49 1,
 oQ 50 (.bin .neq (.t 48) (.t 49))])
 (.cond (.t 50) (.regE 1 [⟨mW 51 6, 0, 0, false, []⟩,
 ⟨mW 52 7, 1, 0, false, []⟩,
 ⟨mW 53 6, 2, 0, false, []⟩,
 ⟨mW 54 7, 3, 0, false, []⟩,
 ⟨oQ 55 (.ixs (.t 53) (.t 54) 1), 4, 0, false, []⟩,
 ⟨oQ 56 (.load1 (.t 55)), 5, 0, false, []⟩,
 ⟨mW 57 0, 6, 0, false, []⟩,
 ⟨mW 58 7, 7, 0, false, []⟩,
 ⟨oQ 59 (.ixs (.t 57) (.t 58) 1), 8, 0, false, []⟩,
 ⟨oQ 60 (.load1 (.t 59)), 9, 0, false, []⟩,
 ⟨mW 61 8, 10, 0, false, []⟩,
 ⟨oQ 62 (.ixs (.t 60) (.t 61) 1), 11, 0, false, []⟩,
 ⟨oQ 63 (.load1 (.t 62)), 12, 0, false, []⟩,
 ⟨oQ 64 (.lit 1 1 [.int .i64 0] [(0, .t 63)] 3), 13, 0, false, [4, 5]⟩,
 ⟨oQ 65 (.app (.t 56) (.t 64) 3 1 8), 14, 1, false, []⟩,
 ⟨oQ 66 (.ixs (.t 51) (.t 52) 1), 15, 1, false, []⟩,
 ⟨nQ (.store (.t 66) (.t 65) 1), 16, 1, false, []⟩]) .skip)))
 (.reg false [mW 40 8,
 oQ 41 (.bin .add (.t 40) (iK 1)),
 mW 8 41])))
def c_spec_SetDrop : IFn := ⟨68, [.t 4, .t 5],
  (.seq (.reg false [oQ 4 (.mov (.k (.c .nils))),
 oQ 5 (.mov (iK 0))])
 (.seq (.reg false [mW 9 0,
 oQ 10 (.call 56 [.t 9]),
 mW 6 10])
 (.seq (.seq (.reg false [mW 11 0,
 oQ 12 (.call 60 [.t 11]),
 oQ 13 (.un .not (.t 12)),
 mW 14 13,
 ⟨some 15, some (14, false), .mov (.t 1)⟩,
 ⟨some 16, some (14, false), .call 37 [.t 15]⟩,
 ⟨some 17, some (14, false), .un .not (.t 16)⟩,
 oQ 18 (.pick (.t 14) (bK true) (.t 17))])
 (.cond (.t 18) (.seq (.reg false [mW 19 6,
 mW 4 19,
 oQ 5 (.mov (iK 1))])
 (.ret (some [4, 5]))) .skip))
 (.seq (.seq (.reg false [mW 20 0,
 mW 21 1,
 oQ 22 (.call 105 [.t 20, .t 21]),
 oQ 23 (.un .not (.t 22))])
 (.cond (.t 23) (.seq (.reg false [mW 24 6,
 mW 4 24,
 oQ 5 (.mov (iK 4))])
 (.ret (some [4, 5]))) .skip))
 (.seq (.reg false [mW 25 1,
 mW 26 0,
 oQ 27 (.len (.t 26)),
 oQ 28 (.call 101 [.t 25, .t 27]),
 mW 7 28])
 (.seq (.reg false [mW 29 6,
 mW 30 7,
 oQ 31 (.lit 0 1 [.int .i64 0] [] 3),
 oQ 32 (.ixs (.t 29) (.t 30) 1),
 nQ (.store (.t 32) (.t 31) 1)])
 (.seq (.seq (.reg false [oQ 8 (.mov (iK 0))])
 (.block 0 (some [0, 1, 6, 7, 8]) (some [6])
 (.loop c_spec_SetDrop_b0)))
 (.seq (.reg false [mW 67 6,
 mW 4 67,
 oQ 5 (.mov (iK 0))])
 (.ret (some [4, 5]))))))))))⟩
theorem c_spec_SetDrop_ok : trF Tryz.prog ⟨[(0, [0, 1, 6, 7, 8], [6])], [4, 5], false, false⟩ Tryz.f73 = some c_spec_SetDrop := by kernel_rfl
def c_laws_toNodeA16_b0 : IC :=
  (.seq (.seq (.reg false [mW 5 4,
 oQ 6 (.bin .lss (.t 5) (iK 16))])
 (.cond (.t 6) .skip (.exit 0)))
 (.seq (.block 1 none none
 (.reg false [mW 9 4,
 mW 10 4,
 oQ 11 (.ixa (.t 1) (.t 10) 16 4),
 oQ 12 (.loadN (.t 11) 4),
 oQ 13 (.call 108 [.t 12]),
 oQ 14 (.ixa (.t 3) (.t 9) 16 4),
 nQ (.store (.t 14) (.t 13) 4)]))
 (.reg false [mW 7 4,
 oQ 8 (.bin .add (.t 7) (iK 1)),
 mW 4 8])))
def c_laws_toNodeA16 : IFn := ⟨16, [.cell 2 64 true],
  (.seq (.reg false [oQ 1 (.box (.t 0) 24),
 oQ 2 (.alloc Z64 42)])
 (.seq (.reg false [oQ 3 (.alloc Z64 42)])
 (.seq (.seq (.reg false [oQ 4 (.mov (iK 0))])
 (.block 0 (some [1, 2, 3, 4]) (some [2, 3])
 (.loop c_laws_toNodeA16_b0)))
 (.seq (.reg false [oQ 15 (.loadN (.t 3) 64),
 nQ (.store (.t 2) (.t 15) 64)])
 (.ret (some [2]))))))⟩
theorem c_laws_toNodeA16_ok : trF Tryz.prog ⟨[(0, [1, 2, 3, 4], [2, 3])], [2], false, false⟩ Tryz.f74 = some c_laws_toNodeA16 := by kernel_rfl
def c_laws_toIntA8_b0 : IC :=
  (.seq (.seq (.reg false [mW 5 4,
 oQ 6 (.bin .lss (.t 5) (iK 8))])
 (.cond (.t 6) .skip (.exit 0)))
 (.seq (.block 1 none none
 (.reg false [mW 9 4,
 mW 10 4,
 oQ 11 (.ixa (.t 1) (.t 10) 8 1),
 oQ 12 (.load1 (.t 11)),
 oQ 13 (.ixa (.t 3) (.t 9) 8 1),
 nQ (.store (.t 13) (.t 12) 1)]))
 (.reg false [mW 7 4,
 oQ 8 (.bin .add (.t 7) (iK 1)),
 mW 4 8])))
def c_laws_toIntA8 : IFn := ⟨15, [.cell 2 8 true],
  (.seq (.reg false [oQ 1 (.box (.t 0) 27),
 oQ 2 (.alloc [.int .i64 0, .int .i64 0, .int .i64 0, .int .i64 0, .int .i64 0, .int .i64 0, .int .i64 0, .int .i64 0] 27)])
 (.seq (.reg false [oQ 3 (.alloc [.int .i64 0, .int .i64 0, .int .i64 0, .int .i64 0, .int .i64 0, .int .i64 0, .int .i64 0, .int .i64 0] 27)])
 (.seq (.seq (.reg false [oQ 4 (.mov (iK 0))])
 (.block 0 (some [1, 2, 3, 4]) (some [2, 3])
 (.loop c_laws_toIntA8_b0)))
 (.seq (.reg false [oQ 14 (.loadN (.t 3) 8),
 nQ (.store (.t 2) (.t 14) 8)])
 (.ret (some [2]))))))⟩
theorem c_laws_toIntA8_ok : trF Tryz.prog ⟨[(0, [1, 2, 3, 4], [2, 3])], [2], false, false⟩ Tryz.f75 = some c_laws_toIntA8 := by kernel_rfl
def c_laws_toTwigA16_b0 : IC :=
  (.seq (.seq (.reg false [mW 5 4,
 oQ 6 (.bin .lss (.t 5) (iK 16))])
 (.cond (.t 6) .skip (.exit 0)))
 (.seq (.block 1 none none
 (.reg false [mW 9 4,
 mW 10 4,
 oQ 11 (.ixa (.t 1) (.t 10) 16 4),
 oQ 12 (.loadN (.t 11) 4),
 oQ 13 (.call 109 [.t 12]),
 oQ 14 (.ixa (.t 3) (.t 9) 16 4),
 nQ (.store (.t 14) (.t 13) 4)]))
 (.reg false [mW 7 4,
 oQ 8 (.bin .add (.t 7) (iK 1)),
 mW 4 8])))
def c_laws_toTwigA16 : IFn := ⟨16, [.cell 2 64 true],
  (.seq (.reg false [oQ 1 (.box (.t 0) 32),
 oQ 2 (.alloc Z64 47)])
 (.seq (.reg false [oQ 3 (.alloc Z64 47)])
 (.seq (.seq (.reg false [oQ 4 (.mov (iK 0))])
 (.block 0 (some [1, 2, 3, 4]) (some [2, 3])
 (.loop c_laws_toTwigA16_b0)))
 (.seq (.reg false [oQ 15 (.loadN (.t 3) 64),
 nQ (.store (.t 2) (.t 15) 64)])
 (.ret (some [2]))))))⟩
theorem c_laws_toTwigA16_ok : trF Tryz.prog ⟨[(0, [1, 2, 3, 4], [2, 3])], [2], false, false⟩ Tryz.f76 = some c_laws_toTwigA16 := by kernel_rfl
def c_laws_toIntS_b0 : IC :=
  (.seq (.seq (.reg false [mW 8 4,
 mW 9 0,
 oQ 10 (.len (.t 9)),
 oQ 11 (.bin .lss (.t 8) (.t 10))])
 (.cond (.t 11) .skip (.exit 0)))
 (.seq (.block 1 none none
 (.reg false [mW 14 3,
 mW 15 4,
 mW 16 0,
 mW 17 4,
 oQ 18 (.ixs (.t 16) (.t 17) 1),
 oQ 19 (.load1 (.t 18)),
 oQ 20 (.ixs (.t 14) (.t 15) 1),
 nQ (.store (.t 20) (.t 19) 1)]))
 (.reg false [mW 12 4,
 oQ 13 (.bin .add (.t 12) (iK 1)),
 mW 4 13])))
def c_laws_toIntS : IFn := ⟨22, [.t 2],
  (.seq (.reg false [oQ 2 (.mov (.k (.c .nils)))])
 (.seq (.reg false [mW 5 0,
 oQ 6 (.len (.t 5)),
 oQ 7 (.mks (.t 6) [.int .i64 0] 3 8),
 mW 3 7])
 (.seq (.seq (.reg false [oQ 4 (.mov (iK 0))])
 (.block 0 (some [0, 3, 4]) (some [3])
 (.loop c_laws_toIntS_b0)))
 (.seq (.reg false [mW 21 3,
 mW 2 21])
 (.ret (some [2]))))))⟩
theorem c_laws_toIntS_ok : trF Tryz.prog ⟨[(0, [0, 3, 4], [3])], [2], false, false⟩ Tryz.f77 = some c_laws_toIntS := by kernel_rfl
def c_impl_ownSet_b0 : IC :=
  (.seq (.reg false [oQ 10 (.bin .lss (.t 9) (.t 8))])
 (.seq (.cond (.t 10) .skip (.exit 0))
 (.seq (.block 1 none none
 (.seq (.reg false [oQ 11 (.ixs (.t 7) (.t 9) 1),
 oQ 12 (.load1 (.t 11)),
 mW 5 12])
 (.reg false [mW 13 3,
 mW 14 5,
 oQ 15 (.call 110 [.t 14]),
 oQ 16 (.lit 1 1 [.nils] [(0, .t 15)] 103),
 oQ 17 (.app (.t 13) (.t 16) 103 1 24),
 mW 3 17])))
 (.reg false [oQ 18 (.bin .add (.t 9) (iK 1)),
 mW 9 18]))))
def c_impl_ownSet : IFn := ⟨20, [.t 2],
  (.seq (.reg false [oQ 2 (.mov (.k (.c .nils)))])
 (.seq (.reg false [oQ 6 (.lit 0 1 [.nils] [] 103),
 mW 3 6])
 (.seq (.seq (.reg false [mW 7 0,
 oQ 8 (.len (.t 7)),
 oQ 9 (.mov (iK 0))])
 (.block 0 (some [3, 7, 8, 9]) (some [3])
 (.loop c_impl_ownSet_b0)))
 (.seq (.reg false [mW 19 3,
 mW 2 19])
 (.ret (some [2]))))))⟩
theorem c_impl_ownSet_ok : trF Tryz.prog ⟨[(0, [3, 7, 8, 9], [3])], [2], false, false⟩ Tryz.f78 = some c_impl_ownSet := by kernel_rfl
def c_impl_ChainOk_b0 : IC :=
  (.seq (.reg false [oQ 12 (.bin .lss (.t 11) (iK 16))])
 (.seq (.cond (.t 12) .skip (.exit 0))
 (.seq (.block 1 none none
 (.seq (.reg false [oQ 13 (.idx (.t 10) (.t 11) 16 4 true),
 oQ 6 (.alloc [.bool false, .int .i64 0, .int .i64 0, .int .i64 0] 41),
 nQ (.store (.t 6) (.t 13) 4)])
 (.block 2 none none
 (.seq (.reg false [oQ 15 (.fld (.t 6) 0),
 oQ 16 (.load1 (.t 15)),
 mW 14 16])
 (.cond (.t 14) (.seq (.reg false [mW 17 3,
 oQ 18 (.bin .add (.t 17) (iK 1)),
 mW 3 18])
 (.seq (.reg false [oQ 19 (.fld (.t 6) 1),
 oQ 20 (.load1 (.t 19)),
 oQ 21 (.call 46 [.t 20]),
 oQ 22 (.un .not (.t 21)),
 mW 23 22,
 ⟨some 24, some (23, false), .fld (.t 6) 2⟩,
 ⟨some 25, some (23, false), .load1 (.t 24)⟩,
 ⟨some 26, some (23, false), .call 46 [.t 25]⟩,
 ⟨some 27, some (23, false), .un .not (.t 26)⟩,
 oQ 28 (.pick (.t 23) (bK true) (.t 27)),
 mW 29 28,
 ⟨some 30, some (29, false), .fld (.t 6) 3⟩,
 ⟨some 31, some (29, false), .load1 (.t 30)⟩,
 ⟨some 32, some (29, false), .call 45 [.t 31, .k (.c (.int .i64 (-1))), .k (.c (.int .i64 15))]⟩,
 ⟨some 33, some (29, false), .un .not (.t 32)⟩,
 oQ 34 (.pick (.t 29) (bK true) (.t 33))])
 (.cond (.t 34) (.seq (.reg false [oQ 2 (.mov (bK false))])
 (.ret (some [2]))) .skip))) (.seq (.reg false [oQ 36 (.loadN (.t 6) 4),
 oQ 37 (.bld [.bool false, .int .i64 0, .int .i64 0, .int .i64 0] []),
 oQ 38 (.eqa true [none, some .i64, some .i64, some .i64] (.t 36) (.t 37)),
 mW 35 38])
 (.cond (.t 35) (.seq (.reg false [oQ 2 (.mov (bK false))])
 (.ret (some [2]))) .skip)))))))
 (.reg false [oQ 39 (.bin .add (.t 11) (iK 1)),
 mW 11 39]))))
def c_impl_ChainOk_b1 : IC :=
  (.seq (.seq (.reg false [mW 42 8,
 oQ 43 (.bin .neq (.t 42) (iK (-1)))])
 (.cond (.t 43) .skip (.exit 3)))
 (.seq (.block 4 none none
 (.seq (.seq (.reg false [mW 49 8,
 oQ 50 (.call 45 [.t 49, .k (.c (.int .i64 0)), .k (.c (.int .i64 15))]),
 oQ 51 (.un .not (.t 50)),
 mW 52 51,
 ⟨some 53, some (52, false), .mov (.t 8)⟩,
 ⟨some 54, some (52, false), .fld (.t 1) 0⟩,
 ⟨some 55, some (52, false), .ixa (.t 54) (.t 53) 16 4⟩,
 ⟨some 56, some (52, false), .fld (.t 55) 0⟩,
 ⟨some 57, some (52, false), .load1 (.t 56)⟩,
 ⟨some 58, some (52, false), .un .not (.t 57)⟩,
 oQ 59 (.pick (.t 52) (bK true) (.t 58)),
 mW 60 59,
 ⟨some 61, some (60, false), .mov (.t 8)⟩,
 ⟨some 62, some (60, false), .fld (.t 1) 0⟩,
 ⟨some 63, some (60, false), .ixa (.t 62) (.t 61) 16 4⟩,
 ⟨some 64, some (60, false), .fld (.t 63) 1⟩,
 ⟨some 65, some (60, false), .load1 (.t 64)⟩,
 ⟨some 66, some (60, false), .mov (.t 7)⟩,
 ⟨some 67, some (60, false), .bin .leq (.t 65) (.t 66)⟩,
 oQ 68 (.pick (.t 60) (bK true) (.t 67))])
 (.cond (.t 68) (.seq (.reg false [oQ 2 (.mov (bK false))])
 (.ret (some [2]))) .skip))
 (.seq (.reg false [mW 69 8,
 oQ 70 (.fld (.t 1) 0),
 oQ 71 (.ixa (.t 70) (.t 69) 16 4),
 oQ 72 (.fld (.t 71) 1),
 oQ 73 (.load1 (.t 72)),
 mW 7 73])
 (.reg false [mW 74 4,
 oQ 75 (.bin .add (.t 74) (iK 1)),
 mW 4 75]))))
 (.reg false [mW 44 8,
 oQ 45 (.fld (.t 1) 0),
 oQ 46 (.ixa (.t 45) (.t 44) 16 4),
 oQ 47 (.fld (.t 46) 3),
 oQ 48 (.load1 (.t 47)),
 mW 8 48])))
def c_impl_ChainOk : IFn := ⟨79, [.t 2],
  (.seq (.reg false [oQ 1 (.box (.t 0) 44),
 oQ 2 (.mov (bK false))])
 (.seq (.reg false [oQ 3 (.mov (iK 0)),
 oQ 4 (.mov (iK 0))])
 (.seq (.seq (.reg false [oQ 9 (.fld (.t 1) 0),
 oQ 10 (.loadN (.t 9) 64),
 oQ 11 (.mov (iK 0))])
 (.block 0 (some [1, 3, 4, 10, 11]) (some [1, 3, 4])
 (.loop c_impl_ChainOk_b0)))
 (.seq (.reg false [oQ 7 (.mov (iK (-1000000001)))])
 (.seq (.seq (.reg false [oQ 40 (.fld (.t 1) 64),
 oQ 41 (.load1 (.t 40)),
 mW 8 41])
 (.block 3 (some [1, 3, 4, 7, 8]) (some [3, 4])
 (.loop c_impl_ChainOk_b1)))
 (.seq (.reg false [mW 76 4,
 mW 77 3,
 oQ 78 (.bin .eql (.t 76) (.t 77)),
 mW 2 78])
 (.ret (some [2]))))))))⟩
theorem c_impl_ChainOk_ok : trF Tryz.prog ⟨[(0, [1, 3, 4, 10, 11], [1, 3, 4]), (3, [1, 3, 4, 7, 8], [3, 4])], [2], false, false⟩ Tryz.f79 = some c_impl_ChainOk := by kernel_rfl
def c_impl_RingOk_b0 : IC :=
  (.seq (.seq (.reg false [mW 22 3,
 oQ 23 (.bin .lss (.t 22) (iK 8))])
 (.cond (.t 23) .skip (.exit 0)))
 (.seq (.block 1 none none
 (.seq (.reg false [oQ 26 (.fld (.t 1) 8),
 oQ 27 (.load1 (.t 26)),
 mW 28 3,
 oQ 29 (.bin .add (.t 27) (.t 28)),
 oQ 30 (.bin .rem (.t 29) (iK 8)),
 oQ 31 (.fld (.t 1) 0),
 oQ 32 (.ixa (.t 31) (.t 30) 8 1),
 oQ 33 (.load1 (.t 32)),
 oQ 34 (.bin .neq (.t 33) (iK 0))])
 (.cond (.t 34) (.seq (.reg false [oQ 2 (.mov (bK false))])
 (.ret (some [2]))) .skip)))
 (.reg false [mW 24 3,
 oQ 25 (.bin .add (.t 24) (iK 1)),
 mW 3 25])))
def c_impl_RingOk : IFn := ⟨35, [.t 2],
  (.seq (.reg false [oQ 1 (.box (.t 0) 45),
 oQ 2 (.mov (bK false))])
 (.seq (.seq (.reg false [oQ 4 (.fld (.t 1) 8),
 oQ 5 (.load1 (.t 4)),
 oQ 6 (.call 45 [.t 5, .k (.c (.int .i64 0)), .k (.c (.int .i64 7))]),
 oQ 7 (.un .not (.t 6)),
 mW 8 7,
 ⟨some 9, some (8, false), .fld (.t 1) 9⟩,
 ⟨some 10, some (8, false), .load1 (.t 9)⟩,
 ⟨some 11, some (8, false), .call 45 [.t 10, .k (.c (.int .i64 0)), .k (.c (.int .i64 8))]⟩,
 ⟨some 12, some (8, false), .un .not (.t 11)⟩,
 oQ 13 (.pick (.t 8) (bK true) (.t 12)),
 mW 14 13,
 ⟨some 15, some (14, false), .fld (.t 1) 0⟩,
 ⟨some 16, some (14, false), .sla (.t 15) 8 1 none none⟩,
 ⟨some 17, some (14, false), .call 111 [.t 16]⟩,
 ⟨some 18, some (14, false), .un .not (.t 17)⟩,
 oQ 19 (.pick (.t 14) (bK true) (.t 18))])
 (.cond (.t 19) (.seq (.reg false [oQ 2 (.mov (bK false))])
 (.ret (some [2]))) .skip))
 (.seq (.seq (.reg false [oQ 20 (.fld (.t 1) 9),
 oQ 21 (.load1 (.t 20)),
 mW 3 21])
 (.block 0 (some [1, 3]) (some [])
 (.loop c_impl_RingOk_b0)))
 (.seq (.reg false [oQ 2 (.mov (bK true))])
 (.ret (some [2]))))))⟩
theorem c_impl_RingOk_ok : trF Tryz.prog ⟨[(0, [1, 3], [])], [2], false, false⟩ Tryz.f80 = some c_impl_RingOk := by kernel_rfl
def c_impl_TreeOk_b0 : IC :=
  (.seq (.reg false [oQ 15 (.bin .lss (.t 14) (iK 16))])
 (.seq (.cond (.t 15) .skip (.exit 0))
 (.seq (.block 1 none none
 (.seq (.reg false [mW 16 14,
 oQ 17 (.idx (.t 13) (.t 14) 16 4 true),
 oQ 5 (.alloc [.bool false, .int .i64 0, .int .i64 0, .int .i64 0] 46),
 mW 4 16,
 nQ (.store (.t 5) (.t 17) 4)])
 (.seq (.reg true [oQ 18 (.fld (.t 5) 0),
 oQ 19 (.load1 (.t 18)),
 mW 20 4,
 oQ 21 (.ixa (.t 3) (.t 20) 16 1),
 oQ 22 (.load1 (.t 21)),
 oQ 23 (.binb true (.t 19) (.t 22)),
 mW 24 23,
 ⟨some 25, some (24, false), .fld (.t 5) 0⟩,
 ⟨some 26, some (24, false), .load1 (.t 25)⟩,
 ⟨some 27, some (24, false), .un .not (.t 26)⟩,
 ⟨some 28, some (24, false), .mov (.t 27)⟩,
 ⟨some 29, some (28, true), .loadN (.t 5) 4⟩,
 ⟨some 30, some (28, true), .bld [.bool false, .int .i64 0, .int .i64 0, .int .i64 0] []⟩,
 ⟨some 31, some (28, true), .eqa true [none, some .i64, some .i64, some .i64] (.t 29) (.t 30)⟩,
 ⟨some 32, some (24, false), .pick (.t 28) (.t 31) (bK false)⟩,
 oQ 33 (.pick (.t 24) (bK true) (.t 32))])
 (.cond (.t 33) (.seq (.reg false [oQ 2 (.mov (bK false))])
 (.ret (some [2]))) .skip))))
 (.reg false [oQ 34 (.bin .add (.t 14) (iK 1)),
 mW 14 34]))))
def c_impl_TreeOk : IFn := ⟨35, [.t 2],
  (.seq (.reg false [oQ 1 (.box (.t 0) 49),
 oQ 2 (.mov (bK false))])
 (.seq (.reg false [oQ 6 (.bld [.bool false, .bool false, .bool false, .bool false, .bool false, .bool false, .bool false, .bool false, .bool false, .bool false, .bool false, .bool false, .bool false, .bool false, .bool false, .bool false] []),
 oQ 3 (.alloc [.bool false, .bool false, .bool false, .bool false, .bool false, .bool false, .bool false, .bool false, .bool false, .bool false, .bool false, .bool false, .bool false, .bool false, .bool false, .bool false] 145),
 nQ (.store (.t 3) (.t 6) 16)])
 (.seq (.seq (.reg false [oQ 7 (.loadN (.t 1) 65),
 oQ 8 (.fld (.t 1) 64),
 oQ 9 (.load1 (.t 8)),
 oQ 10 (.call 112 [.t 7, .t 9, .k (.c (.int .i64 (-1000000000))), .k (.c (.int .i64 1000000000)), .t 3]),
 oQ 11 (.un .not (.t 10))])
 (.cond (.t 11) (.seq (.reg false [oQ 2 (.mov (bK false))])
 (.ret (some [2]))) .skip))
 (.seq (.seq (.reg false [oQ 12 (.fld (.t 1) 0),
 oQ 13 (.loadN (.t 12) 64),
 oQ 14 (.mov (iK 0))])
 (.block 0 (some [3, 13, 14]) (some [])
 (.loop c_impl_TreeOk_b0)))
 (.seq (.reg false [oQ 2 (.mov (bK true))])
 (.ret (some [2])))))))⟩
theorem c_impl_TreeOk_ok : trF Tryz.prog ⟨[(0, [3, 13, 14], [])], [2], false, false⟩ Tryz.f81 = some c_impl_TreeOk := by kernel_rfl
def c_impl_SetOk_b1 : IC :=
  (.seq (.reg false [oQ 34 (.bin .lss (.t 33) (.t 32))])
 (.seq (.cond (.t 34) .skip (.exit 2))
 (.seq (.block 3 none none
 (.seq (.reg false [mW 35 33,
 oQ 36 (.ixs (.t 31) (.t 33) 1),
 oQ 37 (.load1 (.t 36)),
 mW 6 35,
 mW 7 37])
 (.seq (.reg false [mW 38 6,
 oQ 39 (.bin .geq (.t 38) (iK 3)),
 mW 40 39,
 ⟨some 41, some (40, false), .mov (.t 7)⟩,
 ⟨some 42, some (40, false), .call 46 [.t 41]⟩,
 ⟨some 43, some (40, false), .un .not (.t 42)⟩,
 oQ 44 (.pick (.t 40) (bK true) (.t 43)),
 mW 45 44,
 ⟨some 46, some (45, false), .mov (.t 7)⟩,
 ⟨some 47, some (45, false), .mov (.t 3)⟩,
 ⟨some 48, some (45, false), .call 113 [.t 46, .t 47]⟩,
 ⟨some 49, some (45, false), .mov (.t 4)⟩,
 ⟨some 50, some (45, false), .bin .neq (.t 48) (.t 49)⟩,
 oQ 51 (.pick (.t 45) (bK true) (.t 50)),
 mW 52 51,
 ⟨some 53, some (52, false), .mov (.t 6)⟩,
 ⟨some 54, some (52, false), .bin .gtr (.t 53) (iK 0)⟩,
 ⟨some 55, some (52, false), .mov (.t 54)⟩,
 ⟨some 56, some (55, true), .mov (.t 5)⟩,
 ⟨some 57, some (55, true), .mov (.t 6)⟩,
 ⟨some 58, some (55, true), .bin .sub (.t 57) (iK 1)⟩,
 ⟨some 59, some (55, true), .ixs (.t 56) (.t 58) 1⟩,
 ⟨some 60, some (55, true), .load1 (.t 59)⟩,
 ⟨some 61, some (55, true), .mov (.t 7)⟩,
 ⟨some 62, some (55, true), .bin .geq (.t 60) (.t 61)⟩,
 ⟨some 63, some (52, false), .pick (.t 55) (.t 62) (bK false)⟩,
 oQ 64 (.pick (.t 52) (bK true) (.t 63))])
 (.cond (.t 64) (.seq (.reg false [oQ 2 (.mov (bK false))])
 (.ret (some [2]))) .skip))))
 (.reg false [oQ 65 (.bin .add (.t 33) (iK 1)),
 mW 33 65]))))
def c_impl_SetOk_b0 : IC :=
  (.seq (.reg false [oQ 27 (.bin .lss (.t 26) (.t 25))])
 (.seq (.cond (.t 27) .skip (.exit 0))
 (.seq (.block 1 none none
 (.seq (.reg false [mW 28 26,
 oQ 29 (.ixs (.t 24) (.t 26) 1),
 oQ 30 (.load1 (.t 29)),
 mW 4 28,
 mW 5 30])
 (.seq (.reg false [mW 31 5,
 oQ 32 (.len (.t 31)),
 oQ 33 (.mov (iK 0))])
 (.block 2 (some [3, 4, 5, 24, 25, 26, 31, 32, 33]) (some [3, 24, 25, 26])
 (.loop c_impl_SetOk_b1)))))
 (.reg false [oQ 66 (.bin .add (.t 26) (iK 1)),
 mW 26 66]))))
def c_impl_SetOk : IFn := ⟨67, [.t 2],
  (.seq (.reg false [oQ 2 (.mov (bK false))])
 (.seq (.reg false [mW 8 0,
 oQ 9 (.len (.t 8)),
 mW 3 9])
 (.seq (.seq (.reg false [mW 10 3,
 oQ 11 (.bin .neq (.t 10) (iK 1)),
 mW 12 11,
 ⟨some 13, some (12, true), .mov (.t 3)⟩,
 ⟨some 14, some (12, true), .bin .neq (.t 13) (iK 2)⟩,
 oQ 15 (.pick (.t 12) (.t 14) (bK false)),
 mW 16 15,
 ⟨some 17, some (16, true), .mov (.t 3)⟩,
 ⟨some 18, some (16, true), .bin .neq (.t 17) (iK 4)⟩,
 oQ 19 (.pick (.t 16) (.t 18) (bK false)),
 mW 20 19,
 ⟨some 21, some (20, true), .mov (.t 3)⟩,
 ⟨some 22, some (20, true), .bin .neq (.t 21) (iK 8)⟩,
 oQ 23 (.pick (.t 20) (.t 22) (bK false))])
 (.cond (.t 23) (.seq (.reg false [oQ 2 (.mov (bK false))])
 (.ret (some [2]))) .skip))
 (.seq (.seq (.reg false [mW 24 0,
 oQ 25 (.len (.t 24)),
 oQ 26 (.mov (iK 0))])
 (.block 0 (some [3, 24, 25, 26]) (some [])
 (.loop c_impl_SetOk_b0)))
 (.seq (.reg false [oQ 2 (.mov (bK true))])
 (.ret (some [2])))))))⟩
theorem c_impl_SetOk_ok : trF Tryz.prog ⟨[(0, [3, 24, 25, 26], []), (2, [3, 4, 5, 24, 25, 26, 31, 32, 33], [3, 24, 25, 26])], [2], false, false⟩ Tryz.f82 = some c_impl_SetOk := by kernel_rfl
def c_impl_MapPut_b0 : IC :=
  (.seq (.reg false [oQ 57 (.bin .lss (.t 56) (iK 16))])
 (.seq (.cond (.t 57) .skip (.exit 1))
 (.seq (.block 2 none none
 (.seq (.reg false [mW 58 56,
 oQ 59 (.idx (.t 55) (.t 56) 16 4 true),
 oQ 14 (.alloc [.bool false, .int .i64 0, .int .i64 0, .int .i64 0] 41),
 mW 13 58,
 nQ (.store (.t 14) (.t 59) 4)])
 (.seq (.reg false [oQ 60 (.fld (.t 14) 0),
 oQ 61 (.load1 (.t 60)),
 oQ 62 (.un .not (.t 61))])
 (.cond (.t 62) (.seq (.reg false [mW 63 13,
 mW 64 1,
 mW 65 2,
 mW 66 10,
 oQ 67 (.bld [.bool false, .int .i64 0, .int .i64 0, .int .i64 0] [(0, (1, .k (.c (.bool true)))), (1, (1, .t 64)), (2, (1, .t 65)), (3, (1, .t 66))]),
 oQ 68 (.fld (.t 3) 0),
 oQ 69 (.ixa (.t 68) (.t 63) 16 4),
 nQ (.store (.t 69) (.t 67) 4)])
 (.seq (.reg false [mW 70 9,
 mW 71 13,
 oQ 72 (.call 116 [.t 3, .t 70, .t 71])])
 (.seq (.reg false [oQ 73 (.loadN (.t 3) 65),
 mW 74 11,
 nQ (.store (.t 6) (.t 73) 65),
 mW 7 74,
 oQ 8 (.mov (iK 0))])
 (.ret (some [6, 7, 8]))))) .skip))))
 (.reg false [oQ 75 (.bin .add (.t 56) (iK 1)),
 mW 56 75]))))
def c_impl_MapPut : IFn := ⟨78, [.cell 6 65 true, .t 7, .t 8],
  (.seq (.reg false [oQ 3 (.box (.t 0) 44),
 oQ 6 (.alloc Z65 44),
 oQ 7 (.mov (iK 0)),
 oQ 8 (.mov (iK 0))])
 (.seq (.seq (.reg false [oQ 15 (.loadN (.t 3) 65),
 oQ 16 (.call 79 [.t 15]),
 oQ 17 (.un .not (.t 16)),
 mW 18 17,
 ⟨some 19, some (18, false), .mov (.t 1)⟩,
 ⟨some 20, some (18, false), .call 46 [.t 19]⟩,
 ⟨some 21, some (18, false), .un .not (.t 20)⟩,
 oQ 22 (.pick (.t 18) (bK true) (.t 21)),
 mW 23 22,
 ⟨some 24, some (23, false), .mov (.t 2)⟩,
 ⟨some 25, some (23, false), .call 46 [.t 24]⟩,
 ⟨some 26, some (23, false), .un .not (.t 25)⟩,
 oQ 27 (.pick (.t 23) (bK true) (.t 26))])
 (.cond (.t 27) (.seq (.reg false [oQ 28 (.loadN (.t 3) 65),
 nQ (.store (.t 6) (.t 28) 65),
 oQ 7 (.mov (iK 0)),
 oQ 8 (.mov (iK 1))])
 (.ret (some [6, 7, 8]))) .skip))
 (.seq (.reg false [oQ 30 (.loadN (.t 3) 65),
 mW 31 1,
 oQ 32 (.call 114 [.t 30, .t 31]),
 mW 29 32,
 oQ 33 (.ext (.t 29) 0),
 oQ 34 (.ext (.t 29) 1),
 oQ 35 (.ext (.t 29) 2),
 oQ 36 (.ext (.t 29) 3),
 mW 9 33,
 mW 10 34,
 mW 11 35,
 mW 12 36])
 (.seq (.block 0 none none
 (.seq (.reg false [mW 38 12,
 oQ 39 (.un .not (.t 38)),
 mW 37 39])
 (.cond (.t 37) (.seq (.reg false [oQ 40 (.loadN (.t 3) 65),
 mW 41 11,
 nQ (.store (.t 6) (.t 40) 65),
 mW 7 41,
 oQ 8 (.mov (iK 2))])
 (.ret (some [6, 7, 8]))) (.seq (.reg false [oQ 43 (.loadN (.t 3) 65),
 mW 44 10,
 mW 45 1,
 oQ 46 (.call 115 [.t 43, .t 44, .t 45]),
 mW 42 46])
 (.cond (.t 42) (.seq (.reg false [mW 47 10,
 mW 48 2,
 oQ 49 (.fld (.t 3) 0),
 oQ 50 (.ixa (.t 49) (.t 47) 16 4),
 oQ 51 (.fld (.t 50) 2),
 nQ (.store (.t 51) (.t 48) 1)])
 (.seq (.reg false [oQ 52 (.loadN (.t 3) 65),
 mW 53 11,
 nQ (.store (.t 6) (.t 52) 65),
 mW 7 53,
 oQ 8 (.mov (iK 0))])
 (.ret (some [6, 7, 8])))) .skip)))))
 (.seq (.seq (.reg false [oQ 54 (.fld (.t 3) 0),
 oQ 55 (.loadN (.t 54) 64),
 oQ 56 (.mov (iK 0))])
 (.block 1 (some [1, 2, 3, 6, 9, 10, 11, 55, 56]) (some [3, 6, 11])
 (.loop c_impl_MapPut_b0)))
 (.seq (.reg false [oQ 76 (.loadN (.t 3) 65),
 mW 77 11,
 nQ (.store (.t 6) (.t 76) 65),
 mW 7 77,
 oQ 8 (.mov (iK 3))])
 (.ret (some [6, 7, 8]))))))))⟩
theorem c_impl_MapPut_ok : trF Tryz.prog ⟨[(1, [1, 2, 3, 6, 9, 10, 11, 55, 56], [3, 6, 11])], [6, 7, 8], false, false⟩ Tryz.f83 = some c_impl_MapPut := by kernel_rfl
def c_impl_MapDrop : IFn := ⟨54, [.cell 4 65 true, .t 5, .t 6],
  (.seq (.reg false [oQ 2 (.box (.t 0) 44),
 oQ 4 (.alloc Z65 44),
 oQ 5 (.mov (iK 0)),
 oQ 6 (.mov (iK 0))])
 (.seq (.seq (.reg false [oQ 11 (.loadN (.t 2) 65),
 oQ 12 (.call 79 [.t 11]),
 oQ 13 (.un .not (.t 12)),
 mW 14 13,
 ⟨some 15, some (14, false), .mov (.t 1)⟩,
 ⟨some 16, some (14, false), .call 46 [.t 15]⟩,
 ⟨some 17, some (14, false), .un .not (.t 16)⟩,
 oQ 18 (.pick (.t 14) (bK true) (.t 17))])
 (.cond (.t 18) (.seq (.reg false [oQ 19 (.loadN (.t 2) 65),
 nQ (.store (.t 4) (.t 19) 65),
 oQ 5 (.mov (iK 0)),
 oQ 6 (.mov (iK 1))])
 (.ret (some [4, 5, 6]))) .skip))
 (.seq (.reg false [oQ 21 (.loadN (.t 2) 65),
 mW 22 1,
 oQ 23 (.call 114 [.t 21, .t 22]),
 mW 20 23,
 oQ 24 (.ext (.t 20) 0),
 oQ 25 (.ext (.t 20) 1),
 oQ 26 (.ext (.t 20) 2),
 oQ 27 (.ext (.t 20) 3),
 mW 7 24,
 mW 8 25,
 mW 9 26,
 mW 10 27])
 (.seq (.block 0 none none
 (.seq (.reg false [mW 29 10,
 oQ 30 (.un .not (.t 29)),
 mW 28 30])
 (.cond (.t 28) (.seq (.reg false [oQ 31 (.loadN (.t 2) 65),
 mW 32 9,
 nQ (.store (.t 4) (.t 31) 65),
 mW 5 32,
 oQ 6 (.mov (iK 2))])
 (.ret (some [4, 5, 6]))) (.seq (.reg false [oQ 34 (.loadN (.t 2) 65),
 mW 35 8,
 mW 36 1,
 oQ 37 (.call 115 [.t 34, .t 35, .t 36]),
 oQ 38 (.un .not (.t 37)),
 mW 33 38])
 (.cond (.t 33) (.seq (.reg false [oQ 39 (.loadN (.t 2) 65),
 mW 40 9,
 nQ (.store (.t 4) (.t 39) 65),
 mW 5 40,
 oQ 6 (.mov (iK 4))])
 (.ret (some [4, 5, 6]))) .skip)))))
 (.seq (.reg false [mW 41 7,
 mW 42 8,
 oQ 43 (.fld (.t 2) 0),
 oQ 44 (.ixa (.t 43) (.t 42) 16 4),
 oQ 45 (.fld (.t 44) 3),
 oQ 46 (.load1 (.t 45)),
 oQ 47 (.call 116 [.t 2, .t 41, .t 46])])
 (.seq (.reg false [mW 48 8,
 oQ 49 (.bld [.bool false, .int .i64 0, .int .i64 0, .int .i64 0] []),
 oQ 50 (.fld (.t 2) 0),
 oQ 51 (.ixa (.t 50) (.t 48) 16 4),
 nQ (.store (.t 51) (.t 49) 4)])
 (.seq (.reg false [oQ 52 (.loadN (.t 2) 65),
 mW 53 9,
 nQ (.store (.t 4) (.t 52) 65),
 mW 5 53,
 oQ 6 (.mov (iK 0))])
 (.ret (some [4, 5, 6])))))))))⟩
theorem c_impl_MapDrop_ok : trF Tryz.prog ⟨[], [4, 5, 6], false, false⟩ Tryz.f84 = some c_impl_MapDrop := by kernel_rfl
end Go.Proofs.YtfbeplbcaanimaaGreat
