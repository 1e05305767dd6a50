/-
 The library's contracts of slices.Sort and slices.Grow at numbers, laid at this program: the calls that the abstract machine takes from outside.
-/
import Derived.Test.YtfbeplbcaanimaaGreatSrt
import Derived.Test.YtfbeplbcaanimaaGreatTab
import Derived.Shelf.Sort.Plain
import Derived.Shelf.Slices.In.SortNone
import Derived.Shelf.Spec.SlicesGrow
import Derived.Ground.NamesProg
import Derived.Ground.Names8Prog
set_option linter.unusedVariables false
set_option linter.unusedSimpArgs false
set_option maxRecDepth 100000
namespace Go.Proofs
open Go.Shelf
def Tryz.laysSort_ren : Go.Shelf.Ren := ⟨fun | 189 => 121 | 125 => 132 | 257 => 131 | 128 => 145 | 129 => 146 | 294 => 136 | 295 => 137 | 296 => 138 | 297 => 139 | 298 => 140 | 299 => 141 | 216 => 142 | 300 => 143 | 301 => 144 | 328 => 147 | 329 => 148 | 330 => 149 | 331 => 150 | 332 => 151 | 215 => 152 | 343 => 153 | n => n, fun | 28 => 103 | 3 => 3 | 46 => 169 | 0 => 0 | 51 => 180 | 53 => 182 | 4 => 4 | 183 => 173 | 182 => 172 | 131 => 177 | 5 => 5 | 9 => 9 | 218 => 183 | 222 => 151 | 228 => 188 | 229 => 189 | n => n, fun | n => n⟩
theorem Tryz.laysSort : Go.Proofs.Lays.n189 Tryz.prog Tryz.laysSort_ren := {
 mixed := by kernel_rfl
 f125 := Tryz.func132.trans (congrArg some (by kernel_rfl))
 f128 := Tryz.func145.trans (congrArg some (by kernel_rfl))
 f129 := Tryz.func146.trans (congrArg some (by kernel_rfl))
 f189 := Tryz.func121.trans (congrArg some (by kernel_rfl))
 f215 := Tryz.func152.trans (congrArg some (by kernel_rfl))
 f216 := Tryz.func142.trans (congrArg some (by kernel_rfl))
 f257 := Tryz.func131.trans (congrArg some (by kernel_rfl))
 f294 := Tryz.func136.trans (congrArg some (by kernel_rfl))
 f295 := Tryz.func137.trans (congrArg some (by kernel_rfl))
 f296 := Tryz.func138.trans (congrArg some (by kernel_rfl))
 f297 := Tryz.func139.trans (congrArg some (by kernel_rfl))
 f298 := Tryz.func140.trans (congrArg some (by kernel_rfl))
 f299 := Tryz.func141.trans (congrArg some (by kernel_rfl))
 f300 := Tryz.func143.trans (congrArg some (by kernel_rfl))
 f301 := Tryz.func144.trans (congrArg some (by kernel_rfl))
 f328 := Tryz.func147.trans (congrArg some (by kernel_rfl))
 f329 := Tryz.func148.trans (congrArg some (by kernel_rfl))
 f330 := Tryz.func149.trans (congrArg some (by kernel_rfl))
 f331 := Tryz.func150.trans (congrArg some (by kernel_rfl))
 f332 := Tryz.func151.trans (congrArg some (by kernel_rfl))
 f343 := Tryz.func153.trans (congrArg some (by kernel_rfl))
 t0 := Tryz.underlying0
 a0 := Tryz.isAgg0
 z0 := Tryz.sizeOf0
 v0 := Tryz.zeroValue0
 t3 := Tryz.underlying3
 a3 := Tryz.isAgg3
 z3 := Tryz.sizeOf3
 v3 := Tryz.zeroValue3
 t4 := Tryz.underlying4
 a4 := Tryz.isAgg4
 z4 := Tryz.sizeOf4
 v4 := Tryz.zeroValue4
 t5 := Tryz.underlying5
 a5 := Tryz.isAgg5
 z5 := Tryz.sizeOf5
 v5 := Tryz.zeroValue5
 t9 := Tryz.underlying9
 a9 := Tryz.isAgg9
 z9 := Tryz.sizeOf9
 v9 := Tryz.zeroValue9
 t28 := Tryz.underlying103
 a28 := Tryz.isAgg103
 z28 := Tryz.sizeOf103
 v28 := Tryz.zeroValue103
 t46 := Tryz.underlying169
 a46 := Tryz.isAgg169
 z46 := Tryz.sizeOf169
 v46 := Tryz.zeroValue169
 t51 := Tryz.underlying180
 a51 := Tryz.isAgg180
 z51 := Tryz.sizeOf180
 v51 := Tryz.zeroValue180
 t53 := Tryz.underlying182
 a53 := Tryz.isAgg182
 z53 := Tryz.sizeOf182
 v53 := Tryz.zeroValue182
 t131 := Tryz.underlying177
 a131 := Tryz.isAgg177
 z131 := Tryz.sizeOf177
 v131 := Tryz.zeroValue177
 t182 := Tryz.underlying172
 a182 := Tryz.isAgg172
 z182 := Tryz.sizeOf172
 v182 := Tryz.zeroValue172
 t183 := Tryz.underlying173
 a183 := Tryz.isAgg173
 z183 := Tryz.sizeOf173
 v183 := Tryz.zeroValue173
 t218 := Tryz.underlying183
 a218 := Tryz.isAgg183
 z218 := Tryz.sizeOf183
 v218 := Tryz.zeroValue183
 t222 := Tryz.underlying151
 a222 := Tryz.isAgg151
 z222 := Tryz.sizeOf151
 v222 := Tryz.zeroValue151
 t228 := Tryz.underlying188
 a228 := Tryz.isAgg188
 z228 := Tryz.sizeOf188
 v228 := Tryz.zeroValue188
 t229 := Tryz.underlying189
 a229 := Tryz.isAgg189
 z229 := Tryz.sizeOf189
 v229 := Tryz.zeroValue189 }
def Tryz.laysGrow_ren : Go.Shelf.Ren := ⟨fun | 4 => 135 | n => n, fun | 22 => 103 | 25 => 3 | 3 => 3 | 4 => 4 | 9 => 9 | 20 => 20 | 0 => 0 | n => n, fun | n => n⟩
theorem Tryz.laysGrow : Go.Proofs.Lays8.n4 Tryz.prog Tryz.laysGrow_ren := {
 mixed := by kernel_rfl
 f4 := ⟨Tryz.f135.name, by decide, Tryz.func135.trans (congrArg some (by kernel_rfl))⟩
 t0 := Tryz.underlying0
 a0 := Tryz.isAgg0
 z0 := Tryz.sizeOf0
 v0 := Tryz.zeroValue0
 t3 := Tryz.underlying3
 a3 := Tryz.isAgg3
 z3 := Tryz.sizeOf3
 v3 := Tryz.zeroValue3
 t4 := Tryz.underlying4
 a4 := Tryz.isAgg4
 z4 := Tryz.sizeOf4
 v4 := Tryz.zeroValue4
 t9 := Tryz.underlying9
 a9 := Tryz.isAgg9
 z9 := Tryz.sizeOf9
 v9 := Tryz.zeroValue9
 t20 := Tryz.underlying20
 a20 := Tryz.isAgg20
 z20 := Tryz.sizeOf20
 v20 := Tryz.zeroValue20
 t22 := Tryz.underlying103
 a22 := Tryz.isAgg103
 z22 := Tryz.sizeOf103
 v22 := Tryz.zeroValue103 }
end Go.Proofs
namespace Go.Proofs.YtfbeplbcaanimaaGreat
open Go.RowKit Go.Sort Go.Shelf
def libX : FuncId → List V → List Blk → Option Ret
 | 121, args, m => sortF args m
 | 135, args, m => growF 3 args m
 | _, _, _ => none
theorem libX_sort (args : List V) (m : List Blk) : libX 121 args m = sortF args m := rfl
theorem libX_grow (args : List V) (m : List Blk) : libX 135 args m = growF 3 args m := rfl
theorem some_body {fn : Func} (h : fn.body.isNone = false) : fn.body ≠ none := fun e => by rw [e] at h; cases h
theorem grow_room (w : World) : Calls Tryz.prog 135 #[.slice none 0 0, .int .i64 ((0 : Nat) : Int)] w fun e w' => e = .returned (.slice none 0 0) ∧ w' = w :=
 Any8.slices_Grow_room Tryz.laysGrow none 0 0 0 w (Nat.le_refl _) (by omega) (by omega) (Nat.le_refl _)
theorem grow_grow (n : Nat) (w : World) (hn : 0 < n) (hb : n * 8 ≤ 140737488355328) : Calls Tryz.prog 135 #[.slice none 0 0, .int .i64 (n : Int)] w fun e w' =>
  ∃ cap cs, cs.size = cap ∧ n ≤ cap ∧ cap ≤ maxLen ∧ e = .returned (.slice (some ⟨w.heap.size, 0, none⟩) 0 cap) ∧ w' = w.drew.alloc (.cells cs 3) := by
 have hi : Tryz.prog.info? 3 = some Tryz.t3 := by kernel_rfl
 have hz : Tryz.t3.zero = some (.int .i64 0) := by kernel_rfl
 have hs : Tryz.t3.size = 1 := by kernel_rfl
 have hy : Tryz.t3.bytes = 8 := by kernel_rfl
 refine (Any8.slices_Grow_grow Tryz.laysGrow Tryz.t3 (.int .i64 0) hi hz (by rw [hs]; omega) none 0 0 n [] w (Nat.le_refl _) (by omega) (by rw [hy]; omega) (by omega) (by simp) (fun _ => rfl) (fun a h => by cases h)).mono fun e w' ⟨h1, h2⟩ => ?_
 have g1 := grownCap_ge w (0 + n) 0 3
 have g2 := grownCap_le_maxLen w (0 + n) 0 3 (by unfold maxLen; omega)
 refine ⟨grownCap w (0 + n) 0 3, _, ?_, by omega, g2, h1, h2⟩
 simp only [Array.size_append, size_zeroCells, Value.cells, List.size_toArray, List.length_nil, List.length_cons]
 show 0 + (0 + n - 0) * 1 + (grownCap w (0 + n) 0 3 - (0 + n)) * 1 = _
 omega
theorem libX_ok : CallOk Tryz.prog libX := by
 intro f args m ret h
 unfold libX at h
 split at h
 ·exact ⟨⟨_, Tryz.func121, some_body (by kernel_rfl), ne_name (by kernel_rfl)⟩, fun base w ι ras s hl ha => sort_ok (fun blk off cap zs w hH hb hz => Any.slices_Sort_int Tryz.laysSort blk off cap zs w hH hb hz) (fun p cap w => Any.slices_Sort_int_none Tryz.laysSort p cap w) h s hl ha⟩
 ·exact ⟨⟨_, Tryz.func135, some_body (by kernel_rfl), ne_name (by kernel_rfl)⟩, fun base w ι ras s hl ha => grow_ok grow_room grow_grow h s hl ha⟩
 ·cases h
end Go.Proofs.YtfbeplbcaanimaaGreat
