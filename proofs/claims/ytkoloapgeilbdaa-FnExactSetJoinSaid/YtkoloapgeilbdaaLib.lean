/-
  The library's contracts of slices.Sort and slices.Grow at numbers, laid at this program: the calls that the abstract machine takes from outside.
-/
import Derived.Test.YtkoloapgeilbdaaSrt
import Derived.Test.YtkoloapgeilbdaaTab
import Derived.Shelf.Sort.Plain
import Derived.Shelf.Slices.In.SortNone
import Derived.Shelf.Spec.SlicesGrow
import Derived.Ground.NamesProg
import Derived.Ground.Names8Prog
set_option linter.unusedVariables false
set_option linter.unusedSimpArgs false
set_option maxRecDepth 100000
namespace Go.Proofs
open Go.Shelf
def Try.laysSort_ren : Go.Shelf.Ren := ⟨fun | 189 => 101 | 125 => 117 | 257 => 116 | 128 => 131 | 129 => 132 | 294 => 122 | 295 => 123 | 296 => 124 | 297 => 125 | 298 => 126 | 299 => 127 | 216 => 128 | 300 => 129 | 301 => 130 | 328 => 133 | 329 => 134 | 330 => 135 | 331 => 136 | 332 => 137 | 215 => 138 | 343 => 139 | n => n, fun | 28 => 30 | 3 => 3 | 46 => 128 | 0 => 0 | 51 => 141 | 53 => 143 | 4 => 4 | 183 => 133 | 182 => 132 | 131 => 138 | 5 => 5 | 9 => 9 | 218 => 144 | 222 => 101 | 228 => 149 | 229 => 150 | n => n, fun | n => n⟩
theorem Try.laysSort : Go.Proofs.Lays.n189 Try.prog Try.laysSort_ren := {
  mixed := by kernel_rfl
  f125 := Try.func117.trans (congrArg some (by kernel_rfl))
  f128 := Try.func131.trans (congrArg some (by kernel_rfl))
  f129 := Try.func132.trans (congrArg some (by kernel_rfl))
  f189 := Try.func101.trans (congrArg some (by kernel_rfl))
  f215 := Try.func138.trans (congrArg some (by kernel_rfl))
  f216 := Try.func128.trans (congrArg some (by kernel_rfl))
  f257 := Try.func116.trans (congrArg some (by kernel_rfl))
  f294 := Try.func122.trans (congrArg some (by kernel_rfl))
  f295 := Try.func123.trans (congrArg some (by kernel_rfl))
  f296 := Try.func124.trans (congrArg some (by kernel_rfl))
  f297 := Try.func125.trans (congrArg some (by kernel_rfl))
  f298 := Try.func126.trans (congrArg some (by kernel_rfl))
  f299 := Try.func127.trans (congrArg some (by kernel_rfl))
  f300 := Try.func129.trans (congrArg some (by kernel_rfl))
  f301 := Try.func130.trans (congrArg some (by kernel_rfl))
  f328 := Try.func133.trans (congrArg some (by kernel_rfl))
  f329 := Try.func134.trans (congrArg some (by kernel_rfl))
  f330 := Try.func135.trans (congrArg some (by kernel_rfl))
  f331 := Try.func136.trans (congrArg some (by kernel_rfl))
  f332 := Try.func137.trans (congrArg some (by kernel_rfl))
  f343 := Try.func139.trans (congrArg some (by kernel_rfl))
  t0 := Try.underlying0
  a0 := Try.isAgg0
  z0 := Try.sizeOf0
  v0 := Try.zeroValue0
  t3 := Try.underlying3
  a3 := Try.isAgg3
  z3 := Try.sizeOf3
  v3 := Try.zeroValue3
  t4 := Try.underlying4
  a4 := Try.isAgg4
  z4 := Try.sizeOf4
  v4 := Try.zeroValue4
  t5 := Try.underlying5
  a5 := Try.isAgg5
  z5 := Try.sizeOf5
  v5 := Try.zeroValue5
  t9 := Try.underlying9
  a9 := Try.isAgg9
  z9 := Try.sizeOf9
  v9 := Try.zeroValue9
  t28 := Try.underlying30
  a28 := Try.isAgg30
  z28 := Try.sizeOf30
  v28 := Try.zeroValue30
  t46 := Try.underlying128
  a46 := Try.isAgg128
  z46 := Try.sizeOf128
  v46 := Try.zeroValue128
  t51 := Try.underlying141
  a51 := Try.isAgg141
  z51 := Try.sizeOf141
  v51 := Try.zeroValue141
  t53 := Try.underlying143
  a53 := Try.isAgg143
  z53 := Try.sizeOf143
  v53 := Try.zeroValue143
  t131 := Try.underlying138
  a131 := Try.isAgg138
  z131 := Try.sizeOf138
  v131 := Try.zeroValue138
  t182 := Try.underlying132
  a182 := Try.isAgg132
  z182 := Try.sizeOf132
  v182 := Try.zeroValue132
  t183 := Try.underlying133
  a183 := Try.isAgg133
  z183 := Try.sizeOf133
  v183 := Try.zeroValue133
  t218 := Try.underlying144
  a218 := Try.isAgg144
  z218 := Try.sizeOf144
  v218 := Try.zeroValue144
  t222 := Try.underlying101
  a222 := Try.isAgg101
  z222 := Try.sizeOf101
  v222 := Try.zeroValue101
  t228 := Try.underlying149
  a228 := Try.isAgg149
  z228 := Try.sizeOf149
  v228 := Try.zeroValue149
  t229 := Try.underlying150
  a229 := Try.isAgg150
  z229 := Try.sizeOf150
  v229 := Try.zeroValue150 }
def Try.laysGrow_ren : Go.Shelf.Ren := ⟨fun | 4 => 121 | n => n, fun | 22 => 30 | 25 => 3 | 3 => 3 | 4 => 4 | 9 => 9 | 20 => 20 | 0 => 0 | n => n, fun | n => n⟩
theorem Try.laysGrow : Go.Proofs.Lays8.n4 Try.prog Try.laysGrow_ren := {
  mixed := by kernel_rfl
  f4 := ⟨Try.f121.name, by decide, Try.func121.trans (congrArg some (by kernel_rfl))⟩
  t0 := Try.underlying0
  a0 := Try.isAgg0
  z0 := Try.sizeOf0
  v0 := Try.zeroValue0
  t3 := Try.underlying3
  a3 := Try.isAgg3
  z3 := Try.sizeOf3
  v3 := Try.zeroValue3
  t4 := Try.underlying4
  a4 := Try.isAgg4
  z4 := Try.sizeOf4
  v4 := Try.zeroValue4
  t9 := Try.underlying9
  a9 := Try.isAgg9
  z9 := Try.sizeOf9
  v9 := Try.zeroValue9
  t20 := Try.underlying20
  a20 := Try.isAgg20
  z20 := Try.sizeOf20
  v20 := Try.zeroValue20
  t22 := Try.underlying30
  a22 := Try.isAgg30
  z22 := Try.sizeOf30
  v22 := Try.zeroValue30 }
end Go.Proofs
namespace Go.Proofs.Ytkoloapgeilbdaa
open Go.RowKit Go.Sort Go.Shelf

/-- The calls that are taken from outside. -/
def libX : FuncId → List V → List Blk → Option Ret
  | 101, args, m => sortF args m
  | 121, args, m => growF 3 args m
  | _, _, _ => none
theorem libX_sort (args : List V) (m : List Blk) : libX 101 args m = sortF args m := rfl
theorem libX_grow (args : List V) (m : List Blk) : libX 121 args m = growF 3 args m := rfl
theorem some_body {fn : Func} (h : fn.body.isNone = false) : fn.body ≠ none := fun e => by rw [e] at h; cases h
theorem grow_room (w : World) : Calls Try.prog 121 #[.slice none 0 0, .int .i64 ((0 : Nat) : Int)] w fun e w' => e = .returned (.slice none 0 0) ∧ w' = w :=
  Any8.slices_Grow_room Try.laysGrow none 0 0 0 w (Nat.le_refl _) (by omega) (by omega) (Nat.le_refl _)
theorem grow_grow (n : Nat) (w : World) (hn : 0 < n) (hb : n * 8 ≤ 140737488355328) : Calls Try.prog 121 #[.slice none 0 0, .int .i64 (n : Int)] w fun e w' =>
    ∃ cap cs, cs.size = cap ∧ n ≤ cap ∧ cap ≤ maxLen ∧ e = .returned (.slice (some ⟨w.heap.size, 0, none⟩) 0 cap) ∧ w' = w.drew.alloc (.cells cs 3) := by
  have hi : Try.prog.info? 3 = some Try.t3 := by kernel_rfl
  have hz : Try.t3.zero = some (.int .i64 0) := by kernel_rfl
  have hs : Try.t3.size = 1 := by kernel_rfl
  have hy : Try.t3.bytes = 8 := by kernel_rfl
  refine (Any8.slices_Grow_grow Try.laysGrow Try.t3 (.int .i64 0) hi hz (by rw [hs]; omega) none 0 0 n [] w (Nat.le_refl _) (by omega) (by rw [hy]; omega) (by omega) (by simp) (fun _ => rfl) (fun a h => by cases h)).mono fun e w' ⟨h1, h2⟩ => ?_
  have g1 := grownCap_ge w (0 + n) 0 3
  have g2 := grownCap_le_maxLen w (0 + n) 0 3 (by unfold maxLen; omega)
  refine ⟨grownCap w (0 + n) 0 3, _, ?_, by omega, g2, h1, h2⟩
  simp only [Array.size_append, size_zeroCells, Value.cells, List.size_toArray, List.length_nil, List.length_cons]
  show 0 + (0 + n - 0) * 1 + (grownCap w (0 + n) 0 3 - (0 + n)) * 1 = _
  omega
theorem libX_ok : CallOk Try.prog libX := by
  intro f args m ret h
  unfold libX at h
  split at h
  · exact ⟨⟨_, Try.func101, some_body (by kernel_rfl), ne_name (by kernel_rfl)⟩, fun base w ι ras s hl ha => sort_ok (fun blk off cap zs w hH hb hz => Any.slices_Sort_int Try.laysSort blk off cap zs w hH hb hz) (fun p cap w => Any.slices_Sort_int_none Try.laysSort p cap w) h s hl ha⟩
  · exact ⟨⟨_, Try.func121, some_body (by kernel_rfl), ne_name (by kernel_rfl)⟩, fun base w ι ras s hl ha => grow_ok grow_room grow_grow h s hl ha⟩
  · cases h
end Go.Proofs.Ytkoloapgeilbdaa
