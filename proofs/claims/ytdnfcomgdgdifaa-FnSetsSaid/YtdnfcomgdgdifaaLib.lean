/-
  The library's contracts of slices.Sort and slices.Grow at numbers, laid at this program: the calls that the abstract machine takes from outside.
-/
import Derived.Test.YtdnfcomgdgdifaaSrt
import Derived.Test.YtdnfcomgdgdifaaTab
import Derived.Shelf.Sort.Plain
import Derived.Shelf.Slices.In.SortNone
import Derived.Shelf.Spec.SlicesGrow
import Derived.Ground.NamesProg
import Derived.Ground.Names8Prog
set_option linter.unusedVariables false
set_option linter.unusedSimpArgs false
set_option maxRecDepth 100000
namespace Go.Proofs
open Go.Shelf
def Try.laysSort_ren : Go.Shelf.Ren := ⟨fun | 189 => 97 | 125 => 143 | 257 => 142 | 128 => 178 | 129 => 179 | 294 => 169 | 295 => 170 | 296 => 171 | 297 => 172 | 298 => 173 | 299 => 174 | 216 => 175 | 300 => 176 | 301 => 177 | 328 => 195 | 329 => 196 | 330 => 197 | 331 => 198 | 332 => 199 | 215 => 200 | 343 => 206 | n => n, fun | 28 => 28 | 3 => 3 | 46 => 184 | 0 => 0 | 51 => 209 | 53 => 211 | 4 => 4 | 183 => 202 | 182 => 201 | 131 => 206 | 5 => 5 | 9 => 9 | 218 => 230 | 222 => 129 | 228 => 248 | 229 => 75 | n => n, fun | n => n⟩
theorem Try.laysSort : Go.Proofs.Lays.n189 Try.prog Try.laysSort_ren := {
  mixed := by kernel_rfl
  f125 := Try.func143.trans (congrArg some (by kernel_rfl))
  f128 := Try.func178.trans (congrArg some (by kernel_rfl))
  f129 := Try.func179.trans (congrArg some (by kernel_rfl))
  f189 := Try.func97.trans (congrArg some (by kernel_rfl))
  f215 := Try.func200.trans (congrArg some (by kernel_rfl))
  f216 := Try.func175.trans (congrArg some (by kernel_rfl))
  f257 := Try.func142.trans (congrArg some (by kernel_rfl))
  f294 := Try.func169.trans (congrArg some (by kernel_rfl))
  f295 := Try.func170.trans (congrArg some (by kernel_rfl))
  f296 := Try.func171.trans (congrArg some (by kernel_rfl))
  f297 := Try.func172.trans (congrArg some (by kernel_rfl))
  f298 := Try.func173.trans (congrArg some (by kernel_rfl))
  f299 := Try.func174.trans (congrArg some (by kernel_rfl))
  f300 := Try.func176.trans (congrArg some (by kernel_rfl))
  f301 := Try.func177.trans (congrArg some (by kernel_rfl))
  f328 := Try.func195.trans (congrArg some (by kernel_rfl))
  f329 := Try.func196.trans (congrArg some (by kernel_rfl))
  f330 := Try.func197.trans (congrArg some (by kernel_rfl))
  f331 := Try.func198.trans (congrArg some (by kernel_rfl))
  f332 := Try.func199.trans (congrArg some (by kernel_rfl))
  f343 := Try.func206.trans (congrArg some (by kernel_rfl))
  t0 := Try.underlying0
  a0 := Try.isAgg0
  z0 := Try.sizeOf0
  v0 := Try.zeroValue0
  t3 := Try.underlying3
  a3 := Try.isAgg3
  z3 := Try.sizeOf3
  v3 := Try.zeroValue3
  t4 := Try.underlying4
  a4 := Try.isAgg4
  z4 := Try.sizeOf4
  v4 := Try.zeroValue4
  t5 := Try.underlying5
  a5 := Try.isAgg5
  z5 := Try.sizeOf5
  v5 := Try.zeroValue5
  t9 := Try.underlying9
  a9 := Try.isAgg9
  z9 := Try.sizeOf9
  v9 := Try.zeroValue9
  t28 := Try.underlying28
  a28 := Try.isAgg28
  z28 := Try.sizeOf28
  v28 := Try.zeroValue28
  t46 := Try.underlying184
  a46 := Try.isAgg184
  z46 := Try.sizeOf184
  v46 := Try.zeroValue184
  t51 := Try.underlying209
  a51 := Try.isAgg209
  z51 := Try.sizeOf209
  v51 := Try.zeroValue209
  t53 := Try.underlying211
  a53 := Try.isAgg211
  z53 := Try.sizeOf211
  v53 := Try.zeroValue211
  t131 := Try.underlying206
  a131 := Try.isAgg206
  z131 := Try.sizeOf206
  v131 := Try.zeroValue206
  t182 := Try.underlying201
  a182 := Try.isAgg201
  z182 := Try.sizeOf201
  v182 := Try.zeroValue201
  t183 := Try.underlying202
  a183 := Try.isAgg202
  z183 := Try.sizeOf202
  v183 := Try.zeroValue202
  t218 := Try.underlying230
  a218 := Try.isAgg230
  z218 := Try.sizeOf230
  v218 := Try.zeroValue230
  t222 := Try.underlying129
  a222 := Try.isAgg129
  z222 := Try.sizeOf129
  v222 := Try.zeroValue129
  t228 := Try.underlying248
  a228 := Try.isAgg248
  z228 := Try.sizeOf248
  v228 := Try.zeroValue248
  t229 := Try.underlying75
  a229 := Try.isAgg75
  z229 := Try.sizeOf75
  v229 := Try.zeroValue75 }
def Try.laysGrow_ren : Go.Shelf.Ren := ⟨fun | 4 => 167 | n => n, fun | 22 => 28 | 25 => 3 | 3 => 3 | 4 => 4 | 9 => 9 | 20 => 20 | 0 => 0 | n => n, fun | n => n⟩
theorem Try.laysGrow : Go.Proofs.Lays8.n4 Try.prog Try.laysGrow_ren := {
  mixed := by kernel_rfl
  f4 := ⟨Try.f167.name, by decide, Try.func167.trans (congrArg some (by kernel_rfl))⟩
  t0 := Try.underlying0
  a0 := Try.isAgg0
  z0 := Try.sizeOf0
  v0 := Try.zeroValue0
  t3 := Try.underlying3
  a3 := Try.isAgg3
  z3 := Try.sizeOf3
  v3 := Try.zeroValue3
  t4 := Try.underlying4
  a4 := Try.isAgg4
  z4 := Try.sizeOf4
  v4 := Try.zeroValue4
  t9 := Try.underlying9
  a9 := Try.isAgg9
  z9 := Try.sizeOf9
  v9 := Try.zeroValue9
  t20 := Try.underlying20
  a20 := Try.isAgg20
  z20 := Try.sizeOf20
  v20 := Try.zeroValue20
  t22 := Try.underlying28
  a22 := Try.isAgg28
  z22 := Try.sizeOf28
  v22 := Try.zeroValue28 }
end Go.Proofs
namespace Go.Proofs.Ytdnfcomgdgdifaa
open Go.RowKit Go.Sort Go.Shelf

/-- The calls that are taken from outside. -/
def libX : FuncId → List V → List Blk → Option Ret
  | 97, args, m => sortF args m
  | 167, args, m => growF 3 args m
  | _, _, _ => none
theorem libX_sort (args : List V) (m : List Blk) : libX 97 args m = sortF args m := rfl
theorem libX_grow (args : List V) (m : List Blk) : libX 167 args m = growF 3 args m := rfl
theorem some_body {fn : Func} (h : fn.body.isNone = false) : fn.body ≠ none := fun e => by rw [e] at h; cases h
theorem grow_room (w : World) : Calls Try.prog 167 #[.slice none 0 0, .int .i64 ((0 : Nat) : Int)] w fun e w' => e = .returned (.slice none 0 0) ∧ w' = w :=
  Any8.slices_Grow_room Try.laysGrow none 0 0 0 w (Nat.le_refl _) (by omega) (by omega) (Nat.le_refl _)
theorem grow_grow (n : Nat) (w : World) (hn : 0 < n) (hb : n * 8 ≤ 140737488355328) : Calls Try.prog 167 #[.slice none 0 0, .int .i64 (n : Int)] w fun e w' =>
    ∃ cap cs, cs.size = cap ∧ n ≤ cap ∧ cap ≤ maxLen ∧ e = .returned (.slice (some ⟨w.heap.size, 0, none⟩) 0 cap) ∧ w' = w.drew.alloc (.cells cs 3) := by
  have hi : Try.prog.info? 3 = some Try.t3 := by kernel_rfl
  have hz : Try.t3.zero = some (.int .i64 0) := by kernel_rfl
  have hs : Try.t3.size = 1 := by kernel_rfl
  have hy : Try.t3.bytes = 8 := by kernel_rfl
  refine (Any8.slices_Grow_grow Try.laysGrow Try.t3 (.int .i64 0) hi hz (by rw [hs]; omega) none 0 0 n [] w (Nat.le_refl _) (by omega) (by rw [hy]; omega) (by omega) (by simp) (fun _ => rfl) (fun a h => by cases h)).mono fun e w' ⟨h1, h2⟩ => ?_
  have g1 := grownCap_ge w (0 + n) 0 3
  have g2 := grownCap_le_maxLen w (0 + n) 0 3 (by unfold maxLen; omega)
  refine ⟨grownCap w (0 + n) 0 3, _, ?_, by omega, g2, h1, h2⟩
  simp only [Array.size_append, size_zeroCells, Value.cells, List.size_toArray, List.length_nil, List.length_cons]
  show 0 + (0 + n - 0) * 1 + (grownCap w (0 + n) 0 3 - (0 + n)) * 1 = _
  omega
theorem libX_ok : CallOk Try.prog libX := by
  intro f args m ret h
  unfold libX at h
  split at h
  · exact ⟨⟨_, Try.func97, some_body (by kernel_rfl), ne_name (by kernel_rfl)⟩, fun base w ι ras s hl ha => sort_ok (fun blk off cap zs w hH hb hz => Any.slices_Sort_int Try.laysSort blk off cap zs w hH hb hz) (fun p cap w => Any.slices_Sort_int_none Try.laysSort p cap w) h s hl ha⟩
  · exact ⟨⟨_, Try.func167, some_body (by kernel_rfl), ne_name (by kernel_rfl)⟩, fun base w ι ras s hl ha => grow_ok grow_room grow_grow h s hl ha⟩
  · cases h
end Go.Proofs.Ytdnfcomgdgdifaa
