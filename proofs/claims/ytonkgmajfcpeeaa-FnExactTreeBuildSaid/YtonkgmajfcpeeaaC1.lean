/-
  Chains: copies and comparisons.
-/
import Derived.Test.YtonkgmajfcpeeaaTab
import Derived.Test.YtonkgmajfcpeeaaEk
set_option linter.unusedVariables false
set_option linter.unusedSimpArgs false
namespace Go.Proofs.Ytonkgmajfcpeeaa
variable {X : FuncId → List V → List Blk → Option Ret} {L : Nat}

def nd0 : Nd := ⟨false, 0, 0, 0⟩
theorem z4 : [C.bool false, C.int .i64 0, .int .i64 0, .int .i64 0] = nd nd0 := rfl
def zN : List C := nds 16 fun _ => nd0
theorem z64 : [C.bool false, .int .i64 0, .int .i64 0, .int .i64 0, .bool false, .int .i64 0, .int .i64 0, .int .i64 0, .bool false, .int .i64 0, .int .i64 0, .int .i64 0, .bool false, .int .i64 0, .int .i64 0, .int .i64 0,
  .bool false, .int .i64 0, .int .i64 0, .int .i64 0, .bool false, .int .i64 0, .int .i64 0, .int .i64 0, .bool false, .int .i64 0, .int .i64 0, .int .i64 0, .bool false, .int .i64 0, .int .i64 0, .int .i64 0,
  .bool false, .int .i64 0, .int .i64 0, .int .i64 0, .bool false, .int .i64 0, .int .i64 0, .int .i64 0, .bool false, .int .i64 0, .int .i64 0, .int .i64 0, .bool false, .int .i64 0, .int .i64 0, .int .i64 0,
  .bool false, .int .i64 0, .int .i64 0, .int .i64 0, .bool false, .int .i64 0, .int .i64 0, .int .i64 0, .bool false, .int .i64 0, .int .i64 0, .int .i64 0, .bool false, .int .i64 0, .int .i64 0, .int .i64 0] = nds 16 fun _ => nd0 := rfl
theorem z65 : [C.bool false, .int .i64 0, .int .i64 0, .int .i64 0, .bool false, .int .i64 0, .int .i64 0, .int .i64 0, .bool false, .int .i64 0, .int .i64 0, .int .i64 0, .bool false, .int .i64 0, .int .i64 0, .int .i64 0,
  .bool false, .int .i64 0, .int .i64 0, .int .i64 0, .bool false, .int .i64 0, .int .i64 0, .int .i64 0, .bool false, .int .i64 0, .int .i64 0, .int .i64 0, .bool false, .int .i64 0, .int .i64 0, .int .i64 0,
  .bool false, .int .i64 0, .int .i64 0, .int .i64 0, .bool false, .int .i64 0, .int .i64 0, .int .i64 0, .bool false, .int .i64 0, .int .i64 0, .int .i64 0, .bool false, .int .i64 0, .int .i64 0, .int .i64 0,
  .bool false, .int .i64 0, .int .i64 0, .int .i64 0, .bool false, .int .i64 0, .int .i64 0, .int .i64 0, .bool false, .int .i64 0, .int .i64 0, .int .i64 0, .bool false, .int .i64 0, .int .i64 0, .int .i64 0, .int .i64 0] = nds 16 (fun _ => nd0) ++ [ci 0] := rfl
abbrev chn (f : Nat → Nd) (a : Int) : List C := nds 16 f ++ [ci a]

theorem den_toNode (k : Nat) (m : List Blk) (x : Nd) : den T X L (k + 1) 72 [.agg (nd x)] m = some ⟨.agg (nd x), m, 0, 0⟩ := by
  rw [den_eq T_72]
  simp (maxSteps := 1000000) (implicitDefEqProofs := false) (disch := omega) [-getElem?_pos, c_laws_toNode, nd]
theorem den_toNodeA16 (hL : 100 ≤ L) (k : Nat) (m : List Blk) (f : Nat → Nd) : den T X L (k + 2) 49 [.agg (nds 16 f)] m = some ⟨.agg (nds 16 f), m, 0, 0⟩ := by
  rw [den_eq T_49]
  have hl := iter_up (f := fun s => exec (den T X L (k + 1)) L m.length none c_laws_toNodeA16_b0 s) (tr := trim m.length (some [1, 2, 3, 4]))
    (fun i => ⟨[(1, .c (.ptr m.length 0 64)), (2, .c (.ptr (m.length + 1) 0 64)), (3, .c (.ptr (m.length + 2) 0 64)), (4, vi i)], m ++ [⟨nds 16 f, 24, 0, true⟩, ⟨nds 16 fun _ => nd0, 29, 0, true⟩, ⟨nds 16 fun j => if j < i then f j else nd0, 29, 0, true⟩], 0, 0⟩) 16
    ?s1 ⟨0, _, by simp (maxSteps := 1000000) (implicitDefEqProofs := false) (disch := omega) [-getElem?_pos, c_laws_toNodeA16_b0]; rfl⟩
  case s1 =>
    intro i hi
    refine ⟨_, by simp (maxSteps := 1000000) (implicitDefEqProofs := false) (disch := omega) [-getElem?_pos, c_laws_toNodeA16_b0, show (i : Int) < 16 by omega, den_toNode]; rfl, ?_⟩
    simp (maxSteps := 1000000) (implicitDefEqProofs := false) (disch := omega) [-getElem?_pos]
    refine nds_ext fun j hj => ?_
    unfold upd
    by_cases h1 : j = i
    · subst h1; simp
    · by_cases h2 : j < i
      · simp [h1, h2, show j < i + 1 by omega]
      · simp [h1, h2, show ¬ j < i + 1 by omega]
  simp (maxSteps := 1000000) (implicitDefEqProofs := false) (disch := omega) [-getElem?_pos, c_laws_toNodeA16, z64]
  rw [hl L 0 _ ?tr (by omega) (by omega)]
  case tr => simp (maxSteps := 1000000) (implicitDefEqProofs := false) (disch := omega) [-getElem?_pos, nds_refs]
  simp (maxSteps := 1000000) (implicitDefEqProofs := false) (disch := omega) [-getElem?_pos, c_laws_toNodeA16_b0]
  exact nds_ext fun j hj => by simp [hj]
theorem den_toChain (hL : 100 ≤ L) (k : Nat) (m : List Blk) (f : Nat → Nd) (a : Int) : den T X L (k + 3) 16 [.agg (chn f a)] m = some ⟨.agg (chn f a), m, 0, 0⟩ := by
  rw [den_eq T_16]
  simp (maxSteps := 1000000) (implicitDefEqProofs := false) (disch := omega) [-getElem?_pos, c_laws_toChain, z65, den_toNodeA16 hL]
end Go.Proofs.Ytonkgmajfcpeeaa
