/-
  Chains: comparisons; the laws of ChainOk and MapGet.
-/
import Derived.Test.YtonkgmajfcpeeaaC5
set_option linter.unusedVariables false
set_option linter.unusedSimpArgs false
set_option maxHeartbeats 4000000
namespace Go.Proofs.Ytonkgmajfcpeeaa
variable {X : FuncId → List V → List Blk → Option Ret} {L : Nat}

theorem den_eqNode (k : Nat) (m : List Blk) (x : Nd) : den T X L (k + 1) 76 [.agg (nd x), .agg (nd x)] m = some ⟨vb true, m, 0, 0⟩ := by
  rw [den_eq T_76]
  simp (maxSteps := 1000000) (implicitDefEqProofs := false) (disch := omega) [-getElem?_pos, c_laws_eqNode, nd]
theorem den_eqNodeA16 (hL : 100 ≤ L) (k : Nat) (m : List Blk) (f : Nat → Nd) : den T X L (k + 2) 70 [.agg (nds 16 f), .agg (nds 16 f)] m = some ⟨vb true, m, 0, 0⟩ := by
  rw [den_eq T_70]
  have hl := iter_up (f := fun s => exec (den T X L (k + 1)) L m.length none c_laws_eqNodeA16_b0 s) (tr := trim m.length (some [2, 3, 5]))
    (fun i => ⟨[(2, .c (.ptr m.length 0 64)), (3, .c (.ptr (m.length + 1) 0 64)), (5, vi i)], m ++ [⟨nds 16 f, 29, 0, true⟩, ⟨nds 16 f, 29, 0, true⟩], 0, 0⟩) 16
    ?s1 ⟨0, _, by simp (maxSteps := 1000000) (implicitDefEqProofs := false) (disch := omega) [-getElem?_pos, c_laws_eqNodeA16_b0]; rfl⟩
  case s1 =>
    intro i hi
    refine ⟨_, by simp (maxSteps := 1000000) (implicitDefEqProofs := false) (disch := omega) [-getElem?_pos, c_laws_eqNodeA16_b0, show (i : Int) < 16 by omega, den_eqNode]; rfl, ?_⟩
    simp (maxSteps := 1000000) (implicitDefEqProofs := false) (disch := omega) [-getElem?_pos]
  simp (maxSteps := 1000000) (implicitDefEqProofs := false) (disch := omega) [-getElem?_pos, c_laws_eqNodeA16]
  rw [hl L 0 _ ?tr (by omega) (by omega)]
  case tr => simp (maxSteps := 1000000) (implicitDefEqProofs := false) (disch := omega) [-getElem?_pos, nds_refs]
  simp (maxSteps := 1000000) (implicitDefEqProofs := false) (disch := omega) [-getElem?_pos, c_laws_eqNodeA16_b0]
theorem den_eqChain (hL : 100 ≤ L) (k : Nat) (m : List Blk) (f : Nat → Nd) (a : Int) : den T X L (k + 3) 42 [.agg (chn f a), .agg (chn f a)] m = some ⟨vb true, m, 0, 0⟩ := by
  rw [den_eq T_42]
  simp (maxSteps := 1000000) (implicitDefEqProofs := false) (disch := omega) [-getElem?_pos, c_laws_eqChain, den_eqNodeA16 hL]

theorem den_FnExactChainOk (hL : 100 ≤ L) (k : Nat) (m : List Blk) (f : Nat → Nd) (a : Int) : den T X L (k + 4) 3 [.agg (chn f a)] m = some ⟨vb true, m, 0, 0⟩ := by
  rw [den_eq T_3]
  simp (maxSteps := 1000000) (implicitDefEqProofs := false) (disch := omega) [-getElem?_pos, c_laws_FnExactChainOk, den_toChain hL, den_spec_ChainOk hL, den_impl_ChainOk hL]
theorem den_FnExactMapGet (hL : 100 ≤ L) (k : Nat) (m : List Blk) (f : Nat → Nd) (a key : Int) : den T X L (k + 5) 8 [.agg (chn f a), vi key] m = some ⟨vb true, m, 0, 0⟩ := by
  rw [den_eq T_8]
  simp (maxSteps := 1000000) (implicitDefEqProofs := false) (disch := omega) [-getElem?_pos, c_laws_FnExactMapGet, den_toChain hL (k + 1), den_spec_MapGet hL, den_impl_MapGet hL]
end Go.Proofs.Ytonkgmajfcpeeaa
