/-
  Chains: the law of pairs.
-/
import Derived.Test.YtonkgmajfcpeeaaC10
set_option linter.unusedVariables false
set_option linter.unusedSimpArgs false
set_option maxHeartbeats 4000000
namespace Go.Proofs.Ytonkgmajfcpeeaa
variable {X : FuncId → List V → List Blk → Option Ret} {L : Nat}

theorem den_FnExactMapPairs (hL : 100 ≤ L) (k : Nat) (m : List Blk) (f : Nat → Nd) (a : Int) : den T X L (k + 5) 7 [.agg (chn f a)] m = some ⟨vb true, m, 0, 0⟩ := by
  rw [den_eq T_7]
  have hlen := pairsL_len f a
  have hk := keysL_len (pairsL f a)
  have hv := valsL_len (pairsL f a)
  by_cases hn : (pairsL f a).length = 0
  · have h0 : pairsL f a = [] := List.length_eq_zero_iff.1 hn
    simp (maxSteps := 1000000) (implicitDefEqProofs := false) (disch := first | omega | (simp [get_app, get_app0]; done) | rfl) [-getElem?_pos, c_laws_FnExactMapPairs, den_toChain hL (k + 1), den_spec_MapPairs hL, den_impl_MapPairs hL, outP, h0, keysL, valsL, eqI_b (k + 3) _ _ _ _ [], markZ_b hL (k + 3), heldZ_b hL (k + 3), z65]
  · simp (maxSteps := 1000000) (implicitDefEqProofs := false) (disch := first | omega | (simp [get_app, get_app0]; done) | rfl) [-getElem?_pos, c_laws_FnExactMapPairs, den_toChain hL (k + 1), den_spec_MapPairs hL, den_impl_MapPairs hL, outP, eqI_b (k + 3) _ _ _ _ (keysL (pairsL f a)), eqI_b (k + 3) _ _ _ _ (valsL (pairsL f a)), markI_b (k + 3) _ _ _ _ (keysL (pairsL f a)), markI_b (k + 3) _ _ _ _ (valsL (pairsL f a)), heldI_b (k + 3), z65, hk, hv]
    rw [if_neg (by omega), if_neg (by omega), if_neg (by omega), if_neg (by omega)]
end Go.Proofs.Ytonkgmajfcpeeaa
