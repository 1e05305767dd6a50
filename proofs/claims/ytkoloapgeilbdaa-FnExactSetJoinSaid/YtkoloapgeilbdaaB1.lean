/-
  Small tests of numbers.
-/
import Derived.Test.YtkoloapgeilbdaaTab
import Derived.Test.YtkoloapgeilbdaaEk
set_option linter.unusedVariables false
set_option linter.unusedSimpArgs false
namespace Go.Proofs.Ytkoloapgeilbdaa
variable {X : FuncId → List V → List Blk → Option Ret} {L : Nat}

def inB (n lo hi : Int) : Bool := decide (lo ≤ n) && decide (n ≤ hi)
def isVal (n : Int) : Bool := inB n (-1000000000) 1000000000

theorem den_in (k : Nat) (m : List Blk) (n lo hi : Int) : den T X L (k + 1) 73 [vi n, vi lo, vi hi] m = some ⟨vb (inB n lo hi), m, 0, 0⟩ := by
  rw [den_eq T_73]
  simp (maxSteps := 1000000) (implicitDefEqProofs := false) (disch := omega) [-getElem?_pos, c_impl_in, inB]
  by_cases h : lo ≤ n <;> simp (maxSteps := 1000000) (implicitDefEqProofs := false) (disch := omega) [-getElem?_pos, h]
theorem den_isValue (k : Nat) (m : List Blk) (n : Int) : den T X L (k + 2) 64 [vi n] m = some ⟨vb (isVal n), m, 0, 0⟩ := by
  rw [den_eq T_64]
  simp (maxSteps := 1000000) (implicitDefEqProofs := false) (disch := omega) [-getElem?_pos, c_impl_isValue, den_in, isVal]
theorem den_l1In (k : Nat) (m : List Blk) (n lo hi : Int) : den T X L (k + 1) 70 [vi n, vi lo, vi hi] m = some ⟨vb (inB n lo hi), m, 0, 0⟩ := by
  rw [den_eq T_70]
  simp (maxSteps := 1000000) (implicitDefEqProofs := false) (disch := omega) [-getElem?_pos, c_spec_l1In, inB]
  by_cases h : lo ≤ n <;> simp (maxSteps := 1000000) (implicitDefEqProofs := false) (disch := omega) [-getElem?_pos, h]
theorem den_l1Value (k : Nat) (m : List Blk) (n : Int) : den T X L (k + 2) 61 [vi n] m = some ⟨vb (isVal n), m, 0, 0⟩ := by
  rw [den_eq T_61]
  simp (maxSteps := 1000000) (implicitDefEqProofs := false) (disch := omega) [-getElem?_pos, c_spec_l1Value, den_l1In, isVal]

theorem inB_pos {n lo hi : Int} (h : lo ≤ n ∧ n ≤ hi) : inB n lo hi = true := by simp [inB, h]
theorem inB_iff {n lo hi : Int} : inB n lo hi = true ↔ lo ≤ n ∧ n ≤ hi := by simp [inB]
theorem inB_neg {n lo hi : Int} (h : ¬ (lo ≤ n ∧ n ≤ hi)) : inB n lo hi = false := by simp only [inB, ← Bool.decide_and]; exact decide_eq_false h
end Go.Proofs.Ytkoloapgeilbdaa
