/-
  RingPut and RingTake, the program's and the reference's.
-/
import Derived.Test.YtkoloapgeilbdaaR3
set_option linter.unusedVariables false
set_option linter.unusedSimpArgs false
namespace Go.Proofs.Ytkoloapgeilbdaa
variable {X : FuncId → List V → List Blk → Option Ret} {L : Nat}

theorem ringOk_bounds {f : Nat → Int} {a b : Int} (h : ringOk f a b = true) : 0 ≤ a ∧ a ≤ 7 ∧ 0 ≤ b ∧ b ≤ 8 := by
  simp only [ringOk, Bool.and_eq_true, inB_iff] at h
  omega

def ringPut (f : Nat → Int) (a b v : Int) : ((Nat → Int) × Int × Int) × Int :=
  if ringOk f a b = false ∨ isVal v = false then ((f, a, b), 1) else if b = 8 then ((f, a, b), 2) else ((upd f ((a + b) % 8).toNat v, a, b + 1), 0)
def ringTake (f : Nat → Int) (a b : Int) : ((Nat → Int) × Int × Int) × Int × Int :=
  if ringOk f a b = false then ((f, a, b), 0, 1) else if b = 0 then ((f, a, b), 0, 3) else ((upd f a.toNat 0, (a + 1) % 8, b - 1), f a.toNat, 0)
abbrev ringV (r : (Nat → Int) × Int × Int) : List C := ring r.1 r.2.1 r.2.2

theorem den_spec_RingPut (hL : 100 ≤ L) (k : Nat) (m : List Blk) (f : Nat → Int) (a b v : Int) :
    den T X L (k + 4) 72 [.agg (ring f a b), vi v] m = some ⟨.tup [.agg (ringV (ringPut f a b v).1), vi (ringPut f a b v).2], m, 0, 0⟩ := by
  rw [den_eq T_72]
  have e := fun m => den_spec_RingOk (X := X) hL k m f a b
  unfold ringPut
  cases ho : ringOk f a b with
  | false => rw [ho] at e; simp (maxSteps := 1000000) (implicitDefEqProofs := false) (disch := omega) [-getElem?_pos, c_spec_RingPut, e, z10]
  | true =>
    rw [ho] at e
    obtain ⟨h1, h2, h3, h4⟩ := ringOk_bounds ho
    cases hv : isVal v with
    | false => simp (maxSteps := 1000000) (implicitDefEqProofs := false) (disch := omega) [-getElem?_pos, c_spec_RingPut, e, z10, den_l1Value, hv]
    | true =>
      by_cases hb : b = 8
      · subst hb
        simp (maxSteps := 1000000) (implicitDefEqProofs := false) (disch := omega) [-getElem?_pos, c_spec_RingPut, e, z10, den_l1Value, hv]
      · simp (maxSteps := 1000000) (implicitDefEqProofs := false) (disch := omega) [-getElem?_pos, c_spec_RingPut, e, z10, den_l1Value, hv, hb]
theorem den_impl_RingPut (hL : 100 ≤ L) (k : Nat) (m : List Blk) (f : Nat → Int) (a b v : Int) :
    den T X L (k + 8) 38 [.agg (ring f a b), vi v] m = some ⟨.tup [.agg (ringV (ringPut f a b v).1), vi (ringPut f a b v).2], m, 0, 0⟩ := by
  rw [den_eq T_38]
  have e := fun m => den_impl_RingOk (X := X) hL k m f a b
  unfold ringPut
  cases ho : ringOk f a b with
  | false => rw [ho] at e; simp (maxSteps := 1000000) (implicitDefEqProofs := false) (disch := omega) [-getElem?_pos, c_impl_RingPut, e, z10]
  | true =>
    rw [ho] at e
    obtain ⟨h1, h2, h3, h4⟩ := ringOk_bounds ho
    cases hv : isVal v with
    | false => simp (maxSteps := 1000000) (implicitDefEqProofs := false) (disch := omega) [-getElem?_pos, c_impl_RingPut, e, z10, den_isValue, hv]
    | true =>
      by_cases hb : b = 8
      · subst hb
        simp (maxSteps := 1000000) (implicitDefEqProofs := false) (disch := omega) [-getElem?_pos, c_impl_RingPut, e, z10, den_isValue, hv]
      · simp (maxSteps := 1000000) (implicitDefEqProofs := false) (disch := omega) [-getElem?_pos, c_impl_RingPut, e, z10, den_isValue, hv, hb]
theorem den_spec_RingTake (hL : 100 ≤ L) (k : Nat) (m : List Blk) (f : Nat → Int) (a b : Int) :
    den T X L (k + 4) 71 [.agg (ring f a b)] m = some ⟨.tup [.agg (ringV (ringTake f a b).1), vi (ringTake f a b).2.1, vi (ringTake f a b).2.2], m, 0, 0⟩ := by
  rw [den_eq T_71]
  have e := fun m => den_spec_RingOk (X := X) hL k m f a b
  unfold ringTake
  cases ho : ringOk f a b with
  | false => rw [ho] at e; simp (maxSteps := 1000000) (implicitDefEqProofs := false) (disch := omega) [-getElem?_pos, c_spec_RingTake, e, z10]
  | true =>
    rw [ho] at e
    obtain ⟨h1, h2, h3, h4⟩ := ringOk_bounds ho
    by_cases hb : b = 0
    · subst hb
      simp (maxSteps := 1000000) (implicitDefEqProofs := false) (disch := omega) [-getElem?_pos, c_spec_RingTake, e, z10]
    · simp (maxSteps := 1000000) (implicitDefEqProofs := false) (disch := omega) [-getElem?_pos, c_spec_RingTake, e, z10, hb]
theorem den_impl_RingTake (hL : 100 ≤ L) (k : Nat) (m : List Blk) (f : Nat → Int) (a b : Int) :
    den T X L (k + 8) 41 [.agg (ring f a b)] m = some ⟨.tup [.agg (ringV (ringTake f a b).1), vi (ringTake f a b).2.1, vi (ringTake f a b).2.2], m, 0, 0⟩ := by
  rw [den_eq T_41]
  have e := fun m => den_impl_RingOk (X := X) hL k m f a b
  unfold ringTake
  cases ho : ringOk f a b with
  | false => rw [ho] at e; simp (maxSteps := 1000000) (implicitDefEqProofs := false) (disch := omega) [-getElem?_pos, c_impl_RingTake, e, z10]
  | true =>
    rw [ho] at e
    obtain ⟨h1, h2, h3, h4⟩ := ringOk_bounds ho
    by_cases hb : b = 0
    · subst hb
      simp (maxSteps := 1000000) (implicitDefEqProofs := false) (disch := omega) [-getElem?_pos, c_impl_RingTake, e, z10]
    · simp (maxSteps := 1000000) (implicitDefEqProofs := false) (disch := omega) [-getElem?_pos, c_impl_RingTake, e, z10, hb]

end Go.Proofs.Ytkoloapgeilbdaa
