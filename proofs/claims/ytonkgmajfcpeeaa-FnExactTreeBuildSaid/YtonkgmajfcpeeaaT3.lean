/-
  Trees: copies; the law of TreeOk.
-/
import Derived.Test.YtonkgmajfcpeeaaT2
set_option linter.unusedVariables false
set_option linter.unusedSimpArgs false
set_option maxHeartbeats 4000000
namespace Go.Proofs.Ytonkgmajfcpeeaa
variable {X : FuncId → List V → List Blk → Option Ret} {L : Nat}

theorem den_toTwig (k : Nat) (m : List Blk) (x : Nd) : den T X L (k + 1) 73 [.agg (nd x)] m = some ⟨.agg (nd x), m, 0, 0⟩ := by
  rw [den_eq T_73]
  simp (maxSteps := 1000000) (implicitDefEqProofs := false) (disch := omega) [-getElem?_pos, c_laws_toTwig, nd]
theorem den_toTwigA16 (hL : 100 ≤ L) (k : Nat) (m : List Blk) (f : Nat → Nd) : den T X L (k + 2) 53 [.agg (nds 16 f)] m = some ⟨.agg (nds 16 f), m, 0, 0⟩ := by
  rw [den_eq T_53]
  have hl := iter_up (f := fun s => exec (den T X L (k + 1)) L m.length none c_laws_toTwigA16_b0 s) (tr := trim m.length (some [1, 2, 3, 4]))
    (fun i => ⟨[(1, .c (.ptr m.length 0 64)), (2, .c (.ptr (m.length + 1) 0 64)), (3, .c (.ptr (m.length + 2) 0 64)), (4, vi i)], m ++ [⟨nds 16 f, 36, 0, true⟩, ⟨nds 16 fun _ => nd0, 41, 0, true⟩, ⟨nds 16 fun j => if j < i then f j else nd0, 41, 0, true⟩], 0, 0⟩) 16
    ?s1 ⟨0, _, by simp (maxSteps := 1000000) (implicitDefEqProofs := false) (disch := omega) [-getElem?_pos, c_laws_toTwigA16_b0]; rfl⟩
  case s1 =>
    intro i hi
    refine ⟨_, by simp (maxSteps := 1000000) (implicitDefEqProofs := false) (disch := omega) [-getElem?_pos, c_laws_toTwigA16_b0, show (i : Int) < 16 by omega, den_toTwig]; rfl, ?_⟩
    simp (maxSteps := 1000000) (implicitDefEqProofs := false) (disch := omega) [-getElem?_pos]
    refine nds_ext fun j hj => ?_
    unfold upd
    by_cases h1 : j = i
    · subst h1; simp
    · by_cases h2 : j < i
      · simp [h1, h2, show j < i + 1 by omega]
      · simp [h1, h2, show ¬ j < i + 1 by omega]
  simp (maxSteps := 1000000) (implicitDefEqProofs := false) (disch := omega) [-getElem?_pos, c_laws_toTwigA16, z64]
  rw [hl L 0 _ ?tr (by omega) (by omega)]
  case tr => simp (maxSteps := 1000000) (implicitDefEqProofs := false) (disch := omega) [-getElem?_pos, nds_refs]
  simp (maxSteps := 1000000) (implicitDefEqProofs := false) (disch := omega) [-getElem?_pos, c_laws_toTwigA16_b0]
  exact nds_ext fun j hj => by simp [hj]
theorem den_toTree (hL : 100 ≤ L) (k : Nat) (m : List Blk) (f : Nat → Nd) (a : Int) : den T X L (k + 3) 19 [.agg (chn f a)] m = some ⟨.agg (chn f a), m, 0, 0⟩ := by
  rw [den_eq T_19]
  simp (maxSteps := 1000000) (implicitDefEqProofs := false) (disch := omega) [-getElem?_pos, c_laws_toTree, z65, den_toTwigA16 hL]

theorem den_FnExactTreeOk (hL : 100 ≤ L) (k : Nat) (m : List Blk) (f : Nat → Nd) (a : Int) : den T X L (k + 21) 4 [.agg (chn f a)] m = some ⟨vb true, m, 0, 0⟩ := by
  rw [den_eq T_4]
  simp (maxSteps := 1000000) (implicitDefEqProofs := false) (disch := omega) [-getElem?_pos, c_laws_FnExactTreeOk, den_toTree hL (k + 17), den_spec_TreeOk hL, den_impl_TreeOk hL, treeOk_same]
end Go.Proofs.Ytonkgmajfcpeeaa
