/-
  Trees: how high, and their keys.
-/
import Derived.Test.YtonkgmajfcpeeaaT3
import Derived.Test.YtonkgmajfcpeeaaC13
set_option linter.unusedVariables false
set_option linter.unusedSimpArgs false
set_option maxHeartbeats 4000000
namespace Go.Proofs.Ytonkgmajfcpeeaa
variable {X : FuncId → List V → List Blk → Option Ret} {L : Nat}

/-! ### How high -/
def hgF (f : Nat → Nd) : Nat → Int → Int
  | 0, _ => 0
  | n + 1, p => if p = -1 then 0 else 1 + (if hgF f n (f p.toNat).b ≤ hgF f n (f p.toNat).c then hgF f n (f p.toNat).c else hgF f n (f p.toNat).b)
theorem hgF_end {f : Nat → Nd} {n : Nat} : hgF f (n + 1) (-1) = 0 := rfl
theorem hgF_go {f : Nat → Nd} {n q : Nat} : hgF f (n + 1) q = 1 + (if hgF f n (f q).b ≤ hgF f n (f q).c then hgF f n (f q).c else hgF f n (f q).b) := by
  conv => lhs; unfold hgF
  rw [if_neg (by omega), Int.toNat_natCast]
theorem hgF_bound {f : Nat → Nd} : ∀ (n : Nat) (p : Int), 0 ≤ hgF f n p ∧ hgF f n p ≤ n
  | 0, _ => ⟨Int.le_refl _, Int.le_refl _⟩
  | n + 1, p => by
    have h1 := hgF_bound (f := f) n (f p.toNat).b
    have h2 := hgF_bound (f := f) n (f p.toNat).c
    unfold hgF
    split
    · omega
    · split <;> omega
theorem den_l1Max (k : Nat) (m : List Blk) (x y : Int) : den T X L (k + 1) 75 [vi x, vi y] m = some ⟨vi (if x ≤ y then y else x), m, 0, 0⟩ := by
  rw [den_eq T_75]
  by_cases h : x ≤ y
  · simp (maxSteps := 1000000) (implicitDefEqProofs := false) (disch := omega) [-getElem?_pos, c_spec_l1Max, show ¬ x > y by omega, h]
  · simp (maxSteps := 1000000) (implicitDefEqProofs := false) (disch := omega) [-getElem?_pos, c_spec_l1Max, show x > y by omega, h]
theorem den_impl_high : ∀ (n k : Nat) (m : List Blk) (f : Nat → Nd) (a p : Int) (l : List Nat), Tr f p l → l.length < n → n ≤ k → n ≤ 20 → den T X L (k + 1) 62 [.agg (chn f a), vi p] m = some ⟨vi (hgF f n p), m, 0, 0⟩
  | 0, _, _, _, _, _, _, _, h, _, _ => by omega
  | n + 1, k, m, f, a, p, l, h, hl, hk, hn => by
    obtain ⟨k, rfl⟩ : ∃ k', k = k' + 1 := ⟨k - 1, by omega⟩
    rw [den_eq T_62]
    rcases h.inv with ⟨rfl, rfl⟩ | ⟨q, l1, r1, rfl, h1, h2, h3, h4, rfl⟩
    · simp (maxSteps := 1000000) (implicitDefEqProofs := false) (disch := omega) [-getElem?_pos, c_impl_Tree_high, hgF_end]
    · simp only [List.length_append, List.length_cons] at hl
      have e1 := fun m => den_impl_high n k m f a (f q).b l1 h3 (by omega) (by omega) (by omega)
      have e2 := fun m => den_impl_high n k m f a (f q).c r1 h4 (by omega) (by omega) (by omega)
      have b1 := hgF_bound (f := f) n (f q).b
      have b2 := hgF_bound (f := f) n (f q).c
      rw [hgF_go]
      generalize hgF f n (f q).b = x at e1 b1
      generalize hgF f n (f q).c = y at e2 b2
      by_cases hc : x ≤ y
      · simp (maxSteps := 1000000) (implicitDefEqProofs := false) (disch := omega) [-getElem?_pos, c_impl_Tree_high, show ¬ (q : Int) = -1 by omega, e1, e2, hc]
      · simp (maxSteps := 1000000) (implicitDefEqProofs := false) (disch := omega) [-getElem?_pos, c_impl_Tree_high, show ¬ (q : Int) = -1 by omega, e1, e2, hc]
theorem den_spec_high : ∀ (n k : Nat) (m : List Blk) (f : Nat → Nd) (a p : Int) (l : List Nat), Tr f p l → l.length < n → n ≤ k → n ≤ 20 → den T X L (k + 1) 61 [.agg (chn f a), vi p] m = some ⟨vi (hgF f n p), m, 0, 0⟩
  | 0, _, _, _, _, _, _, _, h, _, _ => by omega
  | n + 1, k, m, f, a, p, l, h, hl, hk, hn => by
    obtain ⟨k, rfl⟩ : ∃ k', k = k' + 1 := ⟨k - 1, by omega⟩
    rw [den_eq T_61]
    rcases h.inv with ⟨rfl, rfl⟩ | ⟨q, l1, r1, rfl, h1, h2, h3, h4, rfl⟩
    · simp (maxSteps := 1000000) (implicitDefEqProofs := false) (disch := omega) [-getElem?_pos, c_spec_l15High, hgF_end]
    · simp only [List.length_append, List.length_cons] at hl
      have e1 := fun m => den_spec_high n k m f a (f q).b l1 h3 (by omega) (by omega) (by omega)
      have e2 := fun m => den_spec_high n k m f a (f q).c r1 h4 (by omega) (by omega) (by omega)
      have b1 := hgF_bound (f := f) n (f q).b
      have b2 := hgF_bound (f := f) n (f q).c
      rw [hgF_go]
      generalize hgF f n (f q).b = x at e1 b1
      generalize hgF f n (f q).c = y at e2 b2
      have e3 := fun m => den_l1Max (X := X) (L := L) k m x y
      by_cases hc : x ≤ y
      · simp (maxSteps := 1000000) (implicitDefEqProofs := false) (disch := omega) [-getElem?_pos, c_spec_l15High, show ¬ (q : Int) < 0 by omega, e1, e2, e3, hc]
      · simp (maxSteps := 1000000) (implicitDefEqProofs := false) (disch := omega) [-getElem?_pos, c_spec_l15High, show ¬ (q : Int) < 0 by omega, e1, e2, e3, hc]
def treeHigh (f : Nat → Nd) (a : Int) : Int := if treeOk f a = true then hgF f 17 a else -1
theorem den_impl_TreeHigh (hL : 100 ≤ L) (k : Nat) (m : List Blk) (f : Nat → Nd) (a : Int) : den T X L (k + 21) 27 [.agg (chn f a)] m = some ⟨vi (treeHigh f a), m, 0, 0⟩ := by
  rw [den_eq T_27]
  cases hok : treeOk f a with
  | false => simp (maxSteps := 1000000) (implicitDefEqProofs := false) (disch := omega) [-getElem?_pos, c_impl_TreeHigh, den_impl_TreeOk hL, treeOk_same, hok, treeHigh]
  | true =>
    obtain ⟨l, _, h1, _, _, _, h2⟩ := tree_spec hok
    have e := fun m => den_impl_high (X := X) (L := L) 17 (k + 19) m f a a l h1 (by omega) (by omega) (by omega)
    simp (maxSteps := 1000000) (implicitDefEqProofs := false) (disch := omega) [-getElem?_pos, c_impl_TreeHigh, den_impl_TreeOk hL, treeOk_same, hok, treeHigh, e]
theorem den_spec_TreeHigh (hL : 100 ≤ L) (k : Nat) (m : List Blk) (f : Nat → Nd) (a : Int) : den T X L (k + 21) 26 [.agg (chn f a)] m = some ⟨vi (treeHigh f a), m, 0, 0⟩ := by
  rw [den_eq T_26]
  cases hok : treeOk f a with
  | false => simp (maxSteps := 1000000) (implicitDefEqProofs := false) (disch := omega) [-getElem?_pos, c_spec_TreeHigh, den_spec_TreeOk hL, hok, treeHigh]
  | true =>
    obtain ⟨l, _, h1, _, _, _, h2⟩ := tree_spec hok
    have e := fun m => den_spec_high (X := X) (L := L) 17 (k + 19) m f a a l h1 (by omega) (by omega) (by omega)
    simp (maxSteps := 1000000) (implicitDefEqProofs := false) (disch := omega) [-getElem?_pos, c_spec_TreeHigh, den_spec_TreeOk hL, hok, treeHigh, e]
theorem den_FnExactTreeHigh (hL : 100 ≤ L) (k : Nat) (m : List Blk) (f : Nat → Nd) (a : Int) : den T X L (k + 22) 6 [.agg (chn f a)] m = some ⟨vb true, m, 0, 0⟩ := by
  rw [den_eq T_6]
  simp (maxSteps := 1000000) (implicitDefEqProofs := false) (disch := omega) [-getElem?_pos, c_laws_FnExactTreeHigh, den_toTree hL (k + 18), den_spec_TreeHigh hL, den_impl_TreeHigh hL]
end Go.Proofs.Ytonkgmajfcpeeaa
