/-
 Spaces of one's own: marked and held to their marks; deeds as arguments; what is told, compared.
-/
import Derived.Test.YtfbeplbcaanimaaGreatWc
set_option linter.unusedVariables false
set_option linter.unusedSimpArgs false
set_option maxHeartbeats 4000000
set_option maxRecDepth 100000
namespace Go.Proofs.YtfbeplbcaanimaaGreat
variable {X : FuncId → List V → List Blk → Option Ret} {L : Nat}
theorem den_markSpace (hL : 2000000 ≤ L) (k : Nat) {m : List Blk} {lo hi : Nat} {c : C} {s : Spc} {xss : List (List Int)} (h : SO m lo hi c xss) (hhi : hi ≤ m.length) (hb : xss.length ≤ 1048576) (hbs : ∀ xs ∈ xss, xs.length ≤ 1048576) {c0 : Int} (hc : 0 ≤ c0 ∧ c0 ≤ 1048576) (ht : tot xss ≤ 1073741824) :
  ∃ m' W e, den T X L (k + 3) 13 [.agg (spC s c), vi c0] m = some ⟨vi (c0 + tot xss), m', e, W⟩ ∧ W ≤ m.length - lo ∧ m'.length = m.length ∧ (∀ q, q < lo ∨ hi ≤ q → m'[q]? = m[q]?) ∧ SO m' lo hi c (mkSS c0 xss) := by
 rw [den_eq T_13]
 have h' : SO (m ++ [⟨spC s c, 51, 0, true⟩]) lo hi c xss := h.grow hhi
 obtain ⟨M, W, d1, w1, n1, a1, s1⟩ := h'.mark (X := X) (L := L) hL k (by simp; omega) hb hbs hc ht
 simp only [List.length_append, List.length_cons, List.length_nil] at w1 n1
 have hcr : c.refs ≤ m.length := by have := h.refs; omega
 have ht1 : List.take (mx m.length c.refs) M = M.take m.length := by rw [mx_eq, Nat.max_eq_left hcr]
 have ht2 : List.take m.length (M.take m.length) = M.take m.length := by rw [List.take_take, Nat.min_self]
 have ht3 : List.take (mx m.length c.refs) (M.take m.length) = M.take m.length := by rw [mx_eq, Nat.max_eq_left hcr, ht2]
 have hlo : lo < m.length := by have := h.refs; omega
 by_cases hw : W - 1 = 0
 ·refine ⟨M.take m.length, 0, 0, ?_, Nat.zero_le _, by rw [List.length_take]; omega, fun q hq => ?_, ?_⟩
  ·simp (maxSteps := 1000000) -implicitDefEqProofs (disch := omega) [-getElem?_pos, -C.refs, cr_sl, cr_ptr, cr_nils, cr_int, cr_bool, cr_ci, c_laws_markSpace, z141, sp_len, sp_refs, sp_set, d1, n1, hw, ht1, ht2, ht3]
  ·by_cases hq2 : q < m.length
   ·rw [List.getElem?_take_of_lt hq2, a1 q hq, List.getElem?_append_left hq2]
   ·rw [List.getElem?_take_eq_none (by omega), List.getElem?_eq_none (by omega)]
  ·exact s1.congr fun q _ hq => List.getElem?_take_of_lt (by omega)
 ·refine ⟨M.take m.length, W - 1, c.refs, ?_, by omega, by rw [List.length_take]; omega, fun q hq => ?_, ?_⟩
  ·simp (maxSteps := 1000000) -implicitDefEqProofs (disch := omega) [-getElem?_pos, -C.refs, cr_sl, cr_ptr, cr_nils, cr_int, cr_bool, cr_ci, c_laws_markSpace, z141, sp_len, sp_refs, sp_set, d1, n1, hw, ht1, ht2, ht3]
  ·by_cases hq2 : q < m.length
   ·rw [List.getElem?_take_of_lt hq2, a1 q hq, List.getElem?_append_left hq2]
   ·rw [List.getElem?_take_eq_none (by omega), List.getElem?_eq_none (by omega)]
  ·exact s1.congr fun q _ hq => List.getElem?_take_of_lt (by omega)
theorem den_heldSpace (hL : 2000000 ≤ L) (k : Nat) (m : List Blk) (s : Spc) (v : C) (xss : List (List Int)) (c0 : Int) (hv : SS m v (mkSS c0 xss)) (hb : xss.length ≤ 1048576) (hbs : ∀ xs ∈ xss, xs.length ≤ 1048576) (hc : 0 ≤ c0 ∧ c0 ≤ 1048576) (ht : tot xss ≤ 1073741824) :
  den T X L (k + 3) 14 [.agg (spC s v), vi c0] m = some ⟨vi (c0 + tot xss), m, 0, 0⟩ := by
 rw [den_eq T_14]
 have d1 := den_heldIntSS (X := X) (L := L) hL k (m ++ [⟨spC s v, 51, 0, true⟩]) v xss c0 hv.grow hb hbs hc ht
 have hn : ¬ c0 + (tot xss : Int) < 0 := by omega
 simp (maxSteps := 1000000) -implicitDefEqProofs (disch := omega) [-getElem?_pos, -C.refs, cr_sl, cr_ptr, cr_nils, cr_int, cr_bool, cr_ci, c_laws_heldSpace, z141, sp_len, sp_refs, sp_set, d1, hn, take_end]
theorem den_toDeed (k : Nat) (m : List Blk) (a x y : Int) : den T X L (k + 1) 9 [.agg [ci a, ci x, ci y]] m = some ⟨.agg [ci a, ci x, ci y], m, 0, 0⟩ := by
 rw [den_eq T_9]
 simp (maxSteps := 1000000) -implicitDefEqProofs (disch := omega) [-getElem?_pos, c_laws_toDeed]
theorem den_eqTold (k : Nat) (m : List Blk) (a x : Int) : den T X L (k + 1) 12 [.agg [ci a, ci x], .agg [ci a, ci x]] m = some ⟨vb true, m, 0, 0⟩ := by
 rw [den_eq T_12]
 simp (maxSteps := 1000000) -implicitDefEqProofs (disch := omega) [-getElem?_pos, c_laws_eqTold]
end Go.Proofs.YtfbeplbcaanimaaGreat
