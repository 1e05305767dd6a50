/-
 Deeds on spaces: the reference's walk.
-/
import Derived.Test.YtfbeplbcaanimaaGreatWa
import Derived.Test.YtfbeplbcaanimaaGreatWc
set_option linter.unusedVariables false
set_option linter.unusedSimpArgs false
set_option maxHeartbeats 4000000
set_option maxRecDepth 100000
namespace Go.Proofs.YtfbeplbcaanimaaGreat
variable {L : Nat}
theorem fin_keep {W : C → V} (hW : One W) {m l : List Blk} {c : C} {env : List (Nat × V)} {e : Nat} (hc : c.refs ≤ m.length) : fin m.length (W c) ⟨env, m ++ l, e, 0⟩ = ⟨W c, m, 0, 0⟩ := by
 unfold fin
 simp only [if_true]
 rw [hW.refs, if_pos hc, List.take_left]
theorem fin_ks {m l : List Blk} {c : C} {env : List (Nat × V)} {e : Nat} {s : Spc} {a b : Int} (hc : c.refs ≤ m.length) : fin m.length (.tup [.agg (spC s c), .agg [ci a, ci b]]) ⟨env, m ++ l, e, 0⟩ = ⟨.tup [.agg (spC s c), .agg [ci a, ci b]], m, 0, 0⟩ := fin_keep (one_spt s a b) hc
def Left (m M : List Blk) (lo e0 e : Nat) (c' : C) (xss : List (List Int)) : Prop := ∃ hi', Ext m M ∧ SO M lo hi' c' xss ∧ hi' ≤ M.length ∧ hi' ≤ mx (mx e0 e) c'.refs
theorem Left.same {m : List Blk} {lo hi e0 : Nat} {c : C} {xss : List (List Int)} (h : SO m lo hi c xss) (h1 : hi ≤ m.length) (h2 : hi ≤ mx e0 c.refs) : Left m m lo e0 0 c xss := ⟨hi, Ext.refl m, h, h1, by simp only [mx_eq] at h2 ⊢; omega⟩
theorem fin_left {m M : List Blk} {hi e e0 lo : Nat} {c : C} {env : List (Nat × V)} {s : Spc} {a b : Int} {xss : List (List Int)} (hE : Ext m M) (h : SO M m.length hi c xss) (hm : hi ≤ M.length) (ha : hi ≤ mx e c.refs) (hlo : lo ≤ m.length) :
  ∃ M' c' e', some (fin m.length (.tup [.agg (spC s c), .agg [ci a, ci b]]) ⟨env, M, e, 0⟩) = some ⟨.tup [.agg (spC s c'), .agg [ci a, ci b]], M', e', 0⟩ ∧ Left m M' lo e0 e' c' xss := by
 obtain ⟨M', c', e', f1, f2, f3, f4⟩ := fin_w' (one_spt s a b) (env := env) hE h hm ha
 refine ⟨M', c', e', f1, M'.length, f2, f3.wide hlo (Nat.le_refl _), Nat.le_refl _, ?_⟩
 simp only [mx_eq] at f4 ⊢
 omega
theorem deed8 (s : Spc) (xss : List (List Int)) (x y : Int) : deed s xss ⟨8, x, y⟩ = (s, (setAdd xss x).1, toldS (setAdd xss x).2, 0) := by simp [deed]
theorem deed9 (s : Spc) (xss : List (List Int)) (x y : Int) : deed s xss ⟨9, x, y⟩ = (s, (setDrop xss x).1, toldS (setDrop xss x).2, 0) := by simp [deed]
section
variable (hL : 2000000 ≤ L) (k : Nat) (m : List Blk) (s : Spc) (c : C) (xss : List (List Int)) (x y : Int)
include hL
theorem l17_1 (hcr : c.refs ≤ m.length) :
  den T libX L (k + 22) 38 [.agg (spC s c), .agg [ci 1, ci x, ci y]] m = some ⟨.tup [.agg (spC (deed s xss ⟨1, x, y⟩).1 c), .agg [ci (deed s xss ⟨1, x, y⟩).2.2.1, ci (deed s xss ⟨1, x, y⟩).2.2.2]], m, 0, 0⟩ := by
 rw [den_eq T_38]
 have e1 := fun m => den_spec_MapPut (X := libX) (L := L) (by omega) (k + 17) m s.f s.a x y
 have e2 := fun m => den_l17Map (X := libX) (L := L) (k + 20) m _ (mapPut_c s.f s.a x y)
 simp only [deed, if_true]
 unfold outC at e1
 generalize mapPut s.f s.a x y = q at e1 e2 ⊢
 simp (maxSteps := 1000000) -implicitDefEqProofs (disch := omega) [-getElem?_pos, -fin, -C.refs, cr_sl, cr_ptr, cr_nils, cr_int, cr_bool, cr_ci, c_spec_l17Deed, z141, z65, z10r, chn_over, ring_over, chn_take, ring_take, chn_z, ring_z, chn_l, sp_len, sp_refs, sp_take, sp_map, sp_queue, sp_tree, sp_set, sp_over, sp_lmap, sp_lqueue, sp_ltree, sp_lset, e1, e2]
 exact fin_ks hcr
theorem l17_2 (hcr : c.refs ≤ m.length) :
  den T libX L (k + 22) 38 [.agg (spC s c), .agg [ci 2, ci x, ci y]] m = some ⟨.tup [.agg (spC (deed s xss ⟨2, x, y⟩).1 c), .agg [ci (deed s xss ⟨2, x, y⟩).2.2.1, ci (deed s xss ⟨2, x, y⟩).2.2.2]], m, 0, 0⟩ := by
 rw [den_eq T_38]
 have e1 := fun m => den_spec_MapDrop (X := libX) (L := L) (by omega) (k + 17) m s.f s.a x
 have e2 := fun m => den_l17Map (X := libX) (L := L) (k + 20) m _ (mapDrop_c s.f s.a x)
 simp only [deed, if_true]
 unfold outC at e1
 generalize mapDrop s.f s.a x = q at e1 e2 ⊢
 simp (maxSteps := 1000000) -implicitDefEqProofs (disch := omega) [-getElem?_pos, -fin, -C.refs, cr_sl, cr_ptr, cr_nils, cr_int, cr_bool, cr_ci, c_spec_l17Deed, z141, z65, z10r, chn_over, ring_over, chn_take, ring_take, chn_z, ring_z, chn_l, sp_len, sp_refs, sp_take, sp_map, sp_queue, sp_tree, sp_set, sp_over, sp_lmap, sp_lqueue, sp_ltree, sp_lset, e1, e2]
 exact fin_ks hcr
theorem l17_3 (hcr : c.refs ≤ m.length) :
  den T libX L (k + 22) 38 [.agg (spC s c), .agg [ci 3, ci x, ci y]] m = some ⟨.tup [.agg (spC (deed s xss ⟨3, x, y⟩).1 c), .agg [ci (deed s xss ⟨3, x, y⟩).2.2.1, ci (deed s xss ⟨3, x, y⟩).2.2.2]], m, 0, 0⟩ := by
 rw [den_eq T_38]
 have e1 := fun m => den_spec_MapGet (X := libX) (L := L) (by omega) (k + 17) m s.f s.a x
 have e2 := fun m => den_l17Map (X := libX) (L := L) (k + 20) m _ (mapGet_c s.f s.a x)
 simp only [deed, if_true]
 generalize mapGet s.f s.a x = q at e1 e2 ⊢
 simp (maxSteps := 1000000) -implicitDefEqProofs (disch := omega) [-getElem?_pos, -fin, -C.refs, cr_sl, cr_ptr, cr_nils, cr_int, cr_bool, cr_ci, c_spec_l17Deed, z141, z65, z10r, chn_over, ring_over, chn_take, ring_take, chn_z, ring_z, chn_l, sp_len, sp_refs, sp_take, sp_map, sp_queue, sp_tree, sp_set, sp_over, sp_lmap, sp_lqueue, sp_ltree, sp_lset, e1, e2]
 exact fin_ks hcr
theorem l17_4 (hcr : c.refs ≤ m.length) :
  den T libX L (k + 22) 38 [.agg (spC s c), .agg [ci 4, ci x, ci y]] m = some ⟨.tup [.agg (spC (deed s xss ⟨4, x, y⟩).1 c), .agg [ci (deed s xss ⟨4, x, y⟩).2.2.1, ci (deed s xss ⟨4, x, y⟩).2.2.2]], m, 0, 0⟩ := by
 rw [den_eq T_38]
 have e1 : ∀ m, den T libX L (k + 21) 65 [.agg (ringV s.r), vi x] m = some ⟨.tup [.agg (ringV (ringPut s.r.1 s.r.2.1 s.r.2.2 x).1), vi (ringPut s.r.1 s.r.2.1 s.r.2.2 x).2], m, 0, 0⟩ := fun m => den_spec_RingPut (X := libX) (L := L) (by omega) (k + 17) m s.r.1 s.r.2.1 s.r.2.2 x
 have e2 := fun m => den_l17Ring (X := libX) (L := L) (k + 20) m _ (ringPut_c s.r.1 s.r.2.1 s.r.2.2 x)
 simp only [deed, if_true]
 generalize ringPut s.r.1 s.r.2.1 s.r.2.2 x = q at e1 e2 ⊢
 simp (maxSteps := 1000000) -implicitDefEqProofs (disch := omega) [-getElem?_pos, -fin, -C.refs, cr_sl, cr_ptr, cr_nils, cr_int, cr_bool, cr_ci, c_spec_l17Deed, z141, z65, z10r, chn_over, ring_over, chn_take, ring_take, chn_z, ring_z, ring_l, sp_len, sp_refs, sp_take, sp_map, sp_queue, sp_tree, sp_set, sp_over, sp_lmap, sp_lqueue, sp_ltree, sp_lset, e1, e2]
 exact fin_ks hcr
theorem l17_5 (hcr : c.refs ≤ m.length) :
  den T libX L (k + 22) 38 [.agg (spC s c), .agg [ci 5, ci x, ci y]] m = some ⟨.tup [.agg (spC (deed s xss ⟨5, x, y⟩).1 c), .agg [ci (deed s xss ⟨5, x, y⟩).2.2.1, ci (deed s xss ⟨5, x, y⟩).2.2.2]], m, 0, 0⟩ := by
 rw [den_eq T_38]
 have e1 : ∀ m, den T libX L (k + 21) 67 [.agg (ringV s.r)] m = some ⟨.tup [.agg (ringV (ringTake s.r.1 s.r.2.1 s.r.2.2).1), vi (ringTake s.r.1 s.r.2.1 s.r.2.2).2.1, vi (ringTake s.r.1 s.r.2.1 s.r.2.2).2.2], m, 0, 0⟩ := fun m => den_spec_RingTake (X := libX) (L := L) (by omega) (k + 17) m s.r.1 s.r.2.1 s.r.2.2
 have e2 := fun m => den_l17Ring (X := libX) (L := L) (k + 20) m _ (ringTake_c s.r.1 s.r.2.1 s.r.2.2)
 simp only [deed, if_true]
 generalize ringTake s.r.1 s.r.2.1 s.r.2.2 = q at e1 e2 ⊢
 simp (maxSteps := 1000000) -implicitDefEqProofs (disch := omega) [-getElem?_pos, -fin, -C.refs, cr_sl, cr_ptr, cr_nils, cr_int, cr_bool, cr_ci, c_spec_l17Deed, z141, z65, z10r, chn_over, ring_over, chn_take, ring_take, chn_z, ring_z, ring_l, sp_len, sp_refs, sp_take, sp_map, sp_queue, sp_tree, sp_set, sp_over, sp_lmap, sp_lqueue, sp_ltree, sp_lset, e1, e2]
 exact fin_ks hcr
theorem l17_6 (hcr : c.refs ≤ m.length) :
  den T libX L (k + 22) 38 [.agg (spC s c), .agg [ci 6, ci x, ci y]] m = some ⟨.tup [.agg (spC (deed s xss ⟨6, x, y⟩).1 c), .agg [ci (deed s xss ⟨6, x, y⟩).2.2.1, ci (deed s xss ⟨6, x, y⟩).2.2.2]], m, 0, 0⟩ := by
 rw [den_eq T_38]
 have e1 := fun m => den_spec_TreeAdd (X := libX) (L := L) (by omega) k m s.g s.b x
 have e2 := fun m => den_l17Tree (X := libX) (L := L) (k + 20) m _ (treeAdd_c s.g s.b x)
 simp only [deed, if_true]
 unfold outT at e1
 generalize treeAdd s.g s.b x = q at e1 e2 ⊢
 simp (maxSteps := 1000000) -implicitDefEqProofs (disch := omega) [-getElem?_pos, -fin, -C.refs, cr_sl, cr_ptr, cr_nils, cr_int, cr_bool, cr_ci, c_spec_l17Deed, z141, z65, z10r, chn_over, ring_over, chn_take, ring_take, chn_z, ring_z, chn_l, sp_len, sp_refs, sp_take, sp_map, sp_queue, sp_tree, sp_set, sp_over, sp_lmap, sp_lqueue, sp_ltree, sp_lset, e1, e2]
 exact fin_ks hcr
theorem l17_7 (hcr : c.refs ≤ m.length) :
  den T libX L (k + 22) 38 [.agg (spC s c), .agg [ci 7, ci x, ci y]] m = some ⟨.tup [.agg (spC (deed s xss ⟨7, x, y⟩).1 c), .agg [ci (deed s xss ⟨7, x, y⟩).2.2.1, ci (deed s xss ⟨7, x, y⟩).2.2.2]], m, 0, 0⟩ := by
 rw [den_eq T_38]
 have e1 := fun m => den_spec_TreeDrop (X := libX) (L := L) (by omega) k m s.g s.b x
 have e2 := fun m => den_l17Tree (X := libX) (L := L) (k + 20) m _ (treeDrop_c s.g s.b x)
 simp only [deed, if_true]
 unfold outT at e1
 generalize treeDrop s.g s.b x = q at e1 e2 ⊢
 simp (maxSteps := 1000000) -implicitDefEqProofs (disch := omega) [-getElem?_pos, -fin, -C.refs, cr_sl, cr_ptr, cr_nils, cr_int, cr_bool, cr_ci, c_spec_l17Deed, z141, z65, z10r, chn_over, ring_over, chn_take, ring_take, chn_z, ring_z, chn_l, sp_len, sp_refs, sp_take, sp_map, sp_queue, sp_tree, sp_set, sp_over, sp_lmap, sp_lqueue, sp_ltree, sp_lset, e1, e2]
 exact fin_ks hcr
theorem l17_8 {lo hi e0 : Nat} (h : SO m lo hi c xss) (hlo : lo ≤ m.length) (hhi : hi ≤ m.length) (b1 : xss.length ≤ 1048576) (b2 : ∀ xs ∈ xss, xs.length ≤ 1048576) :
  ∃ M c' e, den T libX L (k + 22) 38 [.agg (spC s c), .agg [ci 8, ci x, ci y]] m = some ⟨.tup [.agg (spC (deed s xss ⟨8, x, y⟩).1 c'), .agg [ci (deed s xss ⟨8, x, y⟩).2.2.1, ci (deed s xss ⟨8, x, y⟩).2.2.2]], M, e, 0⟩ ∧ Left m M lo e0 e c' (deed s xss ⟨8, x, y⟩).2.1 := by
 have hcr : c.refs ≤ m.length := by have := h.refs; omega
 rw [deed8]
 rw [den_eq T_38]
 obtain ⟨M, c', e, d1, x1, s1, q1⟩ := spec_SetAdd (X := libX) (L := L) hL (k + 16) (m ++ [⟨spC s c, 51, 0, true⟩, ⟨[ci 8, ci x, ci y], 57, 0, true⟩, ⟨spC spZ .nils, 51, 0, true⟩, ⟨[ci 0, ci 0], 53, 0, true⟩]) c xss x h.ssa.grow b1 b2
 obtain ⟨l, rfl⟩ := x1
 obtain ⟨q', n', rfl⟩ := s1.form
 simp only [List.append_assoc, List.cons_append, List.nil_append] at d1
 have e2 := fun m => den_l17Set (X := libX) (L := L) (k + 20) m _ (setAdd_c xss x)
 generalize setAdd xss x = q at d1 s1 e2 ⊢
 have htk : ∀ A B D E a b, List.take (mx m.length (mx (mx (mx (mx a e) (q' + 1)) (q' + 1)) b)) (m ++ A :: B :: D :: E :: l) = m ++ A :: B :: D :: E :: l := fun A B D E a b => List.take_of_length_le (by
  simp only [List.length_append, List.length_cons, List.length_nil, cr_sl, mx_eq] at q1 ⊢
  omega)
 generalize hd' : runF _ _ _ _ _ = d
 simp (maxSteps := 1000000) -implicitDefEqProofs (disch := omega) [-getElem?_pos, -fin, -C.refs, cr_sl, cr_ptr, cr_nils, cr_int, cr_bool, cr_ci, c_spec_l17Deed, z141, z65, z10r, chn_over, ring_over, chn_take, ring_take, chn_z, ring_z, sp_len, sp_refs, sp_take, sp_map, sp_queue, sp_tree, sp_set, sp_over, sp_lmap, sp_lqueue, sp_ltree, sp_lset, d1, e2, htk] at hd'
 subst hd'
 refine fin_left ⟨_, rfl⟩ (s1.frame2 (p' := [_, _, _, _]) rfl) (by simp) ?_ hlo
 simp only [List.length_append, List.length_cons, List.length_nil, cr_sl, mx_eq] at q1 ⊢
 omega
theorem l17_9 {lo hi e0 : Nat} (h : SO m lo hi c xss) (hlo : lo ≤ m.length) (hhi : hi ≤ m.length) (b1 : xss.length ≤ 1048576) (b2 : ∀ xs ∈ xss, xs.length ≤ 1048576) :
  ∃ M c' e, den T libX L (k + 22) 38 [.agg (spC s c), .agg [ci 9, ci x, ci y]] m = some ⟨.tup [.agg (spC (deed s xss ⟨9, x, y⟩).1 c'), .agg [ci (deed s xss ⟨9, x, y⟩).2.2.1, ci (deed s xss ⟨9, x, y⟩).2.2.2]], M, e, 0⟩ ∧ Left m M lo e0 e c' (deed s xss ⟨9, x, y⟩).2.1 := by
 have hcr : c.refs ≤ m.length := by have := h.refs; omega
 rw [deed9]
 rw [den_eq T_38]
 obtain ⟨M, c', e, d1, x1, s1, q1⟩ := spec_SetDrop (X := libX) (L := L) hL (k + 16) (m ++ [⟨spC s c, 51, 0, true⟩, ⟨[ci 9, ci x, ci y], 57, 0, true⟩, ⟨spC spZ .nils, 51, 0, true⟩, ⟨[ci 0, ci 0], 53, 0, true⟩]) c xss x h.ssa.grow b1 b2
 obtain ⟨l, rfl⟩ := x1
 obtain ⟨q', n', rfl⟩ := s1.form
 simp only [List.append_assoc, List.cons_append, List.nil_append] at d1
 have e2 := fun m => den_l17Set (X := libX) (L := L) (k + 20) m _ (setDrop_c xss x)
 generalize setDrop xss x = q at d1 s1 e2 ⊢
 have htk : ∀ A B D E a b, List.take (mx m.length (mx (mx (mx (mx a e) (q' + 1)) (q' + 1)) b)) (m ++ A :: B :: D :: E :: l) = m ++ A :: B :: D :: E :: l := fun A B D E a b => List.take_of_length_le (by
  simp only [List.length_append, List.length_cons, List.length_nil, cr_sl, mx_eq] at q1 ⊢
  omega)
 generalize hd' : runF _ _ _ _ _ = d
 simp (maxSteps := 1000000) -implicitDefEqProofs (disch := omega) [-getElem?_pos, -fin, -C.refs, cr_sl, cr_ptr, cr_nils, cr_int, cr_bool, cr_ci, c_spec_l17Deed, z141, z65, z10r, chn_over, ring_over, chn_take, ring_take, chn_z, ring_z, sp_len, sp_refs, sp_take, sp_map, sp_queue, sp_tree, sp_set, sp_over, sp_lmap, sp_lqueue, sp_ltree, sp_lset, d1, e2, htk] at hd'
 subst hd'
 refine fin_left ⟨_, rfl⟩ (s1.frame2 (p' := [_, _, _, _]) rfl) (by simp) ?_ hlo
 simp only [List.length_append, List.length_cons, List.length_nil, cr_sl, mx_eq] at q1 ⊢
 omega
theorem l17_all {kd : Int} {lo hi e0 : Nat} (h : SO m lo hi c xss) (hlo : lo ≤ m.length) (hhi : hi ≤ m.length) (he : hi ≤ mx e0 c.refs) (hk : 1 ≤ kd ∧ kd ≤ 9) (b1 : xss.length ≤ 1048576) (b2 : ∀ xs ∈ xss, xs.length ≤ 1048576) :
  ∃ M c' e, den T libX L (k + 22) 38 [.agg (spC s c), .agg [ci kd, ci x, ci y]] m = some ⟨.tup [.agg (spC (deed s xss ⟨kd, x, y⟩).1 c'), .agg [ci (deed s xss ⟨kd, x, y⟩).2.2.1, ci (deed s xss ⟨kd, x, y⟩).2.2.2]], M, e, 0⟩ ∧ Left m M lo e0 e c' (deed s xss ⟨kd, x, y⟩).2.1 := by
 have hcr : c.refs ≤ m.length := by have := h.refs; omega
 rcases (show kd = 1 ∨ kd = 2 ∨ kd = 3 ∨ kd = 4 ∨ kd = 5 ∨ kd = 6 ∨ kd = 7 ∨ kd = 8 ∨ kd = 9 by omega) with rfl | rfl | rfl | rfl | rfl | rfl | rfl | rfl | rfl
 ·exact ⟨_, _, _, l17_1 hL k m s c xss x y hcr, Left.same h hhi he⟩
 ·exact ⟨_, _, _, l17_2 hL k m s c xss x y hcr, Left.same h hhi he⟩
 ·exact ⟨_, _, _, l17_3 hL k m s c xss x y hcr, Left.same h hhi he⟩
 ·exact ⟨_, _, _, l17_4 hL k m s c xss x y hcr, Left.same h hhi he⟩
 ·exact ⟨_, _, _, l17_5 hL k m s c xss x y hcr, Left.same h hhi he⟩
 ·exact ⟨_, _, _, l17_6 hL k m s c xss x y hcr, Left.same h hhi he⟩
 ·exact ⟨_, _, _, l17_7 hL k m s c xss x y hcr, Left.same h hhi he⟩
 ·exact l17_8 hL k m s c xss x y h hlo hhi b1 b2
 ·exact l17_9 hL k m s c xss x y h hlo hhi b1 b2
end
end Go.Proofs.YtfbeplbcaanimaaGreat
