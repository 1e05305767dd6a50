/-
 Spaces copied to memory of one's own.
-/
import Derived.Test.YtfbeplbcaanimaaGreatWb
set_option linter.unusedVariables false
set_option linter.unusedSimpArgs false
set_option maxHeartbeats 4000000
set_option maxRecDepth 100000
namespace Go.Proofs.YtfbeplbcaanimaaGreat
variable {X : FuncId → List V → List Blk → Option Ret} {L : Nat}
theorem SO.frame {m l p p' : List Blk} {lo hi : Nat} {c : C} {xss : List (List Int)} (h : SO (m ++ (p ++ l)) lo hi c xss) (hp : p.length = p'.length) (hl : m.length + p.length ≤ lo) : SO (m ++ (p' ++ l)) lo hi c xss :=
 h.congr fun q h1 _ => by
  rw [← List.append_assoc, ← List.append_assoc, List.getElem?_append_right (by rw [List.length_append]; omega), List.getElem?_append_right (by rw [List.length_append]; omega), List.length_append, List.length_append, hp]
theorem SO.frame2 {m l p p' : List Blk} {hi : Nat} {c : C} {xss : List (List Int)} (h : SO (m ++ p ++ l) (m ++ p).length hi c xss) (hp : p.length = p'.length) : SO (m ++ (p' ++ l)) m.length hi c xss := by
 rw [List.append_assoc] at h
 exact (h.frame hp (by rw [List.length_append]; exact Nat.le_refl _)).wide (by rw [List.length_append]; omega) (Nat.le_refl _)
theorem SO.refs {m : List Blk} {lo hi : Nat} {c : C} {xss : List (List Int)} (h : SO m lo hi c xss) : c.refs ≤ hi ∧ lo + 1 ≤ c.refs := by
 obtain ⟨b, hs, bi, h1, h2, rfl, _⟩ := h
 simp only [C.refs]
 omega
theorem toSOb (hL : 2000000 ≤ L) (k : Nat) (m : List Blk) (v : C) (xss : List (List Int)) (hv : SS m v xss) (hb : xss.length ≤ 1048576) (hbs : ∀ xs ∈ xss, xs.length ≤ 1048576) :
  ∃ M c e, den T X L (k + 2) 42 [.c v] m = some ⟨.c c, M, e, 0⟩ ∧ Ext m M ∧ SO M m.length M.length c xss ∧ M.length ≤ mx e c.refs := by
 refine ⟨_, _, _, den_toIntSS hL k m v xss hv hb hbs, ⟨_, rfl⟩, fresh_SO m xss, ?_⟩
 rw [freshM_len]
 show _ ≤ mx _ (m.length + 1)
 rw [mx_eq]
 split
 ·rename_i h; subst h; simp
 ·omega
theorem copyO (hL : 2000000 ≤ L) (k : Nat) (m : List Blk) (v : C) (xss : List (List Int)) (hv : SSA m v xss) (hb : xss.length ≤ 1048576) (hbs : ∀ xs ∈ xss, xs.length ≤ 1048576) :
  ∃ M c e, den T X L (k + 2) 56 [.c v] m = some ⟨.c c, M, e, 0⟩ ∧ Ext m M ∧ SO M m.length M.length c xss ∧ M.length ≤ mx e c.refs := by
 refine ⟨_, _, _, den_l16Copy hL k m v xss hv hb hbs, ⟨_, rfl⟩, fresh_SO m xss, ?_⟩
 rw [freshM_len]
 show _ ≤ mx _ (m.length + 1)
 rw [mx_eq]
 split
 ·rename_i h; subst h; simp
 ·omega
theorem ownO (hL : 2000000 ≤ L) (k : Nat) (m : List Blk) (v : C) (xss : List (List Int)) (hv : SSA m v xss) (hb : xss.length ≤ 1048576) (hbs : ∀ xs ∈ xss, xs.length ≤ 1048576) :
  ∃ M c e, den T X L (k + 2) 78 [.c v] m = some ⟨.c c, M, e, 0⟩ ∧ Ext m M ∧ SO M m.length M.length c xss ∧ M.length ≤ mx e c.refs := by
 refine ⟨_, _, _, den_ownSet hL k m v xss hv hb hbs, ⟨_, rfl⟩, fresh_SO m xss, ?_⟩
 rw [freshM_len]
 show _ ≤ mx _ (m.length + 1)
 rw [mx_eq]
 split
 ·rename_i h; subst h; simp
 ·omega
theorem den_l17Copy (hL : 2000000 ≤ L) (k : Nat) (m : List Blk) (s : Spc) (v : C) (xss : List (List Int)) (hv : SSA m v xss) (hb : xss.length ≤ 1048576) (hbs : ∀ xs ∈ xss, xs.length ≤ 1048576) :
  ∃ M c e, den T X L (k + 3) 34 [.agg (spC s v)] m = some ⟨.agg (spC s c), M, e, 0⟩ ∧ Ext m M ∧ SO M m.length M.length c xss ∧ M.length ≤ mx e c.refs := by
 rw [den_eq T_34]
 obtain ⟨M, c, e, d1, x1, s1, b1⟩ := copyO (X := X) (L := L) hL k (m ++ [⟨spC s v, 51, 0, true⟩, ⟨spC spZ .nils, 51, 0, true⟩]) v xss hv.grow hb hbs
 obtain ⟨l, rfl⟩ := x1
 simp only [List.append_assoc, List.cons_append, List.nil_append] at d1
 obtain ⟨q, n, rfl⟩ := s1.form
 have htk : ∀ A B a b, List.take (mx m.length (mx (mx (mx (mx a e) (q + 1)) (q + 1)) b)) (m ++ A :: B :: l) = m ++ A :: B :: l := fun A B a b => List.take_of_length_le (by
  simp only [List.length_append, List.length_cons, List.length_nil, cr_sl, mx_eq] at b1 ⊢
  omega)
 generalize hd' : runF _ _ _ _ _ = d
 simp (maxSteps := 1000000) -implicitDefEqProofs (disch := omega) [-getElem?_pos, -fin, -C.refs, cr_sl, cr_ptr, cr_nils, cr_int, cr_bool, cr_ci, c_spec_l17Copy, z141, sp_len, sp_refs, sp_take, sp_set, sp_over, sp_lset, d1, htk] at hd'
 subst hd'
 refine fin_w' (one_sp s) ⟨_, rfl⟩ (s1.frame2 (p' := [_, _]) rfl) ?_ ?_
 ·simp
 ·simp only [List.length_append, List.length_cons, List.length_nil, cr_sl, mx_eq] at b1 ⊢
  omega
theorem den_ownSpace (hL : 2000000 ≤ L) (k : Nat) (m : List Blk) (s : Spc) (v : C) (xss : List (List Int)) (hv : SSA m v xss) (hb : xss.length ≤ 1048576) (hbs : ∀ xs ∈ xss, xs.length ≤ 1048576) :
  ∃ M c e, den T X L (k + 3) 43 [.agg (spC s v)] m = some ⟨.agg (spC s c), M, e, 0⟩ ∧ Ext m M ∧ SO M m.length M.length c xss ∧ M.length ≤ mx e c.refs := by
 rw [den_eq T_43]
 obtain ⟨M, c, e, d1, x1, s1, b1⟩ := ownO (X := X) (L := L) hL k (m ++ [⟨spC s v, 51, 0, true⟩, ⟨spC spZ .nils, 51, 0, true⟩]) v xss hv.grow hb hbs
 obtain ⟨l, rfl⟩ := x1
 simp only [List.append_assoc, List.cons_append, List.nil_append] at d1
 obtain ⟨q, n, rfl⟩ := s1.form
 have htk : ∀ A B a b, List.take (mx m.length (mx (mx (mx (mx a e) (q + 1)) (q + 1)) b)) (m ++ A :: B :: l) = m ++ A :: B :: l := fun A B a b => List.take_of_length_le (by
  simp only [List.length_append, List.length_cons, List.length_nil, cr_sl, mx_eq] at b1 ⊢
  omega)
 generalize hd' : runF _ _ _ _ _ = d
 simp (maxSteps := 1000000) -implicitDefEqProofs (disch := omega) [-getElem?_pos, -fin, -C.refs, cr_sl, cr_ptr, cr_nils, cr_int, cr_bool, cr_ci, c_impl_ownSpace, z141, sp_len, sp_refs, sp_take, sp_set, sp_over, sp_lset, d1, htk] at hd'
 subst hd'
 refine fin_w' (one_sp s) ⟨_, rfl⟩ (s1.frame2 (p' := [_, _]) rfl) ?_ ?_
 ·simp
 ·simp only [List.length_append, List.length_cons, List.length_nil, cr_sl, mx_eq] at b1 ⊢
  omega
theorem toSpO (hL : 2000000 ≤ L) (k : Nat) (m : List Blk) (s : Spc) (v : C) (xss : List (List Int)) (hv : SS m v xss) (hb : xss.length ≤ 1048576) (hbs : ∀ xs ∈ xss, xs.length ≤ 1048576) :
  ∃ M c e, den T X L (k + 4) 8 [.agg (spC s v)] m = some ⟨.agg (spC s c), M, e, 0⟩ ∧ Ext m M ∧ SO M m.length M.length c xss ∧ M.length ≤ mx e c.refs := by
 rw [den_eq T_8]
 have e1 := fun m => den_toChain (X := X) (L := L) (by omega) k m s.f s.a
 have e2 : ∀ m, den T X L (k + 3) 40 [.agg (ringV s.r)] m = some ⟨.agg (ringV s.r), m, 0, 0⟩ := fun m => den_toRing (X := X) (L := L) (by omega) (k + 1) m s.r.1 s.r.2.1 s.r.2.2
 have e3 := fun m => den_toTree (X := X) (L := L) (by omega) k m s.g s.b
 obtain ⟨M, c, e, d1, x1, s1, b1⟩ := toSOb (X := X) (L := L) hL (k + 1) (m ++ [⟨spC s v, 37, 0, true⟩, ⟨spC spZ .nils, 51, 0, true⟩, ⟨spC s .nils, 51, 0, true⟩]) v xss hv.grow hb hbs
 obtain ⟨l, rfl⟩ := x1
 simp only [List.append_assoc, List.cons_append, List.nil_append] at d1
 obtain ⟨q, n, rfl⟩ := s1.form
 have htk : ∀ A B D a b, List.take (mx m.length (mx (mx (mx (mx a e) (q + 1)) (q + 1)) b)) (m ++ A :: B :: D :: l) = m ++ A :: B :: D :: l := fun A B D a b => List.take_of_length_le (by
  simp only [List.length_append, List.length_cons, List.length_nil, cr_sl, mx_eq] at b1 ⊢
  omega)
 generalize hd' : runF _ _ _ _ _ = d
 simp (maxSteps := 1000000) -implicitDefEqProofs (disch := omega) [-getElem?_pos, -fin, -C.refs, cr_sl, cr_ptr, cr_nils, cr_int, cr_bool, cr_ci, c_laws_toSpace, z141, sp_len, sp_refs, sp_take, sp_map, sp_queue, sp_tree, sp_set, sp_over, sp_lmap, sp_lqueue, sp_ltree, sp_lset, e1, e2, e3, d1, htk] at hd'
 subst hd'
 refine fin_w' (one_sp s) ⟨_, rfl⟩ (s1.frame2 (p' := [_, _, _]) rfl) ?_ ?_
 ·simp
 ·simp only [List.length_append, List.length_cons, List.length_nil, cr_sl, mx_eq] at b1 ⊢
  omega
end Go.Proofs.YtfbeplbcaanimaaGreat
