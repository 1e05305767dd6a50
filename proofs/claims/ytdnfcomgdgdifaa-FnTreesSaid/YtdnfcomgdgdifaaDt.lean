/-
  Trees drawn from bytes: every draw is right.
-/
import Derived.Test.YtdnfcomgdgdifaaDr
import Derived.Test.YtdnfcomgdgdifaaPu
set_option linter.unusedVariables false
set_option linter.unusedSimpArgs false
set_option maxHeartbeats 4000000
namespace Go.Proofs.Ytdnfcomgdgdifaa
variable {X : FuncId → List V → List Blk → Option Ret} {L : Nat}

abbrev TR := (Nat → Nd) × Int
def okTR (c : TR) : Prop := treeOk c.1 c.2 = true
theorem new_Tree : Tree (fun _ => nd0) (-1) [] := ⟨.nil, .nil, fun i _ => rfl, fun i _ => rfl⟩
theorem new_tree : okTR (fun _ => nd0, -1) := new_Tree.treeOk
abbrev trB (c : TR) : Blk := ⟨chn c.1 c.2, 47, 0, true⟩
abbrev zTR : TR := (fun _ => nd0, 0)
theorem den_l15Draw (hL : 5000 ≤ L) (k : Nat) {m : List Blk} {p : Nat} {c : C} {bs : List Int} (hc : CurOk m p c bs) (i h : Int) (hi : 0 ≤ i ∧ i ≤ bs.length) :
    ∃ r i' h', okTR r ∧ den T X L (k + 22) 76 [.c (.ptr p 0 3)] (m.set p (curB c i h)) = some ⟨.agg (chn r.1 r.2), m.set p (curB c i' h'), 0, m.length - p⟩ ∧ 0 ≤ i' ∧ i' ≤ bs.length := by
  rw [den_eq T_76]
  have hlt := hc.lt
  have hW : ¬ m.length - p = 0 := by omega
  have hw1 : m.length + 1 - p - 1 = m.length - p := by omega
  have hw2 : m.length + 2 - p - 2 = m.length - p := by omega
  have hlp := iter_exd (n0 := m.length) (id := 0) (ka := some [0, 2, 3]) (f := fun s => exec (den T X L (k + 21)) L m.length none c_spec_l15Draw_b0 s) (tr := trim m.length (some [0, 2, 3, 4, 5])) (σ := Int × Nat × TR × Int × Int)
    (fun s => ⟨[(0, .c (.ptr p 0 3)), (2, .c (.ptr m.length 0 65)), (3, .c (.ptr (m.length + 1) 0 65)), (4, vi s.1), (5, vi s.2.1)], m.set p (curB c s.2.2.2.1 s.2.2.2.2) ++ [trB zTR, trB s.2.2.1], 0, m.length - p⟩)
    (fun s => (0 < s.1 ∧ s.1 ≤ 256) ∧ okTR s.2.2.1 ∧ s.2.1 ≤ 1000 ∧ 0 ≤ s.2.2.2.1 ∧ s.2.2.2.1 ≤ bs.length) (fun s => s.2.1)
    (fun z => ∃ r i' h', z = (.norm, ⟨[(0, .c (.ptr p 0 3)), (2, .c (.ptr m.length 0 65)), (3, .c (.ptr (m.length + 1) 0 65))], m.set p (curB c i' h') ++ [trB zTR, trB r], 0, m.length - p⟩) ∧ okTR r ∧ 0 ≤ i' ∧ i' ≤ bs.length) ?w
  case w =>
    rintro ⟨wide, n, r, i, h⟩ ⟨hwd, h1, h2, h3, h4⟩
    simp only at hwd h1 h2 h3 h4 ⊢
    by_cases hn : n = 0
    · subst hn
      refine ⟨.exit 0, _, by simp (maxSteps := 1000000) (implicitDefEqProofs := false) (disch := omega) [-getElem?_pos, c_spec_l15Draw_b0]; rfl, ?_⟩
      exact ⟨_, by simp (maxSteps := 1000000) (implicitDefEqProofs := false) (disch := omega) [-getElem?_pos, c_blkx, take_mx, hlt], r, i, h, rfl, h1, h3, h4⟩
    · have hn' : 0 < n := by omega
      obtain ⟨t, i1, g1, o1, o2, o3⟩ := den_l1Once (X := X) (L := L) (k + 18) hc [trB zTR, trB r] i h 4 ⟨h3, h4⟩ (by omega)
      cases t with
      | true =>
        obtain ⟨x, i2, g2, o4, o5, o6, o7⟩ := den_l1Below (X := X) (L := L) (k + 19) hc [trB zTR, trB r] i1 g1 wide ⟨o2, o3⟩ hwd
        have q1 := fun m => den_spec_TreeDrop (X := X) (L := L) (by omega) k m r.1 r.2 x
        have hok := (treeDrop_ok (key := x) h1).1
        unfold outT at q1
        refine ⟨.norm, _, by simp (maxSteps := 1000000) (implicitDefEqProofs := false) (disch := omega) [-getElem?_pos, c_spec_l15Draw_b0, hn', o1, o4, q1, hlt, hw2]; rfl, (wide, n - 1, ((treeDrop r.1 r.2 x).1, (treeDrop r.1 r.2 x).2.1), i2, g2), ?_, ⟨hwd, hok, by show n - 1 ≤ 1000; omega, o6, o7⟩, by show n - 1 < n; omega⟩
        simp (maxSteps := 1000000) (implicitDefEqProofs := false) (disch := omega) [-getElem?_pos, hlt, hw2]
        omega
      | false =>
        obtain ⟨x, i2, g2, o4, o5, o6, o7⟩ := den_l1Below (X := X) (L := L) (k + 19) hc [trB zTR, trB r] i1 g1 wide ⟨o2, o3⟩ hwd
        have q1 := fun m => den_spec_TreeAdd (X := X) (L := L) (by omega) k m r.1 r.2 x
        have hok := (treeAdd_ok (key := x) h1).1
        unfold outT at q1
        refine ⟨.norm, _, by simp (maxSteps := 1000000) (implicitDefEqProofs := false) (disch := omega) [-getElem?_pos, c_spec_l15Draw_b0, hn', o1, o4, q1, hlt, hw2]; rfl, (wide, n - 1, ((treeAdd r.1 r.2 x).1, (treeAdd r.1 r.2 x).2.1), i2, g2), ?_, ⟨hwd, hok, by show n - 1 ≤ 1000; omega, o6, o7⟩, by show n - 1 < n; omega⟩
        simp (maxSteps := 1000000) (implicitDefEqProofs := false) (disch := omega) [-getElem?_pos, hlt, hw2]
        omega
  have hlp2 := iter_exd (n0 := m.length) (id := 2) (ka := some [2, 3]) (f := fun s => exec (den T X L (k + 21)) L m.length none c_spec_l15Draw_b1 s) (tr := trim m.length (some [0, 2, 3, 6])) (σ := Nat × TR × Int × Int)
    (fun s => ⟨[(0, .c (.ptr p 0 3)), (2, .c (.ptr m.length 0 65)), (3, .c (.ptr (m.length + 1) 0 65)), (6, vi s.1)], m.set p (curB c s.2.2.1 s.2.2.2) ++ [trB zTR, trB s.2.1], 0, m.length - p⟩)
    (fun s => okTR s.2.1 ∧ s.1 ≤ 12 ∧ 0 ≤ s.2.2.1 ∧ s.2.2.1 ≤ bs.length) (fun s => 12 - s.1)
    (fun z => ∃ r i' h', z = (.norm, ⟨[(2, .c (.ptr m.length 0 65)), (3, .c (.ptr (m.length + 1) 0 65))], m.set p (curB c i' h') ++ [trB zTR, trB r], 0, m.length - p⟩) ∧ okTR r ∧ 0 ≤ i' ∧ i' ≤ bs.length) ?w2
  case w2 =>
    rintro ⟨n, r, i, h⟩ ⟨h1, h2, h3, h4⟩
    simp only at h1 h2 h3 h4 ⊢
    obtain ⟨x, i2, g2, o4, o5, o6, o7⟩ := den_l1Below (X := X) (L := L) (k + 19) hc [trB zTR, trB r] i h 6 ⟨h3, h4⟩ (by omega)
    by_cases hn : (n : Int) < 6 + x
    · have q1 := fun m => den_spec_TreeAdd (X := X) (L := L) (by omega) k m r.1 r.2 (3 * n)
      have hok := (treeAdd_ok (key := 3 * n) h1).1
      unfold outT at q1
      refine ⟨.norm, _, by simp (maxSteps := 1000000) (implicitDefEqProofs := false) (disch := omega) [-getElem?_pos, c_spec_l15Draw_b1, hn, o4, q1, hlt, hw2]; rfl, (n + 1, ((treeAdd r.1 r.2 (3 * n)).1, (treeAdd r.1 r.2 (3 * n)).2.1), i2, g2), ?_, ⟨hok, by show n + 1 ≤ 12; omega, o6, o7⟩, by show 12 - (n + 1) < 12 - n; omega⟩
      simp (maxSteps := 1000000) (implicitDefEqProofs := false) (disch := omega) [-getElem?_pos, hlt, hw2]
    · refine ⟨.exit 2, _, by simp (maxSteps := 1000000) (implicitDefEqProofs := false) (disch := omega) [-getElem?_pos, c_spec_l15Draw_b1, hn, o4, hlt, hw2]; rfl, ?_⟩
      exact ⟨_, by simp (maxSteps := 1000000) (implicitDefEqProofs := false) (disch := omega) [-getElem?_pos, c_blkx, take_mx, hlt], r, i2, g2, rfl, h1, o6, o7⟩
  obtain ⟨x, i1, g1, o1, o2, o3, o4⟩ := den_l1Below (X := X) (L := L) (k + 19) hc [trB zTR, trB (fun _ => nd0, -1)] i h 20 hi (by omega)
  obtain ⟨y, i2, g2, r1, r2, r3, r4⟩ := den_l1Below (X := X) (L := L) (k + 19) hc [trB zTR, trB (fun _ => nd0, -1)] i1 g1 30 ⟨o3, o4⟩ (by omega)
  obtain ⟨n, rfl⟩ : ∃ n : Nat, y = n := ⟨y.toNat, by omega⟩
  have q0 := fun m => den_spec_NewTree (X := X) (L := L) (k + 20) m
  generalize hd : runF _ _ _ _ _ = d
  simp (maxSteps := 1000000) (implicitDefEqProofs := false) (disch := omega) [-getElem?_pos, c_spec_l15Draw, z65, q0, o1, r1, hlt, hw1, hw2] at hd
  generalize hq : blkC _ _ _ (iter _ _ _ _) = q at hd
  obtain ⟨_, e1, r, i', h', rfl, s1, s2, s3⟩ : ∃ z, q = some z ∧ ∃ r i' h', z = (Ex.norm, ⟨[(0, .c (.ptr p 0 3)), (2, .c (.ptr m.length 0 65)), (3, .c (.ptr (m.length + 1) 0 65))], m.set p (curB c i' h') ++ [trB zTR, trB r], 0, m.length - p⟩) ∧ okTR r ∧ 0 ≤ i' ∧ i' ≤ bs.length := by
    rw [← hq]
    exact hlp L (10 + x, n, (fun _ => nd0, -1), i2, g2) _ ⟨⟨by omega, by omega⟩, new_tree, by show n ≤ 1000; omega, r3, r4⟩ (by simp (maxSteps := 1000000) (implicitDefEqProofs := false) (disch := omega) [-getElem?_pos, take_mx, hw1, hw2, hlt]) (by show n < L; omega)
  subst e1
  obtain ⟨t, i3, g3, t1, t2, t3⟩ := den_l1Once (X := X) (L := L) (k + 18) hc [trB zTR, trB r] i' h' 8 ⟨s2, s3⟩ (by omega)
  cases t with
  | false =>
    simp (maxSteps := 1000000) (implicitDefEqProofs := false) (disch := omega) [-getElem?_pos, t1, hlt, hw2, hW] at hd
    exact ⟨r, i3, g3, s1, hd.symm, t2, t3⟩
  | true =>
    simp (maxSteps := 1000000) (implicitDefEqProofs := false) (disch := omega) [-getElem?_pos, t1, q0, hlt, hw2] at hd
    generalize hq2 : blkC _ _ _ (iter _ _ _ _) = q2 at hd
    obtain ⟨_, e2, r', i4, g4, rfl, v1, u3, u4⟩ : ∃ z, q2 = some z ∧ ∃ r i' h', z = (Ex.norm, ⟨[(2, .c (.ptr m.length 0 65)), (3, .c (.ptr (m.length + 1) 0 65))], m.set p (curB c i' h') ++ [trB zTR, trB r], 0, m.length - p⟩) ∧ okTR r ∧ 0 ≤ i' ∧ i' ≤ bs.length := by
      rw [← hq2]
      exact hlp2 L (0, (fun _ => nd0, -1), i3, g3) _ ⟨new_tree, by show 0 ≤ 12; omega, t2, t3⟩ (by simp (maxSteps := 1000000) (implicitDefEqProofs := false) (disch := omega) [-getElem?_pos, take_mx, hw1, hw2, hlt]) (by show 12 - 0 < L; omega)
    subst e2
    simp (maxSteps := 1000000) (implicitDefEqProofs := false) (disch := omega) [-getElem?_pos, hlt, hw2, hW] at hd
    exact ⟨r', i4, g4, v1, hd.symm, u3, u4⟩
/-- What is drawn is a right tree, and no memory is left of it. -/
theorem den_DrawTree (hL : 5000 ≤ L) (k : Nat) (m : List Blk) (c : C) (bs : List Int) (hs : SlB m c bs) (hb : bs.length ≤ 1048576) :
    ∃ r, okTR r ∧ den T X L (k + 23) 33 [.c c] m = some ⟨.agg (chn r.1 r.2), m, 0, 0⟩ := by
  rw [den_eq T_33]
  obtain ⟨h, e1⟩ := den_l1New (X := X) hL (k + 21) (m ++ [trB zTR]) c bs hs.grow hb
  have hc : CurOk (m ++ [trB zTR] ++ [curB c 0 h]) (m.length + 1) c bs := ⟨hs.grow.grow, by have := hs.refs; omega, by simp, hb⟩
  obtain ⟨r, i', h', g1, e2, _⟩ := den_l15Draw (X := X) hL k hc 0 h ⟨Int.le_refl _, by omega⟩
  refine ⟨r, g1, ?_⟩
  simp only [List.append_assoc, List.cons_append, List.nil_append, set_app, List.set_cons_succ, List.set_cons_zero, List.length_append, List.length_cons, List.length_nil] at e1 e2
  have hr : c.refs ≤ m.length := hs.refs
  generalize c.refs = cr at e1 hr
  simp (maxSteps := 1000000) (implicitDefEqProofs := false) (disch := omega) [-getElem?_pos, c_spec_DrawTree, z65, e1, e2]
end Go.Proofs.Ytdnfcomgdgdifaa
