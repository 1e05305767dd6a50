/-
  Chains drawn from bytes: every draw is right.
-/
import Derived.Test.YtdnfcomgdgdifaaDr
import Derived.Test.YtdnfcomgdgdifaaPm
set_option linter.unusedVariables false
set_option linter.unusedSimpArgs false
set_option maxHeartbeats 4000000
namespace Go.Proofs.Ytdnfcomgdgdifaa
variable {X : FuncId → List V → List Blk → Option Ret} {L : Nat}

theorem den_spec_NewChain (k : Nat) (m : List Blk) : den T X L (k + 1) 124 [] m = some ⟨.agg (chn (fun _ => nd0) (-1)), m, 0, 0⟩ := by
  rw [den_eq T_124]
  simp (maxSteps := 1000000) (implicitDefEqProofs := false) (disch := omega) [-getElem?_pos, c_spec_NewChain, z65]
theorem den_impl_NewChain (k : Nat) (m : List Blk) : den T X L (k + 1) 32 [] m = some ⟨.agg (chn (fun _ => nd0) (-1)), m, 0, 0⟩ := by
  rw [den_eq T_32]
  simp (maxSteps := 1000000) (implicitDefEqProofs := false) (disch := omega) [-getElem?_pos, c_impl_NewChain, z65]
abbrev CH := (Nat → Nd) × Int
def okCH (c : CH) : Prop := chainOk c.1 c.2 = true
theorem new_chain : okCH (fun _ => nd0, -1) := Chn.ok (l := []) ⟨.nil, .nil, fun i _ => rfl, fun i _ => rfl⟩
abbrev chB (c : CH) : Blk := ⟨chn c.1 c.2, 57, 0, true⟩
abbrev zCH : CH := (fun _ => nd0, 0)
theorem den_l13Draw (hL : 5000 ≤ L) (k : Nat) {m : List Blk} {p : Nat} {c : C} {bs : List Int} (hc : CurOk m p c bs) (i h : Int) (hi : 0 ≤ i ∧ i ≤ bs.length) :
    ∃ r i' h', okCH r ∧ den T X L (k + 8) 72 [.c (.ptr p 0 3)] (m.set p (curB c i h)) = some ⟨.agg (chn r.1 r.2), m.set p (curB c i' h'), 0, m.length - p⟩ ∧ 0 ≤ i' ∧ i' ≤ bs.length := by
  rw [den_eq T_72]
  have hlt := hc.lt
  have hW : ¬ m.length - p = 0 := by omega
  have hw1 : m.length + 1 - p - 1 = m.length - p := by omega
  have hw2 : m.length + 2 - p - 2 = m.length - p := by omega
  have hlp := iter_exd (n0 := m.length) (id := 0) (ka := some [0, 2, 3]) (f := fun s => exec (den T X L (k + 7)) L m.length none c_spec_l13Draw_b0 s) (tr := trim m.length (some [0, 2, 3, 4, 5])) (σ := Int × Nat × CH × Int × Int)
    (fun s => ⟨[(0, .c (.ptr p 0 3)), (2, .c (.ptr m.length 0 65)), (3, .c (.ptr (m.length + 1) 0 65)), (4, vi s.1), (5, vi s.2.1)], m.set p (curB c s.2.2.2.1 s.2.2.2.2) ++ [chB zCH, chB s.2.2.1], 0, m.length - p⟩)
    (fun s => (0 < s.1 ∧ s.1 ≤ 256) ∧ okCH s.2.2.1 ∧ s.2.1 ≤ 1000 ∧ 0 ≤ s.2.2.2.1 ∧ s.2.2.2.1 ≤ bs.length) (fun s => s.2.1)
    (fun z => ∃ r i' h', z = (.norm, ⟨[(0, .c (.ptr p 0 3)), (2, .c (.ptr m.length 0 65)), (3, .c (.ptr (m.length + 1) 0 65))], m.set p (curB c i' h') ++ [chB zCH, chB r], 0, m.length - p⟩) ∧ okCH r ∧ 0 ≤ i' ∧ i' ≤ bs.length) ?w
  case w =>
    rintro ⟨wide, n, r, i, h⟩ ⟨hwd, h1, h2, h3, h4⟩
    simp only at hwd h1 h2 h3 h4 ⊢
    by_cases hn : n = 0
    · subst hn
      refine ⟨.exit 0, _, by simp (maxSteps := 1000000) (implicitDefEqProofs := false) (disch := omega) [-getElem?_pos, c_spec_l13Draw_b0]; rfl, ?_⟩
      exact ⟨_, by simp (maxSteps := 1000000) (implicitDefEqProofs := false) (disch := omega) [-getElem?_pos, c_blkx, take_mx, hlt], r, i, h, rfl, h1, h3, h4⟩
    · have hn' : 0 < n := by omega
      obtain ⟨t, i1, g1, o1, o2, o3⟩ := den_l1Once (X := X) (L := L) (k + 4) hc [chB zCH, chB r] i h 4 ⟨h3, h4⟩ (by omega)
      cases t with
      | true =>
        obtain ⟨x, i2, g2, o4, o5, o6, o7⟩ := den_l1Below (X := X) (L := L) (k + 5) hc [chB zCH, chB r] i1 g1 wide ⟨o2, o3⟩ hwd
        have q1 := fun m => den_spec_MapDrop (X := X) (L := L) (by omega) (k + 3) m r.1 r.2 x
        have hok := (mapDrop_ok (key := x) h1).1
        unfold outC at q1
        refine ⟨.norm, _, by simp (maxSteps := 1000000) (implicitDefEqProofs := false) (disch := omega) [-getElem?_pos, c_spec_l13Draw_b0, hn', o1, o4, q1, hlt, hw2]; rfl, (wide, n - 1, ((mapDrop r.1 r.2 x).1, (mapDrop r.1 r.2 x).2.1), i2, g2), ?_, ⟨hwd, hok, by show n - 1 ≤ 1000; omega, o6, o7⟩, by show n - 1 < n; omega⟩
        simp (maxSteps := 1000000) (implicitDefEqProofs := false) (disch := omega) [-getElem?_pos, hlt, hw2]
        omega
      | false =>
        obtain ⟨x, i2, g2, o4, o5, o6, o7⟩ := den_l1Below (X := X) (L := L) (k + 5) hc [chB zCH, chB r] i1 g1 wide ⟨o2, o3⟩ hwd
        obtain ⟨y, i3, g3, r4, r5, r6, r7⟩ := den_l1Below (X := X) (L := L) (k + 5) hc [chB zCH, chB r] i2 g2 50 ⟨o6, o7⟩ (by omega)
        have q1 := fun m => den_spec_MapPut (X := X) (L := L) (by omega) (k + 3) m r.1 r.2 x y
        have hok := (mapPut_ok (key := x) (val := y) h1).1
        unfold outC at q1
        refine ⟨.norm, _, by simp (maxSteps := 1000000) (implicitDefEqProofs := false) (disch := omega) [-getElem?_pos, c_spec_l13Draw_b0, hn', o1, o4, r4, q1, hlt, hw2]; rfl, (wide, n - 1, ((mapPut r.1 r.2 x y).1, (mapPut r.1 r.2 x y).2.1), i3, g3), ?_, ⟨hwd, hok, by show n - 1 ≤ 1000; omega, r6, r7⟩, by show n - 1 < n; omega⟩
        simp (maxSteps := 1000000) (implicitDefEqProofs := false) (disch := omega) [-getElem?_pos, hlt, hw2]
        omega
  have hlp2 := fun i h => iter_exd (n0 := m.length) (id := 2) (ka := some [2, 3]) (f := fun s => exec (den T X L (k + 7)) L m.length none c_spec_l13Draw_b1 s) (tr := trim m.length (some [2, 3, 6])) (σ := Nat × CH)
    (fun s => ⟨[(2, .c (.ptr m.length 0 65)), (3, .c (.ptr (m.length + 1) 0 65)), (6, vi s.1)], m.set p (curB c i h) ++ [chB zCH, chB s.2], 0, m.length - p⟩)
    (fun s => okCH s.2 ∧ s.1 ≤ 1000) (fun s => s.1)
    (fun z => ∃ r, z = (.norm, ⟨[(2, .c (.ptr m.length 0 65)), (3, .c (.ptr (m.length + 1) 0 65))], m.set p (curB c i h) ++ [chB zCH, chB r], 0, m.length - p⟩) ∧ okCH r) ?w2
  case w2 =>
    rintro ⟨n, r⟩ ⟨h1, h2⟩
    simp only at h1 h2 ⊢
    by_cases hn : n = 0
    · subst hn
      refine ⟨.exit 2, _, by simp (maxSteps := 1000000) (implicitDefEqProofs := false) (disch := omega) [-getElem?_pos, c_spec_l13Draw_b1]; rfl, ?_⟩
      exact ⟨_, by simp (maxSteps := 1000000) (implicitDefEqProofs := false) (disch := omega) [-getElem?_pos, c_blkx, take_mx, hlt], r, rfl, h1⟩
    · have hn' : 0 < n := by omega
      have q1 := fun m => den_spec_MapPut (X := X) (L := L) (by omega) (k + 3) m r.1 r.2 (2 * n) n
      have hok := (mapPut_ok (key := 2 * n) (val := n) h1).1
      unfold outC at q1
      refine ⟨.norm, _, by simp (maxSteps := 1000000) (implicitDefEqProofs := false) (disch := omega) [-getElem?_pos, c_spec_l13Draw_b1, hn', q1, hlt, hw2]; rfl, (n - 1, ((mapPut r.1 r.2 (2 * n) n).1, (mapPut r.1 r.2 (2 * n) n).2.1)), ?_, ⟨hok, by show n - 1 ≤ 1000; omega⟩, by show n - 1 < n; omega⟩
      simp (maxSteps := 1000000) (implicitDefEqProofs := false) (disch := omega) [-getElem?_pos, hlt, hw2]
      omega
  obtain ⟨x, i1, g1, o1, o2, o3, o4⟩ := den_l1Below (X := X) (L := L) (k + 5) hc [chB zCH, chB (fun _ => nd0, -1)] i h 14 hi (by omega)
  obtain ⟨y, i2, g2, r1, r2, r3, r4⟩ := den_l1Below (X := X) (L := L) (k + 5) hc [chB zCH, chB (fun _ => nd0, -1)] i1 g1 30 ⟨o3, o4⟩ (by omega)
  obtain ⟨n, rfl⟩ : ∃ n : Nat, y = n := ⟨y.toNat, by omega⟩
  have q0 := fun m => den_spec_NewChain (X := X) (L := L) (k + 6) m
  generalize hd : runF _ _ _ _ _ = d
  simp (maxSteps := 1000000) (implicitDefEqProofs := false) (disch := omega) [-getElem?_pos, c_spec_l13Draw, z65, q0, o1, r1, hlt, hw1, hw2] at hd
  generalize hq : blkC _ _ _ (iter _ _ _ _) = q at hd
  obtain ⟨_, e1, r, i', h', rfl, s1, s2, s3⟩ : ∃ z, q = some z ∧ ∃ r i' h', z = (Ex.norm, ⟨[(0, .c (.ptr p 0 3)), (2, .c (.ptr m.length 0 65)), (3, .c (.ptr (m.length + 1) 0 65))], m.set p (curB c i' h') ++ [chB zCH, chB r], 0, m.length - p⟩) ∧ okCH r ∧ 0 ≤ i' ∧ i' ≤ bs.length := by
    rw [← hq]
    exact hlp L (8 + x, n, (fun _ => nd0, -1), i2, g2) _ ⟨⟨by omega, by omega⟩, new_chain, by show n ≤ 1000; omega, r3, r4⟩ (by simp (maxSteps := 1000000) (implicitDefEqProofs := false) (disch := omega) [-getElem?_pos, take_mx, hw1, hw2, hlt]) (by show n < L; omega)
  subst e1
  obtain ⟨t, i3, g3, t1, t2, t3⟩ := den_l1Once (X := X) (L := L) (k + 4) hc [chB zCH, chB r] i' h' 8 ⟨s2, s3⟩ (by omega)
  cases t with
  | false =>
    simp (maxSteps := 1000000) (implicitDefEqProofs := false) (disch := omega) [-getElem?_pos, t1, hlt, hw2, hW] at hd
    exact ⟨r, i3, g3, s1, hd.symm, t2, t3⟩
  | true =>
    obtain ⟨u, i4, g4, u1, u2, u3, u4⟩ := den_l1Below (X := X) (L := L) (k + 5) hc [chB zCH, chB (fun _ => nd0, -1)] i3 g3 3 ⟨t2, t3⟩ (by omega)
    obtain ⟨n2, hn2⟩ : ∃ n2 : Nat, 16 - u = n2 := ⟨(16 - u).toNat, by omega⟩
    simp (maxSteps := 1000000) (implicitDefEqProofs := false) (disch := omega) [-getElem?_pos, t1, q0, u1, hlt, hw2, hn2] at hd
    generalize hq2 : blkC _ _ _ (iter _ _ _ _) = q2 at hd
    obtain ⟨_, e2, r', rfl, v1⟩ : ∃ z, q2 = some z ∧ ∃ r, z = (Ex.norm, ⟨[(2, .c (.ptr m.length 0 65)), (3, .c (.ptr (m.length + 1) 0 65))], m.set p (curB c i4 g4) ++ [chB zCH, chB r], 0, m.length - p⟩) ∧ okCH r := by
      rw [← hq2]
      exact hlp2 i4 g4 L (n2, (fun _ => nd0, -1)) _ ⟨new_chain, by show n2 ≤ 1000; omega⟩ (by simp (maxSteps := 1000000) (implicitDefEqProofs := false) (disch := omega) [-getElem?_pos, take_mx, hw1, hw2, hlt]) (by show n2 < L; omega)
    subst e2
    simp (maxSteps := 1000000) (implicitDefEqProofs := false) (disch := omega) [-getElem?_pos, hlt, hw2, hW] at hd
    exact ⟨r', i4, g4, v1, hd.symm, u3, u4⟩
/-- What is drawn is a right chain, and no memory is left of it. -/
theorem den_DrawChain (hL : 5000 ≤ L) (k : Nat) (m : List Blk) (c : C) (bs : List Int) (hs : SlB m c bs) (hb : bs.length ≤ 1048576) :
    ∃ r, okCH r ∧ den T X L (k + 9) 24 [.c c] m = some ⟨.agg (chn r.1 r.2), m, 0, 0⟩ := by
  rw [den_eq T_24]
  obtain ⟨h, e1⟩ := den_l1New (X := X) hL (k + 7) (m ++ [chB zCH]) c bs hs.grow hb
  have hc : CurOk (m ++ [chB zCH] ++ [curB c 0 h]) (m.length + 1) c bs := ⟨hs.grow.grow, by have := hs.refs; omega, by simp, hb⟩
  obtain ⟨r, i', h', g1, e2, _⟩ := den_l13Draw (X := X) hL k hc 0 h ⟨Int.le_refl _, by omega⟩
  refine ⟨r, g1, ?_⟩
  simp only [List.append_assoc, List.cons_append, List.nil_append, set_app, List.set_cons_succ, List.set_cons_zero, List.length_append, List.length_cons, List.length_nil] at e1 e2
  have hr : c.refs ≤ m.length := hs.refs
  generalize c.refs = cr at e1 hr
  simp (maxSteps := 1000000) (implicitDefEqProofs := false) (disch := omega) [-getElem?_pos, c_spec_DrawChain, z65, e1, e2]
end Go.Proofs.Ytdnfcomgdgdifaa
