/-
  Sets drawn from bytes: every draw is a set that is right.
-/
import Derived.Test.YtdnfcomgdgdifaaDr
import Derived.Test.YtdnfcomgdgdifaaSL
set_option linter.unusedVariables false
set_option linter.unusedSimpArgs false
set_option maxHeartbeats 4000000
namespace Go.Proofs.Ytdnfcomgdgdifaa
variable {X : FuncId → List V → List Blk → Option Ret} {L : Nat}

theorem so_set {m l : List Blk} {p hi : Nat} {x y : Blk} {v : C} {z : List (List Int)} (hp : p < m.length) (h : SO (m.set p x ++ l) m.length hi v z) : SO (m.set p y ++ l) m.length hi v z := h.congr fun q h1 _ => by
  rw [List.getElem?_append_right (by simpa using h1), List.getElem?_append_right (by simpa using h1)]
  simp
abbrev slz (q : Nat) (z : List (List Int)) : C := .sl q 0 z.length z.length
/-- How a set stands in the midst of a draw. -/
structure InD (m : List Blk) (p : Nat) (z : List (List Int)) (l : List Blk) (q e : Nat) : Prop where
  ok : OkS z
  so : ∀ x, SO (m.set p x ++ l) m.length (m.length + l.length) (slz q z) z
  all : m.length + l.length ≤ mx e (q + 1)
theorem so_form {m : List Blk} {lo hi : Nat} {v : C} {z : List (List Int)} (h : SO m lo hi v z) : ∃ q, v = slz q z ∧ lo ≤ q ∧ q < hi := by
  obtain ⟨b, _, _, h1, h2, h3, _⟩ := h
  exact ⟨b, h3, h1, h2⟩
section
variable {m l : List Blk} {p q e : Nat} {z : List (List Int)} (hp : p < m.length) (h : InD m p z l q e)
include hp h
theorem InD.add (hL : 2000000 ≤ L) (k : Nat) (x : Int) (B : Blk) : ∃ z' l' q' e' c, den T X L (k + 5) 138 [.c (slz q z), vi x] (m.set p B ++ l) = some ⟨.tup [.c (slz q' z'), vi c], m.set p B ++ l', e', 0⟩ ∧ ∀ a, InD m p z' l' q' (mx a e') := by
  have hb := h.ok.bd
  obtain ⟨M, c, e', h1, ⟨l2, rfl⟩, h3, h4⟩ := spec_SetAdd (X := X) (L := L) hL k (m.set p B ++ l) (slz q z) z x (h.so B).ssa (by omega) (fun xs hx => by have := hb.2.1 xs hx; omega)
  obtain ⟨q', rfl, _, _⟩ := so_form h3
  refine ⟨_, l ++ l2, q', e', _, by rw [h1, List.append_assoc], fun a => ⟨(setAdd_R h.ok x).ok h.ok, fun y => ?_, ?_⟩⟩
  · refine so_set (x := B) hp ?_
    rw [← List.append_assoc]
    exact h3.wide (by simp) (by simp only [List.length_append, List.length_set]; omega)
  · simp only [List.length_append, List.length_set, C.refs] at h4 ⊢
    simp only [mx_eq] at h4 ⊢
    omega
theorem InD.drop (hL : 2000000 ≤ L) (k : Nat) (x : Int) (B : Blk) : ∃ z' l' q' e' c, den T X L (k + 5) 137 [.c (slz q z), vi x] (m.set p B ++ l) = some ⟨.tup [.c (slz q' z'), vi c], m.set p B ++ l', e', 0⟩ ∧ ∀ a, InD m p z' l' q' (mx a e') := by
  have hb := h.ok.bd
  obtain ⟨M, c, e', h1, ⟨l2, rfl⟩, h3, h4⟩ := spec_SetDrop (X := X) (L := L) hL k (m.set p B ++ l) (slz q z) z x (h.so B).ssa (by omega) (fun xs hx => by have := hb.2.1 xs hx; omega)
  obtain ⟨q', rfl, _, _⟩ := so_form h3
  refine ⟨_, l ++ l2, q', e', _, by rw [h1, List.append_assoc], fun a => ⟨(setDrop_R h.ok x).ok h.ok, fun y => ?_, ?_⟩⟩
  · refine so_set (x := B) hp ?_
    rw [← List.append_assoc]
    exact h3.wide (by simp) (by simp only [List.length_append, List.length_set]; omega)
  · simp only [List.length_append, List.length_set, C.refs] at h4 ⊢
    simp only [mx_eq] at h4 ⊢
    omega
omit hp in
theorem InD.take {b : Nat} {B : Blk} (hv : mx e (q + 1) ≤ b) : List.take b (m.set p B ++ l) = m.set p B ++ l := by
  refine List.take_of_length_le ?_
  have := h.all
  rw [List.length_append, List.length_set]
  omega
end
theorem den_spec_NewSet (k : Nat) (m : List Blk) : den T X L (k + 1) 136 [] m = some ⟨.c (.sl (m.length + 1) 0 1 1), m ++ [⟨[], 3, 1, true⟩, ⟨[.sl m.length 0 0 0], 28, 1, true⟩], m.length + 1, 0⟩ := by
  rw [den_eq T_136]
  simp (maxSteps := 1000000) (implicitDefEqProofs := false) (disch := omega) [-getElem?_pos, c_spec_NewSet]
theorem den_l16Draw (hL : 2000000 ≤ L) (k : Nat) {m : List Blk} {p : Nat} {c : C} {bs : List Int} (hc : CurOk m p c bs) (i h : Int) (hi : 0 ≤ i ∧ i ≤ bs.length) :
    ∃ z q l e i' h', den T X L (k + 8) 91 [.c (.ptr p 0 3)] (m.set p (curB c i h)) = some ⟨.c (slz q z), m.set p (curB c i' h') ++ l, e, m.length - p⟩ ∧ InD m p z l q e ∧ 0 ≤ i' ∧ i' ≤ bs.length := by
  rw [den_eq T_91]
  have hlt := hc.lt
  have hW : ¬ m.length - p = 0 := by omega
  have hlp := fun (md : Int) (hmd : 6 ≤ md ∧ md ≤ 46) => iter_exd (n0 := m.length) (id := 0) (ka := some [3]) (f := fun s => exec (den T X L (k + 7)) L m.length none c_spec_l16Draw_b0 s) (tr := trim m.length (some [0, 3, 4, 5])) (σ := Nat × List (List Int) × List Blk × Nat × Nat × Int × Int)
    (fun s => ⟨[(0, .c (.ptr p 0 3)), (3, .c (slz s.2.2.2.1 s.2.1)), (4, vi md), (5, vi s.1)], m.set p (curB c s.2.2.2.2.2.1 s.2.2.2.2.2.2) ++ s.2.2.1, s.2.2.2.2.1, m.length - p⟩)
    (fun s => InD m p s.2.1 s.2.2.1 s.2.2.2.1 s.2.2.2.2.1 ∧ s.1 ≤ 1000 ∧ 0 ≤ s.2.2.2.2.2.1 ∧ s.2.2.2.2.2.1 ≤ bs.length) (fun s => s.1)
    (fun r => ∃ z q l e i' h', r = (.norm, ⟨[(3, .c (slz q z))], m.set p (curB c i' h') ++ l, e, m.length - p⟩) ∧ InD m p z l q e ∧ 0 ≤ i' ∧ i' ≤ bs.length) (by
    rintro ⟨n, z, l, q, e, i, h⟩ ⟨h1, h2, h3, h4⟩
    simp only at h1 h2 h3 h4 ⊢
    by_cases hn : n = 0
    · subst hn
      have htk := h1.take (b := mx m.length (mx e (q + 1))) (B := curB c i h) (le_mx_r _ _)
      refine ⟨.exit 0, _, by simp (maxSteps := 1000000) (implicitDefEqProofs := false) (disch := omega) [-getElem?_pos, c_spec_l16Draw_b0]; rfl, ?_⟩
      exact ⟨_, by simp (maxSteps := 1000000) (implicitDefEqProofs := false) (disch := omega) [-getElem?_pos, c_blkx, take_mx, hlt, htk], z, q, l, e, i, h, rfl, h1, h3, h4⟩
    · have hn' : 0 < n := by omega
      have hwl : m.length + l.length - p - l.length = m.length - p := by omega
      obtain ⟨x, i1, g1, o1, o2, o3, o4⟩ := den_l1Below (X := X) (L := L) (k + 5) hc l i h md ⟨h3, h4⟩ (by omega)
      obtain ⟨t, i2, g2, o5, o6, o7⟩ := den_l1Once (X := X) (L := L) (k + 4) hc l i1 g1 4 ⟨o3, o4⟩ (by omega)
      cases t with
      | true =>
        obtain ⟨z', l', q', e', cd, d1, d2⟩ := h1.drop (X := X) (L := L) hlt hL (k + 2) (x - md / 3) (curB c i2 g2)
        have htk := fun b hb => (d2 e).take (b := b) (B := curB c i2 g2) hb
        refine ⟨.norm, _, by simp (maxSteps := 1000000) (implicitDefEqProofs := false) (disch := omega) [-getElem?_pos, c_spec_l16Draw_b0, hn', o1, o5, d1, hlt, hwl]; rfl, (n - 1, z', l', q', mx e e', i2, g2), ?_, ⟨d2 _, by show n - 1 ≤ 1000; omega, o6, o7⟩, by show n - 1 < n; omega⟩
        simp (maxSteps := 1000000) (implicitDefEqProofs := false) (disch := omega) [-getElem?_pos, hlt, hwl]
        exact ⟨by omega, htk _ (by simp only [mx_eq]; omega)⟩
      | false =>
        obtain ⟨z', l', q', e', cd, d1, d2⟩ := h1.add (X := X) (L := L) hlt hL (k + 2) (x - md / 3) (curB c i2 g2)
        have htk := fun b hb => (d2 e).take (b := b) (B := curB c i2 g2) hb
        refine ⟨.norm, _, by simp (maxSteps := 1000000) (implicitDefEqProofs := false) (disch := omega) [-getElem?_pos, c_spec_l16Draw_b0, hn', o1, o5, d1, hlt, hwl]; rfl, (n - 1, z', l', q', mx e e', i2, g2), ?_, ⟨d2 _, by show n - 1 ≤ 1000; omega, o6, o7⟩, by show n - 1 < n; omega⟩
        simp (maxSteps := 1000000) (implicitDefEqProofs := false) (disch := omega) [-getElem?_pos, hlt, hwl]
        exact ⟨by omega, htk _ (by simp only [mx_eq]; omega)⟩)
  have hnew := den_spec_NewSet (X := X) (L := L) (k + 6) (m.set p (curB c i h))
  obtain ⟨N, hN⟩ : ∃ N : List Blk, N = [⟨[], 3, 1, true⟩, ⟨[.sl m.length 0 0 0], 28, 1, true⟩] := ⟨_, rfl⟩
  have hNl : N.length = 2 := by rw [hN]; rfl
  rw [List.length_set, ← hN] at hnew
  obtain ⟨x, i1, g1, o1, o2, o3, o4⟩ := den_l1Below (X := X) (L := L) (k + 5) hc N i h 40 hi (by omega)
  obtain ⟨y, i2, g2, r1, r2, r3, r4⟩ := den_l1Below (X := X) (L := L) (k + 5) hc N i1 g1 26 ⟨o3, o4⟩ (by omega)
  obtain ⟨n, rfl⟩ : ∃ n : Nat, y = n := ⟨y.toNat, by omega⟩
  have hstart : InD m p [[]] N (m.length + 1) (m.length + 1) := by
    refine ⟨OkS.new, fun B => ?_, by rw [hNl]; simp only [mx_eq]; omega⟩
    refine ⟨m.length + 1, [.sl m.length 0 0 0], fun _ => m.length, by omega, by rw [hNl]; omega, rfl, ?_, rfl, fun i j hi hj _ => ?_, fun j hj => ?_⟩
    · rw [List.getElem?_append_right (by simp), List.length_set, hN, show m.length + 1 - m.length = 1 by omega]; rfl
    · simp at hi hj; omega
    · have : j = 0 := by simp at hj; omega
      subst this
      refine ⟨_, rfl, .inr ⟨[], rfl, Nat.le_refl _, by rw [hNl]; show m.length < _; omega, by show m.length ≠ _; omega, ?_, Nat.zero_le _, fun i hi => by simp [nthL] at hi⟩⟩
      rw [List.getElem?_append_right (by simp), List.length_set, hN, Nat.sub_self]; rfl
  have htk := fun b hb => hstart.take (b := b) (B := curB c i2 g2) hb
  have hw2 : m.length + 2 - p - 2 = m.length - p := by omega
  generalize hd : runF _ _ _ _ _ = d
  simp (maxSteps := 1000000) (implicitDefEqProofs := false) (disch := omega) [-getElem?_pos, c_spec_l16Draw, hnew, hNl, o1, r1, hlt, hw2] at hd
  generalize hq : blkC _ _ _ (iter _ _ _ _) = q at hd
  obtain ⟨_, e1, z, u, l, e, i', h', rfl, s1, s2, s3⟩ : ∃ r, q = some r ∧ ∃ z q l e i' h', r = (Ex.norm, ⟨[(3, .c (slz q z))], m.set p (curB c i' h') ++ l, e, m.length - p⟩) ∧ InD m p z l q e ∧ 0 ≤ i' ∧ i' ≤ bs.length := by
    rw [← hq]
    refine hlp (6 + x) (by omega) L (n, [[]], N, m.length + 1, m.length + 1, i2, g2) _ ⟨hstart, by show n ≤ 1000; omega, r3, r4⟩ ?_ (by show n < L; omega)
    simp (maxSteps := 1000000) (implicitDefEqProofs := false) (disch := omega) [-getElem?_pos, ]
    exact List.take_of_length_le (by rw [hNl]; exact Nat.le_refl _)
  subst e1
  have htk2 := s1.take (b := mx m.length (mx e (u + 1))) (B := curB c i' h') (le_mx_r _ _)
  simp (maxSteps := 1000000) (implicitDefEqProofs := false) (disch := omega) [-getElem?_pos, hlt, hW, htk2] at hd
  exact ⟨z, u, l, e, i', h', hd.symm, s1, s2, s3⟩
/-- What is handed back: a set of one's own. -/
theorem fin_one {m M : List Blk} {hi q n e : Nat} {env : List (Nat × V)} {xss : List (List Int)} (hE : Ext m M) (h : SO M m.length hi (.sl q 0 n n) xss) (hm : hi ≤ M.length) (ha : hi ≤ mx e (q + 1)) :
    ∃ M' c e', fin m.length (.c (.sl q 0 n n)) ⟨env, M, e, 0⟩ = ⟨.c c, M', e', 0⟩ ∧ Ext m M' ∧ SO M' m.length M'.length c xss ∧ M'.length ≤ mx e' c.refs := by
  obtain ⟨b, hs, bi, h1, h2, h3, h4, h5, h6, h7⟩ := h
  injection h3 with h3 _ h3' _
  subst h3
  subst h3'
  have hq : ¬ q + 1 ≤ m.length := by omega
  have hown : ¬ q < m.length := by omega
  by_cases hr : refsL hs = 0
  · refine ⟨m ++ [⟨hs, 28, 1, true⟩], .sl m.length 0 xss.length xss.length, 0, ?_, ⟨_, rfl⟩, ⟨m.length, hs, fun j => m.length + 1 + j, Nat.le_refl _, by simp, rfl, by simp, h5, fun i j _ _ hij => by simp only at hij; omega, fun j hj => ?_⟩, by simp [C.refs, mx_eq]⟩
    · simp [fin, V.refs, C.refs, hq, V.own, C.own, hown, nub, pickB, h4, hr, V.ren, C.ren, pos, hE.fin0]
    · obtain ⟨c, k1, k2⟩ := h7 j hj
      refine ⟨c, k1, ?_⟩
      rcases k2 with k2 | ⟨cs, k2, _⟩
      · exact .inl k2
      · have := refsL_get k1
        rw [k2] at this
        simp only [C.refs] at this
        omega
  · refine ⟨M.take (mx m.length (mx e (q + 1))), .sl q 0 xss.length xss.length, e, ?_, ?_, ?_, by rw [List.length_take]; simp only [C.refs, mx_eq]; omega⟩
    · simp [fin, V.refs, C.refs, hq, V.own, C.own, hown, nub, pickB, h4, hr]
    · have hl := hE.len
      have := le_mx_l m.length (mx e (q + 1))
      exact Ext.of (by rw [List.length_take]; omega) fun j hj => by rw [List.getElem?_take_of_lt (by omega), hE.get hj]
    · have ha' : hi ≤ mx m.length (mx e (q + 1)) := Nat.le_trans ha (le_mx_r _ _)
      have : SO M m.length hi (.sl q 0 xss.length xss.length) xss := ⟨q, hs, bi, h1, h2, rfl, h4, h5, h6, h7⟩
      exact (this.congr (m' := M.take (mx m.length (mx e (q + 1)))) fun j _ hj => List.getElem?_take_of_lt (by omega)).wide (Nat.le_refl _) (by rw [List.length_take]; omega)
/-- What is drawn is a set that is right. -/
theorem den_DrawSet (hL : 2000000 ≤ L) (k : Nat) (m : List Blk) (c : C) (bs : List Int) (hs : SlB m c bs) (hb : bs.length ≤ 1048576) :
    ∃ z M v e, den T X L (k + 9) 46 [.c c] m = some ⟨.c v, M, e, 0⟩ ∧ OkS z ∧ Ext m M ∧ SO M m.length M.length v z ∧ M.length ≤ mx e v.refs := by
  rw [den_eq T_46]
  obtain ⟨h, e1⟩ := den_l1New (X := X) (L := L) (by omega) (k + 7) m c bs hs hb
  have hc : CurOk (m ++ [curB c 0 h]) m.length c bs := ⟨hs.grow, hs.refs, by simp, hb⟩
  obtain ⟨z, q, l, e, i', h', e2, d1, _⟩ := den_l16Draw (X := X) hL k hc 0 h ⟨Int.le_refl _, by omega⟩
  have hs0 : ∀ a b, (m ++ [a]).set m.length b = m ++ [b] := fun a b => by simp
  have hln : (m ++ [curB c 0 h]).length - m.length = 1 := by simp
  rw [hs0, hs0, hln, List.append_assoc] at e2
  have hx : Ext m (m ++ ([curB c i' h'] ++ l)) := ⟨_, rfl⟩
  have hso := d1.so (curB c i' h')
  have hall := d1.all
  rw [hs0, List.append_assoc] at hso
  rw [List.length_append, List.length_singleton] at hso hall
  have hr : c.refs ≤ m.length := hs.refs
  generalize c.refs = cr at e1 hr
  generalize hd : runF _ _ _ _ _ = d
  simp (maxSteps := 1000000) (implicitDefEqProofs := false) (disch := omega) [-getElem?_pos, -fin, c_spec_DrawSet, e1, e2] at hd
  subst hd
  have hk : m.length + 1 + l.length ≤ mx m.length (mx (mx cr e) (q + 1)) := by simp only [mx_eq] at hall ⊢; omega
  have hso' : SO (m ++ ([curB c i' h'] ++ l)) m.length (m.length + 1 + l.length) (slz q z) z := hso.wide (by omega) (Nat.le_refl _)
  obtain ⟨M', c', e', h1, h2, h3, h4⟩ := fin_one (env := [(2, V.c (slz q z))]) (e := mx cr e) (hx.cut (a := mx m.length (mx (mx cr e) (q + 1))) (le_mx_l _ _)) (hso'.cut hk) (by rw [List.length_take]; simp only [List.length_append, List.length_singleton]; omega) (by simp only [mx_eq] at hall ⊢; omega)
  exact ⟨z, M', c', e', congrArg some h1, d1.ok, h2, h3, h4⟩
end Go.Proofs.Ytdnfcomgdgdifaa
