/-
 Deeds done: the program's DoDeed.
-/
import Derived.Test.YtfbeplbcaanimaaGreatWg
set_option linter.unusedVariables false
set_option linter.unusedSimpArgs false
set_option maxHeartbeats 4000000
set_option maxRecDepth 100000
namespace Go.Proofs.YtfbeplbcaanimaaGreat
variable {L : Nat}
section
variable (hL : 2000000 ≤ L) (k : Nat) (m : List Blk) (s : Spc) (v : C) (xss : List (List Int)) (hv : SSA m v xss) (d : Dd) (b1 : xss.length ≤ 1048576) (b2 : ∀ xs ∈ xss, xs.length ≤ 1048576)
include hL hv b1 b2
theorem impl_DoDeed : ∃ M c e, den T libX L (k + 23) 10 [.agg (spC s v), .agg [ci d.k, ci d.x, ci d.y]] m = some ⟨.tup [.agg (spC (doDeed s xss d).1 c), .agg [ci (doDeed s xss d).2.2.1, ci (doDeed s xss d).2.2.2]], M, e, 0⟩ ∧ Ext m M ∧ SO M m.length M.length c (doDeed s xss d).2.1 ∧ M.length ≤ mx e c.refs := by
 rw [den_eq T_10]
 obtain ⟨kd, x, y⟩ := d
 have hcr := hv.refs
 obtain ⟨m1, hm1⟩ : ∃ m1, m1 = m ++ [⟨spC s v, 51, 0, true⟩, ⟨[ci kd, ci x, ci y], 57, 0, true⟩, ⟨spC spZ .nils, 51, 0, true⟩, ⟨[ci 0, ci 0], 53, 0, true⟩] := ⟨_, rfl⟩
 have hx0 : Ext m m1 := by rw [hm1]; exact ⟨_, rfl⟩
 have hl1 : m1.length = m.length + 4 := by rw [hm1]; simp
 have vA : live m1 m.length 141 = some ⟨spC s v, 51, 0, true⟩ := by rw [hm1]; unfold live; simp [sp_len]
 have vB : live m1 (m.length + 1) 3 = some ⟨[ci kd, ci x, ci y], 57, 0, true⟩ := by rw [hm1]; unfold live; simp
 have vD : live m1 (m.length + 2) 141 = some ⟨spC spZ .nils, 51, 0, true⟩ := by rw [hm1]; unfold live; simp [sp_len]
 have vE : live m1 (m.length + 3) 2 = some ⟨[ci 0, ci 0], 53, 0, true⟩ := by rw [hm1]; unfold live; simp
 obtain ⟨M1, c1, e1, d1, x1, s1, q1⟩ := den_ownSpace (X := libX) (L := L) hL (k + 19) m1 s v xss (by rw [hm1]; exact hv.grow) b1 b2
 have l1 := x1.len
 have x01 := hx0.trans x1
 rw [hm1] at d1
 have o1 := fun l => den_impl_SpaceOk (X := libX) (L := L) hL (k + 1) (M1 ++ l) s v xss (x01.ssa hv).grow.ss b1 b2
 have o2 := fun m n => den_in (X := libX) (L := L) (k + 21) m n 1 9
 have o3 := fun m n => den_isValue (X := libX) (L := L) (k + 20) m n
 have wA := x1.lv vA
 have wB := x1.lv vB
 have wD := x1.lv vD
 have wE := x1.lv vE
 have h2 : m.length + 2 < M1.length := by omega
 have h3 : m.length + 3 < M1.length := by omega
 have st : ∀ l b W, b < M1.length → (M1 ++ l).set b W = M1.set b W ++ l := fun l b W h => List.set_append_left _ _ h
 have bad : ∀ d', dOk s xss d' = false → doDeed s xss d' = (s, xss, 4, 0) := fun d' h => by unfold doDeed; rw [h]; rfl
 have good : ∀ d', dOk s xss d' = true → doDeed s xss d' = deed s xss d' := fun d' h => by unfold doDeed; rw [h]; rfl
 have st2 : ∀ l a W b W', b < M1.length → (M1.set a W ++ l).set b W' = (M1.set a W).set b W' ++ l := fun l a W b W' h => List.set_append_left _ _ (by simpa using h)
 have wE2 : ∀ l W, live (M1.set (m.length + 2) W ++ l) (m.length + 3) 2 = some ⟨[ci 0, ci 0], 53, 0, true⟩ := fun l W => by
  rw [← List.set_append_left _ _ h2]; exact live_put (wE l) (by omega)
 have wD2 : ∀ l W W' n, live ((M1.set (m.length + 2) W).set (m.length + 3) W' ++ l) (m.length + 2) n = if n = W.cs.length then some W else none := fun l W W' n => live_s2 h2 (by omega) l W W' n
 have wE3 : ∀ l W W' n, live ((M1.set (m.length + 2) W).set (m.length + 3) W' ++ l) (m.length + 3) n = if n = W'.cs.length then some W' else none := fun l W W' n => live_s1 (by simpa using h3) l W' n
 have htk : ∀ a b W W' r, List.take (mx m.length (mx (mx (mx (mx a e1) c1.refs) c1.refs) b)) ((M1.set (m.length + 2) W).set (m.length + 3) W' ++ r) = (M1.set (m.length + 2) W).set (m.length + 3) W' ++ r.take (mx m.length (mx (mx (mx (mx a e1) c1.refs) c1.refs) b) - M1.length) := fun a b W W' r => by
  rw [List.take_append, List.length_set, List.length_set, List.take_of_length_le]
  rw [List.length_set, List.length_set]
  simp only [mx_eq] at q1 ⊢
  omega
 have fb : ∀ (r : List Blk) (W W' : Blk) (env : List (Nat × V)) a b, ∃ M c e, fin m.length (.tup [.agg (spC s c1), .agg [ci 4, ci 0]]) ⟨env, (M1.set (m.length + 2) W).set (m.length + 3) W' ++ r, mx (mx (mx a e1) c1.refs) b, 0⟩ = ⟨.tup [.agg (spC s c), .agg [ci 4, ci 0]], M, e, 0⟩ ∧ Ext m M ∧ SO M m.length M.length c xss ∧ M.length ≤ mx e c.refs := fun r W W' env a b => by
  refine fin_w (one_spt s 4 0) (((x01.put (by omega)).put (by omega)).trans ⟨_, rfl⟩) ((((s1.set (.inl (by omega))).set (.inl (by omega))).grow (by simp)).wide (by omega) (Nat.le_refl _)) (by simp) ?_
  simp only [mx_eq] at q1 ⊢
  omega
 cases hs : spOk s xss with
 | false =>
  rw [hs] at o1
  rw [bad ⟨kd, x, y⟩ (by unfold dOk; rw [hs]; rfl)]
  simp (maxSteps := 1000000) -implicitDefEqProofs (disch := first | omega | (simp [get_app, get_app0]; done) | rfl | (simp only [List.length_cons, List.length_append, List.length_take, List.length_drop, List.length_nil]; omega)) [-getElem?_pos, -fin, -C.refs, cr_sl, cr_ptr, cr_nils, cr_int, cr_bool, cr_ci, c_impl_DoDeed, z141, sp_len, sp_refs, sp_take, sp_over, d1, o1,  wA, wB, wD, wE, st, st2, wE2, wD2, wE3, htk, h2, h3]
  exact fb _ _ _ _ _ _
 | true =>
  rw [hs] at o1
  cases hk : inB kd 1 9 with
  | false =>
   have o2 := fun m => o2 m kd
   rw [hk] at o2
   rw [bad ⟨kd, x, y⟩ (by unfold dOk; rw [hs]; show (true && (inB kd 1 9 && _)) = false; rw [hk]; rfl)]
   simp (maxSteps := 1000000) -implicitDefEqProofs (disch := first | omega | (simp [get_app, get_app0]; done) | rfl | (simp only [List.length_cons, List.length_append, List.length_take, List.length_drop, List.length_nil]; omega)) [-getElem?_pos, -fin, -C.refs, cr_sl, cr_ptr, cr_nils, cr_int, cr_bool, cr_ci, c_impl_DoDeed, z141, sp_len, sp_refs, sp_take, sp_over, d1, o1, o2, wA, wB, wD, wE, st, st2, wE2, wD2, wE3, htk, h2, h3]
   exact fb _ _ _ _ _ _
  | true =>
   have o2 := fun m => o2 m kd
   rw [hk] at o2
   have hk' := inB_iff.1 hk
   have hget : ∀ l, (M1 ++ ⟨spC s c1, 51, 0, true⟩ :: l)[M1.length]? = some ⟨spC s c1, 51, 0, true⟩ := fun l => by rw [get_app0]; rfl
   obtain ⟨M2, c2, e2, w, d2, hB⟩ := deed_all (L := L) hL k (M1 ++ [⟨spC s c1, 51, 0, true⟩]) s c1 xss x y M1.length (hget []) (lo := m1.length) (hi := M1.length) (e0 := e1) (s1.grow (Nat.le_refl _)) (by simp; omega) (by simp) (.inr (Nat.le_refl _)) q1 hk' b1 b2
   obtain ⟨hB1, l2, hB3, hB4, hi2, s2, hm2, hh2⟩ := hB
   rw [List.length_append, List.length_cons, List.length_nil] at l2 hB1
   have hw0 : w - (M1.length + 1 - m.length) = 0 := by omega
   have n2 : m.length + 2 < M2.length := by omega
   have n3 : m.length + 3 < M2.length := by omega
   have lv2 : ∀ b n B, b < M1.length → live M1 b n = some B → live M2 b n = some B := fun b n B hb h => by
    unfold live at h ⊢
    rw [hB4 b (by simp; omega) (by omega), List.getElem?_append_left hb]
    exact h
   have z6 : ∀ l, live (M2 ++ l) M1.length 141 = some ⟨spC (deed s xss ⟨kd, x, y⟩).1 c2, 51, 0, true⟩ := fun l => live_grow (by unfold live; rw [hB3, Option.bind_some, if_pos (sp_len _ _).symm])
   have zD : ∀ l, live (M2 ++ l) (m.length + 2) 141 = some ⟨spC spZ .nils, 51, 0, true⟩ := fun l => live_grow (lv2 _ _ _ h2 (x1.lv0 vD))
   have zE2 : ∀ W l, live (M2.set (m.length + 2) W ++ l) (m.length + 3) 2 = some ⟨[ci 0, ci 0], 53, 0, true⟩ := fun W l => live_grow (live_put (lv2 _ _ _ h3 (x1.lv0 vE)) (by omega))
   have st3 : ∀ l W, (M2 ++ l).set (m.length + 2) W = M2.set (m.length + 2) W ++ l := fun l W => List.set_append_left _ _ n2
   have st4 : ∀ l W W', (M2.set (m.length + 2) W ++ l).set (m.length + 3) W' = (M2.set (m.length + 2) W).set (m.length + 3) W' ++ l := fun l W W' => List.set_append_left _ _ (by simpa using n3)
   have xm2 : Ext m M2 := Ext.of (by omega) fun q hq => by
    rw [hB4 q (by simp; omega) (by omega), List.getElem?_append_left (by omega)]
    exact x01.get hq
   obtain ⟨A, hA⟩ : ∃ A, A = mx m.length (mx (mx (mx (mx (mx v.refs e1) c1.refs) e2) c2.refs) (m.length + 4)) := ⟨_, rfl⟩
   have hA1 : m.length + 4 ≤ A := by rw [hA]; simp only [mx_eq]; omega
   have hA2 : hi2 ≤ A := by rw [hA]; simp only [mx_eq] at hh2 ⊢; omega
   have htk2 : ∀ W W' l, List.take A ((M2.set (m.length + 2) W).set (m.length + 3) W' ++ l) = ((M2.take A).set (m.length + 2) W).set (m.length + 3) W' ++ l.take (A - M2.length) := fun W W' l => by rw [List.take_append, List.take_set, List.take_set, List.length_set, List.length_set]
   have n2' : m.length + 2 < (M2.take A).length := by rw [List.length_take]; omega
   have n3' : m.length + 3 < (M2.take A).length := by rw [List.length_take]; omega
   have s3 : SO (M2.take A) m1.length hi2 c2 (deed s xss ⟨kd, x, y⟩).2.1 := s2.congr fun q _ hq => List.getElem?_take_of_lt (by omega)
   have x3 : Ext m (M2.take A) := xm2.cut (by omega)
   have hm3 : hi2 ≤ (M2.take A).length := by rw [List.length_take]; omega
   generalize hM3 : M2.take A = M3 at htk2 n2' n3' s3 x3 hm3
   generalize A - M2.length = A2 at htk2
   rw [hA] at htk2
   have zD3 : ∀ W W' l n, live ((M3.set (m.length + 2) W).set (m.length + 3) W' ++ l) (m.length + 2) n = if n = W.cs.length then some W else none := fun W W' l n => live_s2 n2' (show m.length + 3 ≠ m.length + 2 by omega) l W W' n
   have zE4 : ∀ W W' l n, live ((M3.set (m.length + 2) W).set (m.length + 3) W' ++ l) (m.length + 3) n = if n = W'.cs.length then some W' else none := fun W W' l n => live_s1 (M := M3.set (m.length + 2) W) (b := m.length + 3) (by simpa using n3') l W' n
   have fg : ∀ env W W' a r, ∃ M c e, fin m.length (.tup [.agg (spC (deed s xss ⟨kd, x, y⟩).1 c2), .agg [ci (deed s xss ⟨kd, x, y⟩).2.2.1, ci (deed s xss ⟨kd, x, y⟩).2.2.2]]) ⟨env, (M3.set (m.length + 2) W).set (m.length + 3) W' ++ r, mx (mx (mx (mx a e1) c1.refs) e2) c2.refs, 0⟩ = ⟨.tup [.agg (spC (deed s xss ⟨kd, x, y⟩).1 c), .agg [ci (deed s xss ⟨kd, x, y⟩).2.2.1, ci (deed s xss ⟨kd, x, y⟩).2.2.2]], M, e, 0⟩ ∧ Ext m M ∧ SO M m.length M.length c (deed s xss ⟨kd, x, y⟩).2.1 ∧ M.length ≤ mx e c.refs := fun env W W' a r => by
    refine fin_w (one_spt _ _ _) (((x3.put (by omega)).put (by omega)).trans ⟨_, rfl⟩) ((((s3.set (.inl (by omega))).set (.inl (by omega))).grow (by simpa using hm3)).wide (by omega) (Nat.le_refl _)) (by simp; omega) ?_
    simp only [mx_eq] at hh2 ⊢
    omega
   by_cases h5 : kd = 5
   ·subst h5
    rw [good ⟨5, x, y⟩ (by unfold dOk; rw [hs]; show (true && (inB 5 1 9 && _)) = true; rw [hk]; rfl)]
    generalize deed s xss ⟨5, x, y⟩ = dd at d2 s2 s3 z6 fg ⊢
    simp (maxSteps := 1000000) -implicitDefEqProofs (disch := first | omega | (simp [get_app, get_app0]; done) | rfl | (simp only [List.length_cons, List.length_append, List.length_take, List.length_drop, List.length_nil]; omega)) [-getElem?_pos, -fin, -C.refs, cr_sl, cr_ptr, cr_nils, cr_int, cr_bool, cr_ci, c_impl_DoDeed, z141, sp_len, sp_refs, sp_take, sp_over, d1, o1, o2,  wA, wB, st, d2, hw0, z6, zD, zE2, zD3, zE4, st3, st4, htk2, n2, n3, n2', n3']
    exact fg _ _ _ _ _
   ·cases hx : isVal x with
    | false =>
     rw [bad ⟨kd, x, y⟩ (by unfold dOk; rw [hs]; show (true && (inB kd 1 9 && ((decide (kd = 5) || isVal x) && _))) = false; rw [hk, hx]; simp [h5])]
     have o3 := fun m => o3 m x
     rw [hx] at o3
     simp (maxSteps := 1000000) -implicitDefEqProofs (disch := first | omega | (simp [get_app, get_app0]; done) | rfl | (simp only [List.length_cons, List.length_append, List.length_take, List.length_drop, List.length_nil]; omega)) [-getElem?_pos, -fin, -C.refs, cr_sl, cr_ptr, cr_nils, cr_int, cr_bool, cr_ci, c_impl_DoDeed, z141, sp_len, sp_refs, sp_take, sp_over, d1, o1, o2, o3, h5, wA, wB, wD, wE, st, st2, wE2, wD2, wE3, htk, h2, h3]
     exact fb _ _ _ _ _ _
    | true =>
     have o4 := fun m => o3 m x
     rw [hx] at o4
     by_cases h1 : kd = 1
     ·subst h1
      cases hy : isVal y with
      | false =>
       rw [bad ⟨1, x, y⟩ (by unfold dOk; rw [hs]; show (true && (inB 1 1 9 && ((decide ((1 : Int) = 5) || isVal x) && (!decide ((1 : Int) = 1) || isVal y)))) = false; rw [hk, hx, hy]; rfl)]
       have o5 := fun m => o3 m y
       rw [hy] at o5
       simp (maxSteps := 1000000) -implicitDefEqProofs (disch := first | omega | (simp [get_app, get_app0]; done) | rfl | (simp only [List.length_cons, List.length_append, List.length_take, List.length_drop, List.length_nil]; omega)) [-getElem?_pos, -fin, -C.refs, cr_sl, cr_ptr, cr_nils, cr_int, cr_bool, cr_ci, c_impl_DoDeed, z141, sp_len, sp_refs, sp_take, sp_over, d1, o1, o2, o4, o5, wA, wB, wD, wE, st, st2, wE2, wD2, wE3, htk, h2, h3]
       exact fb _ _ _ _ _ _
      | true =>
       have o5 := fun m => o3 m y
       rw [hy] at o5
       rw [good ⟨1, x, y⟩ (by unfold dOk; rw [hs]; show (true && (inB 1 1 9 && ((decide ((1 : Int) = 5) || isVal x) && (!decide ((1 : Int) = 1) || isVal y)))) = true; rw [hk, hx, hy]; rfl)]
       generalize deed s xss ⟨1, x, y⟩ = dd at d2 s2 s3 z6 fg ⊢
       simp (maxSteps := 1000000) -implicitDefEqProofs (disch := first | omega | (simp [get_app, get_app0]; done) | rfl | (simp only [List.length_cons, List.length_append, List.length_take, List.length_drop, List.length_nil]; omega)) [-getElem?_pos, -fin, -C.refs, cr_sl, cr_ptr, cr_nils, cr_int, cr_bool, cr_ci, c_impl_DoDeed, z141, sp_len, sp_refs, sp_take, sp_over, d1, o1, o2, o4, o5, wA, wB, st, d2, hw0, z6, zD, zE2, zD3, zE4, st3, st4, htk2, n2, n3, n2', n3']
       exact fg _ _ _ _ _
     ·rw [good ⟨kd, x, y⟩ (by unfold dOk; rw [hs]; show (true && (inB kd 1 9 && ((decide (kd = 5) || isVal x) && (!decide (kd = 1) || isVal y)))) = true; rw [hk, hx]; simp [h1])]
      generalize deed s xss ⟨kd, x, y⟩ = dd at d2 s2 s3 z6 fg ⊢
      simp (maxSteps := 1000000) -implicitDefEqProofs (disch := first | omega | (simp [get_app, get_app0]; done) | rfl | (simp only [List.length_cons, List.length_append, List.length_take, List.length_drop, List.length_nil]; omega)) [-getElem?_pos, -fin, -C.refs, cr_sl, cr_ptr, cr_nils, cr_int, cr_bool, cr_ci, c_impl_DoDeed, z141, sp_len, sp_refs, sp_take, sp_over, d1, o1, o2, o4, h5, h1, wA, wB, st, d2, hw0, z6, zD, zE2, zD3, zE4, st3, st4, htk2, n2, n3, n2', n3']
      exact fg _ _ _ _ _
end
end Go.Proofs.YtfbeplbcaanimaaGreat
