/-
  Deeds: the law of DoDeed.
-/
import Derived.Test.YtfbeplbcaanimaaGreatWh
set_option linter.unusedVariables false
set_option linter.unusedSimpArgs false
set_option maxHeartbeats 4000000
set_option maxRecDepth 100000
namespace Go.Proofs.YtfbeplbcaanimaaGreat
variable {L : Nat}

def shDd : List Sh := [.nm .i64, .nm .i64, .nm .i64]
theorem sh_dd : shT Tryz.prog 20 39 = some shDd := by kernel_rfl
theorem okL_dd {m : List Blk} {cs : List C} (h : Sh.okL m shDd cs) : ∃ d : Dd, cs = [ci d.k, ci d.x, ci d.y] := by
  obtain ⟨c1, r1, rfl, h1, h⟩ := okL_cons h
  obtain ⟨c2, r2, rfl, h2, h⟩ := okL_cons h
  obtain ⟨c3, r3, rfl, h3, h⟩ := okL_cons h
  obtain rfl := okL_nil h
  obtain ⟨a, rfl⟩ := ok_nm h1
  obtain ⟨b, rfl⟩ := ok_nm h2
  obtain ⟨c, rfl⟩ := ok_nm h3
  exact ⟨⟨a, b, c⟩, rfl⟩
theorem lvAt {m r : List Blk} {k n : Nat} {B : Blk} (h : r[k]? = some B) (hn : n = B.cs.length) : live (m ++ r) (m.length + k) n = some B := by
  unfold live; rw [get_app, h, Option.bind_some, if_pos hn]
theorem lvAt0 {m r : List Blk} {n : Nat} {B : Blk} (hn : n = B.cs.length) : live (m ++ B :: r) m.length n = some B := lvAt (k := 0) rfl hn
theorem deed_b {s : Spc} {xss : List (List Int)} {d : Dd} (b1 : xss.length ≤ 1048576) (b2 : ∀ xs ∈ xss, xs.length ≤ 1048576) (bt : tot xss ≤ 1073741824) : (deed s xss d).2.1.length ≤ 1048576 ∧ (∀ xs ∈ (deed s xss d).2.1, xs.length ≤ 1048576) ∧ tot (deed s xss d).2.1 ≤ 1073741824 := by
  obtain ⟨a1, a2, a3⟩ := setAdd_b (x := d.x) b1 b2 bt
  obtain ⟨c1, c2, c3⟩ := setDrop_b (x := d.x) b1 b2 bt
  unfold deed
  (repeat' split) <;> first | exact ⟨b1, b2, bt⟩ | exact ⟨a1, a2, a3⟩ | exact ⟨c1, c2, c3⟩
theorem doDeed_b {s : Spc} {xss : List (List Int)} {d : Dd} (b1 : xss.length ≤ 1048576) (b2 : ∀ xs ∈ xss, xs.length ≤ 1048576) (bt : tot xss ≤ 1073741824) : (doDeed s xss d).2.1.length ≤ 1048576 ∧ (∀ xs ∈ (doDeed s xss d).2.1, xs.length ≤ 1048576) ∧ tot (doDeed s xss d).2.1 ≤ 1073741824 := by
  unfold doDeed
  split
  · exact deed_b b1 b2 bt
  · exact ⟨b1, b2, bt⟩
theorem den_FnExactDoDeed (hL : 4000000 ≤ L) (k : Nat) (m : List Blk) (s : Spc) (v : C) (xss : List (List Int)) (d : Dd) (hv : SS m v xss) (hb : xss.length ≤ 9223372036854775807) (hbs : ∀ xs ∈ xss, xs.length ≤ 9223372036854775807) :
    den T libX L (k + 24) 3 [.agg (spC s v), .agg [ci d.k, ci d.x, ci d.y]] m = some ⟨vb true, m, 0, 0⟩ := by
  rw [den_eq T_3]
  obtain ⟨kd, x, y⟩ := d
  have hsz := den_szSpace (X := libX) (L := L) (by omega) (k + 20) (m ++ [⟨spC s v, 37, 0, true⟩, ⟨[ci kd, ci x, ci y], 39, 0, true⟩]) s v xss 1048576 hv.grow hb hbs (by omega)
  by_cases h0 : szSS xss 1048576 < 0
  · simp (maxSteps := 1000000) (implicitDefEqProofs := false) (disch := first | omega | (simp [get_app, get_app0]; done) | rfl | (simp only [List.length_cons, List.length_append, List.length_take, List.length_drop, List.length_nil]; omega)) [-getElem?_pos, -C.refs, cr_sl, cr_ptr, cr_nils, cr_int, cr_bool, cr_ci, c_laws_FnExactDoDeed, sp_len, sp_refs, sp_take, hsz, h0, take_end]
  · obtain ⟨b1, b2, _⟩ := sz_ok (xss := xss) (left := 1048576) (by omega) (by omega) (by omega)
    have bt := sz_tot (xss := xss) (left := 1048576) (by omega) (by omega)
    obtain ⟨y1, y2, yt⟩ := doDeed_b (s := s) (d := ⟨kd, x, y⟩) b1 b2 (by omega)
    obtain ⟨N1, c1, e1, d1, x1, s1, _⟩ := toSpO (X := libX) (L := L) (by omega) (k + 19) (m ++ [⟨spC s v, 37, 0, true⟩, ⟨[ci kd, ci x, ci y], 39, 0, true⟩, dead, dead]) s v xss hv.grow b1 b2
    obtain ⟨N2, w, e2, d2, x2, sw, _⟩ := spec_DoDeed (L := L) (by omega) k N1 s c1 xss s1.ssa ⟨kd, x, y⟩ b1 b2
    obtain ⟨l, hl⟩ := x1.trans x2
    have e9 := fun m => den_toDeed (X := libX) (L := L) (k + 22) m kd x y
    simp only [List.append_assoc, List.cons_append, List.nil_append] at hl
    simp only at d2
    rw [hl] at d2
    have x2' : Ext m N2 := (Ext.trans ⟨_, rfl⟩ x1).trans x2
    have l01 := x1.len
    simp only [List.length_append, List.length_cons, List.length_nil] at l01 s1
    have l02 := x2.len
    generalize hdd : doDeed s xss ⟨kd, x, y⟩ = dd at d2 sw y1 y2 yt
    obtain ⟨P2, hP2⟩ : ∃ P, P = m ++ ⟨spC s v, 37, 0, true⟩ :: ⟨[ci kd, ci x, ci y], 39, 0, true⟩ :: ⟨spC dd.1 w, 51, 0, true⟩ :: ⟨[ci dd.2.2.1, ci dd.2.2.2], 53, 0, true⟩ :: l := ⟨_, rfl⟩
    have sw2 : SO P2 N1.length N2.length w dd.2.1 := by
      rw [hP2]
      generalize N2.length = hi2 at sw
      rw [hl] at sw
      exact SO.frame (p := [_, _, _, _]) (p' := [_, _, _, _]) sw rfl (by simp; omega)
    have hPl : P2.length = N2.length := by rw [hP2, hl]; simp
    have xP2 : Ext m P2 := ⟨_, hP2⟩
    have pB1 : live P2 m.length 141 = some ⟨spC s v, 37, 0, true⟩ := by rw [hP2]; exact lvAt0 (sp_len _ _).symm
    have pB2 : live P2 (m.length + 1) 3 = some ⟨[ci kd, ci x, ci y], 39, 0, true⟩ := by rw [hP2]; exact lvAt rfl rfl
    have pF6 : live P2 (m.length + 2) 141 = some ⟨spC dd.1 w, 51, 0, true⟩ := by rw [hP2]; exact lvAt rfl (sp_len _ _).symm
    have pF7 : live P2 (m.length + 3) 2 = some ⟨[ci dd.2.2.1, ci dd.2.2.2], 53, 0, true⟩ := by rw [hP2]; exact lvAt rfl rfl
    -- the program's argument
    obtain ⟨N3, c3, e3, d3, x3, s3, _⟩ := toSpO (X := libX) (L := L) (by omega) (k + 19) P2 s v xss (xP2.ss hv) b1 b2
    have l03 := x3.len
    have A1 := x3.lv pB1
    have A2 := x3.lv pB2
    have A6 := x3.lv pF6
    have A7 := x3.lv pF7
    obtain ⟨N4, g, e4, d4, x4, sg, _⟩ := impl_DoDeed (L := L) (by omega) k (N3 ++ [⟨spC s c3, 51, 0, true⟩, dead, dead]) s c3 xss s3.ssa.grow ⟨kd, x, y⟩ b1 b2
    rw [hdd] at d4 sg
    obtain ⟨l4, hl4⟩ := x4
    simp only [List.append_assoc, List.cons_append, List.nil_append, List.length_append, List.length_cons, List.length_nil] at hl4 d4 sg
    rw [hl4] at d4
    obtain ⟨P4, hP4⟩ : ∃ P, P = N3 ++ ⟨spC s c3, 51, 0, true⟩ :: ⟨spC dd.1 g, 51, 0, true⟩ :: ⟨[ci dd.2.2.1, ci dd.2.2.2], 53, 0, true⟩ :: l4 := ⟨_, rfl⟩
    have l04 : N3.length + 3 ≤ P4.length := by rw [hP4]; simp
    have hP4l : P4.length = N4.length := by rw [hP4, hl4]; simp
    have sg4 : SO P4 (N3.length + 3) N4.length g dd.2.1 := by
      rw [hP4]
      generalize N4.length = hi2 at sg
      rw [hl4] at sg
      exact SO.frame (p := [_, _, _]) (p' := [_, _, _]) sg rfl (by simp)
    have x34 : Ext N3 P4 := ⟨_, hP4⟩
    have sw4 : SO P4 N1.length N2.length w dd.2.1 := (x3.trans x34).so (by omega) sw2
    have s34 : SO P4 P2.length N3.length c3 xss := x34.so (Nat.le_refl _) s3
    have q1 := den_eqSpace (X := libX) (L := L) (by omega) (k + 19) P4 dd.1 g w _ sg4.ss sw4.ss y1 y2
    have e8 := fun m a b => den_eqTold (X := libX) (L := L) (k + 22) m a b
    have x04 : Ext m P4 := xP2.trans (x3.trans x34)
    have pF8 : live P4 N3.length 141 = some ⟨spC s c3, 51, 0, true⟩ := by rw [hP4]; exact lvAt0 (sp_len _ _).symm
    have pF9 : live P4 (N3.length + 1) 141 = some ⟨spC dd.1 g, 51, 0, true⟩ := by rw [hP4]; exact lvAt rfl (sp_len _ _).symm
    have pF10 : live P4 (N3.length + 2) 2 = some ⟨[ci dd.2.2.1, ci dd.2.2.2], 53, 0, true⟩ := by rw [hP4]; exact lvAt rfl rfl
    -- the argument is what it was
    obtain ⟨N5, c5, e5, d5, x5, s5, _⟩ := toSpO (X := libX) (L := L) (by omega) (k + 19) P4 s v xss (x04.ss hv) b1 b2
    have l05 := x5.len
    have s35 := x5.so (by omega) s34
    have q2 := den_eqSpace (X := libX) (L := L) (by omega) (k + 19) N5 s c3 c5 xss s35.ss s5.ss b1 b2
    have B8 := x5.lv0 pF8
    -- marked
    obtain ⟨N6, W6, e6, d6, w6, n6, a6, _⟩ := den_markSpace (X := libX) (L := L) (by omega) (k + 20) (s := s) s35 (by omega) b1 b2 (c0 := 1) (by omega) (by omega)
    have lv6 : ∀ b n B, (b < P2.length ∨ N3.length ≤ b) → live N5 b n = some B → live N6 b n = some B := fun b n B hb h => by
      unfold live at h ⊢; rw [a6 b hb]; exact h
    have C9 := lv6 _ _ _ (.inr (by omega)) (x5.lv0 pF9)
    have C10 := lv6 _ _ _ (.inr (by omega)) (x5.lv0 pF10)
    have C6 := lv6 _ _ _ (.inl (by omega)) (x5.lv0 (x34.lv0 (x3.lv0 pF6)))
    have C7 := lv6 _ _ _ (.inl (by omega)) (x5.lv0 (x34.lv0 (x3.lv0 pF7)))
    have sw6 : SO N6 N1.length N2.length w dd.2.1 := (x5.so (by omega) sw4).congr fun q _ h2 => a6 q (.inl (by omega))
    have sg6 : SO N6 (N3.length + 3) N4.length g dd.2.1 := (x5.so (by omega) sg4).congr fun q h1 _ => a6 q (.inr (by omega))
    have q3 := den_eqSpace (X := libX) (L := L) (by omega) (k + 19) N6 dd.1 g w _ sg6.ss sw6.ss y1 y2
    obtain ⟨N7, W7, e7, d7, w7, n7, a7, sg7⟩ := den_markSpace (X := libX) (L := L) (by omega) (k + 20) (s := dd.1) sg6 (by omega) y1 y2 (c0 := 1) (by omega) yt
    have q4 := den_heldSpace (X := libX) (L := L) (by omega) (k + 20) N7 dd.1 g _ 1 sg7.ss y1 y2 (by omega) yt
    have lv7 : ∀ b n B, (b < N3.length + 3 ∨ N4.length ≤ b) → live N6 b n = some B → live N7 b n = some B := fun b n B hb h => by
      unfold live at h ⊢; rw [a7 b hb]; exact h
    have D9 := lv7 _ _ _ (.inl (by omega)) C9
    have x07 : Ext m N7 := Ext.of (by have := x04.len; omega) fun q hq => by
      rw [a7 q (.inl (by have := x04.len; omega)), a6 q (.inl (by omega))]
      exact (x04.trans x5).get hq
    have up : ∀ b n B, live N7 b n = some B → ∀ r, live (N7 ++ r) b n = some B := fun b n B h r => live_grow h
    have D1 := up _ _ _ (lv7 _ _ _ (.inl (by omega)) (lv6 _ _ _ (.inl (by omega)) (x5.lv0 (x34.lv0 (x3.lv0 pB1)))))
    have D2 := up _ _ _ (lv7 _ _ _ (.inl (by omega)) (lv6 _ _ _ (.inl (by omega)) (x5.lv0 (x34.lv0 (x3.lv0 pB2)))))
    have D6 := up _ _ _ (lv7 _ _ _ (.inl (by omega)) C6)
    have D7 := up _ _ _ (lv7 _ _ _ (.inl (by omega)) C7)
    have D9' := up _ _ _ D9
    have sw7 : SO N7 N1.length N2.length w dd.2.1 := sw6.congr fun q h1 h2 => a7 q (.inl (by omega))
    -- once more
    obtain ⟨N8, c8, e8', d8, x8, s8, _⟩ := toSpO (X := libX) (L := L) (by omega) (k + 19) (N7 ++ [dead, dead]) s v xss ((x07.ss hv).grow) b1 b2
    obtain ⟨N9, h, e9', d9, x9, sh, _⟩ := impl_DoDeed (L := L) (by omega) k N8 s c8 xss s8.ssa ⟨kd, x, y⟩ b1 b2
    rw [hdd] at d9 sh
    have l08 := x8.len
    simp only [List.length_append, List.length_cons, List.length_nil] at l08
    obtain ⟨l9, hl9⟩ := x8.trans x9
    simp only [List.append_assoc, List.cons_append, List.nil_append] at hl9
    simp only at d9
    rw [hl9] at d9
    obtain ⟨P9, hP9⟩ : ∃ P, P = N7 ++ ⟨spC dd.1 h, 51, 0, true⟩ :: ⟨[ci dd.2.2.1, ci dd.2.2.2], 53, 0, true⟩ :: l9 := ⟨_, rfl⟩
    have sh9 : SO P9 N8.length N9.length h dd.2.1 := by
      rw [hP9]
      generalize N9.length = hi2 at sh
      rw [hl9] at sh
      exact SO.frame (p := [_, _]) (p' := [_, _]) sh rfl (by simp; omega)
    have hP9l : P9.length = N9.length := by rw [hP9, hl9]; simp
    have l79 : N7.length ≤ P9.length := by rw [hP9]; simp
    have x79 : Ext N7 P9 := ⟨_, hP9⟩
    have q5 := den_eqSpace (X := libX) (L := L) (by omega) (k + 19) P9 dd.1 h w _ sh9.ss (x79.so (by omega) sw7).ss y1 y2
    have q6 := den_heldSpace (X := libX) (L := L) (by omega) (k + 20) P9 dd.1 g _ 1 (x79.so (by omega) sg7).ss y1 y2 (by omega) yt
    have f1 := (x07.trans x79).fin
    have hG1 : N1[m.length + 1]? = some ⟨[ci kd, ci x, ci y], 39, 0, true⟩ := by
      rw [x1.get (by simp)]
      simp
    have hL1 : live N1 (m.length + 1) 3 = some ⟨[ci kd, ci x, ci y], 39, 0, true⟩ := by unfold live; rw [hG1]; rfl
    have hG5 : N5[N3.length]? = some ⟨spC s c3, 51, 0, true⟩ := (live_some B8).1
    have hG7 : ∀ r, (N7 ++ r)[m.length + 1]? = some ⟨[ci kd, ci x, ci y], 39, 0, true⟩ := fun r => (live_some (D2 r)).1
    have hG8 : N8[m.length + 1]? = some ⟨[ci kd, ci x, ci y], 39, 0, true⟩ := by
      rw [x8.get (by have := x07.len; have := xP2.len; simp; omega)]
      exact hG7 _
    have hL8 : live N8 (m.length + 1) 3 = some ⟨[ci kd, ci x, ci y], 39, 0, true⟩ := by unfold live; rw [hG8]; rfl
    have z6 : W6 - (N5.length - m.length) = 0 := by have := xP2.len; omega
    have z7 : W7 - (N6.length - m.length) = 0 := by have := xP2.len; omega
    have t1 : ¬ (1 : Int) + (tot xss : Int) < 0 := by omega
    have t2 : ¬ (1 : Int) + (tot dd.2.1 : Int) < 0 := by omega
    rw [hP2] at d3
    rw [hP4] at d5 q1
    rw [hP9] at q5 q6 f1
    clear hP2 hP4 hP9 pB1 pB2 pF6 pF7 pF8 pF9 pF10
    simp (maxSteps := 1000000) (implicitDefEqProofs := false) (disch := first | omega | (simp [get_app, get_app0]; done) | rfl | (simp only [List.length_cons, List.length_append, List.length_take, List.length_drop, List.length_nil]; omega)) [-getElem?_pos, -C.refs, cr_sl, cr_ptr, cr_nils, cr_int, cr_bool, cr_ci, c_laws_FnExactDoDeed, z141, sp_len, sp_refs, sp_take, sp_over, hsz, h0, d1, d2, e9, d3, A1, A2, A6, A7, d4, q1, e8, d5, q2, B8, d6, z6, C9, C10, C6, C7, q3, t1, d7, z7, D9, q4, t2, D1, D2, D6, D7, D9', d8, d9, q5, q6, f1, hG1, hG5, hG7, hG8, hL1, hL8]
end Go.Proofs.YtfbeplbcaanimaaGreat
