/-
  Sets: joined, the reference's way; the law of SetJoin.
-/
import Derived.Test.YtkoloapgeilbdaaSJ
set_option linter.unusedVariables false
set_option linter.unusedSimpArgs false
set_option maxHeartbeats 4000000
namespace Go.Proofs.Ytkoloapgeilbdaa
variable {X : FuncId → List V → List Blk → Option Ret} {L : Nat}

theorem spec_SetJoin (hL : 2000000 ≤ L) (k : Nat) (m : List Blk) (v w : C) (xss yss : List (List Int)) (hv : SSA m v xss) (hw : SSA m w yss) (hx : Bd xss) (hy : Bd yss) :
    ∃ M c e, den T X L (k + 6) 58 [.c v, .c w] m = some ⟨.tup [.c c, vi (setJoin xss yss).2], M, e, 0⟩ ∧ Ext m M ∧ SO M m.length M.length c (setJoin xss yss).1 ∧ M.length ≤ mx e c.refs := by
  rw [den_eq T_58]
  have d1 := den_l16Copy (X := X) (L := L) hL (k + 3) m v xss hv hx.l hx.e
  have hsx := fresh_SX m xss
  have hml := freshM_len m xss
  have hext : Ext m (freshM m xss) := ⟨_, rfl⟩
  unfold freshR at d1
  generalize freshM m xss = M at d1 hsx hml hext
  obtain ⟨q0, hq0⟩ : ∃ q, q = m.length := ⟨_, rfl⟩
  rw [← hq0] at d1 hml
  have hsx : SX M m.length (q0 + 1 + xss.length) q0 (hd (q0 + 1) xss) xss := by rw [hq0]; exact hsx
  have hle : M.length ≤ mx (if xss = [] then 0 else q0 + 1 + xss.length) (q0 + 1) := by
    rw [mx_eq, hml]
    split
    · rename_i h; subst h; simp
    · omega
  have htk : List.take (mx (if xss = [] then 0 else q0 + 1 + xss.length) (q0 + 1)) M = M := List.take_of_length_le hle
  have hso0 : SO M m.length M.length (.sl q0 0 xss.length xss.length) xss := by rw [hml]; exact hsx.so
  have o1 := den_spec_SetOk (X := X) (L := L) hL (k + 2) M v xss (hext.ssa hv).ss hx.l hx.e
  have o2 := den_spec_SetOk (X := X) (L := L) hL (k + 2) M w yss (hext.ssa hw).ss hy.l hy.e
  unfold setJoin
  cases h1 : setOk xss with
  | false =>
    rw [h1] at o1
    simp (maxSteps := 1000000) (implicitDefEqProofs := false) (disch := omega) [-getElem?_pos, -fin, c_spec_SetJoin, d1, o1, htk]
    exact fin_sety hext hso0 (Nat.le_refl _) hle
  | true =>
    rw [h1] at o1
    cases h2 : setOk yss with
    | false =>
      rw [h2] at o2
      simp (maxSteps := 1000000) (implicitDefEqProofs := false) (disch := omega) [-getElem?_pos, -fin, c_spec_SetJoin, d1, o1, o2, htk]
      exact fin_sety hext hso0 (Nat.le_refl _) hle
    | true =>
      rw [h2] at o2
      have hne : xss ≠ [] := fun e => by have hn := setOk_len h1; subst e; simp at hn
      have d20 := den_spec_SetList (X := X) (L := L) hL (k + 1) M w yss (hext.ssa hw) hy.l hy.e
      rw [if_pos h2] at d20
      have hll : (srt yss.flatten).length ≤ 24 := by rw [srt_len, tot_flatten]; exact (setOk_tot h2).1
      generalize srt yss.flatten = l at d20 hll ⊢
      obtain ⟨c1, M1, bj, d2, x1, ob, hM1⟩ : ∃ c M1 bj, den T X L (k + 5) 54 [.c w] M = some ⟨.c c, M1, 0, 0⟩ ∧ Ext M M1 ∧ OB M1 M.length M1.length M1.length bj c l ∧ M1.length ≤ mx M.length c.refs := ⟨_, _, _, d20, ⟨_, rfl⟩, ob_blk M l, by simp [C.refs, mx_eq]⟩
      have hlp := iter_ex (n0 := m.length) (id := 0) (ka := some [6]) (f := fun s => exec (den T X L (k + 5)) L m.length none c_spec_SetJoin_b0 s) (tr := trim m.length (some [0, 6, 7, 8])) (σ := Nat × List (List Int) × List Blk × Nat × C × Nat)
        (fun s => ⟨[(0, .c v), (6, .c s.2.2.2.2.1), (7, .c c1), (8, vi s.1)], s.2.2.1, s.2.2.2.1, 0⟩)
        (fun s => s.1 ≤ l.length ∧ joinF s.2.1 (l.drop s.1) = joinF xss l ∧ Bd s.2.1 ∧ Ext M1 s.2.2.1 ∧ SO s.2.2.1 m.length s.2.2.2.2.2 s.2.2.2.2.1 s.2.1 ∧ s.2.2.2.2.2 ≤ s.2.2.1.length ∧ s.2.2.2.2.2 ≤ mx s.2.2.2.1 s.2.2.2.2.1.refs)
        (fun s => l.length - s.1)
        (fun r => (∃ z M' e' c hi, r = (.norm, ⟨[(6, .c c)], M', e', 0⟩) ∧ joinF xss l = some z ∧ Ext m M' ∧ SO M' m.length hi c z ∧ hi ≤ M'.length ∧ hi ≤ mx e' c.refs) ∨
          (∃ M' e' hi q hs, r = (.ret, ⟨[(4, .c (.sl q 0 xss.length xss.length)), (5, .c (.int .i64 3))], M', e', 0⟩) ∧ joinF xss l = none ∧ Ext m M' ∧ SX M' m.length hi q hs xss ∧ hi ≤ mx e' (q + 1))) ?w
      case w =>
        rintro ⟨i, z, M', e', c, hi⟩ ⟨i1, i2, i3, i4, i5, i6, i7⟩
        simp only at i1 i2 i3 i4 i5 i6 i7 ⊢
        have l1 := x1.len
        have l4 := i4.len
        have l0 := hext.len
        have hsl : Sl M' c1 l := (i4.ob (Nat.le_refl _) ob).sl
        have hcl := hsl.lenV
        by_cases he : i = l.length
        · subst he
          rw [List.drop_length, joinF] at i2
          refine ⟨.exit 0, _, by simp (maxSteps := 1000000) (implicitDefEqProofs := false) (disch := omega) [-getElem?_pos, c_spec_SetJoin_b0, hcl]; exact rfl, ?_⟩
          refine ⟨_, rfl, .inl ⟨z, _, _, c, hi, by simp (maxSteps := 1000000) (implicitDefEqProofs := false) (disch := omega) [-getElem?_pos, c_blkx, -C.refs]; exact rfl, i2.symm, ?_, ?_, ?_, i7⟩⟩
          · exact (hext.trans (x1.trans i4)).cut (le_mx_l _ _)
          · exact i5.cut (Nat.le_trans i7 (le_mx_r _ _))
          · rw [List.length_take]; simp only [mx_eq] at i7 ⊢; omega
        · have hi' : (i : Int) < (l.length : Int) := by omega
          have hix := hsl.ixV (i := (i : Int)) (by omega)
          rw [Int.toNat_natCast] at hix
          have hld := hsl.ldV (i := i) (by omega)
          rw [drop_nth (by omega), joinF] at i2
          obtain ⟨M2, c2, e2, d3, x2, s2, hb2⟩ := spec_SetAdd (X := X) (L := L) hL k M' c z (nth l i) i5.ssa i3.l i3.e
          have l2 := x2.len
          have hr2 := s2.refs_lt
          by_cases h3 : (setAdd z (nth l i)).2 = 3
          · rw [if_pos h3] at i2
            rw [h3] at d3
            have hv2 : SSA M2 v xss := (hext.trans (x1.trans (i4.trans x2))).ssa hv
            have d4 := den_l16Copy (X := X) (L := L) hL (k + 3) M2 v xss hv2 hx.l hx.e
            have hsx2 := fresh_SX M2 xss
            have hext2 : Ext M2 (freshM M2 xss) := ⟨_, rfl⟩
            unfold freshR at d4
            generalize freshM M2 xss = M3 at d4 hsx2 hext2
            refine ⟨.ret, _, by simp (maxSteps := 1000000) (implicitDefEqProofs := false) (disch := omega) [-getElem?_pos, c_spec_SetJoin_b0, hcl, hi', hix, hld, d3, d4, hne]; exact rfl, ?_⟩
            refine ⟨_, by simp (maxSteps := 1000000) (implicitDefEqProofs := false) (disch := omega) [-getElem?_pos, c_blkr]; exact ⟨rfl, rfl⟩, .inr ⟨_, _, M2.length + 1 + xss.length, M2.length, hd (M2.length + 1) xss, rfl, i2.symm, ?_, ?_, ?_⟩⟩
            · exact ((hext.trans (x1.trans (i4.trans x2))).trans hext2).cut (le_mx_l _ _)
            · exact (hsx2.low (by omega)).cut (by simp only [mx_eq]; omega)
            · simp only [mx_eq]; omega
          · rw [if_neg h3] at i2
            have r2 : ∀ k x, (C.int k x).refs = 0 := fun _ _ => rfl
            refine ⟨.norm, _, by simp (maxSteps := 1000000) (implicitDefEqProofs := false) (disch := omega) [-getElem?_pos, c_spec_SetJoin_b0, hcl, hi', hix, hld, d3, h3]; exact rfl, (i + 1, (setAdd z (nth l i)).1, _, _, c2, M2.length), by simp (maxSteps := 1000000) (implicitDefEqProofs := false) (disch := omega) [-getElem?_pos, -C.refs, r2]; exact ⟨rfl, rfl⟩, ⟨?_, i2, i3.add _, ?_, ?_, ?_, ?_⟩, ?_⟩
            · show i + 1 ≤ l.length; omega
            · exact (i4.trans x2).cut (by simp only [mx_eq] at hb2 ⊢; omega)
            · exact (s2.wide (lo' := m.length) (by omega) (Nat.le_refl _)).cut (by simp only [mx_eq] at hb2 ⊢; omega)
            · show M2.length ≤ (List.take _ M2).length
              rw [List.length_take]; simp only [mx_eq] at hb2 ⊢; omega
            · simp only [mx_eq] at hb2 ⊢; omega
            · show l.length - (i + 1) < l.length - i; omega
      have hcl := ob.sl.lenV
      have r1 : (C.sl q0 0 xss.length xss.length).refs = q0 + 1 := rfl
      have r2 : ∀ k x, (C.int k x).refs = 0 := fun _ _ => rfl
      simp (maxSteps := 1000000) (implicitDefEqProofs := false) (disch := omega) [-getElem?_pos, -fin, c_spec_SetJoin, d1, o1, o2, d2, hne, hcl]
      generalize hqq : blkC _ _ _ (iter _ _ _ _) = qq
      obtain ⟨r, e1, hr⟩ : ∃ r, qq = some r ∧ ((∃ z M' e' c hi, r = (Ex.norm, ⟨[(6, .c c)], M', e', 0⟩) ∧ joinF xss l = some z ∧ Ext m M' ∧ SO M' m.length hi c z ∧ hi ≤ M'.length ∧ hi ≤ mx e' c.refs) ∨
          (∃ M' e' hi q hs, r = (.ret, ⟨[(4, .c (.sl q 0 xss.length xss.length)), (5, .c (.int .i64 3))], M', e', 0⟩) ∧ joinF xss l = none ∧ Ext m M' ∧ SX M' m.length hi q hs xss ∧ hi ≤ mx e' (q + 1))) := by
        rw [← hqq]
        refine hlp L (0, xss, _, q0 + 1 + xss.length, .sl q0 0 xss.length xss.length, M.length) _ ?I (by simp (maxSteps := 1000000) (implicitDefEqProofs := false) (disch := omega) [-getElem?_pos, -C.refs, r1, r2, hne]; exact rfl) (by show l.length - 0 < L; omega)
        have l1 := x1.len
        refine ⟨Nat.zero_le _, by rw [List.drop_zero], hx, (Ext.refl M1).cut (by simp only [mx_eq] at hM1 ⊢; omega), (x1.so (Nat.le_refl _) hso0).cut (by simp only [mx_eq]; omega), ?_, ?_⟩
        · show M.length ≤ (List.take _ M1).length
          rw [List.length_take]; simp only [mx_eq]; omega
        · show M.length ≤ mx (q0 + 1 + xss.length) (q0 + 1)
          rw [hml]; exact le_mx_l _ _
      clear hlp hqq
      rcases hr with ⟨z, M', e', c, hi, rfl, hst, w1, w2, w3, w4⟩ | ⟨M', e', hi, q, hs, rfl, hst, w1, w2, w3⟩
      · subst e1
        have w5 := w2
        obtain ⟨b, hs, bi, hb1, _, rfl, _⟩ := w5
        have w4 : hi ≤ mx e' (b + 1) := w4
        rw [hst]
        simp (maxSteps := 1000000) (implicitDefEqProofs := false) (disch := omega) [-getElem?_pos, -fin]
        exact fin_sety (w1.cut (a := mx e' (b + 1)) (by simp only [mx_eq]; omega)) (w2.cut w4) (by rw [List.length_take]; simp only [mx_eq] at w4 ⊢; omega) w4
      · subst e1
        rw [hst]
        simp (maxSteps := 1000000) (implicitDefEqProofs := false) (disch := omega) [-getElem?_pos, -fin]
        exact fin_sety w1 w2.so w2.hm w3
theorem den_FnExactSetJoin (hL : 4000000 ≤ L) (k : Nat) (m : List Blk) (v w : C) (xss yss : List (List Int)) (hv : SS m v xss) (hw : SS m w yss) (hb : xss.length ≤ 9223372036854775807) (hbs : ∀ xs ∈ xss, xs.length ≤ 9223372036854775807)
    (hb' : yss.length ≤ 9223372036854775807) (hbs' : ∀ xs ∈ yss, xs.length ≤ 9223372036854775807) :
    den T libX L (k + 7) 14 [.c v, .c w] m = some ⟨vb true, m, 0, 0⟩ := by
  rw [den_eq T_14]
  have hsz := den_szIntSS (X := libX) (L := L) (by omega) (k + 4) m v xss 1048576 hv hb hbs (by omega)
  by_cases h0 : szSS xss 1048576 < 0
  · simp (maxSteps := 1000000) (implicitDefEqProofs := false) (disch := omega) [-getElem?_pos, c_laws_FnExactSetJoin, hsz, h0]
  · obtain ⟨b1, b2, b5⟩ := sz_ok (xss := xss) (left := 1048576) (by omega) (by omega) (by omega)
    have hsz2 := den_szIntSS (X := libX) (L := L) (by omega) (k + 4) m w yss (szSS xss 1048576) hw hb' hbs' (by omega)
    by_cases h1 : szSS yss (szSS xss 1048576) < 0
    · simp (maxSteps := 1000000) (implicitDefEqProofs := false) (disch := omega) [-getElem?_pos, c_laws_FnExactSetJoin, hsz, h0, hsz2, h1]
    · obtain ⟨b3, b4, _⟩ := sz_ok (xss := yss) (left := szSS xss 1048576) (by omega) (by omega) (by omega)
      have bt := sz_tot (xss := xss) (left := 1048576) (by omega) (by omega)
      have bt2 := sz_tot (xss := yss) (left := szSS xss 1048576) (by omega) (by omega)
      have bt3 : tot xss ≤ 1048575 := by
        by_cases hn : xss.length = 0
        · have := List.length_eq_zero_iff.1 hn
          rw [this]; simp [tot]
        · omega
      have hx : Bd xss := ⟨b1, b2, by omega⟩
      have hy : Bd yss := ⟨b3, b4, by omega⟩
      obtain ⟨y1, y2, yt⟩ := setJoin_b (yss := yss) hx
      obtain ⟨M1, e1, d1, x1, s1⟩ := toSO (X := libX) (L := L) (by omega) (k + 4) m v xss hv b1 b2
      obtain ⟨M2, e2, d2, x2, s2⟩ := toSO (X := libX) (L := L) (by omega) (k + 4) M1 w yss (x1.ss hw) b3 b4
      obtain ⟨M3, w0, e3, d3, x3, ow, _⟩ := spec_SetJoin (X := libX) (L := L) (by omega) k M2 _ _ xss yss (x2.so (Nat.le_refl _) s1).ssa s2.ssa hx hy
      have x13 := x1.trans (x2.trans x3)
      obtain ⟨M4, e4, d4, x4, s4⟩ := toSO (X := libX) (L := L) (by omega) (k + 4) M3 v xss (x13.ss hv) b1 b2
      have x14 := x13.trans x4
      obtain ⟨M5, e5, d5, x5, s5⟩ := toSO (X := libX) (L := L) (by omega) (k + 4) M4 w yss (x14.ss hw) b3 b4
      have s45 := x5.so (Nat.le_refl _) s4
      obtain ⟨M6, g, e6, d6, x6, og, _⟩ := impl_SetJoin (L := L) (by omega) (k + 1) M5 _ _ xss yss s45.ssa s5.ssa hx hy
      have l1 := x1.len
      have l2 := x2.len
      have l3 := x3.len
      have l4 := x4.len
      have l5 := x5.len
      have l6 := x6.len
      have ow6 := (x4.trans (x5.trans x6)).so (Nat.le_refl _) ow
      have q1 := den_eqIntSS (X := libX) (L := L) (by omega) (k + 4) M6 g w0 _ _ og.ss ow6.ss y1 y2
      have x16 := x14.trans (x5.trans x6)
      obtain ⟨M7, e7, d7, x7, s7⟩ := toSO (X := libX) (L := L) (by omega) (k + 4) M6 v xss (x16.ss hv) b1 b2
      have s47 := (x6.trans x7).so (by omega) s45
      have q2 := den_eqIntSS (X := libX) (L := L) (by omega) (k + 4) M7 _ _ xss xss s47.ss s7.ss b1 b2
      have x17 := x16.trans x7
      obtain ⟨M8, e8, d8, x8, s8⟩ := toSO (X := libX) (L := L) (by omega) (k + 4) M7 w yss (x17.ss hw) b3 b4
      have s58 := (x6.trans (x7.trans x8)).so (Nat.le_refl _) s5
      have q3 := den_eqIntSS (X := libX) (L := L) (by omega) (k + 4) M8 _ _ yss yss s58.ss s8.ss b3 b4
      have x18 := x17.trans x8
      have l7 := x7.len
      have l8 := x8.len
      have s48 := x8.so (by omega) s47
      have og8 := (x7.trans x8).so (Nat.le_refl _) og
      have ow8 := (x7.trans x8).so (by omega) ow6
      obtain ⟨M9, W9, d9, w9, n9, a9, _⟩ := s48.mark (X := libX) (L := L) (by omega) (k + 4) (by omega) b1 b2 (c0 := 1) (by omega) (by omega)
      have s59 : SO M9 M4.length M5.length _ yss := s58.congr fun q h1 h2 => a9 q (.inr (by omega))
      obtain ⟨M10, W10, d10, w10, n10, a10, _⟩ := s59.mark (X := libX) (L := L) (by omega) (k + 4) (by omega) b3 b4 (c0 := 1 + (tot xss : Int)) (by omega) (by omega)
      have ow10 : SO M10 M2.length M3.length w0 (setJoin xss yss).1 := ow8.congr fun q h1 h2 => (a10 q (.inl (by omega))).trans (a9 q (.inl (by omega)))
      have og10 : SO M10 M5.length M6.length g (setJoin xss yss).1 := og8.congr fun q h1 h2 => (a10 q (.inr (by omega))).trans (a9 q (.inr (by omega)))
      have q4 := den_eqIntSS (X := libX) (L := L) (by omega) (k + 4) M10 g w0 _ _ og10.ss ow10.ss y1 y2
      obtain ⟨M11, W11, d11, w11, n11, a11, og11⟩ := og10.mark (X := libX) (L := L) (by omega) (k + 4) (by omega) y1 y2 (c0 := 1) (by omega) yt
      have q5 := den_heldIntSS (X := libX) (L := L) (by omega) (k + 4) M11 g _ 1 og11.ss y1 y2 (by omega) yt
      have x11 : Ext m M11 := Ext.of (by omega) fun q hq => by
        rw [a11 q (.inl (by omega)), a10 q (.inl (by omega)), a9 q (.inl (by omega))]
        exact x18.get hq
      have ow11 : SO M11 M2.length M3.length w0 (setJoin xss yss).1 := ow10.congr fun q h1 h2 => a11 q (.inl (by omega))
      obtain ⟨M12, e12, d12, x12, s12⟩ := toSO (X := libX) (L := L) (by omega) (k + 4) M11 v xss (x11.ss hv) b1 b2
      obtain ⟨M13, e13, d13, x13', s13⟩ := toSO (X := libX) (L := L) (by omega) (k + 4) M12 w yss ((x11.trans x12).ss hw) b3 b4
      obtain ⟨M14, h, e14, d14, x14', oh, _⟩ := impl_SetJoin (L := L) (by omega) (k + 1) M13 _ _ xss yss (x13'.so (Nat.le_refl _) s12).ssa s13.ssa hx hy
      have xe := x12.trans (x13'.trans x14')
      have q6 := den_eqIntSS (X := libX) (L := L) (by omega) (k + 4) M14 h w0 _ _ oh.ss (xe.so (by omega) ow11).ss y1 y2
      have q7 := den_heldIntSS (X := libX) (L := L) (by omega) (k + 4) M14 g _ 1 (xe.so (by omega) og11).ss y1 y2 (by omega) yt
      have f1 := (x11.trans xe).fin
      have z9 : W9 - (M8.length - m.length) = 0 := by omega
      have z10 : W10 - (M9.length - m.length) = 0 := by omega
      have z11 : W11 - (M10.length - m.length) = 0 := by omega
      have t1 : ¬ (1 : Int) + (tot xss : Int) + (tot yss : Int) < 0 := by omega
      have t2 : ¬ (1 : Int) + (tot (setJoin xss yss).1 : Int) < 0 := by omega
      simp only [decide_true] at q1 q2 q3 q4 q6
      simp (maxSteps := 1000000) (implicitDefEqProofs := false) (disch := omega) [-getElem?_pos, c_laws_FnExactSetJoin, hsz, h0, hsz2, h1, d1, d2, d3, d4, d5, d6, d7, d8, d9, d10, d11, d12, d13, d14, q1, q2, q3, q4, q5, q6, q7, z9, z10, z11, t1, t2, f1]
end Go.Proofs.Ytkoloapgeilbdaa
