/-
  Sets: added to, the reference's way; the law of SetAdd.
-/
import Derived.Test.YtkoloapgeilbdaaSH
set_option linter.unusedVariables false
set_option linter.unusedSimpArgs false
set_option maxHeartbeats 4000000
namespace Go.Proofs.Ytkoloapgeilbdaa
variable {X : FuncId → List V → List Blk → Option Ret} {L : Nat}

theorem spec_SetAdd (hL : 2000000 ≤ L) (k : Nat) (m : List Blk) (v : C) (xss : List (List Int)) (x : Int) (hv : SSA m v xss) (b1 : xss.length ≤ 1048576) (b2 : ∀ xs ∈ xss, xs.length ≤ 1048576) :
    ∃ M c e, den T X L (k + 5) 56 [.c v, vi x] m = some ⟨.tup [.c c, vi (setAdd xss x).2], M, e, 0⟩ ∧ Ext m M ∧ SO M m.length M.length c (setAdd xss x).1 ∧ M.length ≤ mx e c.refs := by
  rw [den_eq T_56]
  have d1 := den_l16Copy (X := X) (L := L) hL (k + 2) m v xss hv b1 b2
  have hsx := fresh_SX m xss
  have hml := freshM_len m xss
  have hext : Ext m (freshM m xss) := ⟨_, rfl⟩
  unfold freshR at d1
  generalize freshM m xss = M at d1 hsx hml hext
  obtain ⟨q0, hq0⟩ : ∃ q, q = m.length := ⟨_, rfl⟩
  rw [← hq0] at d1 hml
  have hsx : SX M m.length (q0 + 1 + xss.length) q0 (hd (q0 + 1) xss) xss := by rw [hq0]; exact hsx
  have hle : M.length ≤ mx (if xss = [] then 0 else q0 + 1 + xss.length) (q0 + 1) := by
    rw [mx_eq, hml]
    split
    · rename_i h; subst h; simp
    · omega
  have htk : List.take (mx (if xss = [] then 0 else q0 + 1 + xss.length) (q0 + 1)) M = M := List.take_of_length_le hle
  have hso0 : SO M m.length M.length (.sl q0 0 xss.length xss.length) xss := by rw [hml]; exact hsx.so
  have hx1 := hext.ssa hv
  have o1 := den_spec_SetOk (X := X) (L := L) hL (k + 1) M v xss hx1.ss b1 b2
  have o2 := den_l1Value (X := X) (L := L) (k + 2) M x
  unfold setAdd
  cases h1 : setOk xss with
  | false =>
    rw [h1] at o1
    simp (maxSteps := 1000000) (implicitDefEqProofs := false) (disch := omega) [-getElem?_pos, -fin, c_spec_SetAdd, d1, o1, htk]
    exact fin_sety hext hso0 (Nat.le_refl _) hle
  | true =>
    rw [h1] at o1
    cases h2 : isVal x with
    | false =>
      rw [h2] at o2
      simp (maxSteps := 1000000) (implicitDefEqProofs := false) (disch := omega) [-getElem?_pos, -fin, c_spec_SetAdd, d1, o1, o2, htk]
      exact fin_sety hext hso0 (Nat.le_refl _) hle
    | true =>
      rw [h2] at o2
      have o3 := den_spec_SetHas16 (X := X) (L := L) hL k M v xss x hx1.ss b1 b2
      rw [h1, Bool.true_and] at o3
      cases h3 : setHas xss x with
      | true =>
        rw [h3] at o3
        simp (maxSteps := 1000000) (implicitDefEqProofs := false) (disch := omega) [-getElem?_pos, -fin, c_spec_SetAdd, d1, o1, o2, o3, htk]
        exact fin_sety hext hso0 (Nat.le_refl _) hle
      | false =>
        rw [h3] at o3
        have hn := setOk_len h1
        have hne : xss ≠ [] := fun e => by subst e; simp at hn
        clear hn
        have hlp := iter_ex (n0 := m.length) (id := 0) (ka := some [1, 6]) (f := fun s => exec (den T X L (k + 4)) L m.length none c_spec_SetAdd_b0 s) (tr := trim m.length (some [0, 1, 6])) (σ := Nat × List (List Int) × List Blk × Nat × Nat × Nat × List C)
          (fun s => ⟨[(0, .c v), (1, vi x), (6, .c (.sl s.2.2.2.2.2.1 0 s.2.1.length s.2.1.length))], s.2.2.1, s.2.2.2.1, 0⟩)
          (fun s => Zed xss s.2.1 ∧ settle x (srt xss.flatten) s.1 s.2.1 = settle x (srt xss.flatten) 4 xss ∧ 16 ≤ s.2.1.length * 2 ^ s.1 ∧ Ext m s.2.2.1 ∧ SX s.2.2.1 m.length s.2.2.2.2.1 s.2.2.2.2.2.1 s.2.2.2.2.2.2 s.2.1 ∧ s.2.2.2.2.1 ≤ mx s.2.2.2.1 (s.2.2.2.2.2.1 + 1))
          (fun s => s.1)
          (fun r => (∃ z M' e' hi q hs, r = (.norm, ⟨[(1, vi x), (6, .c (.sl q 0 z.length z.length))], M', e', 0⟩) ∧ settle x (srt xss.flatten) 4 xss = some z ∧ Ext m M' ∧ SX M' m.length hi q hs z ∧ hi ≤ mx e' (q + 1)) ∨
            (∃ M' e' hi q hs, r = (.ret, ⟨[(4, .c (.sl q 0 xss.length xss.length)), (5, .c (.int .i64 3))], M', e', 0⟩) ∧ settle x (srt xss.flatten) 4 xss = none ∧ Ext m M' ∧ SX M' m.length hi q hs xss ∧ hi ≤ mx e' (q + 1))) ?w
        case w =>
          rintro ⟨f, z, M', e', hi, q, hs⟩ ⟨hz, i1, i2, i3, i4, i5⟩
          simp only at hz i1 i2 i3 i4 i5 ⊢
          have hzl : 0 < z.length ∧ z.length ≤ 8 := by have := hz.len; omega
          have hz4 : z.length ≠ 8 → 2 * z.length ≤ 8 := by have := hz.len; omega
          have hg0 : f ≠ 0 := by
            rintro rfl
            rw [Nat.pow_zero] at i2
            omega
          have i2' : z.length * 2 ^ f = 2 * z.length * 2 ^ (f - 1) := by
            obtain ⟨g, rfl⟩ : ∃ g, f = g + 1 := ⟨f - 1, by omega⟩
            rw [Nat.pow_succ, Nat.add_sub_cancel, Nat.mul_comm 2 z.length, Nat.mul_assoc, Nat.mul_comm 2]
          rw [i2'] at i2
          clear i2'
          obtain ⟨hp, hp1⟩ := plc_lt (n := z.length) (by omega) x
          obtain ⟨p, hpe⟩ : ∃ p, p = plc z.length x := ⟨_, rfl⟩
          rw [← hpe] at hp hp1
          have o4 := den_l16Place (X := X) (L := L) (k + 3) M' x z.length (by omega)
          rw [hp1] at o4
          have hpi : (p : Int) < (z.length : Int) := by omega
          have hlq := i4.live
          have hhl := i4.len
          obtain ⟨cp, hcp, hcs⟩ := i4.han hp
          have hcl := hcs.sl.lenV
          have hbk : bkt z x = nthL z p := by unfold bkt; rw [hp1, Int.toNat_natCast]
          obtain ⟨g, rfl⟩ : ∃ g, f = g + 1 := ⟨f - 1, by omega⟩
          rw [Nat.add_sub_cancel] at i2
          clear hg0
          generalize hR : settle x (srt xss.flatten) 4 xss = R at i1 ⊢
          rw [settle] at i1
          generalize hGG : 2 * z.length * 2 ^ g = G at i2
          rw [hbk] at i1
          by_cases h3 : (nthL z p).length = 3
          · rw [if_pos h3] at i1
            have h3t : (((nthL z p).length : Int) = 3) = True := eq_true (by omega)
            by_cases h8 : z.length = 8
            · rw [if_pos h8] at i1
              have h8t : ((z.length : Int) = 8) = True := eq_true (by omega)
              have hv' : SSA M' v xss := i3.ssa hv
              have d2 := den_l16Copy (X := X) (L := L) hL (k + 2) M' v xss hv' b1 b2
              have hsx2 := fresh_SX M' xss
              have hml2 := freshM_len M' xss
              have hext2 : Ext M' (freshM M' xss) := ⟨_, rfl⟩
              unfold freshR at d2
              generalize freshM M' xss = M2 at d2 hsx2 hml2 hext2
              refine ⟨.ret, _, by simp (maxSteps := 1000000) (implicitDefEqProofs := false) (disch := omega) [-getElem?_pos, c_spec_SetAdd_b0, h3t, h8t, hpi, o4, hlq, hhl, hcp, hcl, d2, hne]; exact rfl, ?_⟩
              refine ⟨_, by simp (maxSteps := 1000000) (implicitDefEqProofs := false) (disch := omega) [-getElem?_pos, c_blkr]; exact ⟨rfl, rfl⟩, .inr ⟨_, _, M'.length + 1 + xss.length, M'.length, hd (M'.length + 1) xss, rfl, i1.symm, ?_, ?_, ?_⟩⟩
              · exact (i3.trans hext2).cut (le_mx_l _ _)
              · exact (hsx2.low i3.len).cut (by simp only [mx_eq]; omega)
              · simp only [mx_eq]; omega
            · rw [if_neg h8] at i1
              have h8f : ¬ (z.length : Int) = 8 := by omega
              have hsz := (hz.small h1).1
              obtain ⟨q2, M2, e2, d3, x2, hi2, hs2, sx2, hh2⟩ := den_l16Double (X := X) (L := L) hL (k + 2) M' _ z i4.so.ssa ⟨hzl.1, hz4 h8⟩ (by omega)
              have l3 := i3.len
              have sx3 := sx2.low (lo' := m.length) (by omega)
              have x3 := i3.trans x2
              have hz2 := hz.next h8
              rw [dbl_buck, perm_srt hz.perm] at sx3
              have hbl := buck_len (srt xss.flatten) (2 * z.length)
              generalize hN : 2 * z.length = N at d3 hbl sx3 i1 hz2
              refine ⟨.norm, _, by simp (maxSteps := 1000000) (implicitDefEqProofs := false) (disch := omega) [-getElem?_pos, c_spec_SetAdd_b0, h3t, h8f, hpi, o4, hlq, hhl, hcp, hcl, d3]; exact rfl, (g, buck (srt xss.flatten) N, _, _, hi2, q2, hs2), by simp (maxSteps := 1000000) (implicitDefEqProofs := false) (disch := omega) [-getElem?_pos, hbl]; exact ⟨rfl, rfl⟩, ⟨hz2, i1, ?_, ?_, ?_, ?_⟩, Nat.lt_succ_self g⟩
              · show 16 ≤ (buck (srt xss.flatten) N).length * 2 ^ g
                rw [hbl, ← hN, hGG]
                exact i2
              · exact x3.cut (le_mx_l _ _)
              · exact sx3.cut (by simp only [mx_eq] at hh2 ⊢; omega)
              · simp only [mx_eq] at hh2 ⊢; omega
          · rw [if_neg h3] at i1
            have h3' : ¬ ((nthL z p).length : Int) = 3 := by omega
            refine ⟨.exit 0, _, by simp (maxSteps := 1000000) (implicitDefEqProofs := false) (disch := omega) [-getElem?_pos, c_spec_SetAdd_b0, hpi, o4, hlq, hhl, hcp, hcl, h3']; rfl, ?_⟩
            refine ⟨_, rfl, .inl ⟨z, _, _, hi, q, hs, by simp (maxSteps := 1000000) (implicitDefEqProofs := false) (disch := omega) [-getElem?_pos, c_blkx]; rfl, i1.symm, ?_, ?_, i5⟩⟩
            · exact i3.cut (le_mx_l _ _)
            · exact i4.cut (by simp only [mx_eq] at i5 ⊢; omega)
        simp (maxSteps := 1000000) (implicitDefEqProofs := false) (disch := omega) [-getElem?_pos, -fin, c_spec_SetAdd, d1, o1, o2, o3, hne]
        generalize hqq : blkC _ _ _ (iter _ _ _ _) = qq
        obtain ⟨r, e1, hr⟩ : ∃ r, qq = some r ∧ ((∃ z M' e' hi q hs, r = (Ex.norm, ⟨[(1, vi x), (6, .c (.sl q 0 z.length z.length))], M', e', 0⟩) ∧ settle x (srt xss.flatten) 4 xss = some z ∧ Ext m M' ∧ SX M' m.length hi q hs z ∧ hi ≤ mx e' (q + 1)) ∨
            (∃ M' e' hi q hs, r = (.ret, ⟨[(4, .c (.sl q 0 xss.length xss.length)), (5, .c (.int .i64 3))], M', e', 0⟩) ∧ settle x (srt xss.flatten) 4 xss = none ∧ Ext m M' ∧ SX M' m.length hi q hs xss ∧ hi ≤ mx e' (q + 1))) := by
          rw [← hqq]
          refine hlp L (4, xss, _, q0 + 1 + xss.length, q0 + 1 + xss.length, q0, hd (q0 + 1) xss) _ ?I (by simp (maxSteps := 1000000) (implicitDefEqProofs := false) (disch := omega) [-getElem?_pos, hne]; rfl) (by show 4 < L; omega)
          refine ⟨Zed.start h1, rfl, ?_, hext.cut (le_mx_l _ _), hsx.cut (by simp only [mx_eq]; omega), ?_⟩
          · have := setOk_len h1
            show 16 ≤ xss.length * 2 ^ 4
            omega
          · show q0 + 1 + xss.length ≤ mx (q0 + 1 + xss.length) (q0 + 1)
            exact le_mx_l _ _
        clear hlp hqq
        rcases hr with ⟨z, M', e', hi, q, hs, rfl, hst, w1, w2, w3⟩ | ⟨M', e', hi, q, hs, rfl, hst, w1, w2, w3⟩
        · subst e1
          obtain ⟨hz, hb3⟩ := settle_Zed 4 (Zed.start h1) hst
          have hzl : 0 < z.length ∧ z.length ≤ 8 := by have := hz.len; omega
          rw [hst]
          obtain ⟨hp, hp1⟩ := plc_lt (n := z.length) (by omega) x
          obtain ⟨p, hpe⟩ : ∃ p, p = plc z.length x := ⟨_, rfl⟩
          rw [← hpe] at hp hp1
          have hsm := (hz.small h1).2 p hp
          clear hz hb3 hst o1 o2 o3 d1 hsx hext hle htk hso0
          simp only [bkt, hp1, Int.toNat_natCast]
          have o4 := den_l16Place (X := X) (L := L) (k + 3) M' x z.length (by omega)
          rw [hp1] at o4
          have hpi : (p : Int) < (z.length : Int) := by omega
          have hlq := w2.live
          have hhl := w2.len
          have hqM : q < M'.length := lt_of_get w2.hdr
          have hlq2 : ∀ l, live (M' ++ l) q z.length = some ⟨hs, 30, 1, true⟩ := fun l => live_grow hlq
          have hset : ∀ l W, (M' ++ l).set q W = M'.set q W ++ l := fun l W => List.set_append_left _ _ hqM
          have hw0 : m.length - q = 0 := by have := w2.q1; omega
          obtain ⟨cp, hcp, hcs⟩ := w2.han hp
          have o5 := den_l16Put (X := X) (L := L) hL (k + 3) M' cp _ x hcs (by omega)
          obtain ⟨u1, u2⟩ := w2.appNew (p := p) (b := M'.length) (xs := insL (nthL z p) x) (l := [blkI (insL (nthL z p) x)]) w1 hp rfl (Nat.le_refl _) (by rw [get_app0]; rfl)
          generalize insL (nthL z p) x = ins at o5 u1 u2 ⊢
          simp (maxSteps := 1000000) (implicitDefEqProofs := false) (disch := omega) [-getElem?_pos, -fin, c_spec_SetAdd, hpi, o4, o5, hlq, hlq2, hhl, hcp, hset, hw0]
          have u3 := u1.cut (a := mx m.length (mx (mx e' (M'.length + 1)) (q + 1))) (by simp only [mx_eq]; omega)
          have u4 := u3.so
          rw [setN_len] at u4
          exact fin_sety (u2.cut (le_mx_l _ _)) u4 u3.hm (by simp only [mx_eq]; omega)
        · subst e1
          rw [hst]
          simp (maxSteps := 1000000) (implicitDefEqProofs := false) (disch := omega) [-getElem?_pos, -fin]
          exact fin_sety w1 w2.so w2.hm w3
theorem den_FnExactSetAdd (hL : 4000000 ≤ L) (k : Nat) (m : List Blk) (v : C) (xss : List (List Int)) (x : Int) (hv : SS m v xss) (hb : xss.length ≤ 9223372036854775807) (hbs : ∀ xs ∈ xss, xs.length ≤ 9223372036854775807) :
    den T libX L (k + 6) 13 [.c v, vi x] m = some ⟨vb true, m, 0, 0⟩ := by
  rw [den_eq T_13]
  have hsz := den_szIntSS (X := libX) (L := L) (by omega) (k + 3) m v xss 1048576 hv hb hbs (by omega)
  by_cases h0 : szSS xss 1048576 < 0
  · simp (maxSteps := 1000000) (implicitDefEqProofs := false) (disch := omega) [-getElem?_pos, c_laws_FnExactSetAdd, hsz, h0]
  · obtain ⟨b1, b2, _⟩ := sz_ok (xss := xss) (left := 1048576) (by omega) (by omega) (by omega)
    have bt := sz_tot (xss := xss) (left := 1048576) (by omega) (by omega)
    obtain ⟨y1, y2, yt⟩ := setAdd_b (x := x) b1 b2 (by omega)
    obtain ⟨M1, e1, d1, x1, s1⟩ := toSO (X := libX) (L := L) (by omega) (k + 3) m v xss hv b1 b2
    obtain ⟨M2, w, e2, d2, x2, ow, _⟩ := spec_SetAdd (X := libX) (L := L) (by omega) k M1 _ xss x s1.ssa b1 b2
    obtain ⟨M3, e3, d3, x3, s3⟩ := toSO (X := libX) (L := L) (by omega) (k + 3) M2 v xss ((x1.trans x2).ss hv) b1 b2
    obtain ⟨M4, g, e4, d4, x4, og, _⟩ := impl_SetAdd (L := L) (by omega) (k + 1) M3 _ xss x s3.ssa b1 b2
    have ow4 := (x3.trans x4).so (Nat.le_refl _) ow
    have q1 := den_eqIntSS (X := libX) (L := L) (by omega) (k + 3) M4 g w _ _ og.ss ow4.ss y1 y2
    have x14 : Ext m M4 := x1.trans (x2.trans (x3.trans x4))
    obtain ⟨M5, e5, d5, x5, s5⟩ := toSO (X := libX) (L := L) (by omega) (k + 3) M4 v xss (x14.ss hv) b1 b2
    have s35 := (x4.trans x5).so (Nat.le_refl _) s3
    have q2 := den_eqIntSS (X := libX) (L := L) (by omega) (k + 3) M5 _ _ xss xss s35.ss s5.ss b1 b2
    have l3 := x4.len
    have l5 := x5.len
    have l2 := x3.len
    have l1 := x2.len
    have l0 := x1.len
    obtain ⟨M6, W6, d6, w6, n6, a6, _⟩ := s35.mark (X := libX) (L := L) (by omega) (k + 3) (by omega) b1 b2 (c0 := 1) (by omega) (by omega)
    have ow6 : SO M6 M1.length M2.length w (setAdd xss x).1 := (x5.so (by omega) ow4).congr fun q _ h2 => a6 q (.inl (by omega))
    have og6 : SO M6 M3.length M4.length g (setAdd xss x).1 := (x5.so (Nat.le_refl _) og).congr fun q h1 h2 => a6 q (.inr (by omega))
    have q3 := den_eqIntSS (X := libX) (L := L) (by omega) (k + 3) M6 g w _ _ og6.ss ow6.ss y1 y2
    obtain ⟨M7, W7, d7, w7, n7, a7, og7⟩ := og6.mark (X := libX) (L := L) (by omega) (k + 3) (by omega) y1 y2 (c0 := 1) (by omega) yt
    have q4 := den_heldIntSS (X := libX) (L := L) (by omega) (k + 3) M7 g _ 1 og7.ss y1 y2 (by omega) yt
    have x7 : Ext m M7 := Ext.of (by omega) fun q hq => by
      rw [a7 q (.inl (by omega)), a6 q (.inl (by omega))]
      exact (x14.trans x5).get hq
    have ow7 : SO M7 M1.length M2.length w (setAdd xss x).1 := ow6.congr fun q h1 h2 => a7 q (.inl (by omega))
    obtain ⟨M8, e8, d8, x8, s8⟩ := toSO (X := libX) (L := L) (by omega) (k + 3) M7 v xss (x7.ss hv) b1 b2
    obtain ⟨M9, h, e9, d9, x9, oh, _⟩ := impl_SetAdd (L := L) (by omega) (k + 1) M8 _ xss x s8.ssa b1 b2
    have q5 := den_eqIntSS (X := libX) (L := L) (by omega) (k + 3) M9 h w _ _ oh.ss ((x8.trans x9).so (by omega) ow7).ss y1 y2
    have q6 := den_heldIntSS (X := libX) (L := L) (by omega) (k + 3) M9 g _ 1 ((x8.trans x9).so (by omega) og7).ss y1 y2 (by omega) yt
    have f1 := (x7.trans (x8.trans x9)).fin
    have z6 : W6 - (M5.length - m.length) = 0 := by omega
    have z7 : W7 - (M6.length - m.length) = 0 := by omega
    have t1 : ¬ (1 : Int) + (tot xss : Int) < 0 := by omega
    have t2 : ¬ (1 : Int) + (tot (setAdd xss x).1 : Int) < 0 := by omega
    simp only [decide_true] at q1 q2 q3 q5
    simp (maxSteps := 1000000) (implicitDefEqProofs := false) (disch := omega) [-getElem?_pos, c_laws_FnExactSetAdd, hsz, h0, d1, d2, d3, d4, d5, d6, d7, d8, d9, q1, q2, q3, q4, q5, q6, z6, z7, t1, t2, f1]
end Go.Proofs.Ytkoloapgeilbdaa
