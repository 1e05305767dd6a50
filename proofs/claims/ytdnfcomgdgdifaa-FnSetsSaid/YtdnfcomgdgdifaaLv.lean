/-
  The law FnSets: its calls put together.
-/
import Derived.Test.YtdnfcomgdgdifaaLs
set_option linter.unusedVariables false
set_option linter.unusedSimpArgs false
set_option maxHeartbeats 4000000
set_option maxRecDepth 100000
namespace Go.Proofs.Ytdnfcomgdgdifaa
variable {X : FuncId → List V → List Blk → Option Ret} {L : Nat}

theorem new_ext (M : List Blk) : Ext M (M ++ [⟨[], 3, 1, true⟩, ⟨[.sl M.length 0 0 0], 28, 1, true⟩]) := ⟨_, rfl⟩
theorem new_kp (M : List Blk) (e : Nat) : Kp (M ++ [⟨[], 3, 1, true⟩, ⟨[.sl M.length 0 0 0], 28, 1, true⟩]) e (.sl (M.length + 1) 0 1 1) [[]] := by
  refine ⟨OkS.new, M.length + 2, ?_, by simp only [mx_eq, C.refs]; omega, by simp⟩
  refine ⟨M.length + 1, [.sl M.length 0 0 0], fun _ => M.length, Nat.zero_le _, by omega, rfl, ?_, rfl, fun i j hi hj _ => ?_, fun j hj => ?_⟩
  · rw [List.getElem?_append_right (by omega), show M.length + 1 - M.length = 1 by omega]; rfl
  · simp at hi hj; omega
  · have : j = 0 := by simp at hj; omega
    subst this
    refine ⟨_, rfl, .inr ⟨[], rfl, Nat.zero_le _, by show M.length < _; omega, by show M.length ≠ _; omega, ?_, Nat.zero_le _, fun i hi => by simp [nthL] at hi⟩⟩
    rw [List.getElem?_append_right (Nat.le_refl _), Nat.sub_self]; rfl
theorem den_FnSets (hL : 4000000 ≤ L) (k : Nat) (m : List Blk) (c : C) (bs : List Int) (hs : SlB m c bs) :
    den T libX L (k + 10) 8 [.c c] m = some ⟨vb true, m, 0, 0⟩ := by
  rw [den_eq T_8]
  have hbig := den_big (X := libX) (L := L) (k + 8) m c bs hs
  by_cases hb : bs.length > 1048576
  · rw [decide_eq_true hb] at hbig
    simp (maxSteps := 1000000) (implicitDefEqProofs := false) (disch := omega) [-getElem?_pos, c_laws_FnSets, hbig]
  · rw [decide_eq_false hb] at hbig
    replace hb : bs.length ≤ 1048576 := by omega
    obtain ⟨z, M1, v, e1, d1, hz, x1, so1, a1⟩ := den_DrawSet (X := libX) (L := L) (by omega) k m c bs hs hb
    have hzb := hz.bd
    have b1 : z.length ≤ 1048576 := by omega
    have b2 : ∀ xs ∈ z, xs.length ≤ 1048576 := fun xs hx => by have := hzb.2.1 xs hx; omega
    obtain ⟨cl, M2, bj, d2, x2, ob2⟩ := impl_SetList_ob (L := L) (by omega) (k + 5) M1 v z so1.ssa b1 b2 (by omega)
    have d3 := den_impl_SetOk (X := libX) (L := L) (by omega) (k + 6) M2 v z (x2.ssa so1.ssa).ss b1 b2
    rw [setOk_OkS.2 hz] at d3
    generalize hd : runF _ _ _ _ _ = d
    simp (maxSteps := 1000000) (implicitDefEqProofs := false) (disch := first | omega | (simp [get_app, get_app0]; done) | rfl | (simp only [List.length_cons, List.length_append, List.length_take, List.length_drop, List.length_nil]; omega)) [-getElem?_pos, c_laws_FnSets, hbig, d1, d2, d3] at hd
    obtain ⟨K, hK⟩ : ∃ K, K = mx m.length (mx e1 (mx c.refs (mx v.refs cl.refs))) := ⟨_, rfl⟩
    have hk1 : M1.length ≤ K := by rw [hK]; simp only [mx_eq] at a1 ⊢; omega
    have hk2 : cl.refs ≤ K := by rw [hK]; simp only [mx_eq]; omega
    rw [lp0 (M := M2.take K) (e := e1) (z := z) (cl := cl) hL k hz (by
      exact ((x2.cut hk1).ssa so1.ssa).ss) (ob_take ob2 hk2) (by rw [List.take_take, ← hK, Nat.min_self]) _ (by rw [hK]; simp (maxSteps := 1000000) (implicitDefEqProofs := false) (disch := omega) [-getElem?_pos, ])] at hd
    have x13 := x2.cut hk1
    have l3 := ob_take ob2 hk2
    clear ob2 d1 d2 d3 hk2
    generalize M2.take K = M3 at hd x13 l3
    have x03 := x1.trans x13
    have ssa3 := x13.ssa so1.ssa
    have eat : den T libX L (k + 9) 17 [.c c, vi 1] M3 = some ⟨vi (atB bs 1), M3, 0, 0⟩ := den_at (X := libX) (k + 8) M3 c bs (x03.slb hs) hb 1 (by omega)
    have ha1 := atB_in hs 1
    generalize atB bs 1 = v1 at eat ha1
    obtain ⟨key, hkey, hkey2, hk0⟩ : ∃ key : Int, v1.tmod 60 = key ∧ v1 % 60 = key ∧ 0 ≤ key ∧ key ≤ 59 := ⟨v1 % 60, Int.tmod_eq_emod_of_nonneg ha1.1, rfl, by omega, by omega⟩
    obtain ⟨M4, c4, e4, d4, x34, so4, a4⟩ := impl_SetAdd (L := L) (by omega) (k + 5) M3 v z (key - 20) ssa3 b1 b2
    have R := setAdd_R hz (key - 20)
    have hw := R.ok hz
    generalize (setAdd z (key - 20)).1 = w at d4 so4 R hw
    generalize (setAdd z (key - 20)).2 = cd at d4 R
    have hwb := hw.bd
    have w1 : w.length ≤ 1048576 := by omega
    have w2 : ∀ xs ∈ w, xs.length ≤ 1048576 := fun xs hx => by have := hwb.2.1 xs hx; omega
    have ssaz4 := x34.ssa ssa3
    have p1 := den_impl_SetHas16 (X := libX) (L := L) (by omega) (k + 5) M4 c4 w (key - 20) so4.ss w1 w2
    have hlen : (setL z).length ≤ 24 := by rw [hz.lst, (srt_perm _).length_eq, tot_flatten]; omega
    have p2 := den_within (X := libX) (L := L) (k + 8) M4 cl (setL z) (key - 20) (by obtain ⟨l, rfl⟩ := x34; exact l3.grow) (by omega) (by omega)
    have p3 := den_impl_SetOk (X := libX) (L := L) (by omega) (k + 6) M4 c4 w so4.ss w1 w2
    have p4 := den_impl_SetSame (L := L) (by omega) (k + 5) M4 c4 v w z so4.ssa ssaz4 w1 w2 b1 b2
    rw [setOk_OkS.2 hw] at p1 p3
    rw [Bool.true_and] at p1
    obtain ⟨M5, c5, e5, d5, x45, so5⟩ := impl_SetDrop (X := libX) (L := L) (by omega) (k + 5) M4 c4 w (key - 20) so4.ssa w1 w2
    have D := setDrop_R hw (key - 20)
    have hu := D.ok hw
    generalize (setDrop w (key - 20)).1 = u at d5 so5 D hu
    generalize (setDrop w (key - 20)).2 = dd at d5 D
    have hub := hu.bd
    have u1 : u.length ≤ 1048576 := by omega
    have u2 : ∀ xs ∈ u, xs.length ≤ 1048576 := fun xs hx => by have := hub.2.1 xs hx; omega
    have p5 := den_impl_SetHas16 (X := libX) (L := L) (by omega) (k + 5) M5 c5 u (key - 20) so5.ss u1 u2
    rw [setOk_OkS.2 hu, Bool.true_and] at p5
    obtain ⟨cu, M6, bu, d6, x56, ou⟩ := impl_SetList_ob (L := L) (by omega) (k + 5) M5 c5 u so5.ssa u1 u2 (by omega)
    have ssaw6 := (x45.trans x56).ssa so4.ssa
    obtain ⟨cw, M7, bw, d7, x67, ow⟩ := impl_SetList_ob (L := L) (by omega) (k + 5) M6 c4 w ssaw6 w1 w2 (by omega)
    have lu := (x67.ob (Nat.le_refl _) ou).sl.lenV
    have lu6 := ou.sl.lenV
    have hul : (setL u).length ≤ 24 := by rw [hu.lst, (srt_perm _).length_eq, tot_flatten]; omega
    have hwl : (setL w).length ≤ 24 := by rw [hw.lst, (srt_perm _).length_eq, tot_flatten]; omega
    have lw := ow.sl.lenV
    have p6 := fun M (h : SSA M c5 u) (h2 : SSA M v z) => den_impl_SetSame (L := L) (by omega) (k + 5) M c5 v u z h h2 u1 u2 b1 b2
    have p65 := p6 M5 so5.ssa (x45.ssa ssaz4)
    have p67 := p6 M7 ((x56.trans x67).ssa so5.ssa) ((x45.trans (x56.trans x67)).ssa ssaz4)
    clear p6
    have hlist : ∀ y, y ∈ setL z ↔ y ∈ z.flatten := fun y => by rw [hz.lst, srt_mem]
    have hsz : setSame z z = true := hz.same hz fun _ => Iff.rfl
    have hadd : (cd = 0 ∧ setHas w (key - 20) = true ∧ decide (key - 20 ∈ setL z) = false ∧ isVal (key - 20) = true ∧ ∀ y, y ∈ w.flatten ↔ y = key - 20 ∨ y ∈ z.flatten) ∨ (cd = 2 ∧ w = z ∧ decide (key - 20 ∈ setL z) = true) ∨ ((cd = 1 ∨ cd = 3) ∧ w = z ∧ decide (key - 20 ∈ setL z) = false) := by
      cases R with
      | bad h => exact .inr (.inr ⟨.inl rfl, rfl, decide_eq_false fun hc => by rw [hz.isv ((hlist _).1 hc)] at h; cases h⟩)
      | two h _ => exact .inr (.inl ⟨rfl, rfl, decide_eq_true ((hlist _).2 h)⟩)
      | full h => exact .inr (.inr ⟨.inr rfl, rfl, decide_eq_false fun hc => h ((hlist _).1 hc)⟩)
      | new h1 h2 h3 h4 => exact .inl ⟨rfl, hw.has.2 ((h4 _).2 (.inl rfl)), decide_eq_false fun hc => h1 ((hlist _).1 hc), h2, h4⟩
    have hdrop : (dd = 0 ∧ setHas u (key - 20) = false ∧ (setL w).length = (setL u).length + 1 ∧ ∀ y, y ∈ u.flatten ↔ y ∈ w.flatten ∧ y ≠ key - 20) ∨ (dd = 1 ∧ isVal (key - 20) = false) ∨ (dd = 4 ∧ setHas w (key - 20) = false) := by
      cases D with
      | bad h => exact .inr (.inl ⟨rfl, h⟩)
      | none h => exact .inr (.inr ⟨rfl, by cases hc : setHas w (key - 20) with | false => rfl | true => exact absurd (hw.has.1 hc) h⟩)
      | out h1 h2 h3 => exact .inl ⟨rfl, by cases hc : setHas u (key - 20) with | false => rfl | true => exact absurd rfl ((h3 _).1 (hu.has.1 hc)).2, hw.len1 hu h1 h3, h3⟩
    clear R D
    have hsame : (∀ y, y ∈ u.flatten ↔ y ∈ z.flatten) → setSame u z = true := hu.same hz
    have hcase : (cd = 0 ∧ dd = 0 ∧ setSame u z = true ∧ setHas w (key - 20) = true ∧ decide (key - 20 ∈ setL z) = false ∧ setHas u (key - 20) = false ∧ ((setL w).length : Int) - 1 = (setL u).length) ∨
        (cd ≠ 0 ∧ setSame w z = true ∧ decide (key - 20 ∈ setL z) = decide (cd = 2) ∧ dd = 0 ∧ setHas u (key - 20) = false ∧ ((setL w).length : Int) - 1 = (setL u).length) ∨ (cd ≠ 0 ∧ setSame w z = true ∧ decide (key - 20 ∈ setL z) = decide (cd = 2) ∧ dd ≠ 0) := by
      have hnx : key - 20 ∈ setL z ↔ key - 20 ∈ z.flatten := hlist _
      rcases hadd with ⟨rfl, h1, h2, h3, h4⟩ | ⟨rfl, rfl, h2⟩ | ⟨h1, rfl, h2⟩
      · rcases hdrop with ⟨rfl, h5, h6, h7⟩ | ⟨_, h5⟩ | ⟨_, h5⟩
        · refine .inl ⟨rfl, rfl, hsame fun y => ?_, h1, h2, h5, by omega⟩
          rw [h7, h4]
          have hn : key - 20 ∉ z.flatten := fun hc => by rw [decide_eq_true (hnx.2 hc)] at h2; cases h2
          constructor
          · rintro ⟨h | h, h'⟩
            · exact absurd h h'
            · exact h
          · intro h
            exact ⟨.inr h, fun e => hn (e ▸ h)⟩
        · rw [h3] at h5; cases h5
        · rw [h1] at h5; cases h5
      · rcases hdrop with ⟨rfl, h5, h6, h7⟩ | ⟨rfl, h5⟩ | ⟨rfl, h5⟩
        · exact .inr (.inl ⟨by omega, hsz, by rw [h2]; rfl, rfl, h5, by omega⟩)
        · exact .inr (.inr ⟨by omega, hsz, by rw [h2]; rfl, by omega⟩)
        · exact .inr (.inr ⟨by omega, hsz, by rw [h2]; rfl, by omega⟩)
      · have h8 : decide (cd = 2) = false := decide_eq_false (by omega)
        rcases hdrop with ⟨rfl, h5, h6, h7⟩ | ⟨rfl, h5⟩ | ⟨rfl, h5⟩
        · exact .inr (.inl ⟨by omega, hsz, by rw [h2, h8], rfl, h5, by omega⟩)
        · exact .inr (.inr ⟨by omega, hsz, by rw [h2, h8], by omega⟩)
        · exact .inr (.inr ⟨by omega, hsz, by rw [h2, h8], by omega⟩)
    have hnew := fun M => den_impl_NewSet (X := libX) (L := L) (k + 8) M
    clear hadd hdrop hsame hlist
    rcases hcase with ⟨rfl, rfl, h1, h2, h3, h4, h5⟩ | ⟨h1, h2, h3, rfl, h4, h5⟩ | ⟨h1, h2, h3, h4⟩
    · rw [h2] at p1; rw [h3] at p2; rw [h4] at p5; rw [h1] at p65 p67
      simp (maxSteps := 1000000) (implicitDefEqProofs := false) (disch := first | omega | (simp [get_app, get_app0]; done) | rfl | (simp only [List.length_cons, List.length_append, List.length_take, List.length_drop, List.length_nil]; omega)) [-getElem?_pos, eat, hkey, hkey2, d4, p1, p2, p3, d5, p5, d6, d7, lu, lu6, lw, h5, p65, p67, hnew] at hd
      have x1x : Ext M1 M7 := x13.trans (x34.trans (x45.trans (x56.trans x67)))
      have xmx : Ext m M7 := x1.trans x1x
      have lx := sl_ext l3 ((x34.trans (x45.trans (x56.trans x67))))
      obtain ⟨E, hE⟩ : ∃ E, E = mx (mx (mx e1 e4) e5) (M7.length + 1) := ⟨_, rfl⟩
      have kv := (Kp.of hz so1 a1).mono (x1x.trans (new_ext M7)) (show e1 ≤ E by rw [hE]; simp only [mx_eq]; omega)
      have ky := new_kp M7 E
      have ls0 := sl_ext lx (new_ext M7)
      have xm0 := xmx.trans (new_ext M7)
      generalize hq : blkC m.length 2 _ (iter _ _ _ _) = q at hd
      obtain ⟨_, hq', M8, e8, c11, y, rfl, x8, kv8, l8, ky8⟩ : ∃ r, q = some r ∧ ∃ M' e' c11' y', r = (Ex.norm, ⟨[(3, .c v), (4, .c cl), (11, .c c11')], M', e', 0⟩) ∧ Ext m M' ∧ Kp M' e' v z ∧ Sl M' cl (setL z) ∧ Kp M' e' c11' y' := by
        rw [← hq]
        refine lp2 hL k hs hb xm0 kv ls0 ky _ ?_
        simp (maxSteps := 1000000) (implicitDefEqProofs := false) (disch := omega) [-getElem?_pos, -C.refs, hE]
        refine List.take_of_length_le ?_
        simp [mx_eq, C.refs]
        omega
      subst hq'
      clear hq kv ky ls0 xm0 lx xmx x1x hE
      obtain ⟨M9, c9, e9, d9, x9, so9, a9⟩ := impl_SetJoin (L := L) (by omega) (k + 4) M8 v c11 z y kv8.ssa ky8.ssa kv8.b.2.2.2 ky8.b.2.2.2
      have J := setJoin_R hz ky8.ok
      generalize (setJoin z y).1 = j at d9 so9 J
      generalize (setJoin z y).2 = jc at d9 J
      have xm9 := x8.trans x9
      cases J with
      | full =>
        have p8 := den_impl_SetSame (L := L) (by omega) (k + 5) M9 c9 v z z so9.ssa (x9.ssa kv8.ssa) b1 b2 b1 b2
        rw [hsz] at p8
        simp (maxSteps := 1000000) (implicitDefEqProofs := false) (disch := first | omega | (simp [get_app, get_app0]; done) | rfl | (simp only [List.length_cons, List.length_append, List.length_take, List.length_drop, List.length_nil]; omega)) [-getElem?_pos, d9, p8, xm9.fin] at hd
        exact hd.symm
      | all hj g1 g2 =>
        have hjb := hj.bd
        have j1 : j.length ≤ 1048576 := by omega
        have j2 : ∀ xs ∈ j, xs.length ≤ 1048576 := fun xs hx => by have := hjb.2.1 xs hx; omega
        obtain ⟨lj, M10, bj2, d10, x10, oj⟩ := impl_SetList_ob (L := L) (by omega) (k + 5) M9 c9 j so9.ssa j1 j2 (by omega)
        have hjl : (setL j).length ≤ 24 := by rw [hj.lst, (srt_perm _).length_eq, tot_flatten]; omega
        simp (maxSteps := 1000000) (implicitDefEqProofs := false) (disch := first | omega | (simp [get_app, get_app0]; done) | rfl | (simp only [List.length_cons, List.length_append, List.length_take, List.length_drop, List.length_nil]; omega)) [-getElem?_pos, -C.refs, d9, d10] at hd
        obtain ⟨K', hK'⟩ : ∃ K, K = mx m.length (mx (mx e8 e9) (mx v.refs (mx cl.refs (mx c11.refs (mx c9.refs lj.refs))))) := ⟨_, rfl⟩
        have hci : ∀ n : Int, (C.int .i64 n).refs = 0 := fun _ => rfl
        have hk1 : M9.length ≤ K' := by rw [hK']; simp only [mx_eq] at a9 ⊢; omega
        have hk2 : lj.refs ≤ K' := by rw [hK']; simp only [mx_eq]; omega
        have hk3 : cl.refs ≤ K' := by rw [hK']; simp only [mx_eq]; omega
        have x911 := x10.cut hk1
        have lj11 := ob_take oj hk2
        have lc11 := sl_cut (sl_ext (sl_ext l8 x9) x10) hk3
        have hm4 : ∀ x ∈ setL j, x ∈ z.flatten ∨ x ∈ y.flatten := fun x hx => g1 x (srt_mem.1 (by rw [hj.lst] at hx; exact hx))
        have hm6 : ∀ x ∈ setL z, x ∈ setL j := fun x hx => by rw [hz.lst, srt_mem] at hx; rw [hj.lst, srt_mem]; exact g2 x hx
        rw [lp4 (M := M10.take K') (e := mx e8 e9) (z := z) (y := y) (l := setL j) (cl := cl) (cj := c9) (lj := lj) (v := v) (c11 := c11) hL k hz ky8.ok (x911.ssa (x9.ssa kv8.ssa)).ss (x911.ssa (x9.ssa ky8.ssa)).ss lj11 hjl hm4 (by rw [List.take_take, ← hK', Nat.min_self]) _ (by rw [hK']; simp (maxSteps := 1000000) (implicitDefEqProofs := false) (disch := omega) [-getElem?_pos, -C.refs, hci])] at hd
        generalize hM12 : List.take (mx m.length (mx (mx e8 e9) (mx cl.refs (mx c9.refs lj.refs)))) (List.take K' M10) = M12 at hd
        have x12 : Ext M9 M12 := by rw [← hM12]; exact x911.cut (by simp only [mx_eq] at a9 ⊢; omega)
        have lj12 : Sl M12 lj (setL j) := by rw [← hM12]; exact sl_cut lj11 (by simp only [mx_eq]; omega)
        have lc12 : Sl M12 cl (setL z) := by rw [← hM12]; exact sl_cut lc11 (by simp only [mx_eq]; omega)
        have hfix : List.take (mx m.length (mx (mx e8 e9) (mx cl.refs (mx c9.refs lj.refs)))) M12 = M12 := by rw [← hM12, List.take_take, Nat.min_self]
        simp (maxSteps := 1000000) (implicitDefEqProofs := false) (disch := first | omega | (simp [get_app, get_app0]; done) | rfl | (simp only [List.length_cons, List.length_append, List.length_take, List.length_drop, List.length_nil]; omega)) [-getElem?_pos, -C.refs] at hd
        rw [lp6 (M := M12) (e := mx e8 e9) (cl := cl) (cj := c9) (lj := lj) hL k lc12 lj12 hlen hjl hm6 hfix _ (by simp (maxSteps := 1000000) (implicitDefEqProofs := false) (disch := omega) [-getElem?_pos, -C.refs, hci, hfix])] at hd
        generalize hM13 : List.take (mx m.length (mx (mx e8 e9) c9.refs)) M12 = M13 at hd
        have x13' : Ext M9 M13 := by rw [← hM13]; exact x12.cut (by simp only [mx_eq] at a9 ⊢; omega)
        have p9 := den_impl_SetSame (L := L) (by omega) (k + 5) M13 c9 c9 j j (x13'.ssa so9.ssa) (x13'.ssa so9.ssa) j1 j2 j1 j2
        rw [hj.same hj fun _ => Iff.rfl] at p9
        have kn := new_kp M13 0
        obtain ⟨ln, M14, bn, d14, x14, on⟩ := impl_SetList_ob (L := L) (by omega) (k + 5) _ (.sl (M13.length + 1) 0 1 1) [[]] kn.ssa kn.b.1 kn.b.2.1 kn.b.2.2.1
        have ll := on.sl.lenV
        have hl0 : (setL [[]]).length = 0 := by rw [OkS.new.lst, (srt_perm _).length_eq]; rfl
        rw [hl0] at ll
        have xf := (xm9.trans (x13'.trans ((new_ext M13).trans x14))).fin
        simp (maxSteps := 1000000) (implicitDefEqProofs := false) (disch := first | omega | (simp [get_app, get_app0]; done) | rfl | (simp only [List.length_cons, List.length_append, List.length_take, List.length_drop, List.length_nil]; omega)) [-getElem?_pos, -C.refs, p9, hnew, d14, ll, xf] at hd
        exact hd.symm
    · rw [h2] at p4; rw [h3] at p2; rw [h4] at p5
      simp (maxSteps := 1000000) (implicitDefEqProofs := false) (disch := first | omega | (simp [get_app, get_app0]; done) | rfl | (simp only [List.length_cons, List.length_append, List.length_take, List.length_drop, List.length_nil]; omega)) [-getElem?_pos, eat, hkey, hkey2, d4, h1, p2, p3, p4, d5, p5, d6, d7, lu, lu6, lw, h5, hnew] at hd
      have x1x : Ext M1 M7 := x13.trans (x34.trans (x45.trans (x56.trans x67)))
      have xmx : Ext m M7 := x1.trans x1x
      have lx := sl_ext l3 ((x34.trans (x45.trans (x56.trans x67))))
      obtain ⟨E, hE⟩ : ∃ E, E = mx (mx (mx e1 e4) e5) (M7.length + 1) := ⟨_, rfl⟩
      have kv := (Kp.of hz so1 a1).mono (x1x.trans (new_ext M7)) (show e1 ≤ E by rw [hE]; simp only [mx_eq]; omega)
      have ky := new_kp M7 E
      have ls0 := sl_ext lx (new_ext M7)
      have xm0 := xmx.trans (new_ext M7)
      generalize hq : blkC m.length 2 _ (iter _ _ _ _) = q at hd
      obtain ⟨_, hq', M8, e8, c11, y, rfl, x8, kv8, l8, ky8⟩ : ∃ r, q = some r ∧ ∃ M' e' c11' y', r = (Ex.norm, ⟨[(3, .c v), (4, .c cl), (11, .c c11')], M', e', 0⟩) ∧ Ext m M' ∧ Kp M' e' v z ∧ Sl M' cl (setL z) ∧ Kp M' e' c11' y' := by
        rw [← hq]
        refine lp2 hL k hs hb xm0 kv ls0 ky _ ?_
        simp (maxSteps := 1000000) (implicitDefEqProofs := false) (disch := omega) [-getElem?_pos, -C.refs, hE]
        refine List.take_of_length_le ?_
        simp [mx_eq, C.refs]
        omega
      subst hq'
      clear hq kv ky ls0 xm0 lx xmx x1x hE
      obtain ⟨M9, c9, e9, d9, x9, so9, a9⟩ := impl_SetJoin (L := L) (by omega) (k + 4) M8 v c11 z y kv8.ssa ky8.ssa kv8.b.2.2.2 ky8.b.2.2.2
      have J := setJoin_R hz ky8.ok
      generalize (setJoin z y).1 = j at d9 so9 J
      generalize (setJoin z y).2 = jc at d9 J
      have xm9 := x8.trans x9
      cases J with
      | full =>
        have p8 := den_impl_SetSame (L := L) (by omega) (k + 5) M9 c9 v z z so9.ssa (x9.ssa kv8.ssa) b1 b2 b1 b2
        rw [hsz] at p8
        simp (maxSteps := 1000000) (implicitDefEqProofs := false) (disch := first | omega | (simp [get_app, get_app0]; done) | rfl | (simp only [List.length_cons, List.length_append, List.length_take, List.length_drop, List.length_nil]; omega)) [-getElem?_pos, d9, p8, xm9.fin] at hd
        exact hd.symm
      | all hj g1 g2 =>
        have hjb := hj.bd
        have j1 : j.length ≤ 1048576 := by omega
        have j2 : ∀ xs ∈ j, xs.length ≤ 1048576 := fun xs hx => by have := hjb.2.1 xs hx; omega
        obtain ⟨lj, M10, bj2, d10, x10, oj⟩ := impl_SetList_ob (L := L) (by omega) (k + 5) M9 c9 j so9.ssa j1 j2 (by omega)
        have hjl : (setL j).length ≤ 24 := by rw [hj.lst, (srt_perm _).length_eq, tot_flatten]; omega
        simp (maxSteps := 1000000) (implicitDefEqProofs := false) (disch := first | omega | (simp [get_app, get_app0]; done) | rfl | (simp only [List.length_cons, List.length_append, List.length_take, List.length_drop, List.length_nil]; omega)) [-getElem?_pos, -C.refs, d9, d10] at hd
        obtain ⟨K', hK'⟩ : ∃ K, K = mx m.length (mx (mx e8 e9) (mx v.refs (mx cl.refs (mx c11.refs (mx c9.refs lj.refs))))) := ⟨_, rfl⟩
        have hci : ∀ n : Int, (C.int .i64 n).refs = 0 := fun _ => rfl
        have hk1 : M9.length ≤ K' := by rw [hK']; simp only [mx_eq] at a9 ⊢; omega
        have hk2 : lj.refs ≤ K' := by rw [hK']; simp only [mx_eq]; omega
        have hk3 : cl.refs ≤ K' := by rw [hK']; simp only [mx_eq]; omega
        have x911 := x10.cut hk1
        have lj11 := ob_take oj hk2
        have lc11 := sl_cut (sl_ext (sl_ext l8 x9) x10) hk3
        have hm4 : ∀ x ∈ setL j, x ∈ z.flatten ∨ x ∈ y.flatten := fun x hx => g1 x (srt_mem.1 (by rw [hj.lst] at hx; exact hx))
        have hm6 : ∀ x ∈ setL z, x ∈ setL j := fun x hx => by rw [hz.lst, srt_mem] at hx; rw [hj.lst, srt_mem]; exact g2 x hx
        rw [lp4 (M := M10.take K') (e := mx e8 e9) (z := z) (y := y) (l := setL j) (cl := cl) (cj := c9) (lj := lj) (v := v) (c11 := c11) hL k hz ky8.ok (x911.ssa (x9.ssa kv8.ssa)).ss (x911.ssa (x9.ssa ky8.ssa)).ss lj11 hjl hm4 (by rw [List.take_take, ← hK', Nat.min_self]) _ (by rw [hK']; simp (maxSteps := 1000000) (implicitDefEqProofs := false) (disch := omega) [-getElem?_pos, -C.refs, hci])] at hd
        generalize hM12 : List.take (mx m.length (mx (mx e8 e9) (mx cl.refs (mx c9.refs lj.refs)))) (List.take K' M10) = M12 at hd
        have x12 : Ext M9 M12 := by rw [← hM12]; exact x911.cut (by simp only [mx_eq] at a9 ⊢; omega)
        have lj12 : Sl M12 lj (setL j) := by rw [← hM12]; exact sl_cut lj11 (by simp only [mx_eq]; omega)
        have lc12 : Sl M12 cl (setL z) := by rw [← hM12]; exact sl_cut lc11 (by simp only [mx_eq]; omega)
        have hfix : List.take (mx m.length (mx (mx e8 e9) (mx cl.refs (mx c9.refs lj.refs)))) M12 = M12 := by rw [← hM12, List.take_take, Nat.min_self]
        simp (maxSteps := 1000000) (implicitDefEqProofs := false) (disch := first | omega | (simp [get_app, get_app0]; done) | rfl | (simp only [List.length_cons, List.length_append, List.length_take, List.length_drop, List.length_nil]; omega)) [-getElem?_pos, -C.refs] at hd
        rw [lp6 (M := M12) (e := mx e8 e9) (cl := cl) (cj := c9) (lj := lj) hL k lc12 lj12 hlen hjl hm6 hfix _ (by simp (maxSteps := 1000000) (implicitDefEqProofs := false) (disch := omega) [-getElem?_pos, -C.refs, hci, hfix])] at hd
        generalize hM13 : List.take (mx m.length (mx (mx e8 e9) c9.refs)) M12 = M13 at hd
        have x13' : Ext M9 M13 := by rw [← hM13]; exact x12.cut (by simp only [mx_eq] at a9 ⊢; omega)
        have p9 := den_impl_SetSame (L := L) (by omega) (k + 5) M13 c9 c9 j j (x13'.ssa so9.ssa) (x13'.ssa so9.ssa) j1 j2 j1 j2
        rw [hj.same hj fun _ => Iff.rfl] at p9
        have kn := new_kp M13 0
        obtain ⟨ln, M14, bn, d14, x14, on⟩ := impl_SetList_ob (L := L) (by omega) (k + 5) _ (.sl (M13.length + 1) 0 1 1) [[]] kn.ssa kn.b.1 kn.b.2.1 kn.b.2.2.1
        have ll := on.sl.lenV
        have hl0 : (setL [[]]).length = 0 := by rw [OkS.new.lst, (srt_perm _).length_eq]; rfl
        rw [hl0] at ll
        have xf := (xm9.trans (x13'.trans ((new_ext M13).trans x14))).fin
        simp (maxSteps := 1000000) (implicitDefEqProofs := false) (disch := first | omega | (simp [get_app, get_app0]; done) | rfl | (simp only [List.length_cons, List.length_append, List.length_take, List.length_drop, List.length_nil]; omega)) [-getElem?_pos, -C.refs, p9, hnew, d14, ll, xf] at hd
        exact hd.symm
    · rw [h2] at p4; rw [h3] at p2
      simp (maxSteps := 1000000) (implicitDefEqProofs := false) (disch := first | omega | (simp [get_app, get_app0]; done) | rfl | (simp only [List.length_cons, List.length_append, List.length_take, List.length_drop, List.length_nil]; omega)) [-getElem?_pos, eat, hkey, hkey2, d4, h1, p2, p3, p4, d5, h4, hnew] at hd
      have x1x : Ext M1 M5 := x13.trans (x34.trans x45)
      have xmx : Ext m M5 := x1.trans x1x
      have lx := sl_ext l3 ((x34.trans x45))
      obtain ⟨E, hE⟩ : ∃ E, E = mx (mx (mx e1 e4) e5) (M5.length + 1) := ⟨_, rfl⟩
      have kv := (Kp.of hz so1 a1).mono (x1x.trans (new_ext M5)) (show e1 ≤ E by rw [hE]; simp only [mx_eq]; omega)
      have ky := new_kp M5 E
      have ls0 := sl_ext lx (new_ext M5)
      have xm0 := xmx.trans (new_ext M5)
      generalize hq : blkC m.length 2 _ (iter _ _ _ _) = q at hd
      obtain ⟨_, hq', M8, e8, c11, y, rfl, x8, kv8, l8, ky8⟩ : ∃ r, q = some r ∧ ∃ M' e' c11' y', r = (Ex.norm, ⟨[(3, .c v), (4, .c cl), (11, .c c11')], M', e', 0⟩) ∧ Ext m M' ∧ Kp M' e' v z ∧ Sl M' cl (setL z) ∧ Kp M' e' c11' y' := by
        rw [← hq]
        refine lp2 hL k hs hb xm0 kv ls0 ky _ ?_
        simp (maxSteps := 1000000) (implicitDefEqProofs := false) (disch := omega) [-getElem?_pos, -C.refs, hE]
        refine List.take_of_length_le ?_
        simp [mx_eq, C.refs]
        omega
      subst hq'
      clear hq kv ky ls0 xm0 lx xmx x1x hE
      obtain ⟨M9, c9, e9, d9, x9, so9, a9⟩ := impl_SetJoin (L := L) (by omega) (k + 4) M8 v c11 z y kv8.ssa ky8.ssa kv8.b.2.2.2 ky8.b.2.2.2
      have J := setJoin_R hz ky8.ok
      generalize (setJoin z y).1 = j at d9 so9 J
      generalize (setJoin z y).2 = jc at d9 J
      have xm9 := x8.trans x9
      cases J with
      | full =>
        have p8 := den_impl_SetSame (L := L) (by omega) (k + 5) M9 c9 v z z so9.ssa (x9.ssa kv8.ssa) b1 b2 b1 b2
        rw [hsz] at p8
        simp (maxSteps := 1000000) (implicitDefEqProofs := false) (disch := first | omega | (simp [get_app, get_app0]; done) | rfl | (simp only [List.length_cons, List.length_append, List.length_take, List.length_drop, List.length_nil]; omega)) [-getElem?_pos, d9, p8, xm9.fin] at hd
        exact hd.symm
      | all hj g1 g2 =>
        have hjb := hj.bd
        have j1 : j.length ≤ 1048576 := by omega
        have j2 : ∀ xs ∈ j, xs.length ≤ 1048576 := fun xs hx => by have := hjb.2.1 xs hx; omega
        obtain ⟨lj, M10, bj2, d10, x10, oj⟩ := impl_SetList_ob (L := L) (by omega) (k + 5) M9 c9 j so9.ssa j1 j2 (by omega)
        have hjl : (setL j).length ≤ 24 := by rw [hj.lst, (srt_perm _).length_eq, tot_flatten]; omega
        simp (maxSteps := 1000000) (implicitDefEqProofs := false) (disch := first | omega | (simp [get_app, get_app0]; done) | rfl | (simp only [List.length_cons, List.length_append, List.length_take, List.length_drop, List.length_nil]; omega)) [-getElem?_pos, -C.refs, d9, d10] at hd
        obtain ⟨K', hK'⟩ : ∃ K, K = mx m.length (mx (mx e8 e9) (mx v.refs (mx cl.refs (mx c11.refs (mx c9.refs lj.refs))))) := ⟨_, rfl⟩
        have hci : ∀ n : Int, (C.int .i64 n).refs = 0 := fun _ => rfl
        have hk1 : M9.length ≤ K' := by rw [hK']; simp only [mx_eq] at a9 ⊢; omega
        have hk2 : lj.refs ≤ K' := by rw [hK']; simp only [mx_eq]; omega
        have hk3 : cl.refs ≤ K' := by rw [hK']; simp only [mx_eq]; omega
        have x911 := x10.cut hk1
        have lj11 := ob_take oj hk2
        have lc11 := sl_cut (sl_ext (sl_ext l8 x9) x10) hk3
        have hm4 : ∀ x ∈ setL j, x ∈ z.flatten ∨ x ∈ y.flatten := fun x hx => g1 x (srt_mem.1 (by rw [hj.lst] at hx; exact hx))
        have hm6 : ∀ x ∈ setL z, x ∈ setL j := fun x hx => by rw [hz.lst, srt_mem] at hx; rw [hj.lst, srt_mem]; exact g2 x hx
        rw [lp4 (M := M10.take K') (e := mx e8 e9) (z := z) (y := y) (l := setL j) (cl := cl) (cj := c9) (lj := lj) (v := v) (c11 := c11) hL k hz ky8.ok (x911.ssa (x9.ssa kv8.ssa)).ss (x911.ssa (x9.ssa ky8.ssa)).ss lj11 hjl hm4 (by rw [List.take_take, ← hK', Nat.min_self]) _ (by rw [hK']; simp (maxSteps := 1000000) (implicitDefEqProofs := false) (disch := omega) [-getElem?_pos, -C.refs, hci])] at hd
        generalize hM12 : List.take (mx m.length (mx (mx e8 e9) (mx cl.refs (mx c9.refs lj.refs)))) (List.take K' M10) = M12 at hd
        have x12 : Ext M9 M12 := by rw [← hM12]; exact x911.cut (by simp only [mx_eq] at a9 ⊢; omega)
        have lj12 : Sl M12 lj (setL j) := by rw [← hM12]; exact sl_cut lj11 (by simp only [mx_eq]; omega)
        have lc12 : Sl M12 cl (setL z) := by rw [← hM12]; exact sl_cut lc11 (by simp only [mx_eq]; omega)
        have hfix : List.take (mx m.length (mx (mx e8 e9) (mx cl.refs (mx c9.refs lj.refs)))) M12 = M12 := by rw [← hM12, List.take_take, Nat.min_self]
        simp (maxSteps := 1000000) (implicitDefEqProofs := false) (disch := first | omega | (simp [get_app, get_app0]; done) | rfl | (simp only [List.length_cons, List.length_append, List.length_take, List.length_drop, List.length_nil]; omega)) [-getElem?_pos, -C.refs] at hd
        rw [lp6 (M := M12) (e := mx e8 e9) (cl := cl) (cj := c9) (lj := lj) hL k lc12 lj12 hlen hjl hm6 hfix _ (by simp (maxSteps := 1000000) (implicitDefEqProofs := false) (disch := omega) [-getElem?_pos, -C.refs, hci, hfix])] at hd
        generalize hM13 : List.take (mx m.length (mx (mx e8 e9) c9.refs)) M12 = M13 at hd
        have x13' : Ext M9 M13 := by rw [← hM13]; exact x12.cut (by simp only [mx_eq] at a9 ⊢; omega)
        have p9 := den_impl_SetSame (L := L) (by omega) (k + 5) M13 c9 c9 j j (x13'.ssa so9.ssa) (x13'.ssa so9.ssa) j1 j2 j1 j2
        rw [hj.same hj fun _ => Iff.rfl] at p9
        have kn := new_kp M13 0
        obtain ⟨ln, M14, bn, d14, x14, on⟩ := impl_SetList_ob (L := L) (by omega) (k + 5) _ (.sl (M13.length + 1) 0 1 1) [[]] kn.ssa kn.b.1 kn.b.2.1 kn.b.2.2.1
        have ll := on.sl.lenV
        have hl0 : (setL [[]]).length = 0 := by rw [OkS.new.lst, (srt_perm _).length_eq]; rfl
        rw [hl0] at ll
        have xf := (xm9.trans (x13'.trans ((new_ext M13).trans x14))).fin
        simp (maxSteps := 1000000) (implicitDefEqProofs := false) (disch := first | omega | (simp [get_app, get_app0]; done) | rfl | (simp only [List.length_cons, List.length_append, List.length_take, List.length_drop, List.length_nil]; omega)) [-getElem?_pos, -C.refs, p9, hnew, d14, ll, xf] at hd
        exact hd.symm
end Go.Proofs.Ytdnfcomgdgdifaa
