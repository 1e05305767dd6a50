/-
  Sets: the reference's drop; the law of SetDrop.
-/
import Derived.Test.YtkoloapgeilbdaaSD
set_option linter.unusedVariables false
set_option linter.unusedSimpArgs false
set_option maxHeartbeats 4000000
namespace Go.Proofs.Ytkoloapgeilbdaa
variable {X : FuncId → List V → List Blk → Option Ret} {L : Nat}

theorem Ext.cut {m M : List Blk} {a : Nat} (h : Ext m M) (ha : m.length ≤ a) : Ext m (M.take a) := by
  have hl := h.len
  exact Ext.of (by rw [List.length_take]; omega) fun j hj => by rw [List.getElem?_take_of_lt (by omega), h.get hj]
theorem ld1V_grow {m l : List Blk} {x y : V} (h : ld1V m x = some y) : ld1V (m ++ l) x = some y := by
  cases x with
  | c x =>
    cases x with
    | ptr b off tot =>
      simp only [ld1V, Option.bind_eq_some_iff] at h ⊢
      obtain ⟨blk, h1, h2⟩ := h
      exact ⟨blk, live_grow h1, h2⟩
    | _ => cases h
  | _ => cases h
theorem keep_snoc {xs : List Int} {x : Int} {i : Nat} (hi : i < xs.length) : keep xs x (i + 1) = if nth xs i = x then keep xs x i else keep xs x i ++ [nth xs i] := by
  have hn : nth xs i = xs[i] := by simp [nth, List.getD_eq_getElem?_getD, hi]
  unfold keep
  rw [List.take_succ_eq_append_getElem hi, List.filter_append, hn]
  by_cases h : xs[i] = x
  · simp [h]
  · simp [h]
theorem keep_all (xs : List Int) (x : Int) : keep xs x xs.length = without xs x := by simp [keep, without]
theorem ints_snoc' (l : List Int) (y : Int) : ints l ++ [ci y] = ints (l ++ [y]) := by simp [ints]
theorem spec_SetDrop (hL : 2000000 ≤ L) (k : Nat) (m : List Blk) (v : C) (xss : List (List Int)) (x : Int) (hv : SSA m v xss) (b1 : xss.length ≤ 1048576) (b2 : ∀ xs ∈ xss, xs.length ≤ 1048576) :
    ∃ M c e, den T X L (k + 5) 44 [.c v, vi x] m = some ⟨.tup [.c c, vi (setDrop xss x).2], M, e, 0⟩ ∧ Ext m M ∧ SO M m.length M.length c (setDrop xss x).1 := by
  rw [den_eq T_44]
  have d1 := den_l16Copy (X := X) (L := L) hL (k + 2) m v xss hv b1 b2
  have hsx := fresh_SX m xss
  have hml := freshM_len m xss
  have hext : Ext m (freshM m xss) := ⟨_, rfl⟩
  unfold freshR at d1
  generalize freshM m xss = M at d1 hsx hml hext
  obtain ⟨q, hq⟩ : ∃ q, q = m.length := ⟨_, rfl⟩
  rw [← hq] at d1 hsx hml
  have hx1 := hext.ssa hv
  have o1 := den_spec_SetOk (X := X) (L := L) hL (k + 1) M v xss hx1.ss b1 b2
  have o2 := den_l1Value (X := X) (L := L) (k + 2) M x
  have hle : M.length ≤ mx (if xss = [] then 0 else q + 1 + xss.length) (q + 1) := by
    rw [mx_eq, hml]
    split
    · rename_i h; subst h; simp
    · omega
  have htk : List.take (mx (if xss = [] then 0 else q + 1 + xss.length) (q + 1)) M = M := List.take_of_length_le hle
  have hso0 : SO M m.length M.length (.sl q 0 xss.length xss.length) xss := by rw [hml, ← hq]; exact hsx.so
  unfold setDrop
  cases h1 : setOk xss with
  | false =>
    rw [h1] at o1
    simp (maxSteps := 1000000) (implicitDefEqProofs := false) (disch := omega) [-getElem?_pos, -fin, c_spec_SetDrop, d1, o1, htk]
    exact fin_setx hext hso0 (Nat.le_refl _) hle
  | true =>
    rw [h1] at o1
    cases h2 : isVal x with
    | false =>
      rw [h2] at o2
      simp (maxSteps := 1000000) (implicitDefEqProofs := false) (disch := omega) [-getElem?_pos, -fin, c_spec_SetDrop, d1, o1, o2, htk]
      exact fin_setx hext hso0 (Nat.le_refl _) hle
    | true =>
      rw [h2] at o2
      have o3 := den_spec_SetHas16 (X := X) (L := L) hL k M v xss x hx1.ss b1 b2
      rw [h1, Bool.true_and] at o3
      cases h3 : setHas xss x with
      | false =>
        rw [h3] at o3
        simp (maxSteps := 1000000) (implicitDefEqProofs := false) (disch := omega) [-getElem?_pos, -fin, c_spec_SetDrop, d1, o1, o2, o3, htk]
        exact fin_setx hext hso0 (Nat.le_refl _) hle
      | true =>
        rw [h3] at o3
        have hn := setOk_len h1
        obtain ⟨p, hp1, hp⟩ := place_lt h1 x
        have o4 := den_l16Place (X := X) (L := L) (k + 3) M x xss.length (by omega)
        rw [hp1] at o4
        have hne : xss ≠ [] := fun e => by subst e; simp at hn
        unfold setHas bkt at h3
        unfold bkt
        rw [hp1, Int.toNat_natCast] at h3 ⊢
        have hbl := bk_len h1 _ (nthL_mem (i := p) hp)
        have hpi : (p : Int) < (xss.length : Int) := by omega
        have hh := hd_len (q + 1) xss
        have hvl := hx1.ss.lenV
        have hlp := iter_ex (n0 := m.length) (id := 0) (ka := some [6]) (f := fun s => exec (den T X L (k + 4)) L m.length none c_spec_SetDrop_b0 s) (tr := trim m.length (some [0, 1, 6, 7, 8])) (σ := Nat × List Blk × Nat × Nat × List C)
          (fun s => ⟨[(0, .c v), (1, vi x), (6, .c (.sl q 0 xss.length xss.length)), (7, vi p), (8, vi s.1)], s.2.1, s.2.2.1, 0⟩)
          (fun s => s.1 ≤ (nthL xss p).length ∧ Ext m s.2.1 ∧ SX s.2.1 m.length s.2.2.2.1 q s.2.2.2.2 (setN xss p (keep (nthL xss p) x s.1)) ∧ s.2.2.2.1 ≤ s.2.2.1 ∧ ∃ b, s.2.2.2.2[p]? = some (.sl b 0 (keep (nthL xss p) x s.1).length (keep (nthL xss p) x s.1).length) ∧ s.2.1[b]? = some (blkI (keep (nthL xss p) x s.1)) ∧ m.length ≤ b ∧ b < s.2.2.2.1 ∧ b ≠ q)
          (fun s => (nthL xss p).length - s.1)
          (fun r => ∃ M' e' hi hs', r = (.norm, ⟨[(6, .c (.sl q 0 xss.length xss.length))], M', e', 0⟩) ∧ Ext m M' ∧ SX M' m.length hi q hs' (setN xss p (without (nthL xss p) x)) ∧ hi ≤ e') ?w
        case w =>
          rintro ⟨i, M', e', hi, hs'⟩ ⟨i1, i2, i3, i4, b, i5, i6, i7, i8, i9⟩
          simp only at i1 i2 i3 i4 i5 i6 i7 i8 i9 ⊢
          have hv' := i2.ssa hv
          have hix := hv'.ss.ixV (i := (p : Int)) (by omega)
          rw [Int.toNat_natCast] at hix
          obtain ⟨c0, hc1, hc2⟩ := hv'.ldV (i := p) hp
          have hcl := hc2.sl.lenV
          by_cases he : i = (nthL xss p).length
          · subst he
            rw [keep_all] at i3
            refine ⟨.exit 0, _, by simp (maxSteps := 1000000) (implicitDefEqProofs := false) (disch := omega) [-getElem?_pos, c_spec_SetDrop_b0, hix, hc1, hcl]; rfl, ?_⟩
            refine ⟨_, rfl, _, _, hi, hs', by simp (maxSteps := 1000000) (implicitDefEqProofs := false) (disch := omega) [-getElem?_pos, c_blkx]; rfl, ?_, ?_, i4⟩
            · exact i2.cut (by omega)
            · exact i3.cut i4
          · have hi' : (i : Int) < ((nthL xss p).length : Int) := by omega
            have hix2 := hc2.sl.ixV (i := (i : Int)) (by omega)
            rw [Int.toNat_natCast] at hix2
            have hld2 := hc2.sl.ldV (i := i) (by omega)
            by_cases hx : nth (nthL xss p) i = x
            · refine ⟨.norm, _, by simp (maxSteps := 1000000) (implicitDefEqProofs := false) (disch := omega) [-getElem?_pos, c_spec_SetDrop_b0, hix, hc1, hcl, hi', hix2, hld2, hx]; rfl, (i + 1, _, e', hi, hs'), by simp (maxSteps := 1000000) (implicitDefEqProofs := false) (disch := omega) [-getElem?_pos, ]; rfl, ⟨?_, ?_, ?_, i4, b, ?_⟩, ?_⟩
              · show i + 1 ≤ _; omega
              · exact i2.cut (by rw [mx_eq]; omega)
              · show SX _ _ _ _ _ (setN xss p (keep (nthL xss p) x (i + 1)))
                rw [keep_snoc (by omega), if_pos hx]
                exact i3.cut (Nat.le_trans i4 (Nat.le_trans (le_mx_l _ _) (le_mx_r _ _)))
              · show hs'[p]? = some (.sl b 0 (keep (nthL xss p) x (i + 1)).length (keep (nthL xss p) x (i + 1)).length) ∧ (List.take _ M')[b]? = some (blkI (keep (nthL xss p) x (i + 1))) ∧ _
                rw [keep_snoc (by omega), if_pos hx]
                exact ⟨i5, by rw [List.getElem?_take_of_lt (Nat.lt_of_lt_of_le i8 (Nat.le_trans i4 (Nat.le_trans (le_mx_l _ _) (le_mx_r _ _))))]; exact i6, i7, i8, i9⟩
              · show (nthL xss p).length - (i + 1) < (nthL xss p).length - i; omega
            · have hlq : ∀ l, live (M' ++ l) q xss.length = some ⟨hs', 30, 1, true⟩ := fun l => live_grow (by have := i3.live; rwa [setN_len] at this)
              have hgl := fun l => hv'.grow (l := l)
              have hixg := fun l => (hgl l).ss.ixV (i := (p : Int)) (by omega)
              simp only [Int.toNat_natCast] at hixg
              have hc1g := fun l => ld1V_grow (l := l) hc1
              have hix2g := fun l => (hc2.sl.grow (l := l)).ixV (i := (i : Int)) (by omega)
              simp only [Int.toNat_natCast] at hix2g
              have hld2g := fun l => (hc2.sl.grow (l := l)).ldV (i := i) (by omega)
              have hqM : q < M'.length := lt_of_get i3.hdr
              have hbM : b < M'.length := lt_of_get i6
              have hlb : ∀ l, live (M' ++ l) b (keep (nthL xss p) x i).length = some (blkI (keep (nthL xss p) x i)) := fun l => live_grow (by unfold live; rw [i6]; simp [blkI, ints_len])
              have hlq2 : ∀ Z l, live (M'.set b Z ++ l) q xss.length = some ⟨hs', 30, 1, true⟩ := fun Z l => by
                have := hlq l
                unfold live at this ⊢
                rw [List.getElem?_append_left (by simpa using hqM), List.getElem?_set_ne i9]
                rwa [List.getElem?_append_left hqM] at this
              have hset : ∀ Z l W, (M'.set b Z ++ l).set q W = (M'.set b Z).set q W ++ l := fun Z l W => List.set_append_left _ _ (by simpa using hqM)
              have hhl : hs'.length = xss.length := by rw [i3.len, setN_len]
              have hkl : (keep (nthL xss p) x i).length ≤ 3 := by
                have h1 := List.length_filter_le (fun y => !decide (y = x)) ((nthL xss p).take i)
                rw [List.length_take] at h1
                unfold keep
                omega
              have hne1 : ¬ M'.length = q := by omega
              have hne2 : ¬ M'.length = b := by omega
              have hk : keep (nthL xss p) x (i + 1) = keep (nthL xss p) x i ++ [nth (nthL xss p) i] := by rw [keep_snoc (by omega), if_neg hx]
              obtain ⟨P, hP⟩ : ∃ P, P = (M'.set b ⟨ints (keep (nthL xss p) x i) ++ [ci (nth (nthL xss p) i)], 3, 1, true⟩).set q ⟨lay hs' p [.sl b 0 ((keep (nthL xss p) x i).length + 1) ((keep (nthL xss p) x i).length + 1)], 30, 1, true⟩ ++ [⟨[ci (nth (nthL xss p) i)], 3, 1, true⟩] := ⟨_, rfl⟩
              have hPg : ∀ j, j ≠ b → j ≠ q → j < M'.length → P[j]? = M'[j]? := fun j h1 h2 h3 => by
                rw [hP, List.getElem?_append_left (by simpa using h3), List.getElem?_set_ne (Ne.symm h2), List.getElem?_set_ne (Ne.symm h1)]
              have hPb : P[b]? = some (blkI (keep (nthL xss p) x (i + 1))) := by
                rw [hP, List.getElem?_append_left (by simpa using hbM), List.getElem?_set_ne (Ne.symm i9), List.getElem?_set_self hbM, hk]
                simp [blkI, ints]
              have hPl : M'.length ≤ P.length := by rw [hP]; simp
              have hP1 : SX P m.length hi q (lay hs' p [.sl b 0 ((keep (nthL xss p) x i).length + 1) ((keep (nthL xss p) x i).length + 1)]) (setN xss p (keep (nthL xss p) x (i + 1))) := by
                have := i3.put (p := p) (m' := P) (b := b) (xs := keep (nthL xss p) x (i + 1)) (by rw [setN_len]; exact hp) (Nat.le_refl _) (Nat.le_trans i3.hm hPl) (by rw [hP, List.getElem?_append_left (by simpa using hqM), List.getElem?_set_self (by simpa using hqM), hk, List.length_append]; rfl) hPb i7 i8 i9
                  (fun j x' y z hj e => hj (i3.dst _ _ _ _ _ _ _ _ _ e i5)) (fun j h1 h2 h3 h4 => hPg j h4 h3 (by have := i3.hm; omega))
                rw [setN_setN, hk, List.length_append] at this
                rw [hk]
                exact this
              have hP2 : Ext m P := Ext.of (Nat.le_trans i2.len hPl) fun j hj => by
                rw [hPg j (by omega) (by omega) (by have := i2.len; omega), i2.get hj]
              subst hP
              refine ⟨.norm, _, by simp (maxSteps := 1000000) (implicitDefEqProofs := false) (disch := omega) [-getElem?_pos, c_spec_SetDrop_b0, hix, hc1, hcl, hi', hix2, hld2, hixg, hc1g, hix2g, hld2g, hx, hlq, i5, hlb, hne1, hne2, hlq2, hset, hhl]; rfl, (i + 1, _, e', hi, lay hs' p [.sl b 0 ((keep (nthL xss p) x i).length + 1) ((keep (nthL xss p) x i).length + 1)]), by simp (maxSteps := 1000000) (implicitDefEqProofs := false) (disch := omega) [-getElem?_pos, ]; rfl, ⟨?_, ?_, ?_, i4, b, ?_⟩, ?_⟩
              · show i + 1 ≤ _; omega
              · exact hP2.cut (by rw [mx_eq]; omega)
              · show SX _ _ _ _ _ (setN xss p (keep (nthL xss p) x (i + 1)))
                exact hP1.cut (Nat.le_trans i4 (Nat.le_trans (le_mx_l _ _) (le_mx_r _ _)))
              · show (lay hs' p [.sl b 0 ((keep (nthL xss p) x i).length + 1) ((keep (nthL xss p) x i).length + 1)])[p]? = some (.sl b 0 (keep (nthL xss p) x (i + 1)).length (keep (nthL xss p) x (i + 1)).length) ∧ (List.take _ _)[b]? = some (blkI (keep (nthL xss p) x (i + 1))) ∧ _
                refine ⟨by rw [lay_one (by omega), if_pos rfl, hk, List.length_append]; rfl, ?_, i7, i8, i9⟩
                rw [List.getElem?_take_of_lt (Nat.lt_of_lt_of_le i8 (Nat.le_trans i4 (Nat.le_trans (le_mx_l _ _) (le_mx_r _ _))))]
                exact hPb
              · show (nthL xss p).length - (i + 1) < (nthL xss p).length - i; omega
        have hlo : SX M m.length (q + 1 + xss.length) q (hd (q + 1) xss) xss := ⟨by omega, hsx.q2, hsx.hm, hsx.hdr, hsx.len, fun j hj => (hsx.bk j hj).imp id fun ⟨b, h1, h2, h3, h4, h5⟩ => ⟨b, h1, h2, by omega, h4, h5⟩, hsx.dst⟩
        have hqM : q < M.length := by omega
        have hlq0 : ∀ l, live (M ++ l) q xss.length = some ⟨hd (q + 1) xss, 30, 1, true⟩ := fun l => live_grow hlo.live
        have hset0 : ∀ l W, (M ++ l).set q W = M.set q W ++ l := fun l W => List.set_append_left _ _ hqM
        have hput := hlo.putNew (p := p) (b := M.length) (l := [⟨[], 3, 1, true⟩]) (xs := []) hp (Nat.le_refl _) (by rw [get_app0]; rfl)
        rw [hset0] at hput
        have hputE : Ext m (M.set q ⟨lay (hd (q + 1) xss) p [.sl M.length 0 0 0], 30, 1, true⟩ ++ [⟨[], 3, 1, true⟩]) := Ext.of (by have := hext.len; simp; omega) fun j hj => by
          rw [List.getElem?_append_left (by have := hext.len; simp; omega), List.getElem?_set_ne (by omega), hext.get hj]
        have hputB : (M.set q ⟨lay (hd (q + 1) xss) p [.sl M.length 0 0 0], 30, 1, true⟩ ++ [⟨[], 3, 1, true⟩])[M.length]? = some (blkI []) := by
          rw [List.getElem?_append_right (by simp)]
          simp [blkI, ints]
        simp (maxSteps := 1000000) (implicitDefEqProofs := false) (disch := omega) [-getElem?_pos, -fin, c_spec_SetDrop, d1, o1, o2, o3, o4, hvl, hne, hpi, hlq0, hset0, hh]
        generalize hqq : blkC _ _ _ (iter _ _ _ _) = qq
        obtain ⟨r, e1, M', e', hi, hs', rfl, w1, w2, w3⟩ : ∃ r, qq = some r ∧ ∃ M' e' hi hs', r = (Ex.norm, ⟨[(6, .c (.sl q 0 xss.length xss.length))], M', e', 0⟩) ∧ Ext m M' ∧ SX M' m.length hi q hs' (setN xss p (without (nthL xss p) x)) ∧ hi ≤ e' := by
          rw [← hqq]
          refine hlp L (0, _, _, M.length + 1, lay (hd (q + 1) xss) p [.sl M.length 0 0 0]) _ ?I (by simp (maxSteps := 1000000) (implicitDefEqProofs := false) (disch := omega) [-getElem?_pos, hne]; exact ⟨rfl, rfl⟩) (by show (nthL xss p).length - 0 < L; omega)
          have hb1 : ∀ a, M.length + 1 ≤ mx m.length (mx (M.length + 1) a) := fun a => Nat.le_trans (le_mx_l _ _) (le_mx_r _ _)
          refine ⟨Nat.zero_le _, hputE.cut (le_mx_l _ _), hput.cut (hb1 _), Nat.le_refl _, M.length, ?_, ?_, by omega, by show M.length < M.length + 1; omega, by omega⟩
          · show (lay (hd (q + 1) xss) p [C.sl M.length 0 0 0])[p]? = _
            rw [lay_one (by omega), if_pos rfl]
            rfl
          · show (List.take _ _)[M.length]? = _
            rw [List.getElem?_take_of_lt (hb1 _), hputB]
            rfl
        subst e1
        simp (maxSteps := 1000000) (implicitDefEqProofs := false) (disch := omega) [-getElem?_pos, -fin]
        have w4 := (w2.cut (a := mx m.length (mx e' (q + 1))) (Nat.le_trans w3 (Nat.le_trans (le_mx_l _ _) (le_mx_r _ _))))
        have w5 := w4.so
        rw [setN_len] at w5
        exact fin_setx (w1.cut (le_mx_l _ _)) w5 w4.hm (Nat.le_trans w3 (le_mx_l _ _))
theorem set_b {xss : List (List Int)} (h : setOk xss = true) {p : Nat} {xs : List Int} (hx : xs.length ≤ 4) : (setN xss p xs).length ≤ 1048576 ∧ (∀ ys ∈ setN xss p xs, ys.length ≤ 1048576) ∧ tot (setN xss p xs) ≤ 1073741824 := by
  have h1 := (setOk_tot h).2
  have h2 : ∀ ys ∈ setN xss p xs, ys.length ≤ 4 := fun ys hy => by
    rcases List.mem_or_eq_of_mem_set hy with h' | h'
    · have := bk_len h ys h'; omega
    · rw [h']; exact hx
  have h3 := tot_b h2
  have h4 := setN_len xss p xs
  exact ⟨by omega, fun ys hy => by have := h2 ys hy; omega, by rw [h4] at h3; omega⟩
theorem setDrop_b {xss : List (List Int)} {x : Int} (b1 : xss.length ≤ 1048576) (b2 : ∀ xs ∈ xss, xs.length ≤ 1048576) (bt : tot xss ≤ 1073741824) : (setDrop xss x).1.length ≤ 1048576 ∧ (∀ xs ∈ (setDrop xss x).1, xs.length ≤ 1048576) ∧ tot (setDrop xss x).1 ≤ 1073741824 := by
  unfold setDrop
  split
  · rename_i h
    split
    · refine set_b h.1 (Nat.le_trans (List.length_filter_le _ _) ?_)
      obtain ⟨p, hp1, hp⟩ := place_lt h.1 x
      unfold bkt
      rw [hp1, Int.toNat_natCast]
      have := bk_len h.1 _ (nthL_mem (i := p) hp)
      omega
    · exact ⟨b1, b2, bt⟩
  · exact ⟨b1, b2, bt⟩
theorem den_FnExactSetDrop (hL : 4000000 ≤ L) (k : Nat) (m : List Blk) (v : C) (xss : List (List Int)) (x : Int) (hv : SS m v xss) (hb : xss.length ≤ 9223372036854775807) (hbs : ∀ xs ∈ xss, xs.length ≤ 9223372036854775807) :
    den T X L (k + 6) 9 [.c v, vi x] m = some ⟨vb true, m, 0, 0⟩ := by
  rw [den_eq T_9]
  have hsz := den_szIntSS (X := X) (L := L) (by omega) (k + 3) m v xss 1048576 hv hb hbs (by omega)
  by_cases h0 : szSS xss 1048576 < 0
  · simp (maxSteps := 1000000) (implicitDefEqProofs := false) (disch := omega) [-getElem?_pos, c_laws_FnExactSetDrop, hsz, h0]
  · obtain ⟨b1, b2, _⟩ := sz_ok (xss := xss) (left := 1048576) (by omega) (by omega) (by omega)
    have bt := sz_tot (xss := xss) (left := 1048576) (by omega) (by omega)
    obtain ⟨y1, y2, yt⟩ := setDrop_b (x := x) b1 b2 (by omega)
    obtain ⟨M1, e1, d1, x1, s1⟩ := toSO (X := X) (L := L) (by omega) (k + 3) m v xss hv b1 b2
    obtain ⟨M2, w, e2, d2, x2, ow⟩ := spec_SetDrop (X := X) (L := L) (by omega) k M1 _ xss x s1.ssa b1 b2
    obtain ⟨M3, e3, d3, x3, s3⟩ := toSO (X := X) (L := L) (by omega) (k + 3) M2 v xss ((x1.trans x2).ss hv) b1 b2
    obtain ⟨M4, g, e4, d4, x4, og⟩ := impl_SetDrop (X := X) (L := L) (by omega) (k + 1) M3 _ xss x s3.ssa b1 b2
    have ow4 := (x3.trans x4).so (Nat.le_refl _) ow
    have q1 := den_eqIntSS (X := X) (L := L) (by omega) (k + 3) M4 g w _ _ og.ss ow4.ss y1 y2
    have x14 : Ext m M4 := x1.trans (x2.trans (x3.trans x4))
    obtain ⟨M5, e5, d5, x5, s5⟩ := toSO (X := X) (L := L) (by omega) (k + 3) M4 v xss (x14.ss hv) b1 b2
    have s35 := (x4.trans x5).so (Nat.le_refl _) s3
    have q2 := den_eqIntSS (X := X) (L := L) (by omega) (k + 3) M5 _ _ xss xss s35.ss s5.ss b1 b2
    have l3 := x4.len
    have l5 := x5.len
    have l2 := x3.len
    have l1 := x2.len
    have l0 := x1.len
    obtain ⟨M6, W6, d6, w6, n6, a6, _⟩ := s35.mark (X := X) (L := L) (by omega) (k + 3) (by omega) b1 b2 (c0 := 1) (by omega) (by omega)
    have ow6 : SO M6 M1.length M2.length w (setDrop xss x).1 := (x5.so (by omega) ow4).congr fun q _ h2 => a6 q (.inl (by omega))
    have og6 : SO M6 M3.length M4.length g (setDrop xss x).1 := (x5.so (Nat.le_refl _) og).congr fun q h1 h2 => a6 q (.inr (by omega))
    have q3 := den_eqIntSS (X := X) (L := L) (by omega) (k + 3) M6 g w _ _ og6.ss ow6.ss y1 y2
    obtain ⟨M7, W7, d7, w7, n7, a7, og7⟩ := og6.mark (X := X) (L := L) (by omega) (k + 3) (by omega) y1 y2 (c0 := 1) (by omega) yt
    have q4 := den_heldIntSS (X := X) (L := L) (by omega) (k + 3) M7 g _ 1 og7.ss y1 y2 (by omega) yt
    have x7 : Ext m M7 := Ext.of (by omega) fun q hq => by
      rw [a7 q (.inl (by omega)), a6 q (.inl (by omega))]
      exact (x14.trans x5).get hq
    have ow7 : SO M7 M1.length M2.length w (setDrop xss x).1 := ow6.congr fun q h1 h2 => a7 q (.inl (by omega))
    obtain ⟨M8, e8, d8, x8, s8⟩ := toSO (X := X) (L := L) (by omega) (k + 3) M7 v xss (x7.ss hv) b1 b2
    obtain ⟨M9, h, e9, d9, x9, oh⟩ := impl_SetDrop (X := X) (L := L) (by omega) (k + 1) M8 _ xss x s8.ssa b1 b2
    have q5 := den_eqIntSS (X := X) (L := L) (by omega) (k + 3) M9 h w _ _ oh.ss ((x8.trans x9).so (by omega) ow7).ss y1 y2
    have q6 := den_heldIntSS (X := X) (L := L) (by omega) (k + 3) M9 g _ 1 ((x8.trans x9).so (by omega) og7).ss y1 y2 (by omega) yt
    have f1 := (x7.trans (x8.trans x9)).fin
    have z6 : W6 - (M5.length - m.length) = 0 := by omega
    have z7 : W7 - (M6.length - m.length) = 0 := by omega
    have t1 : ¬ (1 : Int) + (tot xss : Int) < 0 := by omega
    have t2 : ¬ (1 : Int) + (tot (setDrop xss x).1 : Int) < 0 := by omega
    simp only [decide_true] at q1 q2 q3 q5
    simp (maxSteps := 1000000) (implicitDefEqProofs := false) (disch := omega) [-getElem?_pos, c_laws_FnExactSetDrop, hsz, h0, d1, d2, d3, d4, d5, d6, d7, d8, d9, q1, q2, q3, q4, q5, q6, z6, z7, t1, t2, f1]
end Go.Proofs.Ytkoloapgeilbdaa
