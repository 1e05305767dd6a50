/-
  Sets: the same; the law of SetSame.
-/
import Derived.Test.YtkoloapgeilbdaaS9
set_option linter.unusedVariables false
set_option linter.unusedSimpArgs false
set_option maxHeartbeats 4000000
namespace Go.Proofs.Ytkoloapgeilbdaa
variable {X : FuncId → List V → List Blk → Option Ret} {L : Nat}

theorem if_cong {α : Type} {b c : Prop} [Decidable b] [Decidable c] {x y : α} (h : b ↔ c) : (if b then x else y) = if c then x else y := by
  by_cases hb : b
  · rw [if_pos hb, if_pos (h.1 hb)]
  · rw [if_neg hb, if_neg fun hc => hb (h.2 hc)]
theorem den_Equal (k : Nat) (m : List Blk) (v w : C) (xs ys : List Int) (hv : Sl m v xs) (hw : Sl m w ys) (hx : xs.length < L) (hb : xs.length ≤ 1048576) :
    den T X L (k + 1) 96 [.c v, .c w] m = some ⟨vb (decide (xs = ys)), m, 0, 0⟩ := by
  rw [den_eq T_96]
  by_cases hl : xs.length = ys.length
  · have hlp := iter_blk (n0 := m.length) (id := 0) (ka := some []) (f := fun s => exec (den T X L k) L m.length none c_slices_Equal_int_int_b0 s) (tr := trim m.length (some [0, 1, 12, 13])) (σ := Nat)
      (fun i => ⟨[(0, .c v), (1, .c w), (12, vi xs.length), (13, vi i)], m, 0, 0⟩) (fun i => i ≤ xs.length) (fun i => xs.length - i)
      (fun i => if ∀ j, j < xs.length → i ≤ j → nth xs j = nth ys j then (.norm, ⟨[], m, 0, 0⟩) else (.ret, ⟨[(4, vb false)], m, 0, 0⟩)) ?w
    case w =>
      intro i hi
      by_cases he : i = xs.length
      · refine ⟨.exit 0, _, by simp (maxSteps := 1000000) (implicitDefEqProofs := false) (disch := omega) [-getElem?_pos, c_slices_Equal_int_int_b0, he]; rfl, ?_⟩
        rw [if_pos fun j h1 h2 => by omega]
        simp (maxSteps := 1000000) (implicitDefEqProofs := false) (disch := omega) [-getElem?_pos, c_blkx, take_mx]
      · have hi' : (i : Int) < (xs.length : Int) := by omega
        have hxv := hv.ixV (i := (i : Int)) (by omega)
        have hxw := hw.ixV (i := (i : Int)) (by omega)
        rw [Int.toNat_natCast] at hxv hxw
        have hdv := hv.ldV (i := i) (by omega)
        have hdw := hw.ldV (i := i) (by omega)
        by_cases hq : nth xs i = nth ys i
        · refine ⟨.norm, _, by simp (maxSteps := 1000000) (implicitDefEqProofs := false) (disch := omega) [-getElem?_pos, c_slices_Equal_int_int_b0, hi', hxv, hxw, hdv, hdw, hq]; rfl, i + 1, ?_, by omega, by omega, ?_⟩
          · simp (maxSteps := 1000000) (implicitDefEqProofs := false) (disch := omega) [-getElem?_pos, take_mx]
          · congr 1
            apply propext
            exact ⟨fun h j h1 h2 => if hj : j = i then hj ▸ hq else h j h1 (by omega), fun h j h1 h2 => h j h1 (by omega)⟩
        · refine ⟨.ret, _, by simp (maxSteps := 1000000) (implicitDefEqProofs := false) (disch := omega) [-getElem?_pos, c_slices_Equal_int_int_b0, hi', hxv, hxw, hdv, hdw, hq]; rfl, ?_⟩
          rw [if_neg fun h => hq (h i (by omega) (Nat.le_refl _))]
          simp (maxSteps := 1000000) (implicitDefEqProofs := false) (disch := omega) [-getElem?_pos, c_blkr, take_mx]
    have hl' : (xs.length : Int) = ys.length := by omega
    simp (maxSteps := 1000000) (implicitDefEqProofs := false) (disch := omega) [-getElem?_pos, c_slices_Equal_int_int, hv.lenV, hw.lenV, hl']
    rw [← hl', hlp L 0 _ (Nat.zero_le _) ?tr (by show xs.length - 0 < L; omega)]
    case tr => simp (maxSteps := 1000000) (implicitDefEqProofs := false) (disch := omega) [-getElem?_pos, take_mx]
    by_cases hq : xs = ys
    · rw [if_pos fun j h1 _ => (nth_ext hl).2 hq j h1]
      simp (maxSteps := 1000000) (implicitDefEqProofs := false) (disch := omega) [-getElem?_pos, hq]
    · rw [if_neg fun h => hq ((nth_ext hl).1 fun j h1 => h j h1 (Nat.zero_le _))]
      simp (maxSteps := 1000000) (implicitDefEqProofs := false) (disch := omega) [-getElem?_pos, hq]
  · have hl' : ¬ (xs.length : Int) = ys.length := by omega
    have hq : ¬ xs = ys := fun h => hl (by rw [h])
    simp (maxSteps := 1000000) (implicitDefEqProofs := false) (disch := omega) [-getElem?_pos, c_slices_Equal_int_int, hv.lenV, hw.lenV, hl', hq]
theorem listed_ob (hL : 2000000 ≤ L) (k : Nat) (m : List Blk) (v : C) (xss : List (List Int)) (hv : SSA m v xss) (hb : xss.length ≤ 1048576) (hbs : ∀ xs ∈ xss, xs.length ≤ 1048576) (ht : tot xss ≤ 1073741824) :
    ∃ c M bj, den T libX L (k + 3) 97 [.c v] m = some ⟨.c c, M, 0, 0⟩ ∧ Ext m M ∧ OB M m.length M.length M.length bj c (srt xss.flatten) := by
  obtain ⟨c, M, bj, h1, h2, h3⟩ := outL_ob m (srt xss.flatten)
  exact ⟨c, M, bj, by rw [den_listed hL k m v xss hv hb hbs ht, h1], h2, h3⟩
theorem Ext.ssa {m M : List Blk} {v : C} {xss : List (List Int)} (h : Ext m M) (hs : SSA m v xss) : SSA M v xss := by
  obtain ⟨l, rfl⟩ := h
  exact hs.grow
def setSame (xss yss : List (List Int)) : Bool := setOk xss && (setOk yss && decide (srt xss.flatten = srt yss.flatten))
theorem den_impl_SetSame (hL : 2000000 ≤ L) (k : Nat) (m : List Blk) (v w : C) (xss yss : List (List Int)) (hv : SSA m v xss) (hw : SSA m w yss) (b1 : xss.length ≤ 1048576) (b2 : ∀ xs ∈ xss, xs.length ≤ 1048576) (b3 : yss.length ≤ 1048576) (b4 : ∀ xs ∈ yss, xs.length ≤ 1048576) :
    den T libX L (k + 4) 53 [.c v, .c w] m = some ⟨vb (setSame xss yss), m, 0, 0⟩ := by
  rw [den_eq T_53]
  unfold setSame
  have o1 := den_impl_SetOk (X := libX) hL k m v xss hv.ss b1 b2
  have o2 := den_impl_SetOk (X := libX) hL k m w yss hw.ss b3 b4
  cases h1 : setOk xss with
  | false => rw [h1] at o1; simp (maxSteps := 1000000) (implicitDefEqProofs := false) (disch := omega) [-getElem?_pos, c_impl_SetSame, o1]
  | true =>
    rw [h1] at o1
    cases h2 : setOk yss with
    | false => rw [h2] at o2; simp (maxSteps := 1000000) (implicitDefEqProofs := false) (disch := omega) [-getElem?_pos, c_impl_SetSame, o1, o2]
    | true =>
      rw [h2] at o2
      have t1 := (setOk_tot h1).1
      have t2 := (setOk_tot h2).1
      obtain ⟨c, M1, bc, d1, x1, p1⟩ := listed_ob (L := L) hL k m v xss hv b1 b2 (by omega)
      obtain ⟨d, M2, bd, d2, x2, p2⟩ := listed_ob (L := L) hL k M1 w yss (x1.ssa hw) b3 b4 (by omega)
      have hlen : (srt xss.flatten).length ≤ 24 := by rw [srt_len, tot_flatten]; exact t1
      have q := den_Equal (X := libX) (L := L) (k + 2) M2 c d _ _ (x2.ob (Nat.le_refl _) p1).sl p2.sl (by omega) (by omega)
      have f1 := (x1.trans x2).fin
      have f0 := (x1.trans x2).fin0
      generalize decide (srt xss.flatten = srt yss.flatten) = r at q ⊢
      cases r <;> simp (maxSteps := 1000000) (implicitDefEqProofs := false) (disch := omega) [-getElem?_pos, c_impl_SetSame, o1, o2, d1, d2, q, f1, f0]
theorem den_spec_SetSame (hL : 2000000 ≤ L) (k : Nat) (m : List Blk) (v w : C) (xss yss : List (List Int)) (hv : SSA m v xss) (hw : SSA m w yss) (b1 : xss.length ≤ 1048576) (b2 : ∀ xs ∈ xss, xs.length ≤ 1048576) (b3 : yss.length ≤ 1048576) (b4 : ∀ xs ∈ yss, xs.length ≤ 1048576) :
    den T X L (k + 5) 52 [.c v, .c w] m = some ⟨vb (setSame xss yss), m, 0, 0⟩ := by
  rw [den_eq T_52]
  unfold setSame
  have o1 := den_spec_SetOk (X := X) (L := L) hL (k + 1) m v xss hv.ss b1 b2
  have o2 := den_spec_SetOk (X := X) (L := L) hL (k + 1) m w yss hw.ss b3 b4
  cases h1 : setOk xss with
  | false => rw [h1] at o1; simp (maxSteps := 1000000) (implicitDefEqProofs := false) (disch := omega) [-getElem?_pos, c_spec_SetSame, o1]
  | true =>
    rw [h1] at o1
    cases h2 : setOk yss with
    | false => rw [h2] at o2; simp (maxSteps := 1000000) (implicitDefEqProofs := false) (disch := omega) [-getElem?_pos, c_spec_SetSame, o1, o2]
    | true =>
      rw [h2] at o2
      have t1 := (setOk_tot h1).1
      have t2 := (setOk_tot h2).1
      have e1 : (if setOk xss = true then srt xss.flatten else []) = srt xss.flatten := if_pos h1
      have e2 : (if setOk yss = true then srt yss.flatten else []) = srt yss.flatten := if_pos h2
      have d1 := den_spec_SetList (X := X) (L := L) hL k m v xss hv b1 b2
      have d2 := den_spec_SetList (X := X) (L := L) hL k (m ++ [blkI (srt xss.flatten)]) w yss hw.grow b3 b4
      rw [e1] at d1
      rw [e2, List.append_assoc, List.length_append, List.singleton_append] at d2
      have hlen : (srt xss.flatten).length ≤ 24 := by rw [srt_len, tot_flatten]; exact t1
      have s1 : Sl (m ++ [blkI (srt xss.flatten), blkI (srt yss.flatten)]) (.sl m.length 0 (srt xss.flatten).length (srt xss.flatten).length) (srt xss.flatten) := live_ints (ty := 3) (o := true) (by simp [blkI])
      have s2 : Sl (m ++ [blkI (srt xss.flatten), blkI (srt yss.flatten)]) (.sl (m.length + 1) 0 (srt yss.flatten).length (srt yss.flatten).length) (srt yss.flatten) := live_ints (ty := 3) (o := true) (by simp [blkI])
      simp only [List.length_cons, List.length_nil, Nat.zero_add] at d2
      generalize srt xss.flatten = xs at *
      generalize srt yss.flatten = ys at *
      have hc : (C.sl m.length 0 xs.length xs.length).refs = m.length + 1 := rfl
      have hd : (C.sl (m.length + 1) 0 ys.length ys.length).refs = m.length + 2 := rfl
      have cr : ∀ (k : IntKind) (n : Int), (C.int k n).refs = 0 := fun _ _ => rfl
      generalize C.sl m.length 0 xs.length xs.length = c at *
      generalize C.sl (m.length + 1) 0 ys.length ys.length = d at *
      have htk : ∀ a, List.take (mx m.length (mx (m.length + 1) (mx (m.length + 2) a))) (m ++ [blkI xs, blkI ys]) = m ++ [blkI xs, blkI ys] := fun a => List.take_of_length_le (by simp [mx_eq]; omega)
      have htk2 : List.take (mx m.length (mx (m.length + 1) (m.length + 2))) (m ++ [blkI xs, blkI ys]) = m ++ [blkI xs, blkI ys] := List.take_of_length_le (by simp [mx_eq])
      have hlp := iter_blk (n0 := m.length) (id := 0) (ka := some [5, 6]) (f := fun s => exec (den T X L (k + 4)) L m.length none c_spec_SetSame_b0 s) (tr := trim m.length (some [5, 6, 7])) (σ := Nat)
        (fun i => ⟨[(5, .c c), (6, .c d), (7, vi i)], m ++ [blkI xs, blkI ys], 0, 0⟩) (fun i => i ≤ xs.length) (fun i => xs.length - i)
        (fun i => if xs.length = ys.length ∧ ¬ (∀ j, j < xs.length → i ≤ j → nth xs j = nth ys j) then (.ret, ⟨[(4, vb false)], m, 0, 0⟩) else (.norm, ⟨[(5, .c c), (6, .c d)], m ++ [blkI xs, blkI ys], 0, 0⟩)) ?w
      case w =>
        intro i hi
        by_cases he : i = xs.length
        · refine ⟨.exit 0, _, by simp (maxSteps := 1000000) (implicitDefEqProofs := false) (disch := omega) [-getElem?_pos, c_spec_SetSame_b0, he, s1.lenV]; rfl, ?_⟩
          rw [if_neg fun h => h.2 fun j a b => by omega]
          simp (maxSteps := 1000000) (implicitDefEqProofs := false) (disch := omega) [-getElem?_pos, c_blkx, -C.refs, hc, hd, cr, htk2]
        · have hi' : (i : Int) < (xs.length : Int) := by omega
          have hin : i < xs.length := by omega
          by_cases hq : xs.length = ys.length
          · have hq' : (xs.length : Int) = (ys.length : Int) := by omega
            have hin2 : i < ys.length := by omega
            have hxv := s1.ixV (i := (i : Int)) (by omega)
            have hxw := s2.ixV (i := (i : Int)) (by omega)
            rw [Int.toNat_natCast] at hxv hxw
            have hdv := s1.ldV (i := i) (by omega)
            have hdw := s2.ldV (i := i) (by omega)
            by_cases hn : nth xs i = nth ys i
            · refine ⟨.norm, _, by simp (maxSteps := 1000000) (implicitDefEqProofs := false) (disch := omega) [-getElem?_pos, c_spec_SetSame_b0, hi', hin, hin2, hq, hq', s1.lenV, s2.lenV, hxv, hxw, hdv, hdw, hn]; rfl, i + 1, ?_, by omega, by omega, ?_⟩
              · simp (maxSteps := 1000000) (implicitDefEqProofs := false) (disch := omega) [-getElem?_pos, -C.refs, hc, hd, cr, htk, htk2]
              · exact if_cong (and_congr Iff.rfl (not_congr ⟨fun h j h1 h2 => if hj : j = i then hj ▸ hn else h j h1 (by omega), fun h j h1 h2 => h j h1 (by omega)⟩))
            · refine ⟨.ret, _, by simp (maxSteps := 1000000) (implicitDefEqProofs := false) (disch := omega) [-getElem?_pos, c_spec_SetSame_b0, hi', hin, hin2, hq, hq', s1.lenV, s2.lenV, hxv, hxw, hdv, hdw, hn]; rfl, ?_⟩
              rw [if_pos ⟨hq, fun h => hn (h i (by omega) (Nat.le_refl _))⟩]
              simp (maxSteps := 1000000) (implicitDefEqProofs := false) (disch := omega) [-getElem?_pos, c_blkr, take_mx]
          · have hq' : ¬ (xs.length : Int) = (ys.length : Int) := by omega
            refine ⟨.exit 0, _, by simp (maxSteps := 1000000) (implicitDefEqProofs := false) (disch := omega) [-getElem?_pos, c_spec_SetSame_b0, hi', hin, hq, hq', s1.lenV, s2.lenV]; rfl, ?_⟩
            rw [if_neg fun h => hq h.1]
            simp (maxSteps := 1000000) (implicitDefEqProofs := false) (disch := omega) [-getElem?_pos, c_blkx, -C.refs, hc, hd, cr, htk2]
      simp (maxSteps := 1000000) (implicitDefEqProofs := false) (disch := omega) [-getElem?_pos, c_spec_SetSame, o1, o2, d1, d2]
      rw [hlp L 0 _ (Nat.zero_le _) (by simp (maxSteps := 1000000) (implicitDefEqProofs := false) (disch := omega) [-getElem?_pos, -C.refs, hc, hd, cr, htk, htk2]) (by show xs.length - 0 < L; omega)]
      by_cases hq : xs.length = ys.length
      · have hq' : (xs.length : Int) = (ys.length : Int) := by omega
        by_cases hn : xs = ys
        · rw [if_neg fun h => h.2 fun j h1 _ => (nth_ext hq).2 hn j h1]
          subst hn
          simp (maxSteps := 1000000) (implicitDefEqProofs := false) (disch := omega) [-getElem?_pos, s1.lenV, s2.lenV]
        · rw [if_pos ⟨hq, fun h => hn ((nth_ext hq).1 fun j h1 => h j h1 (Nat.zero_le _))⟩]
          simp (maxSteps := 1000000) (implicitDefEqProofs := false) (disch := omega) [-getElem?_pos, hn]
      · have hq' : ¬ (xs.length : Int) = (ys.length : Int) := by omega
        have hn : ¬ xs = ys := fun h => hq (by rw [h])
        rw [if_neg fun h => hq h.1]
        simp (maxSteps := 1000000) (implicitDefEqProofs := false) (disch := omega) [-getElem?_pos, s1.lenV, s2.lenV, hq', hq, hn]
theorem den_FnExactSetSame (hL : 4000000 ≤ L) (k : Nat) (m : List Blk) (v w : C) (xss yss : List (List Int)) (hv : SS m v xss) (hw : SS m w yss) (hb : xss.length ≤ 9223372036854775807) (hbs : ∀ xs ∈ xss, xs.length ≤ 9223372036854775807)
    (hb' : yss.length ≤ 9223372036854775807) (hbs' : ∀ xs ∈ yss, xs.length ≤ 9223372036854775807) :
    den T libX L (k + 6) 11 [.c v, .c w] m = some ⟨vb true, m, 0, 0⟩ := by
  rw [den_eq T_11]
  have hsz := den_szIntSS (X := libX) (L := L) (by omega) (k + 3) m v xss 1048576 hv hb hbs (by omega)
  by_cases h0 : szSS xss 1048576 < 0
  · simp (maxSteps := 1000000) (implicitDefEqProofs := false) (disch := omega) [-getElem?_pos, c_laws_FnExactSetSame, hsz, h0]
  · obtain ⟨b1, b2, b5⟩ := sz_ok (xss := xss) (left := 1048576) (by omega) (by omega) (by omega)
    have hsz2 := den_szIntSS (X := libX) (L := L) (by omega) (k + 3) m w yss (szSS xss 1048576) hw hb' hbs' (by omega)
    by_cases h1 : szSS yss (szSS xss 1048576) < 0
    · simp (maxSteps := 1000000) (implicitDefEqProofs := false) (disch := omega) [-getElem?_pos, c_laws_FnExactSetSame, hsz, h0, hsz2, h1]
    · obtain ⟨b3, b4, _⟩ := sz_ok (xss := yss) (left := szSS xss 1048576) (by omega) (by omega) (by omega)
      obtain ⟨M1, e1, d1, x1, s1⟩ := toSO (X := libX) (L := L) (by omega) (k + 3) m v xss hv b1 b2
      obtain ⟨M2, e2, d2, x2, s2⟩ := toSO (X := libX) (L := L) (by omega) (k + 3) M1 w yss (x1.ss hw) b3 b4
      have p1 := den_spec_SetSame (X := libX) (L := L) (by omega) k M2 _ _ xss yss (x2.so (Nat.le_refl _) s1).ssa s2.ssa b1 b2 b3 b4
      have x12 := x1.trans x2
      obtain ⟨M3, e3, d3, x3, s3⟩ := toSO (X := libX) (L := L) (by omega) (k + 3) M2 v xss (x12.ss hv) b1 b2
      have x13 := x12.trans x3
      obtain ⟨M4, e4, d4, x4, s4⟩ := toSO (X := libX) (L := L) (by omega) (k + 3) M3 w yss (x13.ss hw) b3 b4
      have x14 := x13.trans x4
      have s34 := x4.so (Nat.le_refl _) s3
      have p2 := den_impl_SetSame (L := L) (by omega) (k + 1) M4 _ _ xss yss s34.ssa s4.ssa b1 b2 b3 b4
      obtain ⟨M5, e5, d5, x5, s5⟩ := toSO (X := libX) (L := L) (by omega) (k + 3) M4 v xss (x14.ss hv) b1 b2
      have l4 := x4.len
      have s35 := x5.so (by omega) s34
      have q1 := den_eqIntSS (X := libX) (L := L) (by omega) (k + 3) M5 _ _ xss xss s35.ss s5.ss b1 b2
      have x15 := x14.trans x5
      obtain ⟨M6, e6, d6, x6, s6⟩ := toSO (X := libX) (L := L) (by omega) (k + 3) M5 w yss (x15.ss hw) b3 b4
      have l5 := x5.len
      have s46 := x6.so (by omega) (x5.so (Nat.le_refl _) s4)
      have q2 := den_eqIntSS (X := libX) (L := L) (by omega) (k + 3) M6 _ _ yss yss s46.ss s6.ss b3 b4
      have f1 := (x15.trans x6).fin
      simp only [decide_true] at q1 q2
      generalize setSame xss yss = r at p1 p2
      cases r <;> simp (maxSteps := 1000000) (implicitDefEqProofs := false) (disch := omega) [-getElem?_pos, c_laws_FnExactSetSame, hsz, h0, hsz2, h1, d1, d2, d3, d4, d5, d6, p1, p2, q1, q2, f1]
end Go.Proofs.Ytkoloapgeilbdaa
