/-
 Sets: the reference's test.
-/
import Derived.Test.YtfbeplbcaanimaaGreatGA
set_option linter.unusedVariables false
set_option linter.unusedSimpArgs false
set_option maxHeartbeats 4000000
namespace Go.Proofs.YtfbeplbcaanimaaGreat
variable {X : FuncId → List V → List Blk → Option Ret} {L : Nat}
theorem den_spec_SetOk (hL : 2000000 ≤ L) (k : Nat) (m : List Blk) (v : C) (xss : List (List Int)) (hv : SS m v xss) (hb : xss.length ≤ 1048576) (hbs : ∀ xs ∈ xss, xs.length ≤ 1048576) :
  den T X L (k + 3) 60 [.c v] m = some ⟨vb (setOk xss), m, 0, 0⟩ := by
 rw [den_eq T_60]
 cases hn : lenOk xss.length with
 | false =>
  have h1 : ¬ (xss.length : Int) = 1 := fun h => by rw [lenOk_iff.2 (by omega)] at hn; cases hn
  have h2 : ¬ (xss.length : Int) = 2 := fun h => by rw [lenOk_iff.2 (by omega)] at hn; cases hn
  have h3 : ¬ (xss.length : Int) = 4 := fun h => by rw [lenOk_iff.2 (by omega)] at hn; cases hn
  have h4 : ¬ (xss.length : Int) = 8 := fun h => by rw [lenOk_iff.2 (by omega)] at hn; cases hn
  simp (maxSteps := 1000000) -implicitDefEqProofs (disch := omega) [-getElem?_pos, c_spec_SetOk, hv.lenV, h1, h2, h3, h4, setOk, hn]
 | true =>
  have hn' := lenOk_iff.1 hn
  have hpos : 0 < (xss.length : Int) ∧ (xss.length : Int) ≤ 8 := by omega
  have hin : ∀ (b : Nat) (c : C) (xs : List Int), Sl m c xs → xs.length ≤ 1048576 → b < xss.length → ld1V m (.c (ptrOf v b)) = some (.c c) → ∀ st, trim m.length (some [0, 3, 4, 5]) st = ⟨[(0, .c v), (3, vi xss.length), (4, vi b), (5, vi 0)], m, 0, 0⟩ →
    blkC m.length 2 (some [0, 3, 4]) (iter (fun s => exec (den T X L (k + 2)) L m.length none c_spec_SetOk_b1 s) (trim m.length (some [0, 3, 4, 5])) L st) =
     some (if ∀ i, i < xs.length → elOk xss.length b xs i = true then (.norm, ⟨[(0, .c v), (3, vi xss.length), (4, vi b)], m, 0, 0⟩) else (.ret, ⟨[(2, vb false)], m, 0, 0⟩)) := by
   intro b c xs hc hxs hbl hld st hst
   have hix := hv.ixV (i := (b : Int)) (by omega)
   rw [Int.toNat_natCast] at hix
   have hlp := iter_blk (n0 := m.length) (id := 2) (ka := some [0, 3, 4]) (f := fun s => exec (den T X L (k + 2)) L m.length none c_spec_SetOk_b1 s) (tr := trim m.length (some [0, 3, 4, 5])) (σ := Nat)
    (fun i => ⟨[(0, .c v), (3, vi xss.length), (4, vi b), (5, vi i)], m, 0, 0⟩) (fun i => i ≤ xs.length) (fun i => xs.length - i)
    (fun i => if ∀ j, j < xs.length → i ≤ j → elOk xss.length b xs j = true then (.norm, ⟨[(0, .c v), (3, vi xss.length), (4, vi b)], m, 0, 0⟩) else (.ret, ⟨[(2, vb false)], m, 0, 0⟩)) ?w
   case w =>
    intro i hi
    have hcl := hc.lenV
    by_cases he : i = xs.length
    ·refine ⟨.exit 2, _, by simp (maxSteps := 1000000) -implicitDefEqProofs (disch := omega) [-getElem?_pos, c_spec_SetOk_b1, he, hix, hld, hcl]; rfl, ?_⟩
     rw [if_pos fun j h1 h2 => by omega]
     simp (maxSteps := 1000000) -implicitDefEqProofs (disch := omega) [-getElem?_pos, c_blkx, take_mx]
    ·have hi' : (i : Int) < (xs.length : Int) := by omega
     have hx := hc.ixV (i := (i : Int)) (by omega)
     rw [Int.toNat_natCast] at hx
     have hd := hc.ldV (i := i) (by omega)
     have hp := den_l16Place (X := X) (L := L) (k + 1) m (nth xs i) xss.length hpos
     have hval := den_l1Value (X := X) (L := L) k m (nth xs i)
     cases h4 : isVal (nth xs i) with
     | false =>
      rw [h4] at hval
      refine ⟨.ret, _, by simp (maxSteps := 1000000) -implicitDefEqProofs (disch := omega) [-getElem?_pos, c_spec_SetOk_b1, hi', hix, hld, hcl, hx, hd, hval]; rfl, ?_⟩
      rw [if_neg fun h => by have := h i (by omega) (Nat.le_refl _); simp [elOk, h4] at this]
      simp (maxSteps := 1000000) -implicitDefEqProofs (disch := omega) [-getElem?_pos, c_blkr, take_mx]
     | true =>
      rw [h4] at hval
      by_cases h5 : nth xs i % (xss.length : Int) = b
      ·rw [h5] at hp
       by_cases h0 : 0 < i
       ·obtain ⟨q, hq⟩ : ∃ q, i = q + 1 := ⟨i - 1, by omega⟩
        have hx2 := hc.ixV (i := ((q : Nat) : Int)) (by omega)
        rw [Int.toNat_natCast] at hx2
        have hd2 := hc.ldV (i := q) (by omega)
        have hpos' : (i : Int) > 0 := by omega
        have hsub : (i : Int) - 1 = (q : Int) := by omega
        have hq1 : i - 1 = q := by omega
        by_cases h6 : nth xs q < nth xs i
        ·refine ⟨.norm, _, by simp (maxSteps := 1000000) -implicitDefEqProofs (disch := omega) [-getElem?_pos, c_spec_SetOk_b1, hi', hix, hld, hcl, hx, hd, hx2, hd2, hval, hp, hpos', h0, hsub, show ¬ nth xs q ≥ nth xs i by omega]; rfl, i + 1, ?_, by omega, by omega, ?_⟩
         ·simp (maxSteps := 1000000) -implicitDefEqProofs (disch := omega) [-getElem?_pos, take_mx]
         ·congr 1
          apply propext
          exact ⟨fun h j h1 h2 => if hj : j = i then by subst hj; simp [elOk, h4, h5, hq1, h6] else h j h1 (by omega), fun h j h1 h2 => h j h1 (by omega)⟩
        ·refine ⟨.ret, _, by simp (maxSteps := 1000000) -implicitDefEqProofs (disch := omega) [-getElem?_pos, c_spec_SetOk_b1, hi', hix, hld, hcl, hx, hd, hx2, hd2, hval, hp, hpos', h0, hsub, show nth xs q ≥ nth xs i by omega]; rfl, ?_⟩
         rw [if_neg fun h => by have := h i (by omega) (Nat.le_refl _); simp [elOk, hq1, h6, h0] at this]
         simp (maxSteps := 1000000) -implicitDefEqProofs (disch := omega) [-getElem?_pos, c_blkr, take_mx]
       ·have hpos' : ¬ (i : Int) > 0 := by omega
        refine ⟨.norm, _, by simp (maxSteps := 1000000) -implicitDefEqProofs (disch := omega) [-getElem?_pos, c_spec_SetOk_b1, hi', hix, hld, hcl, hx, hd, hval, hp, hpos', h0]; rfl, i + 1, ?_, by omega, by omega, ?_⟩
        ·simp (maxSteps := 1000000) -implicitDefEqProofs (disch := omega) [-getElem?_pos, take_mx]
        ·congr 1
         apply propext
         exact ⟨fun h j h1 h2 => if hj : j = i then by subst hj; simp [elOk, h4, h5, h0] else h j h1 (by omega), fun h j h1 h2 => h j h1 (by omega)⟩
      ·refine ⟨.ret, _, by simp (maxSteps := 1000000) -implicitDefEqProofs (disch := omega) [-getElem?_pos, c_spec_SetOk_b1, hi', hix, hld, hcl, hx, hd, hval, hp, h5]; rfl, ?_⟩
       rw [if_neg fun h => by have := h i (by omega) (Nat.le_refl _); simp [elOk, h5] at this]
       simp (maxSteps := 1000000) -implicitDefEqProofs (disch := omega) [-getElem?_pos, c_blkr, take_mx]
   rw [hlp L 0 st (Nat.zero_le _) hst (by show xs.length - 0 < L; omega)]
   by_cases hq : ∀ i, i < xs.length → elOk xss.length b xs i = true
   ·rw [if_pos fun j h1 _ => hq j h1, if_pos hq]
   ·rw [if_neg fun h => hq fun j h1 => h j h1 (Nat.zero_le _), if_neg hq]
  have hlp := iter_blk (n0 := m.length) (id := 0) (ka := some []) (f := fun s => exec (den T X L (k + 2)) L m.length none c_spec_SetOk_b0 s) (tr := trim m.length (some [0, 3, 4])) (σ := Nat)
   (fun i => ⟨[(0, .c v), (3, vi xss.length), (4, vi i)], m, 0, 0⟩) (fun i => i ≤ xss.length) (fun i => xss.length - i)
   (fun i => if ∀ j, j < xss.length → i ≤ j → bkOk xss.length j (nthL xss j) = true then (.norm, ⟨[], m, 0, 0⟩) else (.ret, ⟨[(2, vb false)], m, 0, 0⟩)) ?w
  case w =>
   intro i hi
   by_cases he : i = xss.length
   ·refine ⟨.exit 0, _, by simp (maxSteps := 1000000) -implicitDefEqProofs (disch := omega) [-getElem?_pos, c_spec_SetOk_b0, he]; rfl, ?_⟩
    rw [if_pos fun j h1 h2 => by omega]
    simp (maxSteps := 1000000) -implicitDefEqProofs (disch := omega) [-getElem?_pos, c_blkx, take_mx]
   ·have hi' : (i : Int) < (xss.length : Int) := by omega
    have hx := hv.ixV (i := (i : Int)) (by omega)
    rw [Int.toNat_natCast] at hx
    obtain ⟨c, hc1, hc2⟩ := hv.ldV (i := i) (by omega)
    have hq := hin i c _ hc2 (hbs _ (nthL_mem (by omega))) (by omega) hc1
    have hcl := hc2.lenV
    by_cases h3 : (nthL xss i).length ≤ 3
    ·have h3' : ¬ ((nthL xss i).length : Int) > 3 := by omega
     by_cases hk : ∀ j, j < (nthL xss i).length → elOk xss.length i (nthL xss i) j = true
     ·have hk' : bkOk xss.length i (nthL xss i) = true := by simp only [bkOk, Bool.and_eq_true, decide_eq_true_eq]; exact ⟨h3, hk⟩
      rw [if_pos hk] at hq
      refine ⟨.norm, _, by simp (maxSteps := 1000000) -implicitDefEqProofs (disch := omega) [-getElem?_pos, c_spec_SetOk_b0, hi', hx, hc1, hcl, h3']; rw [hq _ (by simp (maxSteps := 1000000) -implicitDefEqProofs (disch := omega) [-getElem?_pos, take_mx])]; simp (maxSteps := 1000000) -implicitDefEqProofs (disch := omega) [-getElem?_pos]; rfl, i + 1, ?_, by omega, by omega, ?_⟩
      ·simp (maxSteps := 1000000) -implicitDefEqProofs (disch := omega) [-getElem?_pos, take_mx]
      ·congr 1
       apply propext
       exact ⟨fun h j h1 h2 => if hj : j = i then hj ▸ hk' else h j h1 (by omega), fun h j h1 h2 => h j h1 (by omega)⟩
     ·rw [if_neg hk] at hq
      refine ⟨.ret, _, by simp (maxSteps := 1000000) -implicitDefEqProofs (disch := omega) [-getElem?_pos, c_spec_SetOk_b0, hi', hx, hc1, hcl, h3']; rw [hq _ (by simp (maxSteps := 1000000) -implicitDefEqProofs (disch := omega) [-getElem?_pos, take_mx])]; simp (maxSteps := 1000000) -implicitDefEqProofs (disch := omega) [-getElem?_pos]; rfl, ?_⟩
      rw [if_neg fun h => hk (by have := h i (by omega) (Nat.le_refl _); simp only [bkOk, Bool.and_eq_true, decide_eq_true_eq] at this; exact this.2)]
      simp (maxSteps := 1000000) -implicitDefEqProofs (disch := omega) [-getElem?_pos, c_blkr, take_mx]
    ·have h3' : ((nthL xss i).length : Int) > 3 := by omega
     refine ⟨.ret, _, by simp (maxSteps := 1000000) -implicitDefEqProofs (disch := omega) [-getElem?_pos, c_spec_SetOk_b0, hi', hx, hc1, hcl, h3']; rfl, ?_⟩
     rw [if_neg fun h => h3 (by have := h i (by omega) (Nat.le_refl _); simp only [bkOk, Bool.and_eq_true, decide_eq_true_eq] at this; exact this.1)]
     simp (maxSteps := 1000000) -implicitDefEqProofs (disch := omega) [-getElem?_pos, c_blkr, take_mx]
  have heq : setOk xss = decide (∀ b, b < xss.length → bkOk xss.length b (nthL xss b) = true) := by unfold setOk; rw [hn, Bool.true_and]
  have hl0 := fun st hst => hlp L 0 st (Nat.zero_le _) hst (by show xss.length - 0 < L; omega)
  have hn4 : (((xss.length : Int) = 1) = True) ∨ ((¬ (xss.length : Int) = 1) ∧ ((xss.length : Int) = 2) = True) ∨ ((¬ (xss.length : Int) = 1) ∧ (¬ (xss.length : Int) = 2) ∧ ((xss.length : Int) = 4) = True) ∨ ((¬ (xss.length : Int) = 1) ∧ (¬ (xss.length : Int) = 2) ∧ (¬ (xss.length : Int) = 4) ∧ ((xss.length : Int) = 8) = True) := by
   rcases hn' with h | h | h | h
   ·exact .inl (eq_true (by omega))
   ·exact .inr (.inl ⟨by omega, eq_true (by omega)⟩)
   ·exact .inr (.inr (.inl ⟨by omega, by omega, eq_true (by omega)⟩))
   ·exact .inr (.inr (.inr ⟨by omega, by omega, by omega, eq_true (by omega)⟩))
  clear hlp hn' hn
  rw [heq]
  by_cases hq : ∀ b, b < xss.length → bkOk xss.length b (nthL xss b) = true
  ·rw [if_pos fun j h1 _ => hq j h1] at hl0
   rw [decide_eq_true hq]
   rcases hn4 with h | ⟨h1, h⟩ | ⟨h1, h2, h⟩ | ⟨h1, h2, h3, h⟩
   ·simp (maxSteps := 1000000) -implicitDefEqProofs (disch := omega) [-getElem?_pos, c_spec_SetOk, hv.lenV, h]
    rw [hl0 _ (by simp (maxSteps := 1000000) -implicitDefEqProofs (disch := omega) [-getElem?_pos, take_mx])]
    simp (maxSteps := 1000000) -implicitDefEqProofs (disch := omega) [-getElem?_pos]
   ·simp (maxSteps := 1000000) -implicitDefEqProofs (disch := omega) [-getElem?_pos, c_spec_SetOk, hv.lenV, h, h1]
    rw [hl0 _ (by simp (maxSteps := 1000000) -implicitDefEqProofs (disch := omega) [-getElem?_pos, take_mx])]
    simp (maxSteps := 1000000) -implicitDefEqProofs (disch := omega) [-getElem?_pos]
   ·simp (maxSteps := 1000000) -implicitDefEqProofs (disch := omega) [-getElem?_pos, c_spec_SetOk, hv.lenV, h, h1, h2]
    rw [hl0 _ (by simp (maxSteps := 1000000) -implicitDefEqProofs (disch := omega) [-getElem?_pos, take_mx])]
    simp (maxSteps := 1000000) -implicitDefEqProofs (disch := omega) [-getElem?_pos]
   ·simp (maxSteps := 1000000) -implicitDefEqProofs (disch := omega) [-getElem?_pos, c_spec_SetOk, hv.lenV, h, h1, h2, h3]
    rw [hl0 _ (by simp (maxSteps := 1000000) -implicitDefEqProofs (disch := omega) [-getElem?_pos, take_mx])]
    simp (maxSteps := 1000000) -implicitDefEqProofs (disch := omega) [-getElem?_pos]
  ·rw [if_neg fun h => hq fun j h1 => h j h1 (Nat.zero_le _)] at hl0
   rw [decide_eq_false hq]
   rcases hn4 with h | ⟨h1, h⟩ | ⟨h1, h2, h⟩ | ⟨h1, h2, h3, h⟩
   ·simp (maxSteps := 1000000) -implicitDefEqProofs (disch := omega) [-getElem?_pos, c_spec_SetOk, hv.lenV, h]
    rw [hl0 _ (by simp (maxSteps := 1000000) -implicitDefEqProofs (disch := omega) [-getElem?_pos, take_mx])]
    simp (maxSteps := 1000000) -implicitDefEqProofs (disch := omega) [-getElem?_pos]
   ·simp (maxSteps := 1000000) -implicitDefEqProofs (disch := omega) [-getElem?_pos, c_spec_SetOk, hv.lenV, h, h1]
    rw [hl0 _ (by simp (maxSteps := 1000000) -implicitDefEqProofs (disch := omega) [-getElem?_pos, take_mx])]
    simp (maxSteps := 1000000) -implicitDefEqProofs (disch := omega) [-getElem?_pos]
   ·simp (maxSteps := 1000000) -implicitDefEqProofs (disch := omega) [-getElem?_pos, c_spec_SetOk, hv.lenV, h, h1, h2]
    rw [hl0 _ (by simp (maxSteps := 1000000) -implicitDefEqProofs (disch := omega) [-getElem?_pos, take_mx])]
    simp (maxSteps := 1000000) -implicitDefEqProofs (disch := omega) [-getElem?_pos]
   ·simp (maxSteps := 1000000) -implicitDefEqProofs (disch := omega) [-getElem?_pos, c_spec_SetOk, hv.lenV, h, h1, h2, h3]
    rw [hl0 _ (by simp (maxSteps := 1000000) -implicitDefEqProofs (disch := omega) [-getElem?_pos, take_mx])]
    simp (maxSteps := 1000000) -implicitDefEqProofs (disch := omega) [-getElem?_pos]
end Go.Proofs.YtfbeplbcaanimaaGreat
set_option linter.unusedVariables false
set_option linter.unusedSimpArgs false
set_option maxHeartbeats 4000000
namespace Go.Proofs.YtfbeplbcaanimaaGreat
variable {X : FuncId → List V → List Blk → Option Ret} {L : Nat}
def has (xs : List Int) (x : Int) : Bool := xs.contains x
theorem has_mem {xs : List Int} {x : Int} : has xs x = true ↔ x ∈ xs := List.contains_iff_mem
theorem contains_nth {xs : List Int} {x : Int} : has xs x = true ↔ ∃ i, i < xs.length ∧ nth xs i = x := by
 rw [has_mem, List.mem_iff_getElem]
 constructor
 ·rintro ⟨i, h, rfl⟩
  exact ⟨i, h, by simp [nth, List.getD_eq_getElem?_getD, h]⟩
 ·rintro ⟨i, h, rfl⟩
  exact ⟨i, h, by simp [nth, List.getD_eq_getElem?_getD, h]⟩
theorem den_Index (k : Nat) (m : List Blk) (v : C) (xs : List Int) (x : Int) (hv : Sl m v xs) (hL : xs.length < L) (hb : xs.length ≤ 1048576) :
  ∃ r : Int, den T X L (k + 1) 134 [.c v, vi x] m = some ⟨vi r, m, 0, 0⟩ ∧ decide (0 ≤ r) = has xs x := by
 rw [den_eq T_134]
 have hlp := iter_find' (f := fun s => exec (den T X L k) L m.length none c_slices_Index_int_int_b0 s) (tr := trim m.length (some [0, 1, 7, 8]))
  (fun i => ⟨[(0, .c v), (1, vi x), (7, vi xs.length), (8, vi i)], m, 0, 0⟩) xs.length (fun i => ¬ x = nth xs i)
  (fun i => (.ret, ⟨[(4, vi i)], m, 0, 0⟩)) (by simp) ?s1 ?s2 ⟨0, _, by simp (maxSteps := 1000000) -implicitDefEqProofs (disch := omega) [-getElem?_pos, c_slices_Index_int_int_b0]; rfl⟩
 case s1 =>
  intro i hi hk
  have hi' : (i : Int) < (xs.length : Int) := by omega
  have hx := hv.ixV (i := (i : Int)) (by omega)
  rw [Int.toNat_natCast] at hx
  have hd := hv.ldV (i := i) (by omega)
  refine ⟨_, by simp (maxSteps := 1000000) -implicitDefEqProofs (disch := omega) [-getElem?_pos, c_slices_Index_int_int_b0, hi', hx, hd, hk]; rfl, ?_⟩
  simp (maxSteps := 1000000) -implicitDefEqProofs (disch := omega) [-getElem?_pos, take_mx]
 case s2 =>
  intro i hi hk
  have hi' : (i : Int) < (xs.length : Int) := by omega
  have hx := hv.ixV (i := (i : Int)) (by omega)
  rw [Int.toNat_natCast] at hx
  have hd := hv.ldV (i := i) (by omega)
  have hk' : x = nth xs i := Classical.not_not.1 hk
  simp (maxSteps := 1000000) -implicitDefEqProofs (disch := omega) [-getElem?_pos, c_slices_Index_int_int_b0, hi', hx, hd, ← hk', take_mx]
 simp (maxSteps := 1000000) -implicitDefEqProofs (disch := omega) [-getElem?_pos, c_slices_Index_int_int, hv.lenV]
 generalize hq : iter _ _ _ _ = q
 rcases hlp L 0 _ q hq (by simp (maxSteps := 1000000) -implicitDefEqProofs (disch := omega) [-getElem?_pos, take_mx]) (Nat.zero_le _) (by omega) with ⟨h1, rfl⟩ | ⟨j, h1, h2, h3, h4, rfl⟩
 ·refine ⟨-1, by simp (maxSteps := 1000000) -implicitDefEqProofs (disch := omega) [-getElem?_pos, c_slices_Index_int_int_b0, take_mx], ?_⟩
  cases hc : has xs x with
  | false => simp
  | true =>
   obtain ⟨i, hi, e⟩ := contains_nth.1 hc
   exact absurd e.symm (h1 i (Nat.zero_le _) hi)
 ·refine ⟨j, by simp (maxSteps := 1000000) -implicitDefEqProofs (disch := omega) [-getElem?_pos, take_mx], ?_⟩
  rw [contains_nth.2 ⟨j, h2, (Classical.not_not.1 h3).symm⟩]
  simp
theorem den_Contains (k : Nat) (m : List Blk) (v : C) (xs : List Int) (x : Int) (hv : Sl m v xs) (hL : xs.length < L) (hb : xs.length ≤ 1048576) :
  den T X L (k + 2) 129 [.c v, vi x] m = some ⟨vb (has xs x), m, 0, 0⟩ := by
 obtain ⟨r, h1, h2⟩ := den_Index (X := X) k m v xs x hv hL hb
 rw [den_eq T_129, ← h2]
 simp (maxSteps := 1000000) -implicitDefEqProofs (disch := omega) [-getElem?_pos, c_slices_Contains_int_int, h1]
theorem den_l1Has (k : Nat) (m : List Blk) (v : C) (xs : List Int) (x : Int) (hv : Sl m v xs) (hL : xs.length < L) (hb : xs.length ≤ 1048576) :
  den T X L (k + 1) 126 [.c v, vi x] m = some ⟨vb (has xs x), m, 0, 0⟩ := by
 rw [den_eq T_126]
 have hlp := iter_find' (f := fun s => exec (den T X L k) L m.length none c_spec_l1Has_b0 s) (tr := trim m.length (some [0, 1, 5]))
  (fun i => ⟨[(0, .c v), (1, vi x), (5, vi i)], m, 0, 0⟩) xs.length (fun i => ¬ nth xs i = x)
  (fun i => (.ret, ⟨[(4, vb true)], m, 0, 0⟩)) (by simp) ?s1 ?s2 ⟨0, _, by simp (maxSteps := 1000000) -implicitDefEqProofs (disch := omega) [-getElem?_pos, c_spec_l1Has_b0, hv.lenV]; rfl⟩
 case s1 =>
  intro i hi hk
  have hi' : (i : Int) < (xs.length : Int) := by omega
  have hx := hv.ixV (i := (i : Int)) (by omega)
  rw [Int.toNat_natCast] at hx
  have hd := hv.ldV (i := i) (by omega)
  refine ⟨_, by simp (maxSteps := 1000000) -implicitDefEqProofs (disch := omega) [-getElem?_pos, c_spec_l1Has_b0, hi', hv.lenV, hx, hd, hk]; rfl, ?_⟩
  simp (maxSteps := 1000000) -implicitDefEqProofs (disch := omega) [-getElem?_pos, take_mx]
 case s2 =>
  intro i hi hk
  have hi' : (i : Int) < (xs.length : Int) := by omega
  have hx := hv.ixV (i := (i : Int)) (by omega)
  rw [Int.toNat_natCast] at hx
  have hd := hv.ldV (i := i) (by omega)
  have hk' : nth xs i = x := Classical.not_not.1 hk
  simp (maxSteps := 1000000) -implicitDefEqProofs (disch := omega) [-getElem?_pos, c_spec_l1Has_b0, hi', hv.lenV, hx, hd, hk', take_mx]
 simp (maxSteps := 1000000) -implicitDefEqProofs (disch := omega) [-getElem?_pos, c_spec_l1Has]
 generalize hq : iter _ _ _ _ = q
 rcases hlp L 0 _ q hq (by simp (maxSteps := 1000000) -implicitDefEqProofs (disch := omega) [-getElem?_pos, take_mx]) (Nat.zero_le _) (by omega) with ⟨h1, rfl⟩ | ⟨j, h1, h2, h3, h4, rfl⟩
 ·cases hc : has xs x with
  | false => simp (maxSteps := 1000000) -implicitDefEqProofs (disch := omega) [-getElem?_pos, c_spec_l1Has_b0, hv.lenV, take_mx]
  | true =>
   obtain ⟨i, hi, e⟩ := contains_nth.1 hc
   exact absurd e (h1 i (Nat.zero_le _) hi)
 ·rw [contains_nth.2 ⟨j, h2, Classical.not_not.1 h3⟩]
  simp (maxSteps := 1000000) -implicitDefEqProofs (disch := omega) [-getElem?_pos, take_mx]
theorem setOk_len {xss : List (List Int)} (h : setOk xss = true) : xss.length = 1 ∨ xss.length = 2 ∨ xss.length = 4 ∨ xss.length = 8 := by
 simp only [setOk, Bool.and_eq_true] at h
 exact lenOk_iff.1 h.1
def bkt (xss : List (List Int)) (x : Int) : List Int := nthL xss (x % (xss.length : Int)).toNat
def setHas (xss : List (List Int)) (x : Int) : Bool := has (bkt xss x) x
theorem den_impl_setHas (hL : 2000000 ≤ L) (k : Nat) (m : List Blk) (v : C) (xss : List (List Int)) (x : Int) (hv : SS m v xss) (hbs : ∀ xs ∈ xss, xs.length ≤ 1048576) (ho : setOk xss = true) :
  den T X L (k + 3) 118 [.c v, vi x] m = some ⟨vb (setHas xss x), m, 0, 0⟩ := by
 rw [den_eq T_118]
 have hn := setOk_len ho
 have h1 := Int.emod_nonneg x (show (xss.length : Int) ≠ 0 by omega)
 have h2 := Int.emod_lt_of_pos x (show 0 < (xss.length : Int) by omega)
 have hp := den_placeOf (X := X) (L := L) (k + 1) m x xss.length (by omega)
 obtain ⟨q, hq⟩ : ∃ q : Nat, x % (xss.length : Int) = q := ⟨(x % (xss.length : Int)).toNat, by omega⟩
 rw [hq] at hp h2
 have hx := hv.ixV (i := (q : Int)) (by omega)
 rw [Int.toNat_natCast] at hx
 obtain ⟨c, hc1, hc2⟩ := hv.ldV (i := q) (by omega)
 have hxs := hbs _ (nthL_mem (i := q) (by omega))
 have hc := den_Contains (X := X) (L := L) k m c _ x hc2 (by omega) hxs
 unfold setHas bkt
 rw [hq, Int.toNat_natCast]
 simp (maxSteps := 1000000) -implicitDefEqProofs (disch := omega) [-getElem?_pos, c_impl_setHas, hv.lenV, hp, hx, hc1, hc]
theorem den_spec_SetHas16 (hL : 2000000 ≤ L) (k : Nat) (m : List Blk) (v : C) (xss : List (List Int)) (x : Int) (hv : SS m v xss) (hb : xss.length ≤ 1048576) (hbs : ∀ xs ∈ xss, xs.length ≤ 1048576) :
  den T X L (k + 4) 105 [.c v, vi x] m = some ⟨vb (setOk xss && setHas xss x), m, 0, 0⟩ := by
 rw [den_eq T_105]
 have h0 := den_spec_SetOk (X := X) hL k m v xss hv hb hbs
 cases ho : setOk xss with
 | false => rw [ho] at h0; simp (maxSteps := 1000000) -implicitDefEqProofs (disch := omega) [-getElem?_pos, c_spec_SetHas16, h0]
 | true =>
  rw [ho] at h0
  have hn := setOk_len ho
  have h1 := Int.emod_nonneg x (show (xss.length : Int) ≠ 0 by omega)
  have h2 := Int.emod_lt_of_pos x (show 0 < (xss.length : Int) by omega)
  have hp := den_l16Place (X := X) (L := L) (k + 2) m x xss.length (by omega)
  obtain ⟨q, hq⟩ : ∃ q : Nat, x % (xss.length : Int) = q := ⟨(x % (xss.length : Int)).toNat, by omega⟩
  rw [hq] at hp h2
  have hx := hv.ixV (i := (q : Int)) (by omega)
  rw [Int.toNat_natCast] at hx
  obtain ⟨c, hc1, hc2⟩ := hv.ldV (i := q) (by omega)
  have hxs := hbs _ (nthL_mem (i := q) (by omega))
  have hc := den_l1Has (X := X) (L := L) (k + 2) m c _ x hc2 (by omega) hxs
  unfold setHas bkt
  rw [hq, Int.toNat_natCast]
  simp (maxSteps := 1000000) -implicitDefEqProofs (disch := omega) [-getElem?_pos, c_spec_SetHas16, h0, hv.lenV, hp, hx, hc1, hc]
theorem sz_ok {xss : List (List Int)} {left : Int} (h0 : 0 ≤ left) (h1 : left ≤ 1048576) (h : 0 ≤ szSS xss left) : xss.length ≤ 1048576 ∧ (∀ xs ∈ xss, xs.length ≤ 1048576) ∧ szSS xss left ≤ left := by
 unfold szSS at h ⊢
 split at h
 ·omega
 ·rename_i hl
  rw [if_neg hl]
  have h2 := szL_le (xss := xss) (left := left - xss.length) (by omega)
  refine ⟨by omega, fun xs hx => ?_, by omega⟩
  have := szL_len (by omega) h xs hx
  omega
theorem take_end {m l : List Blk} {k : Nat} : List.take m.length (List.take (mx m.length k) (m ++ l)) = m := by
 rw [List.take_take, Nat.min_eq_left (le_mx_l _ _), List.take_left]
end Go.Proofs.YtfbeplbcaanimaaGreat
