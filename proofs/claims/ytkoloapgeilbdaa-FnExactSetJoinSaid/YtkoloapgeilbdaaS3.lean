/-
  Sets: compared; places; what it is for one to be right, the program's and the reference's.
-/
import Derived.Test.YtkoloapgeilbdaaS2
set_option linter.unusedVariables false
set_option linter.unusedSimpArgs false
set_option maxHeartbeats 4000000
namespace Go.Proofs.Ytkoloapgeilbdaa
variable {X : FuncId → List V → List Blk → Option Ret} {L : Nat}

theorem den_eqIntSS (hL : 2000000 ≤ L) (k : Nat) (m : List Blk) (v w : C) (xss yss : List (List Int)) (hv : SS m v xss) (hw : SS m w yss) (hb : xss.length ≤ 1048576) (hbs : ∀ xs ∈ xss, xs.length ≤ 1048576) :
    den T X L (k + 2) 19 [.c v, .c w] m = some ⟨vb (decide (xss = yss)), m, 0, 0⟩ := by
  rw [den_eq T_19]
  by_cases hl : xss.length = yss.length
  · have hlp := iter_blk (n0 := m.length) (id := 0) (ka := some []) (f := fun s => exec (den T X L (k + 1)) L m.length none c_laws_eqIntSS_b0 s) (tr := trim m.length (some [0, 1, 5])) (σ := Nat)
      (fun i => ⟨[(0, .c v), (1, .c w), (5, vi i)], m, 0, 0⟩) (fun i => i ≤ xss.length) (fun i => xss.length - i)
      (fun i => if ∀ j, j < xss.length → i ≤ j → nthL xss j = nthL yss j then (.norm, ⟨[], m, 0, 0⟩) else (.ret, ⟨[(4, vb false)], m, 0, 0⟩)) ?w
    case w =>
      intro i hi
      by_cases he : i = xss.length
      · refine ⟨.exit 0, _, by simp (maxSteps := 1000000) (implicitDefEqProofs := false) (disch := omega) [-getElem?_pos, c_laws_eqIntSS_b0, he, hv.lenV]; rfl, ?_⟩
        rw [if_pos fun j h1 h2 => by omega]
        simp (maxSteps := 1000000) (implicitDefEqProofs := false) (disch := omega) [-getElem?_pos, c_blkx, take_mx]
      · have hi' : (i : Int) < (xss.length : Int) := by omega
        have hx := hv.ixV (i := (i : Int)) (by omega)
        have hy := hw.ixV (i := (i : Int)) (by omega)
        rw [Int.toNat_natCast] at hx hy
        obtain ⟨c, hc1, hc2⟩ := hv.ldV (i := i) (by omega)
        obtain ⟨d, hd1, hd2⟩ := hw.ldV (i := i) (by omega)
        have hxs := hbs _ (nthL_mem (i := i) (by omega))
        have hz := den_eqIntS (X := X) (L := L) k m c d _ _ hc2 hd2 (by omega) (by omega)
        by_cases hq : nthL xss i = nthL yss i
        · rw [decide_eq_true hq] at hz
          refine ⟨.norm, _, by simp (maxSteps := 1000000) (implicitDefEqProofs := false) (disch := omega) [-getElem?_pos, c_laws_eqIntSS_b0, hi', hv.lenV, hx, hy, hc1, hd1, hz]; rfl, i + 1, ?_, by omega, by omega, ?_⟩
          · simp (maxSteps := 1000000) (implicitDefEqProofs := false) (disch := omega) [-getElem?_pos, take_mx]
          · congr 1
            apply propext
            exact ⟨fun h j h1 h2 => if hj : j = i then hj ▸ hq else h j h1 (by omega), fun h j h1 h2 => h j h1 (by omega)⟩
        · rw [decide_eq_false hq] at hz
          refine ⟨.ret, _, by simp (maxSteps := 1000000) (implicitDefEqProofs := false) (disch := omega) [-getElem?_pos, c_laws_eqIntSS_b0, hi', hv.lenV, hx, hy, hc1, hd1, hz]; rfl, ?_⟩
          rw [if_neg fun h => hq (h i (by omega) (Nat.le_refl _))]
          simp (maxSteps := 1000000) (implicitDefEqProofs := false) (disch := omega) [-getElem?_pos, c_blkr, take_mx]
    have hl' : (xss.length : Int) = yss.length := by omega
    simp (maxSteps := 1000000) (implicitDefEqProofs := false) (disch := omega) [-getElem?_pos, c_laws_eqIntSS, hv.lenV, hw.lenV, hl']
    rw [hlp L 0 _ (Nat.zero_le _) ?tr (by show xss.length - 0 < L; omega)]
    case tr => simp (maxSteps := 1000000) (implicitDefEqProofs := false) (disch := omega) [-getElem?_pos, take_mx]
    by_cases hq : xss = yss
    · rw [if_pos fun j h1 _ => (nthL_ext hl).2 hq j h1]
      simp (maxSteps := 1000000) (implicitDefEqProofs := false) (disch := omega) [-getElem?_pos, hq]
    · rw [if_neg fun h => hq ((nthL_ext hl).1 fun j h1 => h j h1 (Nat.zero_le _))]
      simp (maxSteps := 1000000) (implicitDefEqProofs := false) (disch := omega) [-getElem?_pos, hq]
  · have hl' : ¬ (xss.length : Int) = yss.length := by omega
    have hq : ¬ xss = yss := fun h => hl (by rw [h])
    simp (maxSteps := 1000000) (implicitDefEqProofs := false) (disch := omega) [-getElem?_pos, c_laws_eqIntSS, hv.lenV, hw.lenV, hl', hq]

/-! Places. -/
theorem tmod_place {x n : Int} (hn : 0 < n) : (x.tmod n + n).tmod n = x % n := by
  have h1 := Int.tmod_lt_of_pos x hn
  have h2 : -n < x.tmod n := by
    have := Int.tmod_lt_of_pos (-x) hn
    rw [Int.neg_tmod] at this
    omega
  rw [Int.tmod_eq_emod_of_nonneg (by omega), Int.add_emod_right]
  have h3 := Int.tmod_add_mul_tdiv x n
  conv => rhs; rw [← h3]
  rw [Int.add_mul_emod_self_left]
theorem tmod_bounds {x n : Int} (hn : 0 < n) : -n < x.tmod n ∧ x.tmod n < n := by
  have h1 := Int.tmod_lt_of_pos x hn
  have := Int.tmod_lt_of_pos (-x) hn
  rw [Int.neg_tmod] at this
  omega
theorem tmod_emod {x n : Int} (hn : 0 < n) : x.tmod n % n = x % n := by
  have h3 := Int.tmod_add_mul_tdiv x n
  conv => rhs; rw [← h3]
  rw [Int.add_mul_emod_self_left]
theorem den_placeOf (k : Nat) (m : List Blk) (x n : Int) (hn : 0 < n ∧ n ≤ 8) : den T X L (k + 1) 65 [vi x, vi n] m = some ⟨vi (x % n), m, 0, 0⟩ := by
  rw [den_eq T_65]
  have h1 := tmod_bounds (x := x) hn.1
  have h2 := tmod_place (x := x) hn.1
  have hne : ¬ n = 0 := by omega
  simp (maxSteps := 1000000) (implicitDefEqProofs := false) (disch := omega) [-getElem?_pos, c_impl_placeOf, hne, h2, tmod_emod hn.1]
theorem den_l16Place (k : Nat) (m : List Blk) (x n : Int) (hn : 0 < n ∧ n ≤ 8) : den T X L (k + 1) 62 [vi x, vi n] m = some ⟨vi (x % n), m, 0, 0⟩ := by
  rw [den_eq T_62]
  have h1 := tmod_bounds (x := x) hn.1
  have h2 := tmod_place (x := x) hn.1
  have hne : ¬ n = 0 := by omega
  simp (maxSteps := 1000000) (implicitDefEqProofs := false) (disch := omega) [-getElem?_pos, c_spec_l16Place, hne, h2, tmod_emod hn.1]

/-! What it is for a set to be right. -/
def elOk (n b : Int) (xs : List Int) (i : Nat) : Bool := isVal (nth xs i) && decide (nth xs i % n = b) && decide (0 < i → nth xs (i - 1) < nth xs i)
def bkOk (n b : Int) (xs : List Int) : Bool := decide (xs.length ≤ 3) && decide (∀ i, i < xs.length → elOk n b xs i = true)
def bkI (n b : Int) (xs : List Int) (i : Nat) : Bool := decide (i < 3) && elOk n b xs i
theorem bk_same {n b : Int} {xs : List Int} : bkOk n b xs = decide (∀ i, i < xs.length → bkI n b xs i = true) := by
  rw [Bool.eq_iff_iff]
  simp only [bkOk, bkI, Bool.and_eq_true, decide_eq_true_eq]
  constructor
  · rintro ⟨h1, h2⟩ i hi
    exact ⟨by omega, h2 i hi⟩
  · intro h
    refine ⟨?_, fun i hi => (h i hi).2⟩
    rcases Nat.lt_or_ge 3 xs.length with h3 | h3
    · have := (h 3 h3).1; omega
    · exact h3
def lenOk (n : Nat) : Bool := decide (n = 1) || decide (n = 2) || decide (n = 4) || decide (n = 8)
def setOk (xss : List (List Int)) : Bool := lenOk xss.length && decide (∀ b, b < xss.length → bkOk xss.length b (nthL xss b) = true)
theorem lenOk_iff {n : Nat} : lenOk n = true ↔ n = 1 ∨ n = 2 ∨ n = 4 ∨ n = 8 := by simp [lenOk, or_assoc]

theorem den_impl_SetOk (hL : 2000000 ≤ L) (k : Nat) (m : List Blk) (v : C) (xss : List (List Int)) (hv : SS m v xss) (hb : xss.length ≤ 1048576) (hbs : ∀ xs ∈ xss, xs.length ≤ 1048576) :
    den T X L (k + 3) 18 [.c v] m = some ⟨vb (setOk xss), m, 0, 0⟩ := by
  rw [den_eq T_18]
  cases hn : lenOk xss.length with
  | false =>
    have h1 : ¬ (xss.length : Int) = 1 := fun h => by rw [lenOk_iff.2 (by omega)] at hn; cases hn
    have h2 : ¬ (xss.length : Int) = 2 := fun h => by rw [lenOk_iff.2 (by omega)] at hn; cases hn
    have h3 : ¬ (xss.length : Int) = 4 := fun h => by rw [lenOk_iff.2 (by omega)] at hn; cases hn
    have h4 : ¬ (xss.length : Int) = 8 := fun h => by rw [lenOk_iff.2 (by omega)] at hn; cases hn
    simp (maxSteps := 1000000) (implicitDefEqProofs := false) (disch := omega) [-getElem?_pos, c_impl_SetOk, hv.lenV, h1, h2, h3, h4, setOk, hn]
  | true =>
    have hn' := lenOk_iff.1 hn
    have hpos : 0 < (xss.length : Int) ∧ (xss.length : Int) ≤ 8 := by omega
    have hin : ∀ (b : Nat) (c : C) (xs : List Int), Sl m c xs → xs.length ≤ 1048576 → b < xss.length → ∀ st, trim m.length (some [3, 4, 5, 24, 25, 26, 31, 32, 33]) st = ⟨[(3, vi xss.length), (4, vi b), (5, .c c), (24, .c v), (25, vi xss.length), (26, vi b), (31, .c c), (32, vi xs.length), (33, vi 0)], m, 0, 0⟩ →
        blkC m.length 2 (some [3, 24, 25, 26]) (iter (fun s => exec (den T X L (k + 2)) L m.length none c_impl_SetOk_b1 s) (trim m.length (some [3, 4, 5, 24, 25, 26, 31, 32, 33])) L st) =
          some (if bkOk xss.length b xs = true then (.norm, ⟨[(3, vi xss.length), (24, .c v), (25, vi xss.length), (26, vi b)], m, 0, 0⟩) else (.ret, ⟨[(2, vb false)], m, 0, 0⟩)) := by
      intro b c xs hc hxs hbl st hst
      have hlp := iter_blk (n0 := m.length) (id := 2) (ka := some [3, 24, 25, 26]) (f := fun s => exec (den T X L (k + 2)) L m.length none c_impl_SetOk_b1 s) (tr := trim m.length (some [3, 4, 5, 24, 25, 26, 31, 32, 33])) (σ := Nat)
        (fun i => ⟨[(3, vi xss.length), (4, vi b), (5, .c c), (24, .c v), (25, vi xss.length), (26, vi b), (31, .c c), (32, vi xs.length), (33, vi i)], m, 0, 0⟩) (fun i => i ≤ xs.length) (fun i => xs.length - i)
        (fun i => if ∀ j, j < xs.length → i ≤ j → bkI xss.length b xs j = true then (.norm, ⟨[(3, vi xss.length), (24, .c v), (25, vi xss.length), (26, vi b)], m, 0, 0⟩) else (.ret, ⟨[(2, vb false)], m, 0, 0⟩)) ?w
      case w =>
        intro i hi
        by_cases he : i = xs.length
        · refine ⟨.exit 2, _, by simp (maxSteps := 1000000) (implicitDefEqProofs := false) (disch := omega) [-getElem?_pos, c_impl_SetOk_b1, he]; rfl, ?_⟩
          rw [if_pos fun j h1 h2 => by omega]
          simp (maxSteps := 1000000) (implicitDefEqProofs := false) (disch := omega) [-getElem?_pos, c_blkx, take_mx]
        · have hi' : (i : Int) < (xs.length : Int) := by omega
          have hx := hc.ixV (i := (i : Int)) (by omega)
          rw [Int.toNat_natCast] at hx
          have hd := hc.ldV (i := i) (by omega)
          have hp := den_placeOf (X := X) (L := L) (k + 1) m (nth xs i) xss.length hpos
          have hval := den_isValue (X := X) (L := L) k m (nth xs i)
          by_cases h3 : (i : Int) ≥ 3
          · refine ⟨.ret, _, by simp (maxSteps := 1000000) (implicitDefEqProofs := false) (disch := omega) [-getElem?_pos, c_impl_SetOk_b1, hi', h3, hx, hd]; rfl, ?_⟩
            rw [if_neg fun h => by have := h i (by omega) (Nat.le_refl _); simp only [bkI, Bool.and_eq_true, decide_eq_true_eq] at this; omega]
            simp (maxSteps := 1000000) (implicitDefEqProofs := false) (disch := omega) [-getElem?_pos, c_blkr, take_mx]
          · cases h4 : isVal (nth xs i) with
            | false =>
              rw [h4] at hval
              refine ⟨.ret, _, by simp (maxSteps := 1000000) (implicitDefEqProofs := false) (disch := omega) [-getElem?_pos, c_impl_SetOk_b1, hi', h3, hx, hd, hval]; rfl, ?_⟩
              rw [if_neg fun h => by have := h i (by omega) (Nat.le_refl _); simp [bkI, elOk, h4] at this]
              simp (maxSteps := 1000000) (implicitDefEqProofs := false) (disch := omega) [-getElem?_pos, c_blkr, take_mx]
            | true =>
              rw [h4] at hval
              by_cases h5 : nth xs i % (xss.length : Int) = b
              · rw [h5] at hp
                by_cases h0 : 0 < i
                · obtain ⟨q, hq⟩ : ∃ q, i = q + 1 := ⟨i - 1, by omega⟩
                  have hx2 := hc.ixV (i := ((q : Nat) : Int)) (by omega)
                  rw [Int.toNat_natCast] at hx2
                  have hd2 := hc.ldV (i := q) (by omega)
                  have hpos' : (i : Int) > 0 := by omega
                  have hsub : (i : Int) - 1 = (q : Int) := by omega
                  have hq1 : i - 1 = q := by omega
                  by_cases h6 : nth xs q < nth xs i
                  · refine ⟨.norm, _, by simp (maxSteps := 1000000) (implicitDefEqProofs := false) (disch := omega) [-getElem?_pos, c_impl_SetOk_b1, hi', h3, hx, hd, hx2, hd2, hval, hp, hpos', h0, hsub, show ¬ nth xs q ≥ nth xs i by omega]; rfl, i + 1, ?_, by omega, by omega, ?_⟩
                    · simp (maxSteps := 1000000) (implicitDefEqProofs := false) (disch := omega) [-getElem?_pos, take_mx]
                    · congr 1
                      apply propext
                      exact ⟨fun h j h1 h2 => if hj : j = i then by subst hj; simp [bkI, elOk, h4, h5, hq1, h6]; omega else h j h1 (by omega), fun h j h1 h2 => h j h1 (by omega)⟩
                  · refine ⟨.ret, _, by simp (maxSteps := 1000000) (implicitDefEqProofs := false) (disch := omega) [-getElem?_pos, c_impl_SetOk_b1, hi', h3, hx, hd, hx2, hd2, hval, hp, hpos', h0, hsub, show nth xs q ≥ nth xs i by omega]; rfl, ?_⟩
                    rw [if_neg fun h => by have := h i (by omega) (Nat.le_refl _); simp [bkI, elOk, hq1, h6, h0] at this]
                    simp (maxSteps := 1000000) (implicitDefEqProofs := false) (disch := omega) [-getElem?_pos, c_blkr, take_mx]
                · have hpos' : ¬ (i : Int) > 0 := by omega
                  refine ⟨.norm, _, by simp (maxSteps := 1000000) (implicitDefEqProofs := false) (disch := omega) [-getElem?_pos, c_impl_SetOk_b1, hi', h3, hx, hd, hval, hp, hpos', h0]; rfl, i + 1, ?_, by omega, by omega, ?_⟩
                  · simp (maxSteps := 1000000) (implicitDefEqProofs := false) (disch := omega) [-getElem?_pos, take_mx]
                  · congr 1
                    apply propext
                    exact ⟨fun h j h1 h2 => if hj : j = i then by subst hj; simp [bkI, elOk, h4, h5, h0]; omega else h j h1 (by omega), fun h j h1 h2 => h j h1 (by omega)⟩
              · refine ⟨.ret, _, by simp (maxSteps := 1000000) (implicitDefEqProofs := false) (disch := omega) [-getElem?_pos, c_impl_SetOk_b1, hi', h3, hx, hd, hval, hp, h5]; rfl, ?_⟩
                rw [if_neg fun h => by have := h i (by omega) (Nat.le_refl _); simp [bkI, elOk, h5] at this]
                simp (maxSteps := 1000000) (implicitDefEqProofs := false) (disch := omega) [-getElem?_pos, c_blkr, take_mx]
      rw [hlp L 0 st (Nat.zero_le _) hst (by show xs.length - 0 < L; omega), bk_same]
      by_cases hq : ∀ i, i < xs.length → bkI xss.length b xs i = true
      · rw [if_pos fun j h1 _ => hq j h1, if_pos (decide_eq_true hq)]
      · rw [if_neg fun h => hq fun j h1 => h j h1 (Nat.zero_le _), if_neg (by simpa using hq)]
    have hlp := iter_blk (n0 := m.length) (id := 0) (ka := some []) (f := fun s => exec (den T X L (k + 2)) L m.length none c_impl_SetOk_b0 s) (tr := trim m.length (some [3, 24, 25, 26])) (σ := Nat)
      (fun i => ⟨[(3, vi xss.length), (24, .c v), (25, vi xss.length), (26, vi i)], m, 0, 0⟩) (fun i => i ≤ xss.length) (fun i => xss.length - i)
      (fun i => if ∀ j, j < xss.length → i ≤ j → bkOk xss.length j (nthL xss j) = true then (.norm, ⟨[], m, 0, 0⟩) else (.ret, ⟨[(2, vb false)], m, 0, 0⟩)) ?w
    case w =>
      intro i hi
      by_cases he : i = xss.length
      · refine ⟨.exit 0, _, by simp (maxSteps := 1000000) (implicitDefEqProofs := false) (disch := omega) [-getElem?_pos, c_impl_SetOk_b0, he]; rfl, ?_⟩
        rw [if_pos fun j h1 h2 => by omega]
        simp (maxSteps := 1000000) (implicitDefEqProofs := false) (disch := omega) [-getElem?_pos, c_blkx, take_mx]
      · have hi' : (i : Int) < (xss.length : Int) := by omega
        have hx := hv.ixV (i := (i : Int)) (by omega)
        rw [Int.toNat_natCast] at hx
        obtain ⟨c, hc1, hc2⟩ := hv.ldV (i := i) (by omega)
        have hq := hin i c _ hc2 (hbs _ (nthL_mem (by omega))) (by omega)
        by_cases hk : bkOk xss.length i (nthL xss i) = true
        · rw [if_pos hk] at hq
          refine ⟨.norm, _, by simp (maxSteps := 1000000) (implicitDefEqProofs := false) (disch := omega) [-getElem?_pos, c_impl_SetOk_b0, hi', hx, hc1, hc2.lenV]; rw [hq _ (by simp (maxSteps := 1000000) (implicitDefEqProofs := false) (disch := omega) [-getElem?_pos, take_mx])]; simp (maxSteps := 1000000) (implicitDefEqProofs := false) (disch := omega) [-getElem?_pos]; rfl, i + 1, ?_, by omega, by omega, ?_⟩
          · simp (maxSteps := 1000000) (implicitDefEqProofs := false) (disch := omega) [-getElem?_pos, take_mx]
          · congr 1
            apply propext
            exact ⟨fun h j h1 h2 => if hj : j = i then hj ▸ hk else h j h1 (by omega), fun h j h1 h2 => h j h1 (by omega)⟩
        · rw [if_neg hk] at hq
          refine ⟨.ret, _, by simp (maxSteps := 1000000) (implicitDefEqProofs := false) (disch := omega) [-getElem?_pos, c_impl_SetOk_b0, hi', hx, hc1, hc2.lenV]; rw [hq _ (by simp (maxSteps := 1000000) (implicitDefEqProofs := false) (disch := omega) [-getElem?_pos, take_mx])]; simp (maxSteps := 1000000) (implicitDefEqProofs := false) (disch := omega) [-getElem?_pos]; rfl, ?_⟩
          rw [if_neg fun h => hk (h i (by omega) (Nat.le_refl _))]
          simp (maxSteps := 1000000) (implicitDefEqProofs := false) (disch := omega) [-getElem?_pos, c_blkr, take_mx]
    have heq : setOk xss = decide (∀ b, b < xss.length → bkOk xss.length b (nthL xss b) = true) := by unfold setOk; rw [hn, Bool.true_and]
    have hl0 := fun st hst => hlp L 0 st (Nat.zero_le _) hst (by show xss.length - 0 < L; omega)
    have hn4 : (((xss.length : Int) = 1) = True) ∨ ((¬ (xss.length : Int) = 1) ∧ ((xss.length : Int) = 2) = True) ∨ ((¬ (xss.length : Int) = 1) ∧ (¬ (xss.length : Int) = 2) ∧ ((xss.length : Int) = 4) = True) ∨ ((¬ (xss.length : Int) = 1) ∧ (¬ (xss.length : Int) = 2) ∧ (¬ (xss.length : Int) = 4) ∧ ((xss.length : Int) = 8) = True) := by
      rcases hn' with h | h | h | h
      · exact .inl (eq_true (by omega))
      · exact .inr (.inl ⟨by omega, eq_true (by omega)⟩)
      · exact .inr (.inr (.inl ⟨by omega, by omega, eq_true (by omega)⟩))
      · exact .inr (.inr (.inr ⟨by omega, by omega, by omega, eq_true (by omega)⟩))
    clear hlp hn' hn
    rw [heq]
    by_cases hq : ∀ b, b < xss.length → bkOk xss.length b (nthL xss b) = true
    · rw [if_pos fun j h1 _ => hq j h1] at hl0
      rw [decide_eq_true hq]
      rcases hn4 with h | ⟨h1, h⟩ | ⟨h1, h2, h⟩ | ⟨h1, h2, h3, h⟩
      · simp (maxSteps := 1000000) (implicitDefEqProofs := false) (disch := omega) [-getElem?_pos, c_impl_SetOk, hv.lenV, h]
        rw [hl0 _ (by simp (maxSteps := 1000000) (implicitDefEqProofs := false) (disch := omega) [-getElem?_pos, take_mx])]
        simp (maxSteps := 1000000) (implicitDefEqProofs := false) (disch := omega) [-getElem?_pos]
      · simp (maxSteps := 1000000) (implicitDefEqProofs := false) (disch := omega) [-getElem?_pos, c_impl_SetOk, hv.lenV, h, h1]
        rw [hl0 _ (by simp (maxSteps := 1000000) (implicitDefEqProofs := false) (disch := omega) [-getElem?_pos, take_mx])]
        simp (maxSteps := 1000000) (implicitDefEqProofs := false) (disch := omega) [-getElem?_pos]
      · simp (maxSteps := 1000000) (implicitDefEqProofs := false) (disch := omega) [-getElem?_pos, c_impl_SetOk, hv.lenV, h, h1, h2]
        rw [hl0 _ (by simp (maxSteps := 1000000) (implicitDefEqProofs := false) (disch := omega) [-getElem?_pos, take_mx])]
        simp (maxSteps := 1000000) (implicitDefEqProofs := false) (disch := omega) [-getElem?_pos]
      · simp (maxSteps := 1000000) (implicitDefEqProofs := false) (disch := omega) [-getElem?_pos, c_impl_SetOk, hv.lenV, h, h1, h2, h3]
        rw [hl0 _ (by simp (maxSteps := 1000000) (implicitDefEqProofs := false) (disch := omega) [-getElem?_pos, take_mx])]
        simp (maxSteps := 1000000) (implicitDefEqProofs := false) (disch := omega) [-getElem?_pos]
    · rw [if_neg fun h => hq fun j h1 => h j h1 (Nat.zero_le _)] at hl0
      rw [decide_eq_false hq]
      rcases hn4 with h | ⟨h1, h⟩ | ⟨h1, h2, h⟩ | ⟨h1, h2, h3, h⟩
      · simp (maxSteps := 1000000) (implicitDefEqProofs := false) (disch := omega) [-getElem?_pos, c_impl_SetOk, hv.lenV, h]
        rw [hl0 _ (by simp (maxSteps := 1000000) (implicitDefEqProofs := false) (disch := omega) [-getElem?_pos, take_mx])]
        simp (maxSteps := 1000000) (implicitDefEqProofs := false) (disch := omega) [-getElem?_pos]
      · simp (maxSteps := 1000000) (implicitDefEqProofs := false) (disch := omega) [-getElem?_pos, c_impl_SetOk, hv.lenV, h, h1]
        rw [hl0 _ (by simp (maxSteps := 1000000) (implicitDefEqProofs := false) (disch := omega) [-getElem?_pos, take_mx])]
        simp (maxSteps := 1000000) (implicitDefEqProofs := false) (disch := omega) [-getElem?_pos]
      · simp (maxSteps := 1000000) (implicitDefEqProofs := false) (disch := omega) [-getElem?_pos, c_impl_SetOk, hv.lenV, h, h1, h2]
        rw [hl0 _ (by simp (maxSteps := 1000000) (implicitDefEqProofs := false) (disch := omega) [-getElem?_pos, take_mx])]
        simp (maxSteps := 1000000) (implicitDefEqProofs := false) (disch := omega) [-getElem?_pos]
      · simp (maxSteps := 1000000) (implicitDefEqProofs := false) (disch := omega) [-getElem?_pos, c_impl_SetOk, hv.lenV, h, h1, h2, h3]
        rw [hl0 _ (by simp (maxSteps := 1000000) (implicitDefEqProofs := false) (disch := omega) [-getElem?_pos, take_mx])]
        simp (maxSteps := 1000000) (implicitDefEqProofs := false) (disch := omega) [-getElem?_pos]
end Go.Proofs.Ytkoloapgeilbdaa
