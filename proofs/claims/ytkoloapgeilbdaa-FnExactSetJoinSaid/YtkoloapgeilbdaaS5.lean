/-
  Sets: whether a value is in one; the laws of SetOk and SetHas16.
-/
import Derived.Test.YtkoloapgeilbdaaS4
set_option linter.unusedVariables false
set_option linter.unusedSimpArgs false
set_option maxHeartbeats 4000000
namespace Go.Proofs.Ytkoloapgeilbdaa
variable {X : FuncId → List V → List Blk → Option Ret} {L : Nat}

def has (xs : List Int) (x : Int) : Bool := xs.contains x
theorem has_mem {xs : List Int} {x : Int} : has xs x = true ↔ x ∈ xs := List.contains_iff_mem
theorem contains_nth {xs : List Int} {x : Int} : has xs x = true ↔ ∃ i, i < xs.length ∧ nth xs i = x := by
  rw [has_mem, List.mem_iff_getElem]
  constructor
  · rintro ⟨i, h, rfl⟩
    exact ⟨i, h, by simp [nth, List.getD_eq_getElem?_getD, h]⟩
  · rintro ⟨i, h, rfl⟩
    exact ⟨i, h, by simp [nth, List.getD_eq_getElem?_getD, h]⟩
theorem den_Index (k : Nat) (m : List Blk) (v : C) (xs : List Int) (x : Int) (hv : Sl m v xs) (hL : xs.length < L) (hb : xs.length ≤ 1048576) :
    ∃ r : Int, den T X L (k + 1) 118 [.c v, vi x] m = some ⟨vi r, m, 0, 0⟩ ∧ decide (0 ≤ r) = has xs x := by
  rw [den_eq T_118]
  have hlp := iter_find' (f := fun s => exec (den T X L k) L m.length none c_slices_Index_int_int_b0 s) (tr := trim m.length (some [0, 1, 7, 8]))
    (fun i => ⟨[(0, .c v), (1, vi x), (7, vi xs.length), (8, vi i)], m, 0, 0⟩) xs.length (fun i => ¬ x = nth xs i)
    (fun i => (.ret, ⟨[(4, vi i)], m, 0, 0⟩)) (by simp) ?s1 ?s2 ⟨0, _, by simp (maxSteps := 1000000) (implicitDefEqProofs := false) (disch := omega) [-getElem?_pos, c_slices_Index_int_int_b0]; rfl⟩
  case s1 =>
    intro i hi hk
    have hi' : (i : Int) < (xs.length : Int) := by omega
    have hx := hv.ixV (i := (i : Int)) (by omega)
    rw [Int.toNat_natCast] at hx
    have hd := hv.ldV (i := i) (by omega)
    refine ⟨_, by simp (maxSteps := 1000000) (implicitDefEqProofs := false) (disch := omega) [-getElem?_pos, c_slices_Index_int_int_b0, hi', hx, hd, hk]; rfl, ?_⟩
    simp (maxSteps := 1000000) (implicitDefEqProofs := false) (disch := omega) [-getElem?_pos, take_mx]
  case s2 =>
    intro i hi hk
    have hi' : (i : Int) < (xs.length : Int) := by omega
    have hx := hv.ixV (i := (i : Int)) (by omega)
    rw [Int.toNat_natCast] at hx
    have hd := hv.ldV (i := i) (by omega)
    have hk' : x = nth xs i := Classical.not_not.1 hk
    simp (maxSteps := 1000000) (implicitDefEqProofs := false) (disch := omega) [-getElem?_pos, c_slices_Index_int_int_b0, hi', hx, hd, ← hk', take_mx]
  simp (maxSteps := 1000000) (implicitDefEqProofs := false) (disch := omega) [-getElem?_pos, c_slices_Index_int_int, hv.lenV]
  generalize hq : iter _ _ _ _ = q
  rcases hlp L 0 _ q hq (by simp (maxSteps := 1000000) (implicitDefEqProofs := false) (disch := omega) [-getElem?_pos, take_mx]) (Nat.zero_le _) (by omega) with ⟨h1, rfl⟩ | ⟨j, h1, h2, h3, h4, rfl⟩
  · refine ⟨-1, by simp (maxSteps := 1000000) (implicitDefEqProofs := false) (disch := omega) [-getElem?_pos, c_slices_Index_int_int_b0, take_mx], ?_⟩
    cases hc : has xs x with
    | false => simp
    | true =>
      obtain ⟨i, hi, e⟩ := contains_nth.1 hc
      exact absurd e.symm (h1 i (Nat.zero_le _) hi)
  · refine ⟨j, by simp (maxSteps := 1000000) (implicitDefEqProofs := false) (disch := omega) [-getElem?_pos, take_mx], ?_⟩
    rw [contains_nth.2 ⟨j, h2, (Classical.not_not.1 h3).symm⟩]
    simp
theorem den_Contains (k : Nat) (m : List Blk) (v : C) (xs : List Int) (x : Int) (hv : Sl m v xs) (hL : xs.length < L) (hb : xs.length ≤ 1048576) :
    den T X L (k + 2) 102 [.c v, vi x] m = some ⟨vb (has xs x), m, 0, 0⟩ := by
  obtain ⟨r, h1, h2⟩ := den_Index (X := X) k m v xs x hv hL hb
  rw [den_eq T_102, ← h2]
  simp (maxSteps := 1000000) (implicitDefEqProofs := false) (disch := omega) [-getElem?_pos, c_slices_Contains_int_int, h1]
theorem den_l1Has (k : Nat) (m : List Blk) (v : C) (xs : List Int) (x : Int) (hv : Sl m v xs) (hL : xs.length < L) (hb : xs.length ≤ 1048576) :
    den T X L (k + 1) 68 [.c v, vi x] m = some ⟨vb (has xs x), m, 0, 0⟩ := by
  rw [den_eq T_68]
  have hlp := iter_find' (f := fun s => exec (den T X L k) L m.length none c_spec_l1Has_b0 s) (tr := trim m.length (some [0, 1, 5]))
    (fun i => ⟨[(0, .c v), (1, vi x), (5, vi i)], m, 0, 0⟩) xs.length (fun i => ¬ nth xs i = x)
    (fun i => (.ret, ⟨[(4, vb true)], m, 0, 0⟩)) (by simp) ?s1 ?s2 ⟨0, _, by simp (maxSteps := 1000000) (implicitDefEqProofs := false) (disch := omega) [-getElem?_pos, c_spec_l1Has_b0, hv.lenV]; rfl⟩
  case s1 =>
    intro i hi hk
    have hi' : (i : Int) < (xs.length : Int) := by omega
    have hx := hv.ixV (i := (i : Int)) (by omega)
    rw [Int.toNat_natCast] at hx
    have hd := hv.ldV (i := i) (by omega)
    refine ⟨_, by simp (maxSteps := 1000000) (implicitDefEqProofs := false) (disch := omega) [-getElem?_pos, c_spec_l1Has_b0, hi', hv.lenV, hx, hd, hk]; rfl, ?_⟩
    simp (maxSteps := 1000000) (implicitDefEqProofs := false) (disch := omega) [-getElem?_pos, take_mx]
  case s2 =>
    intro i hi hk
    have hi' : (i : Int) < (xs.length : Int) := by omega
    have hx := hv.ixV (i := (i : Int)) (by omega)
    rw [Int.toNat_natCast] at hx
    have hd := hv.ldV (i := i) (by omega)
    have hk' : nth xs i = x := Classical.not_not.1 hk
    simp (maxSteps := 1000000) (implicitDefEqProofs := false) (disch := omega) [-getElem?_pos, c_spec_l1Has_b0, hi', hv.lenV, hx, hd, hk', take_mx]
  simp (maxSteps := 1000000) (implicitDefEqProofs := false) (disch := omega) [-getElem?_pos, c_spec_l1Has]
  generalize hq : iter _ _ _ _ = q
  rcases hlp L 0 _ q hq (by simp (maxSteps := 1000000) (implicitDefEqProofs := false) (disch := omega) [-getElem?_pos, take_mx]) (Nat.zero_le _) (by omega) with ⟨h1, rfl⟩ | ⟨j, h1, h2, h3, h4, rfl⟩
  · cases hc : has xs x with
    | false => simp (maxSteps := 1000000) (implicitDefEqProofs := false) (disch := omega) [-getElem?_pos, c_spec_l1Has_b0, hv.lenV, take_mx]
    | true =>
      obtain ⟨i, hi, e⟩ := contains_nth.1 hc
      exact absurd e (h1 i (Nat.zero_le _) hi)
  · rw [contains_nth.2 ⟨j, h2, Classical.not_not.1 h3⟩]
    simp (maxSteps := 1000000) (implicitDefEqProofs := false) (disch := omega) [-getElem?_pos, take_mx]

theorem setOk_len {xss : List (List Int)} (h : setOk xss = true) : xss.length = 1 ∨ xss.length = 2 ∨ xss.length = 4 ∨ xss.length = 8 := by
  simp only [setOk, Bool.and_eq_true] at h
  exact lenOk_iff.1 h.1
def bkt (xss : List (List Int)) (x : Int) : List Int := nthL xss (x % (xss.length : Int)).toNat
def setHas (xss : List (List Int)) (x : Int) : Bool := has (bkt xss x) x
theorem den_impl_setHas (hL : 2000000 ≤ L) (k : Nat) (m : List Blk) (v : C) (xss : List (List Int)) (x : Int) (hv : SS m v xss) (hbs : ∀ xs ∈ xss, xs.length ≤ 1048576) (ho : setOk xss = true) :
    den T X L (k + 3) 69 [.c v, vi x] m = some ⟨vb (setHas xss x), m, 0, 0⟩ := by
  rw [den_eq T_69]
  have hn := setOk_len ho
  have h1 := Int.emod_nonneg x (show (xss.length : Int) ≠ 0 by omega)
  have h2 := Int.emod_lt_of_pos x (show 0 < (xss.length : Int) by omega)
  have hp := den_placeOf (X := X) (L := L) (k + 1) m x xss.length (by omega)
  obtain ⟨q, hq⟩ : ∃ q : Nat, x % (xss.length : Int) = q := ⟨(x % (xss.length : Int)).toNat, by omega⟩
  rw [hq] at hp h2
  have hx := hv.ixV (i := (q : Int)) (by omega)
  rw [Int.toNat_natCast] at hx
  obtain ⟨c, hc1, hc2⟩ := hv.ldV (i := q) (by omega)
  have hxs := hbs _ (nthL_mem (i := q) (by omega))
  have hc := den_Contains (X := X) (L := L) k m c _ x hc2 (by omega) hxs
  unfold setHas bkt
  rw [hq, Int.toNat_natCast]
  simp (maxSteps := 1000000) (implicitDefEqProofs := false) (disch := omega) [-getElem?_pos, c_impl_setHas, hv.lenV, hp, hx, hc1, hc]
theorem den_impl_SetHas16 (hL : 2000000 ≤ L) (k : Nat) (m : List Blk) (v : C) (xss : List (List Int)) (x : Int) (hv : SS m v xss) (hb : xss.length ≤ 1048576) (hbs : ∀ xs ∈ xss, xs.length ≤ 1048576) :
    den T X L (k + 4) 27 [.c v, vi x] m = some ⟨vb (setOk xss && setHas xss x), m, 0, 0⟩ := by
  rw [den_eq T_27]
  have h1 := den_impl_SetOk (X := X) hL k m v xss hv hb hbs
  cases ho : setOk xss with
  | false => rw [ho] at h1; simp (maxSteps := 1000000) (implicitDefEqProofs := false) (disch := omega) [-getElem?_pos, c_impl_SetHas16, h1]
  | true =>
    rw [ho] at h1
    have h2 := den_impl_setHas (X := X) hL k m v xss x hv hbs ho
    simp (maxSteps := 1000000) (implicitDefEqProofs := false) (disch := omega) [-getElem?_pos, c_impl_SetHas16, h1, h2]
theorem den_spec_SetHas16 (hL : 2000000 ≤ L) (k : Nat) (m : List Blk) (v : C) (xss : List (List Int)) (x : Int) (hv : SS m v xss) (hb : xss.length ≤ 1048576) (hbs : ∀ xs ∈ xss, xs.length ≤ 1048576) :
    den T X L (k + 4) 26 [.c v, vi x] m = some ⟨vb (setOk xss && setHas xss x), m, 0, 0⟩ := by
  rw [den_eq T_26]
  have h0 := den_spec_SetOk (X := X) hL k m v xss hv hb hbs
  cases ho : setOk xss with
  | false => rw [ho] at h0; simp (maxSteps := 1000000) (implicitDefEqProofs := false) (disch := omega) [-getElem?_pos, c_spec_SetHas16, h0]
  | true =>
    rw [ho] at h0
    have hn := setOk_len ho
    have h1 := Int.emod_nonneg x (show (xss.length : Int) ≠ 0 by omega)
    have h2 := Int.emod_lt_of_pos x (show 0 < (xss.length : Int) by omega)
    have hp := den_l16Place (X := X) (L := L) (k + 2) m x xss.length (by omega)
    obtain ⟨q, hq⟩ : ∃ q : Nat, x % (xss.length : Int) = q := ⟨(x % (xss.length : Int)).toNat, by omega⟩
    rw [hq] at hp h2
    have hx := hv.ixV (i := (q : Int)) (by omega)
    rw [Int.toNat_natCast] at hx
    obtain ⟨c, hc1, hc2⟩ := hv.ldV (i := q) (by omega)
    have hxs := hbs _ (nthL_mem (i := q) (by omega))
    have hc := den_l1Has (X := X) (L := L) (k + 2) m c _ x hc2 (by omega) hxs
    unfold setHas bkt
    rw [hq, Int.toNat_natCast]
    simp (maxSteps := 1000000) (implicitDefEqProofs := false) (disch := omega) [-getElem?_pos, c_spec_SetHas16, h0, hv.lenV, hp, hx, hc1, hc]

/-! Slices of slices of the law's own. -/
theorem fresh_SS (m : List Blk) (xss : List (List Int)) : SS (freshM m xss) (.sl m.length 0 xss.length xss.length) xss := by
  refine .inr ⟨m.length, 0, xss.length, ⟨hd (m.length + 1) xss, 30, 1, true⟩, rfl, ?_, .inr rfl, fun j hj => ⟨_, by rw [Nat.zero_add]; exact hd_get hj, ?_⟩⟩
  · unfold freshM; rw [live_app0]; simp [hd_len]
  · refine live_ints (ty := 3) (o := true) ?_
    unfold freshM
    rw [show m.length + 1 + j = m.length + (j + 1) by omega, get_app]
    simp [nthL, List.getD_eq_getElem?_getD, hj, blkI]
/-- What is new is put behind. -/
theorem toSS (hL : 2000000 ≤ L) (k : Nat) (m : List Blk) (v : C) (xss : List (List Int)) (hv : SS m v xss) (hb : xss.length ≤ 1048576) (hbs : ∀ xs ∈ xss, xs.length ≤ 1048576) :
    ∃ l e, den T X L (k + 2) 17 [.c v] m = some ⟨.c (.sl m.length 0 xss.length xss.length), m ++ l, e, 0⟩ ∧ SS (m ++ l) (.sl m.length 0 xss.length xss.length) xss :=
  ⟨_, _, den_toIntSS hL k m v xss hv hb hbs, fresh_SS m xss⟩
theorem sz_ok {xss : List (List Int)} {left : Int} (h0 : 0 ≤ left) (h1 : left ≤ 1048576) (h : 0 ≤ szSS xss left) : xss.length ≤ 1048576 ∧ (∀ xs ∈ xss, xs.length ≤ 1048576) ∧ szSS xss left ≤ left := by
  unfold szSS at h ⊢
  split at h
  · omega
  · rename_i hl
    rw [if_neg hl]
    have h2 := szL_le (xss := xss) (left := left - xss.length) (by omega)
    refine ⟨by omega, fun xs hx => ?_, by omega⟩
    have := szL_len (by omega) h xs hx
    omega
theorem take_end {m l : List Blk} {k : Nat} : List.take m.length (List.take (mx m.length k) (m ++ l)) = m := by
  rw [List.take_take, Nat.min_eq_left (le_mx_l _ _), List.take_left]
theorem den_FnExactSetOk (hL : 4000000 ≤ L) (k : Nat) (m : List Blk) (v : C) (xss : List (List Int)) (hv : SS m v xss) (hb : xss.length ≤ 9223372036854775807) (hbs : ∀ xs ∈ xss, xs.length ≤ 9223372036854775807) :
    den T X L (k + 4) 3 [.c v] m = some ⟨vb true, m, 0, 0⟩ := by
  rw [den_eq T_3]
  have hsz := den_szIntSS (X := X) (L := L) (by omega) (k + 1) m v xss 1048576 hv hb hbs (by omega)
  by_cases h0 : szSS xss 1048576 < 0
  · simp (maxSteps := 1000000) (implicitDefEqProofs := false) (disch := omega) [-getElem?_pos, c_laws_FnExactSetOk, hsz, h0]
  · obtain ⟨h1, h2, _⟩ := sz_ok (xss := xss) (left := 1048576) (by omega) (by omega) (by omega)
    obtain ⟨l1, e1, d1, s1⟩ := toSS (X := X) (L := L) (by omega) (k + 1) m v xss hv h1 h2
    obtain ⟨l2, e2, d2, s2⟩ := toSS (X := X) (L := L) (by omega) (k + 1) (m ++ l1) v xss hv.grow h1 h2
    obtain ⟨l3, e3, d3, s3⟩ := toSS (X := X) (L := L) (by omega) (k + 1) (m ++ l1 ++ l2) v xss hv.grow.grow h1 h2
    have o1 := den_spec_SetOk (X := X) (L := L) (by omega) k (m ++ l1) _ xss s1 h1 h2
    have o2 := den_impl_SetOk (X := X) (L := L) (by omega) k (m ++ l1 ++ l2) _ xss s2 h1 h2
    have o3 := den_eqIntSS (X := X) (L := L) (by omega) (k + 1) (m ++ l1 ++ l2 ++ l3) _ _ xss xss s2.grow s3 h1 h2
    simp only [List.append_assoc, List.length_append, decide_true] at d2 d3 o2 o3
    generalize setOk xss = r at o1 o2
    cases r <;> simp (maxSteps := 1000000) (implicitDefEqProofs := false) (disch := omega) [-getElem?_pos, c_laws_FnExactSetOk, hsz, h0, d1, d2, d3, o1, o2, o3, take_end]
theorem den_FnExactSetHas16 (hL : 4000000 ≤ L) (k : Nat) (m : List Blk) (v : C) (xss : List (List Int)) (x : Int) (hv : SS m v xss) (hb : xss.length ≤ 9223372036854775807) (hbs : ∀ xs ∈ xss, xs.length ≤ 9223372036854775807) :
    den T X L (k + 5) 5 [.c v, vi x] m = some ⟨vb true, m, 0, 0⟩ := by
  rw [den_eq T_5]
  have hsz := den_szIntSS (X := X) (L := L) (by omega) (k + 2) m v xss 1048576 hv hb hbs (by omega)
  by_cases h0 : szSS xss 1048576 < 0
  · simp (maxSteps := 1000000) (implicitDefEqProofs := false) (disch := omega) [-getElem?_pos, c_laws_FnExactSetHas16, hsz, h0]
  · obtain ⟨h1, h2, _⟩ := sz_ok (xss := xss) (left := 1048576) (by omega) (by omega) (by omega)
    obtain ⟨l1, e1, d1, s1⟩ := toSS (X := X) (L := L) (by omega) (k + 2) m v xss hv h1 h2
    obtain ⟨l2, e2, d2, s2⟩ := toSS (X := X) (L := L) (by omega) (k + 2) (m ++ l1) v xss hv.grow h1 h2
    obtain ⟨l3, e3, d3, s3⟩ := toSS (X := X) (L := L) (by omega) (k + 2) (m ++ l1 ++ l2) v xss hv.grow.grow h1 h2
    have o1 := den_spec_SetHas16 (X := X) (L := L) (by omega) k (m ++ l1) _ xss x s1 h1 h2
    have o2 := den_impl_SetHas16 (X := X) (L := L) (by omega) k (m ++ l1 ++ l2) _ xss x s2 h1 h2
    have o3 := den_eqIntSS (X := X) (L := L) (by omega) (k + 2) (m ++ l1 ++ l2 ++ l3) _ _ xss xss s2.grow s3 h1 h2
    simp only [List.append_assoc, List.length_append, decide_true] at d2 d3 o2 o3
    generalize (setOk xss && setHas xss x) = r at o1 o2
    cases r <;> simp (maxSteps := 1000000) (implicitDefEqProofs := false) (disch := omega) [-getElem?_pos, c_laws_FnExactSetHas16, hsz, h0, d1, d2, d3, o1, o2, o3, take_end]
end Go.Proofs.Ytkoloapgeilbdaa
