/-
  Sets: dropped, the program's way and the reference's.
-/
import Derived.Test.YtkoloapgeilbdaaSA
set_option linter.unusedVariables false
set_option linter.unusedSimpArgs false
set_option maxHeartbeats 4000000
namespace Go.Proofs.Ytkoloapgeilbdaa
variable {X : FuncId → List V → List Blk → Option Ret} {L : Nat}

/-! A value taken out of a list in a block of its own. -/
theorem den_dropTest (k : Nat) (m : List Blk) (b : Nat) (y x : Int) (hb : live m b 1 = some ⟨[ci x], 3, 0, true⟩) : den T X L (k + 1) 88 [vi y, .c (.ptr b 0 1)] m = some ⟨vb (decide (y = x)), m, 0, 0⟩ := by
  rw [den_eq T_88]
  simp (maxSteps := 1000000) (implicitDefEqProofs := false) (disch := omega) [-getElem?_pos, c_impl_SetDrop_1, hb]
/-- What is kept of the first places; the others as they were. -/
def keep (xs : List Int) (x : Int) (n : Nat) : List Int := (xs.take n).filter fun y => !decide (y = x)
theorem den_IndexFunc1 (k : Nat) (m : List Blk) (v : C) (xs : List Int) (bx : Nat) (x : Int) (hbx : live m bx 1 = some ⟨[ci x], 3, 0, true⟩) (hv : Sl m v xs) (hL : xs.length < L) (hb : xs.length ≤ 1048576) :
    ∃ r : Int, den T X L (k + 2) 110 [.c v, .c (.clp 88 bx 0 1)] m = some ⟨vi r, m, 0, 0⟩ ∧
      ((r = -1 ∧ ∀ j, j < xs.length → nth xs j ≠ x) ∨ ∃ i : Nat, r = i ∧ i < xs.length ∧ nth xs i = x ∧ ∀ j, j < i → nth xs j ≠ x) := by
  rw [den_eq T_110]
  have ht := fun y => den_dropTest (X := X) (L := L) k m bx y x hbx
  have hlp := iter_find' (f := fun s => exec (den T X L (k + 1)) L m.length none c_slices_IndexFunc_int_int_b0 s) (tr := trim m.length (some [0, 1, 7, 8]))
    (fun i => ⟨[(0, .c v), (1, .c (.clp 88 bx 0 1)), (7, vi xs.length), (8, vi i)], m, 0, 0⟩) xs.length (fun i => nth xs i ≠ x)
    (fun i => (.ret, ⟨[(4, vi i)], m, 0, 0⟩)) (by simp) ?s1 ?s2 ⟨0, _, by simp (maxSteps := 1000000) (implicitDefEqProofs := false) (disch := omega) [-getElem?_pos, c_slices_IndexFunc_int_int_b0]; rfl⟩
  case s1 =>
    intro i hi hk
    have hi' : (i : Int) < (xs.length : Int) := by omega
    have hx := hv.ixV (i := (i : Int)) (by omega)
    rw [Int.toNat_natCast] at hx
    have hd := hv.ldV (i := i) (by omega)
    have hk' : ¬ nth xs i = x := hk
    refine ⟨_, by simp (maxSteps := 1000000) (implicitDefEqProofs := false) (disch := omega) [-getElem?_pos, c_slices_IndexFunc_int_int_b0, hi', hx, hd, ht, hk']; rfl, ?_⟩
    simp (maxSteps := 1000000) (implicitDefEqProofs := false) (disch := omega) [-getElem?_pos, take_mx]
  case s2 =>
    intro i hi hk
    have hi' : (i : Int) < (xs.length : Int) := by omega
    have hx := hv.ixV (i := (i : Int)) (by omega)
    rw [Int.toNat_natCast] at hx
    have hd := hv.ldV (i := i) (by omega)
    have hk' : nth xs i = x := Classical.not_not.1 hk
    simp (maxSteps := 1000000) (implicitDefEqProofs := false) (disch := omega) [-getElem?_pos, c_slices_IndexFunc_int_int_b0, hi', hx, hd, ht, hk', take_mx]
  simp (maxSteps := 1000000) (implicitDefEqProofs := false) (disch := omega) [-getElem?_pos, c_slices_IndexFunc_int_int, hv.lenV]
  generalize hq : iter _ _ _ _ = q
  rcases hlp L 0 _ q hq (by simp (maxSteps := 1000000) (implicitDefEqProofs := false) (disch := omega) [-getElem?_pos, take_mx]) (Nat.zero_le _) (by omega) with ⟨h1, rfl⟩ | ⟨j, h1, h2, h3, h4, rfl⟩
  · exact ⟨-1, by simp (maxSteps := 1000000) (implicitDefEqProofs := false) (disch := omega) [-getElem?_pos, c_slices_IndexFunc_int_int_b0, take_mx], .inl ⟨rfl, fun j hj => h1 j (Nat.zero_le _) hj⟩⟩
  · exact ⟨j, by simp (maxSteps := 1000000) (implicitDefEqProofs := false) (disch := omega) [-getElem?_pos, take_mx], .inr ⟨j, rfl, h2, Classical.not_not.1 h3, fun i hi => h4 i (Nat.zero_le _) hi⟩⟩
/-- The cells while the later ones are put one place ahead. -/
def shf (xs : List Int) (i j : Nat) (q : Nat) : Int := if i ≤ q ∧ q + 1 < j then nth xs (q + 1) else nth xs q
theorem shf_start (xs : List Int) (i : Nat) (n : Nat) : ar n (shf xs i (i + 1)) = ar n (nth xs) := ar_ext fun q _ => by
  unfold shf
  rw [if_neg (by omega)]
theorem shf_step {xs : List Int} {i j n : Nat} (h : i < j) : ar n (upd (shf xs i j) (j - 1) (nth xs j)) = ar n (shf xs i (j + 1)) := ar_ext fun q _ => by
  unfold upd shf
  by_cases h1 : q = j - 1
  · subst h1
    rw [if_pos rfl, if_pos (by omega), show j - 1 + 1 = j by omega]
  · rw [if_neg h1]
    by_cases h2 : i ≤ q ∧ q + 1 < j
    · rw [if_pos h2, if_pos (by omega)]
    · rw [if_neg h2, if_neg (by omega)]
theorem ar_nth (xs : List Int) : ar xs.length (nth xs) = ints xs := by rw [ar_of_list]; rfl
def without (xs : List Int) (x : Int) : List Int := xs.filter fun y => !decide (y = x)
theorem without_at {x : Int} : ∀ {xs : List Int} {i : Nat}, i < xs.length → nth xs i = x → (∀ j, j < xs.length → j ≠ i → nth xs j ≠ x) → without xs x = xs.take i ++ xs.drop (i + 1)
  | [], i, h, _, _ => by simp at h
  | y :: r, 0, h, h1, h2 => by
    have hy : y = x := by simpa [nth] using h1
    have hr : r.filter (fun z => !decide (z = x)) = r := List.filter_eq_self.2 fun z hz => by
      obtain ⟨j, hj, rfl⟩ := List.getElem_of_mem hz
      have := h2 (j + 1) (by simp only [List.length_cons]; omega) (by omega)
      have hn : nth (y :: r) (j + 1) = r[j] := by simp [nth, List.getD_eq_getElem?_getD, hj]
      rw [hn] at this
      simpa using this
    simp [without, hy, hr]
  | y :: r, i + 1, h, h1, h2 => by
    simp only [List.length_cons] at h
    have hy : y ≠ x := by
      have := h2 0 (by simp) (by omega)
      simpa [nth] using this
    have ih := without_at (x := x) (xs := r) (i := i) (by omega) (by simpa [nth] using h1) (fun j hj hne => by
      have := h2 (j + 1) (by simp only [List.length_cons]; omega) (by omega)
      simpa [nth] using this)
    unfold without at ih ⊢
    simp [hy, ih]
theorem den_DeleteFunc (hL : 2000000 ≤ L) (k : Nat) (m : List Blk) (b bx : Nat) (xs : List Int) (x : Int) (i : Nat) (hbx : live m bx 1 = some ⟨[ci x], 3, 0, true⟩) (hbb : bx ≠ b) (hm : m[b]? = some (blkI xs)) (hb : xs.length ≤ 1048576) (hi : i < xs.length) (hx : nth xs i = x) (hne : ∀ j, j < xs.length → j ≠ i → nth xs j ≠ x) :
    ∃ cs, den T X L (k + 3) 87 [.c (.sl b 0 xs.length xs.length), .c (.clp 88 bx 0 1)] m = some ⟨.c (.sl b 0 (xs.length - 1) xs.length), m.set b ⟨cs, 3, 1, true⟩, 0, m.length - b⟩ ∧
      cs.length = xs.length ∧ (without xs x).length = xs.length - 1 ∧ ∀ j, j < xs.length - 1 → cs[j]? = some (ci (nth (without xs x) j)) := by
  rw [den_eq T_87]
  have hlt := lt_of_get hm
  have hsl : Sl m (.sl b 0 xs.length xs.length) xs := live_ints hm
  obtain ⟨r, d1, hr⟩ := den_IndexFunc1 (X := X) (L := L) k m _ xs bx x hbx hsl (by omega) hb
  have hri : r = i := by
    rcases hr with ⟨_, h⟩ | ⟨i', h1, h2, h3, h4⟩
    · exact absurd hx (h i hi)
    · by_cases e : i' = i
      · rw [h1, e]
      · exact absurd h3 (hne i' h2 e)
  subst hri
  have hW : ¬ m.length - b = 0 := by omega
  have hwo := without_at hi hx hne
  have hwl : (without xs x).length = xs.length - 1 := by rw [hwo, List.length_append, List.length_take, List.length_drop]; omega
  have hlp := iter_blk (n0 := m.length) (id := 0) (ka := some [0, 5]) (f := fun s => exec (den T X L (k + 2)) L m.length none c_slices_DeleteFunc_int_int_b0 s) (tr := trim m.length (some [0, 1, 5, 6])) (σ := Nat)
    (fun j => ⟨[(0, .c (.sl b 0 xs.length xs.length)), (1, .c (.clp 88 bx 0 1)), (5, vi ((j : Int) - 1)), (6, vi j)], m.set b ⟨ar xs.length (shf xs i j), 3, 1, true⟩, 0, if j = i + 1 then 0 else m.length - b⟩) (fun j => i + 1 ≤ j ∧ j ≤ xs.length) (fun j => xs.length - j)
    (fun j => (.norm, ⟨[(0, .c (.sl b 0 xs.length xs.length)), (5, vi ((xs.length : Int) - 1))], m.set b ⟨ar xs.length (shf xs i xs.length), 3, 1, true⟩, 0, if xs.length = i + 1 then 0 else m.length - b⟩)) ?w
  case w =>
    rintro j ⟨h1, h2⟩
    have hlv : live (m.set b ⟨ar xs.length (shf xs i j), 3, 1, true⟩) b xs.length = some ⟨ar xs.length (shf xs i j), 3, 1, true⟩ := by rw [live_set _ _ _ _ hlt]; simp [ar_len]
    by_cases he : j = xs.length
    · subst he
      refine ⟨.exit 0, _, by simp (maxSteps := 1000000) (implicitDefEqProofs := false) (disch := omega) [-getElem?_pos, c_slices_DeleteFunc_int_int_b0, hlv]; rfl, ?_⟩
      simp (maxSteps := 1000000) (implicitDefEqProofs := false) (disch := omega) [-getElem?_pos, c_blkx, take_set']
    · have hj' : (j : Int) < (xs.length : Int) := by omega
      have hne' := hne j (by omega) (by omega)
      have hsj : shf xs i j j = nth xs j := by unfold shf; rw [if_neg (by omega)]
      have hj1 : ((j : Int) - 1).toNat = j - 1 := by omega
      have hst := shf_step (xs := xs) (n := xs.length) (show i < j by omega)
      have ht' : ∀ z, den T X L (k + 2) 88 [vi (nth xs j), .c (.ptr bx 0 1)] (m.set b z) = some ⟨vb false, m.set b z, 0, 0⟩ := fun z => by
        rw [den_dropTest (k + 1) (m.set b z) bx (nth xs j) x (by unfold live at hbx ⊢; rw [List.getElem?_set_ne (Ne.symm hbb)]; exact hbx), decide_eq_false hne']
      refine ⟨.norm, _, by simp (maxSteps := 1000000) (implicitDefEqProofs := false) (disch := omega) [-getElem?_pos, c_slices_DeleteFunc_int_int_b0, hlv, hj', hsj, ht', hj1, hst, List.set_set, List.length_set]; rfl, j + 1, ?_, ⟨by omega, by omega⟩, by omega, rfl⟩
      simp (maxSteps := 1000000) (implicitDefEqProofs := false) (disch := omega) [-getElem?_pos, take_set']
      rw [if_neg (show ¬ j = i by omega)]
      split
      · exact mx_zero_l _
      · exact mx_r (Nat.le_refl _)
  have h0 : m.set b ⟨ar xs.length (shf xs i (i + 1)), 3, 1, true⟩ = m := by
    rw [shf_start, ar_nth]
    apply List.ext_getElem?
    intro j
    by_cases hj : b = j
    · subst hj; rw [List.getElem?_set_self hlt, hm]
    · rw [List.getElem?_set_ne hj]
  have hlv2 : live (m.set b ⟨ar xs.length (shf xs i xs.length), 3, 1, true⟩) b xs.length = some ⟨ar xs.length (shf xs i xs.length), 3, 1, true⟩ := by rw [live_set _ _ _ _ hlt]; simp [ar_len]
  have hn1 : ((xs.length : Int) - 1).toNat = xs.length - 1 := by omega
  have hi1 : ¬ (i : Int) = -1 := by omega
  have hp1 : (0 : Int) ≤ (xs.length : Int) - 1 := by omega
  have hd1 : ((xs.length : Int) - ((xs.length : Int) - 1)).toNat = 1 := by omega
  have hs1 : xs.length - 1 + 1 ≤ xs.length := by omega
  have hmx : mx (if xs.length = i + 1 then 0 else m.length - b) (m.length - b) = m.length - b := by
    split
    · exact mx_zero_l _
    · exact mx_r (Nat.le_refl _)
  refine ⟨ar xs.length (upd (shf xs i xs.length) (xs.length - 1) 0), ?_, by rw [ar_len], hwl, fun j hj => ?_⟩
  · simp (maxSteps := 1000000) (implicitDefEqProofs := false) (disch := omega) [-getElem?_pos, c_slices_DeleteFunc_int_int, d1, hi1]
    rw [hlp L (i + 1) _ ⟨Nat.le_refl _, by omega⟩ ?tr (by show xs.length - (i + 1) < L; omega)]
    case tr =>
      simp (maxSteps := 1000000) (implicitDefEqProofs := false) (disch := omega) [-getElem?_pos, h0, take_mx]
    simp (maxSteps := 1000000) (implicitDefEqProofs := false) (disch := omega) [-getElem?_pos, hlv2, hn1, hp1, hd1, hs1, List.set_set, take_set', List.length_set, hW, hmx]
  · rw [ar_get' (by omega), upd_ne _ _ (by omega)]
    congr 2
    unfold shf
    rw [hwo]
    by_cases hji : j < i
    · rw [if_neg (by omega)]
      simp [nth, List.getD_eq_getElem?_getD, List.getElem?_append, List.getElem?_take, hji, show j < xs.length by omega, show i ≤ xs.length by omega, Nat.min_eq_left (show i ≤ xs.length by omega)]
    · rw [if_pos (by omega)]
      simp [nth, List.getD_eq_getElem?_getD, List.getElem?_append, Nat.min_eq_left (show i ≤ xs.length by omega), hji]
      rw [show i + 1 + (j - i) = j + 1 by omega]
end Go.Proofs.Ytkoloapgeilbdaa
