/-
  Small tests of numbers, and of lists of them.
-/
import Derived.Test.YtkoloapgeilbdaaR1
import Derived.Test.YtkoloapgeilbdaaB1
set_option linter.unusedVariables false
set_option linter.unusedSimpArgs false
namespace Go.Proofs.Ytkoloapgeilbdaa
variable {X : FuncId → List V → List Blk → Option Ret} {L : Nat}

theorem den_IndexFunc (k : Nat) (m : List Blk) (v : C) (xs : List Int) (g : FuncId) (p : Int → Bool) (hv : Sl m v xs) (hL : xs.length < L) (hb : xs.length < 9000000000000000000)
    (hp : ∀ x, den T X L k g [vi x] m = some ⟨vb (p x), m, 0, 0⟩) :
    ∃ r : Int, den T X L (k + 1) 110 [.c v, .c (.fn g)] m = some ⟨vi r, m, 0, 0⟩ ∧ decide (0 ≤ r) = xs.any p := by
  rw [den_eq T_110]
  have hl := iter_find' (f := fun s => exec (den T X L k) L m.length none c_slices_IndexFunc_int_int_b0 s) (tr := trim m.length (some [0, 1, 7, 8]))
    (fun i => ⟨[(0, .c v), (1, .c (.fn g)), (7, vi xs.length), (8, vi i)], m, 0, 0⟩) xs.length (fun i => p (nth xs i) = false)
    (fun i => (.ret, ⟨[(4, vi i)], m, 0, 0⟩)) (by simp) ?s1 ?s2 ⟨0, _, by simp (maxSteps := 1000000) (implicitDefEqProofs := false) (disch := omega) [-getElem?_pos, c_slices_IndexFunc_int_int_b0]; rfl⟩
  case s1 =>
    intro i hi hk
    rcases hv with ⟨rfl, rfl⟩ | ⟨b, off, tot, blk, rfl, h2, h3, h4⟩
    · simp at hi
    · refine ⟨_, by simp (maxSteps := 1000000) (implicitDefEqProofs := false) (disch := omega) [-getElem?_pos, c_slices_IndexFunc_int_int_b0, show (i : Int) < xs.length by omega, h2, h4 i hi, hp, hk]; rfl, ?_⟩
      have := live_lt h2
      simp (maxSteps := 1000000) (implicitDefEqProofs := false) (disch := omega) [-getElem?_pos]
  case s2 =>
    intro i hi hk
    have hk : p (nth xs i) = true := by simpa using hk
    rcases hv with ⟨rfl, rfl⟩ | ⟨b, off, tot, blk, rfl, h2, h3, h4⟩
    · simp at hi
    · simp (maxSteps := 1000000) (implicitDefEqProofs := false) (disch := omega) [-getElem?_pos, c_slices_IndexFunc_int_int_b0, show (i : Int) < xs.length by omega, h2, h4 i hi, hp, hk]
  have hany : ∀ c : Bool, ((∀ j, 0 ≤ j → j < xs.length → p (nth xs j) = false) → c = false) → ((∃ j, j < xs.length ∧ p (nth xs j) = true) → c = true) → c = xs.any p := by
    intro c h1 h2
    cases h : xs.any p with
    | false =>
      refine h1 fun j _ hj => ?_
      have := List.any_eq_false.mp h (nth xs j) (by unfold nth; rw [List.getD_eq_getElem?_getD, List.getElem?_eq_getElem hj]; exact List.getElem_mem hj)
      simpa using this
    | true =>
      obtain ⟨x, hx, hpx⟩ := List.any_eq_true.mp h
      obtain ⟨j, hj, rfl⟩ := List.getElem_of_mem hx
      refine h2 ⟨j, hj, ?_⟩
      unfold nth
      rw [List.getD_eq_getElem?_getD, List.getElem?_eq_getElem hj]
      exact hpx
  rcases hv with ⟨rfl, rfl⟩ | ⟨b, off, tot, blk, rfl, h2, h3, h4⟩
  · simp (maxSteps := 1000000) (implicitDefEqProofs := false) (disch := omega) [-getElem?_pos, c_slices_IndexFunc_int_int]
    generalize hx : iter _ _ _ _ = x
    rcases hl L 0 _ x hx (by simp (maxSteps := 1000000) (implicitDefEqProofs := false) (disch := omega) [-getElem?_pos]) (Nat.zero_le _) (by omega) with ⟨h1, rfl⟩ | ⟨j, h1, h2, h3, h4, rfl⟩
    · refine ⟨-1, ?_, by simp⟩
      simp (maxSteps := 1000000) (implicitDefEqProofs := false) (disch := omega) [-getElem?_pos, c_slices_IndexFunc_int_int_b0]
    · simp at h2
  · have hlt := live_lt h2
    simp (maxSteps := 1000000) (implicitDefEqProofs := false) (disch := omega) [-getElem?_pos, c_slices_IndexFunc_int_int, h2]
    generalize hx : iter _ _ _ _ = x
    rcases hl L 0 _ x hx (by simp (maxSteps := 1000000) (implicitDefEqProofs := false) (disch := omega) [-getElem?_pos]) (Nat.zero_le _) (by omega) with ⟨h1, rfl⟩ | ⟨j, h1, h2, h3, h4, rfl⟩
    · refine ⟨-1, ?_, hany _ (fun _ => by simp) fun ⟨j, h3, h4⟩ => by rw [h1 j (Nat.zero_le _) h3] at h4; cases h4⟩
      simp (maxSteps := 1000000) (implicitDefEqProofs := false) (disch := omega) [-getElem?_pos, c_slices_IndexFunc_int_int_b0]
    · refine ⟨j, ?_, hany _ (fun h => absurd (h j h1 h2) h3) fun _ => by simp⟩
      simp (maxSteps := 1000000) (implicitDefEqProofs := false) (disch := omega) [-getElem?_pos]
theorem den_ContainsFunc (k : Nat) (m : List Blk) (v : C) (xs : List Int) (g : FuncId) (p : Int → Bool) (hv : Sl m v xs) (hL : xs.length < L) (hb : xs.length < 9000000000000000000)
    (hp : ∀ x, den T X L k g [vi x] m = some ⟨vb (p x), m, 0, 0⟩) :
    den T X L (k + 2) 106 [.c v, .c (.fn g)] m = some ⟨vb (xs.any p), m, 0, 0⟩ := by
  obtain ⟨r, h1, h2⟩ := den_IndexFunc (X := X) k m v xs g p hv hL hb hp
  rw [den_eq T_106, ← h2]
  simp (maxSteps := 1000000) (implicitDefEqProofs := false) (disch := omega) [-getElem?_pos, c_slices_ContainsFunc_int_int, h1]
theorem den_areValues (k : Nat) (m : List Blk) (v : C) (xs : List Int) (hv : Sl m v xs) (hL : xs.length < L) (hb : xs.length < 9000000000000000000) :
    den T X L (k + 6) 84 [.c v] m = some ⟨vb (xs.all isVal), m, 0, 0⟩ := by
  have h1 : ∀ x, den T X L (k + 3) 107 [vi x] m = some ⟨vb (!isVal x), m, 0, 0⟩ := by
    intro x
    rw [den_eq T_107]
    simp (maxSteps := 1000000) (implicitDefEqProofs := false) (disch := omega) [-getElem?_pos, c_impl_areValues_1, den_isValue]
  have h2 := den_ContainsFunc (X := X) (k + 3) m v xs 107 (fun x => !isVal x) hv hL hb h1
  rw [den_eq T_84]
  have e : (xs.any fun x => !isVal x) = !xs.all isVal := by
    induction xs with
    | nil => rfl
    | cons x xs ih => simp [List.any_cons, List.all_cons, List.not_all_eq_any_not]
  rw [e] at h2
  simp (maxSteps := 1000000) (implicitDefEqProofs := false) (disch := omega) [-getElem?_pos, c_impl_areValues, h2]
end Go.Proofs.Ytkoloapgeilbdaa
