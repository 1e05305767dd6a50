/-
  Rings: copies and comparisons.
-/
import Derived.Test.YtkoloapgeilbdaaTab
import Derived.Test.YtkoloapgeilbdaaEk
set_option linter.unusedVariables false
set_option linter.unusedSimpArgs false
namespace Go.Proofs.Ytkoloapgeilbdaa
variable {X : FuncId → List V → List Blk → Option Ret} {L : Nat}

theorem z8 : [C.int .i64 0, .int .i64 0, .int .i64 0, .int .i64 0, .int .i64 0, .int .i64 0, .int .i64 0, .int .i64 0] = ar 8 fun _ => 0 := rfl
theorem z10 : [C.int .i64 0, .int .i64 0, .int .i64 0, .int .i64 0, .int .i64 0, .int .i64 0, .int .i64 0, .int .i64 0, .int .i64 0, .int .i64 0] = ar 8 (fun _ => 0) ++ [ci 0, ci 0] := rfl

theorem den_toIntA8 (hL : 100 ≤ L) (k : Nat) (m : List Blk) (f : Nat → Int) :
    den T X L (k + 1) 67 [.agg (ar 8 f)] m = some ⟨.agg (ar 8 f), m, 0, 0⟩ := by
  rw [den_eq T_67]
  have hl := iter_rel (f := fun s => exec (den T X L k) L m.length none c_laws_toIntA8_b0 s) (tr := trim m.length (some [1, 2, 3, 4]))
    (σ := Nat × (Nat → Int)) (fun s => ⟨[(1, .c (.ptr m.length 0 8)), (2, .c (.ptr (m.length + 1) 0 8)), (3, .c (.ptr (m.length + 2) 0 8)), (4, vi s.1)], m ++ [⟨ar 8 f, 27, 0, true⟩, ⟨ar 8 fun _ => 0, 27, 0, true⟩, ⟨ar 8 s.2, 27, 0, true⟩], 0, 0⟩)
    (fun s => s.1 ≤ 8 ∧ ∀ j, j < s.1 → s.2 j = f j) (fun s => 8 - s.1)
    (fun s => (.exit 0, ⟨[(6, vb false), (5, vi 8), (1, .c (.ptr m.length 0 8)), (2, .c (.ptr (m.length + 1) 0 8)), (3, .c (.ptr (m.length + 2) 0 8)), (4, vi 8)], m ++ [⟨ar 8 f, 27, 0, true⟩, ⟨ar 8 fun _ => 0, 27, 0, true⟩, ⟨ar 8 f, 27, 0, true⟩], 0, 0⟩)) ?_
  · simp (maxSteps := 1000000) (implicitDefEqProofs := false) (disch := omega) [-getElem?_pos, c_laws_toIntA8, z8, ar_len, ar_refs]
    rw [hl L (0, fun _ => 0) _ (by simp) ?tr (by simp; omega)]
    case tr => simp (maxSteps := 1000000) (implicitDefEqProofs := false) (disch := omega) [-getElem?_pos, ar_refs]
    simp (maxSteps := 1000000) (implicitDefEqProofs := false) (disch := omega) [-getElem?_pos, ar_len, ar_refs, ar_all]
  · rintro ⟨i, g⟩ ⟨h1, h2⟩
    simp only at h1 h2
    by_cases hi : i = 8
    · subst hi
      refine ⟨.exit 0, _, by simp (maxSteps := 1000000) (implicitDefEqProofs := false) (disch := omega) [-getElem?_pos, c_laws_toIntA8_b0]; rfl, ?_⟩
      simp [ar_ext h2]
    · refine ⟨.norm, _, by simp (maxSteps := 1000000) (implicitDefEqProofs := false) (disch := omega) [-getElem?_pos, c_laws_toIntA8_b0, ar_len, ar_get', ar_lay', show (i : Int) < 8 by omega]; rfl, ?_⟩
      refine ⟨(i + 1, upd g i (f i)), ?_, ⟨by simp; omega, fun j hj => ?_⟩, by simp; omega, rfl⟩
      · simp (maxSteps := 1000000) (implicitDefEqProofs := false) (disch := omega) [-getElem?_pos]
      · by_cases e : j = i
        · subst e; simp [upd]
        · simp only [upd, e, if_false]; exact h2 j (by simp at hj; omega)

theorem den_toRing (hL : 100 ≤ L) (k : Nat) (m : List Blk) (f : Nat → Int) (a b : Int) :
    den T X L (k + 2) 21 [.agg (ar 8 f ++ [ci a, ci b])] m = some ⟨.agg (ar 8 f ++ [ci a, ci b]), m, 0, 0⟩ := by
  rw [den_eq T_21]
  simp (maxSteps := 1000000) (implicitDefEqProofs := false) (disch := omega) [-getElem?_pos, c_laws_toRing, z10, den_toIntA8 hL]
theorem den_eqIntA8 (hL : 100 ≤ L) (k : Nat) (m : List Blk) (f g : Nat → Int) :
    den T X L (k + 1) 74 [.agg (ar 8 f), .agg (ar 8 g)] m = some ⟨vb (decide (∀ i : Nat, i < 8 → f i = g i)), m, 0, 0⟩ := by
  rw [den_eq T_74]
  have hl := iter_all (f := fun s => exec (den T X L k) L m.length none c_laws_eqIntA8_b0 s) (tr := trim m.length (some [2, 3, 5]))
    (fun i => ⟨[(2, .c (.ptr m.length 0 8)), (3, .c (.ptr (m.length + 1) 0 8)), (5, vi i)], m ++ [⟨ar 8 f, 27, 0, true⟩, ⟨ar 8 g, 27, 0, true⟩], 0, 0⟩) 8 (fun i => f i = g i)
    ⟨[(4, vb false)], m, 0, 0⟩ ?s1 ?s2 ⟨0, _, by simp (maxSteps := 1000000) (implicitDefEqProofs := false) (disch := omega) [-getElem?_pos, c_laws_eqIntA8_b0]; rfl⟩
  case s1 =>
    intro i hi hk
    refine ⟨_, by simp (maxSteps := 1000000) (implicitDefEqProofs := false) (disch := omega) [-getElem?_pos, c_laws_eqIntA8_b0, show (i : Int) < 8 by omega, hk]; rfl, ?_⟩
    simp (maxSteps := 1000000) (implicitDefEqProofs := false) (disch := omega) [-getElem?_pos]
  case s2 =>
    intro i hi hk
    simp (maxSteps := 1000000) (implicitDefEqProofs := false) (disch := omega) [-getElem?_pos, c_laws_eqIntA8_b0, show (i : Int) < 8 by omega, hk]
  simp (maxSteps := 1000000) (implicitDefEqProofs := false) (disch := omega) [-getElem?_pos, c_laws_eqIntA8]
  rw [hl L 0 _ ?tr (by simp) (by omega)]
  case tr => simp (maxSteps := 1000000) (implicitDefEqProofs := false) (disch := omega) [-getElem?_pos, ar_refs]
  by_cases h : ∀ i : Nat, i < 8 → f i = g i
  · rw [if_pos fun j h1 _ => h j h1, decide_eq_true h]
    simp (maxSteps := 1000000) (implicitDefEqProofs := false) (disch := omega) [-getElem?_pos, c_laws_eqIntA8_b0]
  · rw [if_neg fun h' => h fun j h1 => h' j h1 (Nat.zero_le _), decide_eq_false h]
    simp (maxSteps := 1000000) (implicitDefEqProofs := false) (disch := omega) [-getElem?_pos]
theorem den_eqRing (hL : 100 ≤ L) (k : Nat) (m : List Blk) (f g : Nat → Int) (a b c d : Int) :
    den T X L (k + 2) 30 [.agg (ar 8 f ++ [ci a, ci b]), .agg (ar 8 g ++ [ci c, ci d])] m = some ⟨vb (decide (∀ i : Nat, i < 8 → f i = g i) && decide (a = c) && decide (b = d)), m, 0, 0⟩ := by
  rw [den_eq T_30]
  have e := fun m => den_eqIntA8 (X := X) hL k m f g
  generalize decide (∀ i : Nat, i < 8 → f i = g i) = t at e ⊢
  cases t <;> by_cases h1 : a = c <;> by_cases h2 : b = d <;> simp (maxSteps := 1000000) (implicitDefEqProofs := false) (disch := omega) [-getElem?_pos, c_laws_eqRing, e, h1, h2]
end Go.Proofs.Ytkoloapgeilbdaa
