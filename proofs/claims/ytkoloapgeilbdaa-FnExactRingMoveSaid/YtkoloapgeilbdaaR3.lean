/-
  RingOk, the program's and the reference's.
-/
import Derived.Test.YtkoloapgeilbdaaR2
set_option linter.unusedVariables false
set_option linter.unusedSimpArgs false
namespace Go.Proofs.Ytkoloapgeilbdaa
variable {X : FuncId → List V → List Blk → Option Ret} {L : Nat}

def ix8 (a i : Int) : Nat := ((a + i) % 8).toNat
def okC (f : Nat → Int) (a b i : Int) : Bool := if i < b then isVal (f (ix8 a i)) else decide (f (ix8 a i) = 0)
def ringOk (f : Nat → Int) (a b : Int) : Bool := inB a 0 7 && inB b 0 8 && decide (∀ i : Nat, i < 8 → okC f a b i = true)
abbrev ring (f : Nat → Int) (a b : Int) : List C := ar 8 f ++ [ci a, ci b]

theorem den_spec_RingOk (hL : 100 ≤ L) (k : Nat) (m : List Blk) (f : Nat → Int) (a b : Int) :
    den T X L (k + 3) 66 [.agg (ring f a b)] m = some ⟨vb (ringOk f a b), m, 0, 0⟩ := by
  rw [den_eq T_66]
  by_cases ha : 0 ≤ a ∧ a ≤ 7
  case neg => simp (maxSteps := 1000000) (implicitDefEqProofs := false) (disch := omega) [-getElem?_pos, c_spec_RingOk, den_l1In, ringOk, inB_neg ha]
  by_cases hb : 0 ≤ b ∧ b ≤ 8
  case neg => simp (maxSteps := 1000000) (implicitDefEqProofs := false) (disch := omega) [-getElem?_pos, c_spec_RingOk, den_l1In, ringOk, inB_neg hb, inB_pos ha]
  have hl := iter_all (f := fun s => exec (den T X L (k + 2)) L m.length none c_spec_RingOk_b0 s) (tr := trim m.length (some [1, 3]))
    (fun i => ⟨[(1, .c (.ptr m.length 0 10)), (3, vi i)], m ++ [⟨ring f a b, 32, 0, true⟩], 0, 0⟩) 8 (fun i => okC f a b i = true)
    ⟨[(2, vb false)], m, 0, 0⟩ ?s1 ?s2 ⟨0, _, by simp (maxSteps := 1000000) (implicitDefEqProofs := false) (disch := omega) [-getElem?_pos, c_spec_RingOk_b0]; rfl⟩
  case s1 =>
    intro i hi hk
    by_cases hib : (i : Int) < b
    · have hk : isVal (f ((a + i) % 8).toNat) = true := by simpa [okC, hib, ix8] using hk
      refine ⟨_, by simp (maxSteps := 1000000) (implicitDefEqProofs := false) (disch := omega) [-getElem?_pos, c_spec_RingOk_b0, show (i : Int) < 8 by omega, den_l1Value, hib, hk, show ¬ b ≤ (i : Int) by omega]; rfl, ?_⟩
      simp (maxSteps := 1000000) (implicitDefEqProofs := false) (disch := omega) [-getElem?_pos]
    · have hk : f ((a + i) % 8).toNat = 0 := by unfold okC at hk; rw [if_neg hib] at hk; exact of_decide_eq_true hk
      refine ⟨_, by simp (maxSteps := 1000000) (implicitDefEqProofs := false) (disch := omega) [-getElem?_pos, c_spec_RingOk_b0, show (i : Int) < 8 by omega, den_l1Value, hib, hk, show b ≤ (i : Int) by omega]; rfl, ?_⟩
      simp (maxSteps := 1000000) (implicitDefEqProofs := false) (disch := omega) [-getElem?_pos]
  case s2 =>
    intro i hi hk
    by_cases hib : (i : Int) < b
    · have hk : isVal (f ((a + i) % 8).toNat) = false := by simpa [okC, hib, ix8] using hk
      simp (maxSteps := 1000000) (implicitDefEqProofs := false) (disch := omega) [-getElem?_pos, c_spec_RingOk_b0, show (i : Int) < 8 by omega, den_l1Value, hib, hk, show ¬ b ≤ (i : Int) by omega]
    · have hk : ¬ f ((a + i) % 8).toNat = 0 := fun h => hk (by unfold okC; rw [if_neg hib]; exact decide_eq_true h)
      simp (maxSteps := 1000000) (implicitDefEqProofs := false) (disch := omega) [-getElem?_pos, c_spec_RingOk_b0, show (i : Int) < 8 by omega, den_l1Value, hib, hk, show b ≤ (i : Int) by omega]
  simp (maxSteps := 1000000) (implicitDefEqProofs := false) (disch := omega) [-getElem?_pos, c_spec_RingOk, den_l1In, ringOk, inB_pos ha, inB_pos hb]
  rw [hl L 0 _ ?tr (by simp) (by omega)]
  case tr => simp (maxSteps := 1000000) (implicitDefEqProofs := false) (disch := omega) [-getElem?_pos, ar_refs]
  by_cases h : ∀ i : Nat, i < 8 → okC f a b i = true
  · rw [if_pos fun j h1 _ => h j h1, decide_eq_true h]
    simp (maxSteps := 1000000) (implicitDefEqProofs := false) (disch := omega) [-getElem?_pos, c_spec_RingOk_b0]
  · rw [if_neg fun h' => h fun j h1 => h' j h1 (Nat.zero_le _), decide_eq_false h]
    simp (maxSteps := 1000000) (implicitDefEqProofs := false) (disch := omega) [-getElem?_pos]

theorem ok_split {f : Nat → Int} {a b : Int} (ha : 0 ≤ a ∧ a ≤ 7) (hb : 0 ≤ b ∧ b ≤ 8) :
    (∀ i : Nat, i < 8 → okC f a b i = true) ↔ (∀ i : Nat, i < 8 → isVal (f i) = true) ∧ ∀ i : Nat, i < 8 → b.toNat ≤ i → f ((a + i) % 8).toNat = 0 := by
  have h0 : isVal 0 = true := by decide
  constructor
  · intro h
    constructor
    · intro i hi
      have := h ((i + 8 - a.toNat) % 8) (Nat.mod_lt _ (by omega))
      unfold okC ix8 at this
      rw [show ((a + ((i + 8 - a.toNat) % 8 : Nat)) % 8).toNat = i by omega] at this
      split at this
      · exact this
      · rw [of_decide_eq_true this]; exact h0
    · intro i hi hbi
      have := h i hi
      unfold okC ix8 at this
      rw [if_neg (by omega)] at this
      exact of_decide_eq_true this
  · intro ⟨h1, h2⟩ i hi
    unfold okC ix8
    split
    · exact h1 _ (by omega)
    · exact decide_eq_true (h2 i hi (by omega))

theorem sl_ring {m l : List Blk} {f : Nat → Int} {r : List C} {ty : Nat} {o : Bool} : Sl (m ++ ⟨ar 8 f ++ r, ty, 0, o⟩ :: l) (.sl m.length 0 8 (8 + r.length)) ((List.range 8).map f) := by
  refine .inr ⟨m.length, 0, 8 + r.length, ⟨ar 8 f ++ r, ty, 0, o⟩, rfl, ?_, .inl rfl, ?_⟩
  · rw [live_app0]; simp [ar_len]
  · intro j hj
    have hj : j < 8 := by simpa using hj
    rw [Nat.zero_add]
    show (ar 8 f ++ r)[j]? = _
    rw [ar_get hj]
    unfold nth
    simp [List.getD_eq_getElem?_getD, hj]

theorem den_impl_RingOk (hL : 100 ≤ L) (k : Nat) (m : List Blk) (f : Nat → Int) (a b : Int) :
    den T X L (k + 7) 39 [.agg (ring f a b)] m = some ⟨vb (ringOk f a b), m, 0, 0⟩ := by
  rw [den_eq T_39]
  by_cases ha : 0 ≤ a ∧ a ≤ 7
  case neg => simp (maxSteps := 1000000) (implicitDefEqProofs := false) (disch := omega) [-getElem?_pos, c_impl_RingOk, den_in, ringOk, inB_neg ha]
  by_cases hb : 0 ≤ b ∧ b ≤ 8
  case neg => simp (maxSteps := 1000000) (implicitDefEqProofs := false) (disch := omega) [-getElem?_pos, c_impl_RingOk, den_in, ringOk, inB_neg hb, inB_pos ha]
  have hv := den_areValues (X := X) (L := L) k (m ++ [⟨ring f a b, 32, 0, true⟩]) (.sl m.length 0 8 10) ((List.range 8).map f) sl_ring (by simp; omega) (by simp)
  have hall : ((List.range 8).map f).all isVal = decide (∀ i : Nat, i < 8 → isVal (f i) = true) := by
    rw [Bool.eq_iff_iff]; simp [List.all_eq_true]
  rw [hall] at hv
  by_cases h1 : ∀ i : Nat, i < 8 → isVal (f i) = true
  case neg =>
    rw [decide_eq_false h1] at hv
    have : ringOk f a b = false := by
      unfold ringOk
      rw [decide_eq_false fun h => h1 ((ok_split ha hb).mp h).1, Bool.and_false]
    rw [this]
    simp (maxSteps := 1000000) (implicitDefEqProofs := false) (disch := omega) [-getElem?_pos, c_impl_RingOk, den_in, inB_pos ha, inB_pos hb, hv]
  rw [decide_eq_true h1] at hv
  have hl := iter_all (f := fun s => exec (den T X L (k + 6)) L m.length none c_impl_RingOk_b0 s) (tr := trim m.length (some [1, 3]))
    (fun i => ⟨[(1, .c (.ptr m.length 0 10)), (3, vi i)], m ++ [⟨ring f a b, 32, 0, true⟩], 0, 0⟩) 8 (fun i => f ((a + i) % 8).toNat = 0)
    ⟨[(2, vb false)], m, 0, 0⟩ ?s1 ?s2 ⟨0, _, by simp (maxSteps := 1000000) (implicitDefEqProofs := false) (disch := omega) [-getElem?_pos, c_impl_RingOk_b0]; rfl⟩
  case s1 =>
    intro i hi hk
    refine ⟨_, by simp (maxSteps := 1000000) (implicitDefEqProofs := false) (disch := omega) [-getElem?_pos, c_impl_RingOk_b0, show (i : Int) < 8 by omega, hk]; rfl, ?_⟩
    simp (maxSteps := 1000000) (implicitDefEqProofs := false) (disch := omega) [-getElem?_pos]
  case s2 =>
    intro i hi hk
    simp (maxSteps := 1000000) (implicitDefEqProofs := false) (disch := omega) [-getElem?_pos, c_impl_RingOk_b0, show (i : Int) < 8 by omega, hk]
  simp (maxSteps := 1000000) (implicitDefEqProofs := false) (disch := omega) [-getElem?_pos, c_impl_RingOk, den_in, inB_pos ha, inB_pos hb, hv]
  rw [hl L b.toNat _ ?tr (by omega) (by omega)]
  case tr =>
    rw [show ((b.toNat : Nat) : Int) = b by omega]
    simp (maxSteps := 1000000) (implicitDefEqProofs := false) (disch := omega) [-getElem?_pos, ar_refs]
  by_cases h : ∀ i : Nat, i < 8 → b.toNat ≤ i → f ((a + i) % 8).toNat = 0
  · rw [if_pos h, show ringOk f a b = true by unfold ringOk; rw [inB_pos ha, inB_pos hb, decide_eq_true ((ok_split ha hb).mpr ⟨h1, h⟩)]; rfl]
    simp (maxSteps := 1000000) (implicitDefEqProofs := false) (disch := omega) [-getElem?_pos, c_impl_RingOk_b0]
  · rw [if_neg h, show ringOk f a b = false by unfold ringOk; rw [decide_eq_false fun h' => h ((ok_split ha hb).mp h').2, Bool.and_false]]
    simp (maxSteps := 1000000) (implicitDefEqProofs := false) (disch := omega) [-getElem?_pos]
end Go.Proofs.Ytkoloapgeilbdaa
