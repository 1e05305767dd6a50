/-
 Rings: copies and comparisons.
-/
import Derived.Test.YtfbeplbcaanimaaGreatTab
import Derived.Test.YtfbeplbcaanimaaGreatME
import Derived.Test.YtfbeplbcaanimaaGreatBA
set_option linter.unusedVariables false
set_option linter.unusedSimpArgs false
namespace Go.Proofs.YtfbeplbcaanimaaGreat
variable {X : FuncId → List V → List Blk → Option Ret} {L : Nat}
theorem z8 : [C.int .i64 0, .int .i64 0, .int .i64 0, .int .i64 0, .int .i64 0, .int .i64 0, .int .i64 0, .int .i64 0] = ar 8 fun _ => 0 := rfl
theorem z10 : [C.int .i64 0, .int .i64 0, .int .i64 0, .int .i64 0, .int .i64 0, .int .i64 0, .int .i64 0, .int .i64 0, .int .i64 0, .int .i64 0] = ar 8 (fun _ => 0) ++ [ci 0, ci 0] := rfl
theorem den_toIntA8 (hL : 100 ≤ L) (k : Nat) (m : List Blk) (f : Nat → Int) :
  den T X L (k + 1) 75 [.agg (ar 8 f)] m = some ⟨.agg (ar 8 f), m, 0, 0⟩ := by
 rw [den_eq T_75]
 have hl := iter_rel (f := fun s => exec (den T X L k) L m.length none c_laws_toIntA8_b0 s) (tr := trim m.length (some [1, 2, 3, 4]))
  (σ := Nat × (Nat → Int)) (fun s => ⟨[(1, .c (.ptr m.length 0 8)), (2, .c (.ptr (m.length + 1) 0 8)), (3, .c (.ptr (m.length + 2) 0 8)), (4, vi s.1)], m ++ [⟨ar 8 f, 27, 0, true⟩, ⟨ar 8 fun _ => 0, 27, 0, true⟩, ⟨ar 8 s.2, 27, 0, true⟩], 0, 0⟩)
  (fun s => s.1 ≤ 8 ∧ ∀ j, j < s.1 → s.2 j = f j) (fun s => 8 - s.1)
  (fun s => (.exit 0, ⟨[(6, vb false), (5, vi 8), (1, .c (.ptr m.length 0 8)), (2, .c (.ptr (m.length + 1) 0 8)), (3, .c (.ptr (m.length + 2) 0 8)), (4, vi 8)], m ++ [⟨ar 8 f, 27, 0, true⟩, ⟨ar 8 fun _ => 0, 27, 0, true⟩, ⟨ar 8 f, 27, 0, true⟩], 0, 0⟩)) ?_
 ·simp (maxSteps := 1000000) -implicitDefEqProofs (disch := omega) [-getElem?_pos, c_laws_toIntA8, z8, ar_len, ar_refs]
  rw [hl L (0, fun _ => 0) _ (by simp) ?tr (by simp; omega)]
  case tr => simp (maxSteps := 1000000) -implicitDefEqProofs (disch := omega) [-getElem?_pos, ar_refs]
  simp (maxSteps := 1000000) -implicitDefEqProofs (disch := omega) [-getElem?_pos, ar_len, ar_refs, ar_all]
 ·rintro ⟨i, g⟩ ⟨h1, h2⟩
  simp only at h1 h2
  by_cases hi : i = 8
  ·subst hi
   refine ⟨.exit 0, _, by simp (maxSteps := 1000000) -implicitDefEqProofs (disch := omega) [-getElem?_pos, c_laws_toIntA8_b0]; rfl, ?_⟩
   simp [ar_ext h2]
  ·refine ⟨.norm, _, by simp (maxSteps := 1000000) -implicitDefEqProofs (disch := omega) [-getElem?_pos, c_laws_toIntA8_b0, ar_len, ar_get', ar_lay', show (i : Int) < 8 by omega]; rfl, ?_⟩
   refine ⟨(i + 1, upd g i (f i)), ?_, ⟨by simp; omega, fun j hj => ?_⟩, by simp; omega, rfl⟩
   ·simp (maxSteps := 1000000) -implicitDefEqProofs (disch := omega) [-getElem?_pos]
   ·by_cases e : j = i
    ·subst e; simp [upd]
    ·simp only [upd, e, if_false]; exact h2 j (by simp at hj; omega)
theorem den_toRing (hL : 100 ≤ L) (k : Nat) (m : List Blk) (f : Nat → Int) (a b : Int) :
  den T X L (k + 2) 40 [.agg (ar 8 f ++ [ci a, ci b])] m = some ⟨.agg (ar 8 f ++ [ci a, ci b]), m, 0, 0⟩ := by
 rw [den_eq T_40]
 simp (maxSteps := 1000000) -implicitDefEqProofs (disch := omega) [-getElem?_pos, c_laws_toRing, z10, den_toIntA8 hL]
theorem den_eqIntA8 (hL : 100 ≤ L) (k : Nat) (m : List Blk) (f g : Nat → Int) :
  den T X L (k + 1) 94 [.agg (ar 8 f), .agg (ar 8 g)] m = some ⟨vb (decide (∀ i : Nat, i < 8 → f i = g i)), m, 0, 0⟩ := by
 rw [den_eq T_94]
 have hl := iter_all (f := fun s => exec (den T X L k) L m.length none c_laws_eqIntA8_b0 s) (tr := trim m.length (some [2, 3, 5]))
  (fun i => ⟨[(2, .c (.ptr m.length 0 8)), (3, .c (.ptr (m.length + 1) 0 8)), (5, vi i)], m ++ [⟨ar 8 f, 27, 0, true⟩, ⟨ar 8 g, 27, 0, true⟩], 0, 0⟩) 8 (fun i => f i = g i)
  ⟨[(4, vb false)], m, 0, 0⟩ ?s1 ?s2 ⟨0, _, by simp (maxSteps := 1000000) -implicitDefEqProofs (disch := omega) [-getElem?_pos, c_laws_eqIntA8_b0]; rfl⟩
 case s1 =>
  intro i hi hk
  refine ⟨_, by simp (maxSteps := 1000000) -implicitDefEqProofs (disch := omega) [-getElem?_pos, c_laws_eqIntA8_b0, show (i : Int) < 8 by omega, hk]; rfl, ?_⟩
  simp (maxSteps := 1000000) -implicitDefEqProofs (disch := omega) [-getElem?_pos]
 case s2 =>
  intro i hi hk
  simp (maxSteps := 1000000) -implicitDefEqProofs (disch := omega) [-getElem?_pos, c_laws_eqIntA8_b0, show (i : Int) < 8 by omega, hk]
 simp (maxSteps := 1000000) -implicitDefEqProofs (disch := omega) [-getElem?_pos, c_laws_eqIntA8]
 rw [hl L 0 _ ?tr (by simp) (by omega)]
 case tr => simp (maxSteps := 1000000) -implicitDefEqProofs (disch := omega) [-getElem?_pos, ar_refs]
 by_cases h : ∀ i : Nat, i < 8 → f i = g i
 ·rw [if_pos fun j h1 _ => h j h1, decide_eq_true h]
  simp (maxSteps := 1000000) -implicitDefEqProofs (disch := omega) [-getElem?_pos, c_laws_eqIntA8_b0]
 ·rw [if_neg fun h' => h fun j h1 => h' j h1 (Nat.zero_le _), decide_eq_false h]
  simp (maxSteps := 1000000) -implicitDefEqProofs (disch := omega) [-getElem?_pos]
theorem den_eqRing (hL : 100 ≤ L) (k : Nat) (m : List Blk) (f g : Nat → Int) (a b c d : Int) :
  den T X L (k + 2) 49 [.agg (ar 8 f ++ [ci a, ci b]), .agg (ar 8 g ++ [ci c, ci d])] m = some ⟨vb (decide (∀ i : Nat, i < 8 → f i = g i) && decide (a = c) && decide (b = d)), m, 0, 0⟩ := by
 rw [den_eq T_49]
 have e := fun m => den_eqIntA8 (X := X) hL k m f g
 generalize decide (∀ i : Nat, i < 8 → f i = g i) = t at e ⊢
 cases t <;> by_cases h1 : a = c <;> by_cases h2 : b = d <;> simp (maxSteps := 1000000) -implicitDefEqProofs (disch := omega) [-getElem?_pos, c_laws_eqRing, e, h1, h2]
end Go.Proofs.YtfbeplbcaanimaaGreat
set_option linter.unusedVariables false
set_option linter.unusedSimpArgs false
namespace Go.Proofs.YtfbeplbcaanimaaGreat
variable {X : FuncId → List V → List Blk → Option Ret} {L : Nat}
theorem den_IndexFunc (k : Nat) (m : List Blk) (v : C) (xs : List Int) (g : FuncId) (p : Int → Bool) (hv : Sl m v xs) (hL : xs.length < L) (hb : xs.length < 9000000000000000000)
  (hp : ∀ x, den T X L k g [vi x] m = some ⟨vb (p x), m, 0, 0⟩) :
  ∃ r : Int, den T X L (k + 1) 133 [.c v, .c (.fn g)] m = some ⟨vi r, m, 0, 0⟩ ∧ decide (0 ≤ r) = xs.any p := by
 rw [den_eq T_133]
 have hl := iter_find' (f := fun s => exec (den T X L k) L m.length none c_slices_IndexFunc_int_int_b0 s) (tr := trim m.length (some [0, 1, 7, 8]))
  (fun i => ⟨[(0, .c v), (1, .c (.fn g)), (7, vi xs.length), (8, vi i)], m, 0, 0⟩) xs.length (fun i => p (nth xs i) = false)
  (fun i => (.ret, ⟨[(4, vi i)], m, 0, 0⟩)) (by simp) ?s1 ?s2 ⟨0, _, by simp (maxSteps := 1000000) -implicitDefEqProofs (disch := omega) [-getElem?_pos, c_slices_IndexFunc_int_int_b0]; rfl⟩
 case s1 =>
  intro i hi hk
  rcases hv with ⟨rfl, rfl⟩ | ⟨b, off, tot, blk, rfl, h2, h3, h4⟩
  ·simp at hi
  ·refine ⟨_, by simp (maxSteps := 1000000) -implicitDefEqProofs (disch := omega) [-getElem?_pos, c_slices_IndexFunc_int_int_b0, show (i : Int) < xs.length by omega, h2, h4 i hi, hp, hk]; rfl, ?_⟩
   have := live_lt h2
   simp (maxSteps := 1000000) -implicitDefEqProofs (disch := omega) [-getElem?_pos]
 case s2 =>
  intro i hi hk
  have hk : p (nth xs i) = true := by simpa using hk
  rcases hv with ⟨rfl, rfl⟩ | ⟨b, off, tot, blk, rfl, h2, h3, h4⟩
  ·simp at hi
  ·simp (maxSteps := 1000000) -implicitDefEqProofs (disch := omega) [-getElem?_pos, c_slices_IndexFunc_int_int_b0, show (i : Int) < xs.length by omega, h2, h4 i hi, hp, hk]
 have hany : ∀ c : Bool, ((∀ j, 0 ≤ j → j < xs.length → p (nth xs j) = false) → c = false) → ((∃ j, j < xs.length ∧ p (nth xs j) = true) → c = true) → c = xs.any p := by
  intro c h1 h2
  cases h : xs.any p with
  | false =>
   refine h1 fun j _ hj => ?_
   have := List.any_eq_false.mp h (nth xs j) (by unfold nth; rw [List.getD_eq_getElem?_getD, List.getElem?_eq_getElem hj]; exact List.getElem_mem hj)
   simpa using this
  | true =>
   obtain ⟨x, hx, hpx⟩ := List.any_eq_true.mp h
   obtain ⟨j, hj, rfl⟩ := List.getElem_of_mem hx
   refine h2 ⟨j, hj, ?_⟩
   unfold nth
   rw [List.getD_eq_getElem?_getD, List.getElem?_eq_getElem hj]
   exact hpx
 rcases hv with ⟨rfl, rfl⟩ | ⟨b, off, tot, blk, rfl, h2, h3, h4⟩
 ·simp (maxSteps := 1000000) -implicitDefEqProofs (disch := omega) [-getElem?_pos, c_slices_IndexFunc_int_int]
  generalize hx : iter _ _ _ _ = x
  rcases hl L 0 _ x hx (by simp (maxSteps := 1000000) -implicitDefEqProofs (disch := omega) [-getElem?_pos]) (Nat.zero_le _) (by omega) with ⟨h1, rfl⟩ | ⟨j, h1, h2, h3, h4, rfl⟩
  ·refine ⟨-1, ?_, by simp⟩
   simp (maxSteps := 1000000) -implicitDefEqProofs (disch := omega) [-getElem?_pos, c_slices_IndexFunc_int_int_b0]
  ·simp at h2
 ·have hlt := live_lt h2
  simp (maxSteps := 1000000) -implicitDefEqProofs (disch := omega) [-getElem?_pos, c_slices_IndexFunc_int_int, h2]
  generalize hx : iter _ _ _ _ = x
  rcases hl L 0 _ x hx (by simp (maxSteps := 1000000) -implicitDefEqProofs (disch := omega) [-getElem?_pos]) (Nat.zero_le _) (by omega) with ⟨h1, rfl⟩ | ⟨j, h1, h2, h3, h4, rfl⟩
  ·refine ⟨-1, ?_, hany _ (fun _ => by simp) fun ⟨j, h3, h4⟩ => by rw [h1 j (Nat.zero_le _) h3] at h4; cases h4⟩
   simp (maxSteps := 1000000) -implicitDefEqProofs (disch := omega) [-getElem?_pos, c_slices_IndexFunc_int_int_b0]
  ·refine ⟨j, ?_, hany _ (fun h => absurd (h j h1 h2) h3) fun _ => by simp⟩
   simp (maxSteps := 1000000) -implicitDefEqProofs (disch := omega) [-getElem?_pos]
theorem den_ContainsFunc (k : Nat) (m : List Blk) (v : C) (xs : List Int) (g : FuncId) (p : Int → Bool) (hv : Sl m v xs) (hL : xs.length < L) (hb : xs.length < 9000000000000000000)
  (hp : ∀ x, den T X L k g [vi x] m = some ⟨vb (p x), m, 0, 0⟩) :
  den T X L (k + 2) 127 [.c v, .c (.fn g)] m = some ⟨vb (xs.any p), m, 0, 0⟩ := by
 obtain ⟨r, h1, h2⟩ := den_IndexFunc (X := X) k m v xs g p hv hL hb hp
 rw [den_eq T_127, ← h2]
 simp (maxSteps := 1000000) -implicitDefEqProofs (disch := omega) [-getElem?_pos, c_slices_ContainsFunc_int_int, h1]
theorem den_areValues (k : Nat) (m : List Blk) (v : C) (xs : List Int) (hv : Sl m v xs) (hL : xs.length < L) (hb : xs.length < 9000000000000000000) :
  den T X L (k + 6) 111 [.c v] m = some ⟨vb (xs.all isVal), m, 0, 0⟩ := by
 have h1 : ∀ x, den T X L (k + 3) 128 [vi x] m = some ⟨vb (!isVal x), m, 0, 0⟩ := by
  intro x
  rw [den_eq T_128]
  simp (maxSteps := 1000000) -implicitDefEqProofs (disch := omega) [-getElem?_pos, c_impl_areValues_1, den_isValue]
 have h2 := den_ContainsFunc (X := X) (k + 3) m v xs 128 (fun x => !isVal x) hv hL hb h1
 rw [den_eq T_111]
 have e : (xs.any fun x => !isVal x) = !xs.all isVal := by
  induction xs with
  | nil => rfl
  | cons x xs ih => simp [List.any_cons, List.all_cons, List.not_all_eq_any_not]
 rw [e] at h2
 simp (maxSteps := 1000000) -implicitDefEqProofs (disch := omega) [-getElem?_pos, c_impl_areValues, h2]
end Go.Proofs.YtfbeplbcaanimaaGreat
set_option linter.unusedVariables false
set_option linter.unusedSimpArgs false
namespace Go.Proofs.YtfbeplbcaanimaaGreat
variable {X : FuncId → List V → List Blk → Option Ret} {L : Nat}
def ix8 (a i : Int) : Nat := ((a + i) % 8).toNat
def okC (f : Nat → Int) (a b i : Int) : Bool := if i < b then isVal (f (ix8 a i)) else decide (f (ix8 a i) = 0)
def ringOk (f : Nat → Int) (a b : Int) : Bool := inB a 0 7 && inB b 0 8 && decide (∀ i : Nat, i < 8 → okC f a b i = true)
abbrev ring (f : Nat → Int) (a b : Int) : List C := ar 8 f ++ [ci a, ci b]
theorem den_spec_RingOk (hL : 100 ≤ L) (k : Nat) (m : List Blk) (f : Nat → Int) (a b : Int) :
  den T X L (k + 3) 58 [.agg (ring f a b)] m = some ⟨vb (ringOk f a b), m, 0, 0⟩ := by
 rw [den_eq T_58]
 by_cases ha : 0 ≤ a ∧ a ≤ 7
 case neg => simp (maxSteps := 1000000) -implicitDefEqProofs (disch := omega) [-getElem?_pos, c_spec_RingOk, den_l1In, ringOk, inB_neg ha]
 by_cases hb : 0 ≤ b ∧ b ≤ 8
 case neg => simp (maxSteps := 1000000) -implicitDefEqProofs (disch := omega) [-getElem?_pos, c_spec_RingOk, den_l1In, ringOk, inB_neg hb, inB_pos ha]
 have hl := iter_all (f := fun s => exec (den T X L (k + 2)) L m.length none c_spec_RingOk_b0 s) (tr := trim m.length (some [1, 3]))
  (fun i => ⟨[(1, .c (.ptr m.length 0 10)), (3, vi i)], m ++ [⟨ring f a b, 45, 0, true⟩], 0, 0⟩) 8 (fun i => okC f a b i = true)
  ⟨[(2, vb false)], m, 0, 0⟩ ?s1 ?s2 ⟨0, _, by simp (maxSteps := 1000000) -implicitDefEqProofs (disch := omega) [-getElem?_pos, c_spec_RingOk_b0]; rfl⟩
 case s1 =>
  intro i hi hk
  by_cases hib : (i : Int) < b
  ·have hk : isVal (f ((a + i) % 8).toNat) = true := by simpa [okC, hib, ix8] using hk
   refine ⟨_, by simp (maxSteps := 1000000) -implicitDefEqProofs (disch := omega) [-getElem?_pos, c_spec_RingOk_b0, show (i : Int) < 8 by omega, den_l1Value, hib, hk, show ¬ b ≤ (i : Int) by omega]; rfl, ?_⟩
   simp (maxSteps := 1000000) -implicitDefEqProofs (disch := omega) [-getElem?_pos]
  ·have hk : f ((a + i) % 8).toNat = 0 := by unfold okC at hk; rw [if_neg hib] at hk; exact of_decide_eq_true hk
   refine ⟨_, by simp (maxSteps := 1000000) -implicitDefEqProofs (disch := omega) [-getElem?_pos, c_spec_RingOk_b0, show (i : Int) < 8 by omega, den_l1Value, hib, hk, show b ≤ (i : Int) by omega]; rfl, ?_⟩
   simp (maxSteps := 1000000) -implicitDefEqProofs (disch := omega) [-getElem?_pos]
 case s2 =>
  intro i hi hk
  by_cases hib : (i : Int) < b
  ·have hk : isVal (f ((a + i) % 8).toNat) = false := by simpa [okC, hib, ix8] using hk
   simp (maxSteps := 1000000) -implicitDefEqProofs (disch := omega) [-getElem?_pos, c_spec_RingOk_b0, show (i : Int) < 8 by omega, den_l1Value, hib, hk, show ¬ b ≤ (i : Int) by omega]
  ·have hk : ¬ f ((a + i) % 8).toNat = 0 := fun h => hk (by unfold okC; rw [if_neg hib]; exact decide_eq_true h)
   simp (maxSteps := 1000000) -implicitDefEqProofs (disch := omega) [-getElem?_pos, c_spec_RingOk_b0, show (i : Int) < 8 by omega, den_l1Value, hib, hk, show b ≤ (i : Int) by omega]
 simp (maxSteps := 1000000) -implicitDefEqProofs (disch := omega) [-getElem?_pos, c_spec_RingOk, den_l1In, ringOk, inB_pos ha, inB_pos hb]
 rw [hl L 0 _ ?tr (by simp) (by omega)]
 case tr => simp (maxSteps := 1000000) -implicitDefEqProofs (disch := omega) [-getElem?_pos, ar_refs]
 by_cases h : ∀ i : Nat, i < 8 → okC f a b i = true
 ·rw [if_pos fun j h1 _ => h j h1, decide_eq_true h]
  simp (maxSteps := 1000000) -implicitDefEqProofs (disch := omega) [-getElem?_pos, c_spec_RingOk_b0]
 ·rw [if_neg fun h' => h fun j h1 => h' j h1 (Nat.zero_le _), decide_eq_false h]
  simp (maxSteps := 1000000) -implicitDefEqProofs (disch := omega) [-getElem?_pos]
theorem ok_split {f : Nat → Int} {a b : Int} (ha : 0 ≤ a ∧ a ≤ 7) (hb : 0 ≤ b ∧ b ≤ 8) :
  (∀ i : Nat, i < 8 → okC f a b i = true) ↔ (∀ i : Nat, i < 8 → isVal (f i) = true) ∧ ∀ i : Nat, i < 8 → b.toNat ≤ i → f ((a + i) % 8).toNat = 0 := by
 have h0 : isVal 0 = true := by decide
 constructor
 ·intro h
  constructor
  ·intro i hi
   have := h ((i + 8 - a.toNat) % 8) (Nat.mod_lt _ (by omega))
   unfold okC ix8 at this
   rw [show ((a + ((i + 8 - a.toNat) % 8 : Nat)) % 8).toNat = i by omega] at this
   split at this
   ·exact this
   ·rw [of_decide_eq_true this]; exact h0
  ·intro i hi hbi
   have := h i hi
   unfold okC ix8 at this
   rw [if_neg (by omega)] at this
   exact of_decide_eq_true this
 ·intro ⟨h1, h2⟩ i hi
  unfold okC ix8
  split
  ·exact h1 _ (by omega)
  ·exact decide_eq_true (h2 i hi (by omega))
theorem sl_ring {m l : List Blk} {f : Nat → Int} {r : List C} {ty : Nat} {o : Bool} : Sl (m ++ ⟨ar 8 f ++ r, ty, 0, o⟩ :: l) (.sl m.length 0 8 (8 + r.length)) ((List.range 8).map f) := by
 refine .inr ⟨m.length, 0, 8 + r.length, ⟨ar 8 f ++ r, ty, 0, o⟩, rfl, ?_, .inl rfl, ?_⟩
 ·rw [live_app0]; simp [ar_len]
 ·intro j hj
  have hj : j < 8 := by simpa using hj
  rw [Nat.zero_add]
  show (ar 8 f ++ r)[j]? = _
  rw [ar_get hj]
  unfold nth
  simp [List.getD_eq_getElem?_getD, hj]
theorem den_impl_RingOk (hL : 100 ≤ L) (k : Nat) (m : List Blk) (f : Nat → Int) (a b : Int) :
  den T X L (k + 7) 80 [.agg (ring f a b)] m = some ⟨vb (ringOk f a b), m, 0, 0⟩ := by
 rw [den_eq T_80]
 by_cases ha : 0 ≤ a ∧ a ≤ 7
 case neg => simp (maxSteps := 1000000) -implicitDefEqProofs (disch := omega) [-getElem?_pos, c_impl_RingOk, den_in, ringOk, inB_neg ha]
 by_cases hb : 0 ≤ b ∧ b ≤ 8
 case neg => simp (maxSteps := 1000000) -implicitDefEqProofs (disch := omega) [-getElem?_pos, c_impl_RingOk, den_in, ringOk, inB_neg hb, inB_pos ha]
 have hv := den_areValues (X := X) (L := L) k (m ++ [⟨ring f a b, 45, 0, true⟩]) (.sl m.length 0 8 10) ((List.range 8).map f) sl_ring (by simp; omega) (by simp)
 have hall : ((List.range 8).map f).all isVal = decide (∀ i : Nat, i < 8 → isVal (f i) = true) := by
  rw [Bool.eq_iff_iff]; simp [List.all_eq_true]
 rw [hall] at hv
 by_cases h1 : ∀ i : Nat, i < 8 → isVal (f i) = true
 case neg =>
  rw [decide_eq_false h1] at hv
  have : ringOk f a b = false := by
   unfold ringOk
   rw [decide_eq_false fun h => h1 ((ok_split ha hb).mp h).1, Bool.and_false]
  rw [this]
  simp (maxSteps := 1000000) -implicitDefEqProofs (disch := omega) [-getElem?_pos, c_impl_RingOk, den_in, inB_pos ha, inB_pos hb, hv]
 rw [decide_eq_true h1] at hv
 have hl := iter_all (f := fun s => exec (den T X L (k + 6)) L m.length none c_impl_RingOk_b0 s) (tr := trim m.length (some [1, 3]))
  (fun i => ⟨[(1, .c (.ptr m.length 0 10)), (3, vi i)], m ++ [⟨ring f a b, 45, 0, true⟩], 0, 0⟩) 8 (fun i => f ((a + i) % 8).toNat = 0)
  ⟨[(2, vb false)], m, 0, 0⟩ ?s1 ?s2 ⟨0, _, by simp (maxSteps := 1000000) -implicitDefEqProofs (disch := omega) [-getElem?_pos, c_impl_RingOk_b0]; rfl⟩
 case s1 =>
  intro i hi hk
  refine ⟨_, by simp (maxSteps := 1000000) -implicitDefEqProofs (disch := omega) [-getElem?_pos, c_impl_RingOk_b0, show (i : Int) < 8 by omega, hk]; rfl, ?_⟩
  simp (maxSteps := 1000000) -implicitDefEqProofs (disch := omega) [-getElem?_pos]
 case s2 =>
  intro i hi hk
  simp (maxSteps := 1000000) -implicitDefEqProofs (disch := omega) [-getElem?_pos, c_impl_RingOk_b0, show (i : Int) < 8 by omega, hk]
 simp (maxSteps := 1000000) -implicitDefEqProofs (disch := omega) [-getElem?_pos, c_impl_RingOk, den_in, inB_pos ha, inB_pos hb, hv]
 rw [hl L b.toNat _ ?tr (by omega) (by omega)]
 case tr =>
  rw [show ((b.toNat : Nat) : Int) = b by omega]
  simp (maxSteps := 1000000) -implicitDefEqProofs (disch := omega) [-getElem?_pos, ar_refs]
 by_cases h : ∀ i : Nat, i < 8 → b.toNat ≤ i → f ((a + i) % 8).toNat = 0
 ·rw [if_pos h, show ringOk f a b = true by unfold ringOk; rw [inB_pos ha, inB_pos hb, decide_eq_true ((ok_split ha hb).mpr ⟨h1, h⟩)]; rfl]
  simp (maxSteps := 1000000) -implicitDefEqProofs (disch := omega) [-getElem?_pos, c_impl_RingOk_b0]
 ·rw [if_neg h, show ringOk f a b = false by unfold ringOk; rw [decide_eq_false fun h' => h ((ok_split ha hb).mp h').2, Bool.and_false]]
  simp (maxSteps := 1000000) -implicitDefEqProofs (disch := omega) [-getElem?_pos]
end Go.Proofs.YtfbeplbcaanimaaGreat
set_option linter.unusedVariables false
set_option linter.unusedSimpArgs false
namespace Go.Proofs.YtfbeplbcaanimaaGreat
variable {X : FuncId → List V → List Blk → Option Ret} {L : Nat}
theorem ringOk_bounds {f : Nat → Int} {a b : Int} (h : ringOk f a b = true) : 0 ≤ a ∧ a ≤ 7 ∧ 0 ≤ b ∧ b ≤ 8 := by
 simp only [ringOk, Bool.and_eq_true, inB_iff] at h
 omega
def ringPut (f : Nat → Int) (a b v : Int) : ((Nat → Int) × Int × Int) × Int :=
 if ringOk f a b = false ∨ isVal v = false then ((f, a, b), 1) else if b = 8 then ((f, a, b), 2) else ((upd f ((a + b) % 8).toNat v, a, b + 1), 0)
def ringTake (f : Nat → Int) (a b : Int) : ((Nat → Int) × Int × Int) × Int × Int :=
 if ringOk f a b = false then ((f, a, b), 0, 1) else if b = 0 then ((f, a, b), 0, 3) else ((upd f a.toNat 0, (a + 1) % 8, b - 1), f a.toNat, 0)
abbrev ringV (r : (Nat → Int) × Int × Int) : List C := ring r.1 r.2.1 r.2.2
theorem den_spec_RingPut (hL : 100 ≤ L) (k : Nat) (m : List Blk) (f : Nat → Int) (a b v : Int) :
  den T X L (k + 4) 65 [.agg (ring f a b), vi v] m = some ⟨.tup [.agg (ringV (ringPut f a b v).1), vi (ringPut f a b v).2], m, 0, 0⟩ := by
 rw [den_eq T_65]
 have e := fun m => den_spec_RingOk (X := X) hL k m f a b
 unfold ringPut
 cases ho : ringOk f a b with
 | false => rw [ho] at e; simp (maxSteps := 1000000) -implicitDefEqProofs (disch := omega) [-getElem?_pos, c_spec_RingPut, e, z10]
 | true =>
  rw [ho] at e
  obtain ⟨h1, h2, h3, h4⟩ := ringOk_bounds ho
  cases hv : isVal v with
  | false => simp (maxSteps := 1000000) -implicitDefEqProofs (disch := omega) [-getElem?_pos, c_spec_RingPut, e, z10, den_l1Value, hv]
  | true =>
   by_cases hb : b = 8
   ·subst hb
    simp (maxSteps := 1000000) -implicitDefEqProofs (disch := omega) [-getElem?_pos, c_spec_RingPut, e, z10, den_l1Value, hv]
   ·simp (maxSteps := 1000000) -implicitDefEqProofs (disch := omega) [-getElem?_pos, c_spec_RingPut, e, z10, den_l1Value, hv, hb]
theorem den_impl_RingPut (hL : 100 ≤ L) (k : Nat) (m : List Blk) (f : Nat → Int) (a b v : Int) :
  den T X L (k + 8) 86 [.agg (ring f a b), vi v] m = some ⟨.tup [.agg (ringV (ringPut f a b v).1), vi (ringPut f a b v).2], m, 0, 0⟩ := by
 rw [den_eq T_86]
 have e := fun m => den_impl_RingOk (X := X) hL k m f a b
 unfold ringPut
 cases ho : ringOk f a b with
 | false => rw [ho] at e; simp (maxSteps := 1000000) -implicitDefEqProofs (disch := omega) [-getElem?_pos, c_impl_RingPut, e, z10]
 | true =>
  rw [ho] at e
  obtain ⟨h1, h2, h3, h4⟩ := ringOk_bounds ho
  cases hv : isVal v with
  | false => simp (maxSteps := 1000000) -implicitDefEqProofs (disch := omega) [-getElem?_pos, c_impl_RingPut, e, z10, den_isValue, hv]
  | true =>
   by_cases hb : b = 8
   ·subst hb
    simp (maxSteps := 1000000) -implicitDefEqProofs (disch := omega) [-getElem?_pos, c_impl_RingPut, e, z10, den_isValue, hv]
   ·simp (maxSteps := 1000000) -implicitDefEqProofs (disch := omega) [-getElem?_pos, c_impl_RingPut, e, z10, den_isValue, hv, hb]
theorem den_spec_RingTake (hL : 100 ≤ L) (k : Nat) (m : List Blk) (f : Nat → Int) (a b : Int) :
  den T X L (k + 4) 67 [.agg (ring f a b)] m = some ⟨.tup [.agg (ringV (ringTake f a b).1), vi (ringTake f a b).2.1, vi (ringTake f a b).2.2], m, 0, 0⟩ := by
 rw [den_eq T_67]
 have e := fun m => den_spec_RingOk (X := X) hL k m f a b
 unfold ringTake
 cases ho : ringOk f a b with
 | false => rw [ho] at e; simp (maxSteps := 1000000) -implicitDefEqProofs (disch := omega) [-getElem?_pos, c_spec_RingTake, e, z10]
 | true =>
  rw [ho] at e
  obtain ⟨h1, h2, h3, h4⟩ := ringOk_bounds ho
  by_cases hb : b = 0
  ·subst hb
   simp (maxSteps := 1000000) -implicitDefEqProofs (disch := omega) [-getElem?_pos, c_spec_RingTake, e, z10]
  ·simp (maxSteps := 1000000) -implicitDefEqProofs (disch := omega) [-getElem?_pos, c_spec_RingTake, e, z10, hb]
theorem den_impl_RingTake (hL : 100 ≤ L) (k : Nat) (m : List Blk) (f : Nat → Int) (a b : Int) :
  den T X L (k + 8) 87 [.agg (ring f a b)] m = some ⟨.tup [.agg (ringV (ringTake f a b).1), vi (ringTake f a b).2.1, vi (ringTake f a b).2.2], m, 0, 0⟩ := by
 rw [den_eq T_87]
 have e := fun m => den_impl_RingOk (X := X) hL k m f a b
 unfold ringTake
 cases ho : ringOk f a b with
 | false => rw [ho] at e; simp (maxSteps := 1000000) -implicitDefEqProofs (disch := omega) [-getElem?_pos, c_impl_RingTake, e, z10]
 | true =>
  rw [ho] at e
  obtain ⟨h1, h2, h3, h4⟩ := ringOk_bounds ho
  by_cases hb : b = 0
  ·subst hb
   simp (maxSteps := 1000000) -implicitDefEqProofs (disch := omega) [-getElem?_pos, c_impl_RingTake, e, z10]
  ·simp (maxSteps := 1000000) -implicitDefEqProofs (disch := omega) [-getElem?_pos, c_impl_RingTake, e, z10, hb]
end Go.Proofs.YtfbeplbcaanimaaGreat
set_option linter.unusedVariables false
set_option linter.unusedSimpArgs false
namespace Go.Proofs.YtfbeplbcaanimaaGreat
variable {X : FuncId → List V → List Blk → Option Ret} {L : Nat}
abbrev R3 := (Nat → Int) × Int × Int
end Go.Proofs.YtfbeplbcaanimaaGreat
set_option linter.unusedVariables false
set_option linter.unusedSimpArgs false
set_option maxHeartbeats 4000000
namespace Go.Proofs.YtfbeplbcaanimaaGreat
variable {X : FuncId → List V → List Blk → Option Ret} {L : Nat}
def rl (f : Nat → Int) (a : Int) (n : Nat) : List Int := (List.range n).map fun (i : Nat) => f (ix8 a i)
theorem rl_len (f : Nat → Int) (a : Int) (n : Nat) : (rl f a n).length = n := by simp [rl]
theorem rl_snoc (f : Nat → Int) (a : Int) (n : Nat) : rl f a n ++ [f ((a + n) % 8).toNat] = rl f a (n + 1) := by simp [rl, List.range_succ, ix8]
def ringList (f : Nat → Int) (a b : Int) : List Int := if ringOk f a b = true then rl f a b.toNat else []
end Go.Proofs.YtfbeplbcaanimaaGreat
set_option linter.unusedVariables false
set_option linter.unusedSimpArgs false
set_option maxRecDepth 100000
namespace Go.Proofs.YtfbeplbcaanimaaGreat
end Go.Proofs.YtfbeplbcaanimaaGreat
set_option linter.unusedVariables false
set_option linter.unusedSimpArgs false
namespace Go.Proofs.YtfbeplbcaanimaaGreat
theorem ringOk_iff {f : Nat → Int} {a b : Int} : ringOk f a b = true ↔ (0 ≤ a ∧ a ≤ 7) ∧ (0 ≤ b ∧ b ≤ 8) ∧ ∀ i : Nat, i < 8 → ((i : Int) < b → isVal (f (ix8 a i)) = true) ∧ (¬ (i : Int) < b → f (ix8 a i) = 0) := by
 simp only [ringOk, Bool.and_eq_true, inB_iff, decide_eq_true_eq, and_assoc]
 refine and_congr Iff.rfl (and_congr Iff.rfl (and_congr Iff.rfl (and_congr Iff.rfl (forall_congr' fun i => forall_congr' fun _ => ?_))))
 unfold okC
 by_cases h : (i : Int) < b
 ·simp [h]
 ·simp [h]
theorem ix_inj {a : Int} {i j : Nat} (ha : 0 ≤ a ∧ a ≤ 7) (hi : i < 8) (hj : j < 8) (h : ix8 a i = ix8 a j) : i = j := by
 unfold ix8 at h
 omega
theorem rl_ext {f g : Nat → Int} {a c : Int} {n : Nat} (h : ∀ i : Nat, i < n → f (ix8 a i) = g (ix8 c i)) : rl f a n = rl g c n := by
 unfold rl
 exact List.map_congr_left fun i hi => h i (List.mem_range.1 hi)
def isRing (r : R3) (l : List Int) : Prop := ringOk r.1 r.2.1 r.2.2 = true ∧ ringList r.1 r.2.1 r.2.2 = l
theorem isRing.len {r : R3} {l : List Int} (h : isRing r l) : r.2.2 = l.length ∧ l.length ≤ 8 := by
 obtain ⟨h1, rfl⟩ := h
 have hb := ringOk_bounds h1
 unfold ringList
 rw [if_pos h1, rl_len]
 omega
theorem isRing.put {r : R3} {l : List Int} (h : isRing r l) {v : Int} (hv : isVal v = true) (hl : l.length < 8) : (ringPut r.1 r.2.1 r.2.2 v).2 = 0 ∧ isRing (ringPut r.1 r.2.1 r.2.2 v).1 (l ++ [v]) := by
 have hn := h.len
 obtain ⟨f, a, b⟩ := r
 obtain ⟨h1, rfl⟩ := h
 simp only at h1 hn hl ⊢
 obtain ⟨ha, hb, hc⟩ := ringOk_iff.1 h1
 unfold ringPut
 rw [if_neg (by simp [h1, hv]), if_neg (by omega)]
 obtain ⟨n, rfl⟩ : ∃ n : Nat, b = n := ⟨b.toNat, by omega⟩
 have hix : ((a + (n : Int)) % 8).toNat = ix8 a n := rfl
 have hn8 : n < 8 := by omega
 have hok : ringOk (upd f (ix8 a n) v) a ((n : Int) + 1) = true := by
  refine ringOk_iff.2 ⟨ha, by omega, fun i hi => ?_⟩
  by_cases e : i = n
  ·subst e
   rw [upd_at]
   exact ⟨fun _ => hv, fun h => absurd (by omega) h⟩
  ·rw [upd_ne _ _ fun h => e (ix_inj ha hi hn8 h)]
   exact ⟨fun h => (hc i hi).1 (by omega), fun h => (hc i hi).2 (by omega)⟩
 refine ⟨rfl, ?_, ?_⟩
 ·rw [hix]; exact hok
 ·show ringList (upd f ((a + (n : Int)) % 8).toNat v) a ((n : Int) + 1) = _
  rw [hix]
  unfold ringList
  rw [if_pos hok, if_pos h1, show ((n : Int) + 1).toNat = n + 1 by omega, Int.toNat_natCast, ← rl_snoc, show f = f from rfl]
  rw [show ((a + (n : Int)) % 8).toNat = ix8 a n from rfl, upd_at]
  congr 1
  refine rl_ext fun i hi => upd_ne _ _ fun h => ?_
  have := ix_inj ha (by omega) hn8 h
  omega
theorem isRing.none {r : R3} (h : isRing r []) : ringTake r.1 r.2.1 r.2.2 = (r, 0, 3) := by
 have := h.len
 unfold ringTake
 rw [if_neg (by simp [h.1]), if_pos (by simpa using this.1)]
theorem isRing.take {r : R3} {x : Int} {l : List Int} (h : isRing r (x :: l)) : (ringTake r.1 r.2.1 r.2.2).2 = (x, 0) ∧ isRing (ringTake r.1 r.2.1 r.2.2).1 l := by
 have hn := h.len
 obtain ⟨f, a, b⟩ := r
 obtain ⟨h1, h2⟩ := h
 simp only [List.length_cons] at h1 h2 hn ⊢
 obtain ⟨ha, hb, hc⟩ := ringOk_iff.1 h1
 unfold ringTake
 rw [if_neg (by simp [h1]), if_neg (by omega)]
 obtain ⟨n, rfl⟩ : ∃ n : Nat, b = (n : Int) + 1 := ⟨(b - 1).toNat, by omega⟩
 have hx0 : ix8 a 0 = a.toNat := by unfold ix8; omega
 have hsh : ∀ i : Nat, ix8 ((a + 1) % 8) i = ix8 a ((i + 1 : Nat) : Int) := fun i => by unfold ix8; omega
 have hok : ringOk (upd f a.toNat 0) ((a + 1) % 8) ((n : Int) + 1 - 1) = true := by
  refine ringOk_iff.2 ⟨by omega, by omega, fun i hi => ?_⟩
  rw [hsh, ← hx0]
  by_cases e : i = 7
  ·subst e
   have : ix8 a ((7 + 1 : Nat) : Int) = ix8 a 0 := by unfold ix8; omega
   rw [this, upd_at]
   exact ⟨fun h => by omega, fun _ => rfl⟩
  ·rw [upd_ne _ _ fun h => by have := ix_inj (j := 0) ha (show i + 1 < 8 by omega) (by omega) h; omega]
   exact ⟨fun h => (hc (i + 1) (by omega)).1 (by omega), fun h => (hc (i + 1) (by omega)).2 (by omega)⟩
 have hlist : rl f a (n + 1) = f a.toNat :: rl (upd f a.toNat 0) ((a + 1) % 8) n := by
  unfold rl
  rw [List.range_succ_eq_map, List.map_cons, List.map_map]
  congr 1
  ·exact congrArg f hx0
  ·refine List.map_congr_left fun i hi => ?_
   have hi := List.mem_range.1 hi
   show f (ix8 a ((i + 1 : Nat) : Int)) = _
   rw [hsh, ← hx0, upd_ne _ _ fun h => by have := ix_inj (j := 0) ha (show i + 1 < 8 by omega) (by omega) h; omega]
 unfold ringList at h2
 rw [if_pos h1, show ((n : Int) + 1).toNat = n + 1 by omega, hlist] at h2
 injection h2 with h2 h3
 refine ⟨by rw [h2], hok, ?_⟩
 unfold ringList
 rw [if_pos hok, show ((n : Int) + 1 - 1).toNat = n by omega]
 exact h3
theorem isRing.start {a : Int} (ha : 0 ≤ a ∧ a ≤ 7) : isRing (fun _ => 0, a, 0) [] := by
 have h : ringOk (fun _ => 0) a 0 = true := ringOk_iff.2 ⟨ha, by omega, fun i hi => ⟨fun h => by omega, fun _ => rfl⟩⟩
 refine ⟨h, ?_⟩
 unfold ringList
 rw [if_pos h]
 rfl
end Go.Proofs.YtfbeplbcaanimaaGreat
