/-
  Rings: copies and comparisons.
-/
import Derived.Test.YtdnfcomgdgdifaaTab
import Derived.Test.YtdnfcomgdgdifaaME
import Derived.Test.YtdnfcomgdgdifaaBA
set_option linter.unusedVariables false
set_option linter.unusedSimpArgs false
namespace Go.Proofs.Ytdnfcomgdgdifaa
variable {X : FuncId → List V → List Blk → Option Ret} {L : Nat}

theorem z8 : [C.int .i64 0, .int .i64 0, .int .i64 0, .int .i64 0, .int .i64 0, .int .i64 0, .int .i64 0, .int .i64 0] = ar 8 fun _ => 0 := rfl
theorem z10 : [C.int .i64 0, .int .i64 0, .int .i64 0, .int .i64 0, .int .i64 0, .int .i64 0, .int .i64 0, .int .i64 0, .int .i64 0, .int .i64 0] = ar 8 (fun _ => 0) ++ [ci 0, ci 0] := rfl

theorem den_toIntA8 (hL : 100 ≤ L) (k : Nat) (m : List Blk) (f : Nat → Int) :
    den T X L (k + 1) 132 [.agg (ar 8 f)] m = some ⟨.agg (ar 8 f), m, 0, 0⟩ := by
  rw [den_eq T_132]
  have hl := iter_rel (f := fun s => exec (den T X L k) L m.length none c_laws_toIntA8_b0 s) (tr := trim m.length (some [1, 2, 3, 4]))
    (σ := Nat × (Nat → Int)) (fun s => ⟨[(1, .c (.ptr m.length 0 8)), (2, .c (.ptr (m.length + 1) 0 8)), (3, .c (.ptr (m.length + 2) 0 8)), (4, vi s.1)], m ++ [⟨ar 8 f, 24, 0, true⟩, ⟨ar 8 fun _ => 0, 24, 0, true⟩, ⟨ar 8 s.2, 24, 0, true⟩], 0, 0⟩)
    (fun s => s.1 ≤ 8 ∧ ∀ j, j < s.1 → s.2 j = f j) (fun s => 8 - s.1)
    (fun s => (.exit 0, ⟨[(6, vb false), (5, vi 8), (1, .c (.ptr m.length 0 8)), (2, .c (.ptr (m.length + 1) 0 8)), (3, .c (.ptr (m.length + 2) 0 8)), (4, vi 8)], m ++ [⟨ar 8 f, 24, 0, true⟩, ⟨ar 8 fun _ => 0, 24, 0, true⟩, ⟨ar 8 f, 24, 0, true⟩], 0, 0⟩)) ?_
  · simp (maxSteps := 1000000) (implicitDefEqProofs := false) (disch := omega) [-getElem?_pos, c_laws_toIntA8, z8, ar_len, ar_refs]
    rw [hl L (0, fun _ => 0) _ (by simp) ?tr (by simp; omega)]
    case tr => simp (maxSteps := 1000000) (implicitDefEqProofs := false) (disch := omega) [-getElem?_pos, ar_refs]
    simp (maxSteps := 1000000) (implicitDefEqProofs := false) (disch := omega) [-getElem?_pos, ar_len, ar_refs, ar_all]
  · rintro ⟨i, g⟩ ⟨h1, h2⟩
    simp only at h1 h2
    by_cases hi : i = 8
    · subst hi
      refine ⟨.exit 0, _, by simp (maxSteps := 1000000) (implicitDefEqProofs := false) (disch := omega) [-getElem?_pos, c_laws_toIntA8_b0]; rfl, ?_⟩
      simp [ar_ext h2]
    · refine ⟨.norm, _, by simp (maxSteps := 1000000) (implicitDefEqProofs := false) (disch := omega) [-getElem?_pos, c_laws_toIntA8_b0, ar_len, ar_get', ar_lay', show (i : Int) < 8 by omega]; rfl, ?_⟩
      refine ⟨(i + 1, upd g i (f i)), ?_, ⟨by simp; omega, fun j hj => ?_⟩, by simp; omega, rfl⟩
      · simp (maxSteps := 1000000) (implicitDefEqProofs := false) (disch := omega) [-getElem?_pos]
      · by_cases e : j = i
        · subst e; simp [upd]
        · simp only [upd, e, if_false]; exact h2 j (by simp at hj; omega)

theorem den_toRing (hL : 100 ≤ L) (k : Nat) (m : List Blk) (f : Nat → Int) (a b : Int) :
    den T X L (k + 2) 86 [.agg (ar 8 f ++ [ci a, ci b])] m = some ⟨.agg (ar 8 f ++ [ci a, ci b]), m, 0, 0⟩ := by
  rw [den_eq T_86]
  simp (maxSteps := 1000000) (implicitDefEqProofs := false) (disch := omega) [-getElem?_pos, c_laws_toRing, z10, den_toIntA8 hL]
theorem den_eqIntA8 (hL : 100 ≤ L) (k : Nat) (m : List Blk) (f g : Nat → Int) :
    den T X L (k + 1) 135 [.agg (ar 8 f), .agg (ar 8 g)] m = some ⟨vb (decide (∀ i : Nat, i < 8 → f i = g i)), m, 0, 0⟩ := by
  rw [den_eq T_135]
  have hl := iter_all (f := fun s => exec (den T X L k) L m.length none c_laws_eqIntA8_b0 s) (tr := trim m.length (some [2, 3, 5]))
    (fun i => ⟨[(2, .c (.ptr m.length 0 8)), (3, .c (.ptr (m.length + 1) 0 8)), (5, vi i)], m ++ [⟨ar 8 f, 24, 0, true⟩, ⟨ar 8 g, 24, 0, true⟩], 0, 0⟩) 8 (fun i => f i = g i)
    ⟨[(4, vb false)], m, 0, 0⟩ ?s1 ?s2 ⟨0, _, by simp (maxSteps := 1000000) (implicitDefEqProofs := false) (disch := omega) [-getElem?_pos, c_laws_eqIntA8_b0]; rfl⟩
  case s1 =>
    intro i hi hk
    refine ⟨_, by simp (maxSteps := 1000000) (implicitDefEqProofs := false) (disch := omega) [-getElem?_pos, c_laws_eqIntA8_b0, show (i : Int) < 8 by omega, hk]; rfl, ?_⟩
    simp (maxSteps := 1000000) (implicitDefEqProofs := false) (disch := omega) [-getElem?_pos]
  case s2 =>
    intro i hi hk
    simp (maxSteps := 1000000) (implicitDefEqProofs := false) (disch := omega) [-getElem?_pos, c_laws_eqIntA8_b0, show (i : Int) < 8 by omega, hk]
  simp (maxSteps := 1000000) (implicitDefEqProofs := false) (disch := omega) [-getElem?_pos, c_laws_eqIntA8]
  rw [hl L 0 _ ?tr (by simp) (by omega)]
  case tr => simp (maxSteps := 1000000) (implicitDefEqProofs := false) (disch := omega) [-getElem?_pos, ar_refs]
  by_cases h : ∀ i : Nat, i < 8 → f i = g i
  · rw [if_pos fun j h1 _ => h j h1, decide_eq_true h]
    simp (maxSteps := 1000000) (implicitDefEqProofs := false) (disch := omega) [-getElem?_pos, c_laws_eqIntA8_b0]
  · rw [if_neg fun h' => h fun j h1 => h' j h1 (Nat.zero_le _), decide_eq_false h]
    simp (maxSteps := 1000000) (implicitDefEqProofs := false) (disch := omega) [-getElem?_pos]
theorem den_eqRing (hL : 100 ≤ L) (k : Nat) (m : List Blk) (f g : Nat → Int) (a b c d : Int) :
    den T X L (k + 2) 89 [.agg (ar 8 f ++ [ci a, ci b]), .agg (ar 8 g ++ [ci c, ci d])] m = some ⟨vb (decide (∀ i : Nat, i < 8 → f i = g i) && decide (a = c) && decide (b = d)), m, 0, 0⟩ := by
  rw [den_eq T_89]
  have e := fun m => den_eqIntA8 (X := X) hL k m f g
  generalize decide (∀ i : Nat, i < 8 → f i = g i) = t at e ⊢
  cases t <;> by_cases h1 : a = c <;> by_cases h2 : b = d <;> simp (maxSteps := 1000000) (implicitDefEqProofs := false) (disch := omega) [-getElem?_pos, c_laws_eqRing, e, h1, h2]
end Go.Proofs.Ytdnfcomgdgdifaa

set_option linter.unusedVariables false
set_option linter.unusedSimpArgs false
namespace Go.Proofs.Ytdnfcomgdgdifaa
variable {X : FuncId → List V → List Blk → Option Ret} {L : Nat}

theorem den_IndexFunc (k : Nat) (m : List Blk) (v : C) (xs : List Int) (g : FuncId) (p : Int → Bool) (hv : Sl m v xs) (hL : xs.length < L) (hb : xs.length < 9000000000000000000)
    (hp : ∀ x, den T X L k g [vi x] m = some ⟨vb (p x), m, 0, 0⟩) :
    ∃ r : Int, den T X L (k + 1) 144 [.c v, .c (.fn g)] m = some ⟨vi r, m, 0, 0⟩ ∧ decide (0 ≤ r) = xs.any p := by
  rw [den_eq T_144]
  have hl := iter_find' (f := fun s => exec (den T X L k) L m.length none c_slices_IndexFunc_int_int_b0 s) (tr := trim m.length (some [0, 1, 7, 8]))
    (fun i => ⟨[(0, .c v), (1, .c (.fn g)), (7, vi xs.length), (8, vi i)], m, 0, 0⟩) xs.length (fun i => p (nth xs i) = false)
    (fun i => (.ret, ⟨[(4, vi i)], m, 0, 0⟩)) (by simp) ?s1 ?s2 ⟨0, _, by simp (maxSteps := 1000000) (implicitDefEqProofs := false) (disch := omega) [-getElem?_pos, c_slices_IndexFunc_int_int_b0]; rfl⟩
  case s1 =>
    intro i hi hk
    rcases hv with ⟨rfl, rfl⟩ | ⟨b, off, tot, blk, rfl, h2, h3, h4⟩
    · simp at hi
    · refine ⟨_, by simp (maxSteps := 1000000) (implicitDefEqProofs := false) (disch := omega) [-getElem?_pos, c_slices_IndexFunc_int_int_b0, show (i : Int) < xs.length by omega, h2, h4 i hi, hp, hk]; rfl, ?_⟩
      have := live_lt h2
      simp (maxSteps := 1000000) (implicitDefEqProofs := false) (disch := omega) [-getElem?_pos]
  case s2 =>
    intro i hi hk
    have hk : p (nth xs i) = true := by simpa using hk
    rcases hv with ⟨rfl, rfl⟩ | ⟨b, off, tot, blk, rfl, h2, h3, h4⟩
    · simp at hi
    · simp (maxSteps := 1000000) (implicitDefEqProofs := false) (disch := omega) [-getElem?_pos, c_slices_IndexFunc_int_int_b0, show (i : Int) < xs.length by omega, h2, h4 i hi, hp, hk]
  have hany : ∀ c : Bool, ((∀ j, 0 ≤ j → j < xs.length → p (nth xs j) = false) → c = false) → ((∃ j, j < xs.length ∧ p (nth xs j) = true) → c = true) → c = xs.any p := by
    intro c h1 h2
    cases h : xs.any p with
    | false =>
      refine h1 fun j _ hj => ?_
      have := List.any_eq_false.mp h (nth xs j) (by unfold nth; rw [List.getD_eq_getElem?_getD, List.getElem?_eq_getElem hj]; exact List.getElem_mem hj)
      simpa using this
    | true =>
      obtain ⟨x, hx, hpx⟩ := List.any_eq_true.mp h
      obtain ⟨j, hj, rfl⟩ := List.getElem_of_mem hx
      refine h2 ⟨j, hj, ?_⟩
      unfold nth
      rw [List.getD_eq_getElem?_getD, List.getElem?_eq_getElem hj]
      exact hpx
  rcases hv with ⟨rfl, rfl⟩ | ⟨b, off, tot, blk, rfl, h2, h3, h4⟩
  · simp (maxSteps := 1000000) (implicitDefEqProofs := false) (disch := omega) [-getElem?_pos, c_slices_IndexFunc_int_int]
    generalize hx : iter _ _ _ _ = x
    rcases hl L 0 _ x hx (by simp (maxSteps := 1000000) (implicitDefEqProofs := false) (disch := omega) [-getElem?_pos]) (Nat.zero_le _) (by omega) with ⟨h1, rfl⟩ | ⟨j, h1, h2, h3, h4, rfl⟩
    · refine ⟨-1, ?_, by simp⟩
      simp (maxSteps := 1000000) (implicitDefEqProofs := false) (disch := omega) [-getElem?_pos, c_slices_IndexFunc_int_int_b0]
    · simp at h2
  · have hlt := live_lt h2
    simp (maxSteps := 1000000) (implicitDefEqProofs := false) (disch := omega) [-getElem?_pos, c_slices_IndexFunc_int_int, h2]
    generalize hx : iter _ _ _ _ = x
    rcases hl L 0 _ x hx (by simp (maxSteps := 1000000) (implicitDefEqProofs := false) (disch := omega) [-getElem?_pos]) (Nat.zero_le _) (by omega) with ⟨h1, rfl⟩ | ⟨j, h1, h2, h3, h4, rfl⟩
    · refine ⟨-1, ?_, hany _ (fun _ => by simp) fun ⟨j, h3, h4⟩ => by rw [h1 j (Nat.zero_le _) h3] at h4; cases h4⟩
      simp (maxSteps := 1000000) (implicitDefEqProofs := false) (disch := omega) [-getElem?_pos, c_slices_IndexFunc_int_int_b0]
    · refine ⟨j, ?_, hany _ (fun h => absurd (h j h1 h2) h3) fun _ => by simp⟩
      simp (maxSteps := 1000000) (implicitDefEqProofs := false) (disch := omega) [-getElem?_pos]
theorem den_ContainsFunc (k : Nat) (m : List Blk) (v : C) (xs : List Int) (g : FuncId) (p : Int → Bool) (hv : Sl m v xs) (hL : xs.length < L) (hb : xs.length < 9000000000000000000)
    (hp : ∀ x, den T X L k g [vi x] m = some ⟨vb (p x), m, 0, 0⟩) :
    den T X L (k + 2) 118 [.c v, .c (.fn g)] m = some ⟨vb (xs.any p), m, 0, 0⟩ := by
  obtain ⟨r, h1, h2⟩ := den_IndexFunc (X := X) k m v xs g p hv hL hb hp
  rw [den_eq T_118, ← h2]
  simp (maxSteps := 1000000) (implicitDefEqProofs := false) (disch := omega) [-getElem?_pos, c_slices_ContainsFunc_int_int, h1]
theorem den_areValues (k : Nat) (m : List Blk) (v : C) (xs : List Int) (hv : Sl m v xs) (hL : xs.length < L) (hb : xs.length < 9000000000000000000) :
    den T X L (k + 6) 64 [.c v] m = some ⟨vb (xs.all isVal), m, 0, 0⟩ := by
  have h1 : ∀ x, den T X L (k + 3) 119 [vi x] m = some ⟨vb (!isVal x), m, 0, 0⟩ := by
    intro x
    rw [den_eq T_119]
    simp (maxSteps := 1000000) (implicitDefEqProofs := false) (disch := omega) [-getElem?_pos, c_impl_areValues_1, den_isValue]
  have h2 := den_ContainsFunc (X := X) (k + 3) m v xs 119 (fun x => !isVal x) hv hL hb h1
  rw [den_eq T_64]
  have e : (xs.any fun x => !isVal x) = !xs.all isVal := by
    induction xs with
    | nil => rfl
    | cons x xs ih => simp [List.any_cons, List.all_cons, List.not_all_eq_any_not]
  rw [e] at h2
  simp (maxSteps := 1000000) (implicitDefEqProofs := false) (disch := omega) [-getElem?_pos, c_impl_areValues, h2]
end Go.Proofs.Ytdnfcomgdgdifaa

set_option linter.unusedVariables false
set_option linter.unusedSimpArgs false
namespace Go.Proofs.Ytdnfcomgdgdifaa
variable {X : FuncId → List V → List Blk → Option Ret} {L : Nat}

def ix8 (a i : Int) : Nat := ((a + i) % 8).toNat
def okC (f : Nat → Int) (a b i : Int) : Bool := if i < b then isVal (f (ix8 a i)) else decide (f (ix8 a i) = 0)
def ringOk (f : Nat → Int) (a b : Int) : Bool := inB a 0 7 && inB b 0 8 && decide (∀ i : Nat, i < 8 → okC f a b i = true)
abbrev ring (f : Nat → Int) (a b : Int) : List C := ar 8 f ++ [ci a, ci b]

theorem den_spec_RingOk (hL : 100 ≤ L) (k : Nat) (m : List Blk) (f : Nat → Int) (a b : Int) :
    den T X L (k + 3) 83 [.agg (ring f a b)] m = some ⟨vb (ringOk f a b), m, 0, 0⟩ := by
  rw [den_eq T_83]
  by_cases ha : 0 ≤ a ∧ a ≤ 7
  case neg => simp (maxSteps := 1000000) (implicitDefEqProofs := false) (disch := omega) [-getElem?_pos, c_spec_RingOk, den_l1In, ringOk, inB_neg ha]
  by_cases hb : 0 ≤ b ∧ b ≤ 8
  case neg => simp (maxSteps := 1000000) (implicitDefEqProofs := false) (disch := omega) [-getElem?_pos, c_spec_RingOk, den_l1In, ringOk, inB_neg hb, inB_pos ha]
  have hl := iter_all (f := fun s => exec (den T X L (k + 2)) L m.length none c_spec_RingOk_b0 s) (tr := trim m.length (some [1, 3]))
    (fun i => ⟨[(1, .c (.ptr m.length 0 10)), (3, vi i)], m ++ [⟨ring f a b, 26, 0, true⟩], 0, 0⟩) 8 (fun i => okC f a b i = true)
    ⟨[(2, vb false)], m, 0, 0⟩ ?s1 ?s2 ⟨0, _, by simp (maxSteps := 1000000) (implicitDefEqProofs := false) (disch := omega) [-getElem?_pos, c_spec_RingOk_b0]; rfl⟩
  case s1 =>
    intro i hi hk
    by_cases hib : (i : Int) < b
    · have hk : isVal (f ((a + i) % 8).toNat) = true := by simpa [okC, hib, ix8] using hk
      refine ⟨_, by simp (maxSteps := 1000000) (implicitDefEqProofs := false) (disch := omega) [-getElem?_pos, c_spec_RingOk_b0, show (i : Int) < 8 by omega, den_l1Value, hib, hk, show ¬ b ≤ (i : Int) by omega]; rfl, ?_⟩
      simp (maxSteps := 1000000) (implicitDefEqProofs := false) (disch := omega) [-getElem?_pos]
    · have hk : f ((a + i) % 8).toNat = 0 := by unfold okC at hk; rw [if_neg hib] at hk; exact of_decide_eq_true hk
      refine ⟨_, by simp (maxSteps := 1000000) (implicitDefEqProofs := false) (disch := omega) [-getElem?_pos, c_spec_RingOk_b0, show (i : Int) < 8 by omega, den_l1Value, hib, hk, show b ≤ (i : Int) by omega]; rfl, ?_⟩
      simp (maxSteps := 1000000) (implicitDefEqProofs := false) (disch := omega) [-getElem?_pos]
  case s2 =>
    intro i hi hk
    by_cases hib : (i : Int) < b
    · have hk : isVal (f ((a + i) % 8).toNat) = false := by simpa [okC, hib, ix8] using hk
      simp (maxSteps := 1000000) (implicitDefEqProofs := false) (disch := omega) [-getElem?_pos, c_spec_RingOk_b0, show (i : Int) < 8 by omega, den_l1Value, hib, hk, show ¬ b ≤ (i : Int) by omega]
    · have hk : ¬ f ((a + i) % 8).toNat = 0 := fun h => hk (by unfold okC; rw [if_neg hib]; exact decide_eq_true h)
      simp (maxSteps := 1000000) (implicitDefEqProofs := false) (disch := omega) [-getElem?_pos, c_spec_RingOk_b0, show (i : Int) < 8 by omega, den_l1Value, hib, hk, show b ≤ (i : Int) by omega]
  simp (maxSteps := 1000000) (implicitDefEqProofs := false) (disch := omega) [-getElem?_pos, c_spec_RingOk, den_l1In, ringOk, inB_pos ha, inB_pos hb]
  rw [hl L 0 _ ?tr (by simp) (by omega)]
  case tr => simp (maxSteps := 1000000) (implicitDefEqProofs := false) (disch := omega) [-getElem?_pos, ar_refs]
  by_cases h : ∀ i : Nat, i < 8 → okC f a b i = true
  · rw [if_pos fun j h1 _ => h j h1, decide_eq_true h]
    simp (maxSteps := 1000000) (implicitDefEqProofs := false) (disch := omega) [-getElem?_pos, c_spec_RingOk_b0]
  · rw [if_neg fun h' => h fun j h1 => h' j h1 (Nat.zero_le _), decide_eq_false h]
    simp (maxSteps := 1000000) (implicitDefEqProofs := false) (disch := omega) [-getElem?_pos]

theorem ok_split {f : Nat → Int} {a b : Int} (ha : 0 ≤ a ∧ a ≤ 7) (hb : 0 ≤ b ∧ b ≤ 8) :
    (∀ i : Nat, i < 8 → okC f a b i = true) ↔ (∀ i : Nat, i < 8 → isVal (f i) = true) ∧ ∀ i : Nat, i < 8 → b.toNat ≤ i → f ((a + i) % 8).toNat = 0 := by
  have h0 : isVal 0 = true := by decide
  constructor
  · intro h
    constructor
    · intro i hi
      have := h ((i + 8 - a.toNat) % 8) (Nat.mod_lt _ (by omega))
      unfold okC ix8 at this
      rw [show ((a + ((i + 8 - a.toNat) % 8 : Nat)) % 8).toNat = i by omega] at this
      split at this
      · exact this
      · rw [of_decide_eq_true this]; exact h0
    · intro i hi hbi
      have := h i hi
      unfold okC ix8 at this
      rw [if_neg (by omega)] at this
      exact of_decide_eq_true this
  · intro ⟨h1, h2⟩ i hi
    unfold okC ix8
    split
    · exact h1 _ (by omega)
    · exact decide_eq_true (h2 i hi (by omega))

theorem sl_ring {m l : List Blk} {f : Nat → Int} {r : List C} {ty : Nat} {o : Bool} : Sl (m ++ ⟨ar 8 f ++ r, ty, 0, o⟩ :: l) (.sl m.length 0 8 (8 + r.length)) ((List.range 8).map f) := by
  refine .inr ⟨m.length, 0, 8 + r.length, ⟨ar 8 f ++ r, ty, 0, o⟩, rfl, ?_, .inl rfl, ?_⟩
  · rw [live_app0]; simp [ar_len]
  · intro j hj
    have hj : j < 8 := by simpa using hj
    rw [Nat.zero_add]
    show (ar 8 f ++ r)[j]? = _
    rw [ar_get hj]
    unfold nth
    simp [List.getD_eq_getElem?_getD, hj]

theorem den_impl_RingOk (hL : 100 ≤ L) (k : Nat) (m : List Blk) (f : Nat → Int) (a b : Int) :
    den T X L (k + 7) 14 [.agg (ring f a b)] m = some ⟨vb (ringOk f a b), m, 0, 0⟩ := by
  rw [den_eq T_14]
  by_cases ha : 0 ≤ a ∧ a ≤ 7
  case neg => simp (maxSteps := 1000000) (implicitDefEqProofs := false) (disch := omega) [-getElem?_pos, c_impl_RingOk, den_in, ringOk, inB_neg ha]
  by_cases hb : 0 ≤ b ∧ b ≤ 8
  case neg => simp (maxSteps := 1000000) (implicitDefEqProofs := false) (disch := omega) [-getElem?_pos, c_impl_RingOk, den_in, ringOk, inB_neg hb, inB_pos ha]
  have hv := den_areValues (X := X) (L := L) k (m ++ [⟨ring f a b, 26, 0, true⟩]) (.sl m.length 0 8 10) ((List.range 8).map f) sl_ring (by simp; omega) (by simp)
  have hall : ((List.range 8).map f).all isVal = decide (∀ i : Nat, i < 8 → isVal (f i) = true) := by
    rw [Bool.eq_iff_iff]; simp [List.all_eq_true]
  rw [hall] at hv
  by_cases h1 : ∀ i : Nat, i < 8 → isVal (f i) = true
  case neg =>
    rw [decide_eq_false h1] at hv
    have : ringOk f a b = false := by
      unfold ringOk
      rw [decide_eq_false fun h => h1 ((ok_split ha hb).mp h).1, Bool.and_false]
    rw [this]
    simp (maxSteps := 1000000) (implicitDefEqProofs := false) (disch := omega) [-getElem?_pos, c_impl_RingOk, den_in, inB_pos ha, inB_pos hb, hv]
  rw [decide_eq_true h1] at hv
  have hl := iter_all (f := fun s => exec (den T X L (k + 6)) L m.length none c_impl_RingOk_b0 s) (tr := trim m.length (some [1, 3]))
    (fun i => ⟨[(1, .c (.ptr m.length 0 10)), (3, vi i)], m ++ [⟨ring f a b, 26, 0, true⟩], 0, 0⟩) 8 (fun i => f ((a + i) % 8).toNat = 0)
    ⟨[(2, vb false)], m, 0, 0⟩ ?s1 ?s2 ⟨0, _, by simp (maxSteps := 1000000) (implicitDefEqProofs := false) (disch := omega) [-getElem?_pos, c_impl_RingOk_b0]; rfl⟩
  case s1 =>
    intro i hi hk
    refine ⟨_, by simp (maxSteps := 1000000) (implicitDefEqProofs := false) (disch := omega) [-getElem?_pos, c_impl_RingOk_b0, show (i : Int) < 8 by omega, hk]; rfl, ?_⟩
    simp (maxSteps := 1000000) (implicitDefEqProofs := false) (disch := omega) [-getElem?_pos]
  case s2 =>
    intro i hi hk
    simp (maxSteps := 1000000) (implicitDefEqProofs := false) (disch := omega) [-getElem?_pos, c_impl_RingOk_b0, show (i : Int) < 8 by omega, hk]
  simp (maxSteps := 1000000) (implicitDefEqProofs := false) (disch := omega) [-getElem?_pos, c_impl_RingOk, den_in, inB_pos ha, inB_pos hb, hv]
  rw [hl L b.toNat _ ?tr (by omega) (by omega)]
  case tr =>
    rw [show ((b.toNat : Nat) : Int) = b by omega]
    simp (maxSteps := 1000000) (implicitDefEqProofs := false) (disch := omega) [-getElem?_pos, ar_refs]
  by_cases h : ∀ i : Nat, i < 8 → b.toNat ≤ i → f ((a + i) % 8).toNat = 0
  · rw [if_pos h, show ringOk f a b = true by unfold ringOk; rw [inB_pos ha, inB_pos hb, decide_eq_true ((ok_split ha hb).mpr ⟨h1, h⟩)]; rfl]
    simp (maxSteps := 1000000) (implicitDefEqProofs := false) (disch := omega) [-getElem?_pos, c_impl_RingOk_b0]
  · rw [if_neg h, show ringOk f a b = false by unfold ringOk; rw [decide_eq_false fun h' => h ((ok_split ha hb).mp h').2, Bool.and_false]]
    simp (maxSteps := 1000000) (implicitDefEqProofs := false) (disch := omega) [-getElem?_pos]
end Go.Proofs.Ytdnfcomgdgdifaa

set_option linter.unusedVariables false
set_option linter.unusedSimpArgs false
namespace Go.Proofs.Ytdnfcomgdgdifaa
variable {X : FuncId → List V → List Blk → Option Ret} {L : Nat}

theorem ringOk_bounds {f : Nat → Int} {a b : Int} (h : ringOk f a b = true) : 0 ≤ a ∧ a ≤ 7 ∧ 0 ≤ b ∧ b ≤ 8 := by
  simp only [ringOk, Bool.and_eq_true, inB_iff] at h
  omega

def ringPut (f : Nat → Int) (a b v : Int) : ((Nat → Int) × Int × Int) × Int :=
  if ringOk f a b = false ∨ isVal v = false then ((f, a, b), 1) else if b = 8 then ((f, a, b), 2) else ((upd f ((a + b) % 8).toNat v, a, b + 1), 0)
def ringTake (f : Nat → Int) (a b : Int) : ((Nat → Int) × Int × Int) × Int × Int :=
  if ringOk f a b = false then ((f, a, b), 0, 1) else if b = 0 then ((f, a, b), 0, 3) else ((upd f a.toNat 0, (a + 1) % 8, b - 1), f a.toNat, 0)
abbrev ringV (r : (Nat → Int) × Int × Int) : List C := ring r.1 r.2.1 r.2.2

end Go.Proofs.Ytdnfcomgdgdifaa

set_option linter.unusedVariables false
set_option linter.unusedSimpArgs false
namespace Go.Proofs.Ytdnfcomgdgdifaa
variable {X : FuncId → List V → List Blk → Option Ret} {L : Nat}

def rpt {α : Type} (f : α → α) : Nat → α → α
  | 0, x => x
  | n + 1, x => f (rpt f n x)
theorem rpt_fix {α : Type} {f : α → α} {x : α} {j : Nat} (h : f (rpt f j x) = rpt f j x) : ∀ d, rpt f (j + d) x = rpt f j x
  | 0 => rfl
  | d + 1 => by rw [← Nat.add_assoc]; show f (rpt f (j + d) x) = _; rw [rpt_fix h d, h]

abbrev R3 := (Nat → Int) × Int × Int
def rot (r : R3) : R3 := if (ringTake r.1 r.2.1 r.2.2).2.2 = 0 then
  (ringPut (ringTake r.1 r.2.1 r.2.2).1.1 (ringTake r.1 r.2.1 r.2.2).1.2.1 (ringTake r.1 r.2.1 r.2.2).1.2.2 (ringTake r.1 r.2.1 r.2.2).2.1).1 else r
def ringTurn (r : R3) (n : Int) : R3 × Int := if ringOk r.1 r.2.1 r.2.2 = false ∨ inB n 0 1000 = false then (r, 1) else (rpt rot n.toNat r, 0)

theorem rot_fix {r : R3} (h : ¬ 0 < r.2.2) : rot r = r := by
  unfold rot ringTake
  cases ho : ringOk r.1 r.2.1 r.2.2 with
  | false => simp
  | true =>
    have := ringOk_bounds ho
    have h0 : r.2.2 = 0 := by omega
    simp [h0]
theorem rot_step {r : R3} (h : 0 < r.2.2) : rot r = (ringPut (ringTake r.1 r.2.1 r.2.2).1.1 (ringTake r.1 r.2.1 r.2.2).1.2.1 (ringTake r.1 r.2.1 r.2.2).1.2.2 (ringTake r.1 r.2.1 r.2.2).2.1).1 := by
  unfold rot
  split
  · rfl
  · rename_i hc
    cases ho : ringOk r.1 r.2.1 r.2.2 with
    | false => simp [ringTake, ringPut, ho]
    | true =>
      exfalso
      apply hc
      simp [ringTake, ho, show ¬ r.2.2 = 0 by omega]

end Go.Proofs.Ytdnfcomgdgdifaa

set_option linter.unusedVariables false
set_option linter.unusedSimpArgs false
set_option maxHeartbeats 4000000
namespace Go.Proofs.Ytdnfcomgdgdifaa
variable {X : FuncId → List V → List Blk → Option Ret} {L : Nat}

def rl (f : Nat → Int) (a : Int) (n : Nat) : List Int := (List.range n).map fun (i : Nat) => f (ix8 a i)
theorem rl_len (f : Nat → Int) (a : Int) (n : Nat) : (rl f a n).length = n := by simp [rl]
theorem rl_snoc (f : Nat → Int) (a : Int) (n : Nat) : rl f a n ++ [f ((a + n) % 8).toNat] = rl f a (n + 1) := by simp [rl, List.range_succ, ix8]
def ringList (f : Nat → Int) (a b : Int) : List Int := if ringOk f a b = true then rl f a b.toNat else []
theorem ringList_len (f : Nat → Int) (a b : Int) : (ringList f a b).length ≤ 8 := by
  unfold ringList
  split
  · rename_i h
    have := ringOk_bounds h
    rw [rl_len]; omega
  · exact Nat.zero_le _
def outI (m : List Blk) (l : List Int) : Ret := ⟨.c (.sl m.length 0 l.length l.length), m ++ [blkI l], 0, 0⟩
/-! Moved. -/
def mv1 (r : R3 × R3) : R3 × R3 := ((ringTake r.1.1 r.1.2.1 r.1.2.2).1, (ringPut r.2.1 r.2.2.1 r.2.2.2 (ringTake r.1.1 r.1.2.1 r.1.2.2).2.1).1)
def ringMove (r s : R3) (n : Int) : (R3 × R3) × Int :=
  if ringOk r.1 r.2.1 r.2.2 = false ∨ ringOk s.1 s.2.1 s.2.2 = false ∨ inB n 0 8 = false then ((r, s), 1)
  else if r.2.2 < n then ((r, s), 3) else if s.2.2 + n > 8 then ((r, s), 2) else (rpt mv1 n.toNat (r, s), 0)
def outM (r : (R3 × R3) × Int) : V := .tup [.agg (ringV r.1.1), .agg (ringV r.1.2), vi r.2]
end Go.Proofs.Ytdnfcomgdgdifaa

set_option linter.unusedVariables false
set_option linter.unusedSimpArgs false
set_option maxRecDepth 100000
namespace Go.Proofs.Ytdnfcomgdgdifaa
theorem ring_of_ints {xs : List Int} (h : xs.length = 10) (hx : ∀ x, x ∈ xs → i64 x) : ∃ f a b, ints xs = ring f a b ∧ i64 a ∧ i64 b ∧ ∀ i, i < 8 → i64 (f i) := by
  refine ⟨fun i => xs.getD i 0, xs.getD 8 0, xs.getD 9 0, ?_, ?_, ?_, ?_⟩
  · obtain ⟨x0, x1, x2, x3, x4, x5, x6, x7, x8, x9, rfl⟩ : ∃ x0 x1 x2 x3 x4 x5 x6 x7 x8 x9, xs = [x0, x1, x2, x3, x4, x5, x6, x7, x8, x9] := by
      match xs, h with
      | [x0, x1, x2, x3, x4, x5, x6, x7, x8, x9], _ => exact ⟨_, _, _, _, _, _, _, _, _, _, rfl⟩
    rfl
  all_goals
    have : ∀ i, i < 10 → i64 (xs.getD i 0) := fun i hi => by
      rw [List.getD_eq_getElem?_getD, List.getElem?_eq_getElem (by omega)]
      exact hx _ (List.getElem_mem _)
  · exact this 8 (by omega)
  · exact this 9 (by omega)
  · exact fun i hi => this i (by omega)

/-- An argument that is a ring. -/
theorem arg_ring {H : Type} {enc : TypeId × Value → H} {w : World} {base b0 : Nat} {spare : Nat → Bool} {held : Bool} {v : Value} {dd : DataW H} {p : List MemPlace}
    (h : DataW.Trod enc Try.prog w base spare held 84 v dd p) (hv : Value.okWide Try.prog w .any b0 84 v) :
    ∃ f a b, i64 a ∧ i64 b ∧ (∀ i, i < 8 → i64 (f i)) ∧ ∀ ι m, VR w ι m (.agg (ring f a b)) v := by
  obtain ⟨l, h1, rfl⟩ := arg_flat (ks := List.replicate 10 (some .i64)) (by kernel_rfl) (by kernel_rfl) hv h
  obtain ⟨xs, rfl, h2, h3⟩ := KL.ints h1
  obtain ⟨f, a, b, h4, h5, h6, h7⟩ := ring_of_ints h2 h3
  refine ⟨f, a, b, h5, h6, h7, fun ι m => ?_⟩
  rw [← h4]
  exact flat_VR h1
end Go.Proofs.Ytdnfcomgdgdifaa

set_option linter.unusedVariables false
set_option linter.unusedSimpArgs false
namespace Go.Proofs.Ytdnfcomgdgdifaa

theorem ringOk_iff {f : Nat → Int} {a b : Int} : ringOk f a b = true ↔ (0 ≤ a ∧ a ≤ 7) ∧ (0 ≤ b ∧ b ≤ 8) ∧ ∀ i : Nat, i < 8 → ((i : Int) < b → isVal (f (ix8 a i)) = true) ∧ (¬ (i : Int) < b → f (ix8 a i) = 0) := by
  simp only [ringOk, Bool.and_eq_true, inB_iff, decide_eq_true_eq, and_assoc]
  refine and_congr Iff.rfl (and_congr Iff.rfl (and_congr Iff.rfl (and_congr Iff.rfl (forall_congr' fun i => forall_congr' fun _ => ?_))))
  unfold okC
  by_cases h : (i : Int) < b
  · simp [h]
  · simp [h]
theorem ix_inj {a : Int} {i j : Nat} (ha : 0 ≤ a ∧ a ≤ 7) (hi : i < 8) (hj : j < 8) (h : ix8 a i = ix8 a j) : i = j := by
  unfold ix8 at h
  omega
theorem rl_ext {f g : Nat → Int} {a c : Int} {n : Nat} (h : ∀ i : Nat, i < n → f (ix8 a i) = g (ix8 c i)) : rl f a n = rl g c n := by
  unfold rl
  exact List.map_congr_left fun i hi => h i (List.mem_range.1 hi)

/-- A ring by its list. -/
def isRing (r : R3) (l : List Int) : Prop := ringOk r.1 r.2.1 r.2.2 = true ∧ ringList r.1 r.2.1 r.2.2 = l
theorem isRing.len {r : R3} {l : List Int} (h : isRing r l) : r.2.2 = l.length ∧ l.length ≤ 8 := by
  obtain ⟨h1, rfl⟩ := h
  have hb := ringOk_bounds h1
  unfold ringList
  rw [if_pos h1, rl_len]
  omega
theorem isRing.vals {r : R3} {l : List Int} (h : isRing r l) : ∀ x ∈ l, isVal x = true := by
  obtain ⟨h1, rfl⟩ := h
  obtain ⟨ha, hb, hc⟩ := ringOk_iff.1 h1
  unfold ringList
  rw [if_pos h1]
  intro x hx
  unfold rl at hx
  obtain ⟨i, hi, rfl⟩ := List.mem_map.1 hx
  have hi := List.mem_range.1 hi
  exact (hc i (by omega)).1 (by omega)
theorem isRing.full {r : R3} {l : List Int} (h : isRing r l) (v : Int) (hv : isVal v = true) (hl : l.length = 8) : ringPut r.1 r.2.1 r.2.2 v = (r, 2) := by
  have := h.len
  unfold ringPut
  rw [if_neg (by simp [h.1, hv]), if_pos (by omega)]
theorem isRing.put {r : R3} {l : List Int} (h : isRing r l) {v : Int} (hv : isVal v = true) (hl : l.length < 8) : (ringPut r.1 r.2.1 r.2.2 v).2 = 0 ∧ isRing (ringPut r.1 r.2.1 r.2.2 v).1 (l ++ [v]) := by
  have hn := h.len
  obtain ⟨f, a, b⟩ := r
  obtain ⟨h1, rfl⟩ := h
  simp only at h1 hn hl ⊢
  obtain ⟨ha, hb, hc⟩ := ringOk_iff.1 h1
  unfold ringPut
  rw [if_neg (by simp [h1, hv]), if_neg (by omega)]
  obtain ⟨n, rfl⟩ : ∃ n : Nat, b = n := ⟨b.toNat, by omega⟩
  have hix : ((a + (n : Int)) % 8).toNat = ix8 a n := rfl
  have hn8 : n < 8 := by omega
  have hok : ringOk (upd f (ix8 a n) v) a ((n : Int) + 1) = true := by
    refine ringOk_iff.2 ⟨ha, by omega, fun i hi => ?_⟩
    by_cases e : i = n
    · subst e
      rw [upd_at]
      exact ⟨fun _ => hv, fun h => absurd (by omega) h⟩
    · rw [upd_ne _ _ fun h => e (ix_inj ha hi hn8 h)]
      exact ⟨fun h => (hc i hi).1 (by omega), fun h => (hc i hi).2 (by omega)⟩
  refine ⟨rfl, ?_, ?_⟩
  · rw [hix]; exact hok
  · show ringList (upd f ((a + (n : Int)) % 8).toNat v) a ((n : Int) + 1) = _
    rw [hix]
    unfold ringList
    rw [if_pos hok, if_pos h1, show ((n : Int) + 1).toNat = n + 1 by omega, Int.toNat_natCast, ← rl_snoc, show f = f from rfl]
    rw [show ((a + (n : Int)) % 8).toNat = ix8 a n from rfl, upd_at]
    congr 1
    refine rl_ext fun i hi => upd_ne _ _ fun h => ?_
    have := ix_inj ha (by omega) hn8 h
    omega
theorem isRing.none {r : R3} (h : isRing r []) : ringTake r.1 r.2.1 r.2.2 = (r, 0, 3) := by
  have := h.len
  unfold ringTake
  rw [if_neg (by simp [h.1]), if_pos (by simpa using this.1)]
theorem isRing.take {r : R3} {x : Int} {l : List Int} (h : isRing r (x :: l)) : (ringTake r.1 r.2.1 r.2.2).2 = (x, 0) ∧ isRing (ringTake r.1 r.2.1 r.2.2).1 l := by
  have hn := h.len
  obtain ⟨f, a, b⟩ := r
  obtain ⟨h1, h2⟩ := h
  simp only [List.length_cons] at h1 h2 hn ⊢
  obtain ⟨ha, hb, hc⟩ := ringOk_iff.1 h1
  unfold ringTake
  rw [if_neg (by simp [h1]), if_neg (by omega)]
  obtain ⟨n, rfl⟩ : ∃ n : Nat, b = (n : Int) + 1 := ⟨(b - 1).toNat, by omega⟩
  have hx0 : ix8 a 0 = a.toNat := by unfold ix8; omega
  have hsh : ∀ i : Nat, ix8 ((a + 1) % 8) i = ix8 a ((i + 1 : Nat) : Int) := fun i => by unfold ix8; omega
  have hok : ringOk (upd f a.toNat 0) ((a + 1) % 8) ((n : Int) + 1 - 1) = true := by
    refine ringOk_iff.2 ⟨by omega, by omega, fun i hi => ?_⟩
    rw [hsh, ← hx0]
    by_cases e : i = 7
    · subst e
      have : ix8 a ((7 + 1 : Nat) : Int) = ix8 a 0 := by unfold ix8; omega
      rw [this, upd_at]
      exact ⟨fun h => by omega, fun _ => rfl⟩
    · rw [upd_ne _ _ fun h => by have := ix_inj (j := 0) ha (show i + 1 < 8 by omega) (by omega) h; omega]
      exact ⟨fun h => (hc (i + 1) (by omega)).1 (by omega), fun h => (hc (i + 1) (by omega)).2 (by omega)⟩
  have hlist : rl f a (n + 1) = f a.toNat :: rl (upd f a.toNat 0) ((a + 1) % 8) n := by
    unfold rl
    rw [List.range_succ_eq_map, List.map_cons, List.map_map]
    congr 1
    · exact congrArg f hx0
    · refine List.map_congr_left fun i hi => ?_
      have hi := List.mem_range.1 hi
      show f (ix8 a ((i + 1 : Nat) : Int)) = _
      rw [hsh, ← hx0, upd_ne _ _ fun h => by have := ix_inj (j := 0) ha (show i + 1 < 8 by omega) (by omega) h; omega]
  unfold ringList at h2
  rw [if_pos h1, show ((n : Int) + 1).toNat = n + 1 by omega, hlist] at h2
  injection h2 with h2 h3
  refine ⟨by rw [h2], hok, ?_⟩
  unfold ringList
  rw [if_pos hok, show ((n : Int) + 1 - 1).toNat = n by omega]
  exact h3

/-- Turned by one. -/
theorem isRing.rot {r : R3} {x : Int} {l : List Int} (h : isRing r (x :: l)) : isRing (rot r) (l ++ [x]) := by
  obtain ⟨h1, h2⟩ := h.take
  have hx := h.vals x (by simp)
  have hl := h.len
  simp only [List.length_cons] at hl
  unfold Go.Proofs.Ytdnfcomgdgdifaa.rot
  rw [if_pos (by rw [h1])]
  have := (h2.put hx (by omega)).2
  rw [h1]
  exact this
theorem isRing.rots {r : R3} : ∀ (n : Nat) {l : List Int}, n ≤ l.length → isRing r l → isRing (rpt Go.Proofs.Ytdnfcomgdgdifaa.rot n r) (l.drop n ++ l.take n)
  | 0, l, _, h => by rw [List.drop_zero, List.take_zero, List.append_nil]; exact h
  | n + 1, l, hn, h => by
    have ih := isRing.rots n (l := l) (by omega) h
    obtain ⟨x, hx⟩ : ∃ x, l[n]? = some x := ⟨l[n], by simp⟩
    have hlt : n < l.length := by omega
    rw [List.drop_eq_getElem_cons hlt] at ih
    have := ih.rot
    show isRing (Go.Proofs.Ytdnfcomgdgdifaa.rot (rpt Go.Proofs.Ytdnfcomgdgdifaa.rot n r)) _
    rw [List.take_succ_eq_append_getElem hlt, ← List.append_assoc]
    exact this
theorem isRing.round {r : R3} {l : List Int} (h : isRing r l) : isRing (rpt Go.Proofs.Ytdnfcomgdgdifaa.rot l.length r) l := by
  have := h.rots l.length (Nat.le_refl _)
  simpa using this

/-- Moved, one by one. -/
theorem isRing.moves : ∀ (n : Nat) {r s : R3} {l k : List Int}, isRing r l → isRing s k → n ≤ l.length → k.length + n ≤ 8 → isRing (rpt mv1 n (r, s)).1 (l.drop n) ∧ isRing (rpt mv1 n (r, s)).2 (k ++ l.take n)
  | 0, r, s, l, k, h1, h2, _, _ => by rw [List.drop_zero, List.take_zero, List.append_nil]; exact ⟨h1, h2⟩
  | n + 1, r, s, l, k, h1, h2, hn, hk => by
    obtain ⟨i1, i2⟩ := isRing.moves n h1 h2 (by omega) (by omega)
    have hlt : n < l.length := by omega
    rw [List.drop_eq_getElem_cons hlt] at i1
    obtain ⟨t1, t2⟩ := i1.take
    have hv := i1.vals l[n] (List.mem_cons_self ..)
    have hl : (k ++ l.take n).length < 8 := by rw [List.length_append, List.length_take]; omega
    show isRing (mv1 (rpt mv1 n (r, s))).1 _ ∧ isRing (mv1 (rpt mv1 n (r, s))).2 _
    refine ⟨t2, ?_⟩
    have := (i2.put hv hl).2
    rw [List.take_succ_eq_append_getElem hlt, ← List.append_assoc]
    show isRing (ringPut _ _ _ (ringTake (rpt mv1 n (r, s)).1.1 (rpt mv1 n (r, s)).1.2.1 (rpt mv1 n (r, s)).1.2.2).2.1).1 _
    rw [t1]
    exact this
theorem isRing.start {a : Int} (ha : 0 ≤ a ∧ a ≤ 7) : isRing (fun _ => 0, a, 0) [] := by
  have h : ringOk (fun _ => 0) a 0 = true := ringOk_iff.2 ⟨ha, by omega, fun i hi => ⟨fun h => by omega, fun _ => rfl⟩⟩
  refine ⟨h, ?_⟩
  unfold ringList
  rw [if_pos h]
  rfl
end Go.Proofs.Ytdnfcomgdgdifaa
