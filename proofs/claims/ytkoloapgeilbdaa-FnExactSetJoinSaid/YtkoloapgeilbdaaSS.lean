/-
  Slices of slices of numbers that stand in the memory: read, measured, compared, copied.
-/
import Derived.Test.YtkoloapgeilbdaaS1
import Derived.Test.YtkoloapgeilbdaaB1
set_option linter.unusedVariables false
set_option linter.unusedSimpArgs false
set_option maxHeartbeats 4000000
namespace Go.Proofs.Ytkoloapgeilbdaa
variable {X : FuncId → List V → List Blk → Option Ret} {L : Nat}

def nthL (xss : List (List Int)) (i : Nat) : List Int := xss.getD i []
def SS (m : List Blk) (v : C) (xss : List (List Int)) : Prop :=
  (v = .nils ∧ xss = []) ∨ ∃ b off tot blk, v = .sl b off xss.length tot ∧ live m b tot = some blk ∧ (blk.esz = 0 ∨ blk.esz = 1) ∧ ∀ j, j < xss.length → ∃ h, blk.cs[off + j]? = some h ∧ Sl m h (nthL xss j)
section
variable {m l : List Blk} {v : C} {xss : List (List Int)}
theorem SS.grow (h : SS m v xss) : SS (m ++ l) v xss := by
  rcases h with h | ⟨b, off, tot, blk, h1, h2, h3, h4⟩
  · exact .inl h
  · exact .inr ⟨b, off, tot, blk, h1, live_grow h2, h3, fun j hj => let ⟨h, a, b⟩ := h4 j hj; ⟨h, a, b.grow⟩⟩
theorem SS.lenV (h : SS m v xss) : lenV m (.c v) = some (vi xss.length) := by
  rcases h with ⟨rfl, rfl⟩ | ⟨b, off, tot, blk, rfl, h2, h3, h4⟩
  · rfl
  · simp [Go.Proofs.Ytkoloapgeilbdaa.lenV, h2]
theorem SS.ixV (h : SS m v xss) {i : Int} (hi : 0 ≤ i ∧ i < xss.length) : ixsV m 1 (.c v) (vi i) = some (.c (ptrOf v i.toNat)) := by
  rcases h with ⟨rfl, rfl⟩ | ⟨b, off, tot, blk, rfl, h2, h3, h4⟩
  · simp at hi; omega
  · simp [ixsV, h2, guard', hi, ptrOf]
theorem SS.ldV (h : SS m v xss) {i : Nat} (hi : i < xss.length) : ∃ c, ld1V m (.c (ptrOf v i)) = some (.c c) ∧ Sl m c (nthL xss i) := by
  rcases h with ⟨rfl, rfl⟩ | ⟨b, off, tot, blk, rfl, h2, h3, h4⟩
  · simp at hi
  · obtain ⟨c, e1, e2⟩ := h4 i hi
    exact ⟨c, by simp [ld1V, h2, ptrOf, e1], e2⟩
end
theorem nthL_lt {xss : List (List Int)} {i : Nat} (h : i < xss.length) : nthL xss i = xss[i] := by simp [nthL, List.getD_eq_getElem?_getD, h]
theorem nthL_ext {xss yss : List (List Int)} (hl : xss.length = yss.length) : (∀ j, j < xss.length → nthL xss j = nthL yss j) ↔ xss = yss := by
  constructor
  · intro h
    apply List.ext_getElem hl
    intro i h1 h2
    have := h i h1
    rwa [nthL_lt h1, nthL_lt h2] at this
  · rintro rfl _ _; rfl

/-! Measured. -/
def big (n : Nat) : Prop := n ≤ 9223372036854775807
theorem den_szIntS (k : Nat) (m : List Blk) (v : C) (xs : List Int) (left : Int) (hv : Sl m v xs) (hb : big xs.length) (hl : 0 ≤ left ∧ left ≤ 1048576) :
    den T X L (k + 1) 60 [.c v, vi left] m = some ⟨vi (if left < xs.length then -1 else left - xs.length), m, 0, 0⟩ := by
  rw [den_eq T_60]
  unfold big at hb
  by_cases h : left < xs.length
  · rw [if_pos h]
    simp (maxSteps := 1000000) (implicitDefEqProofs := false) (disch := omega) [-getElem?_pos, c_laws_szIntS, hv.lenV, show left - (xs.length : Int) < 0 by omega]
  · rw [if_neg h]
    simp (maxSteps := 1000000) (implicitDefEqProofs := false) (disch := omega) [-getElem?_pos, c_laws_szIntS, hv.lenV, show ¬ left - (xs.length : Int) < 0 by omega]
def szL : List (List Int) → Int → Int
  | [], left => left
  | xs :: r, left => if left < xs.length then -1 else szL r (left - xs.length)
theorem szL_le : ∀ {xss : List (List Int)} {left : Int}, 0 ≤ left → -1 ≤ szL xss left ∧ szL xss left ≤ left
  | [], left, h => by simp only [szL]; omega
  | xs :: r, left, h => by
    unfold szL
    split
    · omega
    · have := szL_le (xss := r) (left := left - xs.length) (by omega)
      omega
theorem szL_len : ∀ {xss : List (List Int)} {left : Int}, 0 ≤ left → 0 ≤ szL xss left → ∀ xs ∈ xss, (xs.length : Int) ≤ left
  | [], left, _, _, _, h => by cases h
  | ys :: r, left, h0, h1, xs, h => by
    unfold szL at h1
    split at h1
    · omega
    · rcases List.mem_cons.1 h with h | h
      · subst h; omega
      · have := szL_len (xss := r) (by omega) h1 xs h
        omega
theorem drop_nthL {xss : List (List Int)} {i : Nat} (h : i < xss.length) : xss.drop i = nthL xss i :: xss.drop (i + 1) := by rw [nthL_lt h]; exact List.drop_eq_getElem_cons h
theorem nthL_mem {xss : List (List Int)} {i : Nat} (h : i < xss.length) : nthL xss i ∈ xss := by rw [nthL_lt h]; exact List.getElem_mem h
def szSS (xss : List (List Int)) (left : Int) : Int := if left < xss.length then -1 else szL xss (left - xss.length)
theorem den_szIntSS (hL : 2000000 ≤ L) (k : Nat) (m : List Blk) (v : C) (xss : List (List Int)) (left : Int) (hv : SS m v xss) (hb : big xss.length) (hbs : ∀ xs ∈ xss, big xs.length) (hl : 0 ≤ left ∧ left ≤ 1048576) :
    den T X L (k + 2) 15 [.c v, vi left] m = some ⟨vi (szSS xss left), m, 0, 0⟩ := by
  rw [den_eq T_15]
  unfold szSS
  unfold big at hb
  by_cases h : left < xss.length
  · rw [if_pos h]
    simp (maxSteps := 1000000) (implicitDefEqProofs := false) (disch := omega) [-getElem?_pos, c_laws_szIntSS, hv.lenV, show left - (xss.length : Int) < 0 by omega]
  · rw [if_neg h]
    have hlp := iter_blk (n0 := m.length) (id := 0) (ka := some [1]) (f := fun s => exec (den T X L (k + 1)) L m.length none c_laws_szIntSS_b0 s) (tr := trim m.length (some [0, 1, 5])) (σ := Nat × Int)
      (fun s => ⟨[(0, .c v), (1, vi s.2), (5, vi s.1)], m, 0, 0⟩) (fun s => s.1 ≤ xss.length ∧ 0 ≤ s.2 ∧ s.2 ≤ 1048576) (fun s => xss.length - s.1)
      (fun s => if szL (xss.drop s.1) s.2 < 0 then (.ret, ⟨[(4, vi (-1))], m, 0, 0⟩) else (.norm, ⟨[(1, vi (szL (xss.drop s.1) s.2))], m, 0, 0⟩)) ?w
    case w =>
      rintro ⟨i, lf⟩ ⟨hi, h0, h1⟩
      simp only at hi h0 h1
      by_cases he : i = xss.length
      · refine ⟨.exit 0, _, by simp (maxSteps := 1000000) (implicitDefEqProofs := false) (disch := omega) [-getElem?_pos, c_laws_szIntSS_b0, he, hv.lenV]; rfl, ?_⟩
        subst he
        simp only [List.drop_length, szL, show ¬ lf < 0 by omega, if_false]
        simp (maxSteps := 1000000) (implicitDefEqProofs := false) (disch := omega) [-getElem?_pos, c_blkx, take_mx]
      · have hi' : (i : Int) < (xss.length : Int) := by omega
        have hx := hv.ixV (i := (i : Int)) (by omega)
        rw [Int.toNat_natCast] at hx
        obtain ⟨c, hc1, hc2⟩ := hv.ldV (i := i) (by omega)
        have hz := den_szIntS (X := X) (L := L) k m c _ lf hc2 (hbs _ (nthL_mem (by omega))) ⟨h0, h1⟩
        simp only [drop_nthL (show i < xss.length by omega), szL]
        by_cases hc : lf < (nthL xss i).length
        · simp only [if_pos hc, show (-1 : Int) < 0 by omega, if_true] at hz ⊢
          refine ⟨.ret, _, by simp (maxSteps := 1000000) (implicitDefEqProofs := false) (disch := omega) [-getElem?_pos, c_laws_szIntSS_b0, hv.lenV, hi', hx, hc1, hz]; rfl, ?_⟩
          simp (maxSteps := 1000000) (implicitDefEqProofs := false) (disch := omega) [-getElem?_pos, c_blkr, take_mx]
        · simp only [if_neg hc] at hz ⊢
          refine ⟨.norm, _, by simp (maxSteps := 1000000) (implicitDefEqProofs := false) (disch := omega) [-getElem?_pos, c_laws_szIntSS_b0, hv.lenV, hi', hx, hc1, hz, show ¬ lf - ((nthL xss i).length : Int) < 0 by omega]; rfl, (i + 1, lf - (nthL xss i).length), ?_, ⟨by omega, by omega, by omega⟩, by omega, rfl⟩
          simp (maxSteps := 1000000) (implicitDefEqProofs := false) (disch := omega) [-getElem?_pos, take_mx]
    have hd : ¬ left - (xss.length : Int) < 0 := by omega
    simp (maxSteps := 1000000) (implicitDefEqProofs := false) (disch := omega) [-getElem?_pos, c_laws_szIntSS, hv.lenV, hd]
    rw [hlp L (0, left - xss.length) _ ⟨Nat.zero_le _, by omega, by omega⟩ ?tr (by show xss.length - 0 < L; omega)]
    case tr => simp (maxSteps := 1000000) (implicitDefEqProofs := false) (disch := omega) [-getElem?_pos, take_mx]
    rw [List.drop_zero]
    by_cases hc : szL xss (left - xss.length) < 0
    · have := szL_le (xss := xss) (left := left - xss.length) (by omega)
      rw [if_pos hc, show szL xss (left - xss.length) = -1 by omega]
      simp (maxSteps := 1000000) (implicitDefEqProofs := false) (disch := omega) [-getElem?_pos]
    · rw [if_neg hc]
      simp (maxSteps := 1000000) (implicitDefEqProofs := false) (disch := omega) [-getElem?_pos]

/-! Copied. -/
theorem blkI_refs (xs : List Int) : refsL (blkI xs).cs = 0 := ints_refs xs
/-- A part filled in. -/
def fillN (xs : List Int) (n : Nat) (j : Nat) : Int := if j < n then nth xs j else 0
theorem ar_fill (xs : List Int) : ar xs.length (fillN xs xs.length) = ints xs := by
  rw [ar_of_list]
  exact ar_ext fun i hi => by simp [fillN, hi, nth]
theorem upd_fill (xs : List Int) (n : Nat) (len : Nat) : ar len (upd (fillN xs n) n (nth xs n)) = ar len (fillN xs (n + 1)) := ar_ext fun j hj => by
  unfold upd fillN
  by_cases h1 : j = n
  · subst h1; simp
  · by_cases h2 : j < n
    · simp [h1, h2, show j < n + 1 by omega]
    · simp [h1, h2, show ¬ j < n + 1 by omega]
theorem rep_ar (n : Nat) : rep n [.int .i64 0] = ar n (fun _ => 0) := by
  induction n with
  | zero => rfl
  | succ n ih =>
    rw [rep_flat] at ih ⊢
    rw [List.replicate_succ', ih]
    unfold ar
    rw [rows_succ]
theorem take_ge {l : List Blk} {a b c : Nat} (h : l.length ≤ c) : l.take (mx a (mx b c)) = l := List.take_of_length_le (by rw [mx_eq, mx_eq]; omega)
theorem den_toIntS (k : Nat) (m : List Blk) (v : C) (xs : List Int) (hv : Sl m v xs) (hL : xs.length < L) (hb : xs.length ≤ 1048576) :
    den T X L (k + 1) 63 [.c v] m = some ⟨.c (.sl m.length 0 xs.length xs.length), m ++ [blkI xs], 0, 0⟩ := by
  rw [den_eq T_63]
  have hlp := iter_blk (n0 := m.length) (id := 0) (ka := some [3]) (f := fun s => exec (den T X L k) L m.length none c_laws_toIntS_b0 s) (tr := trim m.length (some [0, 3, 4])) (σ := Nat)
    (fun i => ⟨[(0, .c v), (3, .c (.sl m.length 0 xs.length xs.length)), (4, vi i)], m ++ [⟨ar xs.length (fillN xs i), 3, 1, true⟩], 0, 0⟩) (fun i => i ≤ xs.length) (fun i => xs.length - i)
    (fun i => (.norm, ⟨[(3, .c (.sl m.length 0 xs.length xs.length))], m ++ [⟨ar xs.length (fillN xs xs.length), 3, 1, true⟩], 0, 0⟩)) ?w
  case w =>
    intro i hi
    have hg := fun l => (hv.grow (l := l)).lenV
    by_cases he : i = xs.length
    · subst he
      refine ⟨.exit 0, _, by simp (maxSteps := 1000000) (implicitDefEqProofs := false) (disch := omega) [-getElem?_pos, c_laws_toIntS_b0, hg]; rfl, ?_⟩
      have := hv.take
      simp (maxSteps := 1000000) (implicitDefEqProofs := false) (disch := omega) [-getElem?_pos, c_blkx]
    · have hi' : (i : Int) < (xs.length : Int) := by omega
      have hx := fun l => (hv.grow (l := l)).ixV (i := (i : Int)) (by omega)
      rw [Int.toNat_natCast] at hx
      have hd := fun l => (hv.grow (l := l)).ldV (i := i) (by omega)
      have := hv.take
      refine ⟨.norm, _, by simp (maxSteps := 1000000) (implicitDefEqProofs := false) (disch := omega) [-getElem?_pos, c_laws_toIntS_b0, hg, hi', hx, hd]; rfl, i + 1, ?_, by omega, by omega, rfl⟩
      simp (maxSteps := 1000000) (implicitDefEqProofs := false) (disch := omega) [-getElem?_pos, upd_fill]
      exact take_ge (by simp)
  have hb8 : (xs.length : Int) * 8 ≤ 140737488355328 := by omega
  simp (maxSteps := 1000000) (implicitDefEqProofs := false) (disch := omega) [-getElem?_pos, c_laws_toIntS, hv.lenV, hb8]
  rw [hlp L 0 _ (Nat.zero_le _) ?tr (by show xs.length - 0 < L; omega)]
  case tr =>
    have := hv.take
    have hz : List.replicate xs.length (C.int .i64 0) = ar xs.length (fillN xs 0) := by rw [← rep_flat, rep_ar]; rfl
    simp (maxSteps := 1000000) (implicitDefEqProofs := false) (disch := omega) [-getElem?_pos, hz]
    exact take_ge (by simp)
  simp (maxSteps := 1000000) (implicitDefEqProofs := false) (disch := omega) [-getElem?_pos, ar_fill]
end Go.Proofs.Ytkoloapgeilbdaa
