/-
  Chains: a range of the keys.
-/
import Derived.Test.YtonkgmajfcpeeaaC11
set_option linter.unusedVariables false
set_option linter.unusedSimpArgs false
set_option maxHeartbeats 4000000
namespace Go.Proofs.Ytonkgmajfcpeeaa
variable {X : FuncId → List V → List Blk → Option Ret} {L : Nat}

/-- The keys from lo to hi of an ascending list, with so many to open; and whether these are not too many. -/
def rgK (lo hi : Int) : Nat → List Int → List Int × Bool
  | _, [] => ([], true)
  | 0, _ :: _ => ([], false)
  | n + 1, k :: ks => if k > hi then ([], true) else if k ≥ lo then (k :: (rgK lo hi n ks).1, (rgK lo hi n ks).2) else rgK lo hi n ks
theorem rgK_nil {lo hi : Int} {n : Nat} : rgK lo hi n [] = ([], true) := by cases n <;> rfl
theorem rgK_far {lo hi x : Int} {n : Nat} {ks : List Int} (h : x > hi) : rgK lo hi (n + 1) (x :: ks) = ([], true) := by simp [rgK, h]
theorem rgK_in {lo hi x : Int} {n : Nat} {ks : List Int} (h : ¬ x > hi) (h2 : x ≥ lo) : rgK lo hi (n + 1) (x :: ks) = (x :: (rgK lo hi n ks).1, (rgK lo hi n ks).2) := by
  conv => lhs; unfold rgK
  rw [if_neg h, if_pos h2]
theorem rgK_out {lo hi x : Int} {n : Nat} {ks : List Int} (h : ¬ x > hi) (h2 : ¬ x ≥ lo) : rgK lo hi (n + 1) (x :: ks) = rgK lo hi n ks := by
  conv => lhs; unfold rgK
  rw [if_neg h, if_neg h2]
theorem rgK_len {lo hi : Int} : ∀ (n : Nat) (ks : List Int), (rgK lo hi n ks).1.length ≤ ks.length
  | n, [] => by rw [rgK_nil]; exact Nat.le_refl _
  | 0, _ :: _ => Nat.zero_le _
  | n + 1, x :: ks => by
    have := rgK_len (lo := lo) (hi := hi) n ks
    by_cases h : x > hi
    · rw [rgK_far h]; exact Nat.zero_le _
    · by_cases h2 : x ≥ lo
      · rw [rgK_in h h2]; simp only [List.length_cons]; omega
      · rw [rgK_out h h2]; simp only [List.length_cons]; omega
theorem drop_nth {xs : List Int} {i : Nat} (h : i < xs.length) : xs.drop i = nth xs i :: xs.drop (i + 1) := by
  rw [List.drop_eq_getElem_cons h]; simp [nth, h, List.getD_eq_getElem?_getD]
theorem ints_nth {xs : List Int} {j : Nat} (h : j < xs.length) : (ints xs)[j]? = some (ci (nth xs j)) := ints_get' h
def rgL (f : Nat → Nd) (a lo hi : Int) : List Int × Bool := rgK lo hi 10 (keysL (prs f 17 a))

section
variable (k : Nat) (m : List Blk) (f : Nat → Nd) (a lo hi : Int)
abbrev hR (ks vs out : List Int) (i : Nat) : St := ⟨[(1, vi lo), (2, vi hi), (10, .c (.sl (m.length + 3) 0 out.length out.length)), (22, .c (.sl (m.length + 1) 0 ks.length ks.length)), (23, vi ks.length), (24, vi i)], m ++ [⟨chn f a, 31, 0, true⟩, blkI ks, blkI vs, blkI out], 0, 0⟩
theorem range_impl_loop (hL : 100 ≤ L) (ks vs : List Int) (hn : ks.length ≤ 16) (st : St) (hst : trim m.length (some [1, 2, 10, 22, 23, 24]) st = hR m f a lo hi ks vs [] 0) :
    blkC m.length 0 (some [10]) (iter (fun s => exec (den T X L (k + 4)) L m.length none c_impl_MapRange_b0 s) (trim m.length (some [1, 2, 10, 22, 23, 24])) L st) =
      if (rgK lo hi 10 ks).2 = true then some (.norm, ⟨[(10, .c (.sl (m.length + 3) 0 (rgK lo hi 10 ks).1.length (rgK lo hi 10 ks).1.length))], m ++ [⟨chn f a, 31, 0, true⟩, blkI ks, blkI vs, blkI (rgK lo hi 10 ks).1], 0, 0⟩)
      else some (.ret, ⟨[(6, .c .nils), (7, vi 2)], m, 0, 0⟩) := by
  have hl := iter_blk (n0 := m.length) (id := 0) (ka := some [10]) (f := fun s => exec (den T X L (k + 4)) L m.length none c_impl_MapRange_b0 s) (tr := trim m.length (some [1, 2, 10, 22, 23, 24])) (σ := Nat × List Int)
    (fun s => hR m f a lo hi ks vs s.2 s.1) (fun s => s.1 ≤ ks.length ∧ s.1 ≤ 10 ∧ s.2.length ≤ s.1) (fun s => ks.length - s.1)
    (fun s => if (rgK lo hi (10 - s.1) (ks.drop s.1)).2 = true then (.norm, ⟨[(10, .c (.sl (m.length + 3) 0 (s.2 ++ (rgK lo hi (10 - s.1) (ks.drop s.1)).1).length (s.2 ++ (rgK lo hi (10 - s.1) (ks.drop s.1)).1).length))], m ++ [⟨chn f a, 31, 0, true⟩, blkI ks, blkI vs, blkI (s.2 ++ (rgK lo hi (10 - s.1) (ks.drop s.1)).1)], 0, 0⟩)
      else (.ret, ⟨[(6, .c .nils), (7, vi 2)], m, 0, 0⟩)) ?w
  case w =>
    rintro ⟨i, out⟩ ⟨h1, h2, h3⟩
    simp only at h1 h2 h3
    by_cases he : i = ks.length
    · refine ⟨.exit 0, _, by simp (maxSteps := 1000000) (implicitDefEqProofs := false) (disch := omega) [-getElem?_pos, c_impl_MapRange_b0, he]; rfl, ?_⟩
      simp only [he, List.drop_length, rgK_nil, if_true, List.append_nil]
      simp (maxSteps := 1000000) (implicitDefEqProofs := false) (disch := omega) [-getElem?_pos, c_blkx, ints_refs]
    · have hi1 : (i : Int) < (ks.length : Int) := by omega
      have hd := drop_nth (xs := ks) (i := i) (by omega)
      by_cases h10 : i = 10
      · refine ⟨.ret, _, by simp (maxSteps := 1000000) (implicitDefEqProofs := false) (disch := omega) [-getElem?_pos, c_impl_MapRange_b0, hi1, show (i : Int) = 10 by omega, show (10 : Int) < (ks.length : Int) by omega, ints_nth]; rfl, ?_⟩
        subst h10
        simp only [hd]
        simp (maxSteps := 1000000) (implicitDefEqProofs := false) (disch := omega) [-getElem?_pos, c_blkr, rgK]
      · have h10' : ¬ (i : Int) = 10 := by omega
        have hs : 10 - i = (10 - (i + 1)) + 1 := by omega
        by_cases hk : nth ks i > hi
        · refine ⟨.exit 0, _, by simp (maxSteps := 1000000) (implicitDefEqProofs := false) (disch := omega) [-getElem?_pos, c_impl_MapRange_b0, hi1, h10', ints_len, ints_nth, hk]; rfl, ?_⟩
          simp only [hd, hs, rgK_far hk, if_true, List.append_nil]
          simp (maxSteps := 1000000) (implicitDefEqProofs := false) (disch := omega) [-getElem?_pos, c_blkx, ints_refs]
        · by_cases hk2 : nth ks i ≥ lo
          · refine ⟨.norm, _, by simp (maxSteps := 1000000) (implicitDefEqProofs := false) (disch := omega) [-getElem?_pos, c_impl_MapRange_b0, hi1, h10', ints_len, ints_nth, hk, hk2, ints_snoc]; rfl, (i + 1, out ++ [nth ks i]), ?_, ⟨by omega, by omega, by simp only [List.length_append, List.length_cons, List.length_nil]; omega⟩, by omega, ?_⟩
            · simp (maxSteps := 1000000) (implicitDefEqProofs := false) (disch := omega) [-getElem?_pos, ints_refs, List.length_append]
            · simp only [hd, hs, rgK_in hk hk2, List.append_assoc, List.cons_append, List.nil_append]
          · refine ⟨.norm, _, by simp (maxSteps := 1000000) (implicitDefEqProofs := false) (disch := omega) [-getElem?_pos, c_impl_MapRange_b0, hi1, h10', ints_len, ints_nth, hk, hk2]; rfl, (i + 1, out), ?_, ⟨by omega, by omega, by show out.length ≤ i + 1; omega⟩, by omega, ?_⟩
            · simp (maxSteps := 1000000) (implicitDefEqProofs := false) (disch := omega) [-getElem?_pos, ints_refs]
            · simp only [hd, hs, rgK_out hk hk2]
  rw [hl L (0, []) st ⟨Nat.zero_le _, by omega, Nat.le_refl _⟩ hst (by show ks.length - 0 < L; omega)]
  simp only [Nat.sub_zero, List.drop_zero, List.nil_append]
  split <;> rfl
abbrev hRs (out : List Int) (j p : Int) : St := ⟨[(1, vi lo), (2, vi hi), (3, .c (.ptr m.length 0 65)), (8, .c (.sl (m.length + 1) 0 out.length out.length)), (9, vi j), (10, vi p)], m ++ [⟨chn f a, 31, 0, true⟩, blkI out], 0, 0⟩
theorem range_spec_loop (hL : 100 ≤ L) (hc : ch f κ0 a) (st : St) (hst : trim m.length (some [1, 2, 3, 8, 9, 10]) st = hRs m f a lo hi [] 0 a) :
    blkC m.length 0 (some [8]) (iter (fun s => exec (den T X L (k + 4)) L m.length none c_spec_MapRange_b0 s) (trim m.length (some [1, 2, 3, 8, 9, 10])) L st) =
      if (rgL f a lo hi).2 = true then some (.norm, ⟨[(8, .c (.sl (m.length + 1) 0 (rgL f a lo hi).1.length (rgL f a lo hi).1.length))], m ++ [⟨chn f a, 31, 0, true⟩, blkI (rgL f a lo hi).1], 0, 0⟩)
      else some (.ret, ⟨[(6, .c (.sl (m.length + 2) 0 0 0)), (7, vi 2)], m ++ [⟨chn f a, 31, 0, true⟩, blkI (rgL f a lo hi).1, blkI []], 0, 0⟩) := by
  have hl := iter_blk (n0 := m.length) (id := 0) (ka := some [8]) (f := fun s => exec (den T X L (k + 4)) L m.length none c_spec_MapRange_b0 s) (tr := trim m.length (some [1, 2, 3, 8, 9, 10])) (σ := Nat × Int × Int × List Int)
    (fun s => hRs m f a lo hi s.2.2.2 (10 - s.1) s.2.2.1) (fun s => ch f s.2.1 s.2.2.1 ∧ s.1 ≤ 10 ∧ s.2.2.2.length ≤ 10 - s.1) (fun s => s.1)
    (fun s => if (rgK lo hi s.1 (keysL (prs f 17 s.2.2.1))).2 = true then (.norm, ⟨[(8, .c (.sl (m.length + 1) 0 (s.2.2.2 ++ (rgK lo hi s.1 (keysL (prs f 17 s.2.2.1))).1).length (s.2.2.2 ++ (rgK lo hi s.1 (keysL (prs f 17 s.2.2.1))).1).length))], m ++ [⟨chn f a, 31, 0, true⟩, blkI (s.2.2.2 ++ (rgK lo hi s.1 (keysL (prs f 17 s.2.2.1))).1)], 0, 0⟩)
      else (.ret, ⟨[(6, .c (.sl (m.length + 2) 0 0 0)), (7, vi 2)], m ++ [⟨chn f a, 31, 0, true⟩, blkI (s.2.2.2 ++ (rgK lo hi s.1 (keysL (prs f 17 s.2.2.1))).1), blkI []], 0, 0⟩)) ?w
  case w =>
    rintro ⟨n, κ, p, out⟩ ⟨hc, h2, h3⟩
    simp only at hc h2 h3
    by_cases hp : p = -1
    · subst hp
      refine ⟨.exit 0, _, by simp (maxSteps := 1000000) (implicitDefEqProofs := false) (disch := omega) [-getElem?_pos, c_spec_MapRange_b0]; rfl, ?_⟩
      simp only [prs_end, keysL, List.map_nil, rgK_nil, if_true, List.append_nil]
      simp (maxSteps := 1000000) (implicitDefEqProofs := false) (disch := omega) [-getElem?_pos, c_blkx]
    · obtain ⟨q, rfl, hq, _, _, hc'⟩ := ch_nat hc hp
      have hp' : ¬ (q : Int) = -1 := hp
      have hd : keysL (prs f 17 q) = (f q).a :: keysL (prs f 17 (f q).c) := by rw [prs_step hc]; rfl
      cases n with
      | zero =>
        refine ⟨.ret, _, by simp (maxSteps := 1000000) (implicitDefEqProofs := false) (disch := omega) [-getElem?_pos, c_spec_MapRange_b0, hp']; rfl, ?_⟩
        simp only [hd, rgK]
        simp (maxSteps := 1000000) (implicitDefEqProofs := false) (disch := omega) [-getElem?_pos, c_blkr, ints, refsL]
      | succ n =>
        have h10 : ¬ (10 - ((n : Int) + 1)) = 10 := by omega
        have hn : 10 - ((n : Int) + 1) + 1 = 10 - n := by omega
        by_cases hk : (f q).a > hi
        · refine ⟨.exit 0, _, by simp (maxSteps := 1000000) (implicitDefEqProofs := false) (disch := omega) [-getElem?_pos, c_spec_MapRange_b0, hp', h10, hk]; rfl, ?_⟩
          simp only [hd, rgK_far hk, if_true, List.append_nil]
          simp (maxSteps := 1000000) (implicitDefEqProofs := false) (disch := omega) [-getElem?_pos, c_blkx]
        · by_cases hk2 : (f q).a ≥ lo
          · refine ⟨.norm, _, by simp (maxSteps := 1000000) (implicitDefEqProofs := false) (disch := omega) [-getElem?_pos, c_spec_MapRange_b0, hp', h10, hk, hk2, ints_snoc]; rfl, (n, (f q).a, (f q).c, out ++ [(f q).a]), ?_, ⟨hc', by omega, by show (out ++ [(f q).a]).length ≤ 10 - n; simp only [List.length_append, List.length_cons, List.length_nil]; omega⟩, by show n < n + 1; omega, ?_⟩
            · simp (maxSteps := 1000000) (implicitDefEqProofs := false) (disch := omega) [-getElem?_pos, List.length_append, hn]
            · simp only [hd, rgK_in hk hk2, List.append_assoc, List.cons_append, List.nil_append]
          · refine ⟨.norm, _, by simp (maxSteps := 1000000) (implicitDefEqProofs := false) (disch := omega) [-getElem?_pos, c_spec_MapRange_b0, hp', h10, hk, hk2]; rfl, (n, (f q).a, (f q).c, out), ?_, ⟨hc', by omega, by show out.length ≤ 10 - n; omega⟩, by show n < n + 1; omega, ?_⟩
            · simp (maxSteps := 1000000) (implicitDefEqProofs := false) (disch := omega) [-getElem?_pos, hn]
            · simp only [hd, rgK_out hk hk2]
  rw [hl L (10, κ0, a, []) st ⟨hc, by omega, Nat.zero_le _⟩ hst (by show 10 < L; omega)]
  simp only [List.nil_append]
  unfold rgL
  split <;> rfl
end
/-- What the program's range gives: nothing at all where it is refused. -/
def outRI (m : List Blk) (f : Nat → Nd) (a lo hi : Int) : Ret :=
  if chainOk f a = true then (if (rgL f a lo hi).2 = true then ⟨.tup [.c (.sl m.length 0 (rgL f a lo hi).1.length (rgL f a lo hi).1.length), vi 0], m ++ [blkI (rgL f a lo hi).1], 0, 0⟩ else ⟨.tup [.c .nils, vi 2], m, 0, 0⟩) else ⟨.tup [.c .nils, vi 1], m, 0, 0⟩
def outRS (m : List Blk) (f : Nat → Nd) (a lo hi : Int) : Ret :=
  if chainOk f a = true then (if (rgL f a lo hi).2 = true then ⟨.tup [.c (.sl m.length 0 (rgL f a lo hi).1.length (rgL f a lo hi).1.length), vi 0], m ++ [blkI (rgL f a lo hi).1], 0, 0⟩ else ⟨.tup [.c (.sl m.length 0 0 0), vi 2], m ++ [blkI []], 0, 0⟩) else ⟨.tup [.c (.sl m.length 0 0 0), vi 1], m ++ [blkI []], 0, 0⟩
theorem blkI_nil : blkI [] = ⟨[], 3, 1, true⟩ := rfl
theorem rgL_len {f : Nat → Nd} {a lo hi : Int} (h : ch f κ0 a) : (rgL f a lo hi).1.length ≤ 16 := by
  have h1 := rgK_len (lo := lo) (hi := hi) 10 (keysL (prs f 17 a))
  rw [keysL_len] at h1
  exact Nat.le_trans h1 (Nat.le_trans (prs_len 17 κ0 a h) (cn_le 16))
theorem den_impl_MapRange (hL : 100 ≤ L) (k : Nat) (m : List Blk) (f : Nat → Nd) (a lo hi : Int) : den T X L (k + 5) 37 [.agg (chn f a), vi lo, vi hi] m = some (outRI m f a lo hi) := by
  rw [den_eq T_37]
  unfold outRI
  cases hok : chainOk f a with
  | false => simp (maxSteps := 1000000) (implicitDefEqProofs := false) (disch := omega) [-getElem?_pos, c_impl_MapRange, den_impl_ChainOk hL (k + 1), den_impl_MapPairs hL, outP, pairsL, hok]
  | true =>
    have hc := ch_of hok
    have hlen := Nat.le_trans (prs_len 17 κ0 a hc) (cn_le 16)
    have hk := keysL_len (prs f 17 a)
    have hl := range_impl_loop (X := X) k m f a lo hi hL (keysL (prs f 17 a)) (valsL (prs f 17 a)) (by omega)
    simp (maxSteps := 1000000) (implicitDefEqProofs := false) (disch := omega) [-getElem?_pos, c_impl_MapRange, den_impl_ChainOk hL (k + 1), den_impl_MapPairs hL, outP, pairsL, hok, hk]
    rw [hl _ (by simp (maxSteps := 1000000) (implicitDefEqProofs := false) (disch := omega) [-getElem?_pos, ints, refsL, hk])]
    cases hb : (rgK lo hi 10 (keysL (prs f 17 a))).2 with
    | true => simp (maxSteps := 1000000) (implicitDefEqProofs := false) (disch := omega) [-getElem?_pos, hb, rgL]
    | false => simp (maxSteps := 1000000) (implicitDefEqProofs := false) (disch := omega) [-getElem?_pos, hb, rgL]
theorem den_spec_MapRange (hL : 100 ≤ L) (k : Nat) (m : List Blk) (f : Nat → Nd) (a lo hi : Int) : den T X L (k + 5) 36 [.agg (chn f a), vi lo, vi hi] m = some (outRS m f a lo hi) := by
  rw [den_eq T_36]
  unfold outRS
  cases hok : chainOk f a with
  | false => simp (maxSteps := 1000000) (implicitDefEqProofs := false) (disch := omega) [-getElem?_pos, c_spec_MapRange, den_spec_ChainOk hL (k + 1), hok, blkI_nil]
  | true =>
    have hl := range_spec_loop (X := X) k m f a lo hi hL (ch_of hok)
    simp (maxSteps := 1000000) (implicitDefEqProofs := false) (disch := omega) [-getElem?_pos, c_spec_MapRange, den_spec_ChainOk hL (k + 1), hok]
    rw [hl _ (by simp (maxSteps := 1000000) (implicitDefEqProofs := false) (disch := omega) [-getElem?_pos, ints, refsL])]
    cases hb : (rgL f a lo hi).2 with
    | true => simp (maxSteps := 1000000) (implicitDefEqProofs := false) (disch := omega) [-getElem?_pos, hb]
    | false => simp (maxSteps := 1000000) (implicitDefEqProofs := false) (disch := omega) [-getElem?_pos, hb, blkI_nil]
end Go.Proofs.Ytonkgmajfcpeeaa
