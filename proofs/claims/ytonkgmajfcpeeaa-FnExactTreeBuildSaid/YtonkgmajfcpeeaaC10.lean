/-
  Chains: their pairs.
-/
import Derived.Test.YtonkgmajfcpeeaaC9
import Derived.Test.YtonkgmajfcpeeaaS1
set_option linter.unusedVariables false
set_option linter.unusedSimpArgs false
set_option maxHeartbeats 4000000
namespace Go.Proofs.Ytonkgmajfcpeeaa
variable {X : FuncId → List V → List Blk → Option Ret} {L : Nat}

theorem ints_snoc (xs : List Int) (x : Int) : ints xs ++ [.int .i64 x] = ints (xs ++ [x]) := by simp [ints]
/-- The nodes from a place on, in order. -/
def prs (f : Nat → Nd) : Nat → Int → List Nd
  | 0, _ => []
  | n + 1, p => if p = -1 then [] else f p.toNat :: prs f n (f p.toNat).c
theorem prs_end (f : Nat → Nd) (n : Nat) : prs f n (-1) = [] := by cases n <;> rfl
theorem prs_fuel {f : Nat → Nd} : ∀ (n m : Nat) (κ p : Int), ch f κ p → cn (above f κ) 16 < n → cn (above f κ) 16 < m → prs f n p = prs f m p
  | 0, _, _, _, _, h, _ => by omega
  | _ + 1, 0, _, _, _, _, h => by omega
  | n + 1, m + 1, κ, p, hc, h1, h2 => by
    unfold prs
    by_cases hp : p = -1
    · rw [if_pos hp, if_pos hp]
    · obtain ⟨ho, hc'⟩ := ch_step hc hp
      have := above_step ho
      rw [if_neg hp, if_neg hp, prs_fuel n m _ _ hc' (by omega) (by omega)]
theorem prs_len {f : Nat → Nd} : ∀ (n : Nat) (κ p : Int), ch f κ p → (prs f n p).length ≤ cn (above f κ) 16
  | 0, _, _, _ => Nat.zero_le _
  | n + 1, κ, p, hc => by
    unfold prs
    by_cases hp : p = -1
    · rw [if_pos hp]; exact Nat.zero_le _
    · obtain ⟨ho, hc'⟩ := ch_step hc hp
      have h1 := above_step ho
      have h2 := prs_len n _ _ hc'
      rw [if_neg hp]
      simp only [List.length_cons]
      omega
theorem prs_step {f : Nat → Nd} {κ : Int} {q : Nat} (hc : ch f κ q) : prs f 17 q = f q :: prs f 17 (f q).c := by
  have hp : (q : Int) ≠ -1 := by omega
  obtain ⟨ho, hc'⟩ := ch_step hc hp
  have h1 := above_step ho
  have h2 := cn_le (q := above f κ) 16
  rw [Int.toNat_natCast] at hc' h1
  rw [prs_fuel 17 16 _ (f q).c hc' (by omega) (by omega)]
  show prs f (16 + 1) q = _
  conv => lhs; unfold prs
  rw [if_neg hp, Int.toNat_natCast]
def keysL (l : List Nd) : List Int := l.map (·.a)
def valsL (l : List Nd) : List Int := l.map (·.b)
theorem keysL_len (l : List Nd) : (keysL l).length = l.length := by simp [keysL]
theorem valsL_len (l : List Nd) : (valsL l).length = l.length := by simp [valsL]
theorem keysL_snoc (l : List Nd) (x : Nd) : keysL l ++ [x.a] = keysL (l ++ [x]) := by simp [keysL]
theorem valsL_snoc (l : List Nd) (x : Nd) : valsL l ++ [x.b] = valsL (l ++ [x]) := by simp [valsL]
def pairsL (f : Nat → Nd) (a : Int) : List Nd := if chainOk f a = true then prs f 17 a else []
theorem pairsL_len (f : Nat → Nd) (a : Int) : (pairsL f a).length ≤ 16 := by
  unfold pairsL
  split
  · rename_i h
    exact Nat.le_trans (prs_len 17 κ0 a (ch_of h)) (cn_le 16)
  · exact Nat.zero_le _
def outP (m : List Blk) (l : List Nd) : Ret := ⟨.tup [.c (.sl m.length 0 l.length l.length), .c (.sl (m.length + 1) 0 l.length l.length)], m ++ [blkI (keysL l), blkI (valsL l)], 0, 0⟩

section
variable (k : Nat) (m : List Blk) (f : Nat → Nd) (a : Int)
abbrev hP (l : List Nd) (p : Int) : St := ⟨[(1, .c (.ptr m.length 0 65)), (4, .c (.sl (m.length + 1) 0 l.length l.length)), (5, .c (.sl (m.length + 2) 0 l.length l.length)), (6, vi p)], m ++ [⟨chn f a, 31, 0, true⟩, blkI (keysL l), blkI (valsL l)], 0, 0⟩
abbrev rP (l : List Nd) : St := ⟨[(4, .c (.sl (m.length + 1) 0 l.length l.length)), (5, .c (.sl (m.length + 2) 0 l.length l.length))], m ++ [⟨chn f a, 31, 0, true⟩, blkI (keysL l), blkI (valsL l)], 0, 0⟩
theorem pairs_impl_step (l : List Nd) (q : Nat) (hq : q < 16) (hl : l.length < 17) : ∃ st, exec (den T X L (k + 3)) L m.length none c_impl_MapPairs_b0 (hP m f a l q) = some (.norm, st) ∧ trim m.length (some [1, 4, 5, 6]) st = hP m f a (l ++ [f q]) (f q).c := by
  refine ⟨_, by simp (maxSteps := 1000000) (implicitDefEqProofs := false) (disch := omega) [-getElem?_pos, c_impl_MapPairs_b0, show ¬ (q : Int) = -1 by omega, ints_len, keysL_len, valsL_len, ints_snoc, keysL_snoc, valsL_snoc]; rfl, ?_⟩
  simp (maxSteps := 1000000) (implicitDefEqProofs := false) (disch := omega) [-getElem?_pos, ints_refs, List.length_append]
theorem pairs_spec_step (l : List Nd) (q : Nat) (hq : q < 16) (hl : l.length < 17) : ∃ st, exec (den T X L (k + 3)) L m.length none c_spec_MapPairs_b0 (hP m f a l q) = some (.norm, st) ∧ trim m.length (some [1, 4, 5, 6]) st = hP m f a (l ++ [f q]) (f q).c := by
  refine ⟨_, by simp (maxSteps := 1000000) (implicitDefEqProofs := false) (disch := omega) [-getElem?_pos, c_spec_MapPairs_b0, show ¬ (q : Int) = -1 by omega, ints_len, keysL_len, valsL_len, ints_snoc, keysL_snoc, valsL_snoc]; rfl, ?_⟩
  simp (maxSteps := 1000000) (implicitDefEqProofs := false) (disch := omega) [-getElem?_pos, ints_refs, List.length_append]
theorem pairs_loop {b : IC} (hs : ∀ (l : List Nd) (q : Nat), q < 16 → l.length < 17 → ∃ st, exec (den T X L (k + 3)) L m.length none b (hP m f a l q) = some (.norm, st) ∧ trim m.length (some [1, 4, 5, 6]) st = hP m f a (l ++ [f q]) (f q).c)
    (he : ∀ l : List Nd, ∃ st, exec (den T X L (k + 3)) L m.length none b (hP m f a l (-1)) = some (.exit 0, st) ∧ trim m.length (some [4, 5]) st = rP m f a l) (hc : ch f κ0 a) (hL : 100 ≤ L) (st : St) (hst : trim m.length (some [1, 4, 5, 6]) st = hP m f a [] a) :
    blkC m.length 0 (some [4, 5]) (iter (fun s => exec (den T X L (k + 3)) L m.length none b s) (trim m.length (some [1, 4, 5, 6])) L st) = some (.norm, rP m f a (prs f 17 a)) := by
  have hl := iter_blk (n0 := m.length) (id := 0) (ka := some [4, 5]) (f := fun s => exec (den T X L (k + 3)) L m.length none b s) (tr := trim m.length (some [1, 4, 5, 6])) (σ := List Nd × Int × Int)
    (fun s => hP m f a s.1 s.2.2) (fun s => ch f s.2.1 s.2.2 ∧ s.1.length + cn (above f s.2.1) 16 ≤ 16) (fun s => cn (above f s.2.1) 16) (fun s => (.norm, rP m f a (s.1 ++ prs f 17 s.2.2))) ?w
  case w =>
    rintro ⟨l, κ, p⟩ ⟨hc, hn⟩
    simp only at hc hn
    by_cases hp : p = -1
    · subst hp
      obtain ⟨st, e1, e2⟩ := he l
      refine ⟨.exit 0, st, e1, ?_⟩
      simp only [c_blkx, e2, prs_end, List.append_nil]
    · obtain ⟨q, rfl, hq, _, _, hc'⟩ := ch_nat hc hp
      have h1 := above_step (ch_step hc hp).1
      rw [Int.toNat_natCast] at h1
      obtain ⟨st, e1, e2⟩ := hs l q hq (by omega)
      refine ⟨.norm, st, e1, (l ++ [f q], (f q).a, (f q).c), e2, ⟨hc', ?_⟩, h1, ?_⟩
      · simp only [List.length_append, List.length_cons, List.length_nil]; omega
      · simp only [prs_step hc, List.append_assoc, List.cons_append, List.nil_append]
  have h2 := cn_le (q := above f κ0) 16
  exact hl L ([], κ0, a) st ⟨hc, by show [].length + _ ≤ 16; simp only [List.length_nil]; omega⟩ hst (by show cn (above f κ0) 16 < L; omega)
end
theorem den_impl_MapPairs (hL : 100 ≤ L) (k : Nat) (m : List Blk) (f : Nat → Nd) (a : Int) : den T X L (k + 4) 29 [.agg (chn f a)] m = some (outP m (pairsL f a)) := by
  rw [den_eq T_29]
  unfold outP pairsL
  cases hok : chainOk f a with
  | false => simp (maxSteps := 1000000) (implicitDefEqProofs := false) (disch := omega) [-getElem?_pos, c_impl_MapPairs, den_impl_ChainOk hL, hok, keysL, valsL, ints]
  | true =>
    have hl := pairs_loop (X := X) k m f a (fun l q hq hl => pairs_impl_step k m f a l q hq hl) (fun l => ⟨_, by simp (maxSteps := 1000000) (implicitDefEqProofs := false) (disch := omega) [-getElem?_pos, c_impl_MapPairs_b0]; rfl, by simp (maxSteps := 1000000) (implicitDefEqProofs := false) (disch := omega) [-getElem?_pos, ints_refs]⟩) (ch_of hok) hL
    simp (maxSteps := 1000000) (implicitDefEqProofs := false) (disch := omega) [-getElem?_pos, c_impl_MapPairs, den_impl_ChainOk hL, hok]
    rw [hl _ (by simp (maxSteps := 1000000) (implicitDefEqProofs := false) (disch := omega) [-getElem?_pos, keysL, valsL, ints, refsL])]
    simp (maxSteps := 1000000) (implicitDefEqProofs := false) (disch := omega) [-getElem?_pos, ints_refs, ints_len, keysL_len, valsL_len]
theorem den_spec_MapPairs (hL : 100 ≤ L) (k : Nat) (m : List Blk) (f : Nat → Nd) (a : Int) : den T X L (k + 4) 28 [.agg (chn f a)] m = some (outP m (pairsL f a)) := by
  rw [den_eq T_28]
  unfold outP pairsL
  cases hok : chainOk f a with
  | false => simp (maxSteps := 1000000) (implicitDefEqProofs := false) (disch := omega) [-getElem?_pos, c_spec_MapPairs, den_spec_ChainOk hL, hok, keysL, valsL, ints]
  | true =>
    have hl := pairs_loop (X := X) k m f a (fun l q hq hl => pairs_spec_step k m f a l q hq hl) (fun l => ⟨_, by simp (maxSteps := 1000000) (implicitDefEqProofs := false) (disch := omega) [-getElem?_pos, c_spec_MapPairs_b0]; rfl, by simp (maxSteps := 1000000) (implicitDefEqProofs := false) (disch := omega) [-getElem?_pos, ints_refs]⟩) (ch_of hok) hL
    simp (maxSteps := 1000000) (implicitDefEqProofs := false) (disch := omega) [-getElem?_pos, c_spec_MapPairs, den_spec_ChainOk hL, hok]
    rw [hl _ (by simp (maxSteps := 1000000) (implicitDefEqProofs := false) (disch := omega) [-getElem?_pos, keysL, valsL, ints, refsL])]
    simp (maxSteps := 1000000) (implicitDefEqProofs := false) (disch := omega) [-getElem?_pos, ints_refs, ints_len, keysL_len, valsL_len]
end Go.Proofs.Ytonkgmajfcpeeaa
