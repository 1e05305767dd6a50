/-
 Small tests of numbers.
-/
import Derived.Test.YtfbeplbcaanimaaGreatTab
import Derived.Test.YtfbeplbcaanimaaGreatME
import Derived.Test.YtfbeplbcaanimaaGreatMD
import Derived.KernelRfl
import Derived.ChangeSlices
set_option linter.unusedVariables false
set_option linter.unusedSimpArgs false
namespace Go.Proofs.YtfbeplbcaanimaaGreat
variable {X : FuncId → List V → List Blk → Option Ret} {L : Nat}
def inB (n lo hi : Int) : Bool := decide (lo ≤ n) && decide (n ≤ hi)
def isVal (n : Int) : Bool := inB n (-1000000000) 1000000000
theorem den_in (k : Nat) (m : List Blk) (n lo hi : Int) : den T X L (k + 1) 45 [vi n, vi lo, vi hi] m = some ⟨vb (inB n lo hi), m, 0, 0⟩ := by
 rw [den_eq T_45]
 simp (maxSteps := 1000000) -implicitDefEqProofs (disch := omega) [-getElem?_pos, c_impl_in, inB]
 by_cases h : lo ≤ n <;> simp (maxSteps := 1000000) -implicitDefEqProofs (disch := omega) [-getElem?_pos, h]
theorem den_isValue (k : Nat) (m : List Blk) (n : Int) : den T X L (k + 2) 46 [vi n] m = some ⟨vb (isVal n), m, 0, 0⟩ := by
 rw [den_eq T_46]
 simp (maxSteps := 1000000) -implicitDefEqProofs (disch := omega) [-getElem?_pos, c_impl_isValue, den_in, isVal]
theorem den_l1In (k : Nat) (m : List Blk) (n lo hi : Int) : den T X L (k + 1) 36 [vi n, vi lo, vi hi] m = some ⟨vb (inB n lo hi), m, 0, 0⟩ := by
 rw [den_eq T_36]
 simp (maxSteps := 1000000) -implicitDefEqProofs (disch := omega) [-getElem?_pos, c_spec_l1In, inB]
 by_cases h : lo ≤ n <;> simp (maxSteps := 1000000) -implicitDefEqProofs (disch := omega) [-getElem?_pos, h]
theorem den_l1Value (k : Nat) (m : List Blk) (n : Int) : den T X L (k + 2) 37 [vi n] m = some ⟨vb (isVal n), m, 0, 0⟩ := by
 rw [den_eq T_37]
 simp (maxSteps := 1000000) -implicitDefEqProofs (disch := omega) [-getElem?_pos, c_spec_l1Value, den_l1In, isVal]
theorem inB_pos {n lo hi : Int} (h : lo ≤ n ∧ n ≤ hi) : inB n lo hi = true := by simp [inB, h]
theorem inB_iff {n lo hi : Int} : inB n lo hi = true ↔ lo ≤ n ∧ n ≤ hi := by simp [inB]
theorem inB_neg {n lo hi : Int} (h : ¬ (lo ≤ n ∧ n ≤ hi)) : inB n lo hi = false := by simp only [inB, ← Bool.decide_and]; exact decide_eq_false h
end Go.Proofs.YtfbeplbcaanimaaGreat
set_option linter.unusedVariables false
set_option linter.unusedSimpArgs false
namespace Go.Proofs.YtfbeplbcaanimaaGreat
variable {X : FuncId → List V → List Blk → Option Ret} {L : Nat}
def nd0 : Nd := ⟨false, 0, 0, 0⟩
theorem z4 : [C.bool false, C.int .i64 0, .int .i64 0, .int .i64 0] = nd nd0 := rfl
theorem z64 : [C.bool false, .int .i64 0, .int .i64 0, .int .i64 0, .bool false, .int .i64 0, .int .i64 0, .int .i64 0, .bool false, .int .i64 0, .int .i64 0, .int .i64 0, .bool false, .int .i64 0, .int .i64 0, .int .i64 0,
 .bool false, .int .i64 0, .int .i64 0, .int .i64 0, .bool false, .int .i64 0, .int .i64 0, .int .i64 0, .bool false, .int .i64 0, .int .i64 0, .int .i64 0, .bool false, .int .i64 0, .int .i64 0, .int .i64 0,
 .bool false, .int .i64 0, .int .i64 0, .int .i64 0, .bool false, .int .i64 0, .int .i64 0, .int .i64 0, .bool false, .int .i64 0, .int .i64 0, .int .i64 0, .bool false, .int .i64 0, .int .i64 0, .int .i64 0,
 .bool false, .int .i64 0, .int .i64 0, .int .i64 0, .bool false, .int .i64 0, .int .i64 0, .int .i64 0, .bool false, .int .i64 0, .int .i64 0, .int .i64 0, .bool false, .int .i64 0, .int .i64 0, .int .i64 0] = nds 16 fun _ => nd0 := rfl
theorem z65 : [C.bool false, .int .i64 0, .int .i64 0, .int .i64 0, .bool false, .int .i64 0, .int .i64 0, .int .i64 0, .bool false, .int .i64 0, .int .i64 0, .int .i64 0, .bool false, .int .i64 0, .int .i64 0, .int .i64 0,
 .bool false, .int .i64 0, .int .i64 0, .int .i64 0, .bool false, .int .i64 0, .int .i64 0, .int .i64 0, .bool false, .int .i64 0, .int .i64 0, .int .i64 0, .bool false, .int .i64 0, .int .i64 0, .int .i64 0,
 .bool false, .int .i64 0, .int .i64 0, .int .i64 0, .bool false, .int .i64 0, .int .i64 0, .int .i64 0, .bool false, .int .i64 0, .int .i64 0, .int .i64 0, .bool false, .int .i64 0, .int .i64 0, .int .i64 0,
 .bool false, .int .i64 0, .int .i64 0, .int .i64 0, .bool false, .int .i64 0, .int .i64 0, .int .i64 0, .bool false, .int .i64 0, .int .i64 0, .int .i64 0, .bool false, .int .i64 0, .int .i64 0, .int .i64 0, .int .i64 0] = nds 16 (fun _ => nd0) ++ [ci 0] := rfl
abbrev chn (f : Nat → Nd) (a : Int) : List C := nds 16 f ++ [ci a]
theorem den_toNode (k : Nat) (m : List Blk) (x : Nd) : den T X L (k + 1) 108 [.agg (nd x)] m = some ⟨.agg (nd x), m, 0, 0⟩ := by
 rw [den_eq T_108]
 simp (maxSteps := 1000000) -implicitDefEqProofs (disch := omega) [-getElem?_pos, c_laws_toNode, nd]
theorem den_toNodeA16 (hL : 100 ≤ L) (k : Nat) (m : List Blk) (f : Nat → Nd) : den T X L (k + 2) 74 [.agg (nds 16 f)] m = some ⟨.agg (nds 16 f), m, 0, 0⟩ := by
 rw [den_eq T_74]
 have hl := iter_up (f := fun s => exec (den T X L (k + 1)) L m.length none c_laws_toNodeA16_b0 s) (tr := trim m.length (some [1, 2, 3, 4]))
  (fun i => ⟨[(1, .c (.ptr m.length 0 64)), (2, .c (.ptr (m.length + 1) 0 64)), (3, .c (.ptr (m.length + 2) 0 64)), (4, vi i)], m ++ [⟨nds 16 f, 24, 0, true⟩, ⟨nds 16 fun _ => nd0, 42, 0, true⟩, ⟨nds 16 fun j => if j < i then f j else nd0, 42, 0, true⟩], 0, 0⟩) 16
  ?s1 ⟨0, _, by simp (maxSteps := 1000000) -implicitDefEqProofs (disch := omega) [-getElem?_pos, c_laws_toNodeA16_b0]; rfl⟩
 case s1 =>
  intro i hi
  refine ⟨_, by simp (maxSteps := 1000000) -implicitDefEqProofs (disch := omega) [-getElem?_pos, c_laws_toNodeA16_b0, show (i : Int) < 16 by omega, den_toNode]; rfl, ?_⟩
  simp (maxSteps := 1000000) -implicitDefEqProofs (disch := omega) [-getElem?_pos]
  refine nds_ext fun j hj => ?_
  unfold upd
  by_cases h1 : j = i
  ·subst h1; simp
  ·by_cases h2 : j < i
   ·simp [h1, h2, show j < i + 1 by omega]
   ·simp [h1, h2, show ¬ j < i + 1 by omega]
 simp (maxSteps := 1000000) -implicitDefEqProofs (disch := omega) [-getElem?_pos, c_laws_toNodeA16, z64]
 rw [hl L 0 _ ?tr (by omega) (by omega)]
 case tr => simp (maxSteps := 1000000) -implicitDefEqProofs (disch := omega) [-getElem?_pos, nds_refs]
 simp (maxSteps := 1000000) -implicitDefEqProofs (disch := omega) [-getElem?_pos, c_laws_toNodeA16_b0]
 exact nds_ext fun j hj => by simp [hj]
theorem den_toChain (hL : 100 ≤ L) (k : Nat) (m : List Blk) (f : Nat → Nd) (a : Int) : den T X L (k + 3) 39 [.agg (chn f a)] m = some ⟨.agg (chn f a), m, 0, 0⟩ := by
 rw [den_eq T_39]
 simp (maxSteps := 1000000) -implicitDefEqProofs (disch := omega) [-getElem?_pos, c_laws_toChain, z65, den_toNodeA16 hL]
end Go.Proofs.YtfbeplbcaanimaaGreat
set_option linter.unusedVariables false
namespace Go.Proofs.YtfbeplbcaanimaaGreat
def cn (q : Nat → Bool) : Nat → Nat
 | 0 => 0
 | n + 1 => cn q n + (if q n then 1 else 0)
theorem cn_le {q : Nat → Bool} : ∀ n, cn q n ≤ n
 | 0 => Nat.le_refl _
 | n + 1 => by have := cn_le (q := q) n; simp only [cn]; split <;> omega
theorem cn_mono {q q' : Nat → Bool} : ∀ n, (∀ i, i < n → q i = true → q' i = true) → cn q n ≤ cn q' n
 | 0, _ => Nat.le_refl _
 | n + 1, h => by
  have h1 := cn_mono n fun i hi => h i (by omega)
  have h2 := h n (by omega)
  simp only [cn]
  cases hq : q n <;> cases hq' : q' n <;> simp_all <;> omega
theorem cn_add {q q' : Nat → Bool} : ∀ n, (∀ i, i < n → q i = true → q' i = true) → ∀ j, j < n → q j = false → q' j = true → cn q n + 1 ≤ cn q' n
 | 0, _, j, hj, _, _ => by omega
 | n + 1, h, j, hj, h1, h2 => by
  simp only [cn]
  by_cases e : j = n
  ·subst e
   have := cn_mono j fun i hi => h i (by omega)
   simp [h1, h2]; omega
  ·have h3 := cn_add n (fun i hi => h i (by omega)) j (by omega) h1 h2
   have h4 := h n (by omega)
   cases hq : q n <;> cases hq' : q' n <;> simp_all <;> omega
theorem cn_only {q q' : Nat → Bool} : ∀ n, (∀ i, i < n → q i = true → q' i = true) → ∀ j, j < n → q j = false → q' j = true → cn q' n ≤ cn q n + 1 → ∀ i, i < n → q' i = true → q i = true ∨ i = j := by
 intro n hm j hj h1 h2 hle i hi hq'
 cases hqi : q i with
 | true => exact .inl rfl
 | false =>
  refine .inr (Classical.byContradiction fun hne => ?_)
  have ha := cn_add (q := q) (q' := fun l => q l || decide (l = i)) n (fun l hl hql => by simp [hql]) i hi hqi (by simp)
  have hb := cn_add (q := fun l => q l || decide (l = i)) (q' := q') n (fun l hl hql => by
   simp only [Bool.or_eq_true, decide_eq_true_eq] at hql
   rcases hql with hql | rfl
   ·exact hm l hl hql
   ·exact hq') j hj (by simp [h1, Ne.symm hne]) h2
  omega
def κ0 : Int := -1000000001
def above (f : Nat → Nd) (κ : Int) (i : Nat) : Bool := (f i).u && decide (κ < (f i).a)
def okp (f : Nat → Nd) (κ p : Int) : Bool := inB p 0 15 && (f p.toNat).u && decide (κ < (f p.toNat).a)
def chW (f : Nat → Nd) : Nat → Int → Int → Option Nat
 | 0, _, _ => none
 | n + 1, κ, p => if p = -1 then some 0 else if okp f κ p then (chW f n (f p.toNat).a (f p.toNat).c).map (· + 1) else none
theorem okp_iff {f : Nat → Nd} {κ p : Int} : okp f κ p = true ↔ (0 ≤ p ∧ p ≤ 15) ∧ (f p.toNat).u = true ∧ κ < (f p.toNat).a := by
 simp only [okp, Bool.and_eq_true, inB_iff, decide_eq_true_eq]
 exact ⟨fun ⟨⟨h1, h2⟩, h3⟩ => ⟨h1, h2, h3⟩, fun ⟨h1, h2, h3⟩ => ⟨⟨h1, h2⟩, h3⟩⟩
theorem above_step {f : Nat → Nd} {κ p : Int} (h : okp f κ p = true) : cn (above f (f p.toNat).a) 16 + 1 ≤ cn (above f κ) 16 := by
 obtain ⟨h1, h2, h3⟩ := okp_iff.mp h
 refine cn_add 16 (fun i hi hq => ?_) p.toNat (by omega) ?_ ?_
 ·simp only [above, Bool.and_eq_true, decide_eq_true_eq] at hq ⊢
  exact ⟨hq.1, by omega⟩
 ·simp [above]
 ·simp [above, h2, h3]
theorem chW_fuel {f : Nat → Nd} : ∀ (n m : Nat) (κ p : Int), cn (above f κ) 16 < n → cn (above f κ) 16 < m → chW f n κ p = chW f m κ p
 | 0, _, _, _, h, _ => by omega
 | _ + 1, 0, _, _, _, h => by omega
 | n + 1, m + 1, κ, p, h1, h2 => by
  simp only [chW]
  split
  ·rfl
  ·split
   ·rename_i ho
    have := above_step ho
    rw [chW_fuel n m _ _ (by omega) (by omega)]
   ·rfl
theorem chW_step {f : Nat → Nd} {κ p : Int} (hp : p ≠ -1) (h : okp f κ p = true) : chW f 17 κ p = (chW f 17 (f p.toNat).a (f p.toNat).c).map (· + 1) := by
 have h1 := above_step h
 have h2 := cn_le (q := above f κ) 16
 show (if p = -1 then some 0 else if okp f κ p then (chW f 16 (f p.toNat).a (f p.toNat).c).map (· + 1) else none) = _
 rw [if_neg hp, if_pos h, chW_fuel 16 17 _ _ (by omega) (by omega)]
theorem chW_end {f : Nat → Nd} {κ : Int} : chW f 17 κ (-1) = some 0 := rfl
theorem chW_bad {f : Nat → Nd} {κ p : Int} (hp : p ≠ -1) (h : okp f κ p = false) : chW f 17 κ p = none := by
 show (if p = -1 then some 0 else if okp f κ p then (chW f 16 (f p.toNat).a (f p.toNat).c).map (· + 1) else none) = _
 rw [if_neg hp, h]; rfl
theorem chW_le {f : Nat → Nd} : ∀ (n : Nat) (κ p : Int) (t : Nat), chW f n κ p = some t → t ≤ cn (above f κ) 16
 | 0, _, _, _, h => by cases h
 | n + 1, κ, p, t, h => by
  simp only [chW] at h
  split at h
  ·injection h with h; omega
  ·split at h
   ·rename_i ho
    simp only [Option.map_eq_some_iff] at h
    obtain ⟨t', h1, rfl⟩ := h
    have := chW_le n _ _ _ h1
    have := above_step ho
    omega
   ·cases h
theorem chW_full {f : Nat → Nd} : ∀ (n : Nat) (κ p : Int) (t : Nat), chW f n κ p = some t → cn (above f κ) 16 ≤ t → ∀ i, i < 16 → above f κ i = true → -1 ≤ (f i).c ∧ (f i).c ≤ 15
 | 0, _, _, _, h, _, _, _, _ => by cases h
 | n + 1, κ, p, t, h, hle, i, hi, ha => by
  simp only [chW] at h
  split at h
  ·injection h with h
   subst h
   have := cn_add (q := fun _ => false) (q' := above f κ) 16 (by simp) i hi rfl ha
   omega
  ·split at h
   ·rename_i ho
    simp only [Option.map_eq_some_iff] at h
    obtain ⟨t', h1, rfl⟩ := h
    have h2 := chW_le n _ _ _ h1
    have h3 := above_step ho
    obtain ⟨g1, g2, g3⟩ := okp_iff.mp ho
    rcases cn_only 16 (q := above f (f p.toNat).a) (q' := above f κ) (fun i hi hq => by
     simp only [above, Bool.and_eq_true, decide_eq_true_eq] at hq ⊢
     exact ⟨hq.1, by omega⟩) p.toNat (by omega) (by simp [above]) (by simp [above, g2, g3]) (by omega) i hi ha with h4 | h4
    ·exact chW_full n _ _ _ h1 (by omega) i hi h4
    ·subst h4
     cases n with
     | zero => cases h1
     | succ n =>
      simp only [chW] at h1
      split at h1
      ·omega
      ·split at h1
       ·rename_i hq
        have := (okp_iff.mp hq).1
        omega
       ·cases h1
   ·cases h
def nodeOk (x : Nd) : Bool := if x.u then isVal x.a && isVal x.b else decide (x.a = 0) && decide (x.b = 0) && decide (x.c = 0)
def usedN (f : Nat → Nd) : Nat := cn (fun i => (f i).u) 16
def chainOk (f : Nat → Nd) (a : Int) : Bool := decide (∀ i : Nat, i < 16 → nodeOk (f i) = true) && decide (chW f 17 κ0 a = some (usedN f))
theorem used_above {f : Nat → Nd} (h : ∀ i : Nat, i < 16 → nodeOk (f i) = true) : ∀ i, i < 16 → (f i).u = true → above f κ0 i = true := by
 intro i hi hu
 have := h i hi
 simp only [nodeOk, hu, if_true, Bool.and_eq_true, isVal, inB_iff] at this
 simp only [above, hu, Bool.true_and, κ0]
 exact decide_eq_true (by omega)
theorem chain_strict {f : Nat → Nd} {a : Int} (h : chainOk f a = true) : ∀ i, i < 16 → (f i).u = true → inB (f i).c (-1) 15 = true := by
 simp only [chainOk, Bool.and_eq_true, decide_eq_true_eq] at h
 intro i hi hu
 exact inB_pos (chW_full 17 _ _ _ h.2 (by
  unfold usedN
  exact cn_mono 16 fun j hj hq => by simp only [above, Bool.and_eq_true] at hq; exact hq.1) i hi (used_above h.1 i hi hu))
end Go.Proofs.YtfbeplbcaanimaaGreat
set_option linter.unusedVariables false
namespace Go.Proofs.YtfbeplbcaanimaaGreat
def ch (f : Nat → Nd) (κ p : Int) : Prop := ∃ d, chW f 17 κ p = some d
theorem ch_step {f : Nat → Nd} {κ p : Int} (h : ch f κ p) (hp : p ≠ -1) : okp f κ p = true ∧ ch f (f p.toNat).a (f p.toNat).c := by
 obtain ⟨d, hd⟩ := h
 cases ho : okp f κ p with
 | false => rw [chW_bad hp ho] at hd; cases hd
 | true =>
  rw [chW_step hp ho] at hd
  simp only [Option.map_eq_some_iff] at hd
  obtain ⟨d', h1, _⟩ := hd
  exact ⟨rfl, d', h1⟩
theorem ch_of {f : Nat → Nd} {a : Int} (h : chainOk f a = true) : ch f κ0 a := by
 simp only [chainOk, Bool.and_eq_true, decide_eq_true_eq] at h
 exact ⟨_, h.2⟩
theorem ch_nat {f : Nat → Nd} {κ p : Int} (h : ch f κ p) (hp : p ≠ -1) : ∃ q : Nat, p = q ∧ q < 16 ∧ (f q).u = true ∧ κ < (f q).a ∧ ch f (f q).a (f q).c := by
 obtain ⟨h1, h2⟩ := ch_step h hp
 obtain ⟨h3, h4, h5⟩ := okp_iff.mp h1
 refine ⟨p.toNat, by omega, by omega, h4, h5, h2⟩
def wk (f : Nat → Nd) (key : Int) : Nat → Int → Int → Int × Int × Nat × Bool
 | n, ah, p => if p = -1 then (ah, p, 0, true) else match n with
  | 0 => (ah, p, 0, false)
  | n + 1 => if key ≤ (f p.toNat).a then (ah, p, 1, true) else ((wk f key n p (f p.toNat).c).1, (wk f key n p (f p.toNat).c).2.1, (wk f key n p (f p.toNat).c).2.2.1 + 1, (wk f key n p (f p.toNat).c).2.2.2)
theorem wk_end {f : Nat → Nd} {key ah : Int} {n : Nat} : wk f key n ah (-1) = (ah, -1, 0, true) := by cases n <;> rfl
theorem wk_zero {f : Nat → Nd} {key ah p : Int} (h : p ≠ -1) : wk f key 0 ah p = (ah, p, 0, false) := by simp [wk, h]
theorem wk_hit {f : Nat → Nd} {key ah p : Int} {n : Nat} (h : p ≠ -1) (hk : key ≤ (f p.toNat).a) : wk f key (n + 1) ah p = (ah, p, 1, true) := by simp [wk, h, hk]
theorem wk_go {f : Nat → Nd} {key ah p : Int} {n : Nat} (h : p ≠ -1) (hk : ¬ key ≤ (f p.toNat).a) : wk f key (n + 1) ah p = ((wk f key n p (f p.toNat).c).1, (wk f key n p (f p.toNat).c).2.1, (wk f key n p (f p.toNat).c).2.2.1 + 1, (wk f key n p (f p.toNat).c).2.2.2) := by
 conv => lhs; unfold wk
 rw [if_neg h]
 simp only [if_neg hk]
theorem wk_le {f : Nat → Nd} {key : Int} : ∀ (n : Nat) (ah p : Int), (wk f key n ah p).2.2.1 ≤ n
 | 0, ah, p => by by_cases h : p = -1; · subst h; rw [wk_end]; exact Nat.le_refl _
                  ·rw [wk_zero h]; exact Nat.le_refl _
 | n + 1, ah, p => by
  by_cases h : p = -1
  ·subst h; rw [wk_end]; exact Nat.zero_le _
  ·by_cases hk : key ≤ (f p.toNat).a
   ·rw [wk_hit h hk]; show 1 ≤ n + 1; omega
   ·rw [wk_go h hk]
    have := wk_le (f := f) (key := key) n p (f p.toNat).c
    show _ + 1 ≤ n + 1
    omega
theorem wk_in {f : Nat → Nd} {key : Int} : ∀ (n : Nat) (κ ah p : Int), ch f κ p → (ah = -1 ∨ (0 ≤ ah ∧ ah ≤ 15)) →
  ((wk f key n ah p).2.1 = -1 ∨ (0 ≤ (wk f key n ah p).2.1 ∧ (wk f key n ah p).2.1 ≤ 15)) ∧ ((wk f key n ah p).1 = -1 ∨ (0 ≤ (wk f key n ah p).1 ∧ (wk f key n ah p).1 ≤ 15)) := by
 intro n
 induction n with
 | zero =>
  intro κ ah p hc ha
  by_cases h : p = -1
  ·subst h; rw [wk_end]; exact ⟨.inl rfl, ha⟩
  ·rw [wk_zero h]
   obtain ⟨q, rfl, hq, _⟩ := ch_nat hc h
   exact ⟨.inr ⟨by show (0 : Int) ≤ q; omega, by show (q : Int) ≤ 15; omega⟩, ha⟩
 | succ n ih =>
  intro κ ah p hc ha
  by_cases h : p = -1
  ·subst h; rw [wk_end]; exact ⟨.inl rfl, ha⟩
  ·obtain ⟨q, rfl, hq, _, _, hn⟩ := ch_nat hc h
   by_cases hk : key ≤ (f (q : Int).toNat).a
   ·rw [wk_hit h hk]
    exact ⟨.inr ⟨by show (0 : Int) ≤ q; omega, by show (q : Int) ≤ 15; omega⟩, ha⟩
   ·rw [wk_go h hk]
    exact ih _ _ _ (by simpa using hn) (.inr ⟨by omega, by omega⟩)
end Go.Proofs.YtfbeplbcaanimaaGreat
set_option linter.unusedVariables false
namespace Go.Proofs.YtfbeplbcaanimaaGreat
inductive Tr (f : Nat → Nd) : Int → List Nat → Prop
 | nil : Tr f (-1) []
 | node {q : Nat} {l r : List Nat} (hq : q < 16) (hu : (f q).u = true) (hl : Tr f (f q).b l) (hr : Tr f (f q).c r) : Tr f q (l ++ q :: r)
theorem Tr.inv {f : Nat → Nd} {p : Int} {l : List Nat} (h : Tr f p l) : (p = -1 ∧ l = []) ∨ ∃ (q : Nat) (l1 r1 : List Nat), p = q ∧ q < 16 ∧ (f q).u = true ∧ Tr f (f q).b l1 ∧ Tr f (f q).c r1 ∧ l = l1 ++ q :: r1 := by
 cases h with
 | nil => exact .inl ⟨rfl, rfl⟩
 | node hq hu hl hr => exact .inr ⟨_, _, _, rfl, hq, hu, hl, hr, rfl⟩
theorem Tr.det {f : Nat → Nd} {p : Int} {l : List Nat} (h : Tr f p l) : ∀ {l' : List Nat}, Tr f p l' → l = l' := by
 induction h with
 | nil =>
  intro l' h'
  rcases h'.inv with ⟨_, h1⟩ | ⟨q, _, _, h1, _⟩
  ·exact h1.symm
  ·omega
 | @node q l r hq hu hl hr ih1 ih2 =>
  intro l' h'
  rcases h'.inv with ⟨h1, _⟩ | ⟨q', l1, r1, h1, _, _, h2, h3, rfl⟩
  ·omega
  ·have : q' = q := by omega
   subst this
   rw [ih1 h2, ih2 h3]
theorem Tr.mem {f : Nat → Nd} {p : Int} {l : List Nat} (h : Tr f p l) : ∀ {q : Nat}, q ∈ l → q < 16 ∧ (f q).u = true ∧ ∃ lq, Tr f q lq ∧ lq.length ≤ l.length := by
 induction h with
 | nil => intro q hq; cases hq
 | @node q l r hq hu hl hr ih1 ih2 =>
  intro q' hq'
  rcases List.mem_append.1 hq' with h1 | h1
  ·obtain ⟨a1, a2, lq, a3, a4⟩ := ih1 h1
   exact ⟨a1, a2, lq, a3, by simp only [List.length_append, List.length_cons]; omega⟩
  ·rcases List.mem_cons.1 h1 with h1 | h1
   ·subst h1
    exact ⟨hq, hu, _, .node hq hu hl hr, Nat.le_refl _⟩
   ·obtain ⟨a1, a2, lq, a3, a4⟩ := ih2 h1
    exact ⟨a1, a2, lq, a3, by simp only [List.length_append, List.length_cons]; omega⟩
theorem Tr.not_l {f : Nat → Nd} {q : Nat} {l r : List Nat} (hq : q < 16) (hu : (f q).u = true) (hl : Tr f (f q).b l) (hr : Tr f (f q).c r) : q ∉ l ∧ q ∉ r := by
 have h := Tr.node hq hu hl hr
 constructor
 ·intro hm
  obtain ⟨_, _, lq, h1, h2⟩ := hl.mem hm
  have := congrArg List.length (h.det h1)
  simp only [List.length_append, List.length_cons] at this
  omega
 ·intro hm
  obtain ⟨_, _, lq, h1, h2⟩ := hr.mem hm
  have := congrArg List.length (h.det h1)
  simp only [List.length_append, List.length_cons] at this
  omega
theorem Tr.congr {f g : Nat → Nd} {p : Int} {l : List Nat} (h : Tr f p l) (hg : ∀ q ∈ l, g q = f q) : Tr g p l := by
 induction h with
 | nil => exact .nil
 | @node q l r hq hu hl hr ih1 ih2 =>
  have e := hg q (by simp)
  have h1 := ih1 fun x hx => hg x (by simp [hx])
  have h2 := ih2 fun x hx => hg x (by simp [hx])
  exact .node hq (by rw [e]; exact hu) (by rw [e]; exact h1) (by rw [e]; exact h2)
theorem Tr.hide {f : Nat → Nd} {p : Int} {l : List Nat} {q : Nat} (h : Tr f p l) (hq : q ∉ l) (x : Nd) : Tr (upd f q x) p l := h.congr fun y hy => upd_ne f x fun e => hq (e ▸ hy)
theorem Tr.show' {f : Nat → Nd} {p : Int} {l : List Nat} {q : Nat} (h : Tr (upd f q nd0) p l) : Tr f p l := h.congr fun y hy => by
 have := (h.mem hy).2.1
 by_cases e : y = q
 ·subst e; rw [upd_at] at this; cases this
 ·exact (upd_ne f nd0 e).symm
theorem cn_congr {q q' : Nat → Bool} : ∀ n, (∀ i, i < n → q i = q' i) → cn q n = cn q' n
 | 0, _ => rfl
 | n + 1, h => by unfold cn; rw [cn_congr n fun i hi => h i (by omega), h n (by omega)]
theorem cn_none : ∀ n, cn (fun _ => false) n = 0
 | 0 => rfl
 | n + 1 => by unfold cn; rw [cn_none n]; rfl
theorem cn_ins {q : Nat → Bool} {j : Nat} (hq : q j = false) : ∀ n, j < n → cn (fun i => q i || i == j) n = cn q n + 1
 | 0, h => by omega
 | n + 1, h => by
  unfold cn
  by_cases e : j = n
  ·subst e
   rw [cn_congr (q' := q) j fun i hi => by simp [show ¬ i = j by omega]]
   simp [hq]
  ·rw [cn_ins hq n (by omega)]
   have : ¬ n = j := fun x => e x.symm
   simp [this]
   omega
theorem cn_mem : ∀ {l : List Nat}, l.Nodup → (∀ x ∈ l, x < 16) → cn (fun i => l.contains i) 16 = l.length
 | [], _, _ => cn_none 16
 | x :: l, hn, hl => by
  rw [List.nodup_cons] at hn
  have h := cn_mem hn.2 fun y hy => hl y (by simp [hy])
  have h2 := cn_ins (q := fun i => l.contains i) (j := x) (by simpa using hn.1) 16 (hl x (by simp))
  rw [List.length_cons, ← h, ← h2]
  refine cn_congr 16 fun i _ => ?_
  rw [List.contains_cons, Bool.or_comm]
theorem cn_all {q q' : Nat → Bool} {n : Nat} (h : ∀ i, i < n → q i = true → q' i = true) (he : cn q n = cn q' n) : ∀ i, i < n → q' i = true → q i = true := by
 intro i hi hq'
 cases hq : q i with
 | true => rfl
 | false =>
  have := cn_add n h i hi hq hq'
  omega
def K : Nat → (Nat → Nd) → Int → List Nat → List Nat × Bool
 | 0, _, _, out => (out, false)
 | n + 1, f, p, out => if p = -1 then (out, true) else if (inB p 0 15 && (f p.toNat).u && decide (out.length < 16)) = true then
   (if (K n (upd f p.toNat nd0) (f p.toNat).b out).2 = true ∧ (K n (upd f p.toNat nd0) (f p.toNat).b out).1.length < 16 then K n (upd f p.toNat nd0) (f p.toNat).c ((K n (upd f p.toNat nd0) (f p.toNat).b out).1 ++ [p.toNat])
    else ((K n (upd f p.toNat nd0) (f p.toNat).b out).1, false)) else (out, false)
theorem K_end {f : Nat → Nd} {n : Nat} {out : List Nat} : K (n + 1) f (-1) out = (out, true) := rfl
theorem K_bad {f : Nat → Nd} {n : Nat} {p : Int} {out : List Nat} (hp : p ≠ -1) (h : (inB p 0 15 && (f p.toNat).u && decide (out.length < 16)) = false) : K (n + 1) f p out = (out, false) := by
 conv => lhs; unfold K
 rw [if_neg hp, if_neg (by simp [h])]
theorem K_go {f : Nat → Nd} {n q : Nat} {out : List Nat} (hq : q < 16) (hu : (f q).u = true) (ho : out.length < 16) : K (n + 1) f q out =
  if (K n (upd f q nd0) (f q).b out).2 = true ∧ (K n (upd f q nd0) (f q).b out).1.length < 16 then K n (upd f q nd0) (f q).c ((K n (upd f q nd0) (f q).b out).1 ++ [q]) else ((K n (upd f q nd0) (f q).b out).1, false) := by
 conv => lhs; unfold K
 rw [if_neg (by omega), Int.toNat_natCast, if_pos (by simp [inB_pos (show (0 : Int) ≤ q ∧ (q : Int) ≤ 15 by omega), hu, ho])]
theorem K_sound : ∀ (n : Nat) (f : Nat → Nd) (p : Int) (out res : List Nat), K n f p out = (res, true) → ∃ l, Tr f p l ∧ res = out ++ l ∧ (l = [] ∨ res.length ≤ 16)
 | 0, _, _, _, _, h => by cases h
 | n + 1, f, p, out, res, h => by
  by_cases hp : p = -1
  ·subst hp
   rw [K_end] at h
   injection h with h1 _
   exact ⟨[], .nil, by simp [h1], .inl rfl⟩
  ·cases hc : (inB p 0 15 && (f p.toNat).u && decide (out.length < 16)) with
   | false => rw [K_bad hp hc] at h; cases h
   | true =>
    simp only [Bool.and_eq_true, decide_eq_true_eq, inB_iff] at hc
    obtain ⟨q, rfl⟩ : ∃ q : Nat, p = q := ⟨p.toNat, by omega⟩
    obtain ⟨⟨h1, h2⟩, h3⟩ := hc
    rw [Int.toNat_natCast] at h2
    rw [K_go (by omega) h2 h3] at h
    split at h
    ·rename_i hc2
     cases hl : K n (upd f q nd0) (f q).b out with
     | mk r1 b1 =>
      rw [hl] at h hc2
      obtain ⟨l, l1, l2, l3⟩ := K_sound n _ _ _ r1 (by rw [hl]; exact Prod.ext rfl hc2.1)
      obtain ⟨r, q1, q2, q3⟩ := K_sound n _ _ _ res h
      refine ⟨l ++ q :: r, .node (by omega) h2 l1.show' q1.show', ?_, .inr ?_⟩
      ·rw [q2, l2]; simp
      ·rcases q3 with q3 | q3
       ·subst q3
        have := hc2.2
        rw [q2]
        simp only [List.length_append, List.length_cons, List.length_nil] at this ⊢
        omega
       ·exact q3
    ·cases h
def usedC (f : Nat → Nd) : Nat := cn (fun i => (f i).u) 16
theorem usedC_hide {f : Nat → Nd} {q : Nat} (hq : q < 16) (hu : (f q).u = true) : usedC (upd f q nd0) < usedC f := by
 have := cn_add (q := fun i => (upd f q nd0 i).u) (q' := fun i => (f i).u) 16 (fun i _ h => by
  by_cases e : i = q
  ·subst e; rw [upd_at] at h; cases h
  ·rwa [upd_ne _ _ e] at h) q hq (by rw [upd_at]; rfl) hu
 exact this
theorem K_complete : ∀ (n : Nat) (f : Nat → Nd) (p : Int) (out l : List Nat), Tr f p l → out.length + l.length ≤ 16 → usedC f < n → K n f p out = (out ++ l, true)
 | 0, _, _, _, _, _, _, h => by omega
 | n + 1, f, p, out, l, h, hl, hn => by
  rcases h.inv with ⟨rfl, rfl⟩ | ⟨q, l1, r1, rfl, h1, h2, h3, h4, rfl⟩
  ·rw [K_end, List.append_nil]
  ·obtain ⟨m1, m2⟩ := Tr.not_l h1 h2 h3 h4
   have hc := usedC_hide h1 h2
   simp only [List.length_append, List.length_cons] at hl
   rw [K_go h1 h2 (by omega), K_complete n _ _ _ _ (h3.hide m1 nd0) (by omega) (by omega)]
   rw [if_pos ⟨rfl, by simp only [List.length_append]; omega⟩, K_complete n _ _ _ _ (h4.hide m2 nd0) (by simp only [List.length_append, List.length_cons, List.length_nil]; omega) (by omega)]
   simp
def Pt : Nat → (Nat → Nd) → Int → Int → Int → (Nat → Bool) → Bool × (Nat → Bool)
 | 0, _, _, _, _, met => (false, met)
 | n + 1, f, p, lo, hi, met => if p = -1 then (true, met) else if (inB p 0 15 && !(met p.toNat) && (f p.toNat).u && inB (f p.toNat).a lo hi) = true then
   (if (Pt n f (f p.toNat).b lo ((f p.toNat).a - 1) (upd met p.toNat true)).1 = true then Pt n f (f p.toNat).c ((f p.toNat).a + 1) hi (Pt n f (f p.toNat).b lo ((f p.toNat).a - 1) (upd met p.toNat true)).2
    else (false, (Pt n f (f p.toNat).b lo ((f p.toNat).a - 1) (upd met p.toNat true)).2)) else (false, met)
theorem Pt_end {f : Nat → Nd} {n : Nat} {lo hi : Int} {met : Nat → Bool} : Pt (n + 1) f (-1) lo hi met = (true, met) := rfl
theorem Pt_bad {f : Nat → Nd} {n : Nat} {p lo hi : Int} {met : Nat → Bool} (hp : p ≠ -1) (h : (inB p 0 15 && !(met p.toNat) && (f p.toNat).u && inB (f p.toNat).a lo hi) = false) : Pt (n + 1) f p lo hi met = (false, met) := by
 conv => lhs; unfold Pt
 rw [if_neg hp, if_neg (by simp [h])]
theorem Pt_go {f : Nat → Nd} {n q : Nat} {lo hi : Int} {met : Nat → Bool} (hq : q < 16) (hm : met q = false) (hu : (f q).u = true) (hk : inB (f q).a lo hi = true) : Pt (n + 1) f q lo hi met =
  if (Pt n f (f q).b lo ((f q).a - 1) (upd met q true)).1 = true then Pt n f (f q).c ((f q).a + 1) hi (Pt n f (f q).b lo ((f q).a - 1) (upd met q true)).2 else (false, (Pt n f (f q).b lo ((f q).a - 1) (upd met q true)).2) := by
 conv => lhs; unfold Pt
 rw [if_neg (by omega), Int.toNat_natCast, if_pos (by simp [inB_pos (show (0 : Int) ≤ q ∧ (q : Int) ≤ 15 by omega), hu, hm, hk])]
def asc (f : Nat → Nd) (l : List Nat) : Prop := l.Pairwise fun x y => (f x).a < (f y).a
theorem Pt_sound : ∀ (n : Nat) (f : Nat → Nd) (p lo hi : Int) (met met' : Nat → Bool), Pt n f p lo hi met = (true, met') →
  ∃ l, Tr f p l ∧ asc f l ∧ (∀ q ∈ l, lo ≤ (f q).a ∧ (f q).a ≤ hi ∧ met q = false) ∧ ∀ i, met' i = (met i || l.contains i)
 | 0, _, _, _, _, _, _, h => by cases h
 | n + 1, f, p, lo, hi, met, met', h => by
  by_cases hp : p = -1
  ·subst hp
   rw [Pt_end] at h
   injection h with _ h1
   subst h1
   exact ⟨[], .nil, .nil, by simp, by simp⟩
  ·cases hc : (inB p 0 15 && !(met p.toNat) && (f p.toNat).u && inB (f p.toNat).a lo hi) with
   | false => rw [Pt_bad hp hc] at h; cases h
   | true =>
    simp only [Bool.and_eq_true, inB_iff, Bool.not_eq_true'] at hc
    obtain ⟨q, rfl⟩ : ∃ q : Nat, p = q := ⟨p.toNat, by omega⟩
    rw [Int.toNat_natCast] at hc
    obtain ⟨⟨⟨h1, h2⟩, h3⟩, h4⟩ := hc
    rw [Pt_go (by omega) h2 h3 (inB_pos h4)] at h
    split at h
    ·rename_i hc2
     generalize hl : Pt n f (f q).b lo ((f q).a - 1) (upd met q true) = z at h hc2
     obtain ⟨z1, z2⟩ := z
     simp only at hc2 h
     subst hc2
     obtain ⟨l, a1, a2, a3, a4⟩ := Pt_sound n f _ _ _ _ _ hl
     obtain ⟨r, b1, b2, b3, b4⟩ := Pt_sound n f _ _ _ _ _ h
     have hmq : ∀ x, upd met q true x = false → x ≠ q ∧ met x = false := fun x hx => by
      by_cases e : x = q
      ·subst e; rw [upd_at] at hx; cases hx
      ·exact ⟨e, by rwa [upd_ne _ _ e] at hx⟩
     refine ⟨l ++ q :: r, .node (by omega) h3 a1 b1, ?_, fun x hx => ?_, fun i => ?_⟩
     ·refine List.pairwise_append.2 ⟨a2, List.pairwise_cons.2 ⟨fun x hx => ?_, b2⟩, fun x hx y hy => ?_⟩
      ·have := (b3 x hx).1; omega
      ·have := (a3 x hx).2.1
       rcases List.mem_cons.1 hy with hy | hy
       ·subst hy; omega
       ·have := (b3 y hy).1; omega
     ·rcases List.mem_append.1 hx with hx | hx
      ·obtain ⟨k1, k2, k3⟩ := a3 x hx
       exact ⟨k1, by omega, (hmq x k3).2⟩
      ·rcases List.mem_cons.1 hx with hx | hx
       ·subst hx; exact ⟨h4.1, h4.2, h2⟩
       ·obtain ⟨k1, k2, k3⟩ := b3 x hx
        rw [a4, Bool.or_eq_false_iff] at k3
        exact ⟨by omega, k2, (hmq x k3.1).2⟩
     ·rw [b4, a4]
      by_cases e : i = q
      ·subst e; rw [upd_at]; simp
      ·rw [upd_ne _ _ e]
       simp only [List.contains_eq_mem, List.mem_append, List.mem_cons, e, false_or, Bool.decide_or, Bool.or_assoc]
    ·cases h
theorem Pt_complete : ∀ (n : Nat) (f : Nat → Nd) (p lo hi : Int) (met : Nat → Bool) (l : List Nat), Tr f p l → asc f l → (∀ q ∈ l, lo ≤ (f q).a ∧ (f q).a ≤ hi ∧ met q = false) → l.length < n →
  ∃ met', Pt n f p lo hi met = (true, met') ∧ ∀ i, met' i = (met i || l.contains i)
 | 0, _, _, _, _, _, _, _, _, _, h => by omega
 | n + 1, f, p, lo, hi, met, l, h, ha, hk, hn => by
  rcases h.inv with ⟨rfl, rfl⟩ | ⟨q, l1, r1, rfl, h1, h2, h3, h4, rfl⟩
  ·exact ⟨met, Pt_end, by simp⟩
  ·simp only [List.length_append, List.length_cons] at hn
   obtain ⟨m1, m2⟩ := Tr.not_l h1 h2 h3 h4
   obtain ⟨p1, p2, p3⟩ := List.pairwise_append.1 ha
   obtain ⟨p4, p5⟩ := List.pairwise_cons.1 p2
   obtain ⟨k1, k2, k3⟩ := hk q (by simp)
   obtain ⟨met1, e1, e2⟩ := Pt_complete n f _ lo ((f q).a - 1) (upd met q true) l1 h3 p1 (fun x hx => by
    obtain ⟨y1, y2, y3⟩ := hk x (by simp [hx])
    have := p3 x hx q (by simp)
    exact ⟨y1, by omega, by rw [upd_ne (j := x) (i := q) met true (fun e => m1 (e ▸ hx))]; exact y3⟩) (by omega)
   have hnd : ∀ x ∈ r1, x ∉ l1 := fun x hx hx' => by
    have := p3 x hx' x (by simp [hx])
    omega
   obtain ⟨met2, e3, e4⟩ := Pt_complete n f _ ((f q).a + 1) hi met1 r1 h4 p5 (fun x hx => by
    obtain ⟨y1, y2, y3⟩ := hk x (by simp [hx])
    have := p4 x hx
    refine ⟨by omega, y2, ?_⟩
    rw [e2, upd_ne (j := x) (i := q) met true (fun e => m2 (e ▸ hx)), y3]
    simpa using hnd x hx) (by omega)
   refine ⟨met2, ?_, fun i => ?_⟩
   ·rw [Pt_go h1 k3 h2 (inB_pos ⟨k1, k2⟩), e1, if_pos rfl, e3]
   ·rw [e4, e2]
    by_cases e : i = q
    ·subst e; rw [upd_at]; simp
    ·rw [upd_ne _ _ e]
     simp only [List.contains_eq_mem, List.mem_append, List.mem_cons, e, false_or, Bool.decide_or, Bool.or_assoc]
def tnOk (x : Nd) : Bool := if x.u then isVal x.a else decide (x.a = 0) && decide (x.b = 0) && decide (x.c = 0)
def keyAt (f : Nat → Nd) (l : List Nat) (i : Nat) : Int := (f (l.getD i 0)).a
def ascI (f : Nat → Nd) (l : List Nat) : Prop := ∀ j : Nat, j < l.length → 1 ≤ j → keyAt f l (j - 1) < keyAt f l j
instance {f : Nat → Nd} {l : List Nat} : Decidable (ascI f l) := inferInstanceAs (Decidable (∀ j : Nat, j < l.length → 1 ≤ j → _))
theorem asc_of_ascI {f : Nat → Nd} : ∀ {l : List Nat}, ascI f l → asc f l
 | [], _ => .nil
 | x :: l, h => by
  have h1 : ascI f l := fun j hj h1 => by
   have := h (j + 1) (by simp only [List.length_cons]; omega) (by omega)
   simp only [keyAt, Nat.add_sub_cancel] at this ⊢
   have e : j = (j - 1) + 1 := by omega
   rw [List.getD_cons_succ] at this
   rw [e, List.getD_cons_succ] at this
   rw [e] at this ⊢
   simpa using this
  have ih := asc_of_ascI h1
  refine List.pairwise_cons.2 ⟨fun y hy => ?_, ih⟩
  cases l with
  | nil => cases hy
  | cons z l =>
   have h0 := h 1 (by simp) (Nat.le_refl _)
   simp [keyAt] at h0
   rcases List.mem_cons.1 hy with hy | hy
   ·subst hy; exact h0
   ·have := (List.pairwise_cons.1 ih).1 y hy
    omega
theorem ascI_of_asc {f : Nat → Nd} {l : List Nat} (h : asc f l) : ascI f l := fun j hj h1 => by
 have := List.pairwise_iff_getElem.1 h (j - 1) j (by omega) hj (by omega)
 simpa [keyAt, List.getD_eq_getElem?_getD, hj, show j - 1 < l.length by omega] using this
theorem asc_nodup {f : Nat → Nd} {l : List Nat} (h : asc f l) : l.Nodup := List.Pairwise.imp (fun hxy e => by subst e; omega) h
def treeOk (f : Nat → Nd) (a : Int) : Bool := decide (∀ i : Nat, i < 16 → tnOk (f i) = true) && (decide (ascI f (K 17 f a []).1) && ((K 17 f a []).2 && decide ((K 17 f a []).1.length = usedC f)))
def treeOkI (f : Nat → Nd) (a : Int) : Bool := (Pt 17 f a (-1000000000) 1000000000 (fun _ => false)).1 &&
 decide (∀ i : Nat, i < 16 → (f i).u = (Pt 17 f a (-1000000000) 1000000000 (fun _ => false)).2 i ∧ ((f i).u = true ∨ ((f i).a = 0 ∧ (f i).b = 0 ∧ (f i).c = 0)))
theorem tree_spec {f : Nat → Nd} {a : Int} (h : treeOk f a = true) : ∃ l, K 17 f a [] = (l, true) ∧ Tr f a l ∧ asc f l ∧ (∀ i, i < 16 → (f i).u = l.contains i) ∧ (∀ i, i < 16 → tnOk (f i) = true) ∧ l.length ≤ 16 := by
 simp only [treeOk, Bool.and_eq_true, decide_eq_true_eq] at h
 obtain ⟨h1, h2, h3, h4⟩ := h
 cases hK : K 17 f a [] with
 | mk l b =>
  rw [hK] at h2 h3 h4
  simp only at h2 h3 h4
  subst h3
  obtain ⟨l', t1, t2, _⟩ := K_sound 17 f a [] l hK
  simp only [List.nil_append] at t2
  subst t2
  have hasc := asc_of_ascI h2
  have hc := cn_mem (asc_nodup hasc) fun x hx => (t1.mem hx).1
  refine ⟨l, rfl, t1, hasc, fun i hi => ?_, h1, by rw [h4]; exact cn_le 16⟩
  cases hm : l.contains i with
  | true => exact (t1.mem (by simpa using hm)).2.1
  | false =>
   cases hu : (f i).u with
   | false => rfl
   | true =>
    have := cn_all (q := fun i => l.contains i) (q' := fun i => (f i).u) (n := 16) (fun i _ hx => (t1.mem (by simpa using hx)).2.1) (by rw [hc]; exact h4) i hi hu
    rw [this] at hm
    cases hm
theorem treeOk_same (f : Nat → Nd) (a : Int) : treeOkI f a = treeOk f a := by
 rw [Bool.eq_iff_iff]
 constructor
 ·intro h
  simp only [treeOkI, Bool.and_eq_true, decide_eq_true_eq] at h
  obtain ⟨h1, h2⟩ := h
  generalize hz : Pt 17 f a (-1000000000) 1000000000 (fun _ => false) = z at h1 h2
  obtain ⟨z1, z2⟩ := z
  simp only at h1 h2
  subst h1
  obtain ⟨l, a1, a2, a3, a4⟩ := Pt_sound 17 f a _ _ _ _ hz
  have hnd := asc_nodup a2
  have hc := cn_mem hnd fun x hx => (a1.mem hx).1
  have hcov : ∀ i, i < 16 → (f i).u = l.contains i := fun i hi => by rw [(h2 i hi).1, a4]; simp
  have hlen : l.length = usedC f := by rw [← hc]; exact (cn_congr 16 hcov).symm
  have hK := K_complete 17 f a [] l a1 (by simp only [List.length_nil, Nat.zero_add]; rw [hlen]; exact cn_le 16) (Nat.lt_of_le_of_lt (cn_le 16) (by omega))
  rw [List.nil_append] at hK
  simp only [treeOk, Bool.and_eq_true, decide_eq_true_eq, hK]
  refine ⟨fun i hi => ?_, ascI_of_asc a2, trivial, hlen⟩
  unfold tnOk
  cases hu : (f i).u with
  | true =>
   have hm : i ∈ l := by have := hcov i hi; rw [hu] at this; simpa using this.symm
   obtain ⟨k1, k2, _⟩ := a3 i hm
   simp only [if_true, isVal]
   exact inB_pos ⟨k1, k2⟩
  | false =>
   rcases (h2 i hi).2 with h3 | ⟨h3, h4, h5⟩
   ·rw [hu] at h3; cases h3
   ·simp [h3, h4, h5]
 ·intro h
  obtain ⟨l, _, t1, t2, t3, t4, t5⟩ := tree_spec h
  obtain ⟨met', e1, e2⟩ := Pt_complete 17 f a (-1000000000) 1000000000 (fun _ => false) l t1 t2 (fun q hq => by
   obtain ⟨m1, m2, _⟩ := t1.mem hq
   have := t4 q m1
   unfold tnOk at this
   rw [if_pos m2, isVal, inB_iff] at this
   exact ⟨this.1, this.2, rfl⟩) (by omega)
  simp only [treeOkI, Bool.and_eq_true, decide_eq_true_eq, e1]
  refine ⟨trivial, fun i hi => ⟨by rw [t3 i hi, e2]; simp, ?_⟩⟩
  have := t4 i hi
  unfold tnOk at this
  cases hu : (f i).u with
  | true => exact .inl rfl
  | false =>
   right
   rw [hu] at this
   simpa [and_assoc] using this
end Go.Proofs.YtfbeplbcaanimaaGreat
set_option linter.unusedVariables false
set_option linter.unusedSimpArgs false
set_option maxHeartbeats 4000000
namespace Go.Proofs.YtfbeplbcaanimaaGreat
variable {X : FuncId → List V → List Blk → Option Ret} {L : Nat}
theorem live_ints {m : List Blk} {b : Nat} {xs : List Int} {ty : TypeId} {o : Bool} (h : m[b]? = some ⟨ints xs, ty, 1, o⟩) : Sl m (.sl b 0 xs.length xs.length) xs :=
 .inr ⟨b, 0, xs.length, ⟨ints xs, ty, 1, o⟩, rfl, by simp [live, h, ints_len], .inr rfl, fun j hj => by
  rw [Nat.zero_add]; exact ints_get' hj⟩
theorem nth_ext {xs ys : List Int} (hl : xs.length = ys.length) : (∀ j, j < xs.length → nth xs j = nth ys j) ↔ xs = ys := by
 constructor
 ·intro h
  apply List.ext_getElem hl
  intro i h1 h2
  have := h i h1
  simpa [nth, h1, h2, List.getD_eq_getElem?_getD] using this
 ·rintro rfl _ _; rfl
theorem den_eqIntS (k : Nat) (m : List Blk) (v w : C) (xs ys : List Int) (hv : Sl m v xs) (hw : Sl m w ys) (hx : xs.length < L) (hb : xs.length < 4611686018427387904) :
  den T X L (k + 1) 96 [.c v, .c w] m = some ⟨vb (decide (xs = ys)), m, 0, 0⟩ := by
 rw [den_eq T_96]
 by_cases hl : xs.length = ys.length
 ·have hlp := iter_blk (n0 := m.length) (id := 0) (ka := some []) (f := fun s => exec (den T X L k) L m.length none c_laws_eqIntS_b0 s) (tr := trim m.length (some [0, 1, 5])) (σ := Nat)
   (fun i => ⟨[(0, .c v), (1, .c w), (5, vi i)], m, 0, 0⟩) (fun i => i ≤ xs.length) (fun i => xs.length - i)
   (fun i => if ∀ j, j < xs.length → i ≤ j → nth xs j = nth ys j then (.norm, ⟨[], m, 0, 0⟩) else (.ret, ⟨[(4, vb false)], m, 0, 0⟩)) ?w
  case w =>
   intro i hi
   by_cases he : i = xs.length
   ·refine ⟨.exit 0, _, by simp (maxSteps := 1000000) -implicitDefEqProofs (disch := omega) [-getElem?_pos, c_laws_eqIntS_b0, he, hv.lenV]; rfl, ?_⟩
    rw [if_pos fun j h1 h2 => by omega]
    simp (maxSteps := 1000000) -implicitDefEqProofs (disch := omega) [-getElem?_pos, c_blkx, take_mx]
   ·have hi' : (i : Int) < (xs.length : Int) := by omega
    have hiv : (0 : Int) ≤ i ∧ (i : Int) < xs.length := by omega
    have hiw : (0 : Int) ≤ i ∧ (i : Int) < ys.length := by omega
    by_cases hq : nth xs i = nth ys i
    ·refine ⟨.norm, _, by simp (maxSteps := 1000000) -implicitDefEqProofs (disch := omega) [-getElem?_pos, c_laws_eqIntS_b0, hi', hv.lenV, hv.ixV hiv, hw.ixV hiw, hv.ldV (show i < xs.length by omega), hw.ldV (show i < ys.length by omega), hq]; rfl, i + 1, ?_, by omega, by omega, ?_⟩
     ·simp (maxSteps := 1000000) -implicitDefEqProofs (disch := omega) [-getElem?_pos, take_mx]
     ·congr 1
      apply propext
      exact ⟨fun h j h1 h2 => if hj : j = i then hj ▸ hq else h j h1 (by omega), fun h j h1 h2 => h j h1 (by omega)⟩
    ·refine ⟨.ret, _, by simp (maxSteps := 1000000) -implicitDefEqProofs (disch := omega) [-getElem?_pos, c_laws_eqIntS_b0, hi', hv.lenV, hv.ixV hiv, hw.ixV hiw, hv.ldV (show i < xs.length by omega), hw.ldV (show i < ys.length by omega), hq]; rfl, ?_⟩
     rw [if_neg fun h => hq (h i (by omega) (Nat.le_refl _))]
     simp (maxSteps := 1000000) -implicitDefEqProofs (disch := omega) [-getElem?_pos, c_blkr, take_mx]
  have hl' : (xs.length : Int) = ys.length := by omega
  simp (maxSteps := 1000000) -implicitDefEqProofs (disch := omega) [-getElem?_pos, c_laws_eqIntS, hv.lenV, hw.lenV, hl']
  rw [hlp L 0 _ (Nat.zero_le _) ?tr (by show xs.length - 0 < L; omega)]
  case tr => simp (maxSteps := 1000000) -implicitDefEqProofs (disch := omega) [-getElem?_pos, take_mx]
  by_cases hq : xs = ys
  ·rw [if_pos fun j h1 _ => (nth_ext hl).2 hq j h1]
   simp (maxSteps := 1000000) -implicitDefEqProofs (disch := omega) [-getElem?_pos, hq]
  ·rw [if_neg fun h => hq ((nth_ext hl).1 fun j h1 => h j h1 (Nat.zero_le _))]
   simp (maxSteps := 1000000) -implicitDefEqProofs (disch := omega) [-getElem?_pos, hq]
 ·have hl' : ¬ (xs.length : Int) = ys.length := by omega
  have hq : ¬ xs = ys := fun h => hl (by rw [h])
  simp (maxSteps := 1000000) -implicitDefEqProofs (disch := omega) [-getElem?_pos, c_laws_eqIntS, hv.lenV, hw.lenV, hl', hq]
theorem live_set (m : List Blk) (b tot : Nat) (x : Blk) (h : b < m.length) : live (m.set b x) b tot = if tot = x.cs.length then some x else none := by
 unfold live; rw [List.getElem?_set_self h]; rfl
theorem take_set' (m : List Blk) (b k : Nat) (x : Blk) : (m.set b x).take (mx m.length k) = m.set b x := List.take_of_length_le (by simp [mx_eq]; omega)
def mk (f : Nat → Int) (k : Int) (i : Nat) : Nat → Int := fun j => if j < i then k + j else f j
abbrev blkI (xs : List Int) : Blk := ⟨ints xs, 3, 1, true⟩
theorem ints_snoc (xs : List Int) (x : Int) : ints xs ++ [.int .i64 x] = ints (xs ++ [x]) := by simp [ints]
end Go.Proofs.YtfbeplbcaanimaaGreat
set_option linter.unusedVariables false
set_option linter.unusedSimpArgs false
set_option maxRecDepth 100000
namespace Go.Proofs.YtfbeplbcaanimaaGreat
theorem args0 {w : World} {ι : Nat → Nat × Nat} {m : List Blk} : ∀ (j : Nat) (v : V), ([] : List V)[j]? = some v → ∃ r, ([] : List Value)[j]? = some r ∧ VR w ι m v r := fun j v h => by simp at h
theorem argsS {w : World} {ι : Nat → Nat × Nat} {m : List Blk} {x : V} {r : Value} {xs : List V} {rs : List Value} (h : VR w ι m x r) (hs : ∀ (j : Nat) (v : V), xs[j]? = some v → ∃ r, rs[j]? = some r ∧ VR w ι m v r) :
  ∀ (j : Nat) (v : V), (x :: xs)[j]? = some v → ∃ r', (r :: rs)[j]? = some r' ∧ VR w ι m v r'
 | 0, v, hj => by
  simp only [List.getElem?_cons_zero, Option.some.injEq] at hj
  subst hj
  exact ⟨r, rfl, h⟩
 | j + 1, v, hj => by
  rw [List.getElem?_cons_succ] at hj
  obtain ⟨r', h1, h2⟩ := hs j v hj
  exact ⟨r', by rw [List.getElem?_cons_succ]; exact h1, h2⟩
end Go.Proofs.YtfbeplbcaanimaaGreat
set_option linter.unusedVariables false
set_option linter.unusedSimpArgs false
set_option maxRecDepth 100000
namespace Go.Proofs.YtfbeplbcaanimaaGreat
end Go.Proofs.YtfbeplbcaanimaaGreat
