/-
  Chains, in plain terms: what it is for one to be right.
-/
import Derived.Test.YtonkgmajfcpeeaaC1
import Derived.Test.YtonkgmajfcpeeaaB1
set_option linter.unusedVariables false
namespace Go.Proofs.Ytonkgmajfcpeeaa

/-- How many of the first n. -/
def cn (q : Nat → Bool) : Nat → Nat
  | 0 => 0
  | n + 1 => cn q n + (if q n then 1 else 0)
theorem cn_le {q : Nat → Bool} : ∀ n, cn q n ≤ n
  | 0 => Nat.le_refl _
  | n + 1 => by have := cn_le (q := q) n; simp only [cn]; split <;> omega
theorem cn_mono {q q' : Nat → Bool} : ∀ n, (∀ i, i < n → q i = true → q' i = true) → cn q n ≤ cn q' n
  | 0, _ => Nat.le_refl _
  | n + 1, h => by
    have h1 := cn_mono n fun i hi => h i (by omega)
    have h2 := h n (by omega)
    simp only [cn]
    cases hq : q n <;> cases hq' : q' n <;> simp_all <;> omega
theorem cn_add {q q' : Nat → Bool} : ∀ n, (∀ i, i < n → q i = true → q' i = true) → ∀ j, j < n → q j = false → q' j = true → cn q n + 1 ≤ cn q' n
  | 0, _, j, hj, _, _ => by omega
  | n + 1, h, j, hj, h1, h2 => by
    simp only [cn]
    by_cases e : j = n
    · subst e
      have := cn_mono j fun i hi => h i (by omega)
      simp [h1, h2]; omega
    · have h3 := cn_add n (fun i hi => h i (by omega)) j (by omega) h1 h2
      have h4 := h n (by omega)
      cases hq : q n <;> cases hq' : q' n <;> simp_all <;> omega
theorem cn_only {q q' : Nat → Bool} : ∀ n, (∀ i, i < n → q i = true → q' i = true) → ∀ j, j < n → q j = false → q' j = true → cn q' n ≤ cn q n + 1 → ∀ i, i < n → q' i = true → q i = true ∨ i = j := by
  intro n hm j hj h1 h2 hle i hi hq'
  cases hqi : q i with
  | true => exact .inl rfl
  | false =>
    refine .inr (Classical.byContradiction fun hne => ?_)
    have ha := cn_add (q := q) (q' := fun l => q l || decide (l = i)) n (fun l hl hql => by simp [hql]) i hi hqi (by simp)
    have hb := cn_add (q := fun l => q l || decide (l = i)) (q' := q') n (fun l hl hql => by
      simp only [Bool.or_eq_true, decide_eq_true_eq] at hql
      rcases hql with hql | rfl
      · exact hm l hl hql
      · exact hq') j hj (by simp [h1, Ne.symm hne]) h2
    omega

def κ0 : Int := -1000000001
def above (f : Nat → Nd) (κ : Int) (i : Nat) : Bool := (f i).u && decide (κ < (f i).a)
def okp (f : Nat → Nd) (κ p : Int) : Bool := inB p 0 15 && (f p.toNat).u && decide (κ < (f p.toNat).a)
/-- The walk from a place on: how many nodes it opens. -/
def chW (f : Nat → Nd) : Nat → Int → Int → Option Nat
  | 0, _, _ => none
  | n + 1, κ, p => if p = -1 then some 0 else if okp f κ p then (chW f n (f p.toNat).a (f p.toNat).c).map (· + 1) else none
theorem okp_iff {f : Nat → Nd} {κ p : Int} : okp f κ p = true ↔ (0 ≤ p ∧ p ≤ 15) ∧ (f p.toNat).u = true ∧ κ < (f p.toNat).a := by
  simp only [okp, Bool.and_eq_true, inB_iff, decide_eq_true_eq]
  exact ⟨fun ⟨⟨h1, h2⟩, h3⟩ => ⟨h1, h2, h3⟩, fun ⟨h1, h2, h3⟩ => ⟨⟨h1, h2⟩, h3⟩⟩
theorem above_step {f : Nat → Nd} {κ p : Int} (h : okp f κ p = true) : cn (above f (f p.toNat).a) 16 + 1 ≤ cn (above f κ) 16 := by
  obtain ⟨h1, h2, h3⟩ := okp_iff.mp h
  refine cn_add 16 (fun i hi hq => ?_) p.toNat (by omega) ?_ ?_
  · simp only [above, Bool.and_eq_true, decide_eq_true_eq] at hq ⊢
    exact ⟨hq.1, by omega⟩
  · simp [above]
  · simp [above, h2, h3]
theorem chW_fuel {f : Nat → Nd} : ∀ (n m : Nat) (κ p : Int), cn (above f κ) 16 < n → cn (above f κ) 16 < m → chW f n κ p = chW f m κ p
  | 0, _, _, _, h, _ => by omega
  | _ + 1, 0, _, _, _, h => by omega
  | n + 1, m + 1, κ, p, h1, h2 => by
    simp only [chW]
    split
    · rfl
    · split
      · rename_i ho
        have := above_step ho
        rw [chW_fuel n m _ _ (by omega) (by omega)]
      · rfl
theorem chW_step {f : Nat → Nd} {κ p : Int} (hp : p ≠ -1) (h : okp f κ p = true) : chW f 17 κ p = (chW f 17 (f p.toNat).a (f p.toNat).c).map (· + 1) := by
  have h1 := above_step h
  have h2 := cn_le (q := above f κ) 16
  show (if p = -1 then some 0 else if okp f κ p then (chW f 16 (f p.toNat).a (f p.toNat).c).map (· + 1) else none) = _
  rw [if_neg hp, if_pos h, chW_fuel 16 17 _ _ (by omega) (by omega)]
theorem chW_end {f : Nat → Nd} {κ : Int} : chW f 17 κ (-1) = some 0 := rfl
theorem chW_bad {f : Nat → Nd} {κ p : Int} (hp : p ≠ -1) (h : okp f κ p = false) : chW f 17 κ p = none := by
  show (if p = -1 then some 0 else if okp f κ p then (chW f 16 (f p.toNat).a (f p.toNat).c).map (· + 1) else none) = _
  rw [if_neg hp, h]; rfl
theorem chW_le {f : Nat → Nd} : ∀ (n : Nat) (κ p : Int) (t : Nat), chW f n κ p = some t → t ≤ cn (above f κ) 16
  | 0, _, _, _, h => by cases h
  | n + 1, κ, p, t, h => by
    simp only [chW] at h
    split at h
    · injection h with h; omega
    · split at h
      · rename_i ho
        simp only [Option.map_eq_some_iff] at h
        obtain ⟨t', h1, rfl⟩ := h
        have := chW_le n _ _ _ h1
        have := above_step ho
        omega
      · cases h
theorem chW_full {f : Nat → Nd} : ∀ (n : Nat) (κ p : Int) (t : Nat), chW f n κ p = some t → cn (above f κ) 16 ≤ t → ∀ i, i < 16 → above f κ i = true → -1 ≤ (f i).c ∧ (f i).c ≤ 15
  | 0, _, _, _, h, _, _, _, _ => by cases h
  | n + 1, κ, p, t, h, hle, i, hi, ha => by
    simp only [chW] at h
    split at h
    · injection h with h
      subst h
      have := cn_add (q := fun _ => false) (q' := above f κ) 16 (by simp) i hi rfl ha
      omega
    · split at h
      · rename_i ho
        simp only [Option.map_eq_some_iff] at h
        obtain ⟨t', h1, rfl⟩ := h
        have h2 := chW_le n _ _ _ h1
        have h3 := above_step ho
        obtain ⟨g1, g2, g3⟩ := okp_iff.mp ho
        rcases cn_only 16 (q := above f (f p.toNat).a) (q' := above f κ) (fun i hi hq => by
          simp only [above, Bool.and_eq_true, decide_eq_true_eq] at hq ⊢
          exact ⟨hq.1, by omega⟩) p.toNat (by omega) (by simp [above]) (by simp [above, g2, g3]) (by omega) i hi ha with h4 | h4
        · exact chW_full n _ _ _ h1 (by omega) i hi h4
        · subst h4
          cases n with
          | zero => cases h1
          | succ n =>
            simp only [chW] at h1
            split at h1
            · omega
            · split at h1
              · rename_i hq
                have := (okp_iff.mp hq).1
                omega
              · cases h1
      · cases h

def nodeOk (x : Nd) : Bool := if x.u then isVal x.a && isVal x.b else decide (x.a = 0) && decide (x.b = 0) && decide (x.c = 0)
def usedN (f : Nat → Nd) : Nat := cn (fun i => (f i).u) 16
def chainOk (f : Nat → Nd) (a : Int) : Bool := decide (∀ i : Nat, i < 16 → nodeOk (f i) = true) && decide (chW f 17 κ0 a = some (usedN f))
theorem used_above {f : Nat → Nd} (h : ∀ i : Nat, i < 16 → nodeOk (f i) = true) : ∀ i, i < 16 → (f i).u = true → above f κ0 i = true := by
  intro i hi hu
  have := h i hi
  simp only [nodeOk, hu, if_true, Bool.and_eq_true, isVal, inB_iff] at this
  simp only [above, hu, Bool.true_and, κ0]
  exact decide_eq_true (by omega)
/-- The stricter test of the nodes comes to the same. -/
theorem chain_strict {f : Nat → Nd} {a : Int} (h : chainOk f a = true) : ∀ i, i < 16 → (f i).u = true → inB (f i).c (-1) 15 = true := by
  simp only [chainOk, Bool.and_eq_true, decide_eq_true_eq] at h
  intro i hi hu
  exact inB_pos (chW_full 17 _ _ _ h.2 (by
    unfold usedN
    exact cn_mono 16 fun j hj hq => by simp only [above, Bool.and_eq_true] at hq; exact hq.1) i hi (used_above h.1 i hi hu))
end Go.Proofs.Ytonkgmajfcpeeaa
