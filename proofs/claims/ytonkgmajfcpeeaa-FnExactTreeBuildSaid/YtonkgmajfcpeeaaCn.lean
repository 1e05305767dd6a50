/-
  Chains, in plain terms: the walk to a key.
-/
import Derived.Test.YtonkgmajfcpeeaaCm
set_option linter.unusedVariables false
namespace Go.Proofs.Ytonkgmajfcpeeaa

/-- From a place on, the way to the end is in order. -/
def ch (f : Nat → Nd) (κ p : Int) : Prop := ∃ d, chW f 17 κ p = some d
theorem ch_step {f : Nat → Nd} {κ p : Int} (h : ch f κ p) (hp : p ≠ -1) : okp f κ p = true ∧ ch f (f p.toNat).a (f p.toNat).c := by
  obtain ⟨d, hd⟩ := h
  cases ho : okp f κ p with
  | false => rw [chW_bad hp ho] at hd; cases hd
  | true =>
    rw [chW_step hp ho] at hd
    simp only [Option.map_eq_some_iff] at hd
    obtain ⟨d', h1, _⟩ := hd
    exact ⟨rfl, d', h1⟩
theorem ch_of {f : Nat → Nd} {a : Int} (h : chainOk f a = true) : ch f κ0 a := by
  simp only [chainOk, Bool.and_eq_true, decide_eq_true_eq] at h
  exact ⟨_, h.2⟩
theorem ch_nat {f : Nat → Nd} {κ p : Int} (h : ch f κ p) (hp : p ≠ -1) : ∃ q : Nat, p = q ∧ q < 16 ∧ (f q).u = true ∧ κ < (f q).a ∧ ch f (f q).a (f q).c := by
  obtain ⟨h1, h2⟩ := ch_step h hp
  obtain ⟨h3, h4, h5⟩ := okp_iff.mp h1
  refine ⟨p.toNat, by omega, by omega, h4, h5, h2⟩

/-- The walk to a key, with so many nodes to open: the place ahead, the place, how many were opened, whether these are not too many. -/
def wk (f : Nat → Nd) (key : Int) : Nat → Int → Int → Int × Int × Nat × Bool
  | n, ah, p => if p = -1 then (ah, p, 0, true) else match n with
    | 0 => (ah, p, 0, false)
    | n + 1 => if key ≤ (f p.toNat).a then (ah, p, 1, true) else ((wk f key n p (f p.toNat).c).1, (wk f key n p (f p.toNat).c).2.1, (wk f key n p (f p.toNat).c).2.2.1 + 1, (wk f key n p (f p.toNat).c).2.2.2)
theorem wk_end {f : Nat → Nd} {key ah : Int} {n : Nat} : wk f key n ah (-1) = (ah, -1, 0, true) := by cases n <;> rfl
theorem wk_zero {f : Nat → Nd} {key ah p : Int} (h : p ≠ -1) : wk f key 0 ah p = (ah, p, 0, false) := by simp [wk, h]
theorem wk_hit {f : Nat → Nd} {key ah p : Int} {n : Nat} (h : p ≠ -1) (hk : key ≤ (f p.toNat).a) : wk f key (n + 1) ah p = (ah, p, 1, true) := by simp [wk, h, hk]
theorem wk_go {f : Nat → Nd} {key ah p : Int} {n : Nat} (h : p ≠ -1) (hk : ¬ key ≤ (f p.toNat).a) : wk f key (n + 1) ah p = ((wk f key n p (f p.toNat).c).1, (wk f key n p (f p.toNat).c).2.1, (wk f key n p (f p.toNat).c).2.2.1 + 1, (wk f key n p (f p.toNat).c).2.2.2) := by
  conv => lhs; unfold wk
  rw [if_neg h]
  simp only [if_neg hk]
theorem wk_le {f : Nat → Nd} {key : Int} : ∀ (n : Nat) (ah p : Int), (wk f key n ah p).2.2.1 ≤ n
  | 0, ah, p => by by_cases h : p = -1; · subst h; rw [wk_end]; exact Nat.le_refl _
                   · rw [wk_zero h]; exact Nat.le_refl _
  | n + 1, ah, p => by
    by_cases h : p = -1
    · subst h; rw [wk_end]; exact Nat.zero_le _
    · by_cases hk : key ≤ (f p.toNat).a
      · rw [wk_hit h hk]; show 1 ≤ n + 1; omega
      · rw [wk_go h hk]
        have := wk_le (f := f) (key := key) n p (f p.toNat).c
        show _ + 1 ≤ n + 1
        omega
/-- Where the walk comes to a place, it is a node's; and so is the one ahead of it. -/
theorem wk_in {f : Nat → Nd} {key : Int} : ∀ (n : Nat) (κ ah p : Int), ch f κ p → (ah = -1 ∨ (0 ≤ ah ∧ ah ≤ 15)) →
    ((wk f key n ah p).2.1 = -1 ∨ (0 ≤ (wk f key n ah p).2.1 ∧ (wk f key n ah p).2.1 ≤ 15)) ∧ ((wk f key n ah p).1 = -1 ∨ (0 ≤ (wk f key n ah p).1 ∧ (wk f key n ah p).1 ≤ 15)) := by
  intro n
  induction n with
  | zero =>
    intro κ ah p hc ha
    by_cases h : p = -1
    · subst h; rw [wk_end]; exact ⟨.inl rfl, ha⟩
    · rw [wk_zero h]
      obtain ⟨q, rfl, hq, _⟩ := ch_nat hc h
      exact ⟨.inr ⟨by show (0 : Int) ≤ q; omega, by show (q : Int) ≤ 15; omega⟩, ha⟩
  | succ n ih =>
    intro κ ah p hc ha
    by_cases h : p = -1
    · subst h; rw [wk_end]; exact ⟨.inl rfl, ha⟩
    · obtain ⟨q, rfl, hq, _, _, hn⟩ := ch_nat hc h
      by_cases hk : key ≤ (f (q : Int).toNat).a
      · rw [wk_hit h hk]
        exact ⟨.inr ⟨by show (0 : Int) ≤ q; omega, by show (q : Int) ≤ 15; omega⟩, ha⟩
      · rw [wk_go h hk]
        exact ih _ _ _ (by simpa using hn) (.inr ⟨by omega, by omega⟩)
end Go.Proofs.Ytonkgmajfcpeeaa
