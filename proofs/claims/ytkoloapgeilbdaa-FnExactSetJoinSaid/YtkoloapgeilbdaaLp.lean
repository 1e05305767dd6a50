/-
  Loops of the abstract machine: a rule by states at the head, a measure, and what comes out.
-/
import Derived.Test.YtkoloapgeilbdaaEv
set_option linter.unusedVariables false
namespace Go.Proofs.Ytkoloapgeilbdaa

theorem guard_true {α : Type} {x : Option α} : guard' True x = x := guard_pos trivial
theorem lt_add_f {a k : Nat} : decide (a + k < a) = false := by simp
theorem get_hit {i : Nat} {v : V} {r : List (Nat × V)} : get ((i, v) :: r) i = v := by simp [get]
theorem get_miss {i j : Nat} {v : V} {r : List (Nat × V)} (h : j ≠ i) : get ((j, v) :: r) i = get r i := by simp [get, h]
/-- The kept slots, one by one. -/
def slots : List Nat → List (Nat × V) → List (Nat × V)
  | [], _ => []
  | k :: ks, e => (k, get e k) :: slots ks e
theorem slots_map (ks : List Nat) (e : List (Nat × V)) : ks.map (fun k => (k, get e k)) = slots ks e := by
  induction ks with
  | nil => rfl
  | cons k ks ih => simp only [List.map_cons, slots, ih]
theorem trim_none (n0 : Nat) (st : St) : trim n0 none st = st := rfl
theorem trim_some (n0 : Nat) (ks : List Nat) (st : St) : trim n0 (some ks) st = ⟨slots ks st.env, st.mem.take (mx n0 (mx st.esc (envRefs (slots ks st.env)))), st.esc, st.wr⟩ := by
  simp only [trim, slots_map]
/-- A loop's rule: from each head state either out with what is promised, or round to a smaller one that promises the same. -/
theorem iter_rel {σ : Type} {f : St → Option (Ex × St)} {tr : St → St} (H : σ → St) (I : σ → Prop) (μ : σ → Nat) (res : σ → Ex × St)
    (hs : ∀ s, I s → ∃ e st, f (H s) = some (e, st) ∧ match e with
      | .norm => ∃ s', tr st = H s' ∧ I s' ∧ μ s' < μ s ∧ res s' = res s
      | e => res s = (e, st)) :
    ∀ n s st, I s → tr st = H s → μ s < n → iter f tr n st = some (res s) := by
  intro n
  induction n with
  | zero => intro s st _ _ h; omega
  | succ n ih =>
    intro s st hI ht hn
    obtain ⟨e, st', he, h⟩ := hs s hI
    unfold iter
    rw [ht, he]
    cases e with
    | norm =>
      obtain ⟨s', h1, h2, h3, h4⟩ := h
      show iter f tr n st' = _
      rw [ih s' st' h2 h1 (by omega), h4]
    | exit id => simp only [Option.bind_some]; rw [h]
    | ret => simp only [Option.bind_some]; rw [h]

/-- A loop that counts up; behind it stands what its last head gives. -/
theorem iter_up {f : St → Option (Ex × St)} {tr : St → St} (H : Nat → St) (N : Nat)
    (hs : ∀ i, i < N → ∃ st, f (H i) = some (.norm, st) ∧ tr st = H (i + 1)) (he : ∃ e st, f (H N) = some (.exit e, st)) :
    ∀ n i st, tr st = H i → i ≤ N → N - i < n → iter f tr n st = f (H N) := by
  intro n
  induction n with
  | zero => intro i st _ _ h; omega
  | succ n ih =>
    intro i st ht hi hn
    unfold iter
    rw [ht]
    by_cases h : i = N
    · subst h
      obtain ⟨e, st', he⟩ := he
      rw [he]
      rfl
    · obtain ⟨st', h1, h2⟩ := hs i (by omega)
      rw [h1]
      exact ih (i + 1) st' h2 (by omega) (by omega)
/-- A loop that counts up and leaves at what is not right. -/
theorem iter_all {f : St → Option (Ex × St)} {tr : St → St} (H : Nat → St) (N : Nat) (ok : Nat → Prop) [DecidablePred ok] (bad : St)
    (hs : ∀ i, i < N → ok i → ∃ st, f (H i) = some (.norm, st) ∧ tr st = H (i + 1)) (hn : ∀ i, i < N → ¬ ok i → f (H i) = some (.ret, bad)) (he : ∃ e st, f (H N) = some (.exit e, st)) :
    ∀ n i st, tr st = H i → i ≤ N → N - i < n → iter f tr n st = if ∀ j, j < N → i ≤ j → ok j then f (H N) else some (.ret, bad) := by
  intro n
  induction n with
  | zero => intro i st _ _ h; omega
  | succ n ih =>
    intro i st ht hi hl
    unfold iter
    rw [ht]
    by_cases h : i = N
    · subst h
      obtain ⟨e, st', he⟩ := he
      rw [he, if_pos (fun j h1 h2 => by omega)]
      rfl
    · by_cases hk : ok i
      · obtain ⟨st', h1, h2⟩ := hs i (by omega) hk
        rw [h1]
        simp only [Option.bind_some]
        rw [ih (i + 1) st' h2 (by omega) (by omega)]
        by_cases hc : ∀ j, j < N → i ≤ j → ok j
        · rw [if_pos hc, if_pos fun j h1 h2 => hc j h1 (by omega)]
        · rw [if_neg hc, if_neg fun h' => hc fun j h1 h2 => by
            by_cases e : j = i
            · rw [e]; exact hk
            · exact h' j h1 (by omega)]
      · rw [hn i (by omega) hk, if_neg fun h' => hk (h' i (by omega) (by omega))]
        rfl
/-- A loop that counts up and leaves at the first that is not right. -/
theorem iter_find {f : St → Option (Ex × St)} {tr : St → St} (H : Nat → St) (N : Nat) (ok : Nat → Prop) (bad : Nat → Ex × St) (hb : ∀ i, (bad i).1 ≠ .norm)
    (hs : ∀ i, i < N → ok i → ∃ st, f (H i) = some (.norm, st) ∧ tr st = H (i + 1)) (hn : ∀ i, i < N → ¬ ok i → f (H i) = some (bad i)) (he : ∃ e st, f (H N) = some (.exit e, st)) :
    ∀ n i st, tr st = H i → i ≤ N → N - i < n → ((∀ j, i ≤ j → j < N → ok j) ∧ iter f tr n st = f (H N)) ∨ ∃ j, i ≤ j ∧ j < N ∧ ¬ ok j ∧ (∀ l, i ≤ l → l < j → ok l) ∧ iter f tr n st = some (bad j) := by
  intro n
  induction n with
  | zero => intro i st _ _ h; omega
  | succ n ih =>
    intro i st ht hi hl
    unfold iter
    rw [ht]
    by_cases h : i = N
    · subst h
      obtain ⟨e, st', he⟩ := he
      rw [he]
      exact .inl ⟨fun j h1 h2 => by omega, rfl⟩
    · by_cases hk : ok i
      · obtain ⟨st', h1, h2⟩ := hs i (by omega) hk
        rw [h1]
        simp only [Option.bind_some]
        rcases ih (i + 1) st' h2 (by omega) (by omega) with ⟨h3, h4⟩ | ⟨j, h3, h4, h5, h6, h7⟩
        · refine .inl ⟨fun j h1 h2 => ?_, h4⟩
          by_cases e : j = i
          · rw [e]; exact hk
          · exact h3 j (by omega) h2
        · refine .inr ⟨j, by omega, h4, h5, fun l h1 h2 => ?_, h7⟩
          by_cases e : l = i
          · rw [e]; exact hk
          · exact h6 l (by omega) h2
      · rw [hn i (by omega) hk]
        refine .inr ⟨i, Nat.le_refl _, by omega, hk, fun l h1 h2 => by omega, ?_⟩
        have := hb i
        revert this
        generalize bad i = p
        obtain ⟨e, st'⟩ := p
        intro this
        cases e with
        | norm => exact absurd rfl this
        | exit id => rfl
        | ret => rfl

theorem iter_find' {f : St → Option (Ex × St)} {tr : St → St} (H : Nat → St) (N : Nat) (ok : Nat → Prop) (bad : Nat → Ex × St) (hb : ∀ i, (bad i).1 ≠ .norm)
    (hs : ∀ i, i < N → ok i → ∃ st, f (H i) = some (.norm, st) ∧ tr st = H (i + 1)) (hn : ∀ i, i < N → ¬ ok i → f (H i) = some (bad i)) (he : ∃ e st, f (H N) = some (.exit e, st))
    (n i : Nat) (st : St) (x : Option (Ex × St)) (hx : iter f tr n st = x) (ht : tr st = H i) (hi : i ≤ N) (hl : N - i < n) : ((∀ j, i ≤ j → j < N → ok j) ∧ x = f (H N)) ∨ ∃ j, i ≤ j ∧ j < N ∧ ¬ ok j ∧ (∀ l, i ≤ l → l < j → ok l) ∧ x = some (bad j) := by
  subst hx
  exact iter_find H N ok bad hb hs hn he n i st ht hi hl
/-- A list's number at a place; 0 behind its end. -/
def nth (xs : List Int) (i : Nat) : Int := xs.getD i 0
/-- A slice of numbers that stands in the memory. -/
def Sl (m : List Blk) (v : C) (xs : List Int) : Prop :=
  (v = .nils ∧ xs = []) ∨ ∃ b off tot blk, v = .sl b off xs.length tot ∧ live m b tot = some blk ∧ (blk.esz = 0 ∨ blk.esz = 1) ∧ ∀ j, j < xs.length → blk.cs[off + j]? = some (ci (nth xs j))
theorem live_grow {m l : List Blk} {b tot : Nat} {blk : Blk} (h : live m b tot = some blk) : live (m ++ l) b tot = some blk := by
  unfold live at h ⊢
  cases e : m[b]? with
  | none => rw [e] at h; cases h
  | some x =>
    rw [e] at h
    rw [List.getElem?_append_left (by
      rcases Nat.lt_or_ge b m.length with hb | hb
      · exact hb
      · rw [List.getElem?_eq_none hb] at e; cases e), e]
    exact h
theorem live_lt {m : List Blk} {b tot : Nat} {blk : Blk} (h : live m b tot = some blk) : b < m.length := by
  unfold live at h
  rcases Nat.lt_or_ge b m.length with hb | hb
  · exact hb
  · rw [List.getElem?_eq_none hb] at h; cases h
theorem take_mx {m : List Blk} {k : Nat} : m.take (mx m.length k) = m := List.take_of_length_le (by rw [mx_eq]; omega)
theorem Sl.grow {m l : List Blk} {v : C} {xs : List Int} (h : Sl m v xs) : Sl (m ++ l) v xs := by
  rcases h with h | ⟨b, off, tot, blk, h1, h2, h3, h4⟩
  · exact .inl h
  · exact .inr ⟨b, off, tot, blk, h1, live_grow h2, h3, h4⟩
end Go.Proofs.Ytkoloapgeilbdaa
