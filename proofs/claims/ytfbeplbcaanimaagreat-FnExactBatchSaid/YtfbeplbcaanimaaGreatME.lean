/-
 Loops of the abstract machine: a rule by states at the head, a measure, and what comes out.
-/
import Derived.Test.YtfbeplbcaanimaaGreatMD
set_option linter.unusedVariables false
namespace Go.Proofs.YtfbeplbcaanimaaGreat
theorem guard_true {α : Type} {x : Option α} : guard' True x = x := guard_pos trivial
theorem lt_add_f {a k : Nat} : decide (a + k < a) = false := by simp
theorem get_hit {i : Nat} {v : V} {r : List (Nat × V)} : get ((i, v) :: r) i = v := by simp [get]
theorem get_miss {i j : Nat} {v : V} {r : List (Nat × V)} (h : j ≠ i) : get ((j, v) :: r) i = get r i := by simp [get, h]
def slots : List Nat → List (Nat × V) → List (Nat × V)
 | [], _ => []
 | k :: ks, e => (k, get e k) :: slots ks e
theorem slots_map (ks : List Nat) (e : List (Nat × V)) : ks.map (fun k => (k, get e k)) = slots ks e := by
 induction ks with
 | nil => rfl
 | cons k ks ih => simp only [List.map_cons, slots, ih]
theorem trim_none (n0 : Nat) (st : St) : trim n0 none st = st := rfl
theorem trim_some (n0 : Nat) (ks : List Nat) (st : St) : trim n0 (some ks) st = ⟨slots ks st.env, st.mem.take (mx n0 (mx st.esc (envRefs (slots ks st.env)))), st.esc, st.wr⟩ := by
 simp only [trim, slots_map]
theorem iter_rel {σ : Type} {f : St → Option (Ex × St)} {tr : St → St} (H : σ → St) (I : σ → Prop) (μ : σ → Nat) (res : σ → Ex × St)
  (hs : ∀ s, I s → ∃ e st, f (H s) = some (e, st) ∧ match e with
   | .norm => ∃ s', tr st = H s' ∧ I s' ∧ μ s' < μ s ∧ res s' = res s
   | e => res s = (e, st)) :
  ∀ n s st, I s → tr st = H s → μ s < n → iter f tr n st = some (res s) := by
 intro n
 induction n with
 | zero => intro s st _ _ h; omega
 | succ n ih =>
  intro s st hI ht hn
  obtain ⟨e, st', he, h⟩ := hs s hI
  unfold iter
  rw [ht, he]
  cases e with
  | norm =>
   obtain ⟨s', h1, h2, h3, h4⟩ := h
   show iter f tr n st' = _
   rw [ih s' st' h2 h1 (by omega), h4]
  | exit id => simp only [Option.bind_some]; rw [h]
  | ret => simp only [Option.bind_some]; rw [h]
theorem iter_up {f : St → Option (Ex × St)} {tr : St → St} (H : Nat → St) (N : Nat)
  (hs : ∀ i, i < N → ∃ st, f (H i) = some (.norm, st) ∧ tr st = H (i + 1)) (he : ∃ e st, f (H N) = some (.exit e, st)) :
  ∀ n i st, tr st = H i → i ≤ N → N - i < n → iter f tr n st = f (H N) := by
 intro n
 induction n with
 | zero => intro i st _ _ h; omega
 | succ n ih =>
  intro i st ht hi hn
  unfold iter
  rw [ht]
  by_cases h : i = N
  ·subst h
   obtain ⟨e, st', he⟩ := he
   rw [he]
   rfl
  ·obtain ⟨st', h1, h2⟩ := hs i (by omega)
   rw [h1]
   exact ih (i + 1) st' h2 (by omega) (by omega)
theorem iter_all {f : St → Option (Ex × St)} {tr : St → St} (H : Nat → St) (N : Nat) (ok : Nat → Prop) [DecidablePred ok] (bad : St)
  (hs : ∀ i, i < N → ok i → ∃ st, f (H i) = some (.norm, st) ∧ tr st = H (i + 1)) (hn : ∀ i, i < N → ¬ ok i → f (H i) = some (.ret, bad)) (he : ∃ e st, f (H N) = some (.exit e, st)) :
  ∀ n i st, tr st = H i → i ≤ N → N - i < n → iter f tr n st = if ∀ j, j < N → i ≤ j → ok j then f (H N) else some (.ret, bad) := by
 intro n
 induction n with
 | zero => intro i st _ _ h; omega
 | succ n ih =>
  intro i st ht hi hl
  unfold iter
  rw [ht]
  by_cases h : i = N
  ·subst h
   obtain ⟨e, st', he⟩ := he
   rw [he, if_pos (fun j h1 h2 => by omega)]
   rfl
  ·by_cases hk : ok i
   ·obtain ⟨st', h1, h2⟩ := hs i (by omega) hk
    rw [h1]
    simp only [Option.bind_some]
    rw [ih (i + 1) st' h2 (by omega) (by omega)]
    by_cases hc : ∀ j, j < N → i ≤ j → ok j
    ·rw [if_pos hc, if_pos fun j h1 h2 => hc j h1 (by omega)]
    ·rw [if_neg hc, if_neg fun h' => hc fun j h1 h2 => by
      by_cases e : j = i
      ·rw [e]; exact hk
      ·exact h' j h1 (by omega)]
   ·rw [hn i (by omega) hk, if_neg fun h' => hk (h' i (by omega) (by omega))]
    rfl
theorem iter_find {f : St → Option (Ex × St)} {tr : St → St} (H : Nat → St) (N : Nat) (ok : Nat → Prop) (bad : Nat → Ex × St) (hb : ∀ i, (bad i).1 ≠ .norm)
  (hs : ∀ i, i < N → ok i → ∃ st, f (H i) = some (.norm, st) ∧ tr st = H (i + 1)) (hn : ∀ i, i < N → ¬ ok i → f (H i) = some (bad i)) (he : ∃ e st, f (H N) = some (.exit e, st)) :
  ∀ n i st, tr st = H i → i ≤ N → N - i < n → ((∀ j, i ≤ j → j < N → ok j) ∧ iter f tr n st = f (H N)) ∨ ∃ j, i ≤ j ∧ j < N ∧ ¬ ok j ∧ (∀ l, i ≤ l → l < j → ok l) ∧ iter f tr n st = some (bad j) := by
 intro n
 induction n with
 | zero => intro i st _ _ h; omega
 | succ n ih =>
  intro i st ht hi hl
  unfold iter
  rw [ht]
  by_cases h : i = N
  ·subst h
   obtain ⟨e, st', he⟩ := he
   rw [he]
   exact .inl ⟨fun j h1 h2 => by omega, rfl⟩
  ·by_cases hk : ok i
   ·obtain ⟨st', h1, h2⟩ := hs i (by omega) hk
    rw [h1]
    simp only [Option.bind_some]
    rcases ih (i + 1) st' h2 (by omega) (by omega) with ⟨h3, h4⟩ | ⟨j, h3, h4, h5, h6, h7⟩
    ·refine .inl ⟨fun j h1 h2 => ?_, h4⟩
     by_cases e : j = i
     ·rw [e]; exact hk
     ·exact h3 j (by omega) h2
    ·refine .inr ⟨j, by omega, h4, h5, fun l h1 h2 => ?_, h7⟩
     by_cases e : l = i
     ·rw [e]; exact hk
     ·exact h6 l (by omega) h2
   ·rw [hn i (by omega) hk]
    refine .inr ⟨i, Nat.le_refl _, by omega, hk, fun l h1 h2 => by omega, ?_⟩
    have := hb i
    revert this
    generalize bad i = p
    obtain ⟨e, st'⟩ := p
    intro this
    cases e with
    | norm => exact absurd rfl this
    | exit id => rfl
    | ret => rfl
theorem iter_find' {f : St → Option (Ex × St)} {tr : St → St} (H : Nat → St) (N : Nat) (ok : Nat → Prop) (bad : Nat → Ex × St) (hb : ∀ i, (bad i).1 ≠ .norm)
  (hs : ∀ i, i < N → ok i → ∃ st, f (H i) = some (.norm, st) ∧ tr st = H (i + 1)) (hn : ∀ i, i < N → ¬ ok i → f (H i) = some (bad i)) (he : ∃ e st, f (H N) = some (.exit e, st))
  (n i : Nat) (st : St) (x : Option (Ex × St)) (hx : iter f tr n st = x) (ht : tr st = H i) (hi : i ≤ N) (hl : N - i < n) : ((∀ j, i ≤ j → j < N → ok j) ∧ x = f (H N)) ∨ ∃ j, i ≤ j ∧ j < N ∧ ¬ ok j ∧ (∀ l, i ≤ l → l < j → ok l) ∧ x = some (bad j) := by
 subst hx
 exact iter_find H N ok bad hb hs hn he n i st ht hi hl
def nth (xs : List Int) (i : Nat) : Int := xs.getD i 0
def Sl (m : List Blk) (v : C) (xs : List Int) : Prop :=
 (v = .nils ∧ xs = []) ∨ ∃ b off tot blk, v = .sl b off xs.length tot ∧ live m b tot = some blk ∧ (blk.esz = 0 ∨ blk.esz = 1) ∧ ∀ j, j < xs.length → blk.cs[off + j]? = some (ci (nth xs j))
theorem live_grow {m l : List Blk} {b tot : Nat} {blk : Blk} (h : live m b tot = some blk) : live (m ++ l) b tot = some blk := by
 unfold live at h ⊢
 cases e : m[b]? with
 | none => rw [e] at h; cases h
 | some x =>
  rw [e] at h
  rw [List.getElem?_append_left (by
   rcases Nat.lt_or_ge b m.length with hb | hb
   ·exact hb
   ·rw [List.getElem?_eq_none hb] at e; cases e), e]
  exact h
theorem live_lt {m : List Blk} {b tot : Nat} {blk : Blk} (h : live m b tot = some blk) : b < m.length := by
 unfold live at h
 rcases Nat.lt_or_ge b m.length with hb | hb
 ·exact hb
 ·rw [List.getElem?_eq_none hb] at h; cases h
theorem take_mx {m : List Blk} {k : Nat} : m.take (mx m.length k) = m := List.take_of_length_le (by rw [mx_eq]; omega)
theorem Sl.grow {m l : List Blk} {v : C} {xs : List Int} (h : Sl m v xs) : Sl (m ++ l) v xs := by
 rcases h with h | ⟨b, off, tot, blk, h1, h2, h3, h4⟩
 ·exact .inl h
 ·exact .inr ⟨b, off, tot, blk, h1, live_grow h2, h3, h4⟩
end Go.Proofs.YtfbeplbcaanimaaGreat
set_option linter.unusedVariables false
namespace Go.Proofs.YtfbeplbcaanimaaGreat
def upd {α : Type} (f : Nat → α) (i : Nat) (x : α) : Nat → α := fun j => if j = i then x else f j
theorem upd_at {α : Type} (f : Nat → α) (i : Nat) (x : α) : upd f i x i = x := by simp [upd]
theorem upd_ne {α : Type} (f : Nat → α) {i j : Nat} (x : α) (h : j ≠ i) : upd f i x j = f j := by simp [upd, h]
def rows {α : Type} (e : α → List C) (n : Nat) (f : Nat → α) : List C := (List.range n).flatMap fun i => e (f i)
theorem rows_succ {α : Type} (e : α → List C) (n : Nat) (f : Nat → α) : rows e (n + 1) f = rows e n f ++ e (f n) := by
 simp [rows, List.range_succ]
theorem rows_len {α : Type} {e : α → List C} {s : Nat} (he : ∀ a, (e a).length = s) (n : Nat) (f : Nat → α) : (rows e n f).length = n * s := by
 induction n with
 | zero => simp [rows]
 | succ n ih => rw [rows_succ, List.length_append, ih, he, Nat.succ_mul]
theorem rows_ext {α : Type} {e : α → List C} {n : Nat} {f g : Nat → α} (h : ∀ i, i < n → f i = g i) : rows e n f = rows e n g := by
 induction n with
 | zero => rfl
 | succ n ih => rw [rows_succ, rows_succ, ih (fun i hi => h i (by omega)), h n (by omega)]
theorem rows_split {α : Type} {e : α → List C} {s : Nat} (he : ∀ a, (e a).length = s) {n i : Nat} (f : Nat → α) (hi : i < n) :
  rows e n f = rows e i f ++ (e (f i) ++ rows e (n - i - 1) fun j => f (i + 1 + j)) := by
 induction n with
 | zero => omega
 | succ n ih =>
  by_cases h : i = n
  ·subst h
   rw [rows_succ, show i + 1 - i - 1 = 0 by omega]
   simp [rows]
  ·rw [rows_succ, ih (by omega), show n + 1 - i - 1 = (n - i - 1) + 1 by omega, rows_succ, show i + 1 + (n - i - 1) = n by omega]
   simp [List.append_assoc]
theorem rows_get {α : Type} {e : α → List C} {s : Nat} (he : ∀ a, (e a).length = s) {n i c : Nat} (f : Nat → α) (r : List C) (hi : i < n) (hc : c < s) :
  (rows e n f ++ r)[i * s + c]? = (e (f i))[c]? := by
 rw [rows_split he f hi, List.append_assoc, List.getElem?_append_right (by rw [rows_len he]; omega), rows_len he, show i * s + c - i * s = c by omega, List.append_assoc, List.getElem?_append_left (by rw [he]; exact hc)]
theorem lay_mid {a b n r : List C} {o : Nat} (ho : o = a.length) (h : n.length = b.length) : lay (a ++ (b ++ r)) o n = a ++ (n ++ r) := by
 subst ho
 unfold lay
 rw [List.take_left, ← List.drop_drop, List.drop_left, h, List.drop_left, List.append_assoc]
theorem lay_in {a b n r : List C} {o c : Nat} (ho : o = a.length + c) (h : c + n.length ≤ b.length) : lay (a ++ (b ++ r)) o n = a ++ (lay b c n ++ r) := by
 subst ho
 unfold lay
 rw [List.take_length_add_append, Nat.add_assoc, List.drop_length_add_append]
 rw [List.take_append_of_le_length (by omega), List.drop_append_of_le_length (by omega)]
 simp [List.append_assoc]
theorem rows_upd {α : Type} {e : α → List C} {s : Nat} (he : ∀ a, (e a).length = s) {n i : Nat} (f : Nat → α) (x : α) (hi : i < n) :
  rows e n (upd f i x) = rows e i f ++ (e x ++ rows e (n - i - 1) fun j => f (i + 1 + j)) := by
 rw [rows_split he _ hi, upd_at, rows_ext (g := f) (n := i) (fun j hj => upd_ne f x (by omega)), rows_ext (g := fun j => f (i + 1 + j)) (n := n - i - 1) (fun j hj => upd_ne f x (by omega))]
theorem rows_lay {α : Type} {e : α → List C} {s : Nat} (he : ∀ a, (e a).length = s) {n i c : Nat} (f : Nat → α) (r new : List C) (x : α) (hi : i < n) (hc : c + new.length ≤ s) (hx : lay (e (f i)) c new = e x) :
  lay (rows e n f ++ r) (i * s + c) new = rows e n (upd f i x) ++ r := by
 rw [rows_split he f hi, List.append_assoc, List.append_assoc, lay_in (by rw [rows_len he]) (by rw [he]; exact hc), hx, rows_upd he f x hi]
 simp [List.append_assoc]
theorem rows_refs {α : Type} {e : α → List C} (he : ∀ a, refsL (e a) = 0) (n : Nat) (f : Nat → α) : refsL (rows e n f) = 0 := by
 induction n with
 | zero => rfl
 | succ n ih => rw [rows_succ, refs_append, ih, he]; rfl
theorem rows_hard {α : Type} {e : α → List C} (he : ∀ a, (e a).all (·.hard) = true) (n : Nat) (f : Nat → α) : (rows e n f).all (·.hard) = true := by
 induction n with
 | zero => rfl
 | succ n ih => rw [rows_succ, List.all_append, ih, he]; rfl
theorem rows_drop {α : Type} {e : α → List C} {s : Nat} (he : ∀ a, (e a).length = s) {n i : Nat} (f : Nat → α) (r : List C) (hi : i < n) : ((rows e n f ++ r).drop (i * s)).take s = e (f i) := by
 rw [rows_split he f hi, List.append_assoc, List.append_assoc, show i * s = (rows e i f).length by rw [rows_len he], List.drop_left, List.take_append_of_le_length (by rw [he]; exact Nat.le_refl _), List.take_of_length_le (by rw [he]; exact Nat.le_refl _)]
def ar (n : Nat) (f : Nat → Int) : List C := rows (fun x => [ci x]) n f
theorem ar_len (n : Nat) (f : Nat → Int) : (ar n f).length = n := by unfold ar; rw [rows_len (s := 1) (fun _ => rfl), Nat.mul_one]
theorem ar_get {n j : Nat} {f : Nat → Int} {r : List C} (h : j < n) : (ar n f ++ r)[j]? = some (ci (f j)) := by
 have := rows_get (e := fun x : Int => [ci x]) (s := 1) (c := 0) (fun _ => rfl) f r h (by omega)
 rw [Nat.mul_one, Nat.add_zero] at this
 exact this
theorem ar_get' {n j : Nat} {f : Nat → Int} (h : j < n) : (ar n f)[j]? = some (ci (f j)) := by have := ar_get (r := []) (f := f) h; rwa [List.append_nil] at this
theorem ar_lay {n j : Nat} {f : Nat → Int} {r : List C} {v : Int} (h : j < n) : lay (ar n f ++ r) j [ci v] = ar n (upd f j v) ++ r := by
 have := rows_lay (e := fun x : Int => [ci x]) (s := 1) (c := 0) (fun _ => rfl) f r [ci v] v h (by simp) rfl
 rw [Nat.mul_one, Nat.add_zero] at this
 exact this
theorem ar_lay' {n j : Nat} {f : Nat → Int} {v : Int} (h : j < n) : lay (ar n f) j [ci v] = ar n (upd f j v) := by have := ar_lay (r := []) (f := f) (v := v) h; rwa [List.append_nil, List.append_nil] at this
theorem ar_past {n j : Nat} {f : Nat → Int} {r : List C} (h : n ≤ j) : (ar n f ++ r)[j]? = r[j - n]? := by rw [List.getElem?_append_right (by rw [ar_len]; exact h), ar_len]
theorem ar_lay_past {n j : Nat} {f : Nat → Int} {r new : List C} (h : n ≤ j) : lay (ar n f ++ r) j new = ar n f ++ lay r (j - n) new := by
 unfold lay
 rw [List.take_append, List.drop_append, ar_len, List.take_of_length_le (by rw [ar_len]; exact h), List.drop_of_length_le (by rw [ar_len]; omega), List.nil_append, show j + new.length - n = j - n + new.length by omega]
 simp [List.append_assoc]
theorem ar_take {n : Nat} {f : Nat → Int} {r : List C} : (ar n f ++ r).take n = ar n f := by rw [List.take_append_of_le_length (by rw [ar_len]; exact Nat.le_refl _), List.take_of_length_le (by rw [ar_len]; exact Nat.le_refl _)]
theorem ar_all {n : Nat} {f : Nat → Int} : (ar n f).take n = ar n f := List.take_of_length_le (by rw [ar_len]; exact Nat.le_refl _)
theorem ar_refs (n : Nat) (f : Nat → Int) : refsL (ar n f) = 0 := rows_refs (fun _ => rfl) n f
theorem ar_hard (n : Nat) (f : Nat → Int) : (ar n f).all (·.hard) = true := rows_hard (fun _ => rfl) n f
theorem ar_ext {n : Nat} {f g : Nat → Int} (h : ∀ i, i < n → f i = g i) : ar n f = ar n g := rows_ext h
theorem ar_over {n : Nat} {f g : Nat → Int} {r : List C} : lay (ar n f ++ r) 0 (ar n g) = ar n g ++ r := by
 unfold lay
 rw [List.take_zero, List.nil_append, Nat.zero_add, ar_len, List.drop_left' (ar_len n f)]
theorem ar_over' {n : Nat} {f g : Nat → Int} : lay (ar n f) 0 (ar n g) = ar n g := lay_all (by rw [ar_len, ar_len])
theorem ar_take_past {n k : Nat} {f : Nat → Int} {r : List C} (h : n ≤ k) : (ar n f ++ r).take k = ar n f ++ r.take (k - n) := by rw [List.take_append, ar_len, List.take_of_length_le (by rw [ar_len]; exact h)]
theorem ar_drop_past {n k : Nat} {f : Nat → Int} {r : List C} (h : n ≤ k) : (ar n f ++ r).drop k = r.drop (k - n) := by rw [List.drop_append, ar_len, List.drop_of_length_le (by rw [ar_len]; exact h), List.nil_append]
theorem ar_over2 {n : Nat} {f g : Nat → Int} {r r' : List C} : lay (ar n f ++ r) 0 (ar n g ++ r') = ar n g ++ lay r 0 r' := by
 unfold lay
 simp only [List.take_zero, List.nil_append, Nat.zero_add, List.length_append, ar_len, List.append_assoc]
 rw [← List.drop_drop, List.drop_left' (ar_len n f)]
def bar (n : Nat) (f : Nat → Bool) : List C := rows (fun x => [cb x]) n f
theorem bar_len (n : Nat) (f : Nat → Bool) : (bar n f).length = n := by unfold bar; rw [rows_len (s := 1) (fun _ => rfl), Nat.mul_one]
theorem bar_get {n j : Nat} {f : Nat → Bool} {r : List C} (h : j < n) : (bar n f ++ r)[j]? = some (cb (f j)) := by
 have := rows_get (e := fun x : Bool => [cb x]) (s := 1) (c := 0) (fun _ => rfl) f r h (by omega)
 rw [Nat.mul_one, Nat.add_zero] at this
 exact this
theorem bar_get' {n j : Nat} {f : Nat → Bool} (h : j < n) : (bar n f)[j]? = some (cb (f j)) := by have := bar_get (r := []) (f := f) h; rwa [List.append_nil] at this
theorem bar_lay {n j : Nat} {f : Nat → Bool} {r : List C} {v : Bool} (h : j < n) : lay (bar n f ++ r) j [cb v] = bar n (upd f j v) ++ r := by
 have := rows_lay (e := fun x : Bool => [cb x]) (s := 1) (c := 0) (fun _ => rfl) f r [cb v] v h (by simp) rfl
 rw [Nat.mul_one, Nat.add_zero] at this
 exact this
theorem bar_lay' {n j : Nat} {f : Nat → Bool} {v : Bool} (h : j < n) : lay (bar n f) j [cb v] = bar n (upd f j v) := by have := bar_lay (r := []) (f := f) (v := v) h; rwa [List.append_nil, List.append_nil] at this
theorem bar_past {n j : Nat} {f : Nat → Bool} {r : List C} (h : n ≤ j) : (bar n f ++ r)[j]? = r[j - n]? := by rw [List.getElem?_append_right (by rw [bar_len]; exact h), bar_len]
theorem bar_lay_past {n j : Nat} {f : Nat → Bool} {r new : List C} (h : n ≤ j) : lay (bar n f ++ r) j new = bar n f ++ lay r (j - n) new := by
 unfold lay
 rw [List.take_append, List.drop_append, bar_len, List.take_of_length_le (by rw [bar_len]; exact h), List.drop_of_length_le (by rw [bar_len]; omega), List.nil_append, show j + new.length - n = j - n + new.length by omega]
 simp [List.append_assoc]
theorem bar_take {n : Nat} {f : Nat → Bool} {r : List C} : (bar n f ++ r).take n = bar n f := by rw [List.take_append_of_le_length (by rw [bar_len]; exact Nat.le_refl _), List.take_of_length_le (by rw [bar_len]; exact Nat.le_refl _)]
theorem bar_all {n : Nat} {f : Nat → Bool} : (bar n f).take n = bar n f := List.take_of_length_le (by rw [bar_len]; exact Nat.le_refl _)
theorem bar_refs (n : Nat) (f : Nat → Bool) : refsL (bar n f) = 0 := rows_refs (fun _ => rfl) n f
theorem bar_hard (n : Nat) (f : Nat → Bool) : (bar n f).all (·.hard) = true := rows_hard (fun _ => rfl) n f
theorem bar_over {n : Nat} {f g : Nat → Bool} {r : List C} : lay (bar n f ++ r) 0 (bar n g) = bar n g ++ r := by
 unfold lay
 rw [List.take_zero, List.nil_append, Nat.zero_add, bar_len, List.drop_left' (bar_len n f)]
theorem bar_over' {n : Nat} {f g : Nat → Bool} : lay (bar n f) 0 (bar n g) = bar n g := lay_all (by rw [bar_len, bar_len])
theorem bar_take_past {n k : Nat} {f : Nat → Bool} {r : List C} (h : n ≤ k) : (bar n f ++ r).take k = bar n f ++ r.take (k - n) := by rw [List.take_append, bar_len, List.take_of_length_le (by rw [bar_len]; exact h)]
theorem bar_drop_past {n k : Nat} {f : Nat → Bool} {r : List C} (h : n ≤ k) : (bar n f ++ r).drop k = r.drop (k - n) := by rw [List.drop_append, bar_len, List.drop_of_length_le (by rw [bar_len]; exact h), List.nil_append]
theorem lay_nil {l : List C} {o : Nat} : lay l o [] = l := by simp [lay]
theorem lay_0 {a b : C} {l r : List C} : lay (a :: l) 0 (b :: r) = b :: lay l 0 r := by simp [lay]
theorem lay_s {a : C} {l r : List C} {n : Nat} : lay (a :: l) (n + 1) r = a :: lay l n r := by simp [lay, Nat.add_right_comm]
theorem ar_of_list (xs : List Int) : ints xs = ar xs.length fun i => xs.getD i 0 := by
 apply List.ext_getElem?
 intro i
 by_cases h : i < xs.length
 ·rw [ints_get' h, ar_get' h]
 ·rw [List.getElem?_eq_none (by rw [ints_len]; omega), List.getElem?_eq_none (by rw [ar_len]; omega)]
structure Nd where
 u : Bool
 a : Int
 b : Int
 c : Int
def nd (x : Nd) : List C := [cb x.u, ci x.a, ci x.b, ci x.c]
def nds (n : Nat) (f : Nat → Nd) : List C := rows nd n f
section
variable {n i : Nat} {f : Nat → Nd} {r : List C}
theorem nds_len (n : Nat) (f : Nat → Nd) : (nds n f).length = n * 4 := rows_len (s := 4) (fun _ => rfl) n f
theorem nds_u (h : i < n) : (nds n f ++ r)[i * 4]? = some (cb (f i).u) := rows_get (e := nd) (s := 4) (c := 0) (fun _ => rfl) f r h (by omega)
theorem nds_a (h : i < n) : (nds n f ++ r)[i * 4 + 1]? = some (ci (f i).a) := rows_get (e := nd) (s := 4) (c := 1) (fun _ => rfl) f r h (by omega)
theorem nds_b (h : i < n) : (nds n f ++ r)[i * 4 + 2]? = some (ci (f i).b) := rows_get (e := nd) (s := 4) (c := 2) (fun _ => rfl) f r h (by omega)
theorem nds_c (h : i < n) : (nds n f ++ r)[i * 4 + 3]? = some (ci (f i).c) := rows_get (e := nd) (s := 4) (c := 3) (fun _ => rfl) f r h (by omega)
theorem nds_lu (h : i < n) (v : Bool) : lay (nds n f ++ r) (i * 4) [cb v] = nds n (upd f i { f i with u := v }) ++ r := rows_lay (e := nd) (s := 4) (c := 0) (fun _ => rfl) f r _ _ h (by simp) rfl
theorem nds_la (h : i < n) (v : Int) : lay (nds n f ++ r) (i * 4 + 1) [ci v] = nds n (upd f i { f i with a := v }) ++ r := rows_lay (e := nd) (s := 4) (c := 1) (fun _ => rfl) f r _ _ h (by simp) rfl
theorem nds_lb (h : i < n) (v : Int) : lay (nds n f ++ r) (i * 4 + 2) [ci v] = nds n (upd f i { f i with b := v }) ++ r := rows_lay (e := nd) (s := 4) (c := 2) (fun _ => rfl) f r _ _ h (by simp) rfl
theorem nds_lc (h : i < n) (v : Int) : lay (nds n f ++ r) (i * 4 + 3) [ci v] = nds n (upd f i { f i with c := v }) ++ r := rows_lay (e := nd) (s := 4) (c := 3) (fun _ => rfl) f r _ _ h (by simp) rfl
theorem nds_l (h : i < n) (x : Nd) : lay (nds n f ++ r) (i * 4) (nd x) = nds n (upd f i x) ++ r := rows_lay (e := nd) (s := 4) (c := 0) (fun _ => rfl) f r _ _ h (by simp [nd]) rfl
theorem nds_at (h : i < n) : ((nds n f ++ r).drop (i * 4)).take 4 = nd (f i) := rows_drop (e := nd) (s := 4) (fun _ => rfl) f r h
theorem nds_past {j : Nat} (h : n * 4 ≤ j) : (nds n f ++ r)[j]? = r[j - n * 4]? := by rw [List.getElem?_append_right (by rw [nds_len]; exact h), nds_len]
theorem nds_lay_past {j : Nat} {new : List C} (h : n * 4 ≤ j) : lay (nds n f ++ r) j new = nds n f ++ lay r (j - n * 4) new := by
 unfold lay
 rw [List.take_append, List.drop_append, nds_len, List.take_of_length_le (by rw [nds_len]; exact h), List.drop_of_length_le (by rw [nds_len]; omega), List.nil_append, show j + new.length - n * 4 = j - n * 4 + new.length by omega]
 simp [List.append_assoc]
theorem nds_take : (nds n f ++ r).take (n * 4) = nds n f := by rw [List.take_append_of_le_length (by rw [nds_len]; exact Nat.le_refl _), List.take_of_length_le (by rw [nds_len]; exact Nat.le_refl _)]
theorem nds_refs (n : Nat) (f : Nat → Nd) : refsL (nds n f) = 0 := rows_refs (fun _ => rfl) n f
theorem nds_hard (n : Nat) (f : Nat → Nd) : (nds n f).all (·.hard) = true := rows_hard (fun _ => rfl) n f
theorem nds_ext {g : Nat → Nd} (h : ∀ i, i < n → f i = g i) : nds n f = nds n g := rows_ext h
theorem nds_app0 : nds n f = nds n f ++ [] := (List.append_nil _).symm
theorem nds_u' (h : i < n) : (nds n f)[i * 4]? = some (cb (f i).u) := by rw [nds_app0]; exact nds_u h
theorem nds_a' (h : i < n) : (nds n f)[i * 4 + 1]? = some (ci (f i).a) := by rw [nds_app0]; exact nds_a h
theorem nds_b' (h : i < n) : (nds n f)[i * 4 + 2]? = some (ci (f i).b) := by rw [nds_app0]; exact nds_b h
theorem nds_c' (h : i < n) : (nds n f)[i * 4 + 3]? = some (ci (f i).c) := by rw [nds_app0]; exact nds_c h
theorem nds_l' (h : i < n) (x : Nd) : lay (nds n f) (i * 4) (nd x) = nds n (upd f i x) := by rw [nds_app0, nds_l h, List.append_nil]
theorem nds_at' (h : i < n) : ((nds n f).drop (i * 4)).take 4 = nd (f i) := by rw [nds_app0]; exact nds_at h
theorem nds_all {k : Nat} (h : n * 4 ≤ k) : (nds n f).take k = nds n f := List.take_of_length_le (by rw [nds_len]; exact h)
theorem nds_take_past {k : Nat} (h : n * 4 ≤ k) : (nds n f ++ r).take k = nds n f ++ r.take (k - n * 4) := by rw [List.take_append, nds_len, List.take_of_length_le (by rw [nds_len]; exact h)]
theorem nds_drop_past {k : Nat} (h : n * 4 ≤ k) : (nds n f ++ r).drop k = r.drop (k - n * 4) := by rw [List.drop_append, nds_len, List.drop_of_length_le (by rw [nds_len]; exact h), List.nil_append]
theorem nds_over2 {g : Nat → Nd} {r' : List C} : lay (nds n f ++ r) 0 (nds n g ++ r') = nds n g ++ lay r 0 r' := by
 unfold lay
 simp only [List.take_zero, List.nil_append, Nat.zero_add, List.length_append, nds_len, List.append_assoc]
 rw [← List.drop_drop, List.drop_left' (nds_len n f)]
theorem nds_over' {g : Nat → Nd} : lay (nds n f) 0 (nds n g) = nds n g := lay_all (by rw [nds_len, nds_len])
theorem nd_len (x : Nd) : (nd x).length = 4 := rfl
theorem nd_refs (x : Nd) : refsL (nd x) = 0 := rfl
theorem nd_hard (x : Nd) : (nd x).all (·.hard) = true := rfl
theorem nds_over {g : Nat → Nd} : lay (nds n f ++ r) 0 (nds n g) = nds n g ++ r := by
 unfold lay
 rw [List.take_zero, List.nil_append, Nat.zero_add, nds_len, List.drop_left' (nds_len n f)]
end
end Go.Proofs.YtfbeplbcaanimaaGreat
set_option linter.unusedVariables false
namespace Go.Proofs.YtfbeplbcaanimaaGreat
variable {call : FuncId → List V → List Blk → Option Ret} {L n0 : Nat}
def opsC (call : FuncId → List V → List Blk → Option Ret) (n0 : Nat) (d : Option Nat) (r : List IOp) (x : Option (V × St)) : Option St := x.bind fun p => execOps call n0 r (put d p.1 p.2)
def opsG (call : FuncId → List V → List Blk → Option Ret) (n0 : Nat) (t : Nat) (b : Bool) (d : Option Nat) (i : I) (r : List IOp) (st : St) (v : V) : Option St :=
 match v with
 | .c (.bool x) => if x = b then opsC call n0 d r (stepL call n0 { st with env := (t, .c (.bool b)) :: st.env } i) else execOps call n0 r (put d (.c .undef) { st with env := (t, .c (.bool (!b))) :: st.env })
 | .c .undef => execOps call n0 r (put d (.c .undef) st)
 | _ => none
def drwC (call : FuncId → List V → List Blk → Option Ret) (m : List Blk) (d : Nat) (r : List IOp) (env : List (Nat × V)) (x : Option V) : Option (List (Nat × V)) := x.bind fun v => execD call m r ((d, v) :: env)
def drwG (call : FuncId → List V → List Blk → Option Ret) (m : List Blk) (t : Nat) (b : Bool) (d : Nat) (i : I) (r : List IOp) (env : List (Nat × V)) (v : V) : Option (List (Nat × V)) :=
 match v with
 | .c (.bool x) => if x = b then drwC call m d r ((t, .c (.bool b)) :: env) (stepD call ((t, .c (.bool b)) :: env) m i) else execD call m r ((d, .c .undef) :: (t, .c (.bool (!b))) :: env)
 | .c .undef => execD call m r ((d, .c .undef) :: env)
 | _ => none
def quiC (st : St) (x : Option V) : Option (V × St) := x.bind fun v => some (v, st)
def calC (n0 : Nat) (st : St) (x : Option Ret) : Option (V × St) := x.bind fun r => some (r.v, { st with mem := r.mem, esc := mx st.esc r.esc, wr := mx st.wr (r.wr - (st.mem.length - n0)) })
def dalC (m : List Blk) (x : Option Ret) : Option V := x.bind fun r => if r.wr = 0 ∧ r.mem.length = m.length ∧ r.v.hard = true then some r.v else none
def regC (x : Option St) : Option (Ex × St) := x.bind fun st => some (.norm, st)
def rdwC (st : St) (x : Option (List (Nat × V))) : Option (Ex × St) := x.bind fun env => some (.norm, { st with env := env })
noncomputable def seqC (call : FuncId → List V → List Blk → Option Ret) (L n0 : Nat) (kp : Option (List Nat)) (b : IC) (x : Option (Ex × St)) : Option (Ex × St) := x.bind fun p => match p.1 with
  | .norm => exec call L n0 kp b p.2
  | e => some (e, p.2)
noncomputable def cndC (call : FuncId → List V → List Blk → Option Ret) (L n0 : Nat) (kp : Option (List Nat)) (a b : IC) (st : St) (v : V) : Option (Ex × St) := v.bool?.bind fun t => if t then exec call L n0 kp a st else exec call L n0 kp b st
def blkC (n0 : Nat) (id : Nat) (ka : Option (List Nat)) (x : Option (Ex × St)) : Option (Ex × St) := x.bind fun p => match p.1 with
  | .exit j => if j = id then some (.norm, trim n0 ka p.2) else some (.exit j, p.2)
  | .norm => some (.norm, trim n0 ka p.2)
  | .ret => some (.ret, p.2)
def runC (n0 : Nat) (res : List IR) (x : Option (Ex × St)) : Option Ret := x.bind fun p => match p.1 with
  | .exit _ => none
  | _ => (resAll p.2 res).bind fun vs => some (fin n0 (resV vs) p.2)
def finC (n0 : Nat) (st : St) (x : Option (List V)) : Option Ret := x.bind fun vs => some (fin n0 (resV vs) st)
def resC (st : St) (l : List IR) (x : Option V) : Option (List V) := x.bind fun v => (resAll st l).bind fun vs => some (v :: vs)
def resD (v : V) (x : Option (List V)) : Option (List V) := x.bind fun vs => some (v :: vs)
theorem k_ops (d : Option Nat) (i : I) (r : List IOp) (st : St) : execOps call n0 (⟨d, none, i⟩ :: r) st = opsC call n0 d r (stepL call n0 st i) := rfl
theorem k_opsg (d : Option Nat) (t : Nat) (b : Bool) (i : I) (r : List IOp) (st : St) : execOps call n0 (⟨d, some (t, b), i⟩ :: r) st = opsG call n0 t b d i r st (get st.env t) := by
 simp only [execOps, want, opsG]
 cases get st.env t with
 | c x => cases x <;> rfl
 | agg l => rfl
 | tup l => rfl
theorem k_nil (st : St) : execOps call n0 [] st = some st := rfl
theorem k_drw (m : List Blk) (d : Nat) (i : I) (r : List IOp) (env : List (Nat × V)) : execD call m (⟨some d, none, i⟩ :: r) env = drwC call m d r env (stepD call env m i) := rfl
theorem k_drwg (m : List Blk) (d : Nat) (t : Nat) (b : Bool) (i : I) (r : List IOp) (env : List (Nat × V)) : execD call m (⟨some d, some (t, b), i⟩ :: r) env = drwG call m t b d i r env (get env t) := by
 simp only [execD, want, drwG]
 cases get env t with
 | c x => cases x <;> rfl
 | agg l => rfl
 | tup l => rfl
theorem k_dnil (m : List Blk) (env : List (Nat × V)) : execD call m [] env = some env := rfl
variable {kp : Option (List Nat)} {st : St}
theorem k_skip : exec call L n0 kp .skip st = some (.norm, st) := rfl
theorem k_reg (ops : List IOp) : exec call L n0 kp (.reg false ops) st = regC (execOps call n0 ops st) := rfl
theorem k_rdw (ops : List IOp) : exec call L n0 kp (.reg true ops) st = rdwC st (execD call st.mem ops st.env) := rfl
theorem k_seq (a b : IC) : exec call L n0 kp (.seq a b) st = seqC call L n0 kp b (exec call L n0 kp a st) := rfl
theorem k_cond (c : Opd) (a b : IC) : exec call L n0 kp (.cond c a b) st = cndC call L n0 kp a b st (c.ev st.env) := rfl
theorem k_block (id : Nat) (kq ka : Option (List Nat)) (b : IC) : exec call L n0 kp (.block id kq ka b) st = blkC n0 id ka (exec call L n0 kq b st) := rfl
theorem k_loop (b : IC) : exec call L n0 kp (.loop b) st = iter (fun s => exec call L n0 none b s) (trim n0 kp) L st := rfl
theorem k_exit (id : Nat) : exec call L n0 kp (.exit id) st = some (.exit id, st) := rfl
theorem k_ret (ks : Option (List Nat)) : exec call L n0 kp (.ret ks) st = some (.ret, trim n0 ks st) := rfl
theorem k_run (nt : Nat) (res : List IR) (body : IC) (args : List V) (m : List Blk) : runF call L ⟨nt, res, body⟩ args m = guard' (args.length ≤ nt) (runC m.length res (exec call L m.length none body ⟨number 0 args, m, 0, 0⟩)) := by
 unfold runF guard' runC
 split <;> rfl
theorem c_ops (d : Nat) (r : List IOp) (v : V) (env : List (Nat × V)) (m : List Blk) (e : Nat) (w : Nat) : opsC call n0 (some d) r (some (v, ⟨env, m, e, w⟩)) = execOps call n0 r ⟨(d, v) :: env, m, e, w⟩ := rfl
theorem c_ops0 (r : List IOp) (v : V) (st : St) : opsC call n0 none r (some (v, st)) = execOps call n0 r st := rfl
theorem c_opsn (d : Option Nat) (r : List IOp) : opsC call n0 d r none = none := rfl
theorem c_opsi (d : Option Nat) (r : List IOp) (c : Prop) [Decidable c] (x y : Option (V × St)) : opsC call n0 d r (if c then x else y) = if c then opsC call n0 d r x else opsC call n0 d r y := by split <;> rfl
theorem c_opsg_tt (t : Nat) (d : Option Nat) (i : I) (r : List IOp) (env : List (Nat × V)) (m : List Blk) (e : Nat) (w : Nat) : opsG call n0 t true d i r ⟨env, m, e, w⟩ (.c (.bool true)) = opsC call n0 d r (stepL call n0 ⟨(t, .c (.bool true)) :: env, m, e, w⟩ i) := rfl
theorem c_opsg_ff (t : Nat) (d : Option Nat) (i : I) (r : List IOp) (env : List (Nat × V)) (m : List Blk) (e : Nat) (w : Nat) : opsG call n0 t false d i r ⟨env, m, e, w⟩ (.c (.bool false)) = opsC call n0 d r (stepL call n0 ⟨(t, .c (.bool false)) :: env, m, e, w⟩ i) := rfl
theorem c_opsg_tf (t : Nat) (d : Nat) (i : I) (r : List IOp) (env : List (Nat × V)) (m : List Blk) (e : Nat) (w : Nat) : opsG call n0 t true (some d) i r ⟨env, m, e, w⟩ (.c (.bool false)) = execOps call n0 r ⟨(d, .c .undef) :: (t, .c (.bool false)) :: env, m, e, w⟩ := rfl
theorem c_opsg_ft (t : Nat) (d : Nat) (i : I) (r : List IOp) (env : List (Nat × V)) (m : List Blk) (e : Nat) (w : Nat) : opsG call n0 t false (some d) i r ⟨env, m, e, w⟩ (.c (.bool true)) = execOps call n0 r ⟨(d, .c .undef) :: (t, .c (.bool true)) :: env, m, e, w⟩ := rfl
theorem c_opsg_tf0 (t : Nat) (i : I) (r : List IOp) (env : List (Nat × V)) (m : List Blk) (e : Nat) (w : Nat) : opsG call n0 t true none i r ⟨env, m, e, w⟩ (.c (.bool false)) = execOps call n0 r ⟨(t, .c (.bool false)) :: env, m, e, w⟩ := rfl
theorem c_opsg_ft0 (t : Nat) (i : I) (r : List IOp) (env : List (Nat × V)) (m : List Blk) (e : Nat) (w : Nat) : opsG call n0 t false none i r ⟨env, m, e, w⟩ (.c (.bool true)) = execOps call n0 r ⟨(t, .c (.bool true)) :: env, m, e, w⟩ := rfl
theorem c_opsg_u (t : Nat) (b : Bool) (d : Nat) (i : I) (r : List IOp) (env : List (Nat × V)) (m : List Blk) (e : Nat) (w : Nat) : opsG call n0 t b (some d) i r ⟨env, m, e, w⟩ (.c .undef) = execOps call n0 r ⟨(d, .c .undef) :: env, m, e, w⟩ := rfl
theorem c_opsg_u0 (t : Nat) (b : Bool) (i : I) (r : List IOp) (st : St) : opsG call n0 t b none i r st (.c .undef) = execOps call n0 r st := rfl
theorem c_drw (m : List Blk) (d : Nat) (r : List IOp) (env : List (Nat × V)) (v : V) : drwC call m d r env (some v) = execD call m r ((d, v) :: env) := rfl
theorem c_drwn (m : List Blk) (d : Nat) (r : List IOp) (env : List (Nat × V)) : drwC call m d r env none = none := rfl
theorem c_drwg_tt (m : List Blk) (t : Nat) (d : Nat) (i : I) (r : List IOp) (env : List (Nat × V)) : drwG call m t true d i r env (.c (.bool true)) = drwC call m d r ((t, .c (.bool true)) :: env) (stepD call ((t, .c (.bool true)) :: env) m i) := rfl
theorem c_drwg_ff (m : List Blk) (t : Nat) (d : Nat) (i : I) (r : List IOp) (env : List (Nat × V)) : drwG call m t false d i r env (.c (.bool false)) = drwC call m d r ((t, .c (.bool false)) :: env) (stepD call ((t, .c (.bool false)) :: env) m i) := rfl
theorem c_drwg_tf (m : List Blk) (t : Nat) (d : Nat) (i : I) (r : List IOp) (env : List (Nat × V)) : drwG call m t true d i r env (.c (.bool false)) = execD call m r ((d, .c .undef) :: (t, .c (.bool false)) :: env) := rfl
theorem c_drwg_ft (m : List Blk) (t : Nat) (d : Nat) (i : I) (r : List IOp) (env : List (Nat × V)) : drwG call m t false d i r env (.c (.bool true)) = execD call m r ((d, .c .undef) :: (t, .c (.bool true)) :: env) := rfl
theorem c_drwg_u (m : List Blk) (t : Nat) (b : Bool) (d : Nat) (i : I) (r : List IOp) (env : List (Nat × V)) : drwG call m t b d i r env (.c .undef) = execD call m r ((d, .c .undef) :: env) := rfl
theorem c_qui (st : St) (v : V) : quiC st (some v) = some (v, st) := rfl
theorem c_quin (st : St) : quiC st none = none := rfl
theorem c_quii (st : St) (c : Prop) [Decidable c] (x y : Option V) : quiC st (if c then x else y) = if c then quiC st x else quiC st y := by split <;> rfl
theorem c_cal (env : List (Nat × V)) (m : List Blk) (e : Nat) (w : Nat) (v : V) (m' : List Blk) : calC n0 ⟨env, m, e, w⟩ (some ⟨v, m', 0, 0⟩) = some (v, ⟨env, m', e, w⟩) := by
 simp [calC, mx_eq]
theorem c_cal2 (env : List (Nat × V)) (m : List Blk) (e : Nat) (w : Nat) (v : V) (m' : List Blk) (e' w' : Nat) : calC n0 ⟨env, m, e, w⟩ (some ⟨v, m', e', w'⟩) = some (v, ⟨env, m', mx e e', mx w (w' - (m.length - n0))⟩) := rfl
theorem c_dal (m : List Blk) (v : V) (m' : List Blk) (e : Nat) : dalC m (some ⟨v, m', e, 0⟩) = guard' (m'.length = m.length ∧ v.hard = true) (some v) := by simp [dalC, guard']
theorem c_reg (st : St) : regC (some st) = some (.norm, st) := rfl
theorem c_regn : regC none = none := rfl
theorem c_regi (c : Prop) [Decidable c] (x y : Option St) : regC (if c then x else y) = if c then regC x else regC y := by split <;> rfl
theorem c_rdw (env env' : List (Nat × V)) (m : List Blk) (e : Nat) (w : Nat) : rdwC ⟨env, m, e, w⟩ (some env') = some (.norm, ⟨env', m, e, w⟩) := rfl
theorem c_seq (b : IC) : seqC call L n0 kp b (some (.norm, st)) = exec call L n0 kp b st := rfl
theorem c_seqx (b : IC) (j : Nat) : seqC call L n0 kp b (some (.exit j, st)) = some (.exit j, st) := rfl
theorem c_seqr (b : IC) : seqC call L n0 kp b (some (.ret, st)) = some (.ret, st) := rfl
theorem c_seqn (b : IC) : seqC call L n0 kp b none = none := rfl
theorem c_seqi (b : IC) (c : Prop) [Decidable c] (x y : Option (Ex × St)) : seqC call L n0 kp b (if c then x else y) = if c then seqC call L n0 kp b x else seqC call L n0 kp b y := by split <;> rfl
theorem c_cndt (a b : IC) : cndC call L n0 kp a b st (.c (.bool true)) = exec call L n0 kp a st := rfl
theorem c_cndf (a b : IC) : cndC call L n0 kp a b st (.c (.bool false)) = exec call L n0 kp b st := rfl
theorem c_cndd (a b : IC) (c : Prop) [Decidable c] : cndC call L n0 kp a b st (.c (.bool (decide c))) = if c then exec call L n0 kp a st else exec call L n0 kp b st := by
 by_cases h : c <;> simp [cndC, V.bool?, h]
theorem c_cndn (a b : IC) (x : Bool) : cndC call L n0 kp a b st (.c (.bool (!x))) = cndC call L n0 kp b a st (.c (.bool x)) := by cases x <;> rfl
theorem c_opsg_d (t : Nat) (b : Bool) (d : Option Nat) (i : I) (r : List IOp) (c : Prop) [Decidable c] : opsG call n0 t b d i r st (.c (.bool (decide c))) = if c then opsG call n0 t b d i r st (.c (.bool true)) else opsG call n0 t b d i r st (.c (.bool false)) := by
 by_cases h : c <;> simp [h]
theorem c_drwg_d (m : List Blk) (t : Nat) (b : Bool) (d : Nat) (i : I) (r : List IOp) (env : List (Nat × V)) (c : Prop) [Decidable c] : drwG call m t b d i r env (.c (.bool (decide c))) = if c then drwG call m t b d i r env (.c (.bool true)) else drwG call m t b d i r env (.c (.bool false)) := by
 by_cases h : c <;> simp [h]
theorem c_drwi (m : List Blk) (d : Nat) (r : List IOp) (env : List (Nat × V)) (c : Prop) [Decidable c] (x y : Option V) : drwC call m d r env (if c then x else y) = if c then drwC call m d r env x else drwC call m d r env y := by split <;> rfl
theorem c_rdwi (c : Prop) [Decidable c] (x y : Option (List (Nat × V))) : rdwC st (if c then x else y) = if c then rdwC st x else rdwC st y := by split <;> rfl
theorem c_beq (a b : Int) : (a == b) = decide (a = b) := rfl
theorem c_bne (a b : Int) : (a != b) = !decide (a = b) := rfl
theorem c_blk (id : Nat) (ka : Option (List Nat)) : blkC n0 id ka (some (.norm, st)) = some (.norm, trim n0 ka st) := rfl
theorem c_blkx (id : Nat) (ka : Option (List Nat)) : blkC n0 id ka (some (.exit id, st)) = some (.norm, trim n0 ka st) := by simp [blkC]
theorem c_blky (id j : Nat) (ka : Option (List Nat)) (h : j ≠ id) : blkC n0 id ka (some (.exit j, st)) = some (.exit j, st) := by simp [blkC, h]
theorem c_blkr (id : Nat) (ka : Option (List Nat)) : blkC n0 id ka (some (.ret, st)) = some (.ret, st) := rfl
theorem c_blkn (id : Nat) (ka : Option (List Nat)) : blkC n0 id ka none = none := rfl
theorem c_blki (id : Nat) (ka : Option (List Nat)) (c : Prop) [Decidable c] (x y : Option (Ex × St)) : blkC n0 id ka (if c then x else y) = if c then blkC n0 id ka x else blkC n0 id ka y := by split <;> rfl
theorem c_runr (res : List IR) : runC n0 res (some (.ret, st)) = finC n0 st (resAll st res) := rfl
theorem c_runn (res : List IR) : runC n0 res (some (.norm, st)) = finC n0 st (resAll st res) := rfl
theorem c_run0 (res : List IR) : runC n0 res none = none := rfl
theorem c_runi (res : List IR) (c : Prop) [Decidable c] (x y : Option (Ex × St)) : runC n0 res (if c then x else y) = if c then runC n0 res x else runC n0 res y := by split <;> rfl
theorem c_fin (vs : List V) : finC n0 st (some vs) = some (fin n0 (resV vs) st) := rfl
theorem k_res (r : IR) (l : List IR) : resAll st (r :: l) = resC st l (res1 st r) := rfl
theorem k_res0 : resAll st [] = some [] := rfl
theorem c_res (l : List IR) (v : V) : resC st l (some v) = resD v (resAll st l) := rfl
theorem c_resd (v : V) (vs : List V) : resD v (some vs) = some (v :: vs) := rfl
theorem q_call (f : FuncId) (args : List Opd) : stepL call n0 st (.call f args) = calC n0 st (call f (args.map (·.ev st.env)) st.mem) := rfl
def cavC (n0 : Nat) (call : FuncId → List V → List Blk → Option Ret) (st : St) (args : List Opd) (x : V) : Option (V × St) := match x with
 | .c (.fn f) => calC n0 st (call f (args.map (·.ev st.env)) st.mem)
 | .c (.clo f ns) => calC n0 st (call f (args.map (·.ev st.env) ++ capV ns) st.mem)
 | .c (.clp f b off tot) => calC n0 st (call f (args.map (·.ev st.env) ++ [.c (.ptr b off tot)]) st.mem)
 | _ => none
theorem q_callv (x : Opd) (args : List Opd) : stepL call n0 st (.callv x args) = cavC n0 call st args (x.ev st.env) := by
 simp only [stepL, cavC]
 cases x.ev st.env with
 | c y => cases y <;> rfl
 | agg l => rfl
 | tup l => rfl
theorem c_cav (args : List Opd) (f : FuncId) : cavC n0 call st args (.c (.fn f)) = calC n0 st (call f (args.map (·.ev st.env)) st.mem) := rfl
theorem c_cavc (args : List Opd) (f : FuncId) (ns : List (IntKind × Int)) : cavC n0 call st args (.c (.clo f ns)) = calC n0 st (call f (args.map (·.ev st.env) ++ capV ns) st.mem) := rfl
theorem c_cavp (args : List Opd) (f : FuncId) (b off tot : Nat) : cavC n0 call st args (.c (.clp f b off tot)) = calC n0 st (call f (args.map (·.ev st.env) ++ [.c (.ptr b off tot)]) st.mem) := rfl
def clrC (st : St) (n0 : Nat) (z : C) : V → Option (V × St)
 | .c .nils => some (.c .undef, st)
 | .c (.sl b off n tot) => (live st.mem b tot).bind fun _ => if n = 0 then some (.c .undef, st) else (wrt st n0 b off tot (rep n [z])).bind fun st' => some (.c .undef, st')
 | _ => none
theorem q_clr (x : Opd) (z : C) : stepL call n0 st (.clr x z) = clrC st n0 z (x.ev st.env) := by
 simp only [stepL, clrC]
 cases x.ev st.env with
 | c y => cases y <;> rfl
 | agg l => rfl
 | tup l => rfl
theorem c_clr0 (z : C) : clrC st n0 z (.c .nils) = some (.c .undef, st) := rfl
def clrB (st : St) (n0 b off n tot : Nat) (z : C) (x : Option Blk) : Option (V × St) := x.bind fun blk => if n = 0 then some (.c .undef, st) else guard' (blk.own = true ∧ off + n ≤ blk.cs.length)
  (some (.c .undef, { st with mem := st.mem.set b { blk with cs := lay blk.cs off (rep n [z]) }, esc := mx st.esc (refsL (rep n [z])), wr := mx st.wr (n0 - b) }))
theorem c_clr (z : C) (b off n tot : Nat) : clrC st n0 z (.c (.sl b off n tot)) = clrB st n0 b off n tot z (live st.mem b tot) := by
 simp only [clrC, clrB, wrt]
 cases live st.mem b tot with
 | none => rfl
 | some blk =>
  simp only [Option.bind_some, rep_flat, List.length_replicate]
  split
  ·rfl
  ·unfold guard'
   split <;> rfl
theorem c_clrB (env : List (Nat × V)) (m : List Blk) (e w b off n tot : Nat) (z : C) (cs : List C) (ty es : Nat) : clrB ⟨env, m, e, w⟩ n0 b off n tot z (some ⟨cs, ty, es, true⟩) = if n = 0 then some (.c .undef, ⟨env, m, e, w⟩) else guard' (off + n ≤ cs.length)
  (some (.c .undef, ⟨env, m.set b ⟨lay cs off (List.replicate n z), ty, es, true⟩, mx e (refsL (List.replicate n z)), mx w (n0 - b)⟩)) := by
 simp only [clrB, Option.bind_some, true_and, rep_flat]
theorem q_mkc (f : FuncId) (l : List Opd) : stepL call n0 st (.mkc f l) = quiC st (stepQ st.env st.mem (.mkc f l)) := rfl
theorem d_mkc (f : FuncId) (l : List Opd) (env : List (Nat × V)) (m : List Blk) : stepD call env m (.mkc f l) = stepQ env m (.mkc f l) := rfl
theorem s_mkc (f : FuncId) (l : List Opd) (env : List (Nat × V)) (m : List Blk) : stepQ env m (.mkc f l) = mkcV f (l.map (·.ev env)) := rfl
theorem c_mkcp (f : FuncId) (b off tot : Nat) : mkcV f [.c (.ptr b off tot)] = some (.c (.clp f b off tot)) := rfl
theorem c_mkc0 (f : FuncId) : mkcV f [] = some (.c (.clo f [])) := rfl
theorem c_mkcs (f : FuncId) (k : IntKind) (n : Int) (r : List V) : mkcV f (.c (.int k n) :: r) = (capt (.c (.int k n) :: r)).bind fun ns => some (.c (.clo f ns)) := by
 unfold mkcV
 split
 ·rename_i h; cases h
 ·rfl
theorem capt_0 : capt [] = some [] := rfl
theorem capt_s (k : IntKind) (n : Int) (r : List V) : capt (.c (.int k n) :: r) = (capt r).bind fun l => some ((k, n) :: l) := rfl
theorem capV_0 : capV [] = [] := rfl
theorem capV_s (p : IntKind × Int) (r : List (IntKind × Int)) : capV (p :: r) = .c (.int p.1 p.2) :: capV r := rfl
theorem q_mov (x : Opd) : stepL call n0 st (.mov x) = some (x.ev st.env, st) := rfl
theorem q_pick (c a b : Opd) : stepL call n0 st (.pick c a b) = quiC st (stepQ st.env st.mem (.pick c a b)) := rfl
theorem q_load1 (a : Opd) : stepL call n0 st (.load1 a) = quiC st (stepQ st.env st.mem (.load1 a)) := rfl
theorem q_loadN (a : Opd) (n : Nat) : stepL call n0 st (.loadN a n) = quiC st (stepQ st.env st.mem (.loadN a n)) := rfl
theorem q_fld (a : Opd) (o : Nat) : stepL call n0 st (.fld a o) = quiC st (stepQ st.env st.mem (.fld a o)) := rfl
theorem q_ixa (a i : Opd) (n s : Nat) : stepL call n0 st (.ixa a i n s) = quiC st (stepQ st.env st.mem (.ixa a i n s)) := rfl
theorem q_ixs (a i : Opd) (s : Nat) : stepL call n0 st (.ixs a i s) = quiC st (stepQ st.env st.mem (.ixs a i s)) := rfl
theorem q_ext (a : Opd) (o : Nat) : stepL call n0 st (.ext a o) = quiC st (stepQ st.env st.mem (.ext a o)) := rfl
theorem q_bin (op : BinOp) (x y : Opd) : stepL call n0 st (.bin op x y) = quiC st (bin' op (x.ev st.env) (y.ev st.env)) := rfl
theorem q_binb (ne : Bool) (x y : Opd) : stepL call n0 st (.binb ne x y) = quiC st (stepQ st.env st.mem (.binb ne x y)) := rfl
theorem q_bins (op : BinOp) (x y : Opd) : stepL call n0 st (.bins op x y) = quiC st (stepQ st.env st.mem (.bins op x y)) := rfl
theorem q_un (op : UnOp) (x : Opd) : stepL call n0 st (.un op x) = quiC st (un' op (x.ev st.env)) := rfl
theorem q_eqa (ne : Bool) (ks : List (Option IntKind)) (x y : Opd) : stepL call n0 st (.eqa ne ks x y) = quiC st (stepQ st.env st.mem (.eqa ne ks x y)) := rfl
theorem q_len (x : Opd) : stepL call n0 st (.len x) = quiC st (stepQ st.env st.mem (.len x)) := rfl
theorem q_lens (x : Opd) : stepL call n0 st (.lens x) = quiC st (stepQ st.env st.mem (.lens x)) := rfl
theorem q_sla (a : Opd) (n e : Nat) (lo hi : Option Opd) : stepL call n0 st (.sla a n e lo hi) = quiC st (stepQ st.env st.mem (.sla a n e lo hi)) := rfl
theorem q_sls (a : Opd) (e : Nat) (lo hi : Option Opd) : stepL call n0 st (.sls a e lo hi) = quiC st (stepQ st.env st.mem (.sls a e lo hi)) := rfl
theorem q_bld (z : List C) (ps : List (Nat × Nat × Opd)) : stepL call n0 st (.bld z ps) = quiC st (stepQ st.env st.mem (.bld z ps)) := rfl
def stoC (n0 : Nat) (st : St) (a : V) (n : Nat) (x : Option (List C)) : Option (V × St) := x.bind fun cs => match a with
  | .c (.ptr b off tot) => guard' (cs.length = n) ((wrt st n0 b off tot cs).bind fun st' => some (.c .undef, st'))
  | _ => none
theorem q_store (a x : Opd) (n : Nat) : stepL call n0 st (.store a x n) = stoC n0 st (a.ev st.env) n (x.ev st.env).cells? := by
 simp only [stepL, stoC]
 cases a.ev st.env with
 | c y => cases y <;> cases (x.ev st.env).cells? <;> rfl
 | agg l => cases (x.ev st.env).cells? <;> rfl
 | tup l => cases (x.ev st.env).cells? <;> rfl
def wriC (st : St) (n0 b off : Nat) (cs : List C) (x : Option Blk) : Option (V × St) := x.bind fun blk => guard' (blk.own = true ∧ off + cs.length ≤ blk.cs.length)
  (some (.c .undef, { st with mem := st.mem.set b { blk with cs := lay blk.cs off cs }, esc := mx st.esc (refsL cs), wr := mx st.wr (n0 - b) }))
theorem c_sto (b off tot n : Nat) (cs : List C) : stoC n0 st (.c (.ptr b off tot)) n (some cs) = guard' (cs.length = n) (wriC st n0 b off cs (live st.mem b tot)) := by
 simp only [stoC, Option.bind_some, wrt, wriC]
 congr 1
 cases live st.mem b tot with
 | none => rfl
 | some blk =>
  simp only [Option.bind_some, guard']
  split <;> rfl
theorem c_wri (env : List (Nat × V)) (m : List Blk) (e : Nat) (w : Nat) (b off : Nat) (cs cs' : List C) (ty es : Nat) : wriC ⟨env, m, e, w⟩ n0 b off cs' (some ⟨cs, ty, es, true⟩) = guard' (off + cs'.length ≤ cs.length) (some (.c .undef, ⟨env, m.set b ⟨lay cs off cs', ty, es, true⟩, mx e (refsL cs'), mx w (n0 - b)⟩)) := by
 simp [wriC]
theorem q_alloc (z : List C) (ty : TypeId) (env : List (Nat × V)) (m : List Blk) (e : Nat) (w : Nat) : stepL call n0 ⟨env, m, e, w⟩ (.alloc z ty) = some (.c (.ptr m.length 0 z.length), ⟨env, m ++ [⟨z, ty, 0, true⟩], mx e (refsL z), w⟩) := rfl
def boxC (st : St) (ty : TypeId) (x : Option (List C)) : Option (V × St) := x.bind fun z => some (.c (.ptr st.mem.length 0 z.length), { st with mem := st.mem ++ [⟨z, ty, 0, true⟩], esc := mx st.esc (refsL z) })
theorem q_box (x : Opd) (ty : TypeId) : stepL call n0 st (.box x ty) = boxC st ty (x.ev st.env).cells? := rfl
theorem c_box (z : List C) (ty : TypeId) (env : List (Nat × V)) (m : List Blk) (e : Nat) (w : Nat) : boxC ⟨env, m, e, w⟩ ty (some z) = some (.c (.ptr m.length 0 z.length), ⟨env, m ++ [⟨z, ty, 0, true⟩], mx e (refsL z), w⟩) := rfl
theorem q_mks (n : Opd) (z : List C) (ty : TypeId) (bytes : Nat) (env : List (Nat × V)) (m : List Blk) (e : Nat) (w : Nat) : stepL call n0 ⟨env, m, e, w⟩ (.mks n z ty bytes) = (n.ev env).int?.bind fun l => guard' (0 ≤ l ∧ l * bytes ≤ 140737488355328 ∧ 0 < bytes ∧ 0 < z.length)
      (some (.c (.sl m.length 0 l.toNat (l.toNat * z.length)), ⟨env, m ++ [⟨rep l.toNat z, ty, z.length, true⟩], mx e (refsL z), w⟩)) := rfl
def litC (st : St) (n esz : Nat) (ty : TypeId) (x : Option (List C)) : Option (V × St) := x.bind fun cs => guard' (cs.length = n * esz) (some (.c (.sl st.mem.length 0 n (n * esz)), { st with mem := st.mem ++ [⟨cs, ty, esz, true⟩], esc := mx st.esc (refsL cs) }))
theorem q_lit (n esz : Nat) (z : List C) (ps : List (Nat × Opd)) (ty : TypeId) : stepL call n0 st (.lit n esz z ps ty) = guard' (n * esz ≤ 16777216 ∧ z.length = esz ∧ 0 < esz) (litC st n esz ty (layAll st.env (rep n z) (ps.map fun (i, x) => (i * esz, esz, x)))) := rfl
theorem c_lit (n esz : Nat) (ty : TypeId) (cs : List C) (env : List (Nat × V)) (m : List Blk) (e : Nat) (w : Nat) : litC ⟨env, m, e, w⟩ n esz ty (some cs) = guard' (cs.length = n * esz) (some (.c (.sl m.length 0 n (n * esz)), ⟨env, m ++ [⟨cs, ty, esz, true⟩], mx e (refsL cs), w⟩)) := rfl
def appC (st : St) (n0 : Nat) (ty : TypeId) (esz bytes : Nat) (s : V) (x : Option (Nat × List C)) : Option (V × St) := x.bind fun p => match s with
  | .c .nils => if p.1 = 0 then some (.c .nils, st) else guard' (p.1 * bytes ≤ 140737488355328 ∧ 0 < esz ∧ 0 < bytes)
    (some (.c (.sl st.mem.length 0 p.1 (p.1 * esz)), { st with mem := st.mem ++ [⟨p.2, ty, esz, true⟩], esc := mx st.esc (refsL p.2) }))
  | .c (.sl b off len tot) => (live st.mem b tot).bind fun blk => guard' (blk.own = true ∧ blk.esz = esz ∧ 0 < esz ∧ blk.ty = ty ∧ off = 0 ∧ tot = len * esz ∧ (len + p.1) * bytes ≤ 140737488355328 ∧ 0 < bytes)
    (some (.c (.sl b 0 (len + p.1) (tot + p.1 * esz)), { st with mem := st.mem.set b { blk with cs := blk.cs ++ p.2 }, esc := mx st.esc (refsL p.2), wr := mx st.wr (n0 - b) }))
  | _ => none
theorem q_app (s x : Opd) (ty : TypeId) (esz bytes : Nat) : stepL call n0 st (.app s x ty esz bytes) = appC st n0 ty esz bytes (s.ev st.env) (src st.env st.mem esz x) := rfl
def appB (st : St) (n0 : Nat) (ty : TypeId) (esz bytes : Nat) (b len tot n : Nat) (cs : List C) (x : Option Blk) : Option (V × St) := x.bind fun blk => guard' (blk.own = true ∧ blk.esz = esz ∧ 0 < esz ∧ blk.ty = ty ∧ tot = len * esz ∧ (len + n) * bytes ≤ 140737488355328 ∧ 0 < bytes)
        (some (.c (.sl b 0 (len + n) (tot + n * esz)), { st with mem := st.mem.set b { blk with cs := blk.cs ++ cs }, esc := mx st.esc (refsL cs), wr := mx st.wr (n0 - b) }))
theorem c_app (ty : TypeId) (esz bytes b len tot n : Nat) (cs : List C) : appC st n0 ty esz bytes (.c (.sl b 0 len tot)) (some (n, cs)) = appB st n0 ty esz bytes b len tot n cs (live st.mem b tot) := by
 simp [appC, appB]
theorem c_appn (ty : TypeId) (esz bytes n : Nat) (cs : List C) (env : List (Nat × V)) (m : List Blk) (e : Nat) (w : Nat) : appC ⟨env, m, e, w⟩ n0 ty esz bytes (.c .nils) (some (n, cs)) = if n = 0 then some (.c .nils, ⟨env, m, e, w⟩) else guard' (n * bytes ≤ 140737488355328 ∧ 0 < esz ∧ 0 < bytes) (some (.c (.sl m.length 0 n (n * esz)), ⟨env, m ++ [⟨cs, ty, esz, true⟩], mx e (refsL cs), w⟩)) := rfl
theorem c_appB (env : List (Nat × V)) (m : List Blk) (e : Nat) (w : Nat) (ty : TypeId) (esz bytes b len tot n : Nat) (cs cs' : List C) : appB ⟨env, m, e, w⟩ n0 ty esz bytes b len tot n cs' (some ⟨cs, ty, esz, true⟩) =
  guard' (0 < esz ∧ tot = len * esz ∧ (len + n) * bytes ≤ 140737488355328 ∧ 0 < bytes) (some (.c (.sl b 0 (len + n) (tot + n * esz)), ⟨env, m.set b ⟨cs ++ cs', ty, esz, true⟩, mx e (refsL cs'), mx w (n0 - b)⟩)) := by
 simp [appB]
theorem s_mov (x : Opd) (env : List (Nat × V)) (m : List Blk) : stepQ env m (.mov x) = (some (x.ev env)) := rfl
theorem s_pick (c : Opd) (a : Opd) (b : Opd) (env : List (Nat × V)) (m : List Blk) : stepQ env m (.pick c a b) = ((c.ev env).bool?.bind fun t => some (if t then a.ev env else b.ev env)) := rfl
theorem s_loadN (a : Opd) (n : Nat) (env : List (Nat × V)) (m : List Blk) : stepQ env m (.loadN a n) = (match a.ev env with
  | .c (.ptr b off tot) => (live m b tot).bind fun blk => guard' (off + n ≤ blk.cs.length) (some (.agg ((blk.cs.drop off).take n)))
  | _ => none) := rfl
theorem s_fld (a : Opd) (off : Nat) (env : List (Nat × V)) (m : List Blk) : stepQ env m (.fld a off) = (match a.ev env with
  | .c (.ptr b o tot) => (live m b tot).bind fun _ => some (.c (.ptr b (o + off) tot))
  | _ => none) := rfl
theorem s_ixa (a : Opd) (i : Opd) (len : Nat) (esz : Nat) (env : List (Nat × V)) (m : List Blk) : stepQ env m (.ixa a i len esz) = (match a.ev env, i.ev env with
  | .c (.ptr b o tot), .c (.int _ n) => (live m b tot).bind fun _ => guard' (0 ≤ n ∧ n < len) (some (.c (.ptr b (o + n.toNat * esz) tot)))
  | _, _ => none) := rfl
theorem s_ext (x : Opd) (k : Nat) (env : List (Nat × V)) (m : List Blk) : stepQ env m (.ext x k) = (match x.ev env with
  | .tup vs => vs[k]?
  | _ => none) := rfl
theorem s_bin (op : BinOp) (x : Opd) (y : Opd) (env : List (Nat × V)) (m : List Blk) : stepQ env m (.bin op x y) = (bin' op (x.ev env) (y.ev env)) := rfl
theorem s_binb (ne : Bool) (x : Opd) (y : Opd) (env : List (Nat × V)) (m : List Blk) : stepQ env m (.binb ne x y) = (match x.ev env, y.ev env with
  | .c (.bool a), .c (.bool b) => some (.c (.bool (if ne then !(a == b) else a == b)))
  | _, _ => none) := rfl
theorem s_bins (op : BinOp) (x : Opd) (y : Opd) (env : List (Nat × V)) (m : List Blk) : stepQ env m (.bins op x y) = (match x.ev env, y.ev env with
  | .c (.str a), .c (.str b) => binS op a b
  | _, _ => none) := rfl
theorem s_un (op : UnOp) (x : Opd) (env : List (Nat × V)) (m : List Blk) : stepQ env m (.un op x) = (un' op (x.ev env)) := rfl
theorem s_eqa (ne : Bool) (ks : List (Option IntKind)) (x : Opd) (y : Opd) (env : List (Nat × V)) (m : List Blk) : stepQ env m (.eqa ne ks x y) = (match x.ev env, y.ev env with
  | .agg a, .agg b => (eqL ks a b).bind fun t => some (.c (.bool (if ne then !t else t)))
  | _, _ => none) := rfl
theorem s_nil (ne : Bool) (x : Opd) (env : List (Nat × V)) (m : List Blk) : stepQ env m (.nil ne x) = (match x.ev env with
  | .c .nils => some (.c (.bool (!ne)))
  | .c (.sl b _ _ tot) => (live m b tot).bind fun _ => some (.c (.bool ne))
  | _ => none) := rfl
theorem s_lens (x : Opd) (env : List (Nat × V)) (m : List Blk) : stepQ env m (.lens x) = (match x.ev env with
  | .c (.str s) => some (.c (.int .i64 s.size))
  | _ => none) := rfl
theorem s_sla (a : Opd) (n : Nat) (esz : Nat) (lo : Option Opd) (hi : Option Opd) (env : List (Nat × V)) (m : List Blk) : stepQ env m (.sla a n esz lo hi) = (match a.ev env with
  | .c (.ptr b o tot) => (live m b tot).bind fun blk => guard' (blk.esz = 0 ∧ n ≤ 4294967296) ((lo' env lo).bind fun l => (hi' env n hi).bind fun h => guard' (0 ≤ l ∧ l ≤ h ∧ h ≤ n ∧ l < n) (some (.c (.sl b (o + l.toNat * esz) (h - l).toNat tot))))
  | _ => none) := rfl
theorem s_sls (s : Opd) (esz : Nat) (lo : Option Opd) (hi : Option Opd) (env : List (Nat × V)) (m : List Blk) : stepQ env m (.sls s esz lo hi) = (match s.ev env with
  | .c (.sl b o len tot) => (live m b tot).bind fun blk => guard' (blk.esz = 0 ∨ esz = blk.esz) ((lo' env lo).bind fun l => (hi' env len hi).bind fun h => guard' (0 ≤ l ∧ l ≤ h ∧ h ≤ len) (some (.c (.sl b (o + l.toNat * esz) (h - l).toNat tot))))
  | .c .nils => (lo' env lo).bind fun l => (hi' env 0 hi).bind fun h => guard' (l = 0 ∧ h = 0) (some (.c .nils))
  | _ => none) := rfl
theorem s_bld (z : List C) (ps : List (Nat × Nat × Opd)) (env : List (Nat × V)) (m : List Blk) : stepQ env m (.bld z ps) = ((layAll env z ps).bind fun cs => some (.agg cs)) := rfl
theorem s_prt (x : Opd) (off : Nat) (n : Nat) (ag : Bool) (env : List (Nat × V)) (m : List Blk) : stepQ env m (.prt x off n ag) = (match x.ev env with
  | .agg cs => if off + n ≤ cs.length then (if ag then some (.agg ((cs.drop off).take n)) else (cs[off]?).bind fun c => some (.c c)) else none
  | _ => none) := rfl
theorem s_idxs (x : Opd) (i : Opd) (env : List (Nat × V)) (m : List Blk) : stepQ env m (.idxs x i) = (match x.ev env, i.ev env with
  | .c (.str s), .c (.int _ q) => if 0 ≤ q then (s[q.toNat]?).bind fun b => some (.c (.int .u8 b.toNat)) else none
  | _, _ => none) := rfl
theorem s_chk (x : Opd) (env : List (Nat × V)) (m : List Blk) : stepQ env m (.chk x) = (match x.ev env with
  | .c (.ptr b off tot) => (live m b tot).bind fun _ => some (.c (.ptr b off tot))
  | _ => none) := rfl
theorem s_cvt (k : IntKind) (x : Opd) (env : List (Nat × V)) (m : List Blk) : stepQ env m (.cvt k x) = (match x.ev env with
  | .c (.int _ n) => some (.c (.int k (k.wrap n)))
  | _ => none) := rfl
theorem s_shf (op : BinOp) (x : Opd) (y : Opd) (env : List (Nat × V)) (m : List Blk) : stepQ env m (.shf op x y) = (match x.ev env, y.ev env with
  | .c (.int k a), .c (.int _ b) => if b < 0 then none else match op with
   | .shl => some (.c (.int k (k.wrap (a * 2 ^ (min b.toNat k.bits)))))
   | .shr => some (.c (.int k (a.fdiv (2 ^ (min b.toNat k.bits)))))
   | _ => none
  | _, _ => none) := rfl
theorem s_mxi (lo : Bool) (x : Opd) (y : Opd) (env : List (Nat × V)) (m : List Blk) : stepQ env m (.mxi lo x y) = (match x.ev env, y.ev env with
  | .c (.int k a), .c (.int k' b) => if k = k' then some (.c (.int k (if lo then (if a ≤ b then a else b) else (if a ≤ b then b else a)))) else none
  | _, _ => none) := rfl
def lenV (m : List Blk) : V → Option V
 | .c .nils => some (.c (.int .i64 0))
 | .c (.sl b _ n tot) => (live m b tot).bind fun _ => some (.c (.int .i64 n))
 | _ => none
theorem s_len (x : Opd) (env : List (Nat × V)) (m : List Blk) : stepQ env m (.len x) = lenV m (x.ev env) := by
 simp only [stepQ]
 cases x.ev env with
 | c y => cases y <;> rfl
 | agg l => rfl
 | tup l => rfl
def ixsV (m : List Blk) (esz : Nat) : V → V → Option V
 | .c (.sl b o len tot), .c (.int _ n) => (live m b tot).bind fun _ => guard' (0 ≤ n ∧ n < len) (some (.c (.ptr b (o + n.toNat * esz) tot)))
 | _, _ => none
theorem s_ixs (x i : Opd) (esz : Nat) (env : List (Nat × V)) (m : List Blk) : stepQ env m (.ixs x i esz) = ixsV m esz (x.ev env) (i.ev env) := by
 simp only [stepQ]
 cases x.ev env with
 | c y =>
  cases i.ev env with
  | c z => cases y <;> cases z <;> rfl
  | agg l => cases y <;> rfl
  | tup l => cases y <;> rfl
 | agg l => rfl
 | tup l => rfl
def ld1V (m : List Blk) : V → Option V
 | .c (.ptr b off tot) => (live m b tot).bind fun blk => (blk.cs[off]?).bind fun c => some (.c c)
 | _ => none
theorem s_load1 (x : Opd) (env : List (Nat × V)) (m : List Blk) : stepQ env m (.load1 x) = ld1V m (x.ev env) := by
 simp only [stepQ]
 cases x.ev env with
 | c y => cases y <;> rfl
 | agg l => rfl
 | tup l => rfl
def ptrOf : C → Nat → C
 | .sl b off _ tot, i => .ptr b (off + i) tot
 | c, _ => c
theorem Sl.lenV {m : List Blk} {v : C} {xs : List Int} (h : Sl m v xs) : lenV m (.c v) = some (vi xs.length) := by
 rcases h with ⟨rfl, rfl⟩ | ⟨b, off, tot, blk, rfl, h2, h3, h4⟩
 ·rfl
 ·simp [Go.Proofs.YtfbeplbcaanimaaGreat.lenV, h2]
theorem Sl.ixV {m : List Blk} {v : C} {xs : List Int} (h : Sl m v xs) {i : Int} (hi : 0 ≤ i ∧ i < xs.length) : ixsV m 1 (.c v) (vi i) = some (.c (ptrOf v i.toNat)) := by
 rcases h with ⟨rfl, rfl⟩ | ⟨b, off, tot, blk, rfl, h2, h3, h4⟩
 ·simp at hi; omega
 ·simp [ixsV, h2, guard', hi, ptrOf]
theorem Sl.ldV {m : List Blk} {v : C} {xs : List Int} (h : Sl m v xs) {i : Nat} (hi : i < xs.length) : ld1V m (.c (ptrOf v i)) = some (vi (nth xs i)) := by
 rcases h with ⟨rfl, rfl⟩ | ⟨b, off, tot, blk, rfl, h2, h3, h4⟩
 ·simp at hi
 ·have := h4 i hi
  simp [ld1V, h2, ptrOf, this]
theorem Sl.take {m : List Blk} {v : C} {xs : List Int} (h : Sl m v xs) : v.refs ≤ m.length := by
 rcases h with ⟨rfl, rfl⟩ | ⟨b, off, tot, blk, rfl, h2, h3, h4⟩
 ·exact Nat.zero_le _
 ·exact live_lt h2
theorem d_mov (env : List (Nat × V)) (m : List Blk) (x : Opd) : stepD call env m (.mov x) = some (x.ev env) := rfl
theorem d_pick (env : List (Nat × V)) (m : List Blk) (c a b : Opd) : stepD call env m (.pick c a b) = stepQ env m (.pick c a b) := rfl
theorem d_load1 (env : List (Nat × V)) (m : List Blk) (a : Opd) : stepD call env m (.load1 a) = stepQ env m (.load1 a) := rfl
theorem d_loadN (env : List (Nat × V)) (m : List Blk) (a : Opd) (n : Nat) : stepD call env m (.loadN a n) = stepQ env m (.loadN a n) := rfl
theorem d_fld (env : List (Nat × V)) (m : List Blk) (a : Opd) (o : Nat) : stepD call env m (.fld a o) = stepQ env m (.fld a o) := rfl
theorem d_ixa (env : List (Nat × V)) (m : List Blk) (a i : Opd) (n s : Nat) : stepD call env m (.ixa a i n s) = stepQ env m (.ixa a i n s) := rfl
theorem d_ixs (env : List (Nat × V)) (m : List Blk) (a i : Opd) (s : Nat) : stepD call env m (.ixs a i s) = stepQ env m (.ixs a i s) := rfl
theorem d_ext (env : List (Nat × V)) (m : List Blk) (a : Opd) (o : Nat) : stepD call env m (.ext a o) = stepQ env m (.ext a o) := rfl
theorem d_bin (env : List (Nat × V)) (m : List Blk) (op : BinOp) (x y : Opd) : stepD call env m (.bin op x y) = bin' op (x.ev env) (y.ev env) := rfl
theorem d_binb (env : List (Nat × V)) (m : List Blk) (ne : Bool) (x y : Opd) : stepD call env m (.binb ne x y) = stepQ env m (.binb ne x y) := rfl
theorem d_bins (env : List (Nat × V)) (m : List Blk) (op : BinOp) (x y : Opd) : stepD call env m (.bins op x y) = stepQ env m (.bins op x y) := rfl
theorem d_un (env : List (Nat × V)) (m : List Blk) (op : UnOp) (x : Opd) : stepD call env m (.un op x) = un' op (x.ev env) := rfl
theorem d_eqa (env : List (Nat × V)) (m : List Blk) (ne : Bool) (ks : List (Option IntKind)) (x y : Opd) : stepD call env m (.eqa ne ks x y) = stepQ env m (.eqa ne ks x y) := rfl
theorem d_len (env : List (Nat × V)) (m : List Blk) (x : Opd) : stepD call env m (.len x) = stepQ env m (.len x) := rfl
theorem d_lens (env : List (Nat × V)) (m : List Blk) (x : Opd) : stepD call env m (.lens x) = stepQ env m (.lens x) := rfl
theorem d_sls (env : List (Nat × V)) (m : List Blk) (a : Opd) (e : Nat) (lo hi : Option Opd) : stepD call env m (.sls a e lo hi) = stepQ env m (.sls a e lo hi) := rfl
theorem d_sla (env : List (Nat × V)) (m : List Blk) (a : Opd) (n e : Nat) (lo hi : Option Opd) : stepD call env m (.sla a n e lo hi) = stepQ env m (.sla a n e lo hi) := rfl
theorem d_bld (env : List (Nat × V)) (m : List Blk) (z : List C) (ps : List (Nat × Nat × Opd)) : stepD call env m (.bld z ps) = stepQ env m (.bld z ps) := rfl
theorem q_idx (x i : Opd) (len n : Nat) (ag : Bool) : stepL call n0 st (.idx x i len n ag) = quiC st (stepQ st.env st.mem (.idx x i len n ag)) := rfl
theorem d_idx (x i : Opd) (len n : Nat) (ag : Bool) (env : List (Nat × V)) (m : List Blk) : stepD call env m (.idx x i len n ag) = stepQ env m (.idx x i len n ag) := rfl
theorem q_idxs (x i : Opd) : stepL call n0 st (.idxs x i) = quiC st (stepQ st.env st.mem (.idxs x i)) := rfl
theorem d_idxs (x i : Opd) (env : List (Nat × V)) (m : List Blk) : stepD call env m (.idxs x i) = stepQ env m (.idxs x i) := rfl
theorem q_chk (x : Opd) : stepL call n0 st (.chk x) = quiC st (stepQ st.env st.mem (.chk x)) := rfl
theorem d_chk (x : Opd) (env : List (Nat × V)) (m : List Blk) : stepD call env m (.chk x) = stepQ env m (.chk x) := rfl
theorem q_cvt (k : IntKind) (x : Opd) : stepL call n0 st (.cvt k x) = quiC st (stepQ st.env st.mem (.cvt k x)) := rfl
theorem d_cvt (k : IntKind) (x : Opd) (env : List (Nat × V)) (m : List Blk) : stepD call env m (.cvt k x) = stepQ env m (.cvt k x) := rfl
theorem q_shf (op : BinOp) (x y : Opd) : stepL call n0 st (.shf op x y) = quiC st (stepQ st.env st.mem (.shf op x y)) := rfl
theorem d_shf (op : BinOp) (x y : Opd) (env : List (Nat × V)) (m : List Blk) : stepD call env m (.shf op x y) = stepQ env m (.shf op x y) := rfl
theorem q_prt (x : Opd) (off n : Nat) (ag : Bool) : stepL call n0 st (.prt x off n ag) = quiC st (stepQ st.env st.mem (.prt x off n ag)) := rfl
theorem d_prt (x : Opd) (off n : Nat) (ag : Bool) (env : List (Nat × V)) (m : List Blk) : stepD call env m (.prt x off n ag) = stepQ env m (.prt x off n ag) := rfl
theorem q_mxi (lo : Bool) (x y : Opd) : stepL call n0 st (.mxi lo x y) = quiC st (stepQ st.env st.mem (.mxi lo x y)) := rfl
theorem d_mxi (lo : Bool) (x y : Opd) (env : List (Nat × V)) (m : List Blk) : stepD call env m (.mxi lo x y) = stepQ env m (.mxi lo x y) := rfl
theorem q_nil (ne : Bool) (x : Opd) : stepL call n0 st (.nil ne x) = quiC st (stepQ st.env st.mem (.nil ne x)) := rfl
theorem d_nil (ne : Bool) (x : Opd) (env : List (Nat × V)) (m : List Blk) : stepD call env m (.nil ne x) = stepQ env m (.nil ne x) := rfl
def idxV (len n : Nat) (ag : Bool) : V → V → Option V
 | .agg cs, .c (.int _ q) => guard' (0 ≤ q ∧ q < len ∧ q.toNat * n + n ≤ cs.length) (if ag then some (.agg ((cs.drop (q.toNat * n)).take n)) else (cs[q.toNat * n]?).bind fun c => some (.c c))
 | _, _ => none
theorem s_idx (x i : Opd) (len n : Nat) (ag : Bool) (env : List (Nat × V)) (m : List Blk) : stepQ env m (.idx x i len n ag) = idxV len n ag (x.ev env) (i.ev env) := by
 simp only [stepQ, idxV]
 cases x.ev env with
 | agg l =>
  cases i.ev env with
  | c z => cases z <;> rfl
  | agg l => rfl
  | tup l => rfl
 | c z => rfl
 | tup l => rfl
theorem d_call (f : FuncId) (args : List Opd) (env : List (Nat × V)) (m : List Blk) : stepD call env m (.call f args) = dalC m (call f (args.map (·.ev env)) m) := rfl
def davC (call : FuncId → List V → List Blk → Option Ret) (env : List (Nat × V)) (m : List Blk) (args : List Opd) (x : V) : Option V := match x with
 | .c (.fn f) => dalC m (call f (args.map (·.ev env)) m)
 | .c (.clo f ns) => dalC m (call f (args.map (·.ev env) ++ capV ns) m)
 | _ => none
theorem d_callv (x : Opd) (args : List Opd) (env : List (Nat × V)) (m : List Blk) : stepD call env m (.callv x args) = davC call env m args (x.ev env) := by
 simp only [stepD, davC]
 cases x.ev env with
 | c y => cases y <;> rfl
 | agg l => rfl
 | tup l => rfl
theorem c_dav (args : List Opd) (f : FuncId) (env : List (Nat × V)) (m : List Blk) : davC call env m args (.c (.fn f)) = dalC m (call f (args.map (·.ev env)) m) := rfl
theorem c_davc (args : List Opd) (f : FuncId) (ns : List (IntKind × Int)) (env : List (Nat × V)) (m : List Blk) : davC call env m args (.c (.clo f ns)) = dalC m (call f (args.map (·.ev env) ++ capV ns) m) := rfl
theorem iter_blk {σ : Type} {f : St → Option (Ex × St)} {tr : St → St} {id : Nat} {ka : Option (List Nat)} (H : σ → St) (I : σ → Prop) (μ : σ → Nat) (res : σ → Ex × St)
  (hs : ∀ s, I s → ∃ e st, f (H s) = some (e, st) ∧ match e with
   | .norm => ∃ s', tr st = H s' ∧ I s' ∧ μ s' < μ s ∧ res s' = res s
   | e => blkC n0 id ka (some (e, st)) = some (res s)) :
  ∀ n s st, I s → tr st = H s → μ s < n → blkC n0 id ka (iter f tr n st) = some (res s) := by
 intro n
 induction n with
 | zero => intro s st _ _ h; omega
 | succ n ih =>
  intro s st hI ht hn
  obtain ⟨e, st', he, h⟩ := hs s hI
  unfold iter
  rw [ht, he]
  cases e with
  | norm =>
   obtain ⟨s', h1, h2, h3, h4⟩ := h
   show blkC n0 id ka (iter f tr n st') = _
   rw [ih s' st' h2 h1 (by omega), h4]
  | exit id => exact h
  | ret => exact h
def sameL (un : List Nat) : List (Nat × Foot) → List Blk → List Blk → Prop
 | [], _, _ => True
 | p :: r, m, m2 => (un.contains p.1 = true → ∀ b ∈ p.2.sr, m2[b]? = m[b]?) ∧ sameL un r m m2
theorem sameL_iff {un : List Nat} {fs : List (Nat × Foot)} {m m2 : List Blk} : sameL un fs m m2 = sameP un fs m m2 := by
 have h : ∀ fs, sameL un fs m m2 ↔ ∀ p ∈ fs, un.contains p.1 = true → ∀ b ∈ p.2.sr, m2[b]? = m[b]? := by
  intro fs
  induction fs with
  | nil => simp [sameL]
  | cons p r ih => simp [sameL, ih]
 unfold sameP
 rw [h]
theorem sameL_0 (un : List Nat) (m m2 : List Blk) : sameL un [] m m2 = True := rfl
theorem sameL_s (un : List Nat) (p : Nat × Foot) (r : List (Nat × Foot)) (m m2 : List Blk) : sameL un (p :: r) m m2 = ((un.contains p.1 = true → ∀ b ∈ p.2.sr, m2[b]? = m[b]?) ∧ sameL un r m m2) := rfl
theorem chkI_0 (i : I) (ml : Bool) : chkI i ml [] = false := by cases i <;> cases ml <;> rfl
theorem chkI_m (i : I) (un : List Nat) : chkI i true un = false := by cases i <;> rfl
theorem chkI_c (f : FuncId) (l : List Opd) (a : Nat) (r : List Nat) : chkI (.call f l) false (a :: r) = true := rfl
theorem chkI_load1 (a : Opd) (ml : Bool) (un : List Nat) : chkI (.load1 a) ml un = false := rfl
theorem chkI_loadN (a : Opd) (n : Nat) (ml : Bool) (un : List Nat) : chkI (.loadN a n) ml un = false := rfl
theorem chkI_store (a x : Opd) (n : Nat) (ml : Bool) (un : List Nat) : chkI (.store a x n) ml un = false := rfl
theorem chkI_app (s x : Opd) (t : TypeId) (e b : Nat) (ml : Bool) (un : List Nat) : chkI (.app s x t e b) ml un = false := rfl
theorem chkI_alloc (z : List C) (t : TypeId) (ml : Bool) (un : List Nat) : chkI (.alloc z t) ml un = false := rfl
theorem chkI_box (x : Opd) (t : TypeId) (ml : Bool) (un : List Nat) : chkI (.box x t) ml un = false := rfl
theorem chkI_mks (x : Opd) (z : List C) (t : TypeId) (b : Nat) (ml : Bool) (un : List Nat) : chkI (.mks x z t b) ml un = false := rfl
theorem chkI_lit (k e : Nat) (z : List C) (ps : List (Nat × Opd)) (t : TypeId) (ml : Bool) (un : List Nat) : chkI (.lit k e z ps t) ml un = false := rfl
theorem chkI_fld (a : Opd) (k : Nat) (ml : Bool) (un : List Nat) : chkI (.fld a k) ml un = false := rfl
theorem chkI_ixs (a i : Opd) (e : Nat) (ml : Bool) (un : List Nat) : chkI (.ixs a i e) ml un = false := rfl
theorem chkI_ixa (a i : Opd) (l e : Nat) (ml : Bool) (un : List Nat) : chkI (.ixa a i l e) ml un = false := rfl
theorem chkI_len (a : Opd) (ml : Bool) (un : List Nat) : chkI (.len a) ml un = false := rfl
theorem chkI_chk (a : Opd) (ml : Bool) (un : List Nat) : chkI (.chk a) ml un = false := rfl
theorem chkI_sls (s : Opd) (e : Nat) (lo hi : Option Opd) (ml : Bool) (un : List Nat) : chkI (.sls s e lo hi) ml un = false := rfl
theorem chkI_sla (s : Opd) (k e : Nat) (lo hi : Option Opd) (ml : Bool) (un : List Nat) : chkI (.sla s k e lo hi) ml un = false := rfl
noncomputable def eC (call : FuncId → List V → List Blk → Option Ret) (n0 n : Nat) (d : Option Nat) (r : List EOp) (ix : Nat) (un : List Nat) (fs : List (Nat × Foot)) (F : Foot) (chk : Bool) (i : I) (ml : Bool) (m : List Blk) (x : Option (V × St)) : Option St := x.bind fun q => if okF un fs F = true then sameK chk un fs m q.2.mem (execE call n0 n r ((ix, recI i ml m q.2.mem F) :: fs) (put d q.1 q.2)) else none
theorem k_regE (k : Nat) (ops : List EOp) (env : List (Nat × V)) (m : List Blk) (e : Nat) (w : Nat) : exec call L n0 kp (.regE k ops) ⟨env, m, e, w⟩ = regC (execE call n0 m.length ops [] ⟨env, m ++ List.replicate k dead, e, w⟩) := rfl
theorem k_enil (n : Nat) (fs : List (Nat × Foot)) : execE call n0 n [] fs st = some st := rfl
theorem k_e (n : Nat) (d : Option Nat) (i : I) (ix p : Nat) (ml : Bool) (un : List Nat) (r : List EOp) (fs : List (Nat × Foot)) : execE call n0 n (⟨⟨d, none, i⟩, ix, p, ml, un⟩ :: r) fs st = eC call n0 n d r ix un fs (foot st.env (n + p) i) (chkI i ml un) i ml st.mem (stepE call n0 n ⟨⟨d, none, i⟩, ix, p, ml, un⟩ st) := by
 simp only [execE, stepG, wantB, Option.bind_some, if_true, eC]
 cases stepE call n0 n ⟨⟨d, none, i⟩, ix, p, ml, un⟩ st <;> rfl
noncomputable def egC (call : FuncId → List V → List Blk → Option Ret) (n0 n : Nat) (d : Option Nat) (g : Nat × Bool) (i : I) (ix p : Nat) (ml : Bool) (un : List Nat) (r : List EOp) (fs : List (Nat × Foot)) (st : St) : Option Bool → Option St
 | none => none
 | some true => eC call n0 n d r ix un fs (foot st.env (n + p) i) (chkI i ml un) i ml st.mem (stepE call n0 n ⟨⟨d, some g, i⟩, ix, p, ml, un⟩ st)
 | some false => eC call n0 n d r ix un fs ⟨[], [], [], []⟩ (chkI i ml un) i ml st.mem (some (.c .undef, st))
def wbC (b : Bool) : V → Option Bool
 | .c (.bool x) => some (x == b)
 | .c .undef => some false
 | _ => none
theorem c_wb (b x : Bool) : wbC b (.c (.bool x)) = some (x == b) := rfl
theorem c_wbu (b : Bool) : wbC b (.c .undef) = some false := rfl
theorem k_eg (n : Nat) (d : Option Nat) (g : Nat × Bool) (i : I) (ix p : Nat) (ml : Bool) (un : List Nat) (r : List EOp) (fs : List (Nat × Foot)) : execE call n0 n (⟨⟨d, some g, i⟩, ix, p, ml, un⟩ :: r) fs st = egC call n0 n d g i ix p ml un r fs st (wbC g.2 (get st.env g.1)) := by
 have hw : wantB st.env (some g) = wbC g.2 (get st.env g.1) := by
  obtain ⟨t, b⟩ := g
  simp only [wantB, wbC]
  cases get st.env t with
  | c y => cases y <;> rfl
  | agg l => rfl
  | tup l => rfl
 simp only [execE, stepG]
 rw [hw]
 cases wbC g.2 (get st.env g.1) with
 | none => rfl
 | some x =>
  cases x with
  | true =>
   simp only [Option.bind_some, if_true, egC, eC]
   cases stepE call n0 n ⟨⟨d, some g, i⟩, ix, p, ml, un⟩ st <;> rfl
  | false => simp [egC, eC]
theorem c_eg_t (n : Nat) (d : Option Nat) (g : Nat × Bool) (i : I) (ix p : Nat) (ml : Bool) (un : List Nat) (r : List EOp) (fs : List (Nat × Foot)) : egC call n0 n d g i ix p ml un r fs st (some true) = eC call n0 n d r ix un fs (foot st.env (n + p) i) (chkI i ml un) i ml st.mem (stepE call n0 n ⟨⟨d, some g, i⟩, ix, p, ml, un⟩ st) := rfl
theorem c_eg_f (n : Nat) (d : Option Nat) (g : Nat × Bool) (i : I) (ix p : Nat) (ml : Bool) (un : List Nat) (r : List EOp) (fs : List (Nat × Foot)) : egC call n0 n d g i ix p ml un r fs st (some false) = eC call n0 n d r ix un fs ⟨[], [], [], []⟩ (chkI i ml un) i ml st.mem (some (.c .undef, st)) := rfl
theorem c_e (n d : Nat) (r : List EOp) (ix : Nat) (un : List Nat) (fs : List (Nat × Foot)) (F : Foot) (v : V) (env : List (Nat × V)) (m : List Blk) (e : Nat) (w : Nat) (chk : Bool) (i : I) (ml : Bool) (m1 : List Blk) : eC call n0 n (some d) r ix un fs F chk i ml m1 (some (v, ⟨env, m, e, w⟩)) = guard' (okF un fs F = true) (sameK chk un fs m1 m (execE call n0 n r ((ix, recI i ml m1 m F) :: fs) ⟨(d, v) :: env, m, e, w⟩)) := rfl
theorem c_e0 (n : Nat) (r : List EOp) (ix : Nat) (un : List Nat) (fs : List (Nat × Foot)) (F : Foot) (v : V) (chk : Bool) (i : I) (ml : Bool) (m1 : List Blk) : eC call n0 n none r ix un fs F chk i ml m1 (some (v, st)) = guard' (okF un fs F = true) (sameK chk un fs m1 st.mem (execE call n0 n r ((ix, recI i ml m1 st.mem F) :: fs) st)) := rfl
theorem k_same0 {α : Type} (un : List Nat) (fs : List (Nat × Foot)) (m m2 : List Blk) (x : Option α) : sameK false un fs m m2 x = x := by simp [sameK]
open Classical in
theorem k_same {α : Type} (un : List Nat) (fs : List (Nat × Foot)) (m m2 : List Blk) (x : Option α) : sameK true un fs m m2 x = guard' (sameL un fs m m2) x := by
 unfold sameK guard'
 by_cases h : sameL un fs m m2
 ·have h2 : sameP un fs m m2 := by rw [← sameL_iff]; exact h
  rw [if_neg (fun hh => hh.2 h2), if_pos h]
 ·have h2 : ¬ sameP un fs m m2 := by rw [← sameL_iff]; exact h
  rw [if_pos ⟨rfl, h2⟩, if_neg h]
variable (n : Nat) (d : Option Nat) (g : Option (Nat × Bool)) (ix p : Nat) (un : List Nat)
def plcC (q : Nat) (st : St) (x : Option (V × St)) : Option (V × St) := x.bind (place q st)
theorem e_alloc (ml : Bool) (z : List C) (ty : TypeId) : stepE call n0 n ⟨⟨d, g, .alloc z ty⟩, ix, p, ml, un⟩ st = plcC (n + p) st (stepL call n0 { st with mem := [] } (.alloc z ty)) := rfl
theorem e_box (ml : Bool) (x : Opd) (ty : TypeId) : stepE call n0 n ⟨⟨d, g, .box x ty⟩, ix, p, ml, un⟩ st = plcC (n + p) st (stepL call n0 { st with mem := [] } (.box x ty)) := rfl
theorem e_mks (ml : Bool) (x : Opd) (z : List C) (ty : TypeId) (b : Nat) : stepE call n0 n ⟨⟨d, g, .mks x z ty b⟩, ix, p, ml, un⟩ st = plcC (n + p) st (stepL call n0 { st with mem := [] } (.mks x z ty b)) := rfl
theorem e_lit (ml : Bool) (k e : Nat) (z : List C) (ps : List (Nat × Opd)) (ty : TypeId) : stepE call n0 n ⟨⟨d, g, .lit k e z ps ty⟩, ix, p, ml, un⟩ st = plcC (n + p) st (stepL call n0 { st with mem := [] } (.lit k e z ps ty)) := rfl
theorem c_plc_ptr (q o t : Nat) (blk : Blk) (env env' : List (Nat × V)) (m : List Blk) (e e' : Nat) (w w' : Nat) : plcC q ⟨env, m, e, w⟩ (some (.c (.ptr 0 o t), ⟨env', [blk], e', w'⟩)) = guard' (isDead m q = true ∧ refsL blk.cs ≤ m.length) (some (.c (.ptr q o t), ⟨env, m.set q blk, e', w⟩)) := rfl
theorem c_plc_sl (q o l t : Nat) (blk : Blk) (env env' : List (Nat × V)) (m : List Blk) (e e' : Nat) (w w' : Nat) : plcC q ⟨env, m, e, w⟩ (some (.c (.sl 0 o l t), ⟨env', [blk], e', w'⟩)) = guard' (isDead m q = true ∧ refsL blk.cs ≤ m.length) (some (.c (.sl q o l t), ⟨env, m.set q blk, e', w⟩)) := rfl
theorem e_mov (x : Opd) : stepE call n0 n ⟨⟨d, g, .mov x⟩, ix, p, false, un⟩ st = some (x.ev st.env, st) := rfl
theorem e_mkc (f : FuncId) (l : List Opd) : stepE call n0 n ⟨⟨d, g, .mkc f l⟩, ix, p, false, un⟩ st = stepL call n0 st (.mkc f l) := rfl
theorem e_pick (c a b : Opd) : stepE call n0 n ⟨⟨d, g, .pick c a b⟩, ix, p, false, un⟩ st = stepL call n0 st (.pick c a b) := rfl
theorem e_load1 (a : Opd) : stepE call n0 n ⟨⟨d, g, .load1 a⟩, ix, p, false, un⟩ st = stepL call n0 st (.load1 a) := rfl
theorem e_loadN (a : Opd) (k : Nat) : stepE call n0 n ⟨⟨d, g, .loadN a k⟩, ix, p, false, un⟩ st = stepL call n0 st (.loadN a k) := rfl
theorem e_fld (a : Opd) (k : Nat) : stepE call n0 n ⟨⟨d, g, .fld a k⟩, ix, p, false, un⟩ st = stepL call n0 st (.fld a k) := rfl
theorem e_ixa (a i : Opd) (l e : Nat) : stepE call n0 n ⟨⟨d, g, .ixa a i l e⟩, ix, p, false, un⟩ st = stepL call n0 st (.ixa a i l e) := rfl
theorem e_ixs (a i : Opd) (e : Nat) : stepE call n0 n ⟨⟨d, g, .ixs a i e⟩, ix, p, false, un⟩ st = stepL call n0 st (.ixs a i e) := rfl
theorem e_ext (a : Opd) (k : Nat) : stepE call n0 n ⟨⟨d, g, .ext a k⟩, ix, p, false, un⟩ st = stepL call n0 st (.ext a k) := rfl
theorem e_bin (op : BinOp) (x y : Opd) : stepE call n0 n ⟨⟨d, g, .bin op x y⟩, ix, p, false, un⟩ st = stepL call n0 st (.bin op x y) := rfl
theorem e_binb (op : Bool) (x y : Opd) : stepE call n0 n ⟨⟨d, g, .binb op x y⟩, ix, p, false, un⟩ st = stepL call n0 st (.binb op x y) := rfl
theorem e_bins (op : BinOp) (x y : Opd) : stepE call n0 n ⟨⟨d, g, .bins op x y⟩, ix, p, false, un⟩ st = stepL call n0 st (.bins op x y) := rfl
theorem e_un (op : UnOp) (x : Opd) : stepE call n0 n ⟨⟨d, g, .un op x⟩, ix, p, false, un⟩ st = stepL call n0 st (.un op x) := rfl
theorem e_len (x : Opd) : stepE call n0 n ⟨⟨d, g, .len x⟩, ix, p, false, un⟩ st = stepL call n0 st (.len x) := rfl
theorem e_lens (x : Opd) : stepE call n0 n ⟨⟨d, g, .lens x⟩, ix, p, false, un⟩ st = stepL call n0 st (.lens x) := rfl
theorem e_chk (x : Opd) : stepE call n0 n ⟨⟨d, g, .chk x⟩, ix, p, false, un⟩ st = stepL call n0 st (.chk x) := rfl
theorem e_bld (z : List C) (ps : List (Nat × Nat × Opd)) : stepE call n0 n ⟨⟨d, g, .bld z ps⟩, ix, p, false, un⟩ st = stepL call n0 st (.bld z ps) := rfl
theorem e_prt (x : Opd) (o k : Nat) (ag : Bool) : stepE call n0 n ⟨⟨d, g, .prt x o k ag⟩, ix, p, false, un⟩ st = stepL call n0 st (.prt x o k ag) := rfl
theorem e_idx (x i : Opd) (l k : Nat) (ag : Bool) : stepE call n0 n ⟨⟨d, g, .idx x i l k ag⟩, ix, p, false, un⟩ st = stepL call n0 st (.idx x i l k ag) := rfl
theorem e_sls (s : Opd) (e : Nat) (lo hi : Option Opd) : stepE call n0 n ⟨⟨d, g, .sls s e lo hi⟩, ix, p, false, un⟩ st = stepL call n0 st (.sls s e lo hi) := rfl
theorem e_sla (s : Opd) (k e : Nat) (lo hi : Option Opd) : stepE call n0 n ⟨⟨d, g, .sla s k e lo hi⟩, ix, p, false, un⟩ st = stepL call n0 st (.sla s k e lo hi) := rfl
theorem e_store (a x : Opd) (k : Nat) : stepE call n0 n ⟨⟨d, g, .store a x k⟩, ix, p, false, un⟩ st = stepL call n0 st (.store a x k) := rfl
theorem e_app (s x : Opd) (ty : TypeId) (e b : Nat) : stepE call n0 n ⟨⟨d, g, .app s x ty e b⟩, ix, p, false, un⟩ st = guard' (nilApp st.env (.app s x ty e b) = false) (stepL call n0 st (.app s x ty e b)) := by
 simp only [stepE, I.makes, Bool.false_eq_true, if_false, guard']
 cases nilApp st.env (.app s x ty e b) <;> rfl
theorem e_call (f : FuncId) (l : List Opd) : stepE call n0 n ⟨⟨d, g, .call f l⟩, ix, p, false, un⟩ st = stepL call n0 st (.call f l) := rfl
def pucC (st : St) (args : List V) (x : Option Ret) : Option (V × St) := x.bind (pureC st args)
theorem e_callm (f : FuncId) (l : List Opd) : stepE call n0 n ⟨⟨d, g, .call f l⟩, ix, p, true, un⟩ st = pucC st (l.map (·.ev st.env)) (call f (l.map (·.ev st.env)) []) := rfl
theorem c_puc (args : List V) (v : V) (e : Nat) : pucC st args (some ⟨v, [], e, 0⟩) = guard' (V.refsAll args = 0) (some (v, st)) := by
 simp [pucC, pureC, guard']
theorem nilApp_sl (env : List (Nat × V)) (s x : Opd) (ty : TypeId) (e b : Nat) : nilApp env (.app s x ty e b) = match s.ev env with
  | .c .nils => (match x.ev env with
   | .c .nils => false
   | .c (.sl _ _ 0 _) => false
   | _ => true)
  | _ => false := rfl
theorem isDead_app (m l : List Blk) (k : Nat) : isDead (m ++ l) (m.length + k) = isDead l k := by unfold isDead; rw [get_app]
theorem isDead_app0 (m l : List Blk) : isDead (m ++ l) m.length = isDead l 0 := by unfold isDead; rw [get_app0]
theorem isDead_0 (l : List Blk) : isDead (dead :: l) 0 = true := rfl
theorem isDead_s (b : Blk) (l : List Blk) (k : Nat) : isDead (b :: l) (k + 1) = isDead l k := rfl
theorem okF_nil (fs : List (Nat × Foot)) (F : Foot) : okF [] fs F = true := by unfold okF; simp
theorem rep_one (b : Blk) : List.replicate 1 b = [b] := rfl
theorem rep_two (b : Blk) : List.replicate 2 b = [b, b] := rfl
theorem rep_three (b : Blk) : List.replicate 3 b = [b, b, b] := rfl
theorem lenV_n (m : List Blk) : lenV m (.c .nils) = some (.c (.int .i64 0)) := rfl
theorem lenV_s (m : List Blk) (b o k t : Nat) : lenV m (.c (.sl b o k t)) = (live m b t).bind fun _ => some (.c (.int .i64 k)) := rfl
theorem ixsV_s (m : List Blk) (esz b o l t : Nat) (kd : IntKind) (i : Int) : ixsV m esz (.c (.sl b o l t)) (.c (.int kd i)) = (live m b t).bind fun _ => guard' (0 ≤ i ∧ i < l) (some (.c (.ptr b (o + i.toNat * esz) t))) := rfl
theorem ld1V_p (m : List Blk) (b o t : Nat) : ld1V m (.c (.ptr b o t)) = (live m b t).bind fun blk => (blk.cs[o]?).bind fun c => some (.c c) := rfl
theorem idxV_a (len k : Nat) (ag : Bool) (cs : List C) (kd : IntKind) (q : Int) : idxV len k ag (.agg cs) (.c (.int kd q)) = guard' (0 ≤ q ∧ q < len ∧ q.toNat * k + k ≤ cs.length) (if ag then some (.agg ((cs.drop (q.toNat * k)).take k)) else (cs[q.toNat * k]?).bind fun c => some (.c c)) := rfl
theorem ite_nle {α : Type} {a b : Nat} {x y : α} (h : ¬ a ≤ b) : (if a ≤ b then x else y) = y := if_neg h
theorem ite_nlt {α : Type} {a b : Nat} {x y : α} (h : ¬ a < b) : (if a < b then x else y) = y := if_neg h
theorem isDead_sapp (m l : List Blk) (b : Nat) (x : Blk) (k : Nat) : isDead (m.set b x ++ l) (m.length + k) = isDead l k := by unfold isDead; rw [get_sapp]
theorem isDead_sapp0 (m l : List Blk) (b : Nat) (x : Blk) : isDead (m.set b x ++ l) m.length = isDead l 0 := by unfold isDead; rw [get_sapp0]
theorem fits_mk (a : List Nat) (b c : List (Nat × Nat × Nat)) (d : List Nat) (F : Foot) : Foot.fits ⟨a, b, c, d⟩ F = ((d.all fun b => F.sr.all (fun c => decide (b ≠ c)) && F.sw.all (fun c => decide (b ≠ c))) && (F.sw.all fun b => a.all (fun c => decide (b ≠ c))) &&
 (c.all fun x => F.cw.all (far x) && F.cr.all (far x)) && (F.cw.all fun x => b.all (far x))) := rfl
open Classical in
theorem callF_fits (m m2 : List Blk) (F : Foot) : (callF m m2).fits F = decide (∀ b, (b ∈ F.sr ∨ b ∈ F.sw) → m2[b]? = m[b]?) := by
 rw [Bool.eq_iff_iff, decide_eq_true_eq]
 constructor
 ·intro h b hb
  apply chg_eq
  intro hc
  have hf := fits_spec h
  rcases hb with hb | hb
  ·exact hf.ss b hc b hb rfl
  ·exact hf.sw b hc b hb rfl
 ·intro h
  have hn : ∀ b ∈ chg m m2, ¬ (m2[b]? = m[b]?) := fun b hb => by
   unfold chg at hb
   simpa using (List.mem_filter.1 hb).2
  unfold callF
  rw [fits_mk]
  simp only [List.all_nil, List.all_eq_true, Bool.and_true, Bool.and_eq_true, decide_eq_true_eq, implies_true, and_true]
  exact fun b hb => ⟨fun c hc e => hn b hb (h b (.inl (e ▸ hc))), fun c hc e => hn b hb (h b (.inr (e ▸ hc)))⟩
theorem callF_0 (m m2 : List Blk) : (callF m m2).sr = [] := rfl
theorem recI_m (i : I) (m m2 : List Blk) (F : Foot) : recI i true m m2 F = F := by simp [recI]
theorem recI_c (f : FuncId) (l : List Opd) (m m2 : List Blk) (F : Foot) : recI (.call f l) false m m2 F = callF m m2 := by simp [recI, I.cls]
theorem recI_v (x : Opd) (l : List Opd) (m m2 : List Blk) (F : Foot) : recI (.callv x l) false m m2 F = callF m m2 := by simp [recI, I.cls]
attribute [simp] k_ops k_opsg k_nil k_drw k_drwg k_dnil k_skip k_reg k_rdw k_seq k_cond k_block k_loop k_exit k_ret k_run c_ops c_ops0 c_opsn c_opsi c_opsg_tt c_opsg_ff c_opsg_tf c_opsg_ft c_opsg_tf0 c_opsg_ft0 c_opsg_u c_opsg_u0 c_drw c_drwn c_drwg_tt c_drwg_ff c_drwg_tf c_drwg_ft c_drwg_u c_qui c_quin c_quii c_cal c_cal2 c_dal c_reg c_regn c_regi c_rdw c_seq c_seqx c_seqr c_seqn c_seqi c_cndt c_cndf c_cndd c_cndn c_opsg_d c_drwg_d c_drwi c_rdwi c_beq c_bne c_blk c_blkx c_blky c_blkr c_blkn c_blki c_runr c_runn c_run0 c_runi c_fin k_res k_res0 c_res c_resd q_call q_callv c_cav c_cavc c_cavp q_clr c_clr0 c_clr c_clrB q_mkc d_mkc s_mkc c_mkcp c_mkc0 c_mkcs capt_0 capt_s capV_0 capV_s q_mov q_pick q_load1 q_loadN q_fld q_ixa q_ixs q_ext q_bin q_binb q_bins q_un q_eqa q_len q_lens q_sla q_sls q_bld q_store c_sto c_wri q_alloc q_box c_box q_mks q_lit c_lit q_app c_app c_appn c_appB s_len s_ixs s_load1 d_mov d_pick d_load1 d_loadN d_fld d_ixa d_ixs d_ext d_bin d_binb d_bins d_un d_eqa d_len d_lens d_sls d_sla d_bld q_idx d_idx q_idxs d_idxs q_chk d_chk q_cvt d_cvt q_shf d_shf q_prt d_prt q_mxi d_mxi q_nil d_nil s_idx d_call d_callv c_dav c_davc ite_bind len_add number Opd.ev bin' binI un' V.bool? V.int? V.cells? C.firm guard_pos lt_add_f ar_len ar_get ar_get' ar_lay ar_lay' ar_past ar_lay_past ar_take ar_all ar_refs ar_hard ar_over ar_over' refs_append guard_true live_app live_app0 res1 V.one? resV fin V.refs V.refsAll C.refs envRefs mx_zero_l mx_zero_r mx_r mx_l take_app take_app0 get_app get_app0 set_app set_app0 refsL lay_all layAll lo' hi' C.hard V.hard eqL eqC src rep List.getElem?_cons_zero List.getElem?_cons_succ List.set_cons_zero List.set_cons_succ trim_none trim_some slots ar_take_past ar_drop_past ar_over2 lay_nil lay_0 lay_s take_mx wrap_pos tmod_pos get_hit get_miss V.own C.own nub pickB V.ren C.ren pos nds_len nds_u nds_a nds_b nds_c nds_u' nds_a' nds_b' nds_c' nds_lu nds_la nds_lb nds_lc nds_l nds_l' nds_at nds_at' nds_past nds_lay_past nds_take nds_all nds_take_past nds_drop_past nds_refs nds_hard nds_over nds_over2 nds_over' nd_len nd_refs nd_hard k_regE k_enil k_e k_eg c_wb c_wbu c_eg_t c_eg_f c_e c_e0 k_same0 k_same sameL_0 sameL_s chkI_0 chkI_m chkI_c chkI_load1 chkI_loadN chkI_store chkI_app chkI_alloc chkI_box chkI_mks chkI_lit chkI_fld chkI_ixs chkI_ixa chkI_len chkI_chk chkI_sls chkI_sla e_alloc e_box e_mks e_lit c_plc_ptr c_plc_sl e_mov e_pick e_mkc e_load1 e_loadN e_fld e_ixa e_ixs e_ext e_bin e_binb e_bins e_un e_len e_lens e_chk e_bld e_prt e_idx e_sls e_sla e_store e_app e_call e_callm c_puc nilApp_sl isDead_app isDead_app0 isDead_0 isDead_s okF_nil rep_one rep_two rep_three okF foot V.blk V.rng V.srng fits_mk callF_fits callF_0 recI_m recI_c recI_v recI I.cls far wr_le s_mov s_pick s_loadN s_fld s_ixa s_ext s_bin s_binb s_bins s_un s_eqa s_nil s_lens s_sla s_sls s_bld s_prt s_idxs s_chk s_cvt s_shf s_mxi lenV_n lenV_s ixsV_s ld1V_p idxV_a take_set ite_nle ite_nlt List.filter_cons List.filter_nil ints_len ints_refs bar_len bar_get bar_get' bar_lay bar_lay' bar_past bar_lay_past bar_take bar_all bar_refs bar_hard bar_over bar_over' bar_take_past bar_drop_past get_sapp get_sapp0 set_sapp set_sapp0 take_sapp take_sapp0 live_sapp live_sapp0 get_sb get_sb0 set_sb live_sb live_sb0 List.set_set List.length_set isDead_sapp isDead_sapp0 tdiv_pos
end Go.Proofs.YtfbeplbcaanimaaGreat
set_option linter.unusedVariables false
namespace Go.Proofs.YtfbeplbcaanimaaGreat
open Go.RowKit Go.WideShapes
theorem calls_of_den0 {P : Program} {call : FuncId → List V → List Blk → Option Ret} (hC : CallOk P call) {f : FuncId} {args : List V} {m m' : List Blk} {b : Bool} {e wr : Nat} {base : Nat} {w : World} {ι : Nat → Nat × Nat} {ras : List Value}
  (h : call f args m = some ⟨.c (.bool b), m', e, wr⟩) (hm : ∀ (j : Nat) (blk : Blk), m[j]? = some blk → blk.own = false) (s : Sim base w ι m) (hl : args.length = ras.length) (ha : ∀ (j : Nat) (v : V), args[j]? = some v → ∃ r, ras[j]? = some r ∧ VR w ι m v r) :
  Calls P f ras.toArray w fun e w' => e = .returned (.bool b) ∧ Below w.heap.size w w' := by
 refine ((hC f args m _ h).2 base w ι ras s hl ha).mono fun e w' ⟨r, ι', he, hv, hm'⟩ => ?_
 rw [he, hv.bool]
 exact ⟨rfl, ⟨hm'.fr.os, hm'.fr.tape, hm'.fr.output, hm'.fr.size, fun g hg => hm'.fr.blk g hg fun j blk hj ho => by rw [hm j blk hj] at ho; cases ho⟩⟩
end Go.Proofs.YtfbeplbcaanimaaGreat
