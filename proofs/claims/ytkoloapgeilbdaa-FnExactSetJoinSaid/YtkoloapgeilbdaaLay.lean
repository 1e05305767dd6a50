/-
  Arrays of numbers, and of records of a bool and three numbers, as cells: read, written, copied.
-/
import Derived.Test.YtkoloapgeilbdaaLp
set_option linter.unusedVariables false
namespace Go.Proofs.Ytkoloapgeilbdaa

def upd {α : Type} (f : Nat → α) (i : Nat) (x : α) : Nat → α := fun j => if j = i then x else f j
theorem upd_at {α : Type} (f : Nat → α) (i : Nat) (x : α) : upd f i x i = x := by simp [upd]
theorem upd_ne {α : Type} (f : Nat → α) {i j : Nat} (x : α) (h : j ≠ i) : upd f i x j = f j := by simp [upd, h]

/-- Cells by a row of short lists. -/
def rows {α : Type} (e : α → List C) (n : Nat) (f : Nat → α) : List C := (List.range n).flatMap fun i => e (f i)
theorem rows_succ {α : Type} (e : α → List C) (n : Nat) (f : Nat → α) : rows e (n + 1) f = rows e n f ++ e (f n) := by
  simp [rows, List.range_succ]
theorem rows_len {α : Type} {e : α → List C} {s : Nat} (he : ∀ a, (e a).length = s) (n : Nat) (f : Nat → α) : (rows e n f).length = n * s := by
  induction n with
  | zero => simp [rows]
  | succ n ih => rw [rows_succ, List.length_append, ih, he, Nat.succ_mul]
theorem rows_ext {α : Type} {e : α → List C} {n : Nat} {f g : Nat → α} (h : ∀ i, i < n → f i = g i) : rows e n f = rows e n g := by
  induction n with
  | zero => rfl
  | succ n ih => rw [rows_succ, rows_succ, ih (fun i hi => h i (by omega)), h n (by omega)]
theorem rows_split {α : Type} {e : α → List C} {s : Nat} (he : ∀ a, (e a).length = s) {n i : Nat} (f : Nat → α) (hi : i < n) :
    rows e n f = rows e i f ++ (e (f i) ++ rows e (n - i - 1) fun j => f (i + 1 + j)) := by
  induction n with
  | zero => omega
  | succ n ih =>
    by_cases h : i = n
    · subst h
      rw [rows_succ, show i + 1 - i - 1 = 0 by omega]
      simp [rows]
    · rw [rows_succ, ih (by omega), show n + 1 - i - 1 = (n - i - 1) + 1 by omega, rows_succ, show i + 1 + (n - i - 1) = n by omega]
      simp [List.append_assoc]
theorem rows_get {α : Type} {e : α → List C} {s : Nat} (he : ∀ a, (e a).length = s) {n i c : Nat} (f : Nat → α) (r : List C) (hi : i < n) (hc : c < s) :
    (rows e n f ++ r)[i * s + c]? = (e (f i))[c]? := by
  rw [rows_split he f hi, List.append_assoc, List.getElem?_append_right (by rw [rows_len he]; omega), rows_len he, show i * s + c - i * s = c by omega, List.append_assoc, List.getElem?_append_left (by rw [he]; exact hc)]
theorem lay_mid {a b n r : List C} {o : Nat} (ho : o = a.length) (h : n.length = b.length) : lay (a ++ (b ++ r)) o n = a ++ (n ++ r) := by
  subst ho
  unfold lay
  rw [List.take_left, ← List.drop_drop, List.drop_left, h, List.drop_left, List.append_assoc]
theorem lay_in {a b n r : List C} {o c : Nat} (ho : o = a.length + c) (h : c + n.length ≤ b.length) : lay (a ++ (b ++ r)) o n = a ++ (lay b c n ++ r) := by
  subst ho
  unfold lay
  rw [List.take_length_add_append, Nat.add_assoc, List.drop_length_add_append]
  rw [List.take_append_of_le_length (by omega), List.drop_append_of_le_length (by omega)]
  simp [List.append_assoc]
theorem rows_upd {α : Type} {e : α → List C} {s : Nat} (he : ∀ a, (e a).length = s) {n i : Nat} (f : Nat → α) (x : α) (hi : i < n) :
    rows e n (upd f i x) = rows e i f ++ (e x ++ rows e (n - i - 1) fun j => f (i + 1 + j)) := by
  rw [rows_split he _ hi, upd_at, rows_ext (g := f) (n := i) (fun j hj => upd_ne f x (by omega)), rows_ext (g := fun j => f (i + 1 + j)) (n := n - i - 1) (fun j hj => upd_ne f x (by omega))]
theorem rows_lay {α : Type} {e : α → List C} {s : Nat} (he : ∀ a, (e a).length = s) {n i c : Nat} (f : Nat → α) (r new : List C) (x : α) (hi : i < n) (hc : c + new.length ≤ s) (hx : lay (e (f i)) c new = e x) :
    lay (rows e n f ++ r) (i * s + c) new = rows e n (upd f i x) ++ r := by
  rw [rows_split he f hi, List.append_assoc, List.append_assoc, lay_in (by rw [rows_len he]) (by rw [he]; exact hc), hx, rows_upd he f x hi]
  simp [List.append_assoc]
theorem rows_refs {α : Type} {e : α → List C} (he : ∀ a, refsL (e a) = 0) (n : Nat) (f : Nat → α) : refsL (rows e n f) = 0 := by
  induction n with
  | zero => rfl
  | succ n ih => rw [rows_succ, refs_append, ih, he]; rfl
theorem rows_hard {α : Type} {e : α → List C} (he : ∀ a, (e a).all (·.hard) = true) (n : Nat) (f : Nat → α) : (rows e n f).all (·.hard) = true := by
  induction n with
  | zero => rfl
  | succ n ih => rw [rows_succ, List.all_append, ih, he]; rfl
theorem rows_drop {α : Type} {e : α → List C} {s : Nat} (he : ∀ a, (e a).length = s) {n i : Nat} (f : Nat → α) (r : List C) (hi : i < n) : ((rows e n f ++ r).drop (i * s)).take s = e (f i) := by
  rw [rows_split he f hi, List.append_assoc, List.append_assoc, show i * s = (rows e i f).length by rw [rows_len he], List.drop_left, List.take_append_of_le_length (by rw [he]; exact Nat.le_refl _), List.take_of_length_le (by rw [he]; exact Nat.le_refl _)]

/-! Numbers. -/
def ar (n : Nat) (f : Nat → Int) : List C := rows (fun x => [ci x]) n f
theorem ar_len (n : Nat) (f : Nat → Int) : (ar n f).length = n := by unfold ar; rw [rows_len (s := 1) (fun _ => rfl), Nat.mul_one]
theorem ar_get {n j : Nat} {f : Nat → Int} {r : List C} (h : j < n) : (ar n f ++ r)[j]? = some (ci (f j)) := by
  have := rows_get (e := fun x : Int => [ci x]) (s := 1) (c := 0) (fun _ => rfl) f r h (by omega)
  rw [Nat.mul_one, Nat.add_zero] at this
  exact this
theorem ar_get' {n j : Nat} {f : Nat → Int} (h : j < n) : (ar n f)[j]? = some (ci (f j)) := by have := ar_get (r := []) (f := f) h; rwa [List.append_nil] at this
theorem ar_lay {n j : Nat} {f : Nat → Int} {r : List C} {v : Int} (h : j < n) : lay (ar n f ++ r) j [ci v] = ar n (upd f j v) ++ r := by
  have := rows_lay (e := fun x : Int => [ci x]) (s := 1) (c := 0) (fun _ => rfl) f r [ci v] v h (by simp) rfl
  rw [Nat.mul_one, Nat.add_zero] at this
  exact this
theorem ar_lay' {n j : Nat} {f : Nat → Int} {v : Int} (h : j < n) : lay (ar n f) j [ci v] = ar n (upd f j v) := by have := ar_lay (r := []) (f := f) (v := v) h; rwa [List.append_nil, List.append_nil] at this
theorem ar_past {n j : Nat} {f : Nat → Int} {r : List C} (h : n ≤ j) : (ar n f ++ r)[j]? = r[j - n]? := by rw [List.getElem?_append_right (by rw [ar_len]; exact h), ar_len]
theorem ar_lay_past {n j : Nat} {f : Nat → Int} {r new : List C} (h : n ≤ j) : lay (ar n f ++ r) j new = ar n f ++ lay r (j - n) new := by
  unfold lay
  rw [List.take_append, List.drop_append, ar_len, List.take_of_length_le (by rw [ar_len]; exact h), List.drop_of_length_le (by rw [ar_len]; omega), List.nil_append, show j + new.length - n = j - n + new.length by omega]
  simp [List.append_assoc]
theorem ar_take {n : Nat} {f : Nat → Int} {r : List C} : (ar n f ++ r).take n = ar n f := by rw [List.take_append_of_le_length (by rw [ar_len]; exact Nat.le_refl _), List.take_of_length_le (by rw [ar_len]; exact Nat.le_refl _)]
theorem ar_all {n : Nat} {f : Nat → Int} : (ar n f).take n = ar n f := List.take_of_length_le (by rw [ar_len]; exact Nat.le_refl _)
theorem ar_refs (n : Nat) (f : Nat → Int) : refsL (ar n f) = 0 := rows_refs (fun _ => rfl) n f
theorem ar_hard (n : Nat) (f : Nat → Int) : (ar n f).all (·.hard) = true := rows_hard (fun _ => rfl) n f
theorem ar_ext {n : Nat} {f g : Nat → Int} (h : ∀ i, i < n → f i = g i) : ar n f = ar n g := rows_ext h
theorem ar_over {n : Nat} {f g : Nat → Int} {r : List C} : lay (ar n f ++ r) 0 (ar n g) = ar n g ++ r := by
  unfold lay
  rw [List.take_zero, List.nil_append, Nat.zero_add, ar_len, List.drop_left' (ar_len n f)]
theorem ar_over' {n : Nat} {f g : Nat → Int} : lay (ar n f) 0 (ar n g) = ar n g := lay_all (by rw [ar_len, ar_len])
theorem ar_take_past {n k : Nat} {f : Nat → Int} {r : List C} (h : n ≤ k) : (ar n f ++ r).take k = ar n f ++ r.take (k - n) := by rw [List.take_append, ar_len, List.take_of_length_le (by rw [ar_len]; exact h)]
theorem ar_drop_past {n k : Nat} {f : Nat → Int} {r : List C} (h : n ≤ k) : (ar n f ++ r).drop k = r.drop (k - n) := by rw [List.drop_append, ar_len, List.drop_of_length_le (by rw [ar_len]; exact h), List.nil_append]
theorem ar_over2 {n : Nat} {f g : Nat → Int} {r r' : List C} : lay (ar n f ++ r) 0 (ar n g ++ r') = ar n g ++ lay r 0 r' := by
  unfold lay
  simp only [List.take_zero, List.nil_append, Nat.zero_add, List.length_append, ar_len, List.append_assoc]
  rw [← List.drop_drop, List.drop_left' (ar_len n f)]
/-! Bools. -/
def bar (n : Nat) (f : Nat → Bool) : List C := rows (fun x => [cb x]) n f
theorem bar_len (n : Nat) (f : Nat → Bool) : (bar n f).length = n := by unfold bar; rw [rows_len (s := 1) (fun _ => rfl), Nat.mul_one]
theorem bar_get {n j : Nat} {f : Nat → Bool} {r : List C} (h : j < n) : (bar n f ++ r)[j]? = some (cb (f j)) := by
  have := rows_get (e := fun x : Bool => [cb x]) (s := 1) (c := 0) (fun _ => rfl) f r h (by omega)
  rw [Nat.mul_one, Nat.add_zero] at this
  exact this
theorem bar_get' {n j : Nat} {f : Nat → Bool} (h : j < n) : (bar n f)[j]? = some (cb (f j)) := by have := bar_get (r := []) (f := f) h; rwa [List.append_nil] at this
theorem bar_lay {n j : Nat} {f : Nat → Bool} {r : List C} {v : Bool} (h : j < n) : lay (bar n f ++ r) j [cb v] = bar n (upd f j v) ++ r := by
  have := rows_lay (e := fun x : Bool => [cb x]) (s := 1) (c := 0) (fun _ => rfl) f r [cb v] v h (by simp) rfl
  rw [Nat.mul_one, Nat.add_zero] at this
  exact this
theorem bar_lay' {n j : Nat} {f : Nat → Bool} {v : Bool} (h : j < n) : lay (bar n f) j [cb v] = bar n (upd f j v) := by have := bar_lay (r := []) (f := f) (v := v) h; rwa [List.append_nil, List.append_nil] at this
theorem bar_past {n j : Nat} {f : Nat → Bool} {r : List C} (h : n ≤ j) : (bar n f ++ r)[j]? = r[j - n]? := by rw [List.getElem?_append_right (by rw [bar_len]; exact h), bar_len]
theorem bar_lay_past {n j : Nat} {f : Nat → Bool} {r new : List C} (h : n ≤ j) : lay (bar n f ++ r) j new = bar n f ++ lay r (j - n) new := by
  unfold lay
  rw [List.take_append, List.drop_append, bar_len, List.take_of_length_le (by rw [bar_len]; exact h), List.drop_of_length_le (by rw [bar_len]; omega), List.nil_append, show j + new.length - n = j - n + new.length by omega]
  simp [List.append_assoc]
theorem bar_take {n : Nat} {f : Nat → Bool} {r : List C} : (bar n f ++ r).take n = bar n f := by rw [List.take_append_of_le_length (by rw [bar_len]; exact Nat.le_refl _), List.take_of_length_le (by rw [bar_len]; exact Nat.le_refl _)]
theorem bar_all {n : Nat} {f : Nat → Bool} : (bar n f).take n = bar n f := List.take_of_length_le (by rw [bar_len]; exact Nat.le_refl _)
theorem bar_refs (n : Nat) (f : Nat → Bool) : refsL (bar n f) = 0 := rows_refs (fun _ => rfl) n f
theorem bar_hard (n : Nat) (f : Nat → Bool) : (bar n f).all (·.hard) = true := rows_hard (fun _ => rfl) n f
theorem bar_ext {n : Nat} {f g : Nat → Bool} (h : ∀ i, i < n → f i = g i) : bar n f = bar n g := rows_ext h
theorem bar_over {n : Nat} {f g : Nat → Bool} {r : List C} : lay (bar n f ++ r) 0 (bar n g) = bar n g ++ r := by
  unfold lay
  rw [List.take_zero, List.nil_append, Nat.zero_add, bar_len, List.drop_left' (bar_len n f)]
theorem bar_over' {n : Nat} {f g : Nat → Bool} : lay (bar n f) 0 (bar n g) = bar n g := lay_all (by rw [bar_len, bar_len])
theorem bar_take_past {n k : Nat} {f : Nat → Bool} {r : List C} (h : n ≤ k) : (bar n f ++ r).take k = bar n f ++ r.take (k - n) := by rw [List.take_append, bar_len, List.take_of_length_le (by rw [bar_len]; exact h)]
theorem bar_drop_past {n k : Nat} {f : Nat → Bool} {r : List C} (h : n ≤ k) : (bar n f ++ r).drop k = r.drop (k - n) := by rw [List.drop_append, bar_len, List.drop_of_length_le (by rw [bar_len]; exact h), List.nil_append]
theorem lay_nil {l : List C} {o : Nat} : lay l o [] = l := by simp [lay]
theorem lay_0 {a b : C} {l r : List C} : lay (a :: l) 0 (b :: r) = b :: lay l 0 r := by simp [lay]
theorem lay_s {a : C} {l r : List C} {n : Nat} : lay (a :: l) (n + 1) r = a :: lay l n r := by simp [lay, Nat.add_right_comm]
theorem ar_of_list (xs : List Int) : ints xs = ar xs.length fun i => xs.getD i 0 := by
  apply List.ext_getElem?
  intro i
  by_cases h : i < xs.length
  · rw [ints_get' h, ar_get' h]
  · rw [List.getElem?_eq_none (by rw [ints_len]; omega), List.getElem?_eq_none (by rw [ar_len]; omega)]

/-! Records of a bool and three numbers. -/
structure Nd where
  u : Bool
  a : Int
  b : Int
  c : Int
def nd (x : Nd) : List C := [cb x.u, ci x.a, ci x.b, ci x.c]
def nds (n : Nat) (f : Nat → Nd) : List C := rows nd n f
section
variable {n i : Nat} {f : Nat → Nd} {r : List C}
theorem nds_len (n : Nat) (f : Nat → Nd) : (nds n f).length = n * 4 := rows_len (s := 4) (fun _ => rfl) n f
theorem nds_u (h : i < n) : (nds n f ++ r)[i * 4]? = some (cb (f i).u) := rows_get (e := nd) (s := 4) (c := 0) (fun _ => rfl) f r h (by omega)
theorem nds_a (h : i < n) : (nds n f ++ r)[i * 4 + 1]? = some (ci (f i).a) := rows_get (e := nd) (s := 4) (c := 1) (fun _ => rfl) f r h (by omega)
theorem nds_b (h : i < n) : (nds n f ++ r)[i * 4 + 2]? = some (ci (f i).b) := rows_get (e := nd) (s := 4) (c := 2) (fun _ => rfl) f r h (by omega)
theorem nds_c (h : i < n) : (nds n f ++ r)[i * 4 + 3]? = some (ci (f i).c) := rows_get (e := nd) (s := 4) (c := 3) (fun _ => rfl) f r h (by omega)
theorem nds_lu (h : i < n) (v : Bool) : lay (nds n f ++ r) (i * 4) [cb v] = nds n (upd f i { f i with u := v }) ++ r := rows_lay (e := nd) (s := 4) (c := 0) (fun _ => rfl) f r _ _ h (by simp) rfl
theorem nds_la (h : i < n) (v : Int) : lay (nds n f ++ r) (i * 4 + 1) [ci v] = nds n (upd f i { f i with a := v }) ++ r := rows_lay (e := nd) (s := 4) (c := 1) (fun _ => rfl) f r _ _ h (by simp) rfl
theorem nds_lb (h : i < n) (v : Int) : lay (nds n f ++ r) (i * 4 + 2) [ci v] = nds n (upd f i { f i with b := v }) ++ r := rows_lay (e := nd) (s := 4) (c := 2) (fun _ => rfl) f r _ _ h (by simp) rfl
theorem nds_lc (h : i < n) (v : Int) : lay (nds n f ++ r) (i * 4 + 3) [ci v] = nds n (upd f i { f i with c := v }) ++ r := rows_lay (e := nd) (s := 4) (c := 3) (fun _ => rfl) f r _ _ h (by simp) rfl
theorem nds_l (h : i < n) (x : Nd) : lay (nds n f ++ r) (i * 4) (nd x) = nds n (upd f i x) ++ r := rows_lay (e := nd) (s := 4) (c := 0) (fun _ => rfl) f r _ _ h (by simp [nd]) rfl
theorem nds_at (h : i < n) : ((nds n f ++ r).drop (i * 4)).take 4 = nd (f i) := rows_drop (e := nd) (s := 4) (fun _ => rfl) f r h
theorem nds_past {j : Nat} (h : n * 4 ≤ j) : (nds n f ++ r)[j]? = r[j - n * 4]? := by rw [List.getElem?_append_right (by rw [nds_len]; exact h), nds_len]
theorem nds_lay_past {j : Nat} {new : List C} (h : n * 4 ≤ j) : lay (nds n f ++ r) j new = nds n f ++ lay r (j - n * 4) new := by
  unfold lay
  rw [List.take_append, List.drop_append, nds_len, List.take_of_length_le (by rw [nds_len]; exact h), List.drop_of_length_le (by rw [nds_len]; omega), List.nil_append, show j + new.length - n * 4 = j - n * 4 + new.length by omega]
  simp [List.append_assoc]
theorem nds_take : (nds n f ++ r).take (n * 4) = nds n f := by rw [List.take_append_of_le_length (by rw [nds_len]; exact Nat.le_refl _), List.take_of_length_le (by rw [nds_len]; exact Nat.le_refl _)]
theorem nds_refs (n : Nat) (f : Nat → Nd) : refsL (nds n f) = 0 := rows_refs (fun _ => rfl) n f
theorem nds_hard (n : Nat) (f : Nat → Nd) : (nds n f).all (·.hard) = true := rows_hard (fun _ => rfl) n f
theorem nds_ext {g : Nat → Nd} (h : ∀ i, i < n → f i = g i) : nds n f = nds n g := rows_ext h
theorem nds_app0 : nds n f = nds n f ++ [] := (List.append_nil _).symm
theorem nds_u' (h : i < n) : (nds n f)[i * 4]? = some (cb (f i).u) := by rw [nds_app0]; exact nds_u h
theorem nds_a' (h : i < n) : (nds n f)[i * 4 + 1]? = some (ci (f i).a) := by rw [nds_app0]; exact nds_a h
theorem nds_b' (h : i < n) : (nds n f)[i * 4 + 2]? = some (ci (f i).b) := by rw [nds_app0]; exact nds_b h
theorem nds_c' (h : i < n) : (nds n f)[i * 4 + 3]? = some (ci (f i).c) := by rw [nds_app0]; exact nds_c h
theorem nds_l' (h : i < n) (x : Nd) : lay (nds n f) (i * 4) (nd x) = nds n (upd f i x) := by rw [nds_app0, nds_l h, List.append_nil]
theorem nds_at' (h : i < n) : ((nds n f).drop (i * 4)).take 4 = nd (f i) := by rw [nds_app0]; exact nds_at h
theorem nds_all {k : Nat} (h : n * 4 ≤ k) : (nds n f).take k = nds n f := List.take_of_length_le (by rw [nds_len]; exact h)
theorem nds_take_past {k : Nat} (h : n * 4 ≤ k) : (nds n f ++ r).take k = nds n f ++ r.take (k - n * 4) := by rw [List.take_append, nds_len, List.take_of_length_le (by rw [nds_len]; exact h)]
theorem nds_drop_past {k : Nat} (h : n * 4 ≤ k) : (nds n f ++ r).drop k = r.drop (k - n * 4) := by rw [List.drop_append, nds_len, List.drop_of_length_le (by rw [nds_len]; exact h), List.nil_append]
theorem nds_over2 {g : Nat → Nd} {r' : List C} : lay (nds n f ++ r) 0 (nds n g ++ r') = nds n g ++ lay r 0 r' := by
  unfold lay
  simp only [List.take_zero, List.nil_append, Nat.zero_add, List.length_append, nds_len, List.append_assoc]
  rw [← List.drop_drop, List.drop_left' (nds_len n f)]
theorem nds_over' {g : Nat → Nd} : lay (nds n f) 0 (nds n g) = nds n g := lay_all (by rw [nds_len, nds_len])
theorem nd_len (x : Nd) : (nd x).length = 4 := rfl
theorem nd_refs (x : Nd) : refsL (nd x) = 0 := rfl
theorem nd_hard (x : Nd) : (nd x).all (·.hard) = true := rfl
theorem nds_over {g : Nat → Nd} : lay (nds n f ++ r) 0 (nds n g) = nds n g ++ r := by
  unfold lay
  rw [List.take_zero, List.nil_append, Nat.zero_add, nds_len, List.drop_left' (nds_len n f)]
end
end Go.Proofs.Ytkoloapgeilbdaa
