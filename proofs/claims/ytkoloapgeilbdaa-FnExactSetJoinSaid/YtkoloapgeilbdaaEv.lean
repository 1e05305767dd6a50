/-
  Running the abstract machine by rewriting: the rules.
-/
import Derived.Test.YtkoloapgeilbdaaD
set_option linter.unusedVariables false
namespace Go.Proofs.Ytkoloapgeilbdaa

abbrev ci (n : Int) : C := .int .i64 n
abbrev cb (b : Bool) : C := .bool b
abbrev vi (n : Int) : V := .c (.int .i64 n)
abbrev vb (b : Bool) : V := .c (.bool b)
def ints (xs : List Int) : List C := xs.map (.int .i64)

theorem ite_bind {α β : Type} (c : Prop) [Decidable c] (x y : Option α) (f : α → Option β) : (if c then x else y).bind f = if c then x.bind f else y.bind f := by split <;> rfl
theorem guard_pos {α : Type} {c : Prop} [Decidable c] {x : Option α} (h : c) : guard' c x = x := by simp [guard', h]
theorem wrap_pos {x : Int} (h : -9223372036854775808 ≤ x ∧ x ≤ 9223372036854775807) : IntKind.i64.wrap x = x := by
  rw [IntKind.wrap_i64]; omega
theorem tmod_pos {x y : Int} (h : 0 ≤ x) : x.tmod y = x % y := Int.tmod_eq_emod_of_nonneg h
theorem tdiv_pos {x y : Int} (h : 0 ≤ x) : x.tdiv y = x / y := Int.tdiv_eq_ediv_of_nonneg h
theorem mx_r {a b : Nat} (h : a ≤ b) : mx a b = b := by simp [mx, h]
theorem mx_l {a b : Nat} (h : b ≤ a) : mx a b = a := by unfold mx; split <;> omega
theorem mx_zero_l (a : Nat) : mx 0 a = a := by simp [mx]
theorem mx_zero_r (a : Nat) : mx a 0 = a := by unfold mx; split <;> omega

/-- What is written at home is not written abroad. -/
theorem wr_le {a b : Nat} (h : a ≤ b) : a - b = 0 := Nat.sub_eq_zero_of_le h

theorem take_set (m : List Blk) (b : Nat) (x : Blk) : (m.set b x).take m.length = m.set b x := List.take_of_length_le (by simp)

section mem
variable (m l : List Blk) (k : Nat) (b b' : Blk)
theorem get_app : (m ++ l)[m.length + k]? = l[k]? := by rw [List.getElem?_append_right (Nat.le_add_right _ _), Nat.add_sub_cancel_left]
theorem get_app0 : (m ++ l)[m.length]? = l[0]? := by rw [List.getElem?_append_right (Nat.le_refl _), Nat.sub_self]
theorem set_app : (m ++ l).set (m.length + k) b = m ++ l.set k b := by simp
theorem set_app0 : (m ++ l).set m.length b = m ++ l.set 0 b := by simp
theorem take_app : (m ++ l).take (m.length + k) = m ++ l.take k := by rw [List.take_append, Nat.add_sub_cancel_left, List.take_of_length_le (Nat.le_add_right _ _)]
theorem take_app0 : (m ++ l).take m.length = m := by simp
theorem len_add (a c : Nat) : m.length + a + c = m.length + (a + c) := Nat.add_assoc _ _ _
theorem live_app (tot : Nat) : live (m ++ l) (m.length + k) tot = (l[k]?).bind fun blk => if tot = blk.cs.length then some blk else none := by unfold live; rw [get_app]
theorem live_app0 (tot : Nat) : live (m ++ l) m.length tot = (l[0]?).bind fun blk => if tot = blk.cs.length then some blk else none := by unfold live; rw [get_app0]
end mem

/-! The same where a block of the memory that came in was written. -/
section smem
variable (m l : List Blk) (b k : Nat) (x y : Blk)
theorem get_sapp : (m.set b x ++ l)[m.length + k]? = l[k]? := by have := get_app (m.set b x) l k; rwa [List.length_set] at this
theorem get_sapp0 : (m.set b x ++ l)[m.length]? = l[0]? := by have := get_app0 (m.set b x) l; rwa [List.length_set] at this
theorem set_sapp : (m.set b x ++ l).set (m.length + k) y = m.set b x ++ l.set k y := by have := set_app (m.set b x) l k y; rwa [List.length_set] at this
theorem set_sapp0 : (m.set b x ++ l).set m.length y = m.set b x ++ l.set 0 y := by have := set_app0 (m.set b x) l y; rwa [List.length_set] at this
theorem take_sapp : (m.set b x ++ l).take (m.length + k) = m.set b x ++ l.take k := by have := take_app (m.set b x) l k; rwa [List.length_set] at this
theorem take_sapp0 : (m.set b x ++ l).take m.length = m.set b x := by have := take_app0 (m.set b x) l; rwa [List.length_set] at this
theorem live_sapp (tot : Nat) : live (m.set b x ++ l) (m.length + k) tot = (l[k]?).bind fun blk => if tot = blk.cs.length then some blk else none := by have := live_app (m.set b x) l k tot; rwa [List.length_set] at this
theorem live_sapp0 (tot : Nat) : live (m.set b x ++ l) m.length tot = (l[0]?).bind fun blk => if tot = blk.cs.length then some blk else none := by have := live_app0 (m.set b x) l tot; rwa [List.length_set] at this
variable {m b}
theorem get_sb (h : b < m.length) : (m.set b x ++ l)[b]? = some x := by rw [List.getElem?_append_left (by simpa using h), List.getElem?_set_self h]
theorem get_sb0 (h : b < m.length) : (m.set b x)[b]? = some x := List.getElem?_set_self h
theorem set_sb (h : b < m.length) : (m.set b x ++ l).set b y = m.set b y ++ l := by rw [List.set_append_left _ _ (by simpa using h), List.set_set]
theorem live_sb (h : b < m.length) (tot : Nat) : live (m.set b x ++ l) b tot = if tot = x.cs.length then some x else none := by unfold live; rw [get_sb _ _ h]; rfl
theorem live_sb0 (h : b < m.length) (tot : Nat) : live (m.set b x) b tot = if tot = x.cs.length then some x else none := by unfold live; rw [get_sb0 _ h]; rfl
end smem
theorem set_id {m : List Blk} {b : Nat} {x : Blk} (h : m[b]? = some x) : m.set b x = m := by
  apply List.ext_getElem?
  intro j
  by_cases hj : b = j
  · subst hj; rw [List.getElem?_set_self (List.getElem?_eq_some_iff.1 h).1, h]
  · rw [List.getElem?_set_ne hj]

/-! Lists of numbers as cells. -/
theorem ints_len (xs : List Int) : (ints xs).length = xs.length := by simp [ints]
theorem ints_get {xs : List Int} {r : List C} {j : Nat} (h : j < xs.length) : (ints xs ++ r)[j]? = some (.int .i64 (xs.getD j 0)) := by
  rw [List.getElem?_append_left (by simpa [ints] using h)]
  simp [ints, h, List.getD_eq_getElem?_getD]
theorem ints_get' {xs : List Int} {j : Nat} (h : j < xs.length) : (ints xs)[j]? = some (.int .i64 (xs.getD j 0)) := by
  simp [ints, h, List.getD_eq_getElem?_getD]
theorem ints_past {xs : List Int} {r : List C} {j : Nat} (h : xs.length ≤ j) : (ints xs ++ r)[j]? = r[j - xs.length]? := by
  rw [List.getElem?_append_right (by simpa [ints] using h)]
  simp [ints]
theorem ints_refs (xs : List Int) : refsL (ints xs) = 0 := by
  induction xs with
  | nil => rfl
  | cons x xs ih =>
    have : ints (x :: xs) = .int .i64 x :: ints xs := rfl
    rw [this]
    simp [refsL, ih, C.refs, mx]
theorem refs_append (a b : List C) : refsL (a ++ b) = mx (refsL a) (refsL b) := by
  induction a with
  | nil => simp [refsL, mx]
  | cons c a ih => simp only [List.cons_append, refsL, ih]; simp only [mx_eq]; omega
theorem ints_take {xs : List Int} {r : List C} {n : Nat} (h : xs.length = n) : (ints xs ++ r).take n = ints xs := by
  rw [List.take_append_of_le_length (by simp [ints, h]), List.take_of_length_le (by simp [ints, h])]
theorem ints_hard (xs : List Int) : (ints xs).all (·.hard) = true := by simp [ints, C.hard]
theorem ints_lay {xs : List Int} {r : List C} {j : Nat} {v : Int} (h : j < xs.length) : lay (ints xs ++ r) j [.int .i64 v] = ints (xs.set j v) ++ r := by
  unfold lay
  have e1 : (ints xs ++ r).take j = ints (xs.take j) := by
    rw [List.take_append_of_le_length (by simp [ints]; omega)]; simp [ints, List.map_take]
  have e2 : (ints xs ++ r).drop (j + [C.int .i64 v].length) = ints (xs.drop (j + 1)) ++ r := by
    rw [List.drop_append_of_le_length (by simp [ints]; omega)]; simp [ints, List.map_drop]
  rw [e1, e2, List.set_eq_take_append_cons_drop, if_pos h]
  simp [ints]
theorem ints_lay' {xs : List Int} {j : Nat} {v : Int} (h : j < xs.length) : lay (ints xs) j [.int .i64 v] = ints (xs.set j v) := by
  have := ints_lay (r := []) (v := v) h
  simpa using this
theorem lay_all {cs new : List C} (h : new.length = cs.length) : lay cs 0 new = new := by
  unfold lay
  simp [h]

theorem den_eq {T : FuncId → Option IFn} {X : FuncId → List V → List Blk → Option Ret} {L k : Nat} {f : FuncId} {fn : IFn} (h : T f = some fn) (args : List V) (m : List Blk) : den T X L (k + 1) f args m = runF (den T X L k) L fn args m := by simp [den, h]
end Go.Proofs.Ytkoloapgeilbdaa
