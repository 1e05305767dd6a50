/-
  Sets, in plain terms: spread over more buckets; settled; added to.
-/
import Derived.Test.YtkoloapgeilbdaaSE
set_option linter.unusedVariables false
set_option linter.unusedSimpArgs false
namespace Go.Proofs.Ytkoloapgeilbdaa

def plc (n : Nat) (y : Int) : Nat := (y % (n : Int)).toNat
theorem plc_lt {n : Nat} (hn : 0 < n) (y : Int) : plc n y < n ∧ y % (n : Int) = plc n y := by
  have h1 := Int.emod_nonneg y (show (n : Int) ≠ 0 by omega)
  have h2 := Int.emod_lt_of_pos y (show 0 < (n : Int) by omega)
  unfold plc
  omega
/-- Spread over buckets, in the order in which they come. -/
def buck (l : List Int) (n : Nat) : List (List Int) := (List.range n).map fun p => l.filter fun y => decide (plc n y = p)
theorem buck_len (l : List Int) (n : Nat) : (buck l n).length = n := by simp [buck]
theorem buck_nth {l : List Int} {n p : Nat} (h : p < n) : nthL (buck l n) p = l.filter fun y => decide (plc n y = p) := by
  simp [nthL, buck, List.getD_eq_getElem?_getD, h]
theorem buck_nil (n : Nat) : ∀ p, p < n → nthL (buck [] n) p = [] := fun p h => by rw [buck_nth h]; rfl
theorem buck_snoc {l : List Int} {n : Nat} (hn : 0 < n) (y : Int) : buck (l ++ [y]) n = setN (buck l n) (plc n y) (nthL (buck l n) (plc n y) ++ [y]) := by
  have hp := (plc_lt hn y).1
  refine (nthL_ext (by rw [setN_len, buck_len, buck_len])).1 fun j hj => ?_
  rw [buck_len] at hj
  rw [setN_nth (by rw [buck_len]; exact hp), buck_nth hj, List.filter_append]
  by_cases e : j = plc n y
  · subst e
    rw [if_pos rfl, buck_nth hj]
    simp
  · rw [if_neg e, buck_nth hj]
    simp [Ne.symm e]
theorem flat_cons {f g : Nat → List Int} {y : Int} {p : Nat} (hg : g p = y :: f p) (ho : ∀ q, q ≠ p → g q = f q) : ∀ n, p < n → ((List.range n).map g).flatten.Perm (y :: ((List.range n).map f).flatten) := by
  intro n
  induction n with
  | zero => intro h; omega
  | succ n ih =>
    intro h
    simp only [List.range_succ, List.map_append, List.map_cons, List.map_nil, List.flatten_append, List.flatten_cons, List.flatten_nil, List.append_nil]
    by_cases e : p = n
    · subst e
      rw [List.map_congr_left (g := f) fun q hq => ho q (by have := List.mem_range.1 hq; omega), hg]
      exact List.perm_middle
    · rw [ho n (Ne.symm e)]
      exact (ih (by omega)).append_right _
theorem buck_perm {n : Nat} (hn : 0 < n) : ∀ l : List Int, (buck l n).flatten.Perm l
  | [] => by
    have : buck [] n = (List.range n).map fun _ => [] := rfl
    rw [this]
    rw [show ((List.range n).map fun _ => ([] : List Int)).flatten = [] by simp]
  | y :: l => by
    have ih := buck_perm hn l
    have hp := (plc_lt hn y).1
    refine (flat_cons (p := plc n y) (y := y) (f := fun p => l.filter fun y => decide (plc n y = p)) ?_ ?_ n hp).trans (ih.cons y)
    · simp
    · intro q hq
      simp [Ne.symm hq]
theorem srt_filter (l : List Int) (f : Int → Bool) : srt (l.filter f) = (srt l).filter f := srt_eq ((srt_perm l).symm.filter f) ((srt_asc l).filter f)
/-- Spread over buckets, each kept in order. -/
def dbl (l : List Int) (n : Nat) : List (List Int) := (List.range n).map fun p => insAll [] (l.filter fun y => decide (plc n y = p))
theorem dbl_len (l : List Int) (n : Nat) : (dbl l n).length = n := by simp [dbl]
theorem dbl_nth {l : List Int} {n p : Nat} (h : p < n) : nthL (dbl l n) p = insAll [] (l.filter fun y => decide (plc n y = p)) := by
  simp [nthL, dbl, List.getD_eq_getElem?_getD, h]
theorem dbl_snoc {l : List Int} {n : Nat} (hn : 0 < n) (y : Int) : dbl (l ++ [y]) n = setN (dbl l n) (plc n y) (insL (nthL (dbl l n) (plc n y)) y) := by
  have hp := (plc_lt hn y).1
  refine (nthL_ext (by rw [setN_len, dbl_len, dbl_len])).1 fun j hj => ?_
  rw [dbl_len] at hj
  rw [setN_nth (by rw [dbl_len]; exact hp), dbl_nth hj, List.filter_append]
  by_cases e : j = plc n y
  · subst e
    rw [if_pos rfl, dbl_nth hj, insAll_snoc]
    simp
  · rw [if_neg e, dbl_nth hj]
    simp [Ne.symm e]
theorem dbl_buck (l : List Int) (n : Nat) : dbl l n = buck (srt l) n := List.map_congr_left fun p _ => by rw [insAll_srt, srt_filter]
theorem perm_srt {l k : List Int} (h : l.Perm k) : srt l = srt k := srt_eq (h.trans (srt_perm k).symm) (srt_asc k)

/-- Spread over twice the buckets till there is room. -/
def settle (x : Int) (l : List Int) : Nat → List (List Int) → Option (List (List Int))
  | 0, _ => none
  | f + 1, z => if (bkt z x).length = 3 then (if z.length = 8 then none else settle x l f (buck l (2 * z.length))) else some z
structure Zed (xss z : List (List Int)) : Prop where
  len : z.length = 1 ∨ z.length = 2 ∨ z.length = 4 ∨ z.length = 8
  perm : z.flatten.Perm xss.flatten
  asc : ∀ p, p < z.length → Asc (nthL z p)
theorem Zed.next {xss z : List (List Int)} (h : Zed xss z) (h8 : z.length ≠ 8) : Zed xss (buck (srt xss.flatten) (2 * z.length)) := by
  have hl := h.len
  refine ⟨by rw [buck_len]; omega, (buck_perm (by omega) _).trans (srt_perm _), fun p hp => ?_⟩
  rw [buck_len] at hp
  rw [buck_nth hp]
  exact (srt_asc _).filter _
theorem Zed.start {xss : List (List Int)} (h : setOk xss = true) : Zed xss xss := by
  refine ⟨setOk_len h, List.Perm.refl _, fun p hp => ?_⟩
  have hb := bkt_ok h hp
  simp only [bkOk, Bool.and_eq_true, decide_eq_true_eq] at hb
  have step : ∀ i, i + 1 < (nthL xss p).length → nth (nthL xss p) i < nth (nthL xss p) (i + 1) := fun i hi => by
    have := hb.2 (i + 1) hi
    simp only [elOk, Bool.and_eq_true, decide_eq_true_eq, Nat.add_sub_cancel] at this
    exact this.2 (Nat.succ_pos i)
  have mono : ∀ d i, i + d + 1 < (nthL xss p).length → nth (nthL xss p) i < nth (nthL xss p) (i + d + 1) := by
    intro d
    induction d with
    | zero => intro i hi; exact step i hi
    | succ d ih =>
      intro i hi
      have h1 := ih i (by omega)
      have h2 := step (i + d + 1) (by omega)
      rw [show i + (d + 1) + 1 = i + d + 1 + 1 by omega]
      omega
  refine List.pairwise_iff_getElem.2 fun i j hi hj hij => ?_
  have := mono (j - i - 1) i (by omega)
  rw [show i + (j - i - 1) + 1 = j by omega] at this
  simp only [nth, List.getD_eq_getElem?_getD, hi, hj, List.getElem?_eq_getElem, Option.getD_some] at this
  omega
theorem nth_tot {z : List (List Int)} {p : Nat} (h : p < z.length) : (nthL z p).length ≤ tot z := by
  have h1 := tot_take h
  have h2 := tot_le_all z (p + 1)
  omega
theorem Zed.small {xss z : List (List Int)} (h : Zed xss z) (ho : setOk xss = true) : tot z ≤ 24 ∧ ∀ p, p < z.length → (nthL z p).length ≤ 24 := by
  have h1 := (setOk_tot ho).1
  have h2 : tot z = tot xss := by rw [← tot_flatten, ← tot_flatten]; exact h.perm.length_eq
  exact ⟨by omega, fun p hp => by have := nth_tot hp; omega⟩
theorem settle_Zed {xss : List (List Int)} {x : Int} : ∀ (f : Nat) {z w : List (List Int)}, Zed xss z → settle x (srt xss.flatten) f z = some w → Zed xss w ∧ (bkt w x).length ≠ 3
  | 0, z, w, _, h => by cases h
  | f + 1, z, w, hz, h => by
    unfold settle at h
    split at h
    · split at h
      · cases h
      · rename_i h8
        exact settle_Zed f (hz.next h8) h
    · rename_i h3
      injection h with h
      subst h
      exact ⟨hz, h3⟩
def setAdd (xss : List (List Int)) (x : Int) : List (List Int) × Int :=
  if setOk xss = true ∧ isVal x = true then (if setHas xss x = true then (xss, 2) else match settle x (srt xss.flatten) 4 xss with
    | none => (xss, 3)
    | some z => (setN z (x % (z.length : Int)).toNat (insL (bkt z x) x), 0)) else (xss, 1)
theorem app_ins {xs : List Int} (h : Asc xs) (x : Int) : srt (xs ++ [x]) = insL xs x :=
  srt_eq ((List.perm_append_singleton x xs).trans (insL_perm xs x).symm) (insL_asc h)
theorem setAdd_b {xss : List (List Int)} {x : Int} (b1 : xss.length ≤ 1048576) (b2 : ∀ xs ∈ xss, xs.length ≤ 1048576) (bt : tot xss ≤ 1073741824) : (setAdd xss x).1.length ≤ 1048576 ∧ (∀ xs ∈ (setAdd xss x).1, xs.length ≤ 1048576) ∧ tot (setAdd xss x).1 ≤ 1073741824 := by
  unfold setAdd
  split
  · rename_i h
    split
    · exact ⟨b1, b2, bt⟩
    · cases hs : settle x (srt xss.flatten) 4 xss with
      | none => exact ⟨b1, b2, bt⟩
      | some z =>
        obtain ⟨hz, h3⟩ := settle_Zed 4 (Zed.start h.1) hs
        have hl := hz.len
        have hsm := hz.small h.1
        simp only
        have h2 : ∀ ys ∈ setN z (x % (z.length : Int)).toNat (insL (bkt z x) x), ys.length ≤ 25 := fun ys hy => by
          rcases List.mem_or_eq_of_mem_set hy with h' | h'
          · obtain ⟨i, hi, rfl⟩ := List.getElem_of_mem h'
            have := hsm.2 i hi
            rw [nthL_lt hi] at this
            omega
          · have := hsm.2 _ (plc_lt (n := z.length) (by omega) x).1
            rw [h', insL_len]
            unfold bkt
            unfold plc at this
            omega
        have h4 := tot_b h2
        have h5 := setN_len z (x % (z.length : Int)).toNat (insL (bkt z x) x)
        exact ⟨by omega, fun ys hy => by have := h2 ys hy; omega, by rw [h5] at h4; omega⟩
  · exact ⟨b1, b2, bt⟩
end Go.Proofs.Ytkoloapgeilbdaa
