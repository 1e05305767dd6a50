/-
 Sets: what a law's run keeps of its memory; the laws of SetList and SetSame.
-/
import Derived.Test.YtfbeplbcaanimaaGreatGC
set_option linter.unusedVariables false
set_option linter.unusedSimpArgs false
set_option maxHeartbeats 4000000
namespace Go.Proofs.YtfbeplbcaanimaaGreat
variable {X : FuncId → List V → List Blk → Option Ret} {L : Nat}
def Ext (m M : List Blk) : Prop := ∃ l, M = m ++ l
section
variable {m M M' : List Blk}
theorem Ext.refl (m : List Blk) : Ext m m := ⟨[], by simp⟩
theorem Ext.trans (h : Ext m M) (k : Ext M M') : Ext m M' := by
 obtain ⟨l, rfl⟩ := h
 obtain ⟨l', rfl⟩ := k
 exact ⟨l ++ l', by simp⟩
theorem Ext.len (h : Ext m M) : m.length ≤ M.length := by obtain ⟨l, rfl⟩ := h; simp
theorem Ext.get (h : Ext m M) {q : Nat} (hq : q < m.length) : M[q]? = m[q]? := by obtain ⟨l, rfl⟩ := h; exact List.getElem?_append_left hq
theorem Ext.of (h : m.length ≤ M.length) (hg : ∀ q, q < m.length → M[q]? = m[q]?) : Ext m M := by
 refine ⟨M.drop m.length, ?_⟩
 have : M.take m.length = m := by
  apply List.ext_getElem?
  intro q
  by_cases hq : q < m.length
  ·rw [List.getElem?_take_of_lt hq, hg q hq]
  ·rw [List.getElem?_take_eq_none (by omega), List.getElem?_eq_none (by omega)]
 conv => lhs; rw [← List.take_append_drop m.length M, this]
theorem Ext.fin (h : Ext m M) (a : Nat) : List.take m.length (List.take (mx m.length a) M) = m := by
 obtain ⟨l, rfl⟩ := h
 exact take_end
theorem Ext.fin0 (h : Ext m M) : List.take m.length M = m := by
 obtain ⟨l, rfl⟩ := h
 exact List.take_left
theorem Ext.ss {v : C} {xss : List (List Int)} (h : Ext m M) (hs : SS m v xss) : SS M v xss := by
 obtain ⟨l, rfl⟩ := h
 exact hs.grow
theorem Ext.so {lo hi : Nat} {v : C} {xss : List (List Int)} (h : Ext m M) (hh : hi ≤ m.length) (hs : SO m lo hi v xss) : SO M lo hi v xss := by
 obtain ⟨l, rfl⟩ := h
 exact hs.grow hh
end
theorem outL_ob (m : List Blk) (l : List Int) : ∃ c M bj, outL m l = ⟨.c c, M, 0, 0⟩ ∧ Ext m M ∧ OB M m.length M.length M.length bj c l := by
 unfold outL
 by_cases h : l = []
 ·rw [if_pos h]
  exact ⟨_, _, 0, rfl, Ext.refl m, .inl ⟨rfl, h⟩⟩
 ·rw [if_neg h]
  refine ⟨_, _, m.length, rfl, ⟨_, rfl⟩, .inr ⟨ints l, by rw [ints_len], Nat.le_refl _, by simp, by simp, by simp [blkI], by rw [ints_len]; exact Nat.le_refl _, fun i hi => ints_get' hi⟩⟩
theorem sz_tot {xss : List (List Int)} {left : Int} (h0 : 0 ≤ left) (h : 0 ≤ szSS xss left) : (xss.length : Int) + tot xss ≤ left := by
 have key : ∀ {xss : List (List Int)} {left : Int}, 0 ≤ left → 0 ≤ szL xss left → (tot xss : Int) ≤ left := by
  intro xss
  induction xss with
  | nil => intro left h0 _; simpa [tot] using h0
  | cons xs r ih =>
   intro left h0 h
   unfold szL at h
   split at h
   ·omega
   ·have := ih (left := left - xs.length) (by omega) h
    simp only [tot]; omega
 unfold szSS at h
 split at h
 ·omega
 ·have := key (xss := xss) (left := left - xss.length) (by omega) h
  omega
end Go.Proofs.YtfbeplbcaanimaaGreat
set_option linter.unusedVariables false
set_option linter.unusedSimpArgs false
set_option maxHeartbeats 4000000
namespace Go.Proofs.YtfbeplbcaanimaaGreat
variable {X : FuncId → List V → List Blk → Option Ret} {L : Nat}
theorem listed_ob (hL : 2000000 ≤ L) (k : Nat) (m : List Blk) (v : C) (xss : List (List Int)) (hv : SSA m v xss) (hb : xss.length ≤ 1048576) (hbs : ∀ xs ∈ xss, xs.length ≤ 1048576) (ht : tot xss ≤ 1073741824) :
  ∃ c M bj, den T libX L (k + 3) 120 [.c v] m = some ⟨.c c, M, 0, 0⟩ ∧ Ext m M ∧ OB M m.length M.length M.length bj c (srt xss.flatten) := by
 obtain ⟨c, M, bj, h1, h2, h3⟩ := outL_ob m (srt xss.flatten)
 exact ⟨c, M, bj, by rw [den_listed hL k m v xss hv hb hbs ht, h1], h2, h3⟩
theorem Ext.ssa {m M : List Blk} {v : C} {xss : List (List Int)} (h : Ext m M) (hs : SSA m v xss) : SSA M v xss := by
 obtain ⟨l, rfl⟩ := h
 exact hs.grow
end Go.Proofs.YtfbeplbcaanimaaGreat
set_option linter.unusedVariables false
set_option linter.unusedSimpArgs false
set_option maxHeartbeats 4000000
namespace Go.Proofs.YtfbeplbcaanimaaGreat
variable {X : FuncId → List V → List Blk → Option Ret} {L : Nat}
theorem den_dropTest (k : Nat) (m : List Blk) (b : Nat) (y x : Int) (hb : live m b 1 = some ⟨[ci x], 3, 0, true⟩) : den T X L (k + 1) 123 [vi y, .c (.ptr b 0 1)] m = some ⟨vb (decide (y = x)), m, 0, 0⟩ := by
 rw [den_eq T_123]
 simp (maxSteps := 1000000) -implicitDefEqProofs (disch := omega) [-getElem?_pos, c_impl_SetDrop_1, hb]
def keep (xs : List Int) (x : Int) (n : Nat) : List Int := (xs.take n).filter fun y => !decide (y = x)
theorem den_IndexFunc1 (k : Nat) (m : List Blk) (v : C) (xs : List Int) (bx : Nat) (x : Int) (hbx : live m bx 1 = some ⟨[ci x], 3, 0, true⟩) (hv : Sl m v xs) (hL : xs.length < L) (hb : xs.length ≤ 1048576) :
  ∃ r : Int, den T X L (k + 2) 133 [.c v, .c (.clp 123 bx 0 1)] m = some ⟨vi r, m, 0, 0⟩ ∧
   ((r = -1 ∧ ∀ j, j < xs.length → nth xs j ≠ x) ∨ ∃ i : Nat, r = i ∧ i < xs.length ∧ nth xs i = x ∧ ∀ j, j < i → nth xs j ≠ x) := by
 rw [den_eq T_133]
 have ht := fun y => den_dropTest (X := X) (L := L) k m bx y x hbx
 have hlp := iter_find' (f := fun s => exec (den T X L (k + 1)) L m.length none c_slices_IndexFunc_int_int_b0 s) (tr := trim m.length (some [0, 1, 7, 8]))
  (fun i => ⟨[(0, .c v), (1, .c (.clp 123 bx 0 1)), (7, vi xs.length), (8, vi i)], m, 0, 0⟩) xs.length (fun i => nth xs i ≠ x)
  (fun i => (.ret, ⟨[(4, vi i)], m, 0, 0⟩)) (by simp) ?s1 ?s2 ⟨0, _, by simp (maxSteps := 1000000) -implicitDefEqProofs (disch := omega) [-getElem?_pos, c_slices_IndexFunc_int_int_b0]; rfl⟩
 case s1 =>
  intro i hi hk
  have hi' : (i : Int) < (xs.length : Int) := by omega
  have hx := hv.ixV (i := (i : Int)) (by omega)
  rw [Int.toNat_natCast] at hx
  have hd := hv.ldV (i := i) (by omega)
  have hk' : ¬ nth xs i = x := hk
  refine ⟨_, by simp (maxSteps := 1000000) -implicitDefEqProofs (disch := omega) [-getElem?_pos, c_slices_IndexFunc_int_int_b0, hi', hx, hd, ht, hk']; rfl, ?_⟩
  simp (maxSteps := 1000000) -implicitDefEqProofs (disch := omega) [-getElem?_pos, take_mx]
 case s2 =>
  intro i hi hk
  have hi' : (i : Int) < (xs.length : Int) := by omega
  have hx := hv.ixV (i := (i : Int)) (by omega)
  rw [Int.toNat_natCast] at hx
  have hd := hv.ldV (i := i) (by omega)
  have hk' : nth xs i = x := Classical.not_not.1 hk
  simp (maxSteps := 1000000) -implicitDefEqProofs (disch := omega) [-getElem?_pos, c_slices_IndexFunc_int_int_b0, hi', hx, hd, ht, hk', take_mx]
 simp (maxSteps := 1000000) -implicitDefEqProofs (disch := omega) [-getElem?_pos, c_slices_IndexFunc_int_int, hv.lenV]
 generalize hq : iter _ _ _ _ = q
 rcases hlp L 0 _ q hq (by simp (maxSteps := 1000000) -implicitDefEqProofs (disch := omega) [-getElem?_pos, take_mx]) (Nat.zero_le _) (by omega) with ⟨h1, rfl⟩ | ⟨j, h1, h2, h3, h4, rfl⟩
 ·exact ⟨-1, by simp (maxSteps := 1000000) -implicitDefEqProofs (disch := omega) [-getElem?_pos, c_slices_IndexFunc_int_int_b0, take_mx], .inl ⟨rfl, fun j hj => h1 j (Nat.zero_le _) hj⟩⟩
 ·exact ⟨j, by simp (maxSteps := 1000000) -implicitDefEqProofs (disch := omega) [-getElem?_pos, take_mx], .inr ⟨j, rfl, h2, Classical.not_not.1 h3, fun i hi => h4 i (Nat.zero_le _) hi⟩⟩
def shf (xs : List Int) (i j : Nat) (q : Nat) : Int := if i ≤ q ∧ q + 1 < j then nth xs (q + 1) else nth xs q
theorem shf_start (xs : List Int) (i : Nat) (n : Nat) : ar n (shf xs i (i + 1)) = ar n (nth xs) := ar_ext fun q _ => by
 unfold shf
 rw [if_neg (by omega)]
theorem shf_step {xs : List Int} {i j n : Nat} (h : i < j) : ar n (upd (shf xs i j) (j - 1) (nth xs j)) = ar n (shf xs i (j + 1)) := ar_ext fun q _ => by
 unfold upd shf
 by_cases h1 : q = j - 1
 ·subst h1
  rw [if_pos rfl, if_pos (by omega), show j - 1 + 1 = j by omega]
 ·rw [if_neg h1]
  by_cases h2 : i ≤ q ∧ q + 1 < j
  ·rw [if_pos h2, if_pos (by omega)]
  ·rw [if_neg h2, if_neg (by omega)]
theorem ar_nth (xs : List Int) : ar xs.length (nth xs) = ints xs := by rw [ar_of_list]; rfl
def without (xs : List Int) (x : Int) : List Int := xs.filter fun y => !decide (y = x)
theorem without_at {x : Int} : ∀ {xs : List Int} {i : Nat}, i < xs.length → nth xs i = x → (∀ j, j < xs.length → j ≠ i → nth xs j ≠ x) → without xs x = xs.take i ++ xs.drop (i + 1)
 | [], i, h, _, _ => by simp at h
 | y :: r, 0, h, h1, h2 => by
  have hy : y = x := by simpa [nth] using h1
  have hr : r.filter (fun z => !decide (z = x)) = r := List.filter_eq_self.2 fun z hz => by
   obtain ⟨j, hj, rfl⟩ := List.getElem_of_mem hz
   have := h2 (j + 1) (by simp only [List.length_cons]; omega) (by omega)
   have hn : nth (y :: r) (j + 1) = r[j] := by simp [nth, List.getD_eq_getElem?_getD, hj]
   rw [hn] at this
   simpa using this
  simp [without, hy, hr]
 | y :: r, i + 1, h, h1, h2 => by
  simp only [List.length_cons] at h
  have hy : y ≠ x := by
   have := h2 0 (by simp) (by omega)
   simpa [nth] using this
  have ih := without_at (x := x) (xs := r) (i := i) (by omega) (by simpa [nth] using h1) (fun j hj hne => by
   have := h2 (j + 1) (by simp only [List.length_cons]; omega) (by omega)
   simpa [nth] using this)
  unfold without at ih ⊢
  simp [hy, ih]
theorem den_DeleteFunc (hL : 2000000 ≤ L) (k : Nat) (m : List Blk) (b bx : Nat) (xs : List Int) (x : Int) (i : Nat) (hbx : live m bx 1 = some ⟨[ci x], 3, 0, true⟩) (hbb : bx ≠ b) (hm : m[b]? = some (blkI xs)) (hb : xs.length ≤ 1048576) (hi : i < xs.length) (hx : nth xs i = x) (hne : ∀ j, j < xs.length → j ≠ i → nth xs j ≠ x) :
  ∃ cs, den T X L (k + 3) 122 [.c (.sl b 0 xs.length xs.length), .c (.clp 123 bx 0 1)] m = some ⟨.c (.sl b 0 (xs.length - 1) xs.length), m.set b ⟨cs, 3, 1, true⟩, 0, m.length - b⟩ ∧
   cs.length = xs.length ∧ (without xs x).length = xs.length - 1 ∧ ∀ j, j < xs.length - 1 → cs[j]? = some (ci (nth (without xs x) j)) := by
 rw [den_eq T_122]
 have hlt := lt_of_get hm
 have hsl : Sl m (.sl b 0 xs.length xs.length) xs := live_ints hm
 obtain ⟨r, d1, hr⟩ := den_IndexFunc1 (X := X) (L := L) k m _ xs bx x hbx hsl (by omega) hb
 have hri : r = i := by
  rcases hr with ⟨_, h⟩ | ⟨i', h1, h2, h3, h4⟩
  ·exact absurd hx (h i hi)
  ·by_cases e : i' = i
   ·rw [h1, e]
   ·exact absurd h3 (hne i' h2 e)
 subst hri
 have hW : ¬ m.length - b = 0 := by omega
 have hwo := without_at hi hx hne
 have hwl : (without xs x).length = xs.length - 1 := by rw [hwo, List.length_append, List.length_take, List.length_drop]; omega
 have hlp := iter_blk (n0 := m.length) (id := 0) (ka := some [0, 5]) (f := fun s => exec (den T X L (k + 2)) L m.length none c_slices_DeleteFunc_int_int_b0 s) (tr := trim m.length (some [0, 1, 5, 6])) (σ := Nat)
  (fun j => ⟨[(0, .c (.sl b 0 xs.length xs.length)), (1, .c (.clp 123 bx 0 1)), (5, vi ((j : Int) - 1)), (6, vi j)], m.set b ⟨ar xs.length (shf xs i j), 3, 1, true⟩, 0, if j = i + 1 then 0 else m.length - b⟩) (fun j => i + 1 ≤ j ∧ j ≤ xs.length) (fun j => xs.length - j)
  (fun j => (.norm, ⟨[(0, .c (.sl b 0 xs.length xs.length)), (5, vi ((xs.length : Int) - 1))], m.set b ⟨ar xs.length (shf xs i xs.length), 3, 1, true⟩, 0, if xs.length = i + 1 then 0 else m.length - b⟩)) ?w
 case w =>
  rintro j ⟨h1, h2⟩
  have hlv : live (m.set b ⟨ar xs.length (shf xs i j), 3, 1, true⟩) b xs.length = some ⟨ar xs.length (shf xs i j), 3, 1, true⟩ := by rw [live_set _ _ _ _ hlt]; simp [ar_len]
  by_cases he : j = xs.length
  ·subst he
   refine ⟨.exit 0, _, by simp (maxSteps := 1000000) -implicitDefEqProofs (disch := omega) [-getElem?_pos, c_slices_DeleteFunc_int_int_b0, hlv]; rfl, ?_⟩
   simp (maxSteps := 1000000) -implicitDefEqProofs (disch := omega) [-getElem?_pos, c_blkx, take_set']
  ·have hj' : (j : Int) < (xs.length : Int) := by omega
   have hne' := hne j (by omega) (by omega)
   have hsj : shf xs i j j = nth xs j := by unfold shf; rw [if_neg (by omega)]
   have hj1 : ((j : Int) - 1).toNat = j - 1 := by omega
   have hst := shf_step (xs := xs) (n := xs.length) (show i < j by omega)
   have ht' : ∀ z, den T X L (k + 2) 123 [vi (nth xs j), .c (.ptr bx 0 1)] (m.set b z) = some ⟨vb false, m.set b z, 0, 0⟩ := fun z => by
    rw [den_dropTest (k + 1) (m.set b z) bx (nth xs j) x (by unfold live at hbx ⊢; rw [List.getElem?_set_ne (Ne.symm hbb)]; exact hbx), decide_eq_false hne']
   refine ⟨.norm, _, by simp (maxSteps := 1000000) -implicitDefEqProofs (disch := omega) [-getElem?_pos, c_slices_DeleteFunc_int_int_b0, hlv, hj', hsj, ht', hj1, hst, List.set_set, List.length_set]; rfl, j + 1, ?_, ⟨by omega, by omega⟩, by omega, rfl⟩
   simp (maxSteps := 1000000) -implicitDefEqProofs (disch := omega) [-getElem?_pos, take_set']
   rw [if_neg (show ¬ j = i by omega)]
   split
   ·exact mx_zero_l _
   ·exact mx_r (Nat.le_refl _)
 have h0 : m.set b ⟨ar xs.length (shf xs i (i + 1)), 3, 1, true⟩ = m := by
  rw [shf_start, ar_nth]
  apply List.ext_getElem?
  intro j
  by_cases hj : b = j
  ·subst hj; rw [List.getElem?_set_self hlt, hm]
  ·rw [List.getElem?_set_ne hj]
 have hlv2 : live (m.set b ⟨ar xs.length (shf xs i xs.length), 3, 1, true⟩) b xs.length = some ⟨ar xs.length (shf xs i xs.length), 3, 1, true⟩ := by rw [live_set _ _ _ _ hlt]; simp [ar_len]
 have hn1 : ((xs.length : Int) - 1).toNat = xs.length - 1 := by omega
 have hi1 : ¬ (i : Int) = -1 := by omega
 have hp1 : (0 : Int) ≤ (xs.length : Int) - 1 := by omega
 have hd1 : ((xs.length : Int) - ((xs.length : Int) - 1)).toNat = 1 := by omega
 have hs1 : xs.length - 1 + 1 ≤ xs.length := by omega
 have hmx : mx (if xs.length = i + 1 then 0 else m.length - b) (m.length - b) = m.length - b := by
  split
  ·exact mx_zero_l _
  ·exact mx_r (Nat.le_refl _)
 refine ⟨ar xs.length (upd (shf xs i xs.length) (xs.length - 1) 0), ?_, by rw [ar_len], hwl, fun j hj => ?_⟩
 ·simp (maxSteps := 1000000) -implicitDefEqProofs (disch := omega) [-getElem?_pos, c_slices_DeleteFunc_int_int, d1, hi1]
  rw [hlp L (i + 1) _ ⟨Nat.le_refl _, by omega⟩ ?tr (by show xs.length - (i + 1) < L; omega)]
  case tr =>
   simp (maxSteps := 1000000) -implicitDefEqProofs (disch := omega) [-getElem?_pos, h0, take_mx]
  simp (maxSteps := 1000000) -implicitDefEqProofs (disch := omega) [-getElem?_pos, hlv2, hn1, hp1, hd1, hs1, List.set_set, take_set', List.length_set, hW, hmx]
 ·rw [ar_get' (by omega), upd_ne _ _ (by omega)]
  congr 2
  unfold shf
  rw [hwo]
  by_cases hji : j < i
  ·rw [if_neg (by omega)]
   simp [nth, List.getD_eq_getElem?_getD, List.getElem?_append, List.getElem?_take, hji, show j < xs.length by omega, show i ≤ xs.length by omega, Nat.min_eq_left (show i ≤ xs.length by omega)]
  ·rw [if_pos (by omega)]
   simp [nth, List.getD_eq_getElem?_getD, List.getElem?_append, Nat.min_eq_left (show i ≤ xs.length by omega), hji]
   rw [show i + 1 + (j - i) = j + 1 by omega]
end Go.Proofs.YtfbeplbcaanimaaGreat
set_option linter.unusedVariables false
set_option linter.unusedSimpArgs false
set_option maxHeartbeats 4000000
namespace Go.Proofs.YtfbeplbcaanimaaGreat
variable {X : FuncId → List V → List Blk → Option Ret} {L : Nat}
theorem lay_one {cs : List C} {p j : Nat} {c : C} (hp : p < cs.length) : (lay cs p [c])[j]? = if j = p then some c else cs[j]? := by
 unfold lay
 rw [List.append_assoc, List.getElem?_append, List.length_take, Nat.min_eq_left (by omega)]
 by_cases h : j < p
 ·rw [if_pos h, if_neg (by omega), List.getElem?_take_of_lt h]
 ·rw [if_neg h]
  by_cases e : j = p
  ·subst e; simp
  ·rw [if_neg e, List.getElem?_append_right (by simp; omega), List.getElem?_drop]
   simp only [List.length_cons, List.length_nil]
   congr 1
   omega
theorem lay_lenP {cs : List C} {p : Nat} {c : C} (hp : p < cs.length) : (lay cs p [c]).length = cs.length := by
 unfold lay
 simp
 omega
def setN (xss : List (List Int)) (p : Nat) (xs : List Int) : List (List Int) := xss.set p xs
theorem setN_len (xss : List (List Int)) (p : Nat) (xs : List Int) : (setN xss p xs).length = xss.length := by simp [setN]
theorem setN_nth {xss : List (List Int)} {p j : Nat} {xs : List Int} (hp : p < xss.length) : nthL (setN xss p xs) j = if j = p then xs else nthL xss j := by
 unfold nthL setN
 by_cases e : j = p
 ·subst e; simp [List.getD_eq_getElem?_getD, hp]
 ·rw [if_neg e]
  simp only [List.getD_eq_getElem?_getD]
  rw [List.getElem?_set_ne (Ne.symm e)]
structure Laid (M : List Blk) (q : Nat) (xss : List (List Int)) : Prop where
 hdr : M[q]? = some ⟨hd (q + 1) xss, 103, 1, true⟩
 bks : ∀ j, j < xss.length → M[q + 1 + j]? = some (blkI (nthL xss j))
theorem fresh_laid (m : List Blk) (xss : List (List Int)) : Laid (freshM m xss) m.length xss := by
 refine ⟨by unfold freshM; rw [get_app0]; rfl, fun j hj => ?_⟩
 unfold freshM
 rw [show m.length + 1 + j = m.length + (j + 1) by omega, get_app]
 simp [nthL, List.getD_eq_getElem?_getD, hj, blkI]
theorem Laid.put {M M' : List Blk} {q lo p : Nat} {xss : List (List Int)} {c : C} {bj : Nat} {xs : List Int} (h : Laid M q xss) (hp : p < xss.length) (hlo : lo ≤ q) (hl : q + 1 + xss.length ≤ M'.length)
  (h1 : M'[q]? = some ⟨lay (hd (q + 1) xss) p [c], 103, 1, true⟩) (h2 : ∀ j, j < xss.length → j ≠ p → M'[q + 1 + j]? = M[q + 1 + j]?) (h3 : OB M' lo M'.length q bj c xs) (h4 : ∀ j, j < xss.length → j ≠ p → bj ≠ q + 1 + j) :
  SO M' lo M'.length (.sl q 0 xss.length xss.length) (setN xss p xs) := by
 have hl1 := hd_len (q + 1) xss
 refine ⟨q, lay (hd (q + 1) xss) p [c], fun j => if j = p then bj else q + 1 + j, hlo, by omega, by rw [setN_len], h1, by rw [lay_lenP (by omega), hl1, setN_len], fun i j hi hj hij => ?_, fun j hj => ?_⟩
 ·rw [setN_len] at hi hj
  by_cases e1 : i = p
  ·by_cases e2 : j = p
   ·omega
   ·simp only [e1, if_true, if_neg e2] at hij
    exact absurd hij (h4 j hj e2)
  ·by_cases e2 : j = p
   ·simp only [e2, if_true, if_neg e1] at hij
    exact absurd hij.symm (h4 i hi e1)
   ·simp only [if_neg e1, if_neg e2] at hij
    omega
 ·rw [setN_len] at hj
  rw [setN_nth hp, lay_one (by omega)]
  by_cases e : j = p
  ·simp only [e, if_true]
   exact ⟨c, rfl, h3⟩
  ·simp only [if_neg e]
   exact ⟨_, hd_get hj, .inr ⟨ints (nthL xss j), by rw [ints_len], by omega, by omega, by omega, (h2 j hj e).trans (h.bks j hj), by rw [ints_len]; exact Nat.le_refl _, fun i hi => ints_get' hi⟩⟩
def setDrop (xss : List (List Int)) (x : Int) : List (List Int) × Int :=
 if setOk xss = true ∧ isVal x = true then (if setHas xss x = true then (setN xss (x % (xss.length : Int)).toNat (without (bkt xss x) x), 0) else (xss, 4)) else (xss, 1)
theorem bk_once {n b : Int} {xs : List Int} (h : bkOk n b xs = true) : ∀ i j, i < xs.length → j < xs.length → nth xs i = nth xs j → i = j := by
 simp only [bkOk, Bool.and_eq_true, decide_eq_true_eq] at h
 have step : ∀ i, i + 1 < xs.length → nth xs i < nth xs (i + 1) := fun i hi => by
  have := h.2 (i + 1) hi
  simp only [elOk, Bool.and_eq_true, decide_eq_true_eq, Nat.add_sub_cancel] at this
  exact this.2 (Nat.succ_pos i)
 have mono : ∀ d i, i + d + 1 < xs.length → nth xs i < nth xs (i + d + 1) := by
  intro d
  induction d with
  | zero => intro i hi; exact step i hi
  | succ d ih =>
   intro i hi
   have h1 := ih i (by omega)
   have h2 := step (i + d + 1) (by omega)
   rw [show i + (d + 1) + 1 = i + d + 1 + 1 by omega]
   omega
 intro i j hi hj he
 rcases Nat.lt_trichotomy i j with hlt | rfl | hlt
 ·have := mono (j - i - 1) i (by omega)
  rw [show i + (j - i - 1) + 1 = j by omega] at this
  omega
 ·rfl
 ·have := mono (i - j - 1) j (by omega)
  rw [show j + (i - j - 1) + 1 = i by omega] at this
  omega
theorem place_lt {xss : List (List Int)} (ho : setOk xss = true) (x : Int) : ∃ p : Nat, x % (xss.length : Int) = p ∧ p < xss.length := by
 have hn := setOk_len ho
 have h1 := Int.emod_nonneg x (show (xss.length : Int) ≠ 0 by omega)
 have h2 := Int.emod_lt_of_pos x (show 0 < (xss.length : Int) by omega)
 exact ⟨(x % (xss.length : Int)).toNat, by omega, by omega⟩
theorem bkt_ok {xss : List (List Int)} (ho : setOk xss = true) {p : Nat} (hp : p < xss.length) : bkOk xss.length p (nthL xss p) = true := by
 simp only [setOk, Bool.and_eq_true, decide_eq_true_eq] at ho
 exact ho.2 p hp
theorem refsL_get {cs : List C} {c : C} {j : Nat} (h : cs[j]? = some c) : c.refs ≤ refsL cs := refsL_le.1 (Nat.le_refl _) c (List.mem_of_getElem? h)
theorem fin_set {m M : List Blk} {hi q n e : Nat} {env : List (Nat × V)} {code : Int} {xss : List (List Int)} (hE : Ext m M) (h : SO M m.length hi (.sl q 0 n n) xss) (hm : hi ≤ M.length) (ha : hi ≤ mx e (q + 1)) :
  ∃ M' c e', fin m.length (.tup [.c (.sl q 0 n n), .c (.int .i64 code)]) ⟨env, M, e, 0⟩ = ⟨.tup [.c c, .c (.int .i64 code)], M', e', 0⟩ ∧ Ext m M' ∧ SO M' m.length M'.length c xss ∧ M'.length ≤ mx e' c.refs := by
 obtain ⟨b, hs, bi, h1, h2, h3, h4, h5, h6, h7⟩ := h
 injection h3 with h3 _ h3' _
 subst h3
 subst h3'
 have hq : ¬ q + 1 ≤ m.length := by omega
 have hown : ¬ q < m.length := by omega
 by_cases hr : refsL hs = 0
 ·refine ⟨m ++ [⟨hs, 103, 1, true⟩], .sl m.length 0 xss.length xss.length, 0, ?_, ⟨_, rfl⟩, ⟨m.length, hs, fun j => m.length + 1 + j, Nat.le_refl _, by simp, rfl, by simp, h5, fun i j _ _ hij => by simp only at hij; omega, fun j hj => ?_⟩, by simp [C.refs, mx_eq]⟩
  ·simp [fin, V.refs, V.refsAll, C.refs, hq, V.own, C.own, hown, nub, pickB, h4, hr, V.ren, C.ren, pos, hE.fin0]
  ·obtain ⟨c, k1, k2⟩ := h7 j hj
   refine ⟨c, k1, ?_⟩
   rcases k2 with k2 | ⟨cs, k2, _⟩
   ·exact .inl k2
   ·have := refsL_get k1
    rw [k2] at this
    simp only [C.refs] at this
    omega
 ·refine ⟨M.take (mx m.length (mx e (q + 1))), .sl q 0 xss.length xss.length, e, ?_, ?_, ?_, by rw [List.length_take]; simp only [C.refs, mx_eq]; omega⟩
  ·simp [fin, V.refs, V.refsAll, C.refs, hq, V.own, C.own, hown, nub, pickB, h4, hr]
  ·have hl := hE.len
   have := le_mx_l m.length (mx e (q + 1))
   exact Ext.of (by rw [List.length_take]; omega) fun j hj => by rw [List.getElem?_take_of_lt (by omega), hE.get hj]
  ·have ha' : hi ≤ mx m.length (mx e (q + 1)) := Nat.le_trans ha (le_mx_r _ _)
   have : SO M m.length hi (.sl q 0 xss.length xss.length) xss := ⟨q, hs, bi, h1, h2, rfl, h4, h5, h6, h7⟩
   exact (this.congr (m' := M.take (mx m.length (mx e (q + 1)))) fun j _ hj => List.getElem?_take_of_lt (by omega)).wide (Nat.le_refl _) (by rw [List.length_take]; omega)
theorem fin_sety {m M : List Blk} {hi q n e : Nat} {env : List (Nat × V)} {code : Int} {xss : List (List Int)} (hE : Ext m M) (h : SO M m.length hi (.sl q 0 n n) xss) (hm : hi ≤ M.length) (ha : hi ≤ mx e (q + 1)) :
  ∃ M' c e', fin m.length (.tup [.c (.sl q 0 n n), .c (.int .i64 code)]) ⟨env, M, e, 0⟩ = ⟨.tup [.c c, vi code], M', e', 0⟩ ∧ Ext m M' ∧ SO M' m.length M'.length c xss ∧ M'.length ≤ mx e' c.refs := fin_set hE h hm ha
theorem impl_SetDrop (hL : 2000000 ≤ L) (k : Nat) (m : List Blk) (v : C) (xss : List (List Int)) (x : Int) (hv : SSA m v xss) (b1 : xss.length ≤ 1048576) (b2 : ∀ xs ∈ xss, xs.length ≤ 1048576) :
  ∃ M c e, den T X L (k + 4) 91 [.c v, vi x] m = some ⟨.tup [.c c, vi (setDrop xss x).2], M, e, 0⟩ ∧ Ext m M ∧ SO M m.length M.length c (setDrop xss x).1 ∧ M.length ≤ mx e c.refs := by
 rw [den_eq T_91]
 have hv1 : SSA (m ++ [⟨[ci x], 3, 0, true⟩]) v xss := hv.grow
 have d1 := den_ownSet (X := X) (L := L) hL (k + 1) _ v xss hv1 b1 b2
 have hso := fresh_SO (m ++ [⟨[ci x], 3, 0, true⟩]) xss
 have hlaid := fresh_laid (m ++ [⟨[ci x], 3, 0, true⟩]) xss
 have hml := freshM_len (m ++ [⟨[ci x], 3, 0, true⟩]) xss
 have hext : Ext (m ++ [⟨[ci x], 3, 0, true⟩]) (freshM (m ++ [⟨[ci x], 3, 0, true⟩]) xss) := ⟨_, rfl⟩
 unfold freshR at d1
 obtain ⟨q, hq⟩ : ∃ q, q = (m ++ [(⟨[ci x], 3, 0, true⟩ : Blk)]).length := ⟨_, rfl⟩
 have hq' : q = m.length + 1 := by rw [hq]; simp
 rw [← hq] at d1 hso hlaid hml
 have hx1 := hext.ssa hv1
 have hbox : live (freshM (m ++ [⟨[ci x], 3, 0, true⟩]) xss) m.length 1 = some ⟨[ci x], 3, 0, true⟩ := by
  unfold live
  rw [hext.get (by simp)]
  simp
 have hext0 : Ext m (freshM (m ++ [⟨[ci x], 3, 0, true⟩]) xss) := Ext.trans ⟨_, rfl⟩ hext
 generalize freshM (m ++ [⟨[ci x], 3, 0, true⟩]) xss = M at d1 hso hlaid hml hx1 hbox hext hext0
 have o1 := den_impl_SetOk (X := X) (L := L) hL k M v xss hx1.ss b1 b2
 have o2 := den_isValue (X := X) (L := L) (k + 1) M x
 have hle : M.length ≤ mx (if xss = [] then 0 else q + 1 + xss.length) (q + 1) := by
  rw [mx_eq, hml]
  split
  ·rename_i h; subst h; simp
  ·omega
 have htk : List.take (mx (if xss = [] then 0 else q + 1 + xss.length) (q + 1)) M = M := List.take_of_length_le hle
 have hso0 := hso.wide (lo' := m.length) (hi' := M.length) (by omega) (Nat.le_refl _)
 unfold setDrop
 cases h1 : setOk xss with
 | false =>
  rw [h1] at o1
  simp (maxSteps := 1000000) -implicitDefEqProofs (disch := omega) [-getElem?_pos, -fin, c_impl_SetDrop, d1, o1, htk]
  exact fin_sety hext0 hso0 (Nat.le_refl _) hle
 | true =>
  rw [h1] at o1
  cases h2 : isVal x with
  | false =>
   rw [h2] at o2
   simp (maxSteps := 1000000) -implicitDefEqProofs (disch := omega) [-getElem?_pos, -fin, c_impl_SetDrop, d1, o1, o2, hbox, htk]
   exact fin_sety hext0 hso0 (Nat.le_refl _) hle
  | true =>
   rw [h2] at o2
   have o3 := den_impl_setHas (X := X) (L := L) hL k M v xss x hx1.ss b2 h1
   cases h3 : setHas xss x with
   | false =>
    rw [h3] at o3
    simp (maxSteps := 1000000) -implicitDefEqProofs (disch := omega) [-getElem?_pos, -fin, c_impl_SetDrop, d1, o1, o2, o3, hbox, htk]
    exact fin_sety hext0 hso0 (Nat.le_refl _) hle
   | true =>
    rw [h3] at o3
    have hn := setOk_len h1
    obtain ⟨p, hp1, hp⟩ := place_lt h1 x
    have o4 := den_placeOf (X := X) (L := L) (k + 2) M x xss.length (by omega)
    rw [hp1] at o4
    have hne : xss ≠ [] := fun e => by subst e; simp at hn
    unfold setHas bkt at h3
    unfold bkt
    rw [hp1, Int.toNat_natCast] at h3 ⊢
    have hbl := bk_len h1 _ (nthL_mem (i := p) hp)
    obtain ⟨i, hi, hix⟩ := contains_nth.1 h3
    obtain ⟨cs, d2, c1, c2, c3⟩ := den_DeleteFunc (X := X) (L := L) hL k M (q + 1 + p) m.length (nthL xss p) x i hbox (by omega) (hlaid.bks p hp) (by omega) hi hix fun j hj hji e => hji (bk_once (bkt_ok h1 hp) j i hj hi (e.trans hix.symm))
    have hh := hd_len (q + 1) xss
    have hg := hd_get (b := q + 1) hp
    have hlq : live M q xss.length = some ⟨hd (q + 1) xss, 103, 1, true⟩ := by
     unfold live; rw [hlaid.hdr]; simp [hh]
    have hpi : (p : Int) < (xss.length : Int) := by omega
    have hlb : live (M.set (q + 1 + p) ⟨cs, 3, 1, true⟩) q xss.length = some ⟨hd (q + 1) xss, 103, 1, true⟩ := by
     unfold live; rw [List.getElem?_set_ne (by omega), hlaid.hdr]; simp [hh]
    have hbx2 : live (M.set (q + 1 + p) ⟨cs, 3, 1, true⟩) m.length 1 = some ⟨[ci x], 3, 0, true⟩ := by
     unfold live at hbox ⊢; rw [List.getElem?_set_ne (by omega)]; exact hbox
    have z : M.length - (q + 1 + p) - (M.length - m.length) = 0 := by omega
    have hsx := hlaid.put (M' := (M.set (q + 1 + p) ⟨cs, 3, 1, true⟩).set q ⟨lay (hd (q + 1) xss) p [.sl (q + 1 + p) 0 ((nthL xss p).length - 1) (nthL xss p).length], 103, 1, true⟩) (c := .sl (q + 1 + p) 0 ((nthL xss p).length - 1) (nthL xss p).length) (lo := m.length) (xs := without (nthL xss p) x) (bj := q + 1 + p) hp (by omega) (by simp; omega) ?h1 ?h2 ?h3 ?h4
    case h1 => rw [List.getElem?_set_self (by simp; omega)]
    case h2 =>
     intro j hj hjp
     rw [List.getElem?_set_ne (by omega), List.getElem?_set_ne (by omega)]
    case h3 =>
     refine .inr ⟨cs, by rw [c2, c1], by omega, by simp; omega, by omega, ?_, by rw [c1, c2]; omega, fun j hj => c3 j (by omega)⟩
     rw [List.getElem?_set_ne (by omega), List.getElem?_set_self (by omega)]
    case h4 =>
     intro j hj hjp
     omega
    have hx2 : Ext m ((M.set (q + 1 + p) ⟨cs, 3, 1, true⟩).set q ⟨lay (hd (q + 1) xss) p [.sl (q + 1 + p) 0 ((nthL xss p).length - 1) (nthL xss p).length], 103, 1, true⟩) := Ext.of (by simp; omega) fun j hj => by
     rw [List.getElem?_set_ne (by omega), List.getElem?_set_ne (by omega)]
     exact hext0.get hj
    have htk3 : List.take (q + 1 + xss.length) ((M.set (q + 1 + p) ⟨cs, 3, 1, true⟩).set q ⟨lay (hd (q + 1) xss) p [.sl (q + 1 + p) 0 ((nthL xss p).length - 1) (nthL xss p).length], 103, 1, true⟩) = (M.set (q + 1 + p) ⟨cs, 3, 1, true⟩).set q ⟨lay (hd (q + 1) xss) p [.sl (q + 1 + p) 0 ((nthL xss p).length - 1) (nthL xss p).length], 103, 1, true⟩ := List.take_of_length_le (by simp; omega)
    simp (maxSteps := 1000000) -implicitDefEqProofs (disch := omega) [-getElem?_pos, -fin, c_impl_SetDrop, d1, o1, o2, o3, o4, hbox, hbx2, hpi, hlq, hlb, hg, hh, d2, hne, z, hx1.ss.lenV, htk3]
    exact fin_sety hx2 hsx (Nat.le_refl _) (by rw [mx_eq]; simp; omega)
end Go.Proofs.YtfbeplbcaanimaaGreat
