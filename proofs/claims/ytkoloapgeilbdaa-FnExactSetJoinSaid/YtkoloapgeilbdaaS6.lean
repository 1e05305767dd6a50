/-
  Sets: copied by appending; joined to one list, sorted.
-/
import Derived.Test.YtkoloapgeilbdaaM
import Derived.Test.YtkoloapgeilbdaaLib
set_option linter.unusedVariables false
set_option linter.unusedSimpArgs false
set_option maxHeartbeats 4000000
namespace Go.Proofs.Ytkoloapgeilbdaa
variable {X : FuncId → List V → List Blk → Option Ret} {L : Nat}

/-- A slice of numbers whose cells lie in its block. -/
def SlA (m : List Blk) (c : C) (xs : List Int) : Prop :=
  (c = .nils ∧ xs = []) ∨ ∃ b off tot blk, c = .sl b off xs.length tot ∧ live m b tot = some blk ∧ (blk.esz = 0 ∨ blk.esz = 1) ∧ off + xs.length ≤ blk.cs.length ∧ (blk.cs.drop off).take xs.length = ints xs
theorem SlA.sl {m : List Blk} {c : C} {xs : List Int} (h : SlA m c xs) : Sl m c xs := by
  rcases h with h | ⟨b, off, tot, blk, h1, h2, h3, h4, h5⟩
  · exact .inl h
  · refine .inr ⟨b, off, tot, blk, h1, h2, h3, fun j hj => ?_⟩
    have := congrArg (fun l => l[j]?) h5
    simp only [List.getElem?_take, List.getElem?_drop, if_pos hj, ints_get' hj] at this
    exact this
theorem SlA.grow {m l : List Blk} {c : C} {xs : List Int} (h : SlA m c xs) : SlA (m ++ l) c xs := by
  rcases h with h | ⟨b, off, tot, blk, h1, h2, h3⟩
  · exact .inl h
  · exact .inr ⟨b, off, tot, blk, h1, live_grow h2, h3⟩
theorem SlA_blk {m : List Blk} {b : Nat} {xs : List Int} (h : m[b]? = some (blkI xs)) : SlA m (.sl b 0 xs.length xs.length) xs :=
  .inr ⟨b, 0, xs.length, blkI xs, rfl, by simp [live, h, ints_len], .inr rfl, by simp [ints_len], List.take_of_length_le (by simp [ints_len])⟩
theorem OB.sla {m : List Blk} {lo hi b bj : Nat} {c : C} {xs : List Int} (h : OB m lo hi b bj c xs) : SlA m c xs := by
  rcases h with h | ⟨cs, h1, _, _, _, h2, h3, h4⟩
  · exact .inl h
  · refine .inr ⟨bj, 0, cs.length, ⟨cs, 3, 1, true⟩, h1, by simp [live, h2], .inr rfl, by simpa using h3, ?_⟩
    rw [List.drop_zero]
    apply List.ext_getElem?
    intro j
    by_cases hj : j < xs.length
    · rw [List.getElem?_take_of_lt hj, ints_get' hj]; exact h4 j hj
    · rw [List.getElem?_take_eq_none (by omega), List.getElem?_eq_none (by rw [ints_len]; omega)]
def SSA (m : List Blk) (v : C) (xss : List (List Int)) : Prop :=
  (v = .nils ∧ xss = []) ∨ ∃ b off tot blk, v = .sl b off xss.length tot ∧ live m b tot = some blk ∧ (blk.esz = 0 ∨ blk.esz = 1) ∧ ∀ j, j < xss.length → ∃ h, blk.cs[off + j]? = some h ∧ SlA m h (nthL xss j)
section
variable {m l : List Blk} {v : C} {xss : List (List Int)}
theorem SSA.ss (h : SSA m v xss) : SS m v xss := by
  rcases h with h | ⟨b, off, tot, blk, h1, h2, h3, h4⟩
  · exact .inl h
  · exact .inr ⟨b, off, tot, blk, h1, h2, h3, fun j hj => let ⟨c, a, b⟩ := h4 j hj; ⟨c, a, b.sl⟩⟩
theorem SSA.grow (h : SSA m v xss) : SSA (m ++ l) v xss := by
  rcases h with h | ⟨b, off, tot, blk, h1, h2, h3, h4⟩
  · exact .inl h
  · exact .inr ⟨b, off, tot, blk, h1, live_grow h2, h3, fun j hj => let ⟨c, a, b⟩ := h4 j hj; ⟨c, a, b.grow⟩⟩
theorem SSA.ldV (h : SSA m v xss) {i : Nat} (hi : i < xss.length) : ∃ c, ld1V m (.c (ptrOf v i)) = some (.c c) ∧ SlA m c (nthL xss i) := by
  rcases h with ⟨rfl, rfl⟩ | ⟨b, off, tot, blk, rfl, h2, h3, h4⟩
  · simp at hi
  · obtain ⟨c, e1, e2⟩ := h4 i hi
    exact ⟨c, by simp [ld1V, h2, ptrOf, e1], e2⟩
theorem SO.ssa {lo hi : Nat} (h : SO m lo hi v xss) : SSA m v xss := by
  obtain ⟨b, hs, bi, h1, h2, h3, h4, h5, h6, h7⟩ := h
  exact .inr ⟨b, 0, xss.length, ⟨hs, 30, 1, true⟩, h3, by simp [live, h4, h5], .inr rfl, fun j hj => let ⟨c, k1, k2⟩ := h7 j hj; ⟨c, by rw [Nat.zero_add]; exact k1, k2.sla⟩⟩
theorem SSA.refs (h : SSA m v xss) : v.refs ≤ m.length := by
  rcases h with ⟨rfl, _⟩ | ⟨b, off, tot, blk, rfl, h2, _, _⟩
  · exact Nat.zero_le _
  · exact live_lt h2
end
/-- Copied by an append to nothing. -/
theorem den_own (k : Nat) (m : List Blk) (c : C) (xs : List Int) (hv : SlA m c xs) (hb : xs.length ≤ 1048576) :
    den T X L (k + 1) 109 [.c c] m = some ⟨.c (.sl m.length 0 xs.length xs.length), m ++ [blkI xs], 0, 0⟩ := by
  rw [den_eq T_109]
  rcases hv with ⟨rfl, rfl⟩ | ⟨b, off, tot, blk, rfl, h2, h3, h4, h5⟩
  · simp (maxSteps := 1000000) (implicitDefEqProofs := false) (disch := omega) [-getElem?_pos, c_impl_own, ints]
  · have hlv := fun l => live_grow (l := l) h2
    simp (maxSteps := 1000000) (implicitDefEqProofs := false) (disch := omega) [-getElem?_pos, c_impl_own, hlv, h4, h5, ints_len, ints_refs]
theorem den_l1Copy (k : Nat) (m : List Blk) (c : C) (xs : List Int) (hv : SlA m c xs) (hb : xs.length ≤ 1048576) :
    den T X L (k + 1) 108 [.c c] m = some ⟨.c (.sl m.length 0 xs.length xs.length), m ++ [blkI xs], 0, 0⟩ := by
  rw [den_eq T_108]
  rcases hv with ⟨rfl, rfl⟩ | ⟨b, off, tot, blk, rfl, h2, h3, h4, h5⟩
  · simp (maxSteps := 1000000) (implicitDefEqProofs := false) (disch := omega) [-getElem?_pos, c_spec_l1Copy, ints]
  · have hlv := fun l => live_grow (l := l) h2
    simp (maxSteps := 1000000) (implicitDefEqProofs := false) (disch := omega) [-getElem?_pos, c_spec_l1Copy, hlv, h4, h5, ints_len, ints_refs]

/-! A set copied. -/
theorem freshM_len (m : List Blk) (xss : List (List Int)) : (freshM m xss).length = m.length + 1 + xss.length := by simp [freshM]; omega
theorem fin_fresh2 (m : List Blk) (xss : List (List Int)) (env : List (Nat × V)) : fin m.length (.c (.sl m.length 0 xss.length xss.length)) ⟨env, freshM m xss, escN m xss.length, 0⟩ = freshR m xss := by
  rw [← fin_fresh m xss env]
  congr 2
  unfold midM freshM
  rw [hdF_all rfl]
theorem freshM_take {m : List Blk} {xss : List (List Int)} {k r : Nat} (h : xss.length = k) (hr : r ≤ m.length) : List.take (mx m.length (mx (escN m k) (mx (m.length + 1) r))) (freshM m xss) = freshM m xss := by
  subst h
  exact List.take_of_length_le (by rw [freshM_len, mx_eq, mx_eq, mx_eq]; unfold escN; split <;> omega)
theorem freshM_take1 {m : List Blk} {xss : List (List Int)} {k : Nat} (h : xss.length = k) : List.take (mx m.length (mx (escN m k) (m.length + 1))) (freshM m xss) = freshM m xss := by
  subst h
  exact List.take_of_length_le (by rw [freshM_len, mx_eq, mx_eq]; unfold escN; split <;> omega)
/-- One more put behind, what was used for it forgotten. -/
theorem freshM_grow {m l : List Blk} {q r : Nat} {xss : List (List Int)} {xs : List Int} (hq : q = m.length + 1 + xss.length) (hr : r ≤ m.length + 1) :
    List.take (mx m.length (mx (escN m (xss.length + 1)) r)) ((freshM m xss).set m.length ⟨hd (m.length + 1) xss ++ [.sl q 0 xs.length xs.length], 30, 1, true⟩ ++ blkI xs :: l) = freshM m (xss ++ [xs]) := by
  subst hq
  rw [hd_snoc]
  have : (freshM m xss).set m.length ⟨hd (m.length + 1) (xss ++ [xs]), 30, 1, true⟩ ++ blkI xs :: l = freshM m (xss ++ [xs]) ++ l := by simp [freshM]
  rw [this, List.take_append_of_le_length (by rw [freshM_len, mx_eq, mx_eq, List.length_append]; unfold escN; rw [if_neg (Nat.succ_ne_zero _)]; simp; omega)]
  exact List.take_of_length_le (by rw [freshM_len, mx_eq, mx_eq, List.length_append]; unfold escN; rw [if_neg (Nat.succ_ne_zero _)]; simp; omega)
theorem den_ownSet (hL : 2000000 ≤ L) (k : Nat) (m : List Blk) (v : C) (xss : List (List Int)) (hv : SSA m v xss) (hb : xss.length ≤ 1048576) (hbs : ∀ xs ∈ xss, xs.length ≤ 1048576) :
    den T X L (k + 2) 86 [.c v] m = some (freshR m xss) := by
  rw [den_eq T_86]
  have hr := hv.refs
  have hlp := iter_blk (n0 := m.length) (id := 0) (ka := some [3]) (f := fun s => exec (den T X L (k + 1)) L m.length none c_impl_ownSet_b0 s) (tr := trim m.length (some [3, 7, 8, 9])) (σ := Nat)
    (fun i => ⟨[(3, .c (.sl m.length 0 i i)), (7, .c v), (8, vi xss.length), (9, vi i)], freshM m (xss.take i), escN m i, 0⟩) (fun i => i ≤ xss.length) (fun i => xss.length - i)
    (fun i => (.norm, ⟨[(3, .c (.sl m.length 0 xss.length xss.length))], freshM m xss, escN m xss.length, 0⟩)) ?w
  case w =>
    intro i hi
    by_cases he : i = xss.length
    · subst he
      rw [List.take_length]
      refine ⟨.exit 0, _, by simp (maxSteps := 1000000) (implicitDefEqProofs := false) (disch := omega) [-getElem?_pos, c_impl_ownSet_b0]; rfl, ?_⟩
      simp (maxSteps := 1000000) (implicitDefEqProofs := false) (disch := omega) [-getElem?_pos, c_blkx, freshM_take1]
    · have hi' : (i : Int) < (xss.length : Int) := by omega
      have hlt : (xss.take i).length = i := by rw [List.length_take]; omega
      have hml := freshM_len m (xss.take i)
      rw [hlt] at hml
      have hgr := fun q l r hq hr => freshM_grow (m := m) (l := l) (q := q) (r := r) (xss := xss.take i) (xs := nthL xss i) hq hr
      simp only [hlt, take_snoc (show i < xss.length by omega)] at hgr
      have hg : SSA (freshM m (xss.take i)) v xss := hv.grow
      have hlv : live (freshM m (xss.take i)) m.length i = some ⟨hd (m.length + 1) (xss.take i), 30, 1, true⟩ := by
        unfold freshM
        rw [live_app0]
        simp [hd_len, hlt]
      have hhl := hd_len (m.length + 1) (xss.take i)
      rw [hlt] at hhl
      generalize hM : freshM m (xss.take i) = M at hml hgr hg hlv
      generalize hM' : freshM m (xss.take (i + 1)) = M' at hgr
      generalize hd (m.length + 1) (xss.take i) = H at hlv hhl hgr
      have hx := hg.ss.ixV (i := (i : Int)) (by omega)
      rw [Int.toNat_natCast] at hx
      obtain ⟨c, hc1, hc2⟩ := hg.ldV (i := i) (by omega)
      have hxs := hbs _ (nthL_mem (i := i) (by omega))
      have hz := den_own (X := X) (L := L) k M c _ hc2 hxs
      obtain ⟨q, hq⟩ : ∃ q, q = m.length + 1 + i := ⟨_, rfl⟩
      rw [← hq] at hml
      rw [hml] at hz
      have hgq := fun l r hr => hgr q l r hq hr
      have hlv2 := fun l => live_grow (l := l) hlv
      have hmq : m.length < M.length := by omega
      have hset : ∀ x l, (M ++ l).set m.length x = M.set m.length x ++ l := fun x l => List.set_append_left _ _ hmq
      have hget : live (M ++ [blkI (nthL xss i), ⟨[.sl q 0 (nthL xss i).length (nthL xss i).length], 30, 1, true⟩]) (q + 1) 1 = some ⟨[.sl q 0 (nthL xss i).length (nthL xss i).length], 30, 1, true⟩ := by
        unfold live
        rw [← hml, get_app]
        simp
      have he2 : mx (escN m i) (q + 1) = escN m (i + 1) := by
        rw [mx_eq]; unfold escN
        rw [if_neg (Nat.succ_ne_zero i)]
        split <;> omega
      refine ⟨.norm, _, by simp (maxSteps := 1000000) (implicitDefEqProofs := false) (disch := omega) [-getElem?_pos, c_impl_ownSet_b0, hi', hx, hc1, hz, hlv2, hhl, hset, hml, hget]; rfl, i + 1, ?_, by omega, by omega, rfl⟩
      have he3 : mx (escN m (i + 1)) (q + 1) = escN m (i + 1) := by rw [mx_eq]; unfold escN; rw [if_neg (Nat.succ_ne_zero i)]; omega
      simp (maxSteps := 1000000) (implicitDefEqProofs := false) (disch := omega) [-getElem?_pos, he2, he3]
      rw [hM']
      exact hgq _ _ (by show mx (m.length + 1) v.refs ≤ m.length + 1; rw [mx_eq]; omega)
  have h0 : m ++ [⟨[], 30, 1, true⟩] = freshM m [] := by simp [freshM, hd]
  have hlg := fun l => (hv.grow (l := l)).ss.lenV
  simp (maxSteps := 1000000) (implicitDefEqProofs := false) (disch := omega) [-getElem?_pos, c_impl_ownSet, hlg]
  rw [hlp L 0 _ (Nat.zero_le _) ?tr (by show xss.length - 0 < L; omega)]
  case tr =>
    simp (maxSteps := 1000000) (implicitDefEqProofs := false) (disch := omega) [-getElem?_pos, h0]
    exact ⟨List.take_of_length_le (by rw [freshM_len, mx_eq, mx_eq]; simp; omega), rfl⟩
  simp (maxSteps := 1000000) (implicitDefEqProofs := false) (disch := omega) [-getElem?_pos, -fin, fin_fresh2, freshM_take1]
theorem den_l16Copy (hL : 2000000 ≤ L) (k : Nat) (m : List Blk) (v : C) (xss : List (List Int)) (hv : SSA m v xss) (hb : xss.length ≤ 1048576) (hbs : ∀ xs ∈ xss, xs.length ≤ 1048576) :
    den T X L (k + 2) 85 [.c v] m = some (freshR m xss) := by
  rw [den_eq T_85]
  have hr := hv.refs
  have hlp := iter_blk (n0 := m.length) (id := 0) (ka := some [3]) (f := fun s => exec (den T X L (k + 1)) L m.length none c_spec_l16Copy_b0 s) (tr := trim m.length (some [0, 3, 4])) (σ := Nat)
    (fun i => ⟨[(0, .c v), (3, .c (.sl m.length 0 i i)), (4, vi i)], freshM m (xss.take i), escN m i, 0⟩) (fun i => i ≤ xss.length) (fun i => xss.length - i)
    (fun i => (.norm, ⟨[(3, .c (.sl m.length 0 xss.length xss.length))], freshM m xss, escN m xss.length, 0⟩)) ?w
  case w =>
    intro i hi
    have hg : SSA (freshM m (xss.take i)) v xss := hv.grow
    by_cases he : i = xss.length
    · subst he
      rw [List.take_length] at hg ⊢
      refine ⟨.exit 0, _, by simp (maxSteps := 1000000) (implicitDefEqProofs := false) (disch := omega) [-getElem?_pos, c_spec_l16Copy_b0, hg.ss.lenV]; rfl, ?_⟩
      simp (maxSteps := 1000000) (implicitDefEqProofs := false) (disch := omega) [-getElem?_pos, c_blkx, freshM_take1]
    · have hi' : (i : Int) < (xss.length : Int) := by omega
      have hlt : (xss.take i).length = i := by rw [List.length_take]; omega
      have hml := freshM_len m (xss.take i)
      rw [hlt] at hml
      have hgr := fun q l r hq hr => freshM_grow (m := m) (l := l) (q := q) (r := r) (xss := xss.take i) (xs := nthL xss i) hq hr
      simp only [hlt, take_snoc (show i < xss.length by omega)] at hgr
      have hlv : live (freshM m (xss.take i)) m.length i = some ⟨hd (m.length + 1) (xss.take i), 30, 1, true⟩ := by
        unfold freshM
        rw [live_app0]
        simp [hd_len, hlt]
      have hhl := hd_len (m.length + 1) (xss.take i)
      rw [hlt] at hhl
      generalize hM : freshM m (xss.take i) = M at hml hgr hg hlv
      generalize hM' : freshM m (xss.take (i + 1)) = M' at hgr
      generalize hd (m.length + 1) (xss.take i) = H at hlv hhl hgr
      have hx := hg.ss.ixV (i := (i : Int)) (by omega)
      rw [Int.toNat_natCast] at hx
      obtain ⟨c, hc1, hc2⟩ := hg.ldV (i := i) (by omega)
      have hxs := hbs _ (nthL_mem (i := i) (by omega))
      have hz := den_l1Copy (X := X) (L := L) k M c _ hc2 hxs
      obtain ⟨q, hq⟩ : ∃ q, q = m.length + 1 + i := ⟨_, rfl⟩
      rw [← hq] at hml
      rw [hml] at hz
      have hgq := fun l r hr => hgr q l r hq hr
      have hlv2 := fun l => live_grow (l := l) hlv
      have hmq : m.length < M.length := by omega
      have hset : ∀ x l, (M ++ l).set m.length x = M.set m.length x ++ l := fun x l => List.set_append_left _ _ hmq
      have hget : live (M ++ [blkI (nthL xss i), ⟨[.sl q 0 (nthL xss i).length (nthL xss i).length], 30, 1, true⟩]) (q + 1) 1 = some ⟨[.sl q 0 (nthL xss i).length (nthL xss i).length], 30, 1, true⟩ := by
        unfold live
        rw [← hml, get_app]
        simp
      have he2 : mx (escN m i) (q + 1) = escN m (i + 1) := by
        rw [mx_eq]; unfold escN
        rw [if_neg (Nat.succ_ne_zero i)]
        split <;> omega
      refine ⟨.norm, _, by simp (maxSteps := 1000000) (implicitDefEqProofs := false) (disch := omega) [-getElem?_pos, c_spec_l16Copy_b0, hg.ss.lenV, hi', hx, hc1, hz, hlv2, hhl, hset, hml, hget]; rfl, i + 1, ?_, by omega, by omega, rfl⟩
      have he3 : mx (escN m (i + 1)) (q + 1) = escN m (i + 1) := by rw [mx_eq]; unfold escN; rw [if_neg (Nat.succ_ne_zero i)]; omega
      simp (maxSteps := 1000000) (implicitDefEqProofs := false) (disch := omega) [-getElem?_pos, he2, he3]
      rw [hM']
      exact hgq _ _ (by show mx v.refs (m.length + 1) ≤ m.length + 1; rw [mx_eq]; omega)
  have h0 : m ++ [⟨[], 30, 1, true⟩] = freshM m [] := by simp [freshM, hd]
  simp (maxSteps := 1000000) (implicitDefEqProofs := false) (disch := omega) [-getElem?_pos, c_spec_l16Copy]
  rw [hlp L 0 _ (Nat.zero_le _) ?tr (by show xss.length - 0 < L; omega)]
  case tr =>
    simp (maxSteps := 1000000) (implicitDefEqProofs := false) (disch := omega) [-getElem?_pos, h0]
    exact ⟨List.take_of_length_le (by rw [freshM_len, mx_eq, mx_eq]; simp; omega), rfl⟩
  simp (maxSteps := 1000000) (implicitDefEqProofs := false) (disch := omega) [-getElem?_pos, -fin, fin_fresh2, freshM_take1]

/-! Joined to one list. -/
theorem den_out {f : FuncId} (h : T f = none) (k : Nat) (args : List V) (m : List Blk) : den T X L k f args m = X f args m := by
  cases k with
  | zero => rfl
  | succ k => simp only [den, h]
theorem tot_flatten (xss : List (List Int)) : xss.flatten.length = tot xss := by
  induction xss with
  | nil => rfl
  | cons xs r ih => simp [tot, ih]
theorem tot_le_all (xss : List (List Int)) (i : Nat) : tot (xss.take i) ≤ tot xss := by
  induction xss generalizing i with
  | nil => simp [tot]
  | cons xs r ih =>
    cases i with
    | zero => simp [tot]
    | succ i => simp only [List.take_succ_cons, tot]; have := ih i; omega
def outL (m : List Blk) (l : List Int) : Ret := if l = [] then ⟨.c .nils, m, 0, 0⟩ else ⟨.c (.sl m.length 0 l.length l.length), m ++ [blkI l], 0, 0⟩
theorem flatten_take {xss : List (List Int)} {i : Nat} (h : i < xss.length) : (xss.take i).flatten ++ nthL xss i = (xss.take (i + 1)).flatten := by
  rw [← take_snoc h]; simp
theorem take_gb {l : List Blk} {a b c : Nat} (h : l.length ≤ b) : l.take (mx a (mx b c)) = l := List.take_of_length_le (by rw [mx_eq, mx_eq]; omega)
theorem den_Concat (hL : 2000000 ≤ L) (k : Nat) (m : List Blk) (v : C) (xss : List (List Int)) (hv : SSA m v xss) (hb : xss.length ≤ 1048576) (hbs : ∀ xs ∈ xss, xs.length ≤ 1048576) (ht : tot xss ≤ 1073741824) :
    den T libX L (k + 2) 115 [.c v] m = some (outL m xss.flatten) := by
  rw [den_eq T_115]
  have hr := hv.refs
  have hlp := iter_blk (n0 := m.length) (id := 0) (ka := some [0, 3]) (f := fun s => exec (den T libX L (k + 1)) L m.length none c_slices_Concat_int_int_b0 s) (tr := trim m.length (some [0, 3, 9, 10, 11])) (σ := Nat)
    (fun i => ⟨[(0, .c v), (3, vi (tot (xss.take i))), (9, .c v), (10, vi xss.length), (11, vi i)], m, 0, 0⟩) (fun i => i ≤ xss.length) (fun i => xss.length - i)
    (fun i => (.norm, ⟨[(0, .c v), (3, vi (tot xss))], m, 0, 0⟩)) ?w
  case w =>
    intro i hi
    by_cases he : i = xss.length
    · subst he
      rw [List.take_length]
      refine ⟨.exit 0, _, by simp (maxSteps := 1000000) (implicitDefEqProofs := false) (disch := omega) [-getElem?_pos, c_slices_Concat_int_int_b0]; rfl, ?_⟩
      simp (maxSteps := 1000000) (implicitDefEqProofs := false) (disch := omega) [-getElem?_pos, c_blkx, take_mx]
    · have hi' : (i : Int) < (xss.length : Int) := by omega
      have hx := hv.ss.ixV (i := (i : Int)) (by omega)
      rw [Int.toNat_natCast] at hx
      obtain ⟨c, hc1, hc2⟩ := hv.ldV (i := i) (by omega)
      have hl := hc2.sl.lenV
      have htk := tot_take (xss := xss) (i := i) (by omega)
      have h1 := tot_le_all xss (i + 1)
      have hnn : ¬ (tot (xss.take i) : Int) + ((nthL xss i).length : Int) < 0 := by omega
      refine ⟨.norm, _, by simp (maxSteps := 1000000) (implicitDefEqProofs := false) (disch := omega) [-getElem?_pos, c_slices_Concat_int_int_b0, hi', hx, hc1, hl, hnn]; rfl, i + 1, ?_, by omega, by omega, rfl⟩
      simp (maxSteps := 1000000) (implicitDefEqProofs := false) (disch := omega) [-getElem?_pos, take_mx, htk]
  have hfl := tot_flatten xss
  have hg : ∀ n : Int, den T libX L (k + 1) 121 [.c .nils, vi n] m = growF 3 [.c .nils, vi n] m := fun n => by
    rw [den_out rfl, libX_grow]
  by_cases h0 : tot xss = 0
  · have hf : xss.flatten = [] := List.length_eq_zero_iff.1 (by omega)
    have hemp : ∀ i, i < xss.length → nthL xss i = [] := fun i hi => by
      have := tot_take (xss := xss) (i := i) hi
      have := tot_le_all xss (i + 1)
      exact List.length_eq_zero_iff.1 (by omega)
    have hlq := iter_blk (n0 := m.length) (id := 2) (ka := some [6]) (f := fun s => exec (den T libX L (k + 1)) L m.length none c_slices_Concat_int_int_b1 s) (tr := trim m.length (some [6, 25, 26, 27])) (σ := Nat)
      (fun i => ⟨[(6, .c .nils), (25, .c v), (26, vi xss.length), (27, vi i)], m, 0, 0⟩) (fun i => i ≤ xss.length) (fun i => xss.length - i)
      (fun i => (.norm, ⟨[(6, .c .nils)], m, 0, 0⟩)) ?w2
    case w2 =>
      intro i hi
      by_cases he : i = xss.length
      · subst he
        refine ⟨.exit 2, _, by simp (maxSteps := 1000000) (implicitDefEqProofs := false) (disch := omega) [-getElem?_pos, c_slices_Concat_int_int_b1]; rfl, ?_⟩
        simp (maxSteps := 1000000) (implicitDefEqProofs := false) (disch := omega) [-getElem?_pos, c_blkx, take_mx]
      · have hi' : (i : Int) < (xss.length : Int) := by omega
        have hx := hv.ss.ixV (i := (i : Int)) (by omega)
        rw [Int.toNat_natCast] at hx
        obtain ⟨c, hc1, hc2⟩ := hv.ldV (i := i) (by omega)
        rw [hemp i (by omega)] at hc2
        rcases hc2 with ⟨rfl, _⟩ | ⟨b, off, tt, blk, rfl, h2, h3, h4, h5⟩
        · refine ⟨.norm, _, by simp (maxSteps := 1000000) (implicitDefEqProofs := false) (disch := omega) [-getElem?_pos, c_slices_Concat_int_int_b1, hi', hx, hc1]; rfl, i + 1, ?_, by omega, by omega, rfl⟩
          simp (maxSteps := 1000000) (implicitDefEqProofs := false) (disch := omega) [-getElem?_pos, take_mx]
        · simp only [List.length_nil, Nat.add_zero] at h4
          refine ⟨.norm, _, by simp (maxSteps := 1000000) (implicitDefEqProofs := false) (disch := omega) [-getElem?_pos, c_slices_Concat_int_int_b1, hi', hx, hc1, h2, h4]; rfl, i + 1, ?_, by omega, by omega, rfl⟩
          simp (maxSteps := 1000000) (implicitDefEqProofs := false) (disch := omega) [-getElem?_pos, take_mx]
    rw [hf]
    unfold outL
    rw [if_pos rfl]
    simp (maxSteps := 1000000) (implicitDefEqProofs := false) (disch := omega) [-getElem?_pos, c_slices_Concat_int_int, hv.ss.lenV]
    rw [hlp L 0 _ (Nat.zero_le _) (by simp (maxSteps := 1000000) (implicitDefEqProofs := false) (disch := omega) [-getElem?_pos, take_mx, tot]) (by show xss.length - 0 < L; omega)]
    rw [h0]
    simp (maxSteps := 1000000) (implicitDefEqProofs := false) (disch := omega) [-getElem?_pos, hg, growF, hv.ss.lenV]
    rw [hlq L 0 _ (Nat.zero_le _) (by simp (maxSteps := 1000000) (implicitDefEqProofs := false) (disch := omega) [-getElem?_pos, take_mx]) (by show xss.length - 0 < L; omega)]
    simp (maxSteps := 1000000) (implicitDefEqProofs := false) (disch := omega) [-getElem?_pos, take_mx]
  · have hf : xss.flatten ≠ [] := fun h => h0 (by rw [← hfl, h]; rfl)
    have hlq := iter_blk (n0 := m.length) (id := 2) (ka := some [6]) (f := fun s => exec (den T libX L (k + 1)) L m.length none c_slices_Concat_int_int_b1 s) (tr := trim m.length (some [6, 25, 26, 27])) (σ := Nat)
      (fun i => ⟨[(6, .c (.sl m.length 0 (tot (xss.take i)) (tot (xss.take i)))), (25, .c v), (26, vi xss.length), (27, vi i)], m ++ [blkI (xss.take i).flatten], 0, 0⟩) (fun i => i ≤ xss.length) (fun i => xss.length - i)
      (fun i => (.norm, ⟨[(6, .c (.sl m.length 0 (tot xss) (tot xss)))], m ++ [blkI xss.flatten], 0, 0⟩)) ?w3
    case w3 =>
      intro i hi
      by_cases he : i = xss.length
      · subst he
        rw [List.take_length]
        refine ⟨.exit 2, _, by simp (maxSteps := 1000000) (implicitDefEqProofs := false) (disch := omega) [-getElem?_pos, c_slices_Concat_int_int_b1]; rfl, ?_⟩
        simp (maxSteps := 1000000) (implicitDefEqProofs := false) (disch := omega) [-getElem?_pos, c_blkx]
      · have hi' : (i : Int) < (xss.length : Int) := by omega
        have hg2 : SSA (m ++ [blkI (xss.take i).flatten]) v xss := hv.grow
        have hx := hg2.ss.ixV (i := (i : Int)) (by omega)
        rw [Int.toNat_natCast] at hx
        obtain ⟨c, hc1, hc2⟩ := hg2.ldV (i := i) (by omega)
        have htk := tot_take (xss := xss) (i := i) (by omega)
        have h1 := tot_le_all xss (i + 1)
        have hlf := tot_flatten (xss.take i)
        have hft := flatten_take (xss := xss) (i := i) (by omega)
        have hin : ∀ a b : List Int, ints a ++ ints b = ints (a ++ b) := fun a b => by simp [ints]
        generalize (xss.take i).flatten = F at hg2 hx hc1 hc2 hlf hft ⊢
        generalize hF' : (xss.take (i + 1)).flatten = F' at hft
        rcases hc2 with ⟨rfl, hn⟩ | ⟨b, off, tt, blk, rfl, h2, h3, h4, h5⟩
        · rw [hn] at hft htk
          simp only [List.length_nil, Nat.add_zero, List.append_nil] at hft htk
          refine ⟨.norm, _, by simp (maxSteps := 1000000) (implicitDefEqProofs := false) (disch := omega) [-getElem?_pos, c_slices_Concat_int_int_b1, hi', hx, hc1, ints_len, hlf]; rfl, i + 1, ?_, by omega, by omega, rfl⟩
          simp (maxSteps := 1000000) (implicitDefEqProofs := false) (disch := omega) [-getElem?_pos, htk, hft, ints_refs]
          rw [hF']
          exact take_gb (by simp)
        · refine ⟨.norm, _, by simp (maxSteps := 1000000) (implicitDefEqProofs := false) (disch := omega) [-getElem?_pos, c_slices_Concat_int_int_b1, hi', hx, hc1, h2, h4, h5, ints_len, hlf]; rfl, i + 1, ?_, by omega, by omega, rfl⟩
          simp (maxSteps := 1000000) (implicitDefEqProofs := false) (disch := omega) [-getElem?_pos, htk, hin, hft, ints_refs]
          rw [hF']
          exact take_gb (by simp)
    unfold outL
    rw [if_neg hf, hfl]
    have hpos : 0 < (tot xss : Int) := by omega
    have hne : ¬ (tot xss : Int) = 0 := by omega
    have hb8 : (tot xss : Int) * 8 ≤ 140737488355328 := by omega
    simp (maxSteps := 1000000) (implicitDefEqProofs := false) (disch := omega) [-getElem?_pos, c_slices_Concat_int_int, hv.ss.lenV]
    rw [hlp L 0 _ (Nat.zero_le _) (by simp (maxSteps := 1000000) (implicitDefEqProofs := false) (disch := omega) [-getElem?_pos, take_mx, tot]) (by show xss.length - 0 < L; omega)]
    have hlg := fun l => (hv.grow (l := l)).ss.lenV
    simp (maxSteps := 1000000) (implicitDefEqProofs := false) (disch := omega) [-getElem?_pos, hg, growF, hlg, hpos, hne, h0, hb8]
    rw [hlq L 0 _ (Nat.zero_le _) ?tr (by show xss.length - 0 < L; omega)]
    case tr =>
      simp (maxSteps := 1000000) (implicitDefEqProofs := false) (disch := omega) [-getElem?_pos, tot, ints]
      exact take_gb (by simp)
    simp (maxSteps := 1000000) (implicitDefEqProofs := false) (disch := omega) [-getElem?_pos, ints_refs]
end Go.Proofs.Ytkoloapgeilbdaa
