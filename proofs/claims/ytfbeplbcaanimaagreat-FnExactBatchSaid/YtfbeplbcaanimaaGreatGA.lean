/-
 Slices of slices of numbers that stand in the memory: read, measured, compared, copied.
-/
import Derived.Test.YtfbeplbcaanimaaGreatBA
set_option linter.unusedVariables false
set_option linter.unusedSimpArgs false
set_option maxHeartbeats 4000000
namespace Go.Proofs.YtfbeplbcaanimaaGreat
variable {X : FuncId → List V → List Blk → Option Ret} {L : Nat}
def nthL (xss : List (List Int)) (i : Nat) : List Int := xss.getD i []
def SS (m : List Blk) (v : C) (xss : List (List Int)) : Prop :=
 (v = .nils ∧ xss = []) ∨ ∃ b off tot blk, v = .sl b off xss.length tot ∧ live m b tot = some blk ∧ (blk.esz = 0 ∨ blk.esz = 1) ∧ ∀ j, j < xss.length → ∃ h, blk.cs[off + j]? = some h ∧ Sl m h (nthL xss j)
section
variable {m l : List Blk} {v : C} {xss : List (List Int)}
theorem SS.grow (h : SS m v xss) : SS (m ++ l) v xss := by
 rcases h with h | ⟨b, off, tot, blk, h1, h2, h3, h4⟩
 ·exact .inl h
 ·exact .inr ⟨b, off, tot, blk, h1, live_grow h2, h3, fun j hj => let ⟨h, a, b⟩ := h4 j hj; ⟨h, a, b.grow⟩⟩
theorem SS.lenV (h : SS m v xss) : lenV m (.c v) = some (vi xss.length) := by
 rcases h with ⟨rfl, rfl⟩ | ⟨b, off, tot, blk, rfl, h2, h3, h4⟩
 ·rfl
 ·simp [Go.Proofs.YtfbeplbcaanimaaGreat.lenV, h2]
theorem SS.ixV (h : SS m v xss) {i : Int} (hi : 0 ≤ i ∧ i < xss.length) : ixsV m 1 (.c v) (vi i) = some (.c (ptrOf v i.toNat)) := by
 rcases h with ⟨rfl, rfl⟩ | ⟨b, off, tot, blk, rfl, h2, h3, h4⟩
 ·simp at hi; omega
 ·simp [ixsV, h2, guard', hi, ptrOf]
theorem SS.ldV (h : SS m v xss) {i : Nat} (hi : i < xss.length) : ∃ c, ld1V m (.c (ptrOf v i)) = some (.c c) ∧ Sl m c (nthL xss i) := by
 rcases h with ⟨rfl, rfl⟩ | ⟨b, off, tot, blk, rfl, h2, h3, h4⟩
 ·simp at hi
 ·obtain ⟨c, e1, e2⟩ := h4 i hi
  exact ⟨c, by simp [ld1V, h2, ptrOf, e1], e2⟩
end
theorem nthL_lt {xss : List (List Int)} {i : Nat} (h : i < xss.length) : nthL xss i = xss[i] := by simp [nthL, List.getD_eq_getElem?_getD, h]
theorem nthL_ext {xss yss : List (List Int)} (hl : xss.length = yss.length) : (∀ j, j < xss.length → nthL xss j = nthL yss j) ↔ xss = yss := by
 constructor
 ·intro h
  apply List.ext_getElem hl
  intro i h1 h2
  have := h i h1
  rwa [nthL_lt h1, nthL_lt h2] at this
 ·rintro rfl _ _; rfl
def big (n : Nat) : Prop := n ≤ 9223372036854775807
theorem den_szIntS (k : Nat) (m : List Blk) (v : C) (xs : List Int) (left : Int) (hv : Sl m v xs) (hb : big xs.length) (hl : 0 ≤ left ∧ left ≤ 1048576) :
  den T X L (k + 1) 55 [.c v, vi left] m = some ⟨vi (if left < xs.length then -1 else left - xs.length), m, 0, 0⟩ := by
 rw [den_eq T_55]
 unfold big at hb
 by_cases h : left < xs.length
 ·rw [if_pos h]
  simp (maxSteps := 1000000) -implicitDefEqProofs (disch := omega) [-getElem?_pos, c_laws_szIntS, hv.lenV, show left - (xs.length : Int) < 0 by omega]
 ·rw [if_neg h]
  simp (maxSteps := 1000000) -implicitDefEqProofs (disch := omega) [-getElem?_pos, c_laws_szIntS, hv.lenV, show ¬ left - (xs.length : Int) < 0 by omega]
def szL : List (List Int) → Int → Int
 | [], left => left
 | xs :: r, left => if left < xs.length then -1 else szL r (left - xs.length)
theorem szL_le : ∀ {xss : List (List Int)} {left : Int}, 0 ≤ left → -1 ≤ szL xss left ∧ szL xss left ≤ left
 | [], left, h => by simp only [szL]; omega
 | xs :: r, left, h => by
  unfold szL
  split
  ·omega
  ·have := szL_le (xss := r) (left := left - xs.length) (by omega)
   omega
theorem szL_len : ∀ {xss : List (List Int)} {left : Int}, 0 ≤ left → 0 ≤ szL xss left → ∀ xs ∈ xss, (xs.length : Int) ≤ left
 | [], left, _, _, _, h => by cases h
 | ys :: r, left, h0, h1, xs, h => by
  unfold szL at h1
  split at h1
  ·omega
  ·rcases List.mem_cons.1 h with h | h
   ·subst h; omega
   ·have := szL_len (xss := r) (by omega) h1 xs h
    omega
theorem drop_nthL {xss : List (List Int)} {i : Nat} (h : i < xss.length) : xss.drop i = nthL xss i :: xss.drop (i + 1) := by rw [nthL_lt h]; exact List.drop_eq_getElem_cons h
theorem nthL_mem {xss : List (List Int)} {i : Nat} (h : i < xss.length) : nthL xss i ∈ xss := by rw [nthL_lt h]; exact List.getElem_mem h
def szSS (xss : List (List Int)) (left : Int) : Int := if left < xss.length then -1 else szL xss (left - xss.length)
theorem den_szIntSS (hL : 2000000 ≤ L) (k : Nat) (m : List Blk) (v : C) (xss : List (List Int)) (left : Int) (hv : SS m v xss) (hb : big xss.length) (hbs : ∀ xs ∈ xss, big xs.length) (hl : 0 ≤ left ∧ left ≤ 1048576) :
  den T X L (k + 2) 33 [.c v, vi left] m = some ⟨vi (szSS xss left), m, 0, 0⟩ := by
 rw [den_eq T_33]
 unfold szSS
 unfold big at hb
 by_cases h : left < xss.length
 ·rw [if_pos h]
  simp (maxSteps := 1000000) -implicitDefEqProofs (disch := omega) [-getElem?_pos, c_laws_szIntSS, hv.lenV, show left - (xss.length : Int) < 0 by omega]
 ·rw [if_neg h]
  have hlp := iter_blk (n0 := m.length) (id := 0) (ka := some [1]) (f := fun s => exec (den T X L (k + 1)) L m.length none c_laws_szIntSS_b0 s) (tr := trim m.length (some [0, 1, 5])) (σ := Nat × Int)
   (fun s => ⟨[(0, .c v), (1, vi s.2), (5, vi s.1)], m, 0, 0⟩) (fun s => s.1 ≤ xss.length ∧ 0 ≤ s.2 ∧ s.2 ≤ 1048576) (fun s => xss.length - s.1)
   (fun s => if szL (xss.drop s.1) s.2 < 0 then (.ret, ⟨[(4, vi (-1))], m, 0, 0⟩) else (.norm, ⟨[(1, vi (szL (xss.drop s.1) s.2))], m, 0, 0⟩)) ?w
  case w =>
   rintro ⟨i, lf⟩ ⟨hi, h0, h1⟩
   simp only at hi h0 h1
   by_cases he : i = xss.length
   ·refine ⟨.exit 0, _, by simp (maxSteps := 1000000) -implicitDefEqProofs (disch := omega) [-getElem?_pos, c_laws_szIntSS_b0, he, hv.lenV]; rfl, ?_⟩
    subst he
    simp only [List.drop_length, szL, show ¬ lf < 0 by omega, if_false]
    simp (maxSteps := 1000000) -implicitDefEqProofs (disch := omega) [-getElem?_pos, c_blkx, take_mx]
   ·have hi' : (i : Int) < (xss.length : Int) := by omega
    have hx := hv.ixV (i := (i : Int)) (by omega)
    rw [Int.toNat_natCast] at hx
    obtain ⟨c, hc1, hc2⟩ := hv.ldV (i := i) (by omega)
    have hz := den_szIntS (X := X) (L := L) k m c _ lf hc2 (hbs _ (nthL_mem (by omega))) ⟨h0, h1⟩
    simp only [drop_nthL (show i < xss.length by omega), szL]
    by_cases hc : lf < (nthL xss i).length
    ·simp only [if_pos hc, show (-1 : Int) < 0 by omega, if_true] at hz ⊢
     refine ⟨.ret, _, by simp (maxSteps := 1000000) -implicitDefEqProofs (disch := omega) [-getElem?_pos, c_laws_szIntSS_b0, hv.lenV, hi', hx, hc1, hz]; rfl, ?_⟩
     simp (maxSteps := 1000000) -implicitDefEqProofs (disch := omega) [-getElem?_pos, c_blkr, take_mx]
    ·simp only [if_neg hc] at hz ⊢
     refine ⟨.norm, _, by simp (maxSteps := 1000000) -implicitDefEqProofs (disch := omega) [-getElem?_pos, c_laws_szIntSS_b0, hv.lenV, hi', hx, hc1, hz, show ¬ lf - ((nthL xss i).length : Int) < 0 by omega]; rfl, (i + 1, lf - (nthL xss i).length), ?_, ⟨by omega, by omega, by omega⟩, by omega, rfl⟩
     simp (maxSteps := 1000000) -implicitDefEqProofs (disch := omega) [-getElem?_pos, take_mx]
  have hd : ¬ left - (xss.length : Int) < 0 := by omega
  simp (maxSteps := 1000000) -implicitDefEqProofs (disch := omega) [-getElem?_pos, c_laws_szIntSS, hv.lenV, hd]
  rw [hlp L (0, left - xss.length) _ ⟨Nat.zero_le _, by omega, by omega⟩ ?tr (by show xss.length - 0 < L; omega)]
  case tr => simp (maxSteps := 1000000) -implicitDefEqProofs (disch := omega) [-getElem?_pos, take_mx]
  rw [List.drop_zero]
  by_cases hc : szL xss (left - xss.length) < 0
  ·have := szL_le (xss := xss) (left := left - xss.length) (by omega)
   rw [if_pos hc, show szL xss (left - xss.length) = -1 by omega]
   simp (maxSteps := 1000000) -implicitDefEqProofs (disch := omega) [-getElem?_pos]
  ·rw [if_neg hc]
   simp (maxSteps := 1000000) -implicitDefEqProofs (disch := omega) [-getElem?_pos]
def fillN (xs : List Int) (n : Nat) (j : Nat) : Int := if j < n then nth xs j else 0
theorem ar_fill (xs : List Int) : ar xs.length (fillN xs xs.length) = ints xs := by
 rw [ar_of_list]
 exact ar_ext fun i hi => by simp [fillN, hi, nth]
theorem upd_fill (xs : List Int) (n : Nat) (len : Nat) : ar len (upd (fillN xs n) n (nth xs n)) = ar len (fillN xs (n + 1)) := ar_ext fun j hj => by
 unfold upd fillN
 by_cases h1 : j = n
 ·subst h1; simp
 ·by_cases h2 : j < n
  ·simp [h1, h2, show j < n + 1 by omega]
  ·simp [h1, h2, show ¬ j < n + 1 by omega]
theorem rep_ar (n : Nat) : rep n [.int .i64 0] = ar n (fun _ => 0) := by
 induction n with
 | zero => rfl
 | succ n ih =>
  rw [rep_flat] at ih ⊢
  rw [List.replicate_succ', ih]
  unfold ar
  rw [rows_succ]
theorem take_ge {l : List Blk} {a b c : Nat} (h : l.length ≤ c) : l.take (mx a (mx b c)) = l := List.take_of_length_le (by rw [mx_eq, mx_eq]; omega)
theorem den_toIntS (k : Nat) (m : List Blk) (v : C) (xs : List Int) (hv : Sl m v xs) (hL : xs.length < L) (hb : xs.length ≤ 1048576) :
  den T X L (k + 1) 77 [.c v] m = some ⟨.c (.sl m.length 0 xs.length xs.length), m ++ [blkI xs], 0, 0⟩ := by
 rw [den_eq T_77]
 have hlp := iter_blk (n0 := m.length) (id := 0) (ka := some [3]) (f := fun s => exec (den T X L k) L m.length none c_laws_toIntS_b0 s) (tr := trim m.length (some [0, 3, 4])) (σ := Nat)
  (fun i => ⟨[(0, .c v), (3, .c (.sl m.length 0 xs.length xs.length)), (4, vi i)], m ++ [⟨ar xs.length (fillN xs i), 3, 1, true⟩], 0, 0⟩) (fun i => i ≤ xs.length) (fun i => xs.length - i)
  (fun i => (.norm, ⟨[(3, .c (.sl m.length 0 xs.length xs.length))], m ++ [⟨ar xs.length (fillN xs xs.length), 3, 1, true⟩], 0, 0⟩)) ?w
 case w =>
  intro i hi
  have hg := fun l => (hv.grow (l := l)).lenV
  by_cases he : i = xs.length
  ·subst he
   refine ⟨.exit 0, _, by simp (maxSteps := 1000000) -implicitDefEqProofs (disch := omega) [-getElem?_pos, c_laws_toIntS_b0, hg]; rfl, ?_⟩
   have := hv.take
   simp (maxSteps := 1000000) -implicitDefEqProofs (disch := omega) [-getElem?_pos, c_blkx]
  ·have hi' : (i : Int) < (xs.length : Int) := by omega
   have hx := fun l => (hv.grow (l := l)).ixV (i := (i : Int)) (by omega)
   rw [Int.toNat_natCast] at hx
   have hd := fun l => (hv.grow (l := l)).ldV (i := i) (by omega)
   have := hv.take
   refine ⟨.norm, _, by simp (maxSteps := 1000000) -implicitDefEqProofs (disch := omega) [-getElem?_pos, c_laws_toIntS_b0, hg, hi', hx, hd]; rfl, i + 1, ?_, by omega, by omega, rfl⟩
   simp (maxSteps := 1000000) -implicitDefEqProofs (disch := omega) [-getElem?_pos, upd_fill]
   exact take_ge (by simp)
 have hb8 : (xs.length : Int) * 8 ≤ 140737488355328 := by omega
 simp (maxSteps := 1000000) -implicitDefEqProofs (disch := omega) [-getElem?_pos, c_laws_toIntS, hv.lenV, hb8]
 rw [hlp L 0 _ (Nat.zero_le _) ?tr (by show xs.length - 0 < L; omega)]
 case tr =>
  have := hv.take
  have hz : List.replicate xs.length (C.int .i64 0) = ar xs.length (fillN xs 0) := by rw [← rep_flat, rep_ar]; rfl
  simp (maxSteps := 1000000) -implicitDefEqProofs (disch := omega) [-getElem?_pos, hz]
  exact take_ge (by simp)
 simp (maxSteps := 1000000) -implicitDefEqProofs (disch := omega) [-getElem?_pos, ar_fill]
end Go.Proofs.YtfbeplbcaanimaaGreat
set_option linter.unusedVariables false
set_option linter.unusedSimpArgs false
set_option maxHeartbeats 4000000
namespace Go.Proofs.YtfbeplbcaanimaaGreat
variable {X : FuncId → List V → List Blk → Option Ret} {L : Nat}
def hd (b : Nat) : List (List Int) → List C
 | [] => []
 | xs :: r => .sl b 0 xs.length xs.length :: hd (b + 1) r
theorem hd_len (b : Nat) : ∀ xss, (hd b xss).length = xss.length
 | [] => rfl
 | xs :: r => by simp [hd, hd_len (b + 1) r]
theorem hd_get : ∀ {b : Nat} {xss : List (List Int)} {j : Nat}, j < xss.length → (hd b xss)[j]? = some (.sl (b + j) 0 (nthL xss j).length (nthL xss j).length)
 | b, [], j, h => by simp at h
 | b, xs :: r, 0, h => by simp [hd, nthL]
 | b, xs :: r, j + 1, h => by
  simp only [List.length_cons] at h
  simp only [hd, List.getElem?_cons_succ]
  rw [hd_get (b := b + 1) (xss := r) (j := j) (by omega)]
  simp [nthL, Nat.add_right_comm, Nat.add_assoc]
theorem hd_snoc : ∀ (b : Nat) (xss : List (List Int)) (xs : List Int), hd b xss ++ [.sl (b + xss.length) 0 xs.length xs.length] = hd b (xss ++ [xs])
 | b, [], xs => by simp [hd]
 | b, ys :: r, xs => by
  simp only [hd, List.cons_append, List.length_cons]
  rw [← hd_snoc (b + 1) r xs, show b + 1 + r.length = b + (r.length + 1) by omega]
theorem hd_refs : ∀ {b : Nat} {xss : List (List Int)}, refsL (hd b xss) = if xss = [] then 0 else b + xss.length
 | b, [] => rfl
 | b, xs :: r => by
  simp only [hd, refsL, C.refs]
  rw [hd_refs (b := b + 1) (xss := r), mx_eq]
  by_cases h : r = []
  ·subst h; simp
  ·rw [if_neg h, if_neg (by simp), List.length_cons]; omega
def hdF (b n : Nat) (xss : List (List Int)) : List C := hd b xss ++ List.replicate (n - xss.length) .nils
theorem hdF_len {b n : Nat} {xss : List (List Int)} (h : xss.length ≤ n) : (hdF b n xss).length = n := by simp [hdF, hd_len]; omega
theorem hdF_lay {b n : Nat} {xss : List (List Int)} {xs : List Int} (h : xss.length < n) : lay (hdF b n xss) xss.length [.sl (b + xss.length) 0 xs.length xs.length] = hdF b n (xss ++ [xs]) := by
 unfold hdF
 rw [← hd_snoc, List.length_append, List.length_cons, List.length_nil, show n - xss.length = (n - (xss.length + 1)) + 1 by omega, List.replicate_succ]
 have := lay_mid (a := hd b xss) (b := [C.nils]) (n := [C.sl (b + xss.length) 0 xs.length xs.length]) (r := List.replicate (n - (xss.length + 1)) C.nils) (o := xss.length) (hd_len b xss).symm rfl
 simpa using this
theorem hdF_all {b n : Nat} {xss : List (List Int)} (h : xss.length = n) : hdF b n xss = hd b xss := by simp [hdF, h]
def freshM (m : List Blk) (xss : List (List Int)) : List Blk := m ++ ⟨hd (m.length + 1) xss, 103, 1, true⟩ :: xss.map blkI
def freshR (m : List Blk) (xss : List (List Int)) : Ret := ⟨.c (.sl m.length 0 xss.length xss.length), freshM m xss, if xss = [] then 0 else m.length + 1 + xss.length, 0⟩
theorem take_snoc {xss : List (List Int)} {i : Nat} (h : i < xss.length) : xss.take i ++ [nthL xss i] = xss.take (i + 1) := by rw [nthL_lt h, List.take_succ_eq_append_getElem h]
def midM (m : List Blk) (n : Nat) (xss : List (List Int)) : List Blk := m ++ ⟨hdF (m.length + 1) n xss, 103, 1, true⟩ :: xss.map blkI
theorem midM_len (m : List Blk) (n : Nat) (xss : List (List Int)) : (midM m n xss).length = m.length + 1 + xss.length := by simp [midM]; omega
theorem midM_get (m : List Blk) (n : Nat) (xss : List (List Int)) : (midM m n xss)[m.length]? = some ⟨hdF (m.length + 1) n xss, 103, 1, true⟩ := by simp [midM]
theorem midM_grow {m : List Blk} {n q : Nat} {xss : List (List Int)} {xs : List Int} (h : xss.length < n) (hq : q = m.length + 1 + xss.length) :
  (midM m n xss).set m.length ⟨lay (hdF (m.length + 1) n xss) xss.length [.sl q 0 xs.length xs.length], 103, 1, true⟩ ++ [blkI xs] = midM m n (xss ++ [xs]) := by
 subst hq
 rw [hdF_lay h]
 simp [midM]
def escN (m : List Blk) (i : Nat) : Nat := if i = 0 then 0 else m.length + 1 + i
theorem midM_take {m : List Blk} {n k : Nat} {xss : List (List Int)} (h : xss.length = k) : List.take (mx m.length (mx (escN m k) (m.length + 1))) (midM m n xss) = midM m n xss := by
 subst h
 exact List.take_of_length_le (by rw [midM_len, mx_eq, mx_eq]; unfold escN; split <;> omega)
theorem midM_take2 {m : List Blk} {n k a : Nat} {xss : List (List Int)} (h : xss.length = k) : List.take (mx m.length (mx (escN m k) (mx a (m.length + 1)))) (midM m n xss) = midM m n xss := by
 subst h
 exact List.take_of_length_le (by rw [midM_len, mx_eq, mx_eq, mx_eq]; unfold escN; split <;> omega)
theorem fin_fresh (m : List Blk) (xss : List (List Int)) (env : List (Nat × V)) : fin m.length (.c (.sl m.length 0 xss.length xss.length)) ⟨env, midM m xss.length xss, escN m xss.length, 0⟩ = freshR m xss := by
 have hm : midM m xss.length xss = freshM m xss := by unfold midM freshM; rw [hdF_all rfl]
 rw [hm]
 unfold freshR freshM escN
 cases xss with
 | nil => simp [fin, V.refs, C.refs, V.own, C.own, nub, pickB, hd, refsL, V.ren, C.ren, pos, get_app0]
 | cons xs r =>
  have hr := hd_refs (b := m.length + 1) (xss := xs :: r)
  rw [if_neg (by simp)] at hr
  have hne : ¬ (m.length + 1 + (r.length + 1)) = 0 := by omega
  simp only [List.length_cons] at hr
  simp [fin, V.refs, C.refs, V.own, C.own, nub, pickB, get_app0, hr, hne]
  rw [List.take_of_length_le]
  simp [mx_eq]; omega
theorem den_toIntSS (hL : 2000000 ≤ L) (k : Nat) (m : List Blk) (v : C) (xss : List (List Int)) (hv : SS m v xss) (hb : xss.length ≤ 1048576) (hbs : ∀ xs ∈ xss, xs.length ≤ 1048576) :
  den T X L (k + 2) 42 [.c v] m = some (freshR m xss) := by
 rw [den_eq T_42]
 have hr : v.refs ≤ m.length := by
  rcases hv with ⟨rfl, _⟩ | ⟨b, off, tot, blk, rfl, h2, _, _⟩
  ·exact Nat.zero_le _
  ·exact live_lt h2
 have hlp := iter_blk (n0 := m.length) (id := 0) (ka := some [3]) (f := fun s => exec (den T X L (k + 1)) L m.length none c_laws_toIntSS_b0 s) (tr := trim m.length (some [0, 3, 4])) (σ := Nat)
  (fun i => ⟨[(0, .c v), (3, .c (.sl m.length 0 xss.length xss.length)), (4, vi i)], midM m xss.length (xss.take i), escN m i, 0⟩) (fun i => i ≤ xss.length) (fun i => xss.length - i)
  (fun i => (.norm, ⟨[(3, .c (.sl m.length 0 xss.length xss.length))], midM m xss.length xss, escN m xss.length, 0⟩)) ?w
 case w =>
  intro i hi
  have hml := midM_len m xss.length (xss.take i)
  have hlv : live (midM m xss.length (xss.take i)) m.length xss.length = some ⟨hdF (m.length + 1) xss.length (xss.take i), 103, 1, true⟩ := by
   unfold live
   rw [midM_get, Option.bind_some, hdF_len (by rw [List.length_take]; omega), if_pos rfl]
  have hg : SS (midM m xss.length (xss.take i)) v xss := hv.grow
  have hlt : (xss.take i).length = i := by rw [List.length_take]; omega
  by_cases he : i = xss.length
  ·subst he
   rw [List.take_length] at hg ⊢
   refine ⟨.exit 0, _, by simp (maxSteps := 1000000) -implicitDefEqProofs (disch := omega) [-getElem?_pos, c_laws_toIntSS_b0, hg.lenV]; rfl, ?_⟩
   simp (maxSteps := 1000000) -implicitDefEqProofs (disch := omega) [-getElem?_pos, c_blkx, midM_take]
  ·have hi' : (i : Int) < (xss.length : Int) := by omega
   have hgr := fun q hq => midM_grow (m := m) (n := xss.length) (q := q) (xss := xss.take i) (xs := nthL xss i) (by rw [hlt]; omega) hq
   simp only [hlt, take_snoc (show i < xss.length by omega)] at hgr hml
   have hcs := hdF_len (b := m.length + 1) (n := xss.length) (xss := xss.take i) (by rw [hlt]; omega)
   have htk := fun k => midM_take2 (m := m) (n := xss.length) (k := i + 1) (a := k) (xss := xss.take (i + 1)) (by rw [List.length_take]; omega)
   generalize midM m xss.length (xss.take i) = M at hml hlv hg hgr
   generalize hM' : midM m xss.length (xss.take (i + 1)) = M' at hgr htk
   generalize hdF (m.length + 1) xss.length (xss.take i) = H at hlv hgr hcs
   have hx := hg.ixV (i := (i : Int)) (by omega)
   rw [Int.toNat_natCast] at hx
   obtain ⟨c, hc1, hc2⟩ := hg.ldV (i := i) (by omega)
   have hxs := hbs _ (nthL_mem (i := i) (by omega))
   have hz := den_toIntS (X := X) (L := L) k M c _ hc2 (by omega) hxs
   obtain ⟨q, hq⟩ : ∃ q, q = m.length + 1 + i := ⟨_, rfl⟩
   rw [← hq] at hml
   rw [hml] at hz
   have hlv2 := fun l => live_grow (l := l) hlv
   have hgq := hgr q hq
   have he2 : mx (escN m i) (q + 1) = escN m (i + 1) := by
    rw [mx_eq]; unfold escN
    rw [if_neg (Nat.succ_ne_zero i)]
    split <;> omega
   have hmq : m.length < M.length := by omega
   have hset : ∀ x l, (M ++ l).set m.length x = M.set m.length x ++ l := fun x l => List.set_append_left _ _ hmq
   refine ⟨.norm, _, by simp (maxSteps := 1000000) -implicitDefEqProofs (disch := omega) [-getElem?_pos, c_laws_toIntSS_b0, hg.lenV, hi', hx, hc1, hz, hlv2, hcs, hset, hgq]; rfl, i + 1, ?_, by omega, by omega, rfl⟩
   simp (maxSteps := 1000000) -implicitDefEqProofs (disch := omega) [-getElem?_pos, he2, htk]
   exact hM'.symm
 have hb24 : (xss.length : Int) * 24 ≤ 140737488355328 := by omega
 have h0 : m ++ [⟨List.replicate xss.length .nils, 103, 1, true⟩] = midM m xss.length [] := by simp [midM, hdF, hd]
 simp (maxSteps := 1000000) -implicitDefEqProofs (disch := omega) [-getElem?_pos, c_laws_toIntSS, hv.lenV, hb24]
 rw [hlp L 0 _ (Nat.zero_le _) ?tr (by show xss.length - 0 < L; omega)]
 case tr =>
  simp (maxSteps := 1000000) -implicitDefEqProofs (disch := omega) [-getElem?_pos, h0]
  exact ⟨take_ge (by rw [midM_len]; simp), rfl⟩
 simp (maxSteps := 1000000) -implicitDefEqProofs (disch := omega) [-getElem?_pos, -fin, fin_fresh, midM_take]
end Go.Proofs.YtfbeplbcaanimaaGreat
set_option linter.unusedVariables false
set_option linter.unusedSimpArgs false
set_option maxHeartbeats 4000000
namespace Go.Proofs.YtfbeplbcaanimaaGreat
variable {X : FuncId → List V → List Blk → Option Ret} {L : Nat}
theorem den_eqIntSS (hL : 2000000 ≤ L) (k : Nat) (m : List Blk) (v w : C) (xss yss : List (List Int)) (hv : SS m v xss) (hw : SS m w yss) (hb : xss.length ≤ 1048576) (hbs : ∀ xs ∈ xss, xs.length ≤ 1048576) :
  den T X L (k + 2) 51 [.c v, .c w] m = some ⟨vb (decide (xss = yss)), m, 0, 0⟩ := by
 rw [den_eq T_51]
 by_cases hl : xss.length = yss.length
 ·have hlp := iter_blk (n0 := m.length) (id := 0) (ka := some []) (f := fun s => exec (den T X L (k + 1)) L m.length none c_laws_eqIntSS_b0 s) (tr := trim m.length (some [0, 1, 5])) (σ := Nat)
   (fun i => ⟨[(0, .c v), (1, .c w), (5, vi i)], m, 0, 0⟩) (fun i => i ≤ xss.length) (fun i => xss.length - i)
   (fun i => if ∀ j, j < xss.length → i ≤ j → nthL xss j = nthL yss j then (.norm, ⟨[], m, 0, 0⟩) else (.ret, ⟨[(4, vb false)], m, 0, 0⟩)) ?w
  case w =>
   intro i hi
   by_cases he : i = xss.length
   ·refine ⟨.exit 0, _, by simp (maxSteps := 1000000) -implicitDefEqProofs (disch := omega) [-getElem?_pos, c_laws_eqIntSS_b0, he, hv.lenV]; rfl, ?_⟩
    rw [if_pos fun j h1 h2 => by omega]
    simp (maxSteps := 1000000) -implicitDefEqProofs (disch := omega) [-getElem?_pos, c_blkx, take_mx]
   ·have hi' : (i : Int) < (xss.length : Int) := by omega
    have hx := hv.ixV (i := (i : Int)) (by omega)
    have hy := hw.ixV (i := (i : Int)) (by omega)
    rw [Int.toNat_natCast] at hx hy
    obtain ⟨c, hc1, hc2⟩ := hv.ldV (i := i) (by omega)
    obtain ⟨d, hd1, hd2⟩ := hw.ldV (i := i) (by omega)
    have hxs := hbs _ (nthL_mem (i := i) (by omega))
    have hz := den_eqIntS (X := X) (L := L) k m c d _ _ hc2 hd2 (by omega) (by omega)
    by_cases hq : nthL xss i = nthL yss i
    ·rw [decide_eq_true hq] at hz
     refine ⟨.norm, _, by simp (maxSteps := 1000000) -implicitDefEqProofs (disch := omega) [-getElem?_pos, c_laws_eqIntSS_b0, hi', hv.lenV, hx, hy, hc1, hd1, hz]; rfl, i + 1, ?_, by omega, by omega, ?_⟩
     ·simp (maxSteps := 1000000) -implicitDefEqProofs (disch := omega) [-getElem?_pos, take_mx]
     ·congr 1
      apply propext
      exact ⟨fun h j h1 h2 => if hj : j = i then hj ▸ hq else h j h1 (by omega), fun h j h1 h2 => h j h1 (by omega)⟩
    ·rw [decide_eq_false hq] at hz
     refine ⟨.ret, _, by simp (maxSteps := 1000000) -implicitDefEqProofs (disch := omega) [-getElem?_pos, c_laws_eqIntSS_b0, hi', hv.lenV, hx, hy, hc1, hd1, hz]; rfl, ?_⟩
     rw [if_neg fun h => hq (h i (by omega) (Nat.le_refl _))]
     simp (maxSteps := 1000000) -implicitDefEqProofs (disch := omega) [-getElem?_pos, c_blkr, take_mx]
  have hl' : (xss.length : Int) = yss.length := by omega
  simp (maxSteps := 1000000) -implicitDefEqProofs (disch := omega) [-getElem?_pos, c_laws_eqIntSS, hv.lenV, hw.lenV, hl']
  rw [hlp L 0 _ (Nat.zero_le _) ?tr (by show xss.length - 0 < L; omega)]
  case tr => simp (maxSteps := 1000000) -implicitDefEqProofs (disch := omega) [-getElem?_pos, take_mx]
  by_cases hq : xss = yss
  ·rw [if_pos fun j h1 _ => (nthL_ext hl).2 hq j h1]
   simp (maxSteps := 1000000) -implicitDefEqProofs (disch := omega) [-getElem?_pos, hq]
  ·rw [if_neg fun h => hq ((nthL_ext hl).1 fun j h1 => h j h1 (Nat.zero_le _))]
   simp (maxSteps := 1000000) -implicitDefEqProofs (disch := omega) [-getElem?_pos, hq]
 ·have hl' : ¬ (xss.length : Int) = yss.length := by omega
  have hq : ¬ xss = yss := fun h => hl (by rw [h])
  simp (maxSteps := 1000000) -implicitDefEqProofs (disch := omega) [-getElem?_pos, c_laws_eqIntSS, hv.lenV, hw.lenV, hl', hq]
theorem tmod_place {x n : Int} (hn : 0 < n) : (x.tmod n + n).tmod n = x % n := by
 have h1 := Int.tmod_lt_of_pos x hn
 have h2 : -n < x.tmod n := by
  have := Int.tmod_lt_of_pos (-x) hn
  rw [Int.neg_tmod] at this
  omega
 rw [Int.tmod_eq_emod_of_nonneg (by omega), Int.add_emod_right]
 have h3 := Int.tmod_add_mul_tdiv x n
 conv => rhs; rw [← h3]
 rw [Int.add_mul_emod_self_left]
theorem tmod_bounds {x n : Int} (hn : 0 < n) : -n < x.tmod n ∧ x.tmod n < n := by
 have h1 := Int.tmod_lt_of_pos x hn
 have := Int.tmod_lt_of_pos (-x) hn
 rw [Int.neg_tmod] at this
 omega
theorem tmod_emod {x n : Int} (hn : 0 < n) : x.tmod n % n = x % n := by
 have h3 := Int.tmod_add_mul_tdiv x n
 conv => rhs; rw [← h3]
 rw [Int.add_mul_emod_self_left]
theorem den_placeOf (k : Nat) (m : List Blk) (x n : Int) (hn : 0 < n ∧ n ≤ 8) : den T X L (k + 1) 113 [vi x, vi n] m = some ⟨vi (x % n), m, 0, 0⟩ := by
 rw [den_eq T_113]
 have h1 := tmod_bounds (x := x) hn.1
 have h2 := tmod_place (x := x) hn.1
 have hne : ¬ n = 0 := by omega
 simp (maxSteps := 1000000) -implicitDefEqProofs (disch := omega) [-getElem?_pos, c_impl_placeOf, hne, h2, tmod_emod hn.1]
theorem den_l16Place (k : Nat) (m : List Blk) (x n : Int) (hn : 0 < n ∧ n ≤ 8) : den T X L (k + 1) 101 [vi x, vi n] m = some ⟨vi (x % n), m, 0, 0⟩ := by
 rw [den_eq T_101]
 have h1 := tmod_bounds (x := x) hn.1
 have h2 := tmod_place (x := x) hn.1
 have hne : ¬ n = 0 := by omega
 simp (maxSteps := 1000000) -implicitDefEqProofs (disch := omega) [-getElem?_pos, c_spec_l16Place, hne, h2, tmod_emod hn.1]
def elOk (n b : Int) (xs : List Int) (i : Nat) : Bool := isVal (nth xs i) && decide (nth xs i % n = b) && decide (0 < i → nth xs (i - 1) < nth xs i)
def bkOk (n b : Int) (xs : List Int) : Bool := decide (xs.length ≤ 3) && decide (∀ i, i < xs.length → elOk n b xs i = true)
def bkI (n b : Int) (xs : List Int) (i : Nat) : Bool := decide (i < 3) && elOk n b xs i
theorem bk_same {n b : Int} {xs : List Int} : bkOk n b xs = decide (∀ i, i < xs.length → bkI n b xs i = true) := by
 rw [Bool.eq_iff_iff]
 simp only [bkOk, bkI, Bool.and_eq_true, decide_eq_true_eq]
 constructor
 ·rintro ⟨h1, h2⟩ i hi
  exact ⟨by omega, h2 i hi⟩
 ·intro h
  refine ⟨?_, fun i hi => (h i hi).2⟩
  rcases Nat.lt_or_ge 3 xs.length with h3 | h3
  ·have := (h 3 h3).1; omega
  ·exact h3
def lenOk (n : Nat) : Bool := decide (n = 1) || decide (n = 2) || decide (n = 4) || decide (n = 8)
def setOk (xss : List (List Int)) : Bool := lenOk xss.length && decide (∀ b, b < xss.length → bkOk xss.length b (nthL xss b) = true)
theorem lenOk_iff {n : Nat} : lenOk n = true ↔ n = 1 ∨ n = 2 ∨ n = 4 ∨ n = 8 := by simp [lenOk, or_assoc]
theorem den_impl_SetOk (hL : 2000000 ≤ L) (k : Nat) (m : List Blk) (v : C) (xss : List (List Int)) (hv : SS m v xss) (hb : xss.length ≤ 1048576) (hbs : ∀ xs ∈ xss, xs.length ≤ 1048576) :
  den T X L (k + 3) 82 [.c v] m = some ⟨vb (setOk xss), m, 0, 0⟩ := by
 rw [den_eq T_82]
 cases hn : lenOk xss.length with
 | false =>
  have h1 : ¬ (xss.length : Int) = 1 := fun h => by rw [lenOk_iff.2 (by omega)] at hn; cases hn
  have h2 : ¬ (xss.length : Int) = 2 := fun h => by rw [lenOk_iff.2 (by omega)] at hn; cases hn
  have h3 : ¬ (xss.length : Int) = 4 := fun h => by rw [lenOk_iff.2 (by omega)] at hn; cases hn
  have h4 : ¬ (xss.length : Int) = 8 := fun h => by rw [lenOk_iff.2 (by omega)] at hn; cases hn
  simp (maxSteps := 1000000) -implicitDefEqProofs (disch := omega) [-getElem?_pos, c_impl_SetOk, hv.lenV, h1, h2, h3, h4, setOk, hn]
 | true =>
  have hn' := lenOk_iff.1 hn
  have hpos : 0 < (xss.length : Int) ∧ (xss.length : Int) ≤ 8 := by omega
  have hin : ∀ (b : Nat) (c : C) (xs : List Int), Sl m c xs → xs.length ≤ 1048576 → b < xss.length → ∀ st, trim m.length (some [3, 4, 5, 24, 25, 26, 31, 32, 33]) st = ⟨[(3, vi xss.length), (4, vi b), (5, .c c), (24, .c v), (25, vi xss.length), (26, vi b), (31, .c c), (32, vi xs.length), (33, vi 0)], m, 0, 0⟩ →
    blkC m.length 2 (some [3, 24, 25, 26]) (iter (fun s => exec (den T X L (k + 2)) L m.length none c_impl_SetOk_b1 s) (trim m.length (some [3, 4, 5, 24, 25, 26, 31, 32, 33])) L st) =
     some (if bkOk xss.length b xs = true then (.norm, ⟨[(3, vi xss.length), (24, .c v), (25, vi xss.length), (26, vi b)], m, 0, 0⟩) else (.ret, ⟨[(2, vb false)], m, 0, 0⟩)) := by
   intro b c xs hc hxs hbl st hst
   have hlp := iter_blk (n0 := m.length) (id := 2) (ka := some [3, 24, 25, 26]) (f := fun s => exec (den T X L (k + 2)) L m.length none c_impl_SetOk_b1 s) (tr := trim m.length (some [3, 4, 5, 24, 25, 26, 31, 32, 33])) (σ := Nat)
    (fun i => ⟨[(3, vi xss.length), (4, vi b), (5, .c c), (24, .c v), (25, vi xss.length), (26, vi b), (31, .c c), (32, vi xs.length), (33, vi i)], m, 0, 0⟩) (fun i => i ≤ xs.length) (fun i => xs.length - i)
    (fun i => if ∀ j, j < xs.length → i ≤ j → bkI xss.length b xs j = true then (.norm, ⟨[(3, vi xss.length), (24, .c v), (25, vi xss.length), (26, vi b)], m, 0, 0⟩) else (.ret, ⟨[(2, vb false)], m, 0, 0⟩)) ?w
   case w =>
    intro i hi
    by_cases he : i = xs.length
    ·refine ⟨.exit 2, _, by simp (maxSteps := 1000000) -implicitDefEqProofs (disch := omega) [-getElem?_pos, c_impl_SetOk_b1, he]; rfl, ?_⟩
     rw [if_pos fun j h1 h2 => by omega]
     simp (maxSteps := 1000000) -implicitDefEqProofs (disch := omega) [-getElem?_pos, c_blkx, take_mx]
    ·have hi' : (i : Int) < (xs.length : Int) := by omega
     have hx := hc.ixV (i := (i : Int)) (by omega)
     rw [Int.toNat_natCast] at hx
     have hd := hc.ldV (i := i) (by omega)
     have hp := den_placeOf (X := X) (L := L) (k + 1) m (nth xs i) xss.length hpos
     have hval := den_isValue (X := X) (L := L) k m (nth xs i)
     by_cases h3 : (i : Int) ≥ 3
     ·refine ⟨.ret, _, by simp (maxSteps := 1000000) -implicitDefEqProofs (disch := omega) [-getElem?_pos, c_impl_SetOk_b1, hi', h3, hx, hd]; rfl, ?_⟩
      rw [if_neg fun h => by have := h i (by omega) (Nat.le_refl _); simp only [bkI, Bool.and_eq_true, decide_eq_true_eq] at this; omega]
      simp (maxSteps := 1000000) -implicitDefEqProofs (disch := omega) [-getElem?_pos, c_blkr, take_mx]
     ·cases h4 : isVal (nth xs i) with
      | false =>
       rw [h4] at hval
       refine ⟨.ret, _, by simp (maxSteps := 1000000) -implicitDefEqProofs (disch := omega) [-getElem?_pos, c_impl_SetOk_b1, hi', h3, hx, hd, hval]; rfl, ?_⟩
       rw [if_neg fun h => by have := h i (by omega) (Nat.le_refl _); simp [bkI, elOk, h4] at this]
       simp (maxSteps := 1000000) -implicitDefEqProofs (disch := omega) [-getElem?_pos, c_blkr, take_mx]
      | true =>
       rw [h4] at hval
       by_cases h5 : nth xs i % (xss.length : Int) = b
       ·rw [h5] at hp
        by_cases h0 : 0 < i
        ·obtain ⟨q, hq⟩ : ∃ q, i = q + 1 := ⟨i - 1, by omega⟩
         have hx2 := hc.ixV (i := ((q : Nat) : Int)) (by omega)
         rw [Int.toNat_natCast] at hx2
         have hd2 := hc.ldV (i := q) (by omega)
         have hpos' : (i : Int) > 0 := by omega
         have hsub : (i : Int) - 1 = (q : Int) := by omega
         have hq1 : i - 1 = q := by omega
         by_cases h6 : nth xs q < nth xs i
         ·refine ⟨.norm, _, by simp (maxSteps := 1000000) -implicitDefEqProofs (disch := omega) [-getElem?_pos, c_impl_SetOk_b1, hi', h3, hx, hd, hx2, hd2, hval, hp, hpos', h0, hsub, show ¬ nth xs q ≥ nth xs i by omega]; rfl, i + 1, ?_, by omega, by omega, ?_⟩
          ·simp (maxSteps := 1000000) -implicitDefEqProofs (disch := omega) [-getElem?_pos, take_mx]
          ·congr 1
           apply propext
           exact ⟨fun h j h1 h2 => if hj : j = i then by subst hj; simp [bkI, elOk, h4, h5, hq1, h6]; omega else h j h1 (by omega), fun h j h1 h2 => h j h1 (by omega)⟩
         ·refine ⟨.ret, _, by simp (maxSteps := 1000000) -implicitDefEqProofs (disch := omega) [-getElem?_pos, c_impl_SetOk_b1, hi', h3, hx, hd, hx2, hd2, hval, hp, hpos', h0, hsub, show nth xs q ≥ nth xs i by omega]; rfl, ?_⟩
          rw [if_neg fun h => by have := h i (by omega) (Nat.le_refl _); simp [bkI, elOk, hq1, h6, h0] at this]
          simp (maxSteps := 1000000) -implicitDefEqProofs (disch := omega) [-getElem?_pos, c_blkr, take_mx]
        ·have hpos' : ¬ (i : Int) > 0 := by omega
         refine ⟨.norm, _, by simp (maxSteps := 1000000) -implicitDefEqProofs (disch := omega) [-getElem?_pos, c_impl_SetOk_b1, hi', h3, hx, hd, hval, hp, hpos', h0]; rfl, i + 1, ?_, by omega, by omega, ?_⟩
         ·simp (maxSteps := 1000000) -implicitDefEqProofs (disch := omega) [-getElem?_pos, take_mx]
         ·congr 1
          apply propext
          exact ⟨fun h j h1 h2 => if hj : j = i then by subst hj; simp [bkI, elOk, h4, h5, h0]; omega else h j h1 (by omega), fun h j h1 h2 => h j h1 (by omega)⟩
       ·refine ⟨.ret, _, by simp (maxSteps := 1000000) -implicitDefEqProofs (disch := omega) [-getElem?_pos, c_impl_SetOk_b1, hi', h3, hx, hd, hval, hp, h5]; rfl, ?_⟩
        rw [if_neg fun h => by have := h i (by omega) (Nat.le_refl _); simp [bkI, elOk, h5] at this]
        simp (maxSteps := 1000000) -implicitDefEqProofs (disch := omega) [-getElem?_pos, c_blkr, take_mx]
   rw [hlp L 0 st (Nat.zero_le _) hst (by show xs.length - 0 < L; omega), bk_same]
   by_cases hq : ∀ i, i < xs.length → bkI xss.length b xs i = true
   ·rw [if_pos fun j h1 _ => hq j h1, if_pos (decide_eq_true hq)]
   ·rw [if_neg fun h => hq fun j h1 => h j h1 (Nat.zero_le _), if_neg (by simpa using hq)]
  have hlp := iter_blk (n0 := m.length) (id := 0) (ka := some []) (f := fun s => exec (den T X L (k + 2)) L m.length none c_impl_SetOk_b0 s) (tr := trim m.length (some [3, 24, 25, 26])) (σ := Nat)
   (fun i => ⟨[(3, vi xss.length), (24, .c v), (25, vi xss.length), (26, vi i)], m, 0, 0⟩) (fun i => i ≤ xss.length) (fun i => xss.length - i)
   (fun i => if ∀ j, j < xss.length → i ≤ j → bkOk xss.length j (nthL xss j) = true then (.norm, ⟨[], m, 0, 0⟩) else (.ret, ⟨[(2, vb false)], m, 0, 0⟩)) ?w
  case w =>
   intro i hi
   by_cases he : i = xss.length
   ·refine ⟨.exit 0, _, by simp (maxSteps := 1000000) -implicitDefEqProofs (disch := omega) [-getElem?_pos, c_impl_SetOk_b0, he]; rfl, ?_⟩
    rw [if_pos fun j h1 h2 => by omega]
    simp (maxSteps := 1000000) -implicitDefEqProofs (disch := omega) [-getElem?_pos, c_blkx, take_mx]
   ·have hi' : (i : Int) < (xss.length : Int) := by omega
    have hx := hv.ixV (i := (i : Int)) (by omega)
    rw [Int.toNat_natCast] at hx
    obtain ⟨c, hc1, hc2⟩ := hv.ldV (i := i) (by omega)
    have hq := hin i c _ hc2 (hbs _ (nthL_mem (by omega))) (by omega)
    by_cases hk : bkOk xss.length i (nthL xss i) = true
    ·rw [if_pos hk] at hq
     refine ⟨.norm, _, by simp (maxSteps := 1000000) -implicitDefEqProofs (disch := omega) [-getElem?_pos, c_impl_SetOk_b0, hi', hx, hc1, hc2.lenV]; rw [hq _ (by simp (maxSteps := 1000000) -implicitDefEqProofs (disch := omega) [-getElem?_pos, take_mx])]; simp (maxSteps := 1000000) -implicitDefEqProofs (disch := omega) [-getElem?_pos]; rfl, i + 1, ?_, by omega, by omega, ?_⟩
     ·simp (maxSteps := 1000000) -implicitDefEqProofs (disch := omega) [-getElem?_pos, take_mx]
     ·congr 1
      apply propext
      exact ⟨fun h j h1 h2 => if hj : j = i then hj ▸ hk else h j h1 (by omega), fun h j h1 h2 => h j h1 (by omega)⟩
    ·rw [if_neg hk] at hq
     refine ⟨.ret, _, by simp (maxSteps := 1000000) -implicitDefEqProofs (disch := omega) [-getElem?_pos, c_impl_SetOk_b0, hi', hx, hc1, hc2.lenV]; rw [hq _ (by simp (maxSteps := 1000000) -implicitDefEqProofs (disch := omega) [-getElem?_pos, take_mx])]; simp (maxSteps := 1000000) -implicitDefEqProofs (disch := omega) [-getElem?_pos]; rfl, ?_⟩
     rw [if_neg fun h => hk (h i (by omega) (Nat.le_refl _))]
     simp (maxSteps := 1000000) -implicitDefEqProofs (disch := omega) [-getElem?_pos, c_blkr, take_mx]
  have heq : setOk xss = decide (∀ b, b < xss.length → bkOk xss.length b (nthL xss b) = true) := by unfold setOk; rw [hn, Bool.true_and]
  have hl0 := fun st hst => hlp L 0 st (Nat.zero_le _) hst (by show xss.length - 0 < L; omega)
  have hn4 : (((xss.length : Int) = 1) = True) ∨ ((¬ (xss.length : Int) = 1) ∧ ((xss.length : Int) = 2) = True) ∨ ((¬ (xss.length : Int) = 1) ∧ (¬ (xss.length : Int) = 2) ∧ ((xss.length : Int) = 4) = True) ∨ ((¬ (xss.length : Int) = 1) ∧ (¬ (xss.length : Int) = 2) ∧ (¬ (xss.length : Int) = 4) ∧ ((xss.length : Int) = 8) = True) := by
   rcases hn' with h | h | h | h
   ·exact .inl (eq_true (by omega))
   ·exact .inr (.inl ⟨by omega, eq_true (by omega)⟩)
   ·exact .inr (.inr (.inl ⟨by omega, by omega, eq_true (by omega)⟩))
   ·exact .inr (.inr (.inr ⟨by omega, by omega, by omega, eq_true (by omega)⟩))
  clear hlp hn' hn
  rw [heq]
  by_cases hq : ∀ b, b < xss.length → bkOk xss.length b (nthL xss b) = true
  ·rw [if_pos fun j h1 _ => hq j h1] at hl0
   rw [decide_eq_true hq]
   rcases hn4 with h | ⟨h1, h⟩ | ⟨h1, h2, h⟩ | ⟨h1, h2, h3, h⟩
   ·simp (maxSteps := 1000000) -implicitDefEqProofs (disch := omega) [-getElem?_pos, c_impl_SetOk, hv.lenV, h]
    rw [hl0 _ (by simp (maxSteps := 1000000) -implicitDefEqProofs (disch := omega) [-getElem?_pos, take_mx])]
    simp (maxSteps := 1000000) -implicitDefEqProofs (disch := omega) [-getElem?_pos]
   ·simp (maxSteps := 1000000) -implicitDefEqProofs (disch := omega) [-getElem?_pos, c_impl_SetOk, hv.lenV, h, h1]
    rw [hl0 _ (by simp (maxSteps := 1000000) -implicitDefEqProofs (disch := omega) [-getElem?_pos, take_mx])]
    simp (maxSteps := 1000000) -implicitDefEqProofs (disch := omega) [-getElem?_pos]
   ·simp (maxSteps := 1000000) -implicitDefEqProofs (disch := omega) [-getElem?_pos, c_impl_SetOk, hv.lenV, h, h1, h2]
    rw [hl0 _ (by simp (maxSteps := 1000000) -implicitDefEqProofs (disch := omega) [-getElem?_pos, take_mx])]
    simp (maxSteps := 1000000) -implicitDefEqProofs (disch := omega) [-getElem?_pos]
   ·simp (maxSteps := 1000000) -implicitDefEqProofs (disch := omega) [-getElem?_pos, c_impl_SetOk, hv.lenV, h, h1, h2, h3]
    rw [hl0 _ (by simp (maxSteps := 1000000) -implicitDefEqProofs (disch := omega) [-getElem?_pos, take_mx])]
    simp (maxSteps := 1000000) -implicitDefEqProofs (disch := omega) [-getElem?_pos]
  ·rw [if_neg fun h => hq fun j h1 => h j h1 (Nat.zero_le _)] at hl0
   rw [decide_eq_false hq]
   rcases hn4 with h | ⟨h1, h⟩ | ⟨h1, h2, h⟩ | ⟨h1, h2, h3, h⟩
   ·simp (maxSteps := 1000000) -implicitDefEqProofs (disch := omega) [-getElem?_pos, c_impl_SetOk, hv.lenV, h]
    rw [hl0 _ (by simp (maxSteps := 1000000) -implicitDefEqProofs (disch := omega) [-getElem?_pos, take_mx])]
    simp (maxSteps := 1000000) -implicitDefEqProofs (disch := omega) [-getElem?_pos]
   ·simp (maxSteps := 1000000) -implicitDefEqProofs (disch := omega) [-getElem?_pos, c_impl_SetOk, hv.lenV, h, h1]
    rw [hl0 _ (by simp (maxSteps := 1000000) -implicitDefEqProofs (disch := omega) [-getElem?_pos, take_mx])]
    simp (maxSteps := 1000000) -implicitDefEqProofs (disch := omega) [-getElem?_pos]
   ·simp (maxSteps := 1000000) -implicitDefEqProofs (disch := omega) [-getElem?_pos, c_impl_SetOk, hv.lenV, h, h1, h2]
    rw [hl0 _ (by simp (maxSteps := 1000000) -implicitDefEqProofs (disch := omega) [-getElem?_pos, take_mx])]
    simp (maxSteps := 1000000) -implicitDefEqProofs (disch := omega) [-getElem?_pos]
   ·simp (maxSteps := 1000000) -implicitDefEqProofs (disch := omega) [-getElem?_pos, c_impl_SetOk, hv.lenV, h, h1, h2, h3]
    rw [hl0 _ (by simp (maxSteps := 1000000) -implicitDefEqProofs (disch := omega) [-getElem?_pos, take_mx])]
    simp (maxSteps := 1000000) -implicitDefEqProofs (disch := omega) [-getElem?_pos]
end Go.Proofs.YtfbeplbcaanimaaGreat
