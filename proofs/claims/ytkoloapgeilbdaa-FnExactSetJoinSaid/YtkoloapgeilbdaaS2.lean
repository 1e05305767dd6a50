/-
  Slices of slices of numbers, new: copied into memory of their own; compared.
-/
import Derived.Test.YtkoloapgeilbdaaSS
set_option linter.unusedVariables false
set_option linter.unusedSimpArgs false
set_option maxHeartbeats 4000000
namespace Go.Proofs.Ytkoloapgeilbdaa
variable {X : FuncId → List V → List Blk → Option Ret} {L : Nat}

/-- A row of slices that lie behind one another, each in a block of its own. -/
def hd (b : Nat) : List (List Int) → List C
  | [] => []
  | xs :: r => .sl b 0 xs.length xs.length :: hd (b + 1) r
theorem hd_len (b : Nat) : ∀ xss, (hd b xss).length = xss.length
  | [] => rfl
  | xs :: r => by simp [hd, hd_len (b + 1) r]
theorem hd_get : ∀ {b : Nat} {xss : List (List Int)} {j : Nat}, j < xss.length → (hd b xss)[j]? = some (.sl (b + j) 0 (nthL xss j).length (nthL xss j).length)
  | b, [], j, h => by simp at h
  | b, xs :: r, 0, h => by simp [hd, nthL]
  | b, xs :: r, j + 1, h => by
    simp only [List.length_cons] at h
    simp only [hd, List.getElem?_cons_succ]
    rw [hd_get (b := b + 1) (xss := r) (j := j) (by omega)]
    simp [nthL, Nat.add_right_comm, Nat.add_assoc]
theorem hd_snoc : ∀ (b : Nat) (xss : List (List Int)) (xs : List Int), hd b xss ++ [.sl (b + xss.length) 0 xs.length xs.length] = hd b (xss ++ [xs])
  | b, [], xs => by simp [hd]
  | b, ys :: r, xs => by
    simp only [hd, List.cons_append, List.length_cons]
    rw [← hd_snoc (b + 1) r xs, show b + 1 + r.length = b + (r.length + 1) by omega]
theorem hd_refs : ∀ {b : Nat} {xss : List (List Int)}, refsL (hd b xss) = if xss = [] then 0 else b + xss.length
  | b, [] => rfl
  | b, xs :: r => by
    simp only [hd, refsL, C.refs]
    rw [hd_refs (b := b + 1) (xss := r), mx_eq]
    by_cases h : r = []
    · subst h; simp
    · rw [if_neg h, if_neg (by simp), List.length_cons]; omega
/-- Filled in up to a place. -/
def hdF (b n : Nat) (xss : List (List Int)) : List C := hd b xss ++ List.replicate (n - xss.length) .nils
theorem hdF_len {b n : Nat} {xss : List (List Int)} (h : xss.length ≤ n) : (hdF b n xss).length = n := by simp [hdF, hd_len]; omega
theorem hdF_lay {b n : Nat} {xss : List (List Int)} {xs : List Int} (h : xss.length < n) : lay (hdF b n xss) xss.length [.sl (b + xss.length) 0 xs.length xs.length] = hdF b n (xss ++ [xs]) := by
  unfold hdF
  rw [← hd_snoc, List.length_append, List.length_cons, List.length_nil, show n - xss.length = (n - (xss.length + 1)) + 1 by omega, List.replicate_succ]
  have := lay_mid (a := hd b xss) (b := [C.nils]) (n := [C.sl (b + xss.length) 0 xs.length xs.length]) (r := List.replicate (n - (xss.length + 1)) C.nils) (o := xss.length) (hd_len b xss).symm rfl
  simpa using this
theorem hdF_all {b n : Nat} {xss : List (List Int)} (h : xss.length = n) : hdF b n xss = hd b xss := by simp [hdF, h]
def freshM (m : List Blk) (xss : List (List Int)) : List Blk := m ++ ⟨hd (m.length + 1) xss, 30, 1, true⟩ :: xss.map blkI
def freshR (m : List Blk) (xss : List (List Int)) : Ret := ⟨.c (.sl m.length 0 xss.length xss.length), freshM m xss, if xss = [] then 0 else m.length + 1 + xss.length, 0⟩
theorem take_snoc {xss : List (List Int)} {i : Nat} (h : i < xss.length) : xss.take i ++ [nthL xss i] = xss.take (i + 1) := by rw [nthL_lt h, List.take_succ_eq_append_getElem h]
/-- Half way. -/
def midM (m : List Blk) (n : Nat) (xss : List (List Int)) : List Blk := m ++ ⟨hdF (m.length + 1) n xss, 30, 1, true⟩ :: xss.map blkI
theorem midM_len (m : List Blk) (n : Nat) (xss : List (List Int)) : (midM m n xss).length = m.length + 1 + xss.length := by simp [midM]; omega
theorem midM_get (m : List Blk) (n : Nat) (xss : List (List Int)) : (midM m n xss)[m.length]? = some ⟨hdF (m.length + 1) n xss, 30, 1, true⟩ := by simp [midM]
theorem midM_grow {m : List Blk} {n q : Nat} {xss : List (List Int)} {xs : List Int} (h : xss.length < n) (hq : q = m.length + 1 + xss.length) :
    (midM m n xss).set m.length ⟨lay (hdF (m.length + 1) n xss) xss.length [.sl q 0 xs.length xs.length], 30, 1, true⟩ ++ [blkI xs] = midM m n (xss ++ [xs]) := by
  subst hq
  rw [hdF_lay h]
  simp [midM]
def escN (m : List Blk) (i : Nat) : Nat := if i = 0 then 0 else m.length + 1 + i
theorem midM_take {m : List Blk} {n k : Nat} {xss : List (List Int)} (h : xss.length = k) : List.take (mx m.length (mx (escN m k) (m.length + 1))) (midM m n xss) = midM m n xss := by
  subst h
  exact List.take_of_length_le (by rw [midM_len, mx_eq, mx_eq]; unfold escN; split <;> omega)
theorem midM_take2 {m : List Blk} {n k a : Nat} {xss : List (List Int)} (h : xss.length = k) : List.take (mx m.length (mx (escN m k) (mx a (m.length + 1)))) (midM m n xss) = midM m n xss := by
  subst h
  exact List.take_of_length_le (by rw [midM_len, mx_eq, mx_eq, mx_eq]; unfold escN; split <;> omega)
theorem fin_fresh (m : List Blk) (xss : List (List Int)) (env : List (Nat × V)) : fin m.length (.c (.sl m.length 0 xss.length xss.length)) ⟨env, midM m xss.length xss, escN m xss.length, 0⟩ = freshR m xss := by
  have hm : midM m xss.length xss = freshM m xss := by unfold midM freshM; rw [hdF_all rfl]
  rw [hm]
  unfold freshR freshM escN
  cases xss with
  | nil => simp [fin, V.refs, C.refs, V.own, C.own, nub, pickB, hd, refsL, V.ren, C.ren, pos, get_app0]
  | cons xs r =>
    have hr := hd_refs (b := m.length + 1) (xss := xs :: r)
    rw [if_neg (by simp)] at hr
    have hne : ¬ (m.length + 1 + (r.length + 1)) = 0 := by omega
    simp only [List.length_cons] at hr
    simp [fin, V.refs, C.refs, V.own, C.own, nub, pickB, get_app0, hr, hne]
    rw [List.take_of_length_le]
    simp [mx_eq]; omega

theorem den_toIntSS (hL : 2000000 ≤ L) (k : Nat) (m : List Blk) (v : C) (xss : List (List Int)) (hv : SS m v xss) (hb : xss.length ≤ 1048576) (hbs : ∀ xs ∈ xss, xs.length ≤ 1048576) :
    den T X L (k + 2) 17 [.c v] m = some (freshR m xss) := by
  rw [den_eq T_17]
  have hr : v.refs ≤ m.length := by
    rcases hv with ⟨rfl, _⟩ | ⟨b, off, tot, blk, rfl, h2, _, _⟩
    · exact Nat.zero_le _
    · exact live_lt h2
  have hlp := iter_blk (n0 := m.length) (id := 0) (ka := some [3]) (f := fun s => exec (den T X L (k + 1)) L m.length none c_laws_toIntSS_b0 s) (tr := trim m.length (some [0, 3, 4])) (σ := Nat)
    (fun i => ⟨[(0, .c v), (3, .c (.sl m.length 0 xss.length xss.length)), (4, vi i)], midM m xss.length (xss.take i), escN m i, 0⟩) (fun i => i ≤ xss.length) (fun i => xss.length - i)
    (fun i => (.norm, ⟨[(3, .c (.sl m.length 0 xss.length xss.length))], midM m xss.length xss, escN m xss.length, 0⟩)) ?w
  case w =>
    intro i hi
    have hml := midM_len m xss.length (xss.take i)
    have hlv : live (midM m xss.length (xss.take i)) m.length xss.length = some ⟨hdF (m.length + 1) xss.length (xss.take i), 30, 1, true⟩ := by
      unfold live
      rw [midM_get, Option.bind_some, hdF_len (by rw [List.length_take]; omega), if_pos rfl]
    have hg : SS (midM m xss.length (xss.take i)) v xss := hv.grow
    have hlt : (xss.take i).length = i := by rw [List.length_take]; omega
    by_cases he : i = xss.length
    · subst he
      rw [List.take_length] at hg ⊢
      refine ⟨.exit 0, _, by simp (maxSteps := 1000000) (implicitDefEqProofs := false) (disch := omega) [-getElem?_pos, c_laws_toIntSS_b0, hg.lenV]; rfl, ?_⟩
      simp (maxSteps := 1000000) (implicitDefEqProofs := false) (disch := omega) [-getElem?_pos, c_blkx, midM_take]
    · have hi' : (i : Int) < (xss.length : Int) := by omega
      have hgr := fun q hq => midM_grow (m := m) (n := xss.length) (q := q) (xss := xss.take i) (xs := nthL xss i) (by rw [hlt]; omega) hq
      simp only [hlt, take_snoc (show i < xss.length by omega)] at hgr hml
      have hcs := hdF_len (b := m.length + 1) (n := xss.length) (xss := xss.take i) (by rw [hlt]; omega)
      have htk := fun k => midM_take2 (m := m) (n := xss.length) (k := i + 1) (a := k) (xss := xss.take (i + 1)) (by rw [List.length_take]; omega)
      generalize midM m xss.length (xss.take i) = M at hml hlv hg hgr
      generalize hM' : midM m xss.length (xss.take (i + 1)) = M' at hgr htk
      generalize hdF (m.length + 1) xss.length (xss.take i) = H at hlv hgr hcs
      have hx := hg.ixV (i := (i : Int)) (by omega)
      rw [Int.toNat_natCast] at hx
      obtain ⟨c, hc1, hc2⟩ := hg.ldV (i := i) (by omega)
      have hxs := hbs _ (nthL_mem (i := i) (by omega))
      have hz := den_toIntS (X := X) (L := L) k M c _ hc2 (by omega) hxs
      obtain ⟨q, hq⟩ : ∃ q, q = m.length + 1 + i := ⟨_, rfl⟩
      rw [← hq] at hml
      rw [hml] at hz
      have hlv2 := fun l => live_grow (l := l) hlv
      have hgq := hgr q hq
      have he2 : mx (escN m i) (q + 1) = escN m (i + 1) := by
        rw [mx_eq]; unfold escN
        rw [if_neg (Nat.succ_ne_zero i)]
        split <;> omega
      have hmq : m.length < M.length := by omega
      have hset : ∀ x l, (M ++ l).set m.length x = M.set m.length x ++ l := fun x l => List.set_append_left _ _ hmq
      refine ⟨.norm, _, by simp (maxSteps := 1000000) (implicitDefEqProofs := false) (disch := omega) [-getElem?_pos, c_laws_toIntSS_b0, hg.lenV, hi', hx, hc1, hz, hlv2, hcs, hset, hgq]; rfl, i + 1, ?_, by omega, by omega, rfl⟩
      simp (maxSteps := 1000000) (implicitDefEqProofs := false) (disch := omega) [-getElem?_pos, he2, htk]
      exact hM'.symm
  have hb24 : (xss.length : Int) * 24 ≤ 140737488355328 := by omega
  have h0 : m ++ [⟨List.replicate xss.length .nils, 30, 1, true⟩] = midM m xss.length [] := by simp [midM, hdF, hd]
  simp (maxSteps := 1000000) (implicitDefEqProofs := false) (disch := omega) [-getElem?_pos, c_laws_toIntSS, hv.lenV, hb24]
  rw [hlp L 0 _ (Nat.zero_le _) ?tr (by show xss.length - 0 < L; omega)]
  case tr =>
    simp (maxSteps := 1000000) (implicitDefEqProofs := false) (disch := omega) [-getElem?_pos, h0]
    exact ⟨take_ge (by rw [midM_len]; simp), rfl⟩
  simp (maxSteps := 1000000) (implicitDefEqProofs := false) (disch := omega) [-getElem?_pos, -fin, fin_fresh, midM_take]
end Go.Proofs.Ytkoloapgeilbdaa
