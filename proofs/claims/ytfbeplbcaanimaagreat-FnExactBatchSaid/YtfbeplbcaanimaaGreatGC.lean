/-
 Slices of slices of numbers that lie in memory of their own: marked, held to their marks; what is apart stays.
-/
import Derived.Test.YtfbeplbcaanimaaGreatGB
import Derived.Test.YtfbeplbcaanimaaGreatLib
set_option linter.unusedVariables false
set_option linter.unusedSimpArgs false
set_option maxHeartbeats 4000000
namespace Go.Proofs.YtfbeplbcaanimaaGreat
variable {X : FuncId → List V → List Blk → Option Ret} {L : Nat}
theorem iter_ex {n0 : Nat} {σ : Type} {f : St → Option (Ex × St)} {tr : St → St} {id : Nat} {ka : Option (List Nat)} (H : σ → St) (I : σ → Prop) (μ : σ → Nat) (Q : Ex × St → Prop)
  (hs : ∀ s, I s → ∃ e st, f (H s) = some (e, st) ∧ match e with
   | .norm => ∃ s', tr st = H s' ∧ I s' ∧ μ s' < μ s
   | e => ∃ r, blkC n0 id ka (some (e, st)) = some r ∧ Q r) :
  ∀ n s st, I s → tr st = H s → μ s < n → ∃ r, blkC n0 id ka (iter f tr n st) = some r ∧ Q r := by
 intro n
 induction n with
 | zero => intro s st _ _ h; omega
 | succ n ih =>
  intro s st hI ht hn
  obtain ⟨e, st', he, h⟩ := hs s hI
  unfold iter
  rw [ht, he]
  cases e with
  | norm =>
   obtain ⟨s', h1, h2, h3⟩ := h
   exact ih s' st' h2 h1 (by omega)
  | exit id => exact h
  | ret => exact h
def marks (c : Int) (n : Nat) : List Int := (List.range n).map fun (i : Nat) => c + i
theorem marks_len (c : Int) (n : Nat) : (marks c n).length = n := by simp [marks]
theorem marks_nth {c : Int} {n i : Nat} (h : i < n) : nth (marks c n) i = c + i := by simp [nth, marks, List.getD_eq_getElem?_getD, h]
theorem marks_snoc (c : Int) (n : Nat) : marks c n ++ [c + n] = marks c (n + 1) := by simp [marks, List.range_succ]
def mkC (c : Int) (n : Nat) (cs : List C) : List C := ints (marks c n) ++ cs.drop n
theorem mkC_len {c : Int} {n : Nat} {cs : List C} (h : n ≤ cs.length) : (mkC c n cs).length = cs.length := by simp [mkC, ints_len, marks_len]; omega
theorem mkC_zero (c : Int) (cs : List C) : mkC c 0 cs = cs := by simp [mkC, marks, ints]
theorem mkC_lay {c : Int} {n : Nat} {cs : List C} (h : n < cs.length) : lay (mkC c n cs) n [ci (c + n)] = mkC c (n + 1) cs := by
 unfold mkC
 rw [List.drop_eq_getElem_cons h]
 have := lay_mid (a := ints (marks c n)) (b := [cs[n]]) (n := [ci (c + n)]) (r := cs.drop (n + 1)) (o := n) (by rw [ints_len, marks_len]) rfl
 rw [List.singleton_append] at this
 rw [this, ← marks_snoc]
 simp [ints]
theorem mkC_get {c : Int} {n i : Nat} {cs : List C} (h : i < n) : (mkC c n cs)[i]? = some (ci (c + i)) := by
 unfold mkC
 rw [List.getElem?_append_left (by rw [ints_len, marks_len]; exact h), ints_get' (by rw [marks_len]; exact h)]
 exact congrArg (fun x => some (ci x)) (marks_nth h)
theorem mkC_all (n : Nat) (c : Int) (ty : TypeId) (m : List Blk) (b : Nat) (cs : List C) (h : m[b]? = some ⟨cs, ty, 1, true⟩) : m.set b ⟨mkC c 0 cs, ty, 1, true⟩ = m := by
 rw [mkC_zero]
 have hlt := lt_of_get h
 apply List.ext_getElem?
 intro j
 by_cases hj : b = j
 ·subst hj; rw [List.getElem?_set_self hlt, h]
 ·rw [List.getElem?_set_ne hj]
theorem den_markG (k : Nat) (m : List Blk) (b n : Nat) (c : Int) (cs : List C) (ty : TypeId) (hm : m[b]? = some ⟨cs, ty, 1, true⟩) (hn : 0 < n) (hle : n ≤ cs.length) (hx : n < L) (hb : n ≤ 1048576) (hc : 0 ≤ c ∧ c ≤ 1099511627776) :
  den T X L (k + 1) 97 [.c (.sl b 0 n cs.length), vi c] m = some ⟨vi (c + n), m.set b ⟨mkC c n cs, ty, 1, true⟩, 0, m.length - b⟩ := by
 rw [den_eq T_97]
 have hlt := lt_of_get hm
 have hw : ¬ m.length - b = 0 := by omega
 have hl := iter_blk (n0 := m.length) (id := 0) (ka := some [1]) (f := fun s => exec (den T X L k) L m.length none c_laws_markIntS_b0 s) (tr := trim m.length (some [0, 1, 5])) (σ := Nat)
  (fun i => ⟨[(0, .c (.sl b 0 n cs.length)), (1, vi (c + i)), (5, vi i)], m.set b ⟨mkC c i cs, ty, 1, true⟩, 0, if i = 0 then 0 else m.length - b⟩) (fun i => i ≤ n) (fun i => n - i)
  (fun i => (.norm, ⟨[(1, vi (c + n))], m.set b ⟨mkC c n cs, ty, 1, true⟩, 0, m.length - b⟩)) ?w
 case w =>
  intro i hi
  have hlen := mkC_len (c := c) (n := i) (cs := cs) (by omega)
  have hlv : live (m.set b ⟨mkC c i cs, ty, 1, true⟩) b cs.length = some ⟨mkC c i cs, ty, 1, true⟩ := by rw [live_set _ _ _ _ hlt]; simp [hlen]
  by_cases he : i = n
  ·subst he
   refine ⟨.exit 0, _, by simp (maxSteps := 1000000) -implicitDefEqProofs (disch := omega) [-getElem?_pos, c_laws_markIntS_b0, hlv]; rfl, ?_⟩
   simp (maxSteps := 1000000) -implicitDefEqProofs (disch := omega) [-getElem?_pos, c_blkx, take_set', show ¬ i = 0 by omega]
  ·have hi' : (i : Int) < (n : Int) := by omega
   have hly := mkC_lay (c := c) (n := i) (cs := cs) (by omega)
   refine ⟨.norm, _, by simp (maxSteps := 1000000) -implicitDefEqProofs (disch := omega) [-getElem?_pos, c_laws_markIntS_b0, hi', hlv, hlen, hly, List.set_set, List.length_set]; rfl, i + 1, ?_, by omega, by omega, rfl⟩
   simp (maxSteps := 1000000) -implicitDefEqProofs (disch := omega) [-getElem?_pos, take_set']
   refine ⟨by omega, ?_⟩
   by_cases h0 : i = 0
   ·simp [h0, mx_zero_l]
   ·rw [if_neg h0]; exact mx_r (Nat.le_refl _)
 have h0 := mkC_all n c ty m b cs hm
 have hlv : live m b cs.length = some ⟨cs, ty, 1, true⟩ := by simp [live, hm]
 simp (maxSteps := 1000000) -implicitDefEqProofs (disch := omega) [-getElem?_pos, c_laws_markIntS]
 rw [hl L 0 _ (Nat.zero_le _) ?tr (by show n - 0 < L; omega)]
 case tr => simp (maxSteps := 1000000) -implicitDefEqProofs (disch := omega) [-getElem?_pos, take_mx, h0]
 simp (maxSteps := 1000000) -implicitDefEqProofs (disch := omega) [-getElem?_pos, hw]
theorem den_mark0 (hL : 100 ≤ L) (k : Nat) (m : List Blk) (v : C) (c : Int) (hv : Sl m v []) : den T X L (k + 1) 97 [.c v, vi c] m = some ⟨vi c, m, 0, 0⟩ := by
 rw [den_eq T_97]
 have hlv := hv.lenV
 have hl := iter_up (f := fun s => exec (den T X L k) L m.length none c_laws_markIntS_b0 s) (tr := trim m.length (some [0, 1, 5])) (fun i => ⟨[(0, .c v), (1, vi c), (5, vi 0)], m, 0, 0⟩) 0 (fun i hi => by omega) ⟨0, _, by simp (maxSteps := 1000000) -implicitDefEqProofs (disch := omega) [-getElem?_pos, c_laws_markIntS_b0, hlv]; rfl⟩
 simp (maxSteps := 1000000) -implicitDefEqProofs (disch := omega) [-getElem?_pos, c_laws_markIntS]
 rw [hl L 0 _ ?tr (by omega) (by omega)]
 case tr => simp (maxSteps := 1000000) -implicitDefEqProofs (disch := omega) [-getElem?_pos, take_mx]
 simp (maxSteps := 1000000) -implicitDefEqProofs (disch := omega) [-getElem?_pos, c_laws_markIntS_b0, hlv, take_mx]
theorem den_heldS (k : Nat) (m : List Blk) (v : C) (n : Nat) (c : Int) (hv : Sl m v (marks c n)) (hx : n < L) (hb : n ≤ 1048576) (hc : 0 ≤ c ∧ c ≤ 1099511627776) :
  den T X L (k + 1) 98 [.c v, vi c] m = some ⟨vi (c + n), m, 0, 0⟩ := by
 rw [den_eq T_98]
 have hl := iter_blk (n0 := m.length) (id := 0) (ka := some [1]) (f := fun s => exec (den T X L k) L m.length none c_laws_heldIntS_b0 s) (tr := trim m.length (some [0, 1, 5])) (σ := Nat)
  (fun i => ⟨[(0, .c v), (1, vi (c + i)), (5, vi i)], m, 0, 0⟩) (fun i => i ≤ n) (fun i => n - i)
  (fun i => (.norm, ⟨[(1, vi (c + n))], m, 0, 0⟩)) ?w
 have hlv := hv.lenV
 rw [marks_len] at hlv
 case w =>
  intro i hi
  have hlv := hv.lenV
  rw [marks_len] at hlv
  by_cases he : i = n
  ·subst he
   refine ⟨.exit 0, _, by simp (maxSteps := 1000000) -implicitDefEqProofs (disch := omega) [-getElem?_pos, c_laws_heldIntS_b0, hlv]; rfl, ?_⟩
   simp (maxSteps := 1000000) -implicitDefEqProofs (disch := omega) [-getElem?_pos, c_blkx, take_mx]
  ·have hi' : (i : Int) < (n : Int) := by omega
   have hx := hv.ixV (i := (i : Int)) (by rw [marks_len]; omega)
   rw [Int.toNat_natCast] at hx
   have hd := hv.ldV (i := i) (by rw [marks_len]; omega)
   rw [marks_nth (by omega)] at hd
   refine ⟨.norm, _, by simp (maxSteps := 1000000) -implicitDefEqProofs (disch := omega) [-getElem?_pos, c_laws_heldIntS_b0, hi', hlv, hx, hd]; rfl, i + 1, ?_, by omega, by omega, rfl⟩
   simp (maxSteps := 1000000) -implicitDefEqProofs (disch := omega) [-getElem?_pos, take_mx]
   omega
 simp (maxSteps := 1000000) -implicitDefEqProofs (disch := omega) [-getElem?_pos, c_laws_heldIntS]
 rw [hl L 0 _ (Nat.zero_le _) ?tr (by show n - 0 < L; omega)]
 case tr => simp (maxSteps := 1000000) -implicitDefEqProofs (disch := omega) [-getElem?_pos, take_mx]
 simp (maxSteps := 1000000) -implicitDefEqProofs (disch := omega) [-getElem?_pos]
def OB (m : List Blk) (lo hi b bj : Nat) (c : C) (xs : List Int) : Prop :=
 (c = .nils ∧ xs = []) ∨ ∃ cs, c = .sl bj 0 xs.length cs.length ∧ lo ≤ bj ∧ bj < hi ∧ bj ≠ b ∧ m[bj]? = some ⟨cs, 3, 1, true⟩ ∧ xs.length ≤ cs.length ∧ ∀ i, i < xs.length → cs[i]? = some (ci (nth xs i))
def SO (m : List Blk) (lo hi : Nat) (v : C) (xss : List (List Int)) : Prop :=
 ∃ (b : Nat) (hs : List C) (bi : Nat → Nat), lo ≤ b ∧ b < hi ∧ v = .sl b 0 xss.length xss.length ∧ m[b]? = some ⟨hs, 103, 1, true⟩ ∧ hs.length = xss.length ∧
  (∀ i j, i < xss.length → j < xss.length → bi i = bi j → i = j) ∧ ∀ j, j < xss.length → ∃ c, hs[j]? = some c ∧ OB m lo hi b (bi j) c (nthL xss j)
section
variable {m m' : List Blk} {lo hi b bj : Nat} {c v : C} {xs : List Int} {xss : List (List Int)}
theorem OB.sl (h : OB m lo hi b bj c xs) : Sl m c xs := by
 rcases h with h | ⟨cs, h1, _, _, _, h2, h3, h4⟩
 ·exact .inl h
 ·exact .inr ⟨bj, 0, cs.length, ⟨cs, 3, 1, true⟩, h1, by simp [live, h2], .inr rfl, fun j hj => by rw [Nat.zero_add]; exact h4 j hj⟩
theorem OB.congr (h : OB m lo hi b bj c xs) (hm : ∀ q, lo ≤ q → q < hi → m'[q]? = m[q]?) : OB m' lo hi b bj c xs := by
 rcases h with h | ⟨cs, h1, h2, h3, h4, h5, h6⟩
 ·exact .inl h
 ·exact .inr ⟨cs, h1, h2, h3, h4, (hm bj h2 h3).trans h5, h6⟩
theorem SO.congr (h : SO m lo hi v xss) (hm : ∀ q, lo ≤ q → q < hi → m'[q]? = m[q]?) : SO m' lo hi v xss := by
 obtain ⟨b, hs, bi, h1, h2, h3, h4, h5, h6, h7⟩ := h
 exact ⟨b, hs, bi, h1, h2, h3, (hm b h1 h2).trans h4, h5, h6, fun j hj => let ⟨c, k1, k2⟩ := h7 j hj; ⟨c, k1, k2.congr hm⟩⟩
theorem SO.grow {l : List Blk} (h : SO m lo hi v xss) (hh : hi ≤ m.length) : SO (m ++ l) lo hi v xss := h.congr fun q _ h2 => List.getElem?_append_left (by omega)
theorem SO.ss (h : SO m lo hi v xss) : SS m v xss := by
 obtain ⟨b, hs, bi, h1, h2, h3, h4, h5, h6, h7⟩ := h
 exact .inr ⟨b, 0, xss.length, ⟨hs, 103, 1, true⟩, h3, by simp [live, h4, h5], .inr rfl, fun j hj => let ⟨c, k1, k2⟩ := h7 j hj; ⟨c, by rw [Nat.zero_add]; exact k1, k2.sl⟩⟩
theorem SO.wide {lo' hi' : Nat} (h : SO m lo hi v xss) (h1 : lo' ≤ lo) (h2 : hi ≤ hi') : SO m lo' hi' v xss := by
 obtain ⟨b, hs, bi, k1, k2, k3, k4, k5, k6, k7⟩ := h
 refine ⟨b, hs, bi, by omega, by omega, k3, k4, k5, k6, fun j hj => ?_⟩
 obtain ⟨c, q1, q2⟩ := k7 j hj
 refine ⟨c, q1, ?_⟩
 rcases q2 with q2 | ⟨cs, a1, a2, a3, a4⟩
 ·exact .inl q2
 ·exact .inr ⟨cs, a1, by omega, by omega, a4⟩
theorem OB.mark (hL : 2000000 ≤ L) (k : Nat) (h : OB m lo hi b bj c xs) (hhi : hi ≤ m.length) (hx : xs.length ≤ 1048576) {c0 : Int} (hc : 0 ≤ c0 ∧ c0 ≤ 1099511627776) :
  ∃ m' W, den T X L (k + 1) 97 [.c c, vi c0] m = some ⟨vi (c0 + xs.length), m', 0, W⟩ ∧ W ≤ m.length - lo ∧ m'.length = m.length ∧ (∀ q, q ≠ bj → m'[q]? = m[q]?) ∧ (∀ q, q < lo ∨ hi ≤ q → m'[q]? = m[q]?) ∧ OB m' lo hi b bj c (marks c0 xs.length) := by
 by_cases h0 : xs.length = 0
 ·obtain rfl : xs = [] := List.length_eq_zero_iff.1 h0
  refine ⟨m, 0, ?_, Nat.zero_le _, rfl, fun _ _ => rfl, fun _ _ => rfl, ?_⟩
  ·have := den_mark0 (X := X) (L := L) (by omega) k m c c0 h.sl
   simpa using this
  ·simpa [marks] using h
 ·rcases h with ⟨_, h⟩ | ⟨cs, h1, h2, h3, h4, h5, h6, h7⟩
  ·subst h; exact absurd rfl h0
  ·have hlt := lt_of_get h5
   refine ⟨_, _, by rw [h1]; exact den_markG k m bj xs.length c0 cs 3 h5 (by omega) h6 (by omega) hx hc, by omega, by simp, fun q hq => List.getElem?_set_ne (Ne.symm hq), fun q hq => List.getElem?_set_ne (by omega), .inr ⟨mkC c0 xs.length cs, ?_, h2, h3, h4, List.getElem?_set_self hlt, ?_, fun i hi => ?_⟩⟩
   ·rw [marks_len, mkC_len h6, h1]
   ·rw [marks_len, mkC_len h6]; exact h6
   ·rw [marks_len] at hi
    rw [mkC_get hi, marks_nth hi]
end
def tot : List (List Int) → Nat
 | [] => 0
 | xs :: r => xs.length + tot r
theorem tot_take {xss : List (List Int)} {i : Nat} (h : i < xss.length) : tot (xss.take (i + 1)) = tot (xss.take i) + (nthL xss i).length := by
 induction xss generalizing i with
 | nil => simp at h
 | cons xs r ih =>
  cases i with
  | zero => simp [tot, nthL]
  | succ i =>
   simp only [List.length_cons] at h
   simp only [List.take_succ_cons, tot]
   rw [ih (i := i) (by omega)]
   simp only [nthL, List.getD_cons_succ]
   omega
def mkSS (c : Int) (xss : List (List Int)) : List (List Int) := (List.range xss.length).map fun i => marks (c + tot (xss.take i)) (nthL xss i).length
theorem mkSS_len (c : Int) (xss : List (List Int)) : (mkSS c xss).length = xss.length := by simp [mkSS]
theorem mkSS_nth {c : Int} {xss : List (List Int)} {i : Nat} (h : i < xss.length) : nthL (mkSS c xss) i = marks (c + tot (xss.take i)) (nthL xss i).length := by
 simp [nthL, mkSS, List.getD_eq_getElem?_getD, h]
def mixS (c : Int) (xss : List (List Int)) (n : Nat) : List (List Int) := (List.range xss.length).map fun i => if i < n then marks (c + tot (xss.take i)) (nthL xss i).length else nthL xss i
theorem mixS_len (c : Int) (xss : List (List Int)) (n : Nat) : (mixS c xss n).length = xss.length := by simp [mixS]
theorem mixS_nth {c : Int} {xss : List (List Int)} {i n : Nat} (h : i < xss.length) : nthL (mixS c xss n) i = if i < n then marks (c + tot (xss.take i)) (nthL xss i).length else nthL xss i := by
 simp [nthL, mixS, List.getD_eq_getElem?_getD, h]
theorem mixS_zero (c : Int) (xss : List (List Int)) : mixS c xss 0 = xss := (nthL_ext (mixS_len c xss 0)).1 fun j hj => by
 rw [mixS_len] at hj
 rw [mixS_nth hj, if_neg (Nat.not_lt_zero _)]
theorem mixS_all (c : Int) (xss : List (List Int)) : mixS c xss xss.length = mkSS c xss := (nthL_ext (by rw [mixS_len, mkSS_len])).1 fun j hj => by
 rw [mixS_len] at hj
 rw [mixS_nth hj, if_pos hj, mkSS_nth hj]
theorem SO.mark (hL : 2000000 ≤ L) (k : Nat) {m : List Blk} {lo hi : Nat} {v : C} {xss : List (List Int)} (h : SO m lo hi v xss) (hhi : hi ≤ m.length) (hb : xss.length ≤ 1048576) (hbs : ∀ xs ∈ xss, xs.length ≤ 1048576) {c0 : Int} (hc : 0 ≤ c0 ∧ c0 ≤ 1048576) (ht : tot xss ≤ 1073741824) :
  ∃ m' W, den T X L (k + 2) 52 [.c v, vi c0] m = some ⟨vi (c0 + tot xss), m', 0, W⟩ ∧ W ≤ m.length - lo ∧ m'.length = m.length ∧ (∀ q, q < lo ∨ hi ≤ q → m'[q]? = m[q]?) ∧ SO m' lo hi v (mkSS c0 xss) := by
 rw [den_eq T_52]
 obtain ⟨b, hs, bi, h1, h2, rfl, h4, h5, h6, h7⟩ := h
 have htt : ∀ i, tot (xss.take i) ≤ tot xss := by
  intro i
  clear h4 h5 h6 h7 hb hbs ht
  induction xss generalizing i with
  | nil => simp [tot]
  | cons xs r ih =>
   cases i with
   | zero => simp [tot]
   | succ i => simp only [List.take_succ_cons, tot]; have := ih i; omega
 -- what holds at a head
 let I : Nat × List Blk × Nat → Prop := fun s => s.1 ≤ xss.length ∧ s.2.1.length = m.length ∧ s.2.2 ≤ m.length - lo ∧ (∀ q, q < lo ∨ hi ≤ q → s.2.1[q]? = m[q]?) ∧ s.2.1[b]? = some ⟨hs, 103, 1, true⟩ ∧
  ∀ j, j < xss.length → ∃ c, hs[j]? = some c ∧ OB s.2.1 lo hi b (bi j) c (nthL (mixS c0 xss s.1) j)
 have hlp := iter_ex (n0 := m.length) (id := 0) (ka := some [1]) (f := fun s => exec (den T X L (k + 1)) L m.length none c_laws_markIntSS_b0 s) (tr := trim m.length (some [0, 1, 5])) (σ := Nat × List Blk × Nat)
  (fun s => ⟨[(0, .c (.sl b 0 xss.length xss.length)), (1, vi (c0 + tot (xss.take s.1))), (5, vi s.1)], s.2.1, 0, s.2.2⟩) I (fun s => xss.length - s.1)
  (fun r => ∃ M W, r = (.norm, ⟨[(1, vi (c0 + tot xss))], M, 0, W⟩) ∧ I (xss.length, M, W)) ?w
 case w =>
  rintro ⟨i, M, W⟩ ⟨hil, hl, hW, ho, hhd, hbk⟩
  simp only at hil hl hW ho hhd hbk
  have hss : SS M (.sl b 0 xss.length xss.length) (mixS c0 xss i) := by
   refine .inr ⟨b, 0, xss.length, ⟨hs, 103, 1, true⟩, by rw [mixS_len], by simp [live, hhd, h5], .inr rfl, fun j hj => ?_⟩
   rw [mixS_len] at hj
   obtain ⟨c, k1, k2⟩ := hbk j hj
   exact ⟨c, by rw [Nat.zero_add]; exact k1, k2.sl⟩
  have hlv := hss.lenV
  rw [mixS_len] at hlv
  have htk : ∀ a, List.take (mx m.length a) M = M := fun a => List.take_of_length_le (by rw [hl, mx_eq]; omega)
  have htk0 : List.take m.length M = M := List.take_of_length_le (by omega)
  by_cases he : i = xss.length
  ·subst he
   rw [List.take_length]
   refine ⟨.exit 0, _, by simp (maxSteps := 1000000) -implicitDefEqProofs (disch := omega) [-getElem?_pos, c_laws_markIntSS_b0, hlv]; rfl, _, by simp (maxSteps := 1000000) -implicitDefEqProofs (disch := omega) [-getElem?_pos, c_blkx, htk, htk0] <;> rfl, M, W, rfl, Nat.le_refl _, hl, hW, ho, hhd, hbk⟩
  ·have hi' : (i : Int) < (xss.length : Int) := by omega
   have hx := hss.ixV (i := (i : Int)) (by rw [mixS_len]; omega)
   rw [Int.toNat_natCast] at hx
   obtain ⟨c, k1, k2⟩ := hbk i (by omega)
   rw [mixS_nth (by omega), if_neg (Nat.lt_irrefl _)] at k2
   have hld : ld1V M (.c (ptrOf (.sl b 0 xss.length xss.length) i)) = some (.c c) := by
    simp [ld1V, ptrOf, live, hhd, h5, k1]
   have htb := htt i
   obtain ⟨M', W', d1, d2, d3, d4, d5, d6⟩ := k2.mark (X := X) hL k (by omega) (hbs _ (nthL_mem (by omega))) (c0 := c0 + tot (xss.take i)) (by omega)
   have hbne : b ≠ bi i ∨ nthL xss i = [] := by
    rcases k2 with ⟨_, k2⟩ | ⟨cs, _, _, _, k2, _⟩
    ·exact .inr k2
    ·exact .inl (Ne.symm k2)
   have htk' : ∀ a, List.take (mx m.length a) M' = M' := fun a => List.take_of_length_le (by rw [d3, hl, mx_eq]; omega)
   have htk0' : List.take m.length M' = M' := List.take_of_length_le (by omega)
   refine ⟨.norm, _, by simp (maxSteps := 1000000) -implicitDefEqProofs (disch := omega) [-getElem?_pos, c_laws_markIntSS_b0, hi', hlv, hx, hld, d1]; rfl, (i + 1, M', mx W (W' - (M.length - m.length))), ?_, ?_, by show xss.length - (i + 1) < xss.length - i; omega⟩
   ·have := tot_take (xss := xss) (i := i) (by omega)
    simp (maxSteps := 1000000) -implicitDefEqProofs (disch := omega) [-getElem?_pos, htk', htk0', this, d3]
    omega
   ·refine ⟨by show i + 1 ≤ _; omega, d3.trans hl, ?_, fun q hq => (d5 q hq).trans (ho q hq), ?_, fun j hj => ?_⟩
    ·show mx W (W' - (M.length - m.length)) ≤ _
     rw [mx_eq]; omega
    ·rcases hbne with hbne | hbne
     ·exact (d4 b hbne).trans hhd
     ·-- nothing was written
      by_cases e : b = bi i
      ·rcases k2 with ⟨k2, _⟩ | ⟨cs, _, _, _, k2, _⟩
       ·subst k2
        have hz := den_mark0 (X := X) (L := L) (by omega) k M .nils (c0 + tot (xss.take i)) (.inl ⟨rfl, rfl⟩)
        rw [hz] at d1
        simp only [Option.some.injEq, Ret.mk.injEq] at d1
        show M'[b]? = _
        rw [← d1.2.1]
        exact hhd
       ·exact absurd e.symm k2
      ·exact (d4 b e).trans hhd
    ·obtain ⟨cj, q1, q2⟩ := hbk j hj
     refine ⟨cj, q1, ?_⟩
     show OB M' lo hi b (bi j) cj (nthL (mixS c0 xss (i + 1)) j)
     rw [mixS_nth hj] at q2 ⊢
     by_cases e : j = i
     ·subst e
      rw [k1] at q1
      injection q1 with q1
      subst q1
      rw [if_pos (Nat.lt_succ_self _)]
      exact d6
     ·have hne : bi j ≠ bi i := fun h => e (h6 j i hj (by omega) h)
      have q3 : OB M lo hi b (bi j) cj (if j < i + 1 then marks (c0 + tot (xss.take j)) (nthL xss j).length else nthL xss j) := by
       by_cases hji : j < i
       ·rw [if_pos hji] at q2; rw [if_pos (show j < i + 1 by omega)]; exact q2
       ·rw [if_neg hji] at q2; rw [if_neg (show ¬ j < i + 1 by omega)]; exact q2
      rcases q3 with q3 | ⟨cs, a1, a2, a3, a4, a5, a6⟩
      ·exact .inl q3
      ·exact .inr ⟨cs, a1, a2, a3, a4, (d4 _ hne).trans a5, a6⟩
 obtain ⟨r, hr, M, W, rfl, g1, g2, g3, g4, g5, g6⟩ := hlp L (0, m, 0) ⟨[(5, vi 0), (4, vi 0), (0, .c (.sl b 0 xss.length xss.length)), (1, vi c0)], m, 0, 0⟩ ⟨Nat.zero_le _, rfl, Nat.zero_le _, fun _ _ => rfl, h4, fun j hj => by
   obtain ⟨c, k1, k2⟩ := h7 j hj
   exact ⟨c, k1, by rw [mixS_zero]; exact k2⟩⟩ (by simp (maxSteps := 1000000) -implicitDefEqProofs (disch := omega) [-getElem?_pos, take_mx, tot]) (by show xss.length - 0 < L; omega)
 have g2 : M.length = m.length := g2
 refine ⟨M, W, ?_, g3, g2, g4, b, hs, bi, h1, h2, by rw [mkSS_len], g5, by rw [mkSS_len]; exact h5, by rw [mkSS_len]; exact h6, fun j hj => ?_⟩
 ·have htk : ∀ a, List.take (mx m.length a) M = M := fun a => List.take_of_length_le (by rw [g2, mx_eq]; omega)
  have htk0 : List.take m.length M = M := List.take_of_length_le (by omega)
  simp (maxSteps := 1000000) -implicitDefEqProofs (disch := omega) [-getElem?_pos, c_laws_markIntSS]
  rw [hr]
  by_cases hw : W = 0
  ·subst hw
   simp (maxSteps := 1000000) -implicitDefEqProofs (disch := omega) [-getElem?_pos, htk, htk0, g2]
  ·simp (maxSteps := 1000000) -implicitDefEqProofs (disch := omega) [-getElem?_pos, htk, htk0, hw]
 ·rw [mkSS_len] at hj
  rw [← mixS_all]
  exact g6 j hj
theorem den_heldIntSS (hL : 2000000 ≤ L) (k : Nat) (m : List Blk) (v : C) (xss : List (List Int)) (c0 : Int) (hv : SS m v (mkSS c0 xss)) (hb : xss.length ≤ 1048576) (hbs : ∀ xs ∈ xss, xs.length ≤ 1048576) (hc : 0 ≤ c0 ∧ c0 ≤ 1048576) (ht : tot xss ≤ 1073741824) :
  den T X L (k + 2) 53 [.c v, vi c0] m = some ⟨vi (c0 + tot xss), m, 0, 0⟩ := by
 rw [den_eq T_53]
 have htt : ∀ i, tot (xss.take i) ≤ tot xss := by
  intro i
  clear hv hb hbs ht
  induction xss generalizing i with
  | nil => simp [tot]
  | cons xs r ih =>
   cases i with
   | zero => simp [tot]
   | succ i => simp only [List.take_succ_cons, tot]; have := ih i; omega
 have hlv := hv.lenV
 rw [mkSS_len] at hlv
 have hlp := iter_blk (n0 := m.length) (id := 0) (ka := some [1]) (f := fun s => exec (den T X L (k + 1)) L m.length none c_laws_heldIntSS_b0 s) (tr := trim m.length (some [0, 1, 5])) (σ := Nat)
  (fun i => ⟨[(0, .c v), (1, vi (c0 + tot (xss.take i))), (5, vi i)], m, 0, 0⟩) (fun i => i ≤ xss.length) (fun i => xss.length - i)
  (fun i => (.norm, ⟨[(1, vi (c0 + tot xss))], m, 0, 0⟩)) ?w
 case w =>
  intro i hi
  by_cases he : i = xss.length
  ·subst he
   rw [List.take_length]
   refine ⟨.exit 0, _, by simp (maxSteps := 1000000) -implicitDefEqProofs (disch := omega) [-getElem?_pos, c_laws_heldIntSS_b0, hlv]; rfl, ?_⟩
   simp (maxSteps := 1000000) -implicitDefEqProofs (disch := omega) [-getElem?_pos, c_blkx, take_mx]
  ·have hi' : (i : Int) < (xss.length : Int) := by omega
   have hx := hv.ixV (i := (i : Int)) (by rw [mkSS_len]; omega)
   rw [Int.toNat_natCast] at hx
   obtain ⟨c, k1, k2⟩ := hv.ldV (i := i) (by rw [mkSS_len]; omega)
   rw [mkSS_nth (by omega)] at k2
   have htb := htt i
   have hxs := hbs _ (nthL_mem (i := i) (by omega))
   have hz := den_heldS (X := X) (L := L) k m c _ _ k2 (by omega) hxs (by omega)
   have hnn : ¬ c0 + (tot (xss.take i) : Int) + ((nthL xss i).length : Int) < 0 := by omega
   refine ⟨.norm, _, by simp (maxSteps := 1000000) -implicitDefEqProofs (disch := omega) [-getElem?_pos, c_laws_heldIntSS_b0, hi', hlv, hx, k1, hz, hnn]; rfl, i + 1, ?_, by omega, by omega, rfl⟩
   have := tot_take (xss := xss) (i := i) (by omega)
   simp (maxSteps := 1000000) -implicitDefEqProofs (disch := omega) [-getElem?_pos, take_mx, this]
   omega
 simp (maxSteps := 1000000) -implicitDefEqProofs (disch := omega) [-getElem?_pos, c_laws_heldIntSS]
 rw [hlp L 0 _ (Nat.zero_le _) ?tr (by show xss.length - 0 < L; omega)]
 case tr => simp (maxSteps := 1000000) -implicitDefEqProofs (disch := omega) [-getElem?_pos, take_mx, tot]
 simp (maxSteps := 1000000) -implicitDefEqProofs (disch := omega) [-getElem?_pos]
theorem fresh_SO (m : List Blk) (xss : List (List Int)) : SO (freshM m xss) m.length (freshM m xss).length (.sl m.length 0 xss.length xss.length) xss := by
 have hl : (freshM m xss).length = m.length + 1 + xss.length := by simp [freshM]; omega
 refine ⟨m.length, hd (m.length + 1) xss, fun j => m.length + 1 + j, Nat.le_refl _, by rw [hl]; omega, rfl, by unfold freshM; rw [get_app0]; rfl, hd_len _ _, fun i j _ _ h => by simp only at h; omega, fun j hj => ⟨_, hd_get hj, .inr ⟨ints (nthL xss j), by rw [ints_len], by show m.length ≤ m.length + 1 + j; omega, by rw [hl]; show m.length + 1 + j < _; omega, by show m.length + 1 + j ≠ _; omega, ?_, by rw [ints_len]; exact Nat.le_refl _, fun i hi => ints_get' hi⟩⟩⟩
 unfold freshM
 show (_ : List Blk)[m.length + 1 + j]? = _
 rw [show m.length + 1 + j = m.length + (j + 1) by omega, get_app]
 simp [nthL, List.getD_eq_getElem?_getD, hj, blkI]
end Go.Proofs.YtfbeplbcaanimaaGreat
set_option linter.unusedVariables false
set_option linter.unusedSimpArgs false
set_option maxHeartbeats 4000000
namespace Go.Proofs.YtfbeplbcaanimaaGreat
variable {X : FuncId → List V → List Blk → Option Ret} {L : Nat}
def SlA (m : List Blk) (c : C) (xs : List Int) : Prop :=
 (c = .nils ∧ xs = []) ∨ ∃ b off tot blk, c = .sl b off xs.length tot ∧ live m b tot = some blk ∧ (blk.esz = 0 ∨ blk.esz = 1) ∧ off + xs.length ≤ blk.cs.length ∧ (blk.cs.drop off).take xs.length = ints xs
theorem SlA.sl {m : List Blk} {c : C} {xs : List Int} (h : SlA m c xs) : Sl m c xs := by
 rcases h with h | ⟨b, off, tot, blk, h1, h2, h3, h4, h5⟩
 ·exact .inl h
 ·refine .inr ⟨b, off, tot, blk, h1, h2, h3, fun j hj => ?_⟩
  have := congrArg (fun l => l[j]?) h5
  simp only [List.getElem?_take, List.getElem?_drop, if_pos hj, ints_get' hj] at this
  exact this
theorem SlA.grow {m l : List Blk} {c : C} {xs : List Int} (h : SlA m c xs) : SlA (m ++ l) c xs := by
 rcases h with h | ⟨b, off, tot, blk, h1, h2, h3⟩
 ·exact .inl h
 ·exact .inr ⟨b, off, tot, blk, h1, live_grow h2, h3⟩
theorem SlA_blk {m : List Blk} {b : Nat} {xs : List Int} (h : m[b]? = some (blkI xs)) : SlA m (.sl b 0 xs.length xs.length) xs :=
 .inr ⟨b, 0, xs.length, blkI xs, rfl, by simp [live, h, ints_len], .inr rfl, by simp [ints_len], List.take_of_length_le (by simp [ints_len])⟩
theorem OB.sla {m : List Blk} {lo hi b bj : Nat} {c : C} {xs : List Int} (h : OB m lo hi b bj c xs) : SlA m c xs := by
 rcases h with h | ⟨cs, h1, _, _, _, h2, h3, h4⟩
 ·exact .inl h
 ·refine .inr ⟨bj, 0, cs.length, ⟨cs, 3, 1, true⟩, h1, by simp [live, h2], .inr rfl, by simpa using h3, ?_⟩
  rw [List.drop_zero]
  apply List.ext_getElem?
  intro j
  by_cases hj : j < xs.length
  ·rw [List.getElem?_take_of_lt hj, ints_get' hj]; exact h4 j hj
  ·rw [List.getElem?_take_eq_none (by omega), List.getElem?_eq_none (by rw [ints_len]; omega)]
def SSA (m : List Blk) (v : C) (xss : List (List Int)) : Prop :=
 (v = .nils ∧ xss = []) ∨ ∃ b off tot blk, v = .sl b off xss.length tot ∧ live m b tot = some blk ∧ (blk.esz = 0 ∨ blk.esz = 1) ∧ ∀ j, j < xss.length → ∃ h, blk.cs[off + j]? = some h ∧ SlA m h (nthL xss j)
section
variable {m l : List Blk} {v : C} {xss : List (List Int)}
theorem SSA.ss (h : SSA m v xss) : SS m v xss := by
 rcases h with h | ⟨b, off, tot, blk, h1, h2, h3, h4⟩
 ·exact .inl h
 ·exact .inr ⟨b, off, tot, blk, h1, h2, h3, fun j hj => let ⟨c, a, b⟩ := h4 j hj; ⟨c, a, b.sl⟩⟩
theorem SSA.grow (h : SSA m v xss) : SSA (m ++ l) v xss := by
 rcases h with h | ⟨b, off, tot, blk, h1, h2, h3, h4⟩
 ·exact .inl h
 ·exact .inr ⟨b, off, tot, blk, h1, live_grow h2, h3, fun j hj => let ⟨c, a, b⟩ := h4 j hj; ⟨c, a, b.grow⟩⟩
theorem SSA.ldV (h : SSA m v xss) {i : Nat} (hi : i < xss.length) : ∃ c, ld1V m (.c (ptrOf v i)) = some (.c c) ∧ SlA m c (nthL xss i) := by
 rcases h with ⟨rfl, rfl⟩ | ⟨b, off, tot, blk, rfl, h2, h3, h4⟩
 ·simp at hi
 ·obtain ⟨c, e1, e2⟩ := h4 i hi
  exact ⟨c, by simp [ld1V, h2, ptrOf, e1], e2⟩
theorem SO.ssa {lo hi : Nat} (h : SO m lo hi v xss) : SSA m v xss := by
 obtain ⟨b, hs, bi, h1, h2, h3, h4, h5, h6, h7⟩ := h
 exact .inr ⟨b, 0, xss.length, ⟨hs, 103, 1, true⟩, h3, by simp [live, h4, h5], .inr rfl, fun j hj => let ⟨c, k1, k2⟩ := h7 j hj; ⟨c, by rw [Nat.zero_add]; exact k1, k2.sla⟩⟩
theorem SSA.refs (h : SSA m v xss) : v.refs ≤ m.length := by
 rcases h with ⟨rfl, _⟩ | ⟨b, off, tot, blk, rfl, h2, _, _⟩
 ·exact Nat.zero_le _
 ·exact live_lt h2
end
theorem den_own (k : Nat) (m : List Blk) (c : C) (xs : List Int) (hv : SlA m c xs) (hb : xs.length ≤ 1048576) :
  den T X L (k + 1) 110 [.c c] m = some ⟨.c (.sl m.length 0 xs.length xs.length), m ++ [blkI xs], 0, 0⟩ := by
 rw [den_eq T_110]
 rcases hv with ⟨rfl, rfl⟩ | ⟨b, off, tot, blk, rfl, h2, h3, h4, h5⟩
 ·simp (maxSteps := 1000000) -implicitDefEqProofs (disch := omega) [-getElem?_pos, c_impl_own, ints]
 ·have hlv := fun l => live_grow (l := l) h2
  simp (maxSteps := 1000000) -implicitDefEqProofs (disch := omega) [-getElem?_pos, c_impl_own, hlv, h4, h5, ints_len, ints_refs]
theorem den_l1Copy (k : Nat) (m : List Blk) (c : C) (xs : List Int) (hv : SlA m c xs) (hb : xs.length ≤ 1048576) :
  den T X L (k + 1) 99 [.c c] m = some ⟨.c (.sl m.length 0 xs.length xs.length), m ++ [blkI xs], 0, 0⟩ := by
 rw [den_eq T_99]
 rcases hv with ⟨rfl, rfl⟩ | ⟨b, off, tot, blk, rfl, h2, h3, h4, h5⟩
 ·simp (maxSteps := 1000000) -implicitDefEqProofs (disch := omega) [-getElem?_pos, c_spec_l1Copy, ints]
 ·have hlv := fun l => live_grow (l := l) h2
  simp (maxSteps := 1000000) -implicitDefEqProofs (disch := omega) [-getElem?_pos, c_spec_l1Copy, hlv, h4, h5, ints_len, ints_refs]
theorem freshM_len (m : List Blk) (xss : List (List Int)) : (freshM m xss).length = m.length + 1 + xss.length := by simp [freshM]; omega
theorem fin_fresh2 (m : List Blk) (xss : List (List Int)) (env : List (Nat × V)) : fin m.length (.c (.sl m.length 0 xss.length xss.length)) ⟨env, freshM m xss, escN m xss.length, 0⟩ = freshR m xss := by
 rw [← fin_fresh m xss env]
 congr 2
 unfold midM freshM
 rw [hdF_all rfl]
theorem freshM_take1 {m : List Blk} {xss : List (List Int)} {k : Nat} (h : xss.length = k) : List.take (mx m.length (mx (escN m k) (m.length + 1))) (freshM m xss) = freshM m xss := by
 subst h
 exact List.take_of_length_le (by rw [freshM_len, mx_eq, mx_eq]; unfold escN; split <;> omega)
theorem freshM_grow {m l : List Blk} {q r : Nat} {xss : List (List Int)} {xs : List Int} (hq : q = m.length + 1 + xss.length) (hr : r ≤ m.length + 1) :
  List.take (mx m.length (mx (escN m (xss.length + 1)) r)) ((freshM m xss).set m.length ⟨hd (m.length + 1) xss ++ [.sl q 0 xs.length xs.length], 103, 1, true⟩ ++ blkI xs :: l) = freshM m (xss ++ [xs]) := by
 subst hq
 rw [hd_snoc]
 have : (freshM m xss).set m.length ⟨hd (m.length + 1) (xss ++ [xs]), 103, 1, true⟩ ++ blkI xs :: l = freshM m (xss ++ [xs]) ++ l := by simp [freshM]
 rw [this, List.take_append_of_le_length (by rw [freshM_len, mx_eq, mx_eq, List.length_append]; unfold escN; rw [if_neg (Nat.succ_ne_zero _)]; simp; omega)]
 exact List.take_of_length_le (by rw [freshM_len, mx_eq, mx_eq, List.length_append]; unfold escN; rw [if_neg (Nat.succ_ne_zero _)]; simp; omega)
theorem den_ownSet (hL : 2000000 ≤ L) (k : Nat) (m : List Blk) (v : C) (xss : List (List Int)) (hv : SSA m v xss) (hb : xss.length ≤ 1048576) (hbs : ∀ xs ∈ xss, xs.length ≤ 1048576) :
  den T X L (k + 2) 78 [.c v] m = some (freshR m xss) := by
 rw [den_eq T_78]
 have hr := hv.refs
 have hlp := iter_blk (n0 := m.length) (id := 0) (ka := some [3]) (f := fun s => exec (den T X L (k + 1)) L m.length none c_impl_ownSet_b0 s) (tr := trim m.length (some [3, 7, 8, 9])) (σ := Nat)
  (fun i => ⟨[(3, .c (.sl m.length 0 i i)), (7, .c v), (8, vi xss.length), (9, vi i)], freshM m (xss.take i), escN m i, 0⟩) (fun i => i ≤ xss.length) (fun i => xss.length - i)
  (fun i => (.norm, ⟨[(3, .c (.sl m.length 0 xss.length xss.length))], freshM m xss, escN m xss.length, 0⟩)) ?w
 case w =>
  intro i hi
  by_cases he : i = xss.length
  ·subst he
   rw [List.take_length]
   refine ⟨.exit 0, _, by simp (maxSteps := 1000000) -implicitDefEqProofs (disch := omega) [-getElem?_pos, c_impl_ownSet_b0]; rfl, ?_⟩
   simp (maxSteps := 1000000) -implicitDefEqProofs (disch := omega) [-getElem?_pos, c_blkx, freshM_take1]
  ·have hi' : (i : Int) < (xss.length : Int) := by omega
   have hlt : (xss.take i).length = i := by rw [List.length_take]; omega
   have hml := freshM_len m (xss.take i)
   rw [hlt] at hml
   have hgr := fun q l r hq hr => freshM_grow (m := m) (l := l) (q := q) (r := r) (xss := xss.take i) (xs := nthL xss i) hq hr
   simp only [hlt, take_snoc (show i < xss.length by omega)] at hgr
   have hg : SSA (freshM m (xss.take i)) v xss := hv.grow
   have hlv : live (freshM m (xss.take i)) m.length i = some ⟨hd (m.length + 1) (xss.take i), 103, 1, true⟩ := by
    unfold freshM
    rw [live_app0]
    simp [hd_len, hlt]
   have hhl := hd_len (m.length + 1) (xss.take i)
   rw [hlt] at hhl
   generalize hM : freshM m (xss.take i) = M at hml hgr hg hlv
   generalize hM' : freshM m (xss.take (i + 1)) = M' at hgr
   generalize hd (m.length + 1) (xss.take i) = H at hlv hhl hgr
   have hx := hg.ss.ixV (i := (i : Int)) (by omega)
   rw [Int.toNat_natCast] at hx
   obtain ⟨c, hc1, hc2⟩ := hg.ldV (i := i) (by omega)
   have hxs := hbs _ (nthL_mem (i := i) (by omega))
   have hz := den_own (X := X) (L := L) k M c _ hc2 hxs
   obtain ⟨q, hq⟩ : ∃ q, q = m.length + 1 + i := ⟨_, rfl⟩
   rw [← hq] at hml
   rw [hml] at hz
   have hgq := fun l r hr => hgr q l r hq hr
   have hlv2 := fun l => live_grow (l := l) hlv
   have hmq : m.length < M.length := by omega
   have hset : ∀ x l, (M ++ l).set m.length x = M.set m.length x ++ l := fun x l => List.set_append_left _ _ hmq
   have hget : live (M ++ [blkI (nthL xss i), ⟨[.sl q 0 (nthL xss i).length (nthL xss i).length], 103, 1, true⟩]) (q + 1) 1 = some ⟨[.sl q 0 (nthL xss i).length (nthL xss i).length], 103, 1, true⟩ := by
    unfold live
    rw [← hml, get_app]
    simp
   have he2 : mx (escN m i) (q + 1) = escN m (i + 1) := by
    rw [mx_eq]; unfold escN
    rw [if_neg (Nat.succ_ne_zero i)]
    split <;> omega
   refine ⟨.norm, _, by simp (maxSteps := 1000000) -implicitDefEqProofs (disch := omega) [-getElem?_pos, c_impl_ownSet_b0, hi', hx, hc1, hz, hlv2, hhl, hset, hml, hget]; rfl, i + 1, ?_, by omega, by omega, rfl⟩
   have he3 : mx (escN m (i + 1)) (q + 1) = escN m (i + 1) := by rw [mx_eq]; unfold escN; rw [if_neg (Nat.succ_ne_zero i)]; omega
   simp (maxSteps := 1000000) -implicitDefEqProofs (disch := omega) [-getElem?_pos, he2, he3]
   rw [hM']
   exact hgq _ _ (by show mx (m.length + 1) v.refs ≤ m.length + 1; rw [mx_eq]; omega)
 have h0 : m ++ [⟨[], 103, 1, true⟩] = freshM m [] := by simp [freshM, hd]
 have hlg := fun l => (hv.grow (l := l)).ss.lenV
 simp (maxSteps := 1000000) -implicitDefEqProofs (disch := omega) [-getElem?_pos, c_impl_ownSet, hlg]
 rw [hlp L 0 _ (Nat.zero_le _) ?tr (by show xss.length - 0 < L; omega)]
 case tr =>
  simp (maxSteps := 1000000) -implicitDefEqProofs (disch := omega) [-getElem?_pos, h0]
  exact ⟨List.take_of_length_le (by rw [freshM_len, mx_eq, mx_eq]; simp; omega), rfl⟩
 simp (maxSteps := 1000000) -implicitDefEqProofs (disch := omega) [-getElem?_pos, -fin, fin_fresh2, freshM_take1]
theorem den_l16Copy (hL : 2000000 ≤ L) (k : Nat) (m : List Blk) (v : C) (xss : List (List Int)) (hv : SSA m v xss) (hb : xss.length ≤ 1048576) (hbs : ∀ xs ∈ xss, xs.length ≤ 1048576) :
  den T X L (k + 2) 56 [.c v] m = some (freshR m xss) := by
 rw [den_eq T_56]
 have hr := hv.refs
 have hlp := iter_blk (n0 := m.length) (id := 0) (ka := some [3]) (f := fun s => exec (den T X L (k + 1)) L m.length none c_spec_l16Copy_b0 s) (tr := trim m.length (some [0, 3, 4])) (σ := Nat)
  (fun i => ⟨[(0, .c v), (3, .c (.sl m.length 0 i i)), (4, vi i)], freshM m (xss.take i), escN m i, 0⟩) (fun i => i ≤ xss.length) (fun i => xss.length - i)
  (fun i => (.norm, ⟨[(3, .c (.sl m.length 0 xss.length xss.length))], freshM m xss, escN m xss.length, 0⟩)) ?w
 case w =>
  intro i hi
  have hg : SSA (freshM m (xss.take i)) v xss := hv.grow
  by_cases he : i = xss.length
  ·subst he
   rw [List.take_length] at hg ⊢
   refine ⟨.exit 0, _, by simp (maxSteps := 1000000) -implicitDefEqProofs (disch := omega) [-getElem?_pos, c_spec_l16Copy_b0, hg.ss.lenV]; rfl, ?_⟩
   simp (maxSteps := 1000000) -implicitDefEqProofs (disch := omega) [-getElem?_pos, c_blkx, freshM_take1]
  ·have hi' : (i : Int) < (xss.length : Int) := by omega
   have hlt : (xss.take i).length = i := by rw [List.length_take]; omega
   have hml := freshM_len m (xss.take i)
   rw [hlt] at hml
   have hgr := fun q l r hq hr => freshM_grow (m := m) (l := l) (q := q) (r := r) (xss := xss.take i) (xs := nthL xss i) hq hr
   simp only [hlt, take_snoc (show i < xss.length by omega)] at hgr
   have hlv : live (freshM m (xss.take i)) m.length i = some ⟨hd (m.length + 1) (xss.take i), 103, 1, true⟩ := by
    unfold freshM
    rw [live_app0]
    simp [hd_len, hlt]
   have hhl := hd_len (m.length + 1) (xss.take i)
   rw [hlt] at hhl
   generalize hM : freshM m (xss.take i) = M at hml hgr hg hlv
   generalize hM' : freshM m (xss.take (i + 1)) = M' at hgr
   generalize hd (m.length + 1) (xss.take i) = H at hlv hhl hgr
   have hx := hg.ss.ixV (i := (i : Int)) (by omega)
   rw [Int.toNat_natCast] at hx
   obtain ⟨c, hc1, hc2⟩ := hg.ldV (i := i) (by omega)
   have hxs := hbs _ (nthL_mem (i := i) (by omega))
   have hz := den_l1Copy (X := X) (L := L) k M c _ hc2 hxs
   obtain ⟨q, hq⟩ : ∃ q, q = m.length + 1 + i := ⟨_, rfl⟩
   rw [← hq] at hml
   rw [hml] at hz
   have hgq := fun l r hr => hgr q l r hq hr
   have hlv2 := fun l => live_grow (l := l) hlv
   have hmq : m.length < M.length := by omega
   have hset : ∀ x l, (M ++ l).set m.length x = M.set m.length x ++ l := fun x l => List.set_append_left _ _ hmq
   have hget : live (M ++ [blkI (nthL xss i), ⟨[.sl q 0 (nthL xss i).length (nthL xss i).length], 103, 1, true⟩]) (q + 1) 1 = some ⟨[.sl q 0 (nthL xss i).length (nthL xss i).length], 103, 1, true⟩ := by
    unfold live
    rw [← hml, get_app]
    simp
   have he2 : mx (escN m i) (q + 1) = escN m (i + 1) := by
    rw [mx_eq]; unfold escN
    rw [if_neg (Nat.succ_ne_zero i)]
    split <;> omega
   refine ⟨.norm, _, by simp (maxSteps := 1000000) -implicitDefEqProofs (disch := omega) [-getElem?_pos, c_spec_l16Copy_b0, hg.ss.lenV, hi', hx, hc1, hz, hlv2, hhl, hset, hml, hget]; rfl, i + 1, ?_, by omega, by omega, rfl⟩
   have he3 : mx (escN m (i + 1)) (q + 1) = escN m (i + 1) := by rw [mx_eq]; unfold escN; rw [if_neg (Nat.succ_ne_zero i)]; omega
   simp (maxSteps := 1000000) -implicitDefEqProofs (disch := omega) [-getElem?_pos, he2, he3]
   rw [hM']
   exact hgq _ _ (by show mx v.refs (m.length + 1) ≤ m.length + 1; rw [mx_eq]; omega)
 have h0 : m ++ [⟨[], 103, 1, true⟩] = freshM m [] := by simp [freshM, hd]
 simp (maxSteps := 1000000) -implicitDefEqProofs (disch := omega) [-getElem?_pos, c_spec_l16Copy]
 rw [hlp L 0 _ (Nat.zero_le _) ?tr (by show xss.length - 0 < L; omega)]
 case tr =>
  simp (maxSteps := 1000000) -implicitDefEqProofs (disch := omega) [-getElem?_pos, h0]
  exact ⟨List.take_of_length_le (by rw [freshM_len, mx_eq, mx_eq]; simp; omega), rfl⟩
 simp (maxSteps := 1000000) -implicitDefEqProofs (disch := omega) [-getElem?_pos, -fin, fin_fresh2, freshM_take1]
theorem den_out {f : FuncId} (h : T f = none) (k : Nat) (args : List V) (m : List Blk) : den T X L k f args m = X f args m := by
 cases k with
 | zero => rfl
 | succ k => simp only [den, h]
theorem tot_flatten (xss : List (List Int)) : xss.flatten.length = tot xss := by
 induction xss with
 | nil => rfl
 | cons xs r ih => simp [tot, ih]
theorem tot_le_all (xss : List (List Int)) (i : Nat) : tot (xss.take i) ≤ tot xss := by
 induction xss generalizing i with
 | nil => simp [tot]
 | cons xs r ih =>
  cases i with
  | zero => simp [tot]
  | succ i => simp only [List.take_succ_cons, tot]; have := ih i; omega
def outL (m : List Blk) (l : List Int) : Ret := if l = [] then ⟨.c .nils, m, 0, 0⟩ else ⟨.c (.sl m.length 0 l.length l.length), m ++ [blkI l], 0, 0⟩
theorem flatten_take {xss : List (List Int)} {i : Nat} (h : i < xss.length) : (xss.take i).flatten ++ nthL xss i = (xss.take (i + 1)).flatten := by
 rw [← take_snoc h]; simp
theorem take_gb {l : List Blk} {a b c : Nat} (h : l.length ≤ b) : l.take (mx a (mx b c)) = l := List.take_of_length_le (by rw [mx_eq, mx_eq]; omega)
theorem den_Concat (hL : 2000000 ≤ L) (k : Nat) (m : List Blk) (v : C) (xss : List (List Int)) (hv : SSA m v xss) (hb : xss.length ≤ 1048576) (hbs : ∀ xs ∈ xss, xs.length ≤ 1048576) (ht : tot xss ≤ 1073741824) :
  den T libX L (k + 2) 130 [.c v] m = some (outL m xss.flatten) := by
 rw [den_eq T_130]
 have hr := hv.refs
 have hlp := iter_blk (n0 := m.length) (id := 0) (ka := some [0, 3]) (f := fun s => exec (den T libX L (k + 1)) L m.length none c_slices_Concat_int_int_b0 s) (tr := trim m.length (some [0, 3, 9, 10, 11])) (σ := Nat)
  (fun i => ⟨[(0, .c v), (3, vi (tot (xss.take i))), (9, .c v), (10, vi xss.length), (11, vi i)], m, 0, 0⟩) (fun i => i ≤ xss.length) (fun i => xss.length - i)
  (fun i => (.norm, ⟨[(0, .c v), (3, vi (tot xss))], m, 0, 0⟩)) ?w
 case w =>
  intro i hi
  by_cases he : i = xss.length
  ·subst he
   rw [List.take_length]
   refine ⟨.exit 0, _, by simp (maxSteps := 1000000) -implicitDefEqProofs (disch := omega) [-getElem?_pos, c_slices_Concat_int_int_b0]; rfl, ?_⟩
   simp (maxSteps := 1000000) -implicitDefEqProofs (disch := omega) [-getElem?_pos, c_blkx, take_mx]
  ·have hi' : (i : Int) < (xss.length : Int) := by omega
   have hx := hv.ss.ixV (i := (i : Int)) (by omega)
   rw [Int.toNat_natCast] at hx
   obtain ⟨c, hc1, hc2⟩ := hv.ldV (i := i) (by omega)
   have hl := hc2.sl.lenV
   have htk := tot_take (xss := xss) (i := i) (by omega)
   have h1 := tot_le_all xss (i + 1)
   have hnn : ¬ (tot (xss.take i) : Int) + ((nthL xss i).length : Int) < 0 := by omega
   refine ⟨.norm, _, by simp (maxSteps := 1000000) -implicitDefEqProofs (disch := omega) [-getElem?_pos, c_slices_Concat_int_int_b0, hi', hx, hc1, hl, hnn]; rfl, i + 1, ?_, by omega, by omega, rfl⟩
   simp (maxSteps := 1000000) -implicitDefEqProofs (disch := omega) [-getElem?_pos, take_mx, htk]
 have hfl := tot_flatten xss
 have hg : ∀ n : Int, den T libX L (k + 1) 135 [.c .nils, vi n] m = growF 3 [.c .nils, vi n] m := fun n => by
  rw [den_out rfl, libX_grow]
 by_cases h0 : tot xss = 0
 ·have hf : xss.flatten = [] := List.length_eq_zero_iff.1 (by omega)
  have hemp : ∀ i, i < xss.length → nthL xss i = [] := fun i hi => by
   have := tot_take (xss := xss) (i := i) hi
   have := tot_le_all xss (i + 1)
   exact List.length_eq_zero_iff.1 (by omega)
  have hlq := iter_blk (n0 := m.length) (id := 2) (ka := some [6]) (f := fun s => exec (den T libX L (k + 1)) L m.length none c_slices_Concat_int_int_b1 s) (tr := trim m.length (some [6, 25, 26, 27])) (σ := Nat)
   (fun i => ⟨[(6, .c .nils), (25, .c v), (26, vi xss.length), (27, vi i)], m, 0, 0⟩) (fun i => i ≤ xss.length) (fun i => xss.length - i)
   (fun i => (.norm, ⟨[(6, .c .nils)], m, 0, 0⟩)) ?w2
  case w2 =>
   intro i hi
   by_cases he : i = xss.length
   ·subst he
    refine ⟨.exit 2, _, by simp (maxSteps := 1000000) -implicitDefEqProofs (disch := omega) [-getElem?_pos, c_slices_Concat_int_int_b1]; rfl, ?_⟩
    simp (maxSteps := 1000000) -implicitDefEqProofs (disch := omega) [-getElem?_pos, c_blkx, take_mx]
   ·have hi' : (i : Int) < (xss.length : Int) := by omega
    have hx := hv.ss.ixV (i := (i : Int)) (by omega)
    rw [Int.toNat_natCast] at hx
    obtain ⟨c, hc1, hc2⟩ := hv.ldV (i := i) (by omega)
    rw [hemp i (by omega)] at hc2
    rcases hc2 with ⟨rfl, _⟩ | ⟨b, off, tt, blk, rfl, h2, h3, h4, h5⟩
    ·refine ⟨.norm, _, by simp (maxSteps := 1000000) -implicitDefEqProofs (disch := omega) [-getElem?_pos, c_slices_Concat_int_int_b1, hi', hx, hc1]; rfl, i + 1, ?_, by omega, by omega, rfl⟩
     simp (maxSteps := 1000000) -implicitDefEqProofs (disch := omega) [-getElem?_pos, take_mx]
    ·simp only [List.length_nil, Nat.add_zero] at h4
     refine ⟨.norm, _, by simp (maxSteps := 1000000) -implicitDefEqProofs (disch := omega) [-getElem?_pos, c_slices_Concat_int_int_b1, hi', hx, hc1, h2, h4]; rfl, i + 1, ?_, by omega, by omega, rfl⟩
     simp (maxSteps := 1000000) -implicitDefEqProofs (disch := omega) [-getElem?_pos, take_mx]
  rw [hf]
  unfold outL
  rw [if_pos rfl]
  simp (maxSteps := 1000000) -implicitDefEqProofs (disch := omega) [-getElem?_pos, c_slices_Concat_int_int, hv.ss.lenV]
  rw [hlp L 0 _ (Nat.zero_le _) (by simp (maxSteps := 1000000) -implicitDefEqProofs (disch := omega) [-getElem?_pos, take_mx, tot]) (by show xss.length - 0 < L; omega)]
  rw [h0]
  simp (maxSteps := 1000000) -implicitDefEqProofs (disch := omega) [-getElem?_pos, hg, growF, hv.ss.lenV]
  rw [hlq L 0 _ (Nat.zero_le _) (by simp (maxSteps := 1000000) -implicitDefEqProofs (disch := omega) [-getElem?_pos, take_mx]) (by show xss.length - 0 < L; omega)]
  simp (maxSteps := 1000000) -implicitDefEqProofs (disch := omega) [-getElem?_pos, take_mx]
 ·have hf : xss.flatten ≠ [] := fun h => h0 (by rw [← hfl, h]; rfl)
  have hlq := iter_blk (n0 := m.length) (id := 2) (ka := some [6]) (f := fun s => exec (den T libX L (k + 1)) L m.length none c_slices_Concat_int_int_b1 s) (tr := trim m.length (some [6, 25, 26, 27])) (σ := Nat)
   (fun i => ⟨[(6, .c (.sl m.length 0 (tot (xss.take i)) (tot (xss.take i)))), (25, .c v), (26, vi xss.length), (27, vi i)], m ++ [blkI (xss.take i).flatten], 0, 0⟩) (fun i => i ≤ xss.length) (fun i => xss.length - i)
   (fun i => (.norm, ⟨[(6, .c (.sl m.length 0 (tot xss) (tot xss)))], m ++ [blkI xss.flatten], 0, 0⟩)) ?w3
  case w3 =>
   intro i hi
   by_cases he : i = xss.length
   ·subst he
    rw [List.take_length]
    refine ⟨.exit 2, _, by simp (maxSteps := 1000000) -implicitDefEqProofs (disch := omega) [-getElem?_pos, c_slices_Concat_int_int_b1]; rfl, ?_⟩
    simp (maxSteps := 1000000) -implicitDefEqProofs (disch := omega) [-getElem?_pos, c_blkx]
   ·have hi' : (i : Int) < (xss.length : Int) := by omega
    have hg2 : SSA (m ++ [blkI (xss.take i).flatten]) v xss := hv.grow
    have hx := hg2.ss.ixV (i := (i : Int)) (by omega)
    rw [Int.toNat_natCast] at hx
    obtain ⟨c, hc1, hc2⟩ := hg2.ldV (i := i) (by omega)
    have htk := tot_take (xss := xss) (i := i) (by omega)
    have h1 := tot_le_all xss (i + 1)
    have hlf := tot_flatten (xss.take i)
    have hft := flatten_take (xss := xss) (i := i) (by omega)
    have hin : ∀ a b : List Int, ints a ++ ints b = ints (a ++ b) := fun a b => by simp [ints]
    generalize (xss.take i).flatten = F at hg2 hx hc1 hc2 hlf hft ⊢
    generalize hF' : (xss.take (i + 1)).flatten = F' at hft
    rcases hc2 with ⟨rfl, hn⟩ | ⟨b, off, tt, blk, rfl, h2, h3, h4, h5⟩
    ·rw [hn] at hft htk
     simp only [List.length_nil, Nat.add_zero, List.append_nil] at hft htk
     refine ⟨.norm, _, by simp (maxSteps := 1000000) -implicitDefEqProofs (disch := omega) [-getElem?_pos, c_slices_Concat_int_int_b1, hi', hx, hc1, ints_len, hlf]; rfl, i + 1, ?_, by omega, by omega, rfl⟩
     simp (maxSteps := 1000000) -implicitDefEqProofs (disch := omega) [-getElem?_pos, htk, hft, ints_refs]
     rw [hF']
     exact take_gb (by simp)
    ·refine ⟨.norm, _, by simp (maxSteps := 1000000) -implicitDefEqProofs (disch := omega) [-getElem?_pos, c_slices_Concat_int_int_b1, hi', hx, hc1, h2, h4, h5, ints_len, hlf]; rfl, i + 1, ?_, by omega, by omega, rfl⟩
     simp (maxSteps := 1000000) -implicitDefEqProofs (disch := omega) [-getElem?_pos, htk, hin, hft, ints_refs]
     rw [hF']
     exact take_gb (by simp)
  unfold outL
  rw [if_neg hf, hfl]
  have hpos : 0 < (tot xss : Int) := by omega
  have hne : ¬ (tot xss : Int) = 0 := by omega
  have hb8 : (tot xss : Int) * 8 ≤ 140737488355328 := by omega
  simp (maxSteps := 1000000) -implicitDefEqProofs (disch := omega) [-getElem?_pos, c_slices_Concat_int_int, hv.ss.lenV]
  rw [hlp L 0 _ (Nat.zero_le _) (by simp (maxSteps := 1000000) -implicitDefEqProofs (disch := omega) [-getElem?_pos, take_mx, tot]) (by show xss.length - 0 < L; omega)]
  have hlg := fun l => (hv.grow (l := l)).ss.lenV
  simp (maxSteps := 1000000) -implicitDefEqProofs (disch := omega) [-getElem?_pos, hg, growF, hlg, hpos, hne, h0, hb8]
  rw [hlq L 0 _ (Nat.zero_le _) ?tr (by show xss.length - 0 < L; omega)]
  case tr =>
   simp (maxSteps := 1000000) -implicitDefEqProofs (disch := omega) [-getElem?_pos, tot, ints]
   exact take_gb (by simp)
  simp (maxSteps := 1000000) -implicitDefEqProofs (disch := omega) [-getElem?_pos, ints_refs]
end Go.Proofs.YtfbeplbcaanimaaGreat
set_option linter.unusedVariables false
set_option linter.unusedSimpArgs false
set_option maxHeartbeats 4000000
namespace Go.Proofs.YtfbeplbcaanimaaGreat
variable {X : FuncId → List V → List Blk → Option Ret} {L : Nat}
def Asc (l : List Int) : Prop := l.Pairwise fun a b => a ≤ b
theorem srt_asc (l : List Int) : Asc (srt l) := by
 have := List.pairwise_mergeSort (le := fun x y : Int => decide (x ≤ y)) (fun a b c h1 h2 => by simp at h1 h2 ⊢; omega) (fun a b => by simp; omega) l
 exact this.imp fun h => by simpa using h
theorem srt_perm (l : List Int) : (srt l).Perm l := List.mergeSort_perm _ _
theorem asc_eq {l k : List Int} (h1 : Asc l) (h2 : Asc k) (h : l.Perm k) : l = k := List.Perm.eq_of_pairwise (le := fun a b => a ≤ b) (fun a b _ _ h1 h2 => by omega) h1 h2 h
theorem srt_eq {l k : List Int} (h : l.Perm k) (hk : Asc k) : srt l = k := asc_eq (srt_asc l) hk ((srt_perm l).trans h)
theorem srt_nil : srt [] = [] := by simp [srt]
def kI (x : Int) : List Int → Nat
 | [] => 0
 | y :: r => if y < x then kI x r + 1 else 0
theorem kI_le (x : Int) : ∀ xs, kI x xs ≤ xs.length
 | [] => Nat.le_refl _
 | y :: r => by
  unfold kI
  have := kI_le x r
  split
  ·simp only [List.length_cons]; omega
  ·exact Nat.zero_le _
theorem kI_lt {x : Int} : ∀ {xs : List Int} {i : Nat}, i < kI x xs → nth xs i < x
 | [], i, h => by simp [kI] at h
 | y :: r, i, h => by
  unfold kI at h
  split at h
  ·rename_i hy
   cases i with
   | zero => simpa [nth] using hy
   | succ i =>
    have := kI_lt (x := x) (xs := r) (i := i) (by omega)
    simpa [nth] using this
  ·omega
theorem kI_stop {x : Int} : ∀ {xs : List Int}, kI x xs < xs.length → ¬ nth xs (kI x xs) < x
 | [], h => by simp at h
 | y :: r, h => by
  unfold kI at h ⊢
  split at h
  ·rename_i hy
   rw [if_pos hy]
   have := kI_stop (x := x) (xs := r) (by simp only [List.length_cons] at h; omega)
   simpa [nth] using this
  ·rename_i hy
   rw [if_neg hy]
   simpa [nth] using hy
def insL (xs : List Int) (x : Int) : List Int := xs.take (kI x xs) ++ x :: xs.drop (kI x xs)
theorem insL_len (xs : List Int) (x : Int) : (insL xs x).length = xs.length + 1 := by
 have := kI_le x xs
 simp [insL]; omega
theorem insL_perm (xs : List Int) (x : Int) : (insL xs x).Perm (x :: xs) := by
 unfold insL
 have := List.perm_middle (a := x) (l₁ := xs.take (kI x xs)) (l₂ := xs.drop (kI x xs))
 rwa [List.take_append_drop] at this
theorem insL_asc {xs : List Int} {x : Int} (h : Asc xs) : Asc (insL xs x) := by
 unfold insL
 have hs : Asc (xs.take (kI x xs) ++ xs.drop (kI x xs)) := by rw [List.take_append_drop]; exact h
 obtain ⟨h1, h2, h3⟩ := List.pairwise_append.1 hs
 have hlt : ∀ a ∈ xs.take (kI x xs), a < x := by
  intro a ha
  obtain ⟨i, hi, rfl⟩ := List.getElem_of_mem ha
  rw [List.length_take] at hi
  have := kI_lt (x := x) (xs := xs) (i := i) (by omega)
  simpa [nth, List.getD_eq_getElem?_getD, show i < xs.length by omega] using this
 have hge : ∀ b ∈ xs.drop (kI x xs), x ≤ b := by
  intro b hb
  have hne : kI x xs < xs.length := by
   rcases Nat.lt_or_ge (kI x xs) xs.length with h | h
   ·exact h
   ·rw [List.drop_of_length_le h] at hb; cases hb
  have h0 := kI_stop hne
  rw [List.drop_eq_getElem_cons hne] at hb h2
  have h4 : nth xs (kI x xs) = xs[kI x xs] := by simp [nth, List.getD_eq_getElem?_getD, hne]
  rcases List.mem_cons.1 hb with rfl | hb
  ·omega
  ·have := (List.pairwise_cons.1 h2).1 b hb
   omega
 refine List.pairwise_append.2 ⟨h1, List.pairwise_cons.2 ⟨hge, h2⟩, fun a ha b hb => ?_⟩
 rcases List.mem_cons.1 hb with rfl | hb
 ·have := hlt a ha; omega
 ·exact h3 a ha b hb
def insAll (acc xs : List Int) : List Int := xs.foldl insL acc
theorem insAll_asc : ∀ (xs acc : List Int), Asc acc → Asc (insAll acc xs)
 | [], _, h => h
 | x :: r, acc, h => insAll_asc r _ (insL_asc h)
theorem insAll_perm : ∀ (xs acc : List Int), (insAll acc xs).Perm (acc ++ xs)
 | [], acc => by rw [List.append_nil]; exact List.Perm.refl _
 | x :: r, acc => (insAll_perm r (insL acc x)).trans (((insL_perm acc x).append_right r).trans (List.perm_middle.symm))
theorem insAll_len (acc xs : List Int) : (insAll acc xs).length = acc.length + xs.length := by rw [(insAll_perm xs acc).length_eq, List.length_append]
theorem insAll_srt (xs : List Int) : insAll [] xs = srt xs := (srt_eq (by simpa using (insAll_perm xs []).symm) (insAll_asc xs [] .nil)).symm
theorem insAll_snoc (acc xs : List Int) (x : Int) : insL (insAll acc xs) x = insAll acc (xs ++ [x]) := by simp [insAll]
theorem outL_srt {m : List Blk} {l : List Int} : outL m (srt l) = if l = [] then ⟨.c .nils, m, 0, 0⟩ else ⟨.c (.sl m.length 0 l.length l.length), m ++ [blkI (srt l)], 0, 0⟩ := by
 unfold outL
 by_cases h : l = []
 ·subst h; simp [srt_nil]
 ·have : srt l ≠ [] := fun e => h (List.length_eq_zero_iff.1 (by rw [← srt_len l, e]; rfl))
  rw [if_neg h, if_neg this, srt_len]
theorem den_listed (hL : 2000000 ≤ L) (k : Nat) (m : List Blk) (v : C) (xss : List (List Int)) (hv : SSA m v xss) (hb : xss.length ≤ 1048576) (hbs : ∀ xs ∈ xss, xs.length ≤ 1048576) (ht : tot xss ≤ 1073741824) :
  den T libX L (k + 3) 120 [.c v] m = some (outL m (srt xss.flatten)) := by
 rw [den_eq T_120]
 have hc := den_Concat (L := L) hL k m v xss hv hb hbs ht
 have hfl := tot_flatten xss
 rw [outL_srt]
 unfold outL at hc
 have hs : ∀ (c : C) (M : List Blk), den T libX L (k + 2) 121 [.c c] M = sortF [.c c] M := fun c M => by rw [den_out rfl, libX_sort]
 generalize xss.flatten = l at *
 by_cases h0 : l = []
 ·rw [if_pos h0] at hc ⊢
  simp (maxSteps := 1000000) -implicitDefEqProofs (disch := omega) [-getElem?_pos, c_impl_listed, hc, hs, sortF]
 ·rw [if_neg h0] at hc ⊢
  have hne : ¬ l.length = 0 := fun h => h0 (List.length_eq_zero_iff.1 h)
  have hlt : l.length < 4611686018427387904 := by omega
  simp (maxSteps := 1000000) -implicitDefEqProofs (disch := omega) [-getElem?_pos, c_impl_listed, hc, hs, sortF, h0, hne, hlt, ints_len, unI_ints, ints_refs]
theorem SlA_drop {blk : Blk} {off k : Nat} {xs : List Int} (h : (blk.cs.drop off).take xs.length = ints xs) (hk : k ≤ xs.length) : (blk.cs.drop (off + k)).take (xs.length - k) = ints (xs.drop k) := by
 have := congrArg (List.drop k) h
 rw [List.drop_take, List.drop_drop] at this
 rw [this]
 simp [ints, List.map_drop]
theorem SlA_take {blk : Blk} {off k : Nat} {xs : List Int} (h : (blk.cs.drop off).take xs.length = ints xs) (hk : k ≤ xs.length) : (blk.cs.drop off).take k = ints (xs.take k) := by
 have := congrArg (List.take k) h
 rw [List.take_take, Nat.min_eq_left hk] at this
 rw [this]
 simp [ints, List.map_take]
theorem den_l16Put (hL : 2000000 ≤ L) (k : Nat) (m : List Blk) (c : C) (xs : List Int) (x : Int) (hv : SlA m c xs) (hb : xs.length ≤ 1048576) :
  den T X L (k + 1) 107 [.c c, vi x] m = some ⟨.c (.sl m.length 0 (insL xs x).length (insL xs x).length), m ++ [blkI (insL xs x)], 0, 0⟩ := by
 rw [den_eq T_107]
 have hkl := kI_le x xs
 have hsl := hv.sl
 have hlp := iter_blk (n0 := m.length) (id := 0) (ka := some [0, 1, 5]) (f := fun s => exec (den T X L k) L m.length none c_spec_l16Put_b0 s) (tr := trim m.length (some [0, 1, 5])) (σ := Nat)
  (fun i => ⟨[(0, .c c), (1, vi x), (5, vi i)], m, 0, 0⟩) (fun i => i ≤ kI x xs) (fun i => kI x xs - i)
  (fun i => (.norm, ⟨[(0, .c c), (1, vi x), (5, vi (kI x xs))], m, 0, 0⟩)) ?w
 case w =>
  intro i hi
  by_cases he : i = kI x xs
  ·by_cases hq : kI x xs = xs.length
   ·refine ⟨.exit 0, _, by simp (maxSteps := 1000000) -implicitDefEqProofs (disch := omega) [-getElem?_pos, c_spec_l16Put_b0, he, hq, hsl.lenV]; rfl, ?_⟩
    rw [hq]
    simp (maxSteps := 1000000) -implicitDefEqProofs (disch := omega) [-getElem?_pos, c_blkx, take_mx]
   ·have hst := kI_stop (x := x) (xs := xs) (by omega)
    rw [← he] at hst ⊢
    have hi' : (i : Int) < (xs.length : Int) := by omega
    have hx := hsl.ixV (i := (i : Int)) (by omega)
    rw [Int.toNat_natCast] at hx
    have hd := hsl.ldV (i := i) (by omega)
    refine ⟨.exit 0, _, by simp (maxSteps := 1000000) -implicitDefEqProofs (disch := omega) [-getElem?_pos, c_spec_l16Put_b0, hi', hsl.lenV, hx, hd, hst]; rfl, ?_⟩
    simp (maxSteps := 1000000) -implicitDefEqProofs (disch := omega) [-getElem?_pos, c_blkx, take_mx]
  ·have hlt := kI_lt (x := x) (xs := xs) (i := i) (by omega)
   have hi' : (i : Int) < (xs.length : Int) := by omega
   have hx := hsl.ixV (i := (i : Int)) (by omega)
   rw [Int.toNat_natCast] at hx
   have hd := hsl.ldV (i := i) (by omega)
   refine ⟨.norm, _, by simp (maxSteps := 1000000) -implicitDefEqProofs (disch := omega) [-getElem?_pos, c_spec_l16Put_b0, hi', hsl.lenV, hx, hd, hlt]; rfl, i + 1, ?_, by omega, by omega, rfl⟩
   simp (maxSteps := 1000000) -implicitDefEqProofs (disch := omega) [-getElem?_pos, take_mx]
 have hil := insL_len xs x
 have hfin : ints (xs.take (kI x xs)) ++ C.int .i64 x :: ints (xs.drop (kI x xs)) = ints (insL xs x) := by simp [ints, insL]
 obtain ⟨j, hj⟩ : ∃ j, xs.length = kI x xs + j := ⟨xs.length - kI x xs, by omega⟩
 simp (maxSteps := 1000000) -implicitDefEqProofs (disch := omega) [-getElem?_pos, c_spec_l16Put]
 rw [hlp L 0 _ (Nat.zero_le _) (by simp (maxSteps := 1000000) -implicitDefEqProofs (disch := omega) [-getElem?_pos, take_mx]) (by show kI x xs - 0 < L; omega)]
 rcases hv with ⟨rfl, rfl⟩ | ⟨b, off, tt, blk, rfl, h2, h3, h4, h5⟩
 ·simp (maxSteps := 1000000) -implicitDefEqProofs (disch := omega) [-getElem?_pos, kI, insL, ints]
 ·have e1 := SlA_drop h5 hkl
  have e2 := SlA_take h5 hkl
  have hlv := fun l => live_grow (l := l) h2
  have g1 : off + kI x xs + j ≤ blk.cs.length := by omega
  have g2 : off + kI x xs ≤ blk.cs.length := by omega
  have g3 : ((kI x xs : Int) + (j : Int) - (kI x xs : Int)).toNat = j := by omega
  have l1 : (ints (xs.take (kI x xs))).length = kI x xs := by rw [ints_len, List.length_take]; omega
  have l2 : (ints (xs.drop (kI x xs))).length = j := by rw [ints_len, List.length_drop]; omega
  have hk1 : (kI x xs : Int) ≤ (kI x xs : Int) + (j : Int) := by omega
  have hz : blk.esz = 0 ∨ 1 = blk.esz := by omega
  have hil' : (insL xs x).length = kI x xs + (1 + j) := by omega
  rw [hj] at e1
  rw [show kI x xs + j - kI x xs = j by omega] at e1
  have rA : refsL (ints (xs.take (kI x xs))) = 0 := ints_refs _
  have rB : refsL (ints (xs.drop (kI x xs))) = 0 := ints_refs _
  have rI : refsL (ints (insL xs x)) = 0 := ints_refs _
  rw [hj, hil']
  generalize hI : ints (insL xs x) = I at hfin rI
  generalize ints (xs.take (kI x xs)) = A at hfin e2 l1 rA
  generalize ints (xs.drop (kI x xs)) = B at hfin e1 l2 rB
  generalize kI x xs = q at *
  have hj1 : (1 + j = j + 1) = True := eq_true (by omega)
  have htk : List.take (1 + j) (C.int .i64 x :: B) = C.int .i64 x :: B := List.take_of_length_le (by simp [l2]; omega)
  simp (maxSteps := 1000000) -implicitDefEqProofs (disch := omega) [-getElem?_pos, hlv, e1, e2, g1, g2, g3, hk1, hz, l1, l2, hfin, rA, rB, rI, hj1, htk, hI]
end Go.Proofs.YtfbeplbcaanimaaGreat
set_option linter.unusedVariables false
set_option linter.unusedSimpArgs false
set_option maxHeartbeats 4000000
namespace Go.Proofs.YtfbeplbcaanimaaGreat
variable {X : FuncId → List V → List Blk → Option Ret} {L : Nat}
theorem bk_len {xss : List (List Int)} (h : setOk xss = true) : ∀ xs ∈ xss, xs.length ≤ 3 := by
 intro xs hx
 obtain ⟨i, hi, rfl⟩ := List.getElem_of_mem hx
 simp only [setOk, Bool.and_eq_true, decide_eq_true_eq] at h
 have := h.2 i hi
 simp only [bkOk, Bool.and_eq_true, decide_eq_true_eq] at this
 rw [nthL_lt hi] at this
 exact this.1
theorem tot_b {n : Nat} : ∀ {xss : List (List Int)}, (∀ xs ∈ xss, xs.length ≤ n) → tot xss ≤ xss.length * n
 | [], _ => by simp [tot]
 | xs :: r, h => by
  have h1 := h xs (by simp)
  have h2 := tot_b (n := n) (xss := r) fun ys hy => h ys (by simp [hy])
  simp only [tot, List.length_cons, Nat.succ_mul]
  omega
theorem setOk_tot {xss : List (List Int)} (h : setOk xss = true) : tot xss ≤ 24 ∧ xss.length ≤ 8 := by
 have h1 := tot_b (bk_len h)
 have h2 := setOk_len h
 omega
theorem iter_tr {f : St → Option (Ex × St)} {tr : St → St} {st st' : St} (h : tr st = tr st') (n : Nat) : iter f tr n st = iter f tr n st' := by
 cases n with
 | zero => rfl
 | succ n => unfold iter; rw [h]
end Go.Proofs.YtfbeplbcaanimaaGreat
