/-
  Slices of slices of numbers that lie in memory of their own: marked, held to their marks; what is apart stays.
-/
import Derived.Test.YtkoloapgeilbdaaS5
set_option linter.unusedVariables false
set_option linter.unusedSimpArgs false
set_option maxHeartbeats 4000000
namespace Go.Proofs.Ytkoloapgeilbdaa
variable {X : FuncId → List V → List Blk → Option Ret} {L : Nat}

/-- A loop with what stands around it: out with something that has a property. -/
theorem iter_ex {n0 : Nat} {σ : Type} {f : St → Option (Ex × St)} {tr : St → St} {id : Nat} {ka : Option (List Nat)} (H : σ → St) (I : σ → Prop) (μ : σ → Nat) (Q : Ex × St → Prop)
    (hs : ∀ s, I s → ∃ e st, f (H s) = some (e, st) ∧ match e with
      | .norm => ∃ s', tr st = H s' ∧ I s' ∧ μ s' < μ s
      | e => ∃ r, blkC n0 id ka (some (e, st)) = some r ∧ Q r) :
    ∀ n s st, I s → tr st = H s → μ s < n → ∃ r, blkC n0 id ka (iter f tr n st) = some r ∧ Q r := by
  intro n
  induction n with
  | zero => intro s st _ _ h; omega
  | succ n ih =>
    intro s st hI ht hn
    obtain ⟨e, st', he, h⟩ := hs s hI
    unfold iter
    rw [ht, he]
    cases e with
    | norm =>
      obtain ⟨s', h1, h2, h3⟩ := h
      exact ih s' st' h2 h1 (by omega)
    | exit id => exact h
    | ret => exact h

def marks (c : Int) (n : Nat) : List Int := (List.range n).map fun (i : Nat) => c + i
theorem marks_len (c : Int) (n : Nat) : (marks c n).length = n := by simp [marks]
theorem marks_nth {c : Int} {n i : Nat} (h : i < n) : nth (marks c n) i = c + i := by simp [nth, marks, List.getD_eq_getElem?_getD, h]
theorem marks_snoc (c : Int) (n : Nat) : marks c n ++ [c + n] = marks c (n + 1) := by simp [marks, List.range_succ]
/-- The first cells marked. -/
def mkC (c : Int) (n : Nat) (cs : List C) : List C := ints (marks c n) ++ cs.drop n
theorem mkC_len {c : Int} {n : Nat} {cs : List C} (h : n ≤ cs.length) : (mkC c n cs).length = cs.length := by simp [mkC, ints_len, marks_len]; omega
theorem mkC_zero (c : Int) (cs : List C) : mkC c 0 cs = cs := by simp [mkC, marks, ints]
theorem mkC_lay {c : Int} {n : Nat} {cs : List C} (h : n < cs.length) : lay (mkC c n cs) n [ci (c + n)] = mkC c (n + 1) cs := by
  unfold mkC
  rw [List.drop_eq_getElem_cons h]
  have := lay_mid (a := ints (marks c n)) (b := [cs[n]]) (n := [ci (c + n)]) (r := cs.drop (n + 1)) (o := n) (by rw [ints_len, marks_len]) rfl
  rw [List.singleton_append] at this
  rw [this, ← marks_snoc]
  simp [ints]
theorem mkC_get {c : Int} {n i : Nat} {cs : List C} (h : i < n) : (mkC c n cs)[i]? = some (ci (c + i)) := by
  unfold mkC
  rw [List.getElem?_append_left (by rw [ints_len, marks_len]; exact h), ints_get' (by rw [marks_len]; exact h)]
  exact congrArg (fun x => some (ci x)) (marks_nth h)
theorem mkC_all (n : Nat) (c : Int) (ty : TypeId) (m : List Blk) (b : Nat) (cs : List C) (h : m[b]? = some ⟨cs, ty, 1, true⟩) : m.set b ⟨mkC c 0 cs, ty, 1, true⟩ = m := by
  rw [mkC_zero]
  have hlt := lt_of_get h
  apply List.ext_getElem?
  intro j
  by_cases hj : b = j
  · subst hj; rw [List.getElem?_set_self hlt, h]
  · rw [List.getElem?_set_ne hj]
theorem den_markG (k : Nat) (m : List Blk) (b n : Nat) (c : Int) (cs : List C) (ty : TypeId) (hm : m[b]? = some ⟨cs, ty, 1, true⟩) (hn : 0 < n) (hle : n ≤ cs.length) (hx : n < L) (hb : n ≤ 1048576) (hc : 0 ≤ c ∧ c ≤ 1099511627776) :
    den T X L (k + 1) 24 [.c (.sl b 0 n cs.length), vi c] m = some ⟨vi (c + n), m.set b ⟨mkC c n cs, ty, 1, true⟩, 0, m.length - b⟩ := by
  rw [den_eq T_24]
  have hlt := lt_of_get hm
  have hw : ¬ m.length - b = 0 := by omega
  have hl := iter_blk (n0 := m.length) (id := 0) (ka := some [1]) (f := fun s => exec (den T X L k) L m.length none c_laws_markIntS_b0 s) (tr := trim m.length (some [0, 1, 5])) (σ := Nat)
    (fun i => ⟨[(0, .c (.sl b 0 n cs.length)), (1, vi (c + i)), (5, vi i)], m.set b ⟨mkC c i cs, ty, 1, true⟩, 0, if i = 0 then 0 else m.length - b⟩) (fun i => i ≤ n) (fun i => n - i)
    (fun i => (.norm, ⟨[(1, vi (c + n))], m.set b ⟨mkC c n cs, ty, 1, true⟩, 0, m.length - b⟩)) ?w
  case w =>
    intro i hi
    have hlen := mkC_len (c := c) (n := i) (cs := cs) (by omega)
    have hlv : live (m.set b ⟨mkC c i cs, ty, 1, true⟩) b cs.length = some ⟨mkC c i cs, ty, 1, true⟩ := by rw [live_set _ _ _ _ hlt]; simp [hlen]
    by_cases he : i = n
    · subst he
      refine ⟨.exit 0, _, by simp (maxSteps := 1000000) (implicitDefEqProofs := false) (disch := omega) [-getElem?_pos, c_laws_markIntS_b0, hlv]; rfl, ?_⟩
      simp (maxSteps := 1000000) (implicitDefEqProofs := false) (disch := omega) [-getElem?_pos, c_blkx, take_set', show ¬ i = 0 by omega]
    · have hi' : (i : Int) < (n : Int) := by omega
      have hly := mkC_lay (c := c) (n := i) (cs := cs) (by omega)
      refine ⟨.norm, _, by simp (maxSteps := 1000000) (implicitDefEqProofs := false) (disch := omega) [-getElem?_pos, c_laws_markIntS_b0, hi', hlv, hlen, hly, List.set_set, List.length_set]; rfl, i + 1, ?_, by omega, by omega, rfl⟩
      simp (maxSteps := 1000000) (implicitDefEqProofs := false) (disch := omega) [-getElem?_pos, take_set']
      refine ⟨by omega, ?_⟩
      by_cases h0 : i = 0
      · simp [h0, mx_zero_l]
      · rw [if_neg h0]; exact mx_r (Nat.le_refl _)
  have h0 := mkC_all n c ty m b cs hm
  have hlv : live m b cs.length = some ⟨cs, ty, 1, true⟩ := by simp [live, hm]
  simp (maxSteps := 1000000) (implicitDefEqProofs := false) (disch := omega) [-getElem?_pos, c_laws_markIntS]
  rw [hl L 0 _ (Nat.zero_le _) ?tr (by show n - 0 < L; omega)]
  case tr => simp (maxSteps := 1000000) (implicitDefEqProofs := false) (disch := omega) [-getElem?_pos, take_mx, h0]
  simp (maxSteps := 1000000) (implicitDefEqProofs := false) (disch := omega) [-getElem?_pos, hw]
theorem den_mark0 (hL : 100 ≤ L) (k : Nat) (m : List Blk) (v : C) (c : Int) (hv : Sl m v []) : den T X L (k + 1) 24 [.c v, vi c] m = some ⟨vi c, m, 0, 0⟩ := by
  rw [den_eq T_24]
  have hlv := hv.lenV
  have hl := iter_up (f := fun s => exec (den T X L k) L m.length none c_laws_markIntS_b0 s) (tr := trim m.length (some [0, 1, 5])) (fun i => ⟨[(0, .c v), (1, vi c), (5, vi 0)], m, 0, 0⟩) 0 (fun i hi => by omega) ⟨0, _, by simp (maxSteps := 1000000) (implicitDefEqProofs := false) (disch := omega) [-getElem?_pos, c_laws_markIntS_b0, hlv]; rfl⟩
  simp (maxSteps := 1000000) (implicitDefEqProofs := false) (disch := omega) [-getElem?_pos, c_laws_markIntS]
  rw [hl L 0 _ ?tr (by omega) (by omega)]
  case tr => simp (maxSteps := 1000000) (implicitDefEqProofs := false) (disch := omega) [-getElem?_pos, take_mx]
  simp (maxSteps := 1000000) (implicitDefEqProofs := false) (disch := omega) [-getElem?_pos, c_laws_markIntS_b0, hlv, take_mx]
theorem den_heldS (k : Nat) (m : List Blk) (v : C) (n : Nat) (c : Int) (hv : Sl m v (marks c n)) (hx : n < L) (hb : n ≤ 1048576) (hc : 0 ≤ c ∧ c ≤ 1099511627776) :
    den T X L (k + 1) 25 [.c v, vi c] m = some ⟨vi (c + n), m, 0, 0⟩ := by
  rw [den_eq T_25]
  have hl := iter_blk (n0 := m.length) (id := 0) (ka := some [1]) (f := fun s => exec (den T X L k) L m.length none c_laws_heldIntS_b0 s) (tr := trim m.length (some [0, 1, 5])) (σ := Nat)
    (fun i => ⟨[(0, .c v), (1, vi (c + i)), (5, vi i)], m, 0, 0⟩) (fun i => i ≤ n) (fun i => n - i)
    (fun i => (.norm, ⟨[(1, vi (c + n))], m, 0, 0⟩)) ?w
  have hlv := hv.lenV
  rw [marks_len] at hlv
  case w =>
    intro i hi
    have hlv := hv.lenV
    rw [marks_len] at hlv
    by_cases he : i = n
    · subst he
      refine ⟨.exit 0, _, by simp (maxSteps := 1000000) (implicitDefEqProofs := false) (disch := omega) [-getElem?_pos, c_laws_heldIntS_b0, hlv]; rfl, ?_⟩
      simp (maxSteps := 1000000) (implicitDefEqProofs := false) (disch := omega) [-getElem?_pos, c_blkx, take_mx]
    · have hi' : (i : Int) < (n : Int) := by omega
      have hx := hv.ixV (i := (i : Int)) (by rw [marks_len]; omega)
      rw [Int.toNat_natCast] at hx
      have hd := hv.ldV (i := i) (by rw [marks_len]; omega)
      rw [marks_nth (by omega)] at hd
      refine ⟨.norm, _, by simp (maxSteps := 1000000) (implicitDefEqProofs := false) (disch := omega) [-getElem?_pos, c_laws_heldIntS_b0, hi', hlv, hx, hd]; rfl, i + 1, ?_, by omega, by omega, rfl⟩
      simp (maxSteps := 1000000) (implicitDefEqProofs := false) (disch := omega) [-getElem?_pos, take_mx]
      omega
  simp (maxSteps := 1000000) (implicitDefEqProofs := false) (disch := omega) [-getElem?_pos, c_laws_heldIntS]
  rw [hl L 0 _ (Nat.zero_le _) ?tr (by show n - 0 < L; omega)]
  case tr => simp (maxSteps := 1000000) (implicitDefEqProofs := false) (disch := omega) [-getElem?_pos, take_mx]
  simp (maxSteps := 1000000) (implicitDefEqProofs := false) (disch := omega) [-getElem?_pos]

/-! Memory of one's own. -/
/-- A slice of numbers in a block of its own. -/
def OB (m : List Blk) (lo hi b bj : Nat) (c : C) (xs : List Int) : Prop :=
  (c = .nils ∧ xs = []) ∨ ∃ cs, c = .sl bj 0 xs.length cs.length ∧ lo ≤ bj ∧ bj < hi ∧ bj ≠ b ∧ m[bj]? = some ⟨cs, 3, 1, true⟩ ∧ xs.length ≤ cs.length ∧ ∀ i, i < xs.length → cs[i]? = some (ci (nth xs i))
def SO (m : List Blk) (lo hi : Nat) (v : C) (xss : List (List Int)) : Prop :=
  ∃ (b : Nat) (hs : List C) (bi : Nat → Nat), lo ≤ b ∧ b < hi ∧ v = .sl b 0 xss.length xss.length ∧ m[b]? = some ⟨hs, 30, 1, true⟩ ∧ hs.length = xss.length ∧
    (∀ i j, i < xss.length → j < xss.length → bi i = bi j → i = j) ∧ ∀ j, j < xss.length → ∃ c, hs[j]? = some c ∧ OB m lo hi b (bi j) c (nthL xss j)
section
variable {m m' : List Blk} {lo hi b bj : Nat} {c v : C} {xs : List Int} {xss : List (List Int)}
theorem OB.sl (h : OB m lo hi b bj c xs) : Sl m c xs := by
  rcases h with h | ⟨cs, h1, _, _, _, h2, h3, h4⟩
  · exact .inl h
  · exact .inr ⟨bj, 0, cs.length, ⟨cs, 3, 1, true⟩, h1, by simp [live, h2], .inr rfl, fun j hj => by rw [Nat.zero_add]; exact h4 j hj⟩
theorem OB.congr (h : OB m lo hi b bj c xs) (hm : ∀ q, lo ≤ q → q < hi → m'[q]? = m[q]?) : OB m' lo hi b bj c xs := by
  rcases h with h | ⟨cs, h1, h2, h3, h4, h5, h6⟩
  · exact .inl h
  · exact .inr ⟨cs, h1, h2, h3, h4, (hm bj h2 h3).trans h5, h6⟩
theorem SO.congr (h : SO m lo hi v xss) (hm : ∀ q, lo ≤ q → q < hi → m'[q]? = m[q]?) : SO m' lo hi v xss := by
  obtain ⟨b, hs, bi, h1, h2, h3, h4, h5, h6, h7⟩ := h
  exact ⟨b, hs, bi, h1, h2, h3, (hm b h1 h2).trans h4, h5, h6, fun j hj => let ⟨c, k1, k2⟩ := h7 j hj; ⟨c, k1, k2.congr hm⟩⟩
theorem SO.grow {l : List Blk} (h : SO m lo hi v xss) (hh : hi ≤ m.length) : SO (m ++ l) lo hi v xss := h.congr fun q _ h2 => List.getElem?_append_left (by omega)
theorem SO.ss (h : SO m lo hi v xss) : SS m v xss := by
  obtain ⟨b, hs, bi, h1, h2, h3, h4, h5, h6, h7⟩ := h
  exact .inr ⟨b, 0, xss.length, ⟨hs, 30, 1, true⟩, h3, by simp [live, h4, h5], .inr rfl, fun j hj => let ⟨c, k1, k2⟩ := h7 j hj; ⟨c, by rw [Nat.zero_add]; exact k1, k2.sl⟩⟩
theorem SO.wide {lo' hi' : Nat} (h : SO m lo hi v xss) (h1 : lo' ≤ lo) (h2 : hi ≤ hi') : SO m lo' hi' v xss := by
  obtain ⟨b, hs, bi, k1, k2, k3, k4, k5, k6, k7⟩ := h
  refine ⟨b, hs, bi, by omega, by omega, k3, k4, k5, k6, fun j hj => ?_⟩
  obtain ⟨c, q1, q2⟩ := k7 j hj
  refine ⟨c, q1, ?_⟩
  rcases q2 with q2 | ⟨cs, a1, a2, a3, a4⟩
  · exact .inl q2
  · exact .inr ⟨cs, a1, by omega, by omega, a4⟩
/-- One of them marked. -/
theorem OB.mark (hL : 2000000 ≤ L) (k : Nat) (h : OB m lo hi b bj c xs) (hhi : hi ≤ m.length) (hx : xs.length ≤ 1048576) {c0 : Int} (hc : 0 ≤ c0 ∧ c0 ≤ 1099511627776) :
    ∃ m' W, den T X L (k + 1) 24 [.c c, vi c0] m = some ⟨vi (c0 + xs.length), m', 0, W⟩ ∧ W ≤ m.length - lo ∧ m'.length = m.length ∧ (∀ q, q ≠ bj → m'[q]? = m[q]?) ∧ (∀ q, q < lo ∨ hi ≤ q → m'[q]? = m[q]?) ∧ OB m' lo hi b bj c (marks c0 xs.length) := by
  by_cases h0 : xs.length = 0
  · obtain rfl : xs = [] := List.length_eq_zero_iff.1 h0
    refine ⟨m, 0, ?_, Nat.zero_le _, rfl, fun _ _ => rfl, fun _ _ => rfl, ?_⟩
    · have := den_mark0 (X := X) (L := L) (by omega) k m c c0 h.sl
      simpa using this
    · simpa [marks] using h
  · rcases h with ⟨_, h⟩ | ⟨cs, h1, h2, h3, h4, h5, h6, h7⟩
    · subst h; exact absurd rfl h0
    · have hlt := lt_of_get h5
      refine ⟨_, _, by rw [h1]; exact den_markG k m bj xs.length c0 cs 3 h5 (by omega) h6 (by omega) hx hc, by omega, by simp, fun q hq => List.getElem?_set_ne (Ne.symm hq), fun q hq => List.getElem?_set_ne (by omega), .inr ⟨mkC c0 xs.length cs, ?_, h2, h3, h4, List.getElem?_set_self hlt, ?_, fun i hi => ?_⟩⟩
      · rw [marks_len, mkC_len h6, h1]
      · rw [marks_len, mkC_len h6]; exact h6
      · rw [marks_len] at hi
        rw [mkC_get hi, marks_nth hi]
end
def tot : List (List Int) → Nat
  | [] => 0
  | xs :: r => xs.length + tot r
theorem tot_take {xss : List (List Int)} {i : Nat} (h : i < xss.length) : tot (xss.take (i + 1)) = tot (xss.take i) + (nthL xss i).length := by
  induction xss generalizing i with
  | nil => simp at h
  | cons xs r ih =>
    cases i with
    | zero => simp [tot, nthL]
    | succ i =>
      simp only [List.length_cons] at h
      simp only [List.take_succ_cons, tot]
      rw [ih (i := i) (by omega)]
      simp only [nthL, List.getD_cons_succ]
      omega
theorem tot_le {xss : List (List Int)} {i : Nat} (h : ∀ xs ∈ xss, xs.length ≤ 1048576) : tot (xss.take i) ≤ i * 1048576 := by
  induction xss generalizing i with
  | nil => simp [tot]
  | cons xs r ih =>
    cases i with
    | zero => simp [tot]
    | succ i =>
      have h1 := h xs (by simp)
      have h2 := ih (i := i) fun ys hy => h ys (by simp [hy])
      simp only [List.take_succ_cons, tot]
      omega
/-- Marked from a number on, one behind the other. -/
def mkSS (c : Int) (xss : List (List Int)) : List (List Int) := (List.range xss.length).map fun i => marks (c + tot (xss.take i)) (nthL xss i).length
theorem mkSS_len (c : Int) (xss : List (List Int)) : (mkSS c xss).length = xss.length := by simp [mkSS]
theorem mkSS_nth {c : Int} {xss : List (List Int)} {i : Nat} (h : i < xss.length) : nthL (mkSS c xss) i = marks (c + tot (xss.take i)) (nthL xss i).length := by
  simp [nthL, mkSS, List.getD_eq_getElem?_getD, h]
/-- The first of them marked. -/
def mixS (c : Int) (xss : List (List Int)) (n : Nat) : List (List Int) := (List.range xss.length).map fun i => if i < n then marks (c + tot (xss.take i)) (nthL xss i).length else nthL xss i
theorem mixS_len (c : Int) (xss : List (List Int)) (n : Nat) : (mixS c xss n).length = xss.length := by simp [mixS]
theorem mixS_nth {c : Int} {xss : List (List Int)} {i n : Nat} (h : i < xss.length) : nthL (mixS c xss n) i = if i < n then marks (c + tot (xss.take i)) (nthL xss i).length else nthL xss i := by
  simp [nthL, mixS, List.getD_eq_getElem?_getD, h]
theorem mixS_zero (c : Int) (xss : List (List Int)) : mixS c xss 0 = xss := (nthL_ext (mixS_len c xss 0)).1 fun j hj => by
  rw [mixS_len] at hj
  rw [mixS_nth hj, if_neg (Nat.not_lt_zero _)]
theorem mixS_all (c : Int) (xss : List (List Int)) : mixS c xss xss.length = mkSS c xss := (nthL_ext (by rw [mixS_len, mkSS_len])).1 fun j hj => by
  rw [mixS_len] at hj
  rw [mixS_nth hj, if_pos hj, mkSS_nth hj]
/-- All of them marked. -/
theorem SO.mark (hL : 2000000 ≤ L) (k : Nat) {m : List Blk} {lo hi : Nat} {v : C} {xss : List (List Int)} (h : SO m lo hi v xss) (hhi : hi ≤ m.length) (hb : xss.length ≤ 1048576) (hbs : ∀ xs ∈ xss, xs.length ≤ 1048576) {c0 : Int} (hc : 0 ≤ c0 ∧ c0 ≤ 1048576) (ht : tot xss ≤ 1073741824) :
    ∃ m' W, den T X L (k + 2) 46 [.c v, vi c0] m = some ⟨vi (c0 + tot xss), m', 0, W⟩ ∧ W ≤ m.length - lo ∧ m'.length = m.length ∧ (∀ q, q < lo ∨ hi ≤ q → m'[q]? = m[q]?) ∧ SO m' lo hi v (mkSS c0 xss) := by
  rw [den_eq T_46]
  obtain ⟨b, hs, bi, h1, h2, rfl, h4, h5, h6, h7⟩ := h
  have htt : ∀ i, tot (xss.take i) ≤ tot xss := by
    intro i
    clear h4 h5 h6 h7 hb hbs ht
    induction xss generalizing i with
    | nil => simp [tot]
    | cons xs r ih =>
      cases i with
      | zero => simp [tot]
      | succ i => simp only [List.take_succ_cons, tot]; have := ih i; omega
  -- what holds at a head
  let I : Nat × List Blk × Nat → Prop := fun s => s.1 ≤ xss.length ∧ s.2.1.length = m.length ∧ s.2.2 ≤ m.length - lo ∧ (∀ q, q < lo ∨ hi ≤ q → s.2.1[q]? = m[q]?) ∧ s.2.1[b]? = some ⟨hs, 30, 1, true⟩ ∧
    ∀ j, j < xss.length → ∃ c, hs[j]? = some c ∧ OB s.2.1 lo hi b (bi j) c (nthL (mixS c0 xss s.1) j)
  have hlp := iter_ex (n0 := m.length) (id := 0) (ka := some [1]) (f := fun s => exec (den T X L (k + 1)) L m.length none c_laws_markIntSS_b0 s) (tr := trim m.length (some [0, 1, 5])) (σ := Nat × List Blk × Nat)
    (fun s => ⟨[(0, .c (.sl b 0 xss.length xss.length)), (1, vi (c0 + tot (xss.take s.1))), (5, vi s.1)], s.2.1, 0, s.2.2⟩) I (fun s => xss.length - s.1)
    (fun r => ∃ M W, r = (.norm, ⟨[(1, vi (c0 + tot xss))], M, 0, W⟩) ∧ I (xss.length, M, W)) ?w
  case w =>
    rintro ⟨i, M, W⟩ ⟨hil, hl, hW, ho, hhd, hbk⟩
    simp only at hil hl hW ho hhd hbk
    have hss : SS M (.sl b 0 xss.length xss.length) (mixS c0 xss i) := by
      refine .inr ⟨b, 0, xss.length, ⟨hs, 30, 1, true⟩, by rw [mixS_len], by simp [live, hhd, h5], .inr rfl, fun j hj => ?_⟩
      rw [mixS_len] at hj
      obtain ⟨c, k1, k2⟩ := hbk j hj
      exact ⟨c, by rw [Nat.zero_add]; exact k1, k2.sl⟩
    have hlv := hss.lenV
    rw [mixS_len] at hlv
    have htk : ∀ a, List.take (mx m.length a) M = M := fun a => List.take_of_length_le (by rw [hl, mx_eq]; omega)
    have htk0 : List.take m.length M = M := List.take_of_length_le (by omega)
    by_cases he : i = xss.length
    · subst he
      rw [List.take_length]
      refine ⟨.exit 0, _, by simp (maxSteps := 1000000) (implicitDefEqProofs := false) (disch := omega) [-getElem?_pos, c_laws_markIntSS_b0, hlv]; rfl, _, by simp (maxSteps := 1000000) (implicitDefEqProofs := false) (disch := omega) [-getElem?_pos, c_blkx, htk, htk0] <;> rfl, M, W, rfl, Nat.le_refl _, hl, hW, ho, hhd, hbk⟩
    · have hi' : (i : Int) < (xss.length : Int) := by omega
      have hx := hss.ixV (i := (i : Int)) (by rw [mixS_len]; omega)
      rw [Int.toNat_natCast] at hx
      obtain ⟨c, k1, k2⟩ := hbk i (by omega)
      rw [mixS_nth (by omega), if_neg (Nat.lt_irrefl _)] at k2
      have hld : ld1V M (.c (ptrOf (.sl b 0 xss.length xss.length) i)) = some (.c c) := by
        simp [ld1V, ptrOf, live, hhd, h5, k1]
      have htb := htt i
      obtain ⟨M', W', d1, d2, d3, d4, d5, d6⟩ := k2.mark (X := X) hL k (by omega) (hbs _ (nthL_mem (by omega))) (c0 := c0 + tot (xss.take i)) (by omega)
      have hbne : b ≠ bi i ∨ nthL xss i = [] := by
        rcases k2 with ⟨_, k2⟩ | ⟨cs, _, _, _, k2, _⟩
        · exact .inr k2
        · exact .inl (Ne.symm k2)
      have htk' : ∀ a, List.take (mx m.length a) M' = M' := fun a => List.take_of_length_le (by rw [d3, hl, mx_eq]; omega)
      have htk0' : List.take m.length M' = M' := List.take_of_length_le (by omega)
      refine ⟨.norm, _, by simp (maxSteps := 1000000) (implicitDefEqProofs := false) (disch := omega) [-getElem?_pos, c_laws_markIntSS_b0, hi', hlv, hx, hld, d1]; rfl, (i + 1, M', mx W (W' - (M.length - m.length))), ?_, ?_, by show xss.length - (i + 1) < xss.length - i; omega⟩
      · have := tot_take (xss := xss) (i := i) (by omega)
        simp (maxSteps := 1000000) (implicitDefEqProofs := false) (disch := omega) [-getElem?_pos, htk', htk0', this, d3]
        omega
      · refine ⟨by show i + 1 ≤ _; omega, d3.trans hl, ?_, fun q hq => (d5 q hq).trans (ho q hq), ?_, fun j hj => ?_⟩
        · show mx W (W' - (M.length - m.length)) ≤ _
          rw [mx_eq]; omega
        · rcases hbne with hbne | hbne
          · exact (d4 b hbne).trans hhd
          · -- nothing was written
            by_cases e : b = bi i
            · rcases k2 with ⟨k2, _⟩ | ⟨cs, _, _, _, k2, _⟩
              · subst k2
                have hz := den_mark0 (X := X) (L := L) (by omega) k M .nils (c0 + tot (xss.take i)) (.inl ⟨rfl, rfl⟩)
                rw [hz] at d1
                simp only [Option.some.injEq, Ret.mk.injEq] at d1
                show M'[b]? = _
                rw [← d1.2.1]
                exact hhd
              · exact absurd e.symm k2
            · exact (d4 b e).trans hhd
        · obtain ⟨cj, q1, q2⟩ := hbk j hj
          refine ⟨cj, q1, ?_⟩
          show OB M' lo hi b (bi j) cj (nthL (mixS c0 xss (i + 1)) j)
          rw [mixS_nth hj] at q2 ⊢
          by_cases e : j = i
          · subst e
            rw [k1] at q1
            injection q1 with q1
            subst q1
            rw [if_pos (Nat.lt_succ_self _)]
            exact d6
          · have hne : bi j ≠ bi i := fun h => e (h6 j i hj (by omega) h)
            have q3 : OB M lo hi b (bi j) cj (if j < i + 1 then marks (c0 + tot (xss.take j)) (nthL xss j).length else nthL xss j) := by
              by_cases hji : j < i
              · rw [if_pos hji] at q2; rw [if_pos (show j < i + 1 by omega)]; exact q2
              · rw [if_neg hji] at q2; rw [if_neg (show ¬ j < i + 1 by omega)]; exact q2
            rcases q3 with q3 | ⟨cs, a1, a2, a3, a4, a5, a6⟩
            · exact .inl q3
            · exact .inr ⟨cs, a1, a2, a3, a4, (d4 _ hne).trans a5, a6⟩
  obtain ⟨r, hr, M, W, rfl, g1, g2, g3, g4, g5, g6⟩ := hlp L (0, m, 0) ⟨[(5, vi 0), (4, vi 0), (0, .c (.sl b 0 xss.length xss.length)), (1, vi c0)], m, 0, 0⟩ ⟨Nat.zero_le _, rfl, Nat.zero_le _, fun _ _ => rfl, h4, fun j hj => by
      obtain ⟨c, k1, k2⟩ := h7 j hj
      exact ⟨c, k1, by rw [mixS_zero]; exact k2⟩⟩ (by simp (maxSteps := 1000000) (implicitDefEqProofs := false) (disch := omega) [-getElem?_pos, take_mx, tot]) (by show xss.length - 0 < L; omega)
  have g2 : M.length = m.length := g2
  refine ⟨M, W, ?_, g3, g2, g4, b, hs, bi, h1, h2, by rw [mkSS_len], g5, by rw [mkSS_len]; exact h5, by rw [mkSS_len]; exact h6, fun j hj => ?_⟩
  · have htk : ∀ a, List.take (mx m.length a) M = M := fun a => List.take_of_length_le (by rw [g2, mx_eq]; omega)
    have htk0 : List.take m.length M = M := List.take_of_length_le (by omega)
    simp (maxSteps := 1000000) (implicitDefEqProofs := false) (disch := omega) [-getElem?_pos, c_laws_markIntSS]
    rw [hr]
    by_cases hw : W = 0
    · subst hw
      simp (maxSteps := 1000000) (implicitDefEqProofs := false) (disch := omega) [-getElem?_pos, htk, htk0, g2]
    · simp (maxSteps := 1000000) (implicitDefEqProofs := false) (disch := omega) [-getElem?_pos, htk, htk0, hw]
  · rw [mkSS_len] at hj
    rw [← mixS_all]
    exact g6 j hj
theorem den_heldIntSS (hL : 2000000 ≤ L) (k : Nat) (m : List Blk) (v : C) (xss : List (List Int)) (c0 : Int) (hv : SS m v (mkSS c0 xss)) (hb : xss.length ≤ 1048576) (hbs : ∀ xs ∈ xss, xs.length ≤ 1048576) (hc : 0 ≤ c0 ∧ c0 ≤ 1048576) (ht : tot xss ≤ 1073741824) :
    den T X L (k + 2) 47 [.c v, vi c0] m = some ⟨vi (c0 + tot xss), m, 0, 0⟩ := by
  rw [den_eq T_47]
  have htt : ∀ i, tot (xss.take i) ≤ tot xss := by
    intro i
    clear hv hb hbs ht
    induction xss generalizing i with
    | nil => simp [tot]
    | cons xs r ih =>
      cases i with
      | zero => simp [tot]
      | succ i => simp only [List.take_succ_cons, tot]; have := ih i; omega
  have hlv := hv.lenV
  rw [mkSS_len] at hlv
  have hlp := iter_blk (n0 := m.length) (id := 0) (ka := some [1]) (f := fun s => exec (den T X L (k + 1)) L m.length none c_laws_heldIntSS_b0 s) (tr := trim m.length (some [0, 1, 5])) (σ := Nat)
    (fun i => ⟨[(0, .c v), (1, vi (c0 + tot (xss.take i))), (5, vi i)], m, 0, 0⟩) (fun i => i ≤ xss.length) (fun i => xss.length - i)
    (fun i => (.norm, ⟨[(1, vi (c0 + tot xss))], m, 0, 0⟩)) ?w
  case w =>
    intro i hi
    by_cases he : i = xss.length
    · subst he
      rw [List.take_length]
      refine ⟨.exit 0, _, by simp (maxSteps := 1000000) (implicitDefEqProofs := false) (disch := omega) [-getElem?_pos, c_laws_heldIntSS_b0, hlv]; rfl, ?_⟩
      simp (maxSteps := 1000000) (implicitDefEqProofs := false) (disch := omega) [-getElem?_pos, c_blkx, take_mx]
    · have hi' : (i : Int) < (xss.length : Int) := by omega
      have hx := hv.ixV (i := (i : Int)) (by rw [mkSS_len]; omega)
      rw [Int.toNat_natCast] at hx
      obtain ⟨c, k1, k2⟩ := hv.ldV (i := i) (by rw [mkSS_len]; omega)
      rw [mkSS_nth (by omega)] at k2
      have htb := htt i
      have hxs := hbs _ (nthL_mem (i := i) (by omega))
      have hz := den_heldS (X := X) (L := L) k m c _ _ k2 (by omega) hxs (by omega)
      have hnn : ¬ c0 + (tot (xss.take i) : Int) + ((nthL xss i).length : Int) < 0 := by omega
      refine ⟨.norm, _, by simp (maxSteps := 1000000) (implicitDefEqProofs := false) (disch := omega) [-getElem?_pos, c_laws_heldIntSS_b0, hi', hlv, hx, k1, hz, hnn]; rfl, i + 1, ?_, by omega, by omega, rfl⟩
      have := tot_take (xss := xss) (i := i) (by omega)
      simp (maxSteps := 1000000) (implicitDefEqProofs := false) (disch := omega) [-getElem?_pos, take_mx, this]
      omega
  simp (maxSteps := 1000000) (implicitDefEqProofs := false) (disch := omega) [-getElem?_pos, c_laws_heldIntSS]
  rw [hlp L 0 _ (Nat.zero_le _) ?tr (by show xss.length - 0 < L; omega)]
  case tr => simp (maxSteps := 1000000) (implicitDefEqProofs := false) (disch := omega) [-getElem?_pos, take_mx, tot]
  simp (maxSteps := 1000000) (implicitDefEqProofs := false) (disch := omega) [-getElem?_pos]
/-- What is new lies in memory of its own. -/
theorem fresh_SO (m : List Blk) (xss : List (List Int)) : SO (freshM m xss) m.length (freshM m xss).length (.sl m.length 0 xss.length xss.length) xss := by
  have hl : (freshM m xss).length = m.length + 1 + xss.length := by simp [freshM]; omega
  refine ⟨m.length, hd (m.length + 1) xss, fun j => m.length + 1 + j, Nat.le_refl _, by rw [hl]; omega, rfl, by unfold freshM; rw [get_app0]; rfl, hd_len _ _, fun i j _ _ h => by simp only at h; omega, fun j hj => ⟨_, hd_get hj, .inr ⟨ints (nthL xss j), by rw [ints_len], by show m.length ≤ m.length + 1 + j; omega, by rw [hl]; show m.length + 1 + j < _; omega, by show m.length + 1 + j ≠ _; omega, ?_, by rw [ints_len]; exact Nat.le_refl _, fun i hi => ints_get' hi⟩⟩⟩
  unfold freshM
  show (_ : List Blk)[m.length + 1 + j]? = _
  rw [show m.length + 1 + j = m.length + (j + 1) by omega, get_app]
  simp [nthL, List.getD_eq_getElem?_getD, hj, blkI]
end Go.Proofs.Ytkoloapgeilbdaa
