/-
  Sets: spread over more buckets, the program's way and the reference's.
-/
import Derived.Test.YtkoloapgeilbdaaSF
set_option linter.unusedVariables false
set_option linter.unusedSimpArgs false
set_option maxHeartbeats 4000000
namespace Go.Proofs.Ytkoloapgeilbdaa
variable {X : FuncId → List V → List Blk → Option Ret} {L : Nat}

theorem SX.nil_ref {m : List Blk} {lo hi q : Nat} {hs : List C} {xss : List (List Int)} (h : SX m lo hi q hs xss) (hr : refsL hs = 0) {j : Nat} (hj : j < xss.length) : hs[j]? = some .nils ∧ nthL xss j = [] := by
  rcases h.bk j hj with h1 | ⟨b, h1, _⟩
  · exact h1
  · have := refsL_get h1
    simp only [C.refs] at this
    omega
theorem fin_sx {m M : List Blk} {hi q n e : Nat} {env : List (Nat × V)} {hs : List C} {xss : List (List Int)} (hE : Ext m M) (h : SX M m.length hi q hs xss) (hn : n = xss.length) (ha : hi ≤ mx e (q + 1)) :
    ∃ q' M' e', fin m.length (.c (.sl q 0 n n)) ⟨env, M, e, 0⟩ = ⟨.c (.sl q' 0 n n), M', e', 0⟩ ∧ Ext m M' ∧ ∃ hi', SX M' m.length hi' q' hs xss ∧ hi' ≤ mx e' (q' + 1) := by
  have h1 := h.q1
  have hq : ¬ q + 1 ≤ m.length := by omega
  have hown : ¬ q < m.length := by omega
  by_cases hr : refsL hs = 0
  · refine ⟨m.length, m ++ [⟨hs, 30, 1, true⟩], 0, ?_, ⟨_, rfl⟩, m.length + 1, ⟨Nat.le_refl _, Nat.lt_succ_self _, by simp, by simp, h.len, fun j hj => .inl (h.nil_ref hr hj), h.dst⟩, by rw [mx_eq]; omega⟩
    simp [fin, V.refs, C.refs, hq, V.own, C.own, hown, nub, pickB, h.hdr, hr, V.ren, C.ren, pos, hE.fin0]
  · have hhi : hi ≤ mx m.length (mx e (q + 1)) := Nat.le_trans ha (le_mx_r _ _)
    refine ⟨q, M.take (mx m.length (mx e (q + 1))), e, ?_, hE.cut (le_mx_l _ _), hi, h.cut hhi, ha⟩
    simp [fin, V.refs, C.refs, hq, V.own, C.own, hown, nub, pickB, h.hdr, hr]
/-- One more at a bucket's end, in the block where it is. -/
theorem SX.appIn {m M l : List Blk} {hi q p b : Nat} {hs : List C} {z : List (List Int)} (h : SX M m.length hi q hs z) (hE : Ext m M) (hp : p < z.length) (hb : hs[p]? = some (.sl b 0 (nthL z p).length (nthL z p).length)) (hg : M[b]? = some (blkI (nthL z p))) (b1 : m.length ≤ b) (b2 : b < hi) (b3 : b ≠ q) (y : Int) :
    SX ((M.set b ⟨ints (nthL z p) ++ [ci y], 3, 1, true⟩).set q ⟨lay hs p [.sl b 0 ((nthL z p).length + 1) ((nthL z p).length + 1)], 30, 1, true⟩ ++ l) m.length hi q (lay hs p [.sl b 0 ((nthL z p).length + 1) ((nthL z p).length + 1)]) (setN z p (nthL z p ++ [y])) ∧
      Ext m ((M.set b ⟨ints (nthL z p) ++ [ci y], 3, 1, true⟩).set q ⟨lay hs p [.sl b 0 ((nthL z p).length + 1) ((nthL z p).length + 1)], 30, 1, true⟩ ++ l) := by
  have hqM : q < M.length := lt_of_get h.hdr
  have hbM : b < M.length := lt_of_get hg
  have hq1 := h.q1
  have hg' : ∀ j, j ≠ b → j ≠ q → j < M.length → ((M.set b ⟨ints (nthL z p) ++ [ci y], 3, 1, true⟩).set q ⟨lay hs p [.sl b 0 ((nthL z p).length + 1) ((nthL z p).length + 1)], 30, 1, true⟩ ++ l)[j]? = M[j]? := fun j h1 h2 h3 => by
    rw [List.getElem?_append_left (by simpa using h3), List.getElem?_set_ne (Ne.symm h2), List.getElem?_set_ne (Ne.symm h1)]
  constructor
  · have := h.put (p := p) (b := b) (xs := nthL z p ++ [y]) (hi' := hi) (m' := (M.set b ⟨ints (nthL z p) ++ [ci y], 3, 1, true⟩).set q ⟨lay hs p [.sl b 0 ((nthL z p).length + 1) ((nthL z p).length + 1)], 30, 1, true⟩ ++ l) hp (Nat.le_refl _) (by have := h.hm; simp; omega) (by rw [List.getElem?_append_left (by simpa using hqM), List.getElem?_set_self (by simpa using hqM), List.length_append]; rfl)
      (by rw [List.getElem?_append_left (by simpa using hbM), List.getElem?_set_ne (Ne.symm b3), List.getElem?_set_self hbM]; simp [blkI, ints]) b1 b2 b3 (fun j x' y z hj e => hj (h.dst _ _ _ _ _ _ _ _ _ e hb)) (fun j h1 h2 h3 h4 => hg' j h4 h3 (by have := h.hm; omega))
    rw [List.length_append] at this
    exact this
  · have hl := hE.len
    exact Ext.of (by simp; omega) fun j hj => by rw [hg' j (by omega) (by omega) (by omega), hE.get hj]
/-- A bucket put into a new block. -/
theorem SX.appNew {m M l : List Blk} {hi q p b n : Nat} {hs : List C} {z : List (List Int)} {xs : List Int} (h : SX M m.length hi q hs z) (hE : Ext m M) (hp : p < z.length) (hn : n = xs.length) (hb : M.length ≤ b) (hl : (M ++ l)[b]? = some (blkI xs)) :
    SX (M.set q ⟨lay hs p [.sl b 0 n n], 30, 1, true⟩ ++ l) m.length (b + 1) q (lay hs p [.sl b 0 n n]) (setN z p xs) ∧ Ext m (M.set q ⟨lay hs p [.sl b 0 n n], 30, 1, true⟩ ++ l) := by
  subst hn
  have hqM : q < M.length := lt_of_get h.hdr
  have h1 := h.putNew (p := p) (b := b) (l := l) (xs := xs) hp hb hl
  rw [List.set_append_left _ _ hqM] at h1
  have hq1 := h.q1
  have hl := hE.len
  refine ⟨h1, Ext.of (by simp; omega) fun j hj => by rw [List.getElem?_append_left (by simp; omega), List.getElem?_set_ne (by omega), hE.get hj]⟩
theorem nil_SX (m : List Blk) (n : Nat) : SX (m ++ [⟨List.replicate n .nils, 30, 1, true⟩]) m.length (m.length + 1) m.length (List.replicate n .nils) (buck [] n) := by
  refine ⟨Nat.le_refl _, Nat.lt_succ_self _, by simp, by simp, by rw [buck_len]; simp, fun j hj => .inl ?_, fun i j b x y z x' y' z' h1 _ => ?_⟩
  · rw [buck_len] at hj
    exact ⟨by simp [hj], buck_nil n j hj⟩
  · rw [List.getElem?_replicate] at h1
    split at h1 <;> cases h1
theorem buck_le {l : List Int} {n p : Nat} (h : p < n) : (nthL (buck l n) p).length ≤ l.length := by rw [buck_nth h]; exact List.length_filter_le _ _
theorem den_bucketed (hL : 2000000 ≤ L) (k : Nat) (m : List Blk) (c : C) (l : List Int) (n : Nat) (hc : Sl m c l) (hn : 0 < n ∧ n ≤ 8) (hl : l.length ≤ 1048576) :
    ∃ q M e, den T X L (k + 2) 100 [.c c, vi n] m = some ⟨.c (.sl q 0 n n), M, e, 0⟩ ∧ Ext m M ∧ ∃ hi, ∃ hs, SX M m.length hi q hs (buck l n) ∧ hi ≤ mx e (q + 1) := by
  rw [den_eq T_100]
  have hlp := iter_ex (n0 := m.length) (id := 0) (ka := some [5]) (f := fun s => exec (den T X L (k + 1)) L m.length none c_impl_bucketed_b0 s) (tr := trim m.length (some [1, 5, 10, 11, 12])) (σ := Nat × List Blk × Nat × Nat × List C)
    (fun s => ⟨[(1, vi n), (5, .c (.sl m.length 0 n n)), (10, .c c), (11, vi l.length), (12, vi s.1)], s.2.1, s.2.2.1, 0⟩)
    (fun s => s.1 ≤ l.length ∧ Ext m s.2.1 ∧ SX s.2.1 m.length s.2.2.2.1 m.length s.2.2.2.2 (buck (l.take s.1) n) ∧ s.2.2.2.1 ≤ mx s.2.2.1 (m.length + 1))
    (fun s => l.length - s.1)
    (fun r => ∃ M' e' hi hs', r = (.norm, ⟨[(5, .c (.sl m.length 0 n n))], M', e', 0⟩) ∧ Ext m M' ∧ SX M' m.length hi m.length hs' (buck l n) ∧ hi ≤ mx e' (m.length + 1)) ?w
  case w =>
    rintro ⟨i, M', e', hi, hs'⟩ ⟨i1, i2, i3, i4⟩
    simp only at i1 i2 i3 i4 ⊢
    by_cases he : i = l.length
    · subst he
      rw [List.take_length] at i3
      refine ⟨.exit 0, _, by simp (maxSteps := 1000000) (implicitDefEqProofs := false) (disch := omega) [-getElem?_pos, c_impl_bucketed_b0]; rfl, ?_⟩
      refine ⟨_, rfl, _, _, hi, hs', by simp (maxSteps := 1000000) (implicitDefEqProofs := false) (disch := omega) [-getElem?_pos, c_blkx]; rfl, ?_, ?_, i4⟩
      · exact i2.cut (by simp only [mx_eq]; omega)
      · exact i3.cut (by simp only [mx_eq] at i4 ⊢; omega)
    · have hi' : (i : Int) < (l.length : Int) := by omega
      obtain ⟨l0, hM'⟩ := i2
      have hcs : Sl M' c l := by rw [hM']; exact hc.grow
      have i2 : Ext m M' := ⟨l0, hM'⟩
      have hix := hcs.ixV (i := (i : Int)) (by omega)
      rw [Int.toNat_natCast] at hix
      have hld := hcs.ldV (i := i) (by omega)
      obtain ⟨hp, hp1⟩ := plc_lt hn.1 (nth l i)
      obtain ⟨p, hpe⟩ : ∃ p, p = plc n (nth l i) := ⟨_, rfl⟩
      rw [← hpe] at hp hp1
      have o1 := den_placeOf (X := X) (L := L) k M' (nth l i) n (by omega)
      rw [hp1] at o1
      have hpi : (p : Int) < (n : Int) := by omega
      have hsn : buck (l.take (i + 1)) n = setN (buck (l.take i) n) p (nthL (buck (l.take i) n) p ++ [nth l i]) := by
        have hli : i < l.length := by omega
        have hnl : nth l i = l[i] := by simp [nth, List.getD_eq_getElem?_getD, hli]
        rw [List.take_succ_eq_append_getElem hli, buck_snoc hn.1, ← hnl, ← hpe]
      have hbl := buck_len (l.take i) n
      have hble := buck_le (l := l.take i) hp
      have hlq : ∀ l', live (M' ++ l') m.length n = some ⟨hs', 30, 1, true⟩ := fun l' => live_grow (by have := i3.live; rwa [hbl] at this)
      have hqM : m.length < M'.length := lt_of_get i3.hdr
      have hhl : hs'.length = n := by rw [i3.len, hbl]
      have hset : ∀ l' W, (M' ++ l').set m.length W = M'.set m.length W ++ l' := fun l' W => List.set_append_left _ _ hqM
      have hlq0 : live M' m.length n = some ⟨hs', 30, 1, true⟩ := by have := i3.live; rwa [hbl] at this
      rw [List.length_take] at hble
      rcases i3.bk p (by rw [hbl]; exact hp) with ⟨a1, a2⟩ | ⟨b, a1, a2, a3, a4, a5⟩
      · obtain ⟨w1, w2⟩ := i3.appNew (p := p) (b := M'.length + 1) (n := 1) (xs := [nth l i]) (l := [⟨[ci (nth l i)], 3, 1, true⟩, ⟨[ci (nth l i)], 3, 1, true⟩]) i2 (by rw [hbl]; exact hp) rfl (by omega) (by rw [get_app]; rfl)
        rw [a2, List.nil_append] at hsn
        rw [← hsn] at w1
        refine ⟨.norm, _, by simp (maxSteps := 1000000) (implicitDefEqProofs := false) (disch := omega) [-getElem?_pos, c_impl_bucketed_b0, hi', hix, hld, o1, hpi, hlq, hlq0, a1, hset, hhl]; rfl, (i + 1, _, _, M'.length + 1 + 1, lay hs' p [.sl (M'.length + 1) 0 1 1]), by simp (maxSteps := 1000000) (implicitDefEqProofs := false) (disch := omega) [-getElem?_pos, ]; exact ⟨rfl, rfl⟩, ⟨?_, ?_, ?_, ?_⟩, ?_⟩
        · show i + 1 ≤ l.length; omega
        · exact w2.cut (le_mx_l _ _)
        · exact w1.cut (by simp only [mx_eq] at i4 ⊢; omega)
        · simp only [mx_eq] at i4 ⊢; omega
        · show l.length - (i + 1) < l.length - i; omega
      · obtain ⟨w1, w2⟩ := i3.appIn (p := p) (b := b) (l := [⟨[ci (nth l i)], 3, 1, true⟩]) i2 (by rw [hbl]; exact hp) a1 a2 a3 a4 a5 (nth l i)
        rw [← hsn] at w1
        have hlb : ∀ l', live (M' ++ l') b (nthL (buck (l.take i) n) p).length = some (blkI (nthL (buck (l.take i) n) p)) := fun l' => live_grow (by unfold live; rw [a2]; simp [blkI, ints_len])
        have hbM : b < M'.length := lt_of_get a2
        have hlq2 : ∀ Z l', live (M'.set b Z ++ l') m.length n = some ⟨hs', 30, 1, true⟩ := fun Z l' => by
          have := hlq l'
          unfold live at this ⊢
          rw [List.getElem?_append_left (by simpa using hqM), List.getElem?_set_ne a5]
          rwa [List.getElem?_append_left hqM] at this
        have hset2 : ∀ Z l' W, (M'.set b Z ++ l').set m.length W = (M'.set b Z).set m.length W ++ l' := fun Z l' W => List.set_append_left _ _ (by simpa using hqM)
        refine ⟨.norm, _, by simp (maxSteps := 1000000) (implicitDefEqProofs := false) (disch := omega) [-getElem?_pos, c_impl_bucketed_b0, hi', hix, hld, o1, hpi, hlq, hlq0, a1, hlb, hlq2, hset2, hhl]; rfl, (i + 1, _, _, hi, lay hs' p [.sl b 0 ((nthL (buck (l.take i) n) p).length + 1) ((nthL (buck (l.take i) n) p).length + 1)]), by simp (maxSteps := 1000000) (implicitDefEqProofs := false) (disch := omega) [-getElem?_pos, ]; exact ⟨rfl, rfl⟩, ⟨?_, ?_, ?_, ?_⟩, ?_⟩
        · show i + 1 ≤ l.length; omega
        · exact w2.cut (le_mx_l _ _)
        · exact w1.cut (by simp only [mx_eq] at i4 ⊢; omega)
        · simp only [mx_eq] at i4 ⊢; omega
        · show l.length - (i + 1) < l.length - i; omega
  have hb24 : (n : Int) * 24 ≤ 140737488355328 := by omega
  have h0 := nil_SX m n
  have hcl := fun l' => (hc.grow (l := l')).lenV
  simp (maxSteps := 1000000) (implicitDefEqProofs := false) (disch := omega) [-getElem?_pos, -fin, c_impl_bucketed, hcl, hb24]
  generalize hqq : blkC _ _ _ (iter _ _ _ _) = qq
  obtain ⟨r, e1, M', e', hi, hs', rfl, w1, w2, w3⟩ : ∃ r, qq = some r ∧ ∃ M' e' hi hs', r = (Ex.norm, ⟨[(5, .c (.sl m.length 0 n n))], M', e', 0⟩) ∧ Ext m M' ∧ SX M' m.length hi m.length hs' (buck l n) ∧ hi ≤ mx e' (m.length + 1) := by
    rw [← hqq]
    refine hlp L (0, _, _, m.length + 1, List.replicate n .nils) _ ?I (by simp (maxSteps := 1000000) (implicitDefEqProofs := false) (disch := omega) [-getElem?_pos, ]; exact ⟨rfl, rfl⟩) (by show l.length - 0 < L; omega)
    refine ⟨Nat.zero_le _, Ext.cut ⟨_, rfl⟩ (le_mx_l _ _), h0.cut (by simp only [mx_eq]; omega), ?_⟩
    exact le_mx_r _ _
  subst e1
  simp (maxSteps := 1000000) (implicitDefEqProofs := false) (disch := omega) [-getElem?_pos, -fin]
  obtain ⟨q', M2, e2, f1, f2, hi2, f3, f4⟩ := fin_sx (env := [(4, .c (.sl m.length 0 n n))]) (e := e') (w1.cut (le_mx_l m.length (mx e' (m.length + 1)))) (w2.cut (Nat.le_trans w3 (le_mx_r m.length _))) (buck_len l n).symm w3
  exact ⟨q', M2, e2, f1, f2, hi2, ⟨_, f3⟩, f4⟩
/-- The places in a row of slices, one after the other. -/
def pre (z : List (List Int)) (i j : Nat) : List Int := (z.take i).flatten ++ (nthL z i).take j
theorem pre_zero (z : List (List Int)) (i : Nat) : pre z i 0 = (z.take i).flatten := by simp [pre]
theorem pre_all {z : List (List Int)} {i : Nat} (h : i < z.length) : pre z i (nthL z i).length = (z.take (i + 1)).flatten := by
  unfold pre
  rw [List.take_length, ← take_snoc h]
  simp
theorem pre_snoc {z : List (List Int)} {i j : Nat} (h : j < (nthL z i).length) : pre z i (j + 1) = pre z i j ++ [nth (nthL z i) j] := by
  have hn : nth (nthL z i) j = (nthL z i)[j] := by simp [nth, List.getD_eq_getElem?_getD, h]
  unfold pre
  rw [List.take_succ_eq_append_getElem h, hn, List.append_assoc]
theorem pre_len {z : List (List Int)} {i j : Nat} (hi : i < z.length) : (pre z i j).length ≤ tot z := by
  unfold pre
  rw [List.length_append, tot_flatten, List.length_take]
  have h1 := tot_take hi
  have h2 := tot_le_all z (i + 1)
  omega
theorem den_l16Double (hL : 2000000 ≤ L) (k : Nat) (m : List Blk) (v : C) (z : List (List Int)) (hv : SSA m v z) (hn : 0 < z.length ∧ 2 * z.length ≤ 8) (ht : tot z ≤ 1048576) :
    ∃ q M e, den T X L (k + 2) 99 [.c v] m = some ⟨.c (.sl q 0 (2 * z.length) (2 * z.length)), M, e, 0⟩ ∧ Ext m M ∧ ∃ hi, ∃ hs, SX M m.length hi q hs (dbl z.flatten (2 * z.length)) ∧ hi ≤ mx e (q + 1) := by
  rw [den_eq T_99]
  obtain ⟨n, hne⟩ : ∃ n, n = 2 * z.length := ⟨_, rfl⟩
  rw [← hne]
  have hlpI : ∀ i, i < z.length → ∀ n0 (s : Nat × List Blk × Nat × Nat × List C) st, (s.1 ≤ (nthL z i).length ∧ Ext m s.2.1 ∧ SX s.2.1 m.length s.2.2.2.1 m.length s.2.2.2.2 (dbl (pre z i s.1) n) ∧ s.2.2.2.1 ≤ mx s.2.2.1 (m.length + 1)) →
      trim m.length (some [0, 3, 4, 5]) st = ⟨[(0, .c v), (3, .c (.sl m.length 0 n n)), (4, vi i), (5, vi s.1)], s.2.1, s.2.2.1, 0⟩ → (nthL z i).length - s.1 < n0 →
      ∃ r, blkC m.length 2 (some [0, 3, 4]) (iter (fun s => exec (den T X L (k + 1)) L m.length none c_spec_l16Double_b1 s) (trim m.length (some [0, 3, 4, 5])) n0 st) = some r ∧
        ∃ M' e' hi hs', r = (.norm, ⟨[(0, .c v), (3, .c (.sl m.length 0 n n)), (4, vi i)], M', e', 0⟩) ∧ Ext m M' ∧ SX M' m.length hi m.length hs' (dbl (pre z i (nthL z i).length) n) ∧ hi ≤ mx e' (m.length + 1) := by
    intro i hiz
    refine iter_ex (σ := Nat × List Blk × Nat × Nat × List C) (fun s => ⟨[(0, .c v), (3, .c (.sl m.length 0 n n)), (4, vi i), (5, vi s.1)], s.2.1, s.2.2.1, 0⟩) (fun s => s.1 ≤ (nthL z i).length ∧ Ext m s.2.1 ∧ SX s.2.1 m.length s.2.2.2.1 m.length s.2.2.2.2 (dbl (pre z i s.1) n) ∧ s.2.2.2.1 ≤ mx s.2.2.1 (m.length + 1)) (fun s => (nthL z i).length - s.1) _ ?_
    rintro ⟨j, M', e', hi, hs'⟩ ⟨i1, i2, i3, i4⟩
    simp only at i1 i2 i3 i4 ⊢
    obtain ⟨l0, hM'⟩ := i2
    have hv' : SSA M' v z := by rw [hM']; exact hv.grow
    have i2 : Ext m M' := ⟨l0, hM'⟩
    have hix := hv'.ss.ixV (i := (i : Int)) (by omega)
    rw [Int.toNat_natCast] at hix
    obtain ⟨c0, hc1, hc2⟩ := hv'.ldV (i := i) hiz
    have hcl := hc2.sl.lenV
    have hzl := nth_tot hiz
    by_cases he : j = (nthL z i).length
    · subst he
      refine ⟨.exit 2, _, by simp (maxSteps := 1000000) (implicitDefEqProofs := false) (disch := omega) [-getElem?_pos, c_spec_l16Double_b1, hix, hc1, hcl]; rfl, ?_⟩
      refine ⟨_, rfl, _, _, hi, hs', by simp (maxSteps := 1000000) (implicitDefEqProofs := false) (disch := omega) [-getElem?_pos, c_blkx]; rfl, ?_, ?_, i4⟩
      · exact i2.cut (by simp only [mx_eq]; omega)
      · exact i3.cut (by simp only [mx_eq] at i4 ⊢; omega)
    · have hj' : (j : Int) < ((nthL z i).length : Int) := by omega
      have hix2 := hc2.sl.ixV (i := (j : Int)) (by omega)
      rw [Int.toNat_natCast] at hix2
      have hld2 := hc2.sl.ldV (i := j) (by omega)
      obtain ⟨hp, hp1⟩ := plc_lt (n := n) (by omega) (nth (nthL z i) j)
      obtain ⟨p, hpe⟩ : ∃ p, p = plc n (nth (nthL z i) j) := ⟨_, rfl⟩
      rw [← hpe] at hp hp1
      have o1 := den_l16Place (X := X) (L := L) k M' (nth (nthL z i) j) n (by omega)
      rw [hp1] at o1
      have hpi : (p : Int) < (n : Int) := by omega
      have hdl := dbl_len (pre z i j) n
      have hlq : live M' m.length n = some ⟨hs', 30, 1, true⟩ := by have := i3.live; rwa [hdl] at this
      have hhl : hs'.length = n := by rw [i3.len, hdl]
      have hqM : m.length < M'.length := lt_of_get i3.hdr
      have hlq2 : ∀ l', live (M' ++ l') m.length n = some ⟨hs', 30, 1, true⟩ := fun l' => live_grow hlq
      have hset : ∀ l' W, (M' ++ l').set m.length W = M'.set m.length W ++ l' := fun l' W => List.set_append_left _ _ hqM
      obtain ⟨cp, hcp, hcs⟩ : ∃ cp, hs'[p]? = some cp ∧ SlA M' cp (nthL (dbl (pre z i j) n) p) := by
        rcases i3.bk p (by rw [hdl]; exact hp) with ⟨a1, a2⟩ | ⟨b, a1, a2, a3, a4, a5⟩
        · exact ⟨_, a1, .inl ⟨rfl, a2⟩⟩
        · exact ⟨_, a1, SlA_blk a2⟩
      have hble : (nthL (dbl (pre z i j) n) p).length ≤ tot z := by
        rw [dbl_nth hp, insAll_len]
        have h1 := List.length_filter_le (fun y => decide (plc n y = p)) (pre z i j)
        have h2 := pre_len (j := j) hiz
        simp only [List.length_nil]
        omega
      have o2 := den_l16Put (X := X) (L := L) hL k M' cp _ (nth (nthL z i) j) hcs (by omega)
      have hsn : dbl (pre z i (j + 1)) n = setN (dbl (pre z i j) n) p (insL (nthL (dbl (pre z i j) n) p) (nth (nthL z i) j)) := by
        rw [pre_snoc (by omega), dbl_snoc (by omega), ← hpe]
      obtain ⟨w1, w2⟩ := i3.appNew (p := p) (b := M'.length) (xs := insL (nthL (dbl (pre z i j) n) p) (nth (nthL z i) j)) (l := [blkI (insL (nthL (dbl (pre z i j) n) p) (nth (nthL z i) j))]) i2 (by rw [hdl]; exact hp) rfl (Nat.le_refl _) (by rw [get_app0]; rfl)
      rw [← hsn] at w1
      generalize insL (nthL (dbl (pre z i j) n) p) (nth (nthL z i) j) = ins at o2 w1 w2
      refine ⟨.norm, _, by simp (maxSteps := 1000000) (implicitDefEqProofs := false) (disch := omega) [-getElem?_pos, c_spec_l16Double_b1, hix, hc1, hcl, hj', hix2, hld2, o1, o2, hpi, hlq, hlq2, hcp, hset, hhl]; rfl, (j + 1, _, _, M'.length + 1, lay hs' p [.sl M'.length 0 ins.length ins.length]), by simp (maxSteps := 1000000) (implicitDefEqProofs := false) (disch := omega) [-getElem?_pos, ]; exact ⟨rfl, rfl⟩, ⟨?_, ?_, ?_, ?_⟩, ?_⟩
      · show j + 1 ≤ (nthL z i).length; omega
      · exact w2.cut (le_mx_l _ _)
      · exact w1.cut (by simp only [mx_eq] at i4 ⊢; omega)
      · simp only [mx_eq] at i4 ⊢; omega
      · show (nthL z i).length - (j + 1) < (nthL z i).length - j; omega
  have hlp := iter_ex (n0 := m.length) (id := 0) (ka := some [3]) (f := fun s => exec (den T X L (k + 1)) L m.length none c_spec_l16Double_b0 s) (tr := trim m.length (some [0, 3, 4])) (σ := Nat × List Blk × Nat × Nat × List C)
    (fun s => ⟨[(0, .c v), (3, .c (.sl m.length 0 n n)), (4, vi s.1)], s.2.1, s.2.2.1, 0⟩)
    (fun s => s.1 ≤ z.length ∧ Ext m s.2.1 ∧ SX s.2.1 m.length s.2.2.2.1 m.length s.2.2.2.2 (dbl (z.take s.1).flatten n) ∧ s.2.2.2.1 ≤ mx s.2.2.1 (m.length + 1))
    (fun s => z.length - s.1)
    (fun r => ∃ M' e' hi hs', r = (.norm, ⟨[(3, .c (.sl m.length 0 n n))], M', e', 0⟩) ∧ Ext m M' ∧ SX M' m.length hi m.length hs' (dbl z.flatten n) ∧ hi ≤ mx e' (m.length + 1)) ?w
  case w =>
    rintro ⟨i, M', e', hi, hs'⟩ ⟨i1, i2, i3, i4⟩
    simp only at i1 i2 i3 i4 ⊢
    obtain ⟨l0, hM'⟩ := i2
    have hv' : SSA M' v z := by rw [hM']; exact hv.grow
    have i2 : Ext m M' := ⟨l0, hM'⟩
    have hvl := hv'.ss.lenV
    by_cases he : i = z.length
    · subst he
      rw [List.take_length] at i3
      refine ⟨.exit 0, _, by simp (maxSteps := 1000000) (implicitDefEqProofs := false) (disch := omega) [-getElem?_pos, c_spec_l16Double_b0, hvl]; rfl, ?_⟩
      refine ⟨_, rfl, _, _, hi, hs', by simp (maxSteps := 1000000) (implicitDefEqProofs := false) (disch := omega) [-getElem?_pos, c_blkx]; rfl, ?_, ?_, i4⟩
      · exact i2.cut (by simp only [mx_eq]; omega)
      · exact i3.cut (by simp only [mx_eq] at i4 ⊢; omega)
    · have hi' : (i : Int) < (z.length : Int) := by omega
      have hin := hlpI i (by omega)
      have r1 : (C.sl m.length 0 n n).refs = m.length + 1 := rfl
      have r2 : ∀ k x, (C.int k x).refs = 0 := fun _ _ => rfl
      rw [← pre_zero] at i3
      obtain ⟨r, e1, M2, e2, hi2, hs2, rfl, w1, w2, w3⟩ := hin L (0, M'.take (mx m.length (mx e' (mx v.refs (m.length + 1)))), e', hi, hs') ⟨[(5, vi 0), (0, .c v), (3, .c (.sl m.length 0 n n)), (4, vi i)], M', e', 0⟩ ⟨Nat.zero_le _, i2.cut (by simp only [mx_eq]; omega), i3.cut (by simp only [mx_eq] at i4 ⊢; omega), i4⟩ (by simp (maxSteps := 1000000) (implicitDefEqProofs := false) (disch := omega) [-getElem?_pos, -C.refs, r1, r2]) (by have := nth_tot (z := z) (p := i) (by omega); show (nthL z i).length - 0 < L; omega)
      rw [pre_all (by omega)] at w2
      have hwr := fun st h => (iter_tr (f := fun s => exec (den T X L (k + 1)) L m.length none c_spec_l16Double_b1 s) (tr := trim m.length (some [0, 3, 4, 5])) (st := st) (st' := ⟨[(5, vi 0), (0, .c v), (3, .c (.sl m.length 0 n n)), (4, vi i)], M', e', 0⟩) h L)
      refine ⟨.norm, _, by simp (maxSteps := 1000000) (implicitDefEqProofs := false) (disch := omega) [-getElem?_pos, c_spec_l16Double_b0, hvl, hi']; rw [hwr _ (by simp (maxSteps := 1000000) (implicitDefEqProofs := false) (disch := omega) [-getElem?_pos, ]), e1]; simp (maxSteps := 1000000) (implicitDefEqProofs := false) (disch := omega) [-getElem?_pos]; rfl, (i + 1, _, _, hi2, hs2), by simp (maxSteps := 1000000) (implicitDefEqProofs := false) (disch := omega) [-getElem?_pos, ]; exact ⟨rfl, rfl⟩, ⟨?_, ?_, ?_, ?_⟩, ?_⟩
      · show i + 1 ≤ z.length; omega
      · exact w1.cut (le_mx_l _ _)
      · exact w2.cut (by simp only [mx_eq] at w3 ⊢; omega)
      · exact w3
      · show z.length - (i + 1) < z.length - i; omega
  have hb24 : (n : Int) * 24 ≤ 140737488355328 := by omega
  have h2 : (2 : Int) * (z.length : Int) = (n : Int) := by omega
  have h0 := nil_SX m n
  have hd0 : dbl [] n = buck [] n := by rw [dbl_buck, srt_nil]
  rw [← hd0] at h0
  have hvl := hv.ss.lenV
  simp (maxSteps := 1000000) (implicitDefEqProofs := false) (disch := omega) [-getElem?_pos, -fin, c_spec_l16Double, hvl, hb24, h2]
  generalize hqq : blkC _ _ _ (iter _ _ _ _) = qq
  obtain ⟨r, e1, M', e', hi, hs', rfl, w1, w2, w3⟩ : ∃ r, qq = some r ∧ ∃ M' e' hi hs', r = (Ex.norm, ⟨[(3, .c (.sl m.length 0 n n))], M', e', 0⟩) ∧ Ext m M' ∧ SX M' m.length hi m.length hs' (dbl z.flatten n) ∧ hi ≤ mx e' (m.length + 1) := by
    rw [← hqq]
    refine hlp L (0, _, _, m.length + 1, List.replicate n .nils) _ ?I (by simp (maxSteps := 1000000) (implicitDefEqProofs := false) (disch := omega) [-getElem?_pos, ]; exact ⟨rfl, rfl⟩) (by show z.length - 0 < L; omega)
    refine ⟨Nat.zero_le _, Ext.cut ⟨_, rfl⟩ (le_mx_l _ _), h0.cut (by simp only [mx_eq]; omega), ?_⟩
    exact le_mx_r _ _
  subst e1
  simp (maxSteps := 1000000) (implicitDefEqProofs := false) (disch := omega) [-getElem?_pos, -fin]
  obtain ⟨q', M2, e2, f1, f2, hi2, f3, f4⟩ := fin_sx (env := [(2, .c (.sl m.length 0 n n))]) (e := e') (w1.cut (le_mx_l m.length (mx e' (m.length + 1)))) (w2.cut (Nat.le_trans w3 (le_mx_r m.length _))) (dbl_len z.flatten n).symm w3
  exact ⟨q', M2, e2, f1, f2, hi2, ⟨_, f3⟩, f4⟩
end Go.Proofs.Ytkoloapgeilbdaa
