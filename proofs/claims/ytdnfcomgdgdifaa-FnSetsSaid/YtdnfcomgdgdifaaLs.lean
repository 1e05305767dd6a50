/-
  The law FnSets, walked.
-/
import Derived.Test.YtdnfcomgdgdifaaDz
import Derived.Test.YtdnfcomgdgdifaaDa
set_option linter.unusedVariables false
set_option linter.unusedSimpArgs false
set_option maxHeartbeats 4000000
set_option maxRecDepth 100000
namespace Go.Proofs.Ytdnfcomgdgdifaa
variable {X : FuncId → List V → List Blk → Option Ret} {L : Nat}

theorem den_impl_NewSet (k : Nat) (m : List Blk) : den T X L (k + 1) 53 [] m = some ⟨.c (.sl (m.length + 1) 0 1 1), m ++ [⟨[], 3, 1, true⟩, ⟨[.sl m.length 0 0 0], 28, 1, true⟩], m.length + 1, 0⟩ := by
  rw [den_eq T_53]
  simp (maxSteps := 1000000) (implicitDefEqProofs := false) (disch := omega) [-getElem?_pos, c_impl_NewSet]
theorem lp0 (hL : 4000000 ≤ L) (k : Nat) {n0 : Nat} {M : List Blk} {c v cl : C} {e : Nat} {z : List (List Int)} (hz : OkS z) (hv : SS M v z) (hl : Sl M cl (setL z)) (hK : List.take (mx n0 (mx e (mx c.refs (mx v.refs cl.refs)))) M = M) (st : St)
    (hst : trim n0 (some [0, 3, 4, 5]) st = ⟨[(0, .c c), (3, .c v), (4, .c cl), (5, vi 0)], M, e, 0⟩) :
    blkC n0 0 (some [0, 3, 4]) (iter (fun s => exec (den T libX L (k + 9)) L n0 none c_laws_FnSets_b0 s) (trim n0 (some [0, 3, 4, 5])) L st) = some (.norm, ⟨[(0, .c c), (3, .c v), (4, .c cl)], M, e, 0⟩) := by
  have hzb := hz.bd
  have b1 : z.length ≤ 1048576 := by omega
  have b2 : ∀ xs ∈ z, xs.length ≤ 1048576 := fun xs hx => by have := hzb.2.1 xs hx; omega
  have hlen : (setL z).length ≤ 24 := by rw [hz.lst, (srt_perm _).length_eq, tot_flatten]; omega
  unfold C.refs at hK
  have hlp := iter_blk (n0 := n0) (id := 0) (ka := some [0, 3, 4]) (f := fun s => exec (den T libX L (k + 9)) L n0 none c_laws_FnSets_b0 s) (tr := trim n0 (some [0, 3, 4, 5])) (σ := Nat)
    (fun i => ⟨[(0, .c c), (3, .c v), (4, .c cl), (5, vi i)], M, e, 0⟩) (fun i => i ≤ (setL z).length) (fun i => (setL z).length - i)
    (fun i => (.norm, ⟨[(0, .c c), (3, .c v), (4, .c cl)], M, e, 0⟩)) (by
    intro i hi
    by_cases he : i = (setL z).length
    · subst he
      refine ⟨.exit 0, _, by simp (maxSteps := 1000000) (implicitDefEqProofs := false) (disch := omega) [-getElem?_pos, c_laws_FnSets_b0, hl.lenV]; rfl, ?_⟩
      simp (maxSteps := 1000000) (implicitDefEqProofs := false) (disch := omega) [-getElem?_pos, c_blkx, hK]
    · have hi' : (i : Int) < ((setL z).length : Int) := by omega
      obtain ⟨h1, h2⟩ := hz.lt (i := i) (by omega)
      have hx := hl.ixV (i := (i : Int)) (by omega)
      rw [Int.toNat_natCast] at hx
      have hd := hl.ldV (i := i) (by omega)
      have hh := den_impl_SetHas16 (X := libX) (L := L) (by omega) (k + 5) M v z (nth (setL z) i) hv b1 b2
      rw [setOk_OkS.2 hz, h1, Bool.true_and] at hh
      have hlv := hl.lenV
      obtain ⟨b, off, tot, rfl⟩ : ∃ b off tot, cl = .sl b off (setL z).length tot := by
        rcases hl with ⟨_, h⟩ | ⟨b, off, tot, _, h, _⟩
        · rw [h] at hi'; simp at hi'; omega
        · exact ⟨b, off, tot, h⟩
      simp only [ptrOf] at hx hd
      by_cases h0 : i = 0
      · have h0' : (0 < i) = False := eq_false (by omega)
        refine ⟨.norm, _, by simp (maxSteps := 1000000) (implicitDefEqProofs := false) (disch := omega) [-getElem?_pos, c_laws_FnSets_b0, hlv, hi', hx, hd, hh, h0']; rfl, i + 1, ?_, by omega, by omega, rfl⟩
        simp (maxSteps := 1000000) (implicitDefEqProofs := false) (disch := omega) [-getElem?_pos, hK]
      · have h3 := h2 (by omega)
        have h0' : (0 < i) = True := eq_true (by omega)
        have hx2 := hl.ixV (i := (i : Int) - 1) (by omega)
        rw [show ((i : Int) - 1).toNat = i - 1 by omega] at hx2
        have hd2 := hl.ldV (i := i - 1) (by omega)
        simp only [ptrOf] at hx2 hd2
        have h3' : ¬ nth (setL z) i ≤ nth (setL z) (i - 1) := by omega
        refine ⟨.norm, _, by simp (maxSteps := 1000000) (implicitDefEqProofs := false) (disch := omega) [-getElem?_pos, c_laws_FnSets_b0, hlv, hi', hx, hd, hh, h0', hx2, hd2, h3']; rfl, i + 1, ?_, by omega, by omega, rfl⟩
        simp (maxSteps := 1000000) (implicitDefEqProofs := false) (disch := omega) [-getElem?_pos, hK])
  exact hlp L 0 st (Nat.zero_le _) hst (by omega)
theorem ob_take {M : List Blk} {lo hi b bj K : Nat} {c : C} {xs : List Int} (h : OB M lo hi b bj c xs) (hk : c.refs ≤ K) : Sl (M.take K) c xs := by
  rcases h with h | ⟨cs, rfl, _, _, _, h1, h2, h3⟩
  · exact .inl h
  · simp only [C.refs] at hk
    refine .inr ⟨bj, 0, cs.length, ⟨cs, 3, 1, true⟩, rfl, ?_, .inr rfl, fun j hj => by rw [Nat.zero_add]; exact h3 j hj⟩
    unfold live
    rw [List.getElem?_take_of_lt (by omega), h1]
    simp
theorem Ext.slb {m M : List Blk} {c : C} {bs : List Int} (h : Ext m M) (hs : SlB m c bs) : SlB M c bs := by
  obtain ⟨l, rfl⟩ := h; exact hs.grow
/-- A set that is kept while the memory is cut. -/
structure Kp (M : List Blk) (e : Nat) (v : C) (z : List (List Int)) : Prop where
  ok : OkS z
  so : ∃ hi, SO M 0 hi v z ∧ hi ≤ mx e v.refs ∧ hi ≤ M.length
section
variable {M M' : List Blk} {e e' K : Nat} {v : C} {z : List (List Int)}
theorem Kp.cut (h : Kp M e v z) (hk : mx e v.refs ≤ K) : Kp (M.take K) e v z := by
  obtain ⟨hi, h1, h2, h3⟩ := h.so
  exact ⟨h.ok, hi, h1.cut (by omega), h2, by rw [List.length_take]; omega⟩
theorem Kp.mono (h : Kp M e v z) (hx : Ext M M') (he : e ≤ e') : Kp M' e' v z := by
  obtain ⟨hi, h1, h2, h3⟩ := h.so
  exact ⟨h.ok, hi, hx.so h3 h1, by simp only [mx_eq] at h2 ⊢; omega, by have := hx.len; omega⟩
theorem Kp.ssa (h : Kp M e v z) : SSA M v z := by
  obtain ⟨hi, h1, _⟩ := h.so
  exact h1.ssa
theorem Kp.of {lo : Nat} (hz : OkS z) (h : SO M lo M.length v z) (ha : M.length ≤ mx e v.refs) : Kp M e v z := ⟨hz, M.length, h.wide (Nat.zero_le _) (Nat.le_refl _), ha, Nat.le_refl _⟩
theorem Kp.b (h : Kp M e v z) : z.length ≤ 1048576 ∧ (∀ xs ∈ z, xs.length ≤ 1048576) ∧ tot z ≤ 1073741824 ∧ Bd z := by
  have hb := h.ok.bd
  exact ⟨by omega, fun xs hx => by have := hb.2.1 xs hx; omega, by omega, hb.2.2.2⟩
theorem sl_cut {c : C} {xs : List Int} (h : Sl M c xs) (hk : c.refs ≤ K) : Sl (M.take K) c xs := by
  rcases h with h | ⟨b, off, tot, blk, rfl, h1, h2, h3⟩
  · exact .inl h
  · simp only [C.refs] at hk
    refine .inr ⟨b, off, tot, blk, rfl, ?_, h2, h3⟩
    unfold live at h1 ⊢
    rw [List.getElem?_take_of_lt (by omega)]
    exact h1
theorem sl_ext {c : C} {xs : List Int} (h : Sl M c xs) (hx : Ext M M') : Sl M' c xs := by
  obtain ⟨l, rfl⟩ := hx; exact h.grow
end
theorem lp2 (hL : 4000000 ≤ L) (k : Nat) {m M : List Blk} {c v cl c11 : C} {bs : List Int} {e : Nat} {z y : List (List Int)} {l : List Int} (hs : SlB m c bs) (hb : bs.length ≤ 1048576) (hx : Ext m M) (hv : Kp M e v z) (hl : Sl M cl l) (hy : Kp M e c11 y) (st : St)
    (hst : trim m.length (some [0, 3, 4, 11, 12]) st = ⟨[(0, .c c), (3, .c v), (4, .c cl), (11, .c c11), (12, vi 0)], M, e, 0⟩) :
    ∃ r, blkC m.length 2 (some [3, 4, 11]) (iter (fun s => exec (den T libX L (k + 9)) L m.length none c_laws_FnSets_b1 s) (trim m.length (some [0, 3, 4, 11, 12])) L st) = some r ∧ ∃ M' e' c11' y', r = (.norm, ⟨[(3, .c v), (4, .c cl), (11, .c c11')], M', e', 0⟩) ∧ Ext m M' ∧ Kp M' e' v z ∧ Sl M' cl l ∧ Kp M' e' c11' y' := by
  have hlp := iter_exd (n0 := m.length) (id := 2) (ka := some [3, 4, 11]) (f := fun s => exec (den T libX L (k + 9)) L m.length none c_laws_FnSets_b1 s) (tr := trim m.length (some [0, 3, 4, 11, 12])) (σ := Nat × List Blk × Nat × C × List (List Int))
    (fun s => ⟨[(0, .c c), (3, .c v), (4, .c cl), (11, .c s.2.2.2.1), (12, vi s.1)], s.2.1, s.2.2.1, 0⟩)
    (fun s => s.1 ≤ 4 ∧ Ext m s.2.1 ∧ Kp s.2.1 s.2.2.1 v z ∧ Sl s.2.1 cl l ∧ Kp s.2.1 s.2.2.1 s.2.2.2.1 s.2.2.2.2) (fun s => 4 - s.1)
    (fun r => ∃ M' e' c11' y', r = (.norm, ⟨[(3, .c v), (4, .c cl), (11, .c c11')], M', e', 0⟩) ∧ Ext m M' ∧ Kp M' e' v z ∧ Sl M' cl l ∧ Kp M' e' c11' y') (by
    rintro ⟨i, M, e, c11, y⟩ ⟨h1, h2, h3, h4, h5⟩
    simp only at h1 h2 h3 h4 h5 ⊢
    by_cases he : i = 4
    · subst he
      refine ⟨.exit 2, _, by simp (maxSteps := 1000000) (implicitDefEqProofs := false) (disch := omega) [-getElem?_pos, c_laws_FnSets_b1]; rfl, ?_⟩
      refine ⟨_, by simp (maxSteps := 1000000) (implicitDefEqProofs := false) (disch := omega) [-getElem?_pos, -C.refs, c_blkx]; rfl, _, e, c11, y, rfl, ?_, ?_, ?_, ?_⟩
      · exact h2.cut (le_mx_l _ _)
      · exact h3.cut (by simp only [mx_eq]; omega)
      · exact sl_cut h4 (by simp only [mx_eq]; omega)
      · exact h5.cut (by simp only [mx_eq]; omega)
    · have hi' : (i : Int) < 4 := by omega
      have eat := den_at (X := libX) (L := L) (k + 8) M c bs (h2.slb hs) hb (i + 2) (by omega)
      have ha1 := atB_in hs (i + 2)
      generalize atB bs (i + 2) = v1 at eat ha1
      obtain ⟨key, hkey, hkey2, hk0⟩ : ∃ key : Int, v1.tmod 40 = key ∧ v1 % 40 = key ∧ 0 ≤ key ∧ key ≤ 39 := ⟨v1 % 40, Int.tmod_eq_emod_of_nonneg ha1.1, rfl, by omega, by omega⟩
      rw [show ((i + 2 : Nat) : Int) = (i : Int) + 2 by omega] at eat
      obtain ⟨M4, c4, e4, d4, x4, so4, a4⟩ := impl_SetAdd (L := L) (by omega) (k + 5) M c11 y key h5.ssa h5.b.1 h5.b.2.1
      have hw := (setAdd_R h5.ok key).ok h5.ok
      have k4 := Kp.of hw so4 a4
      obtain ⟨K, hK⟩ : ∃ K, K = mx m.length (mx (mx e e4) (mx c.refs (mx v.refs (mx cl.refs (mx c4.refs 0))))) := ⟨_, rfl⟩
      have hci : ∀ n : Int, (C.int .i64 n).refs = 0 := fun _ => rfl
      have hk0 : m.length ≤ K := by rw [hK]; exact le_mx_l _ _
      have hk1 : mx (mx e e4) v.refs ≤ K := by rw [hK]; simp only [mx_eq]; omega
      have hk2 : cl.refs ≤ K := by rw [hK]; simp only [mx_eq]; omega
      have hk3 : mx (mx e e4) c4.refs ≤ K := by rw [hK]; simp only [mx_eq]; omega
      refine ⟨.norm, _, by simp (maxSteps := 1000000) (implicitDefEqProofs := false) (disch := omega) [-getElem?_pos, -C.refs, c_laws_FnSets_b1, hi', eat, hkey, hkey2, d4]; rfl, (i + 1, M4.take K, mx e e4, c4, (setAdd y key).1), by rw [hK]; simp (maxSteps := 1000000) (implicitDefEqProofs := false) (disch := omega) [-getElem?_pos, -C.refs, hci], ⟨by show i + 1 ≤ 4; omega, ?_, ?_, ?_, ?_⟩, by show 4 - (i + 1) < 4 - i; omega⟩
      · exact (h2.trans x4).cut hk0
      · exact (h3.mono x4 (le_mx_l _ _)).cut hk1
      · exact sl_cut (sl_ext h4 x4) hk2
      · exact (k4.mono (Ext.refl _) (le_mx_r _ _)).cut hk3)
  exact hlp L (0, M, e, c11, y) st ⟨by show 0 ≤ 4; omega, hx, hv, hl, hy⟩ hst (by show 4 - 0 < L; omega)
theorem lp4 (hL : 4000000 ≤ L) (k : Nat) {n0 : Nat} {M : List Blk} {v cl cj lj c11 : C} {e : Nat} {z y : List (List Int)} {l : List Int} (hz : OkS z) (hy : OkS y) (hv : SS M v z) (hw : SS M c11 y) (hl : Sl M lj l) (h24 : l.length ≤ 24) (hm : ∀ x ∈ l, x ∈ z.flatten ∨ x ∈ y.flatten) (hK : List.take (mx n0 (mx e (mx v.refs (mx cl.refs (mx c11.refs (mx cj.refs lj.refs)))))) M = M) (st : St)
    (hst : trim n0 (some [3, 4, 11, 13, 14, 15, 16]) st = ⟨[(3, .c v), (4, .c cl), (11, .c c11), (13, .c cj), (14, vi 0), (15, .c lj), (16, vi 0)], M, e, 0⟩) :
    blkC n0 4 (some [4, 13, 14, 15]) (iter (fun s => exec (den T libX L (k + 9)) L n0 none c_laws_FnSets_b2 s) (trim n0 (some [3, 4, 11, 13, 14, 15, 16])) L st) = some (.norm, ⟨[(4, .c cl), (13, .c cj), (14, vi 0), (15, .c lj)], M.take (mx n0 (mx e (mx cl.refs (mx cj.refs lj.refs)))), e, 0⟩) := by
  have hzb := hz.bd
  have hyb := hy.bd
  have b1 : z.length ≤ 1048576 := by omega
  have b2 : ∀ xs ∈ z, xs.length ≤ 1048576 := fun xs hx => by have := hzb.2.1 xs hx; omega
  have y1 : y.length ≤ 1048576 := by omega
  have y2 : ∀ xs ∈ y, xs.length ≤ 1048576 := fun xs hx => by have := hyb.2.1 xs hx; omega
  have hci : ∀ n : Int, (C.int .i64 n).refs = 0 := fun _ => rfl
  have hlp := iter_blk (n0 := n0) (id := 4) (ka := some [4, 13, 14, 15]) (f := fun s => exec (den T libX L (k + 9)) L n0 none c_laws_FnSets_b2 s) (tr := trim n0 (some [3, 4, 11, 13, 14, 15, 16])) (σ := Nat)
    (fun i => ⟨[(3, .c v), (4, .c cl), (11, .c c11), (13, .c cj), (14, vi 0), (15, .c lj), (16, vi i)], M, e, 0⟩) (fun i => i ≤ l.length) (fun i => l.length - i)
    (fun i => (.norm, ⟨[(4, .c cl), (13, .c cj), (14, vi 0), (15, .c lj)], M.take (mx n0 (mx e (mx cl.refs (mx cj.refs lj.refs)))), e, 0⟩)) (by
    intro i hi
    have hlv := hl.lenV
    by_cases he : i = l.length
    · subst he
      refine ⟨.exit 4, _, by simp (maxSteps := 1000000) (implicitDefEqProofs := false) (disch := omega) [-getElem?_pos, c_laws_FnSets_b2, hlv]; rfl, ?_⟩
      simp (maxSteps := 1000000) (implicitDefEqProofs := false) (disch := omega) [-getElem?_pos, -C.refs, c_blkx, hci]
    · have hi' : (i : Int) < (l.length : Int) := by omega
      have hx := hl.ixV (i := (i : Int)) (by omega)
      rw [Int.toNat_natCast] at hx
      have hd := hl.ldV (i := i) (by omega)
      have hh := den_impl_SetHas16 (X := libX) (L := L) (by omega) (k + 5) M v z (nth l i) hv b1 b2
      have hg := den_impl_SetHas16 (X := libX) (L := L) (by omega) (k + 5) M c11 y (nth l i) hw y1 y2
      rw [setOk_OkS.2 hz, Bool.true_and] at hh
      rw [setOk_OkS.2 hy, Bool.true_and] at hg
      have hmm := hm _ (nth_mem' (i := i) (xs := l) (by omega))
      rw [← hz.has, ← hy.has] at hmm
      cases h1 : setHas z (nth l i) with
      | true =>
        rw [h1] at hh
        refine ⟨.norm, _, by simp (maxSteps := 1000000) (implicitDefEqProofs := false) (disch := omega) [-getElem?_pos, c_laws_FnSets_b2, hlv, hi', hx, hd, hh]; rfl, i + 1, ?_, by omega, by omega, rfl⟩
        simp (maxSteps := 1000000) (implicitDefEqProofs := false) (disch := omega) [-getElem?_pos, -C.refs, hci, hK]
      | false =>
        rw [h1] at hh
        have h2 : setHas y (nth l i) = true := by rcases hmm with h | h; (rw [h1] at h; cases h); exact h
        rw [h2] at hg
        refine ⟨.norm, _, by simp (maxSteps := 1000000) (implicitDefEqProofs := false) (disch := omega) [-getElem?_pos, c_laws_FnSets_b2, hlv, hi', hx, hd, hh, hg]; rfl, i + 1, ?_, by omega, by omega, rfl⟩
        simp (maxSteps := 1000000) (implicitDefEqProofs := false) (disch := omega) [-getElem?_pos, -C.refs, hci, hK])
  exact hlp L 0 st (Nat.zero_le _) hst (by omega)
theorem lp6 (hL : 4000000 ≤ L) (k : Nat) {n0 : Nat} {M : List Blk} {cl cj lj : C} {e : Nat} {l j : List Int} (hl : Sl M cl l) (hj : Sl M lj j) (h24 : l.length ≤ 24) (j24 : j.length ≤ 24) (hm : ∀ x ∈ l, x ∈ j) (hK : List.take (mx n0 (mx e (mx cl.refs (mx cj.refs lj.refs)))) M = M) (st : St)
    (hst : trim n0 (some [4, 13, 14, 15, 17]) st = ⟨[(4, .c cl), (13, .c cj), (14, vi 0), (15, .c lj), (17, vi 0)], M, e, 0⟩) :
    blkC n0 6 (some [13, 14]) (iter (fun s => exec (den T libX L (k + 9)) L n0 none c_laws_FnSets_b3 s) (trim n0 (some [4, 13, 14, 15, 17])) L st) = some (.norm, ⟨[(13, .c cj), (14, vi 0)], M.take (mx n0 (mx e cj.refs)), e, 0⟩) := by
  have hci : ∀ n : Int, (C.int .i64 n).refs = 0 := fun _ => rfl
  have hlp := iter_blk (n0 := n0) (id := 6) (ka := some [13, 14]) (f := fun s => exec (den T libX L (k + 9)) L n0 none c_laws_FnSets_b3 s) (tr := trim n0 (some [4, 13, 14, 15, 17])) (σ := Nat)
    (fun i => ⟨[(4, .c cl), (13, .c cj), (14, vi 0), (15, .c lj), (17, vi i)], M, e, 0⟩) (fun i => i ≤ l.length) (fun i => l.length - i)
    (fun i => (.norm, ⟨[(13, .c cj), (14, vi 0)], M.take (mx n0 (mx e cj.refs)), e, 0⟩)) (by
    intro i hi
    have hlv := hl.lenV
    by_cases he : i = l.length
    · subst he
      refine ⟨.exit 6, _, by simp (maxSteps := 1000000) (implicitDefEqProofs := false) (disch := omega) [-getElem?_pos, c_laws_FnSets_b3, hlv]; rfl, ?_⟩
      simp (maxSteps := 1000000) (implicitDefEqProofs := false) (disch := omega) [-getElem?_pos, -C.refs, c_blkx, hci]
    · have hi' : (i : Int) < (l.length : Int) := by omega
      have hx := hl.ixV (i := (i : Int)) (by omega)
      rw [Int.toNat_natCast] at hx
      have hd := hl.ldV (i := i) (by omega)
      have hh := den_within (X := libX) (L := L) (k + 8) M lj j (nth l i) hj (by omega) (by omega)
      rw [decide_eq_true (hm _ (nth_mem' (i := i) (xs := l) (by omega)))] at hh
      refine ⟨.norm, _, by simp (maxSteps := 1000000) (implicitDefEqProofs := false) (disch := omega) [-getElem?_pos, c_laws_FnSets_b3, hlv, hi', hx, hd, hh]; rfl, i + 1, ?_, by omega, by omega, rfl⟩
      simp (maxSteps := 1000000) (implicitDefEqProofs := false) (disch := omega) [-getElem?_pos, -C.refs, hci, hK])
  exact hlp L 0 st (Nat.zero_le _) hst (by omega)
end Go.Proofs.Ytdnfcomgdgdifaa
