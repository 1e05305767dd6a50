/-
 Sets of one's own, each bucket in a block that it fills: how they are kept up while they are written.
-/
import Derived.Test.YtfbeplbcaanimaaGreatGD
set_option linter.unusedVariables false
set_option linter.unusedSimpArgs false
set_option maxHeartbeats 4000000
namespace Go.Proofs.YtfbeplbcaanimaaGreat
variable {X : FuncId → List V → List Blk → Option Ret} {L : Nat}
structure SX (m : List Blk) (lo hi q : Nat) (hs : List C) (xss : List (List Int)) : Prop where
 q1 : lo ≤ q
 q2 : q < hi
 hm : hi ≤ m.length
 hdr : m[q]? = some ⟨hs, 103, 1, true⟩
 len : hs.length = xss.length
 bk : ∀ j, j < xss.length → (hs[j]? = some .nils ∧ nthL xss j = []) ∨ ∃ b, hs[j]? = some (C.sl b 0 (nthL xss j).length (nthL xss j).length) ∧ m[b]? = some (blkI (nthL xss j)) ∧ lo ≤ b ∧ b < hi ∧ b ≠ q
 dst : ∀ (i j b x y z x' y' z' : Nat), hs[i]? = some (C.sl b x y z) → hs[j]? = some (C.sl b x' y' z') → i = j
def biOf (hs : List C) (hi j : Nat) : Nat := match hs[j]? with | some (C.sl b _ _ _) => b | _ => hi + j
section
variable {m m' l : List Blk} {lo hi hi' q p b a : Nat} {hs : List C} {xss : List (List Int)} {xs : List Int}
theorem SX.bi (h : SX m lo hi q hs xss) {j : Nat} (hj : j < xss.length) : (hs[j]? = some .nils ∧ biOf hs hi j = hi + j) ∨ ∃ b y, hs[j]? = some (C.sl b 0 y y) ∧ biOf hs hi j = b ∧ b < hi := by
 rcases h.bk j hj with ⟨h1, h2⟩ | ⟨b, h1, h2, h3, h4, h5⟩
 ·exact .inl ⟨h1, by simp [biOf, h1]⟩
 ·exact .inr ⟨b, _, h1, by simp [biOf, h1], h4⟩
theorem SX.so (h : SX m lo hi q hs xss) : SO m lo hi (.sl q 0 xss.length xss.length) xss := by
 refine ⟨q, hs, biOf hs hi, h.q1, h.q2, rfl, h.hdr, h.len, fun i j hi' hj' hij => ?_, fun j hj => ?_⟩
 ·rcases h.bi hi' with ⟨a1, a2⟩ | ⟨b, y, a1, a2, a3⟩ <;> rcases h.bi hj' with ⟨c1, c2⟩ | ⟨d, z, c1, c2, c3⟩
  ·rw [a2, c2] at hij; omega
  ·rw [a2, c2] at hij; omega
  ·rw [a2, c2] at hij; omega
  ·rw [a2, c2] at hij
   subst hij
   exact h.dst _ _ _ _ _ _ _ _ _ a1 c1
 ·rcases h.bk j hj with ⟨h1, h2⟩ | ⟨b, h1, h2, h3, h4, h5⟩
  ·exact ⟨_, h1, .inl ⟨rfl, h2⟩⟩
  ·have hb : biOf hs hi j = b := by simp [biOf, h1]
   rw [hb]
   exact ⟨_, h1, .inr ⟨ints (nthL xss j), by rw [ints_len], h3, h4, h5, h2, by rw [ints_len]; exact Nat.le_refl _, fun i hi => ints_get' hi⟩⟩
theorem SX.congr (h : SX m lo hi q hs xss) (hl : hi ≤ m'.length) (hg : ∀ j, lo ≤ j → j < hi → m'[j]? = m[j]?) : SX m' lo hi q hs xss :=
 ⟨h.q1, h.q2, hl, (hg q h.q1 h.q2).trans h.hdr, h.len, fun j hj => (h.bk j hj).imp id fun ⟨b, h1, h2, h3, h4, h5⟩ => ⟨b, h1, (hg b h3 h4).trans h2, h3, h4, h5⟩, h.dst⟩
theorem SX.ext (h : SX m lo hi q hs xss) (he : Ext m m') : SX m' lo hi q hs xss := h.congr (Nat.le_trans h.hm he.len) fun j _ h2 => he.get (Nat.lt_of_lt_of_le h2 h.hm)
theorem SX.cut (h : SX m lo hi q hs xss) (ha : hi ≤ a) : SX (m.take a) lo hi q hs xss := h.congr (by have := h.hm; rw [List.length_take]; omega) fun j _ h2 => List.getElem?_take_of_lt (by omega)
theorem SX.live (h : SX m lo hi q hs xss) : live m q xss.length = some ⟨hs, 103, 1, true⟩ := by
 unfold Go.Proofs.YtfbeplbcaanimaaGreat.live; rw [h.hdr]; simp [h.len]
theorem fresh_SX (m : List Blk) (xss : List (List Int)) : SX (freshM m xss) m.length (m.length + 1 + xss.length) m.length (hd (m.length + 1) xss) xss := by
 have hl := fresh_laid m xss
 have hml := freshM_len m xss
 refine ⟨Nat.le_refl _, by omega, by omega, hl.hdr, hd_len _ _, fun j hj => .inr ⟨m.length + 1 + j, hd_get hj, hl.bks j hj, by omega, by omega, by omega⟩, fun i j b x y z x' y' z' h1 h2 => ?_⟩
 have hh := hd_len (m.length + 1) xss
 have hi := (List.getElem?_eq_some_iff.1 h1).1
 have hj := (List.getElem?_eq_some_iff.1 h2).1
 rw [hh] at hi hj
 rw [hd_get hi] at h1
 rw [hd_get hj] at h2
 injection h1 with h1
 injection h1 with h1
 injection h2 with h2
 injection h2 with h2
 omega
theorem SX.put (h : SX m lo hi q hs xss) (hp : p < xss.length) (hh : hi ≤ hi') (hm' : hi' ≤ m'.length) (h1 : m'[q]? = some ⟨lay hs p [.sl b 0 xs.length xs.length], 103, 1, true⟩) (h2 : m'[b]? = some (blkI xs)) (b1 : lo ≤ b) (b2 : b < hi') (b3 : b ≠ q)
  (hf : ∀ (j x y z : Nat), j ≠ p → hs[j]? ≠ some (C.sl b x y z)) (h3 : ∀ j, lo ≤ j → j < hi → j ≠ q → j ≠ b → m'[j]? = m[j]?) : SX m' lo hi' q (lay hs p [.sl b 0 xs.length xs.length]) (setN xss p xs) := by
 have hpl : p < hs.length := by rw [h.len]; exact hp
 refine ⟨h.q1, by have := h.q2; omega, hm', h1, by rw [lay_lenP hpl, setN_len, h.len], fun j hj => ?_, fun i j b' x y z x' y' z' e1 e2 => ?_⟩
 ·rw [setN_len] at hj
  rw [lay_one hpl, setN_nth hp]
  by_cases e : j = p
  ·rw [if_pos e, if_pos e]
   exact .inr ⟨b, rfl, h2, b1, b2, b3⟩
  ·rw [if_neg e, if_neg e]
   refine (h.bk j hj).imp id fun ⟨d, k1, k2, k3, k4, k5⟩ => ⟨d, k1, ?_, k3, by omega, k5⟩
   rw [h3 d k3 k4 k5 fun e' => hf j _ _ _ e (e' ▸ k1), k2]
 ·rw [lay_one hpl] at e1 e2
  by_cases c1 : i = p
  ·by_cases c2 : j = p
   ·omega
   ·rw [if_pos c1] at e1
    rw [if_neg c2] at e2
    injection e1 with e1
    injection e1 with e1
    subst e1
    exact absurd e2 (hf j _ _ _ c2)
  ·rw [if_neg c1] at e1
   by_cases c2 : j = p
   ·rw [if_pos c2] at e2
    injection e2 with e2
    injection e2 with e2
    subst e2
    exact absurd e1 (hf i _ _ _ c1)
   ·rw [if_neg c2] at e2
    exact h.dst _ _ _ _ _ _ _ _ _ e1 e2
theorem SX.putNew (h : SX m lo hi q hs xss) (hp : p < xss.length) (hb : m.length ≤ b) (hl : (m ++ l)[b]? = some (blkI xs)) : SX ((m ++ l).set q ⟨lay hs p [.sl b 0 xs.length xs.length], 103, 1, true⟩) lo (b + 1) q (lay hs p [.sl b 0 xs.length xs.length]) (setN xss p xs) := by
 have hq := h.q2
 have hm := h.hm
 have hbl := lt_of_get hl
 refine h.put hp (by omega) (by simp at hbl ⊢; omega) ?_ ?_ (by have := h.q1; omega) (by omega) (by omega) (fun j x y z hj e => ?_) fun j h1 h2 h3 h4 => ?_
 ·rw [List.getElem?_set_self (by simp; omega)]
 ·rw [List.getElem?_set_ne (by omega), hl]
 ·have hjl : j < xss.length := by rw [← h.len]; exact (List.getElem?_eq_some_iff.1 e).1
  rcases h.bk j hjl with ⟨k1, _⟩ | ⟨d, k1, k2, k3, k4, k5⟩
  ·rw [k1] at e; cases e
  ·rw [k1] at e
   injection e with e
   injection e with e
   omega
 ·rw [List.getElem?_set_ne (by omega), List.getElem?_append_left (by omega)]
theorem setN_setN (xss : List (List Int)) (p : Nat) (xs ys : List Int) : setN (setN xss p xs) p ys = setN xss p ys := by simp [setN]
end
end Go.Proofs.YtfbeplbcaanimaaGreat
set_option linter.unusedVariables false
set_option linter.unusedSimpArgs false
set_option maxHeartbeats 4000000
namespace Go.Proofs.YtfbeplbcaanimaaGreat
variable {X : FuncId → List V → List Blk → Option Ret} {L : Nat}
theorem Ext.cut {m M : List Blk} {a : Nat} (h : Ext m M) (ha : m.length ≤ a) : Ext m (M.take a) := by
 have hl := h.len
 exact Ext.of (by rw [List.length_take]; omega) fun j hj => by rw [List.getElem?_take_of_lt (by omega), h.get hj]
theorem ld1V_grow {m l : List Blk} {x y : V} (h : ld1V m x = some y) : ld1V (m ++ l) x = some y := by
 cases x with
 | c x =>
  cases x with
  | ptr b off tot =>
   simp only [ld1V, Option.bind_eq_some_iff] at h ⊢
   obtain ⟨blk, h1, h2⟩ := h
   exact ⟨blk, live_grow h1, h2⟩
  | _ => cases h
 | _ => cases h
theorem keep_snoc {xs : List Int} {x : Int} {i : Nat} (hi : i < xs.length) : keep xs x (i + 1) = if nth xs i = x then keep xs x i else keep xs x i ++ [nth xs i] := by
 have hn : nth xs i = xs[i] := by simp [nth, List.getD_eq_getElem?_getD, hi]
 unfold keep
 rw [List.take_succ_eq_append_getElem hi, List.filter_append, hn]
 by_cases h : xs[i] = x
 ·simp [h]
 ·simp [h]
theorem keep_all (xs : List Int) (x : Int) : keep xs x xs.length = without xs x := by simp [keep, without]
theorem ints_snoc' (l : List Int) (y : Int) : ints l ++ [ci y] = ints (l ++ [y]) := by simp [ints]
theorem spec_SetDrop (hL : 2000000 ≤ L) (k : Nat) (m : List Blk) (v : C) (xss : List (List Int)) (x : Int) (hv : SSA m v xss) (b1 : xss.length ≤ 1048576) (b2 : ∀ xs ∈ xss, xs.length ≤ 1048576) :
  ∃ M c e, den T X L (k + 5) 73 [.c v, vi x] m = some ⟨.tup [.c c, vi (setDrop xss x).2], M, e, 0⟩ ∧ Ext m M ∧ SO M m.length M.length c (setDrop xss x).1 ∧ M.length ≤ mx e c.refs := by
 rw [den_eq T_73]
 have d1 := den_l16Copy (X := X) (L := L) hL (k + 2) m v xss hv b1 b2
 have hsx := fresh_SX m xss
 have hml := freshM_len m xss
 have hext : Ext m (freshM m xss) := ⟨_, rfl⟩
 unfold freshR at d1
 generalize freshM m xss = M at d1 hsx hml hext
 obtain ⟨q, hq⟩ : ∃ q, q = m.length := ⟨_, rfl⟩
 rw [← hq] at d1 hsx hml
 have hx1 := hext.ssa hv
 have o1 := den_spec_SetOk (X := X) (L := L) hL (k + 1) M v xss hx1.ss b1 b2
 have o2 := den_l1Value (X := X) (L := L) (k + 2) M x
 have hle : M.length ≤ mx (if xss = [] then 0 else q + 1 + xss.length) (q + 1) := by
  rw [mx_eq, hml]
  split
  ·rename_i h; subst h; simp
  ·omega
 have htk : List.take (mx (if xss = [] then 0 else q + 1 + xss.length) (q + 1)) M = M := List.take_of_length_le hle
 have hso0 : SO M m.length M.length (.sl q 0 xss.length xss.length) xss := by rw [hml, ← hq]; exact hsx.so
 unfold setDrop
 cases h1 : setOk xss with
 | false =>
  rw [h1] at o1
  simp (maxSteps := 1000000) -implicitDefEqProofs (disch := omega) [-getElem?_pos, -fin, c_spec_SetDrop, d1, o1, htk]
  exact fin_sety hext hso0 (Nat.le_refl _) hle
 | true =>
  rw [h1] at o1
  cases h2 : isVal x with
  | false =>
   rw [h2] at o2
   simp (maxSteps := 1000000) -implicitDefEqProofs (disch := omega) [-getElem?_pos, -fin, c_spec_SetDrop, d1, o1, o2, htk]
   exact fin_sety hext hso0 (Nat.le_refl _) hle
  | true =>
   rw [h2] at o2
   have o3 := den_spec_SetHas16 (X := X) (L := L) hL k M v xss x hx1.ss b1 b2
   rw [h1, Bool.true_and] at o3
   cases h3 : setHas xss x with
   | false =>
    rw [h3] at o3
    simp (maxSteps := 1000000) -implicitDefEqProofs (disch := omega) [-getElem?_pos, -fin, c_spec_SetDrop, d1, o1, o2, o3, htk]
    exact fin_sety hext hso0 (Nat.le_refl _) hle
   | true =>
    rw [h3] at o3
    have hn := setOk_len h1
    obtain ⟨p, hp1, hp⟩ := place_lt h1 x
    have o4 := den_l16Place (X := X) (L := L) (k + 3) M x xss.length (by omega)
    rw [hp1] at o4
    have hne : xss ≠ [] := fun e => by subst e; simp at hn
    unfold setHas bkt at h3
    unfold bkt
    rw [hp1, Int.toNat_natCast] at h3 ⊢
    have hbl := bk_len h1 _ (nthL_mem (i := p) hp)
    have hpi : (p : Int) < (xss.length : Int) := by omega
    have hh := hd_len (q + 1) xss
    have hvl := hx1.ss.lenV
    have hlp := iter_ex (n0 := m.length) (id := 0) (ka := some [6]) (f := fun s => exec (den T X L (k + 4)) L m.length none c_spec_SetDrop_b0 s) (tr := trim m.length (some [0, 1, 6, 7, 8])) (σ := Nat × List Blk × Nat × Nat × List C)
     (fun s => ⟨[(0, .c v), (1, vi x), (6, .c (.sl q 0 xss.length xss.length)), (7, vi p), (8, vi s.1)], s.2.1, s.2.2.1, 0⟩)
     (fun s => s.1 ≤ (nthL xss p).length ∧ Ext m s.2.1 ∧ SX s.2.1 m.length s.2.2.2.1 q s.2.2.2.2 (setN xss p (keep (nthL xss p) x s.1)) ∧ s.2.2.2.1 ≤ s.2.2.1 ∧ ∃ b, s.2.2.2.2[p]? = some (.sl b 0 (keep (nthL xss p) x s.1).length (keep (nthL xss p) x s.1).length) ∧ s.2.1[b]? = some (blkI (keep (nthL xss p) x s.1)) ∧ m.length ≤ b ∧ b < s.2.2.2.1 ∧ b ≠ q)
     (fun s => (nthL xss p).length - s.1)
     (fun r => ∃ M' e' hi hs', r = (.norm, ⟨[(6, .c (.sl q 0 xss.length xss.length))], M', e', 0⟩) ∧ Ext m M' ∧ SX M' m.length hi q hs' (setN xss p (without (nthL xss p) x)) ∧ hi ≤ e') ?w
    case w =>
     rintro ⟨i, M', e', hi, hs'⟩ ⟨i1, i2, i3, i4, b, i5, i6, i7, i8, i9⟩
     simp only at i1 i2 i3 i4 i5 i6 i7 i8 i9 ⊢
     have hv' := i2.ssa hv
     have hix := hv'.ss.ixV (i := (p : Int)) (by omega)
     rw [Int.toNat_natCast] at hix
     obtain ⟨c0, hc1, hc2⟩ := hv'.ldV (i := p) hp
     have hcl := hc2.sl.lenV
     by_cases he : i = (nthL xss p).length
     ·subst he
      rw [keep_all] at i3
      refine ⟨.exit 0, _, by simp (maxSteps := 1000000) -implicitDefEqProofs (disch := omega) [-getElem?_pos, c_spec_SetDrop_b0, hix, hc1, hcl]; rfl, ?_⟩
      refine ⟨_, rfl, _, _, hi, hs', by simp (maxSteps := 1000000) -implicitDefEqProofs (disch := omega) [-getElem?_pos, c_blkx]; rfl, ?_, ?_, i4⟩
      ·exact i2.cut (by omega)
      ·exact i3.cut i4
     ·have hi' : (i : Int) < ((nthL xss p).length : Int) := by omega
      have hix2 := hc2.sl.ixV (i := (i : Int)) (by omega)
      rw [Int.toNat_natCast] at hix2
      have hld2 := hc2.sl.ldV (i := i) (by omega)
      by_cases hx : nth (nthL xss p) i = x
      ·refine ⟨.norm, _, by simp (maxSteps := 1000000) -implicitDefEqProofs (disch := omega) [-getElem?_pos, c_spec_SetDrop_b0, hix, hc1, hcl, hi', hix2, hld2, hx]; rfl, (i + 1, _, e', hi, hs'), by simp (maxSteps := 1000000) -implicitDefEqProofs (disch := omega) [-getElem?_pos, ]; rfl, ⟨?_, ?_, ?_, i4, b, ?_⟩, ?_⟩
       ·show i + 1 ≤ _; omega
       ·exact i2.cut (by rw [mx_eq]; omega)
       ·show SX _ _ _ _ _ (setN xss p (keep (nthL xss p) x (i + 1)))
        rw [keep_snoc (by omega), if_pos hx]
        exact i3.cut (Nat.le_trans i4 (Nat.le_trans (le_mx_l _ _) (le_mx_r _ _)))
       ·show hs'[p]? = some (.sl b 0 (keep (nthL xss p) x (i + 1)).length (keep (nthL xss p) x (i + 1)).length) ∧ (List.take _ M')[b]? = some (blkI (keep (nthL xss p) x (i + 1))) ∧ _
        rw [keep_snoc (by omega), if_pos hx]
        exact ⟨i5, by rw [List.getElem?_take_of_lt (Nat.lt_of_lt_of_le i8 (Nat.le_trans i4 (Nat.le_trans (le_mx_l _ _) (le_mx_r _ _))))]; exact i6, i7, i8, i9⟩
       ·show (nthL xss p).length - (i + 1) < (nthL xss p).length - i; omega
      ·have hlq : ∀ l, live (M' ++ l) q xss.length = some ⟨hs', 103, 1, true⟩ := fun l => live_grow (by have := i3.live; rwa [setN_len] at this)
       have hgl := fun l => hv'.grow (l := l)
       have hixg := fun l => (hgl l).ss.ixV (i := (p : Int)) (by omega)
       simp only [Int.toNat_natCast] at hixg
       have hc1g := fun l => ld1V_grow (l := l) hc1
       have hix2g := fun l => (hc2.sl.grow (l := l)).ixV (i := (i : Int)) (by omega)
       simp only [Int.toNat_natCast] at hix2g
       have hld2g := fun l => (hc2.sl.grow (l := l)).ldV (i := i) (by omega)
       have hqM : q < M'.length := lt_of_get i3.hdr
       have hbM : b < M'.length := lt_of_get i6
       have hlb : ∀ l, live (M' ++ l) b (keep (nthL xss p) x i).length = some (blkI (keep (nthL xss p) x i)) := fun l => live_grow (by unfold live; rw [i6]; simp [blkI, ints_len])
       have hlq2 : ∀ Z l, live (M'.set b Z ++ l) q xss.length = some ⟨hs', 103, 1, true⟩ := fun Z l => by
        have := hlq l
        unfold live at this ⊢
        rw [List.getElem?_append_left (by simpa using hqM), List.getElem?_set_ne i9]
        rwa [List.getElem?_append_left hqM] at this
       have hset : ∀ Z l W, (M'.set b Z ++ l).set q W = (M'.set b Z).set q W ++ l := fun Z l W => List.set_append_left _ _ (by simpa using hqM)
       have hhl : hs'.length = xss.length := by rw [i3.len, setN_len]
       have hkl : (keep (nthL xss p) x i).length ≤ 3 := by
        have h1 := List.length_filter_le (fun y => !decide (y = x)) ((nthL xss p).take i)
        rw [List.length_take] at h1
        unfold keep
        omega
       have hne1 : ¬ M'.length = q := by omega
       have hne2 : ¬ M'.length = b := by omega
       have hk : keep (nthL xss p) x (i + 1) = keep (nthL xss p) x i ++ [nth (nthL xss p) i] := by rw [keep_snoc (by omega), if_neg hx]
       obtain ⟨P, hP⟩ : ∃ P, P = (M'.set b ⟨ints (keep (nthL xss p) x i) ++ [ci (nth (nthL xss p) i)], 3, 1, true⟩).set q ⟨lay hs' p [.sl b 0 ((keep (nthL xss p) x i).length + 1) ((keep (nthL xss p) x i).length + 1)], 103, 1, true⟩ ++ [⟨[ci (nth (nthL xss p) i)], 3, 1, true⟩] := ⟨_, rfl⟩
       have hPg : ∀ j, j ≠ b → j ≠ q → j < M'.length → P[j]? = M'[j]? := fun j h1 h2 h3 => by
        rw [hP, List.getElem?_append_left (by simpa using h3), List.getElem?_set_ne (Ne.symm h2), List.getElem?_set_ne (Ne.symm h1)]
       have hPb : P[b]? = some (blkI (keep (nthL xss p) x (i + 1))) := by
        rw [hP, List.getElem?_append_left (by simpa using hbM), List.getElem?_set_ne (Ne.symm i9), List.getElem?_set_self hbM, hk]
        simp [blkI, ints]
       have hPl : M'.length ≤ P.length := by rw [hP]; simp
       have hP1 : SX P m.length hi q (lay hs' p [.sl b 0 ((keep (nthL xss p) x i).length + 1) ((keep (nthL xss p) x i).length + 1)]) (setN xss p (keep (nthL xss p) x (i + 1))) := by
        have := i3.put (p := p) (m' := P) (b := b) (xs := keep (nthL xss p) x (i + 1)) (by rw [setN_len]; exact hp) (Nat.le_refl _) (Nat.le_trans i3.hm hPl) (by rw [hP, List.getElem?_append_left (by simpa using hqM), List.getElem?_set_self (by simpa using hqM), hk, List.length_append]; rfl) hPb i7 i8 i9
         (fun j x' y z hj e => hj (i3.dst _ _ _ _ _ _ _ _ _ e i5)) (fun j h1 h2 h3 h4 => hPg j h4 h3 (by have := i3.hm; omega))
        rw [setN_setN, hk, List.length_append] at this
        rw [hk]
        exact this
       have hP2 : Ext m P := Ext.of (Nat.le_trans i2.len hPl) fun j hj => by
        rw [hPg j (by omega) (by omega) (by have := i2.len; omega), i2.get hj]
       subst hP
       refine ⟨.norm, _, by simp (maxSteps := 1000000) -implicitDefEqProofs (disch := omega) [-getElem?_pos, c_spec_SetDrop_b0, hix, hc1, hcl, hi', hix2, hld2, hixg, hc1g, hix2g, hld2g, hx, hlq, i5, hlb, hne1, hne2, hlq2, hset, hhl]; rfl, (i + 1, _, e', hi, lay hs' p [.sl b 0 ((keep (nthL xss p) x i).length + 1) ((keep (nthL xss p) x i).length + 1)]), by simp (maxSteps := 1000000) -implicitDefEqProofs (disch := omega) [-getElem?_pos, ]; rfl, ⟨?_, ?_, ?_, i4, b, ?_⟩, ?_⟩
       ·show i + 1 ≤ _; omega
       ·exact hP2.cut (by rw [mx_eq]; omega)
       ·show SX _ _ _ _ _ (setN xss p (keep (nthL xss p) x (i + 1)))
        exact hP1.cut (Nat.le_trans i4 (Nat.le_trans (le_mx_l _ _) (le_mx_r _ _)))
       ·show (lay hs' p [.sl b 0 ((keep (nthL xss p) x i).length + 1) ((keep (nthL xss p) x i).length + 1)])[p]? = some (.sl b 0 (keep (nthL xss p) x (i + 1)).length (keep (nthL xss p) x (i + 1)).length) ∧ (List.take _ _)[b]? = some (blkI (keep (nthL xss p) x (i + 1))) ∧ _
        refine ⟨by rw [lay_one (by omega), if_pos rfl, hk, List.length_append]; rfl, ?_, i7, i8, i9⟩
        rw [List.getElem?_take_of_lt (Nat.lt_of_lt_of_le i8 (Nat.le_trans i4 (Nat.le_trans (le_mx_l _ _) (le_mx_r _ _))))]
        exact hPb
       ·show (nthL xss p).length - (i + 1) < (nthL xss p).length - i; omega
    have hlo : SX M m.length (q + 1 + xss.length) q (hd (q + 1) xss) xss := ⟨by omega, hsx.q2, hsx.hm, hsx.hdr, hsx.len, fun j hj => (hsx.bk j hj).imp id fun ⟨b, h1, h2, h3, h4, h5⟩ => ⟨b, h1, h2, by omega, h4, h5⟩, hsx.dst⟩
    have hqM : q < M.length := by omega
    have hlq0 : ∀ l, live (M ++ l) q xss.length = some ⟨hd (q + 1) xss, 103, 1, true⟩ := fun l => live_grow hlo.live
    have hset0 : ∀ l W, (M ++ l).set q W = M.set q W ++ l := fun l W => List.set_append_left _ _ hqM
    have hput := hlo.putNew (p := p) (b := M.length) (l := [⟨[], 3, 1, true⟩]) (xs := []) hp (Nat.le_refl _) (by rw [get_app0]; rfl)
    rw [hset0] at hput
    have hputE : Ext m (M.set q ⟨lay (hd (q + 1) xss) p [.sl M.length 0 0 0], 103, 1, true⟩ ++ [⟨[], 3, 1, true⟩]) := Ext.of (by have := hext.len; simp; omega) fun j hj => by
     rw [List.getElem?_append_left (by have := hext.len; simp; omega), List.getElem?_set_ne (by omega), hext.get hj]
    have hputB : (M.set q ⟨lay (hd (q + 1) xss) p [.sl M.length 0 0 0], 103, 1, true⟩ ++ [⟨[], 3, 1, true⟩])[M.length]? = some (blkI []) := by
     rw [List.getElem?_append_right (by simp)]
     simp [blkI, ints]
    simp (maxSteps := 1000000) -implicitDefEqProofs (disch := omega) [-getElem?_pos, -fin, c_spec_SetDrop, d1, o1, o2, o3, o4, hvl, hne, hpi, hlq0, hset0, hh]
    generalize hqq : blkC _ _ _ (iter _ _ _ _) = qq
    obtain ⟨r, e1, M', e', hi, hs', rfl, w1, w2, w3⟩ : ∃ r, qq = some r ∧ ∃ M' e' hi hs', r = (Ex.norm, ⟨[(6, .c (.sl q 0 xss.length xss.length))], M', e', 0⟩) ∧ Ext m M' ∧ SX M' m.length hi q hs' (setN xss p (without (nthL xss p) x)) ∧ hi ≤ e' := by
     rw [← hqq]
     refine hlp L (0, _, _, M.length + 1, lay (hd (q + 1) xss) p [.sl M.length 0 0 0]) _ ?I (by simp (maxSteps := 1000000) -implicitDefEqProofs (disch := omega) [-getElem?_pos, hne]; exact ⟨rfl, rfl⟩) (by show (nthL xss p).length - 0 < L; omega)
     have hb1 : ∀ a, M.length + 1 ≤ mx m.length (mx (M.length + 1) a) := fun a => Nat.le_trans (le_mx_l _ _) (le_mx_r _ _)
     refine ⟨Nat.zero_le _, hputE.cut (le_mx_l _ _), hput.cut (hb1 _), Nat.le_refl _, M.length, ?_, ?_, by omega, by show M.length < M.length + 1; omega, by omega⟩
     ·show (lay (hd (q + 1) xss) p [C.sl M.length 0 0 0])[p]? = _
      rw [lay_one (by omega), if_pos rfl]
      rfl
     ·show (List.take _ _)[M.length]? = _
      rw [List.getElem?_take_of_lt (hb1 _), hputB]
      rfl
    subst e1
    simp (maxSteps := 1000000) -implicitDefEqProofs (disch := omega) [-getElem?_pos, -fin]
    have w4 := (w2.cut (a := mx m.length (mx e' (q + 1))) (Nat.le_trans w3 (Nat.le_trans (le_mx_l _ _) (le_mx_r _ _))))
    have w5 := w4.so
    rw [setN_len] at w5
    exact fin_sety (w1.cut (le_mx_l _ _)) w5 w4.hm (Nat.le_trans w3 (le_mx_l _ _))
theorem set_b {xss : List (List Int)} (h : setOk xss = true) {p : Nat} {xs : List Int} (hx : xs.length ≤ 4) : (setN xss p xs).length ≤ 1048576 ∧ (∀ ys ∈ setN xss p xs, ys.length ≤ 1048576) ∧ tot (setN xss p xs) ≤ 1073741824 := by
 have h1 := (setOk_tot h).2
 have h2 : ∀ ys ∈ setN xss p xs, ys.length ≤ 4 := fun ys hy => by
  rcases List.mem_or_eq_of_mem_set hy with h' | h'
  ·have := bk_len h ys h'; omega
  ·rw [h']; exact hx
 have h3 := tot_b h2
 have h4 := setN_len xss p xs
 exact ⟨by omega, fun ys hy => by have := h2 ys hy; omega, by rw [h4] at h3; omega⟩
theorem setDrop_b {xss : List (List Int)} {x : Int} (b1 : xss.length ≤ 1048576) (b2 : ∀ xs ∈ xss, xs.length ≤ 1048576) (bt : tot xss ≤ 1073741824) : (setDrop xss x).1.length ≤ 1048576 ∧ (∀ xs ∈ (setDrop xss x).1, xs.length ≤ 1048576) ∧ tot (setDrop xss x).1 ≤ 1073741824 := by
 unfold setDrop
 split
 ·rename_i h
  split
  ·refine set_b h.1 (Nat.le_trans (List.length_filter_le _ _) ?_)
   obtain ⟨p, hp1, hp⟩ := place_lt h.1 x
   unfold bkt
   rw [hp1, Int.toNat_natCast]
   have := bk_len h.1 _ (nthL_mem (i := p) hp)
   omega
  ·exact ⟨b1, b2, bt⟩
 ·exact ⟨b1, b2, bt⟩
end Go.Proofs.YtfbeplbcaanimaaGreat
set_option linter.unusedVariables false
set_option linter.unusedSimpArgs false
namespace Go.Proofs.YtfbeplbcaanimaaGreat
def plc (n : Nat) (y : Int) : Nat := (y % (n : Int)).toNat
theorem plc_lt {n : Nat} (hn : 0 < n) (y : Int) : plc n y < n ∧ y % (n : Int) = plc n y := by
 have h1 := Int.emod_nonneg y (show (n : Int) ≠ 0 by omega)
 have h2 := Int.emod_lt_of_pos y (show 0 < (n : Int) by omega)
 unfold plc
 omega
def buck (l : List Int) (n : Nat) : List (List Int) := (List.range n).map fun p => l.filter fun y => decide (plc n y = p)
theorem buck_len (l : List Int) (n : Nat) : (buck l n).length = n := by simp [buck]
theorem buck_nth {l : List Int} {n p : Nat} (h : p < n) : nthL (buck l n) p = l.filter fun y => decide (plc n y = p) := by
 simp [nthL, buck, List.getD_eq_getElem?_getD, h]
theorem buck_nil (n : Nat) : ∀ p, p < n → nthL (buck [] n) p = [] := fun p h => by rw [buck_nth h]; rfl
theorem buck_snoc {l : List Int} {n : Nat} (hn : 0 < n) (y : Int) : buck (l ++ [y]) n = setN (buck l n) (plc n y) (nthL (buck l n) (plc n y) ++ [y]) := by
 have hp := (plc_lt hn y).1
 refine (nthL_ext (by rw [setN_len, buck_len, buck_len])).1 fun j hj => ?_
 rw [buck_len] at hj
 rw [setN_nth (by rw [buck_len]; exact hp), buck_nth hj, List.filter_append]
 by_cases e : j = plc n y
 ·subst e
  rw [if_pos rfl, buck_nth hj]
  simp
 ·rw [if_neg e, buck_nth hj]
  simp [Ne.symm e]
theorem flat_cons {f g : Nat → List Int} {y : Int} {p : Nat} (hg : g p = y :: f p) (ho : ∀ q, q ≠ p → g q = f q) : ∀ n, p < n → ((List.range n).map g).flatten.Perm (y :: ((List.range n).map f).flatten) := by
 intro n
 induction n with
 | zero => intro h; omega
 | succ n ih =>
  intro h
  simp only [List.range_succ, List.map_append, List.map_cons, List.map_nil, List.flatten_append, List.flatten_cons, List.flatten_nil, List.append_nil]
  by_cases e : p = n
  ·subst e
   rw [List.map_congr_left (g := f) fun q hq => ho q (by have := List.mem_range.1 hq; omega), hg]
   exact List.perm_middle
  ·rw [ho n (Ne.symm e)]
   exact (ih (by omega)).append_right _
theorem buck_perm {n : Nat} (hn : 0 < n) : ∀ l : List Int, (buck l n).flatten.Perm l
 | [] => by
  have : buck [] n = (List.range n).map fun _ => [] := rfl
  rw [this]
  rw [show ((List.range n).map fun _ => ([] : List Int)).flatten = [] by simp]
 | y :: l => by
  have ih := buck_perm hn l
  have hp := (plc_lt hn y).1
  refine (flat_cons (p := plc n y) (y := y) (f := fun p => l.filter fun y => decide (plc n y = p)) ?_ ?_ n hp).trans (ih.cons y)
  ·simp
  ·intro q hq
   simp [Ne.symm hq]
theorem srt_filter (l : List Int) (f : Int → Bool) : srt (l.filter f) = (srt l).filter f := srt_eq ((srt_perm l).symm.filter f) ((srt_asc l).filter f)
def dbl (l : List Int) (n : Nat) : List (List Int) := (List.range n).map fun p => insAll [] (l.filter fun y => decide (plc n y = p))
theorem dbl_len (l : List Int) (n : Nat) : (dbl l n).length = n := by simp [dbl]
theorem dbl_nth {l : List Int} {n p : Nat} (h : p < n) : nthL (dbl l n) p = insAll [] (l.filter fun y => decide (plc n y = p)) := by
 simp [nthL, dbl, List.getD_eq_getElem?_getD, h]
theorem dbl_snoc {l : List Int} {n : Nat} (hn : 0 < n) (y : Int) : dbl (l ++ [y]) n = setN (dbl l n) (plc n y) (insL (nthL (dbl l n) (plc n y)) y) := by
 have hp := (plc_lt hn y).1
 refine (nthL_ext (by rw [setN_len, dbl_len, dbl_len])).1 fun j hj => ?_
 rw [dbl_len] at hj
 rw [setN_nth (by rw [dbl_len]; exact hp), dbl_nth hj, List.filter_append]
 by_cases e : j = plc n y
 ·subst e
  rw [if_pos rfl, dbl_nth hj, insAll_snoc]
  simp
 ·rw [if_neg e, dbl_nth hj]
  simp [Ne.symm e]
theorem dbl_buck (l : List Int) (n : Nat) : dbl l n = buck (srt l) n := List.map_congr_left fun p _ => by rw [insAll_srt, srt_filter]
theorem perm_srt {l k : List Int} (h : l.Perm k) : srt l = srt k := srt_eq (h.trans (srt_perm k).symm) (srt_asc k)
def settle (x : Int) (l : List Int) : Nat → List (List Int) → Option (List (List Int))
 | 0, _ => none
 | f + 1, z => if (bkt z x).length = 3 then (if z.length = 8 then none else settle x l f (buck l (2 * z.length))) else some z
structure Zed (xss z : List (List Int)) : Prop where
 len : z.length = 1 ∨ z.length = 2 ∨ z.length = 4 ∨ z.length = 8
 perm : z.flatten.Perm xss.flatten
 asc : ∀ p, p < z.length → Asc (nthL z p)
theorem Zed.next {xss z : List (List Int)} (h : Zed xss z) (h8 : z.length ≠ 8) : Zed xss (buck (srt xss.flatten) (2 * z.length)) := by
 have hl := h.len
 refine ⟨by rw [buck_len]; omega, (buck_perm (by omega) _).trans (srt_perm _), fun p hp => ?_⟩
 rw [buck_len] at hp
 rw [buck_nth hp]
 exact (srt_asc _).filter _
theorem Zed.start {xss : List (List Int)} (h : setOk xss = true) : Zed xss xss := by
 refine ⟨setOk_len h, List.Perm.refl _, fun p hp => ?_⟩
 have hb := bkt_ok h hp
 simp only [bkOk, Bool.and_eq_true, decide_eq_true_eq] at hb
 have step : ∀ i, i + 1 < (nthL xss p).length → nth (nthL xss p) i < nth (nthL xss p) (i + 1) := fun i hi => by
  have := hb.2 (i + 1) hi
  simp only [elOk, Bool.and_eq_true, decide_eq_true_eq, Nat.add_sub_cancel] at this
  exact this.2 (Nat.succ_pos i)
 have mono : ∀ d i, i + d + 1 < (nthL xss p).length → nth (nthL xss p) i < nth (nthL xss p) (i + d + 1) := by
  intro d
  induction d with
  | zero => intro i hi; exact step i hi
  | succ d ih =>
   intro i hi
   have h1 := ih i (by omega)
   have h2 := step (i + d + 1) (by omega)
   rw [show i + (d + 1) + 1 = i + d + 1 + 1 by omega]
   omega
 refine List.pairwise_iff_getElem.2 fun i j hi hj hij => ?_
 have := mono (j - i - 1) i (by omega)
 rw [show i + (j - i - 1) + 1 = j by omega] at this
 simp only [nth, List.getD_eq_getElem?_getD, hi, hj, List.getElem?_eq_getElem, Option.getD_some] at this
 omega
theorem nth_tot {z : List (List Int)} {p : Nat} (h : p < z.length) : (nthL z p).length ≤ tot z := by
 have h1 := tot_take h
 have h2 := tot_le_all z (p + 1)
 omega
theorem Zed.small {xss z : List (List Int)} (h : Zed xss z) (ho : setOk xss = true) : tot z ≤ 24 ∧ ∀ p, p < z.length → (nthL z p).length ≤ 24 := by
 have h1 := (setOk_tot ho).1
 have h2 : tot z = tot xss := by rw [← tot_flatten, ← tot_flatten]; exact h.perm.length_eq
 exact ⟨by omega, fun p hp => by have := nth_tot hp; omega⟩
theorem settle_Zed {xss : List (List Int)} {x : Int} : ∀ (f : Nat) {z w : List (List Int)}, Zed xss z → settle x (srt xss.flatten) f z = some w → Zed xss w ∧ (bkt w x).length ≠ 3
 | 0, z, w, _, h => by cases h
 | f + 1, z, w, hz, h => by
  unfold settle at h
  split at h
  ·split at h
   ·cases h
   ·rename_i h8
    exact settle_Zed f (hz.next h8) h
  ·rename_i h3
   injection h with h
   subst h
   exact ⟨hz, h3⟩
def setAdd (xss : List (List Int)) (x : Int) : List (List Int) × Int :=
 if setOk xss = true ∧ isVal x = true then (if setHas xss x = true then (xss, 2) else match settle x (srt xss.flatten) 4 xss with
  | none => (xss, 3)
  | some z => (setN z (x % (z.length : Int)).toNat (insL (bkt z x) x), 0)) else (xss, 1)
theorem app_ins {xs : List Int} (h : Asc xs) (x : Int) : srt (xs ++ [x]) = insL xs x :=
 srt_eq ((List.perm_append_singleton x xs).trans (insL_perm xs x).symm) (insL_asc h)
theorem setAdd_b {xss : List (List Int)} {x : Int} (b1 : xss.length ≤ 1048576) (b2 : ∀ xs ∈ xss, xs.length ≤ 1048576) (bt : tot xss ≤ 1073741824) : (setAdd xss x).1.length ≤ 1048576 ∧ (∀ xs ∈ (setAdd xss x).1, xs.length ≤ 1048576) ∧ tot (setAdd xss x).1 ≤ 1073741824 := by
 unfold setAdd
 split
 ·rename_i h
  split
  ·exact ⟨b1, b2, bt⟩
  ·cases hs : settle x (srt xss.flatten) 4 xss with
   | none => exact ⟨b1, b2, bt⟩
   | some z =>
    obtain ⟨hz, h3⟩ := settle_Zed 4 (Zed.start h.1) hs
    have hl := hz.len
    have hsm := hz.small h.1
    simp only
    have h2 : ∀ ys ∈ setN z (x % (z.length : Int)).toNat (insL (bkt z x) x), ys.length ≤ 25 := fun ys hy => by
     rcases List.mem_or_eq_of_mem_set hy with h' | h'
     ·obtain ⟨i, hi, rfl⟩ := List.getElem_of_mem h'
      have := hsm.2 i hi
      rw [nthL_lt hi] at this
      omega
     ·have := hsm.2 _ (plc_lt (n := z.length) (by omega) x).1
      rw [h', insL_len]
      unfold bkt
      unfold plc at this
      omega
    have h4 := tot_b h2
    have h5 := setN_len z (x % (z.length : Int)).toNat (insL (bkt z x) x)
    exact ⟨by omega, fun ys hy => by have := h2 ys hy; omega, by rw [h5] at h4; omega⟩
 ·exact ⟨b1, b2, bt⟩
end Go.Proofs.YtfbeplbcaanimaaGreat
set_option linter.unusedVariables false
set_option linter.unusedSimpArgs false
set_option maxHeartbeats 4000000
namespace Go.Proofs.YtfbeplbcaanimaaGreat
variable {X : FuncId → List V → List Blk → Option Ret} {L : Nat}
theorem SX.nil_ref {m : List Blk} {lo hi q : Nat} {hs : List C} {xss : List (List Int)} (h : SX m lo hi q hs xss) (hr : refsL hs = 0) {j : Nat} (hj : j < xss.length) : hs[j]? = some .nils ∧ nthL xss j = [] := by
 rcases h.bk j hj with h1 | ⟨b, h1, _⟩
 ·exact h1
 ·have := refsL_get h1
  simp only [C.refs] at this
  omega
theorem fin_sx {m M : List Blk} {hi q n e : Nat} {env : List (Nat × V)} {hs : List C} {xss : List (List Int)} (hE : Ext m M) (h : SX M m.length hi q hs xss) (hn : n = xss.length) (ha : hi ≤ mx e (q + 1)) :
  ∃ q' M' e', fin m.length (.c (.sl q 0 n n)) ⟨env, M, e, 0⟩ = ⟨.c (.sl q' 0 n n), M', e', 0⟩ ∧ Ext m M' ∧ ∃ hi', SX M' m.length hi' q' hs xss ∧ hi' ≤ mx e' (q' + 1) := by
 have h1 := h.q1
 have hq : ¬ q + 1 ≤ m.length := by omega
 have hown : ¬ q < m.length := by omega
 by_cases hr : refsL hs = 0
 ·refine ⟨m.length, m ++ [⟨hs, 103, 1, true⟩], 0, ?_, ⟨_, rfl⟩, m.length + 1, ⟨Nat.le_refl _, Nat.lt_succ_self _, by simp, by simp, h.len, fun j hj => .inl (h.nil_ref hr hj), h.dst⟩, by rw [mx_eq]; omega⟩
  simp [fin, V.refs, C.refs, hq, V.own, C.own, hown, nub, pickB, h.hdr, hr, V.ren, C.ren, pos, hE.fin0]
 ·have hhi : hi ≤ mx m.length (mx e (q + 1)) := Nat.le_trans ha (le_mx_r _ _)
  refine ⟨q, M.take (mx m.length (mx e (q + 1))), e, ?_, hE.cut (le_mx_l _ _), hi, h.cut hhi, ha⟩
  simp [fin, V.refs, C.refs, hq, V.own, C.own, hown, nub, pickB, h.hdr, hr]
theorem SX.appIn {m M l : List Blk} {hi q p b : Nat} {hs : List C} {z : List (List Int)} (h : SX M m.length hi q hs z) (hE : Ext m M) (hp : p < z.length) (hb : hs[p]? = some (.sl b 0 (nthL z p).length (nthL z p).length)) (hg : M[b]? = some (blkI (nthL z p))) (b1 : m.length ≤ b) (b2 : b < hi) (b3 : b ≠ q) (y : Int) :
  SX ((M.set b ⟨ints (nthL z p) ++ [ci y], 3, 1, true⟩).set q ⟨lay hs p [.sl b 0 ((nthL z p).length + 1) ((nthL z p).length + 1)], 103, 1, true⟩ ++ l) m.length hi q (lay hs p [.sl b 0 ((nthL z p).length + 1) ((nthL z p).length + 1)]) (setN z p (nthL z p ++ [y])) ∧
   Ext m ((M.set b ⟨ints (nthL z p) ++ [ci y], 3, 1, true⟩).set q ⟨lay hs p [.sl b 0 ((nthL z p).length + 1) ((nthL z p).length + 1)], 103, 1, true⟩ ++ l) := by
 have hqM : q < M.length := lt_of_get h.hdr
 have hbM : b < M.length := lt_of_get hg
 have hq1 := h.q1
 have hg' : ∀ j, j ≠ b → j ≠ q → j < M.length → ((M.set b ⟨ints (nthL z p) ++ [ci y], 3, 1, true⟩).set q ⟨lay hs p [.sl b 0 ((nthL z p).length + 1) ((nthL z p).length + 1)], 103, 1, true⟩ ++ l)[j]? = M[j]? := fun j h1 h2 h3 => by
  rw [List.getElem?_append_left (by simpa using h3), List.getElem?_set_ne (Ne.symm h2), List.getElem?_set_ne (Ne.symm h1)]
 constructor
 ·have := h.put (p := p) (b := b) (xs := nthL z p ++ [y]) (hi' := hi) (m' := (M.set b ⟨ints (nthL z p) ++ [ci y], 3, 1, true⟩).set q ⟨lay hs p [.sl b 0 ((nthL z p).length + 1) ((nthL z p).length + 1)], 103, 1, true⟩ ++ l) hp (Nat.le_refl _) (by have := h.hm; simp; omega) (by rw [List.getElem?_append_left (by simpa using hqM), List.getElem?_set_self (by simpa using hqM), List.length_append]; rfl)
   (by rw [List.getElem?_append_left (by simpa using hbM), List.getElem?_set_ne (Ne.symm b3), List.getElem?_set_self hbM]; simp [blkI, ints]) b1 b2 b3 (fun j x' y z hj e => hj (h.dst _ _ _ _ _ _ _ _ _ e hb)) (fun j h1 h2 h3 h4 => hg' j h4 h3 (by have := h.hm; omega))
  rw [List.length_append] at this
  exact this
 ·have hl := hE.len
  exact Ext.of (by simp; omega) fun j hj => by rw [hg' j (by omega) (by omega) (by omega), hE.get hj]
theorem SX.appNew {m M l : List Blk} {hi q p b n : Nat} {hs : List C} {z : List (List Int)} {xs : List Int} (h : SX M m.length hi q hs z) (hE : Ext m M) (hp : p < z.length) (hn : n = xs.length) (hb : M.length ≤ b) (hl : (M ++ l)[b]? = some (blkI xs)) :
  SX (M.set q ⟨lay hs p [.sl b 0 n n], 103, 1, true⟩ ++ l) m.length (b + 1) q (lay hs p [.sl b 0 n n]) (setN z p xs) ∧ Ext m (M.set q ⟨lay hs p [.sl b 0 n n], 103, 1, true⟩ ++ l) := by
 subst hn
 have hqM : q < M.length := lt_of_get h.hdr
 have h1 := h.putNew (p := p) (b := b) (l := l) (xs := xs) hp hb hl
 rw [List.set_append_left _ _ hqM] at h1
 have hq1 := h.q1
 have hl := hE.len
 refine ⟨h1, Ext.of (by simp; omega) fun j hj => by rw [List.getElem?_append_left (by simp; omega), List.getElem?_set_ne (by omega), hE.get hj]⟩
theorem nil_SX (m : List Blk) (n : Nat) : SX (m ++ [⟨List.replicate n .nils, 103, 1, true⟩]) m.length (m.length + 1) m.length (List.replicate n .nils) (buck [] n) := by
 refine ⟨Nat.le_refl _, Nat.lt_succ_self _, by simp, by simp, by rw [buck_len]; simp, fun j hj => .inl ?_, fun i j b x y z x' y' z' h1 _ => ?_⟩
 ·rw [buck_len] at hj
  exact ⟨by simp [hj], buck_nil n j hj⟩
 ·rw [List.getElem?_replicate] at h1
  split at h1 <;> cases h1
theorem buck_le {l : List Int} {n p : Nat} (h : p < n) : (nthL (buck l n) p).length ≤ l.length := by rw [buck_nth h]; exact List.length_filter_le _ _
theorem den_bucketed (hL : 2000000 ≤ L) (k : Nat) (m : List Blk) (c : C) (l : List Int) (n : Nat) (hc : Sl m c l) (hn : 0 < n ∧ n ≤ 8) (hl : l.length ≤ 1048576) :
  ∃ q M e, den T X L (k + 2) 119 [.c c, vi n] m = some ⟨.c (.sl q 0 n n), M, e, 0⟩ ∧ Ext m M ∧ ∃ hi, ∃ hs, SX M m.length hi q hs (buck l n) ∧ hi ≤ mx e (q + 1) := by
 rw [den_eq T_119]
 have hlp := iter_ex (n0 := m.length) (id := 0) (ka := some [5]) (f := fun s => exec (den T X L (k + 1)) L m.length none c_impl_bucketed_b0 s) (tr := trim m.length (some [1, 5, 10, 11, 12])) (σ := Nat × List Blk × Nat × Nat × List C)
  (fun s => ⟨[(1, vi n), (5, .c (.sl m.length 0 n n)), (10, .c c), (11, vi l.length), (12, vi s.1)], s.2.1, s.2.2.1, 0⟩)
  (fun s => s.1 ≤ l.length ∧ Ext m s.2.1 ∧ SX s.2.1 m.length s.2.2.2.1 m.length s.2.2.2.2 (buck (l.take s.1) n) ∧ s.2.2.2.1 ≤ mx s.2.2.1 (m.length + 1))
  (fun s => l.length - s.1)
  (fun r => ∃ M' e' hi hs', r = (.norm, ⟨[(5, .c (.sl m.length 0 n n))], M', e', 0⟩) ∧ Ext m M' ∧ SX M' m.length hi m.length hs' (buck l n) ∧ hi ≤ mx e' (m.length + 1)) ?w
 case w =>
  rintro ⟨i, M', e', hi, hs'⟩ ⟨i1, i2, i3, i4⟩
  simp only at i1 i2 i3 i4 ⊢
  by_cases he : i = l.length
  ·subst he
   rw [List.take_length] at i3
   refine ⟨.exit 0, _, by simp (maxSteps := 1000000) -implicitDefEqProofs (disch := omega) [-getElem?_pos, c_impl_bucketed_b0]; rfl, ?_⟩
   refine ⟨_, rfl, _, _, hi, hs', by simp (maxSteps := 1000000) -implicitDefEqProofs (disch := omega) [-getElem?_pos, c_blkx]; rfl, ?_, ?_, i4⟩
   ·exact i2.cut (by simp only [mx_eq]; omega)
   ·exact i3.cut (by simp only [mx_eq] at i4 ⊢; omega)
  ·have hi' : (i : Int) < (l.length : Int) := by omega
   obtain ⟨l0, hM'⟩ := i2
   have hcs : Sl M' c l := by rw [hM']; exact hc.grow
   have i2 : Ext m M' := ⟨l0, hM'⟩
   have hix := hcs.ixV (i := (i : Int)) (by omega)
   rw [Int.toNat_natCast] at hix
   have hld := hcs.ldV (i := i) (by omega)
   obtain ⟨hp, hp1⟩ := plc_lt hn.1 (nth l i)
   obtain ⟨p, hpe⟩ : ∃ p, p = plc n (nth l i) := ⟨_, rfl⟩
   rw [← hpe] at hp hp1
   have o1 := den_placeOf (X := X) (L := L) k M' (nth l i) n (by omega)
   rw [hp1] at o1
   have hpi : (p : Int) < (n : Int) := by omega
   have hsn : buck (l.take (i + 1)) n = setN (buck (l.take i) n) p (nthL (buck (l.take i) n) p ++ [nth l i]) := by
    have hli : i < l.length := by omega
    have hnl : nth l i = l[i] := by simp [nth, List.getD_eq_getElem?_getD, hli]
    rw [List.take_succ_eq_append_getElem hli, buck_snoc hn.1, ← hnl, ← hpe]
   have hbl := buck_len (l.take i) n
   have hble := buck_le (l := l.take i) hp
   have hlq : ∀ l', live (M' ++ l') m.length n = some ⟨hs', 103, 1, true⟩ := fun l' => live_grow (by have := i3.live; rwa [hbl] at this)
   have hqM : m.length < M'.length := lt_of_get i3.hdr
   have hhl : hs'.length = n := by rw [i3.len, hbl]
   have hset : ∀ l' W, (M' ++ l').set m.length W = M'.set m.length W ++ l' := fun l' W => List.set_append_left _ _ hqM
   have hlq0 : live M' m.length n = some ⟨hs', 103, 1, true⟩ := by have := i3.live; rwa [hbl] at this
   rw [List.length_take] at hble
   rcases i3.bk p (by rw [hbl]; exact hp) with ⟨a1, a2⟩ | ⟨b, a1, a2, a3, a4, a5⟩
   ·obtain ⟨w1, w2⟩ := i3.appNew (p := p) (b := M'.length + 1) (n := 1) (xs := [nth l i]) (l := [⟨[ci (nth l i)], 3, 1, true⟩, ⟨[ci (nth l i)], 3, 1, true⟩]) i2 (by rw [hbl]; exact hp) rfl (by omega) (by rw [get_app]; rfl)
    rw [a2, List.nil_append] at hsn
    rw [← hsn] at w1
    refine ⟨.norm, _, by simp (maxSteps := 1000000) -implicitDefEqProofs (disch := omega) [-getElem?_pos, c_impl_bucketed_b0, hi', hix, hld, o1, hpi, hlq, hlq0, a1, hset, hhl]; rfl, (i + 1, _, _, M'.length + 1 + 1, lay hs' p [.sl (M'.length + 1) 0 1 1]), by simp (maxSteps := 1000000) -implicitDefEqProofs (disch := omega) [-getElem?_pos, ]; exact ⟨rfl, rfl⟩, ⟨?_, ?_, ?_, ?_⟩, ?_⟩
    ·show i + 1 ≤ l.length; omega
    ·exact w2.cut (le_mx_l _ _)
    ·exact w1.cut (by simp only [mx_eq] at i4 ⊢; omega)
    ·simp only [mx_eq] at i4 ⊢; omega
    ·show l.length - (i + 1) < l.length - i; omega
   ·obtain ⟨w1, w2⟩ := i3.appIn (p := p) (b := b) (l := [⟨[ci (nth l i)], 3, 1, true⟩]) i2 (by rw [hbl]; exact hp) a1 a2 a3 a4 a5 (nth l i)
    rw [← hsn] at w1
    have hlb : ∀ l', live (M' ++ l') b (nthL (buck (l.take i) n) p).length = some (blkI (nthL (buck (l.take i) n) p)) := fun l' => live_grow (by unfold live; rw [a2]; simp [blkI, ints_len])
    have hbM : b < M'.length := lt_of_get a2
    have hlq2 : ∀ Z l', live (M'.set b Z ++ l') m.length n = some ⟨hs', 103, 1, true⟩ := fun Z l' => by
     have := hlq l'
     unfold live at this ⊢
     rw [List.getElem?_append_left (by simpa using hqM), List.getElem?_set_ne a5]
     rwa [List.getElem?_append_left hqM] at this
    have hset2 : ∀ Z l' W, (M'.set b Z ++ l').set m.length W = (M'.set b Z).set m.length W ++ l' := fun Z l' W => List.set_append_left _ _ (by simpa using hqM)
    refine ⟨.norm, _, by simp (maxSteps := 1000000) -implicitDefEqProofs (disch := omega) [-getElem?_pos, c_impl_bucketed_b0, hi', hix, hld, o1, hpi, hlq, hlq0, a1, hlb, hlq2, hset2, hhl]; rfl, (i + 1, _, _, hi, lay hs' p [.sl b 0 ((nthL (buck (l.take i) n) p).length + 1) ((nthL (buck (l.take i) n) p).length + 1)]), by simp (maxSteps := 1000000) -implicitDefEqProofs (disch := omega) [-getElem?_pos, ]; exact ⟨rfl, rfl⟩, ⟨?_, ?_, ?_, ?_⟩, ?_⟩
    ·show i + 1 ≤ l.length; omega
    ·exact w2.cut (le_mx_l _ _)
    ·exact w1.cut (by simp only [mx_eq] at i4 ⊢; omega)
    ·simp only [mx_eq] at i4 ⊢; omega
    ·show l.length - (i + 1) < l.length - i; omega
 have hb24 : (n : Int) * 24 ≤ 140737488355328 := by omega
 have h0 := nil_SX m n
 have hcl := fun l' => (hc.grow (l := l')).lenV
 simp (maxSteps := 1000000) -implicitDefEqProofs (disch := omega) [-getElem?_pos, -fin, c_impl_bucketed, hcl, hb24]
 generalize hqq : blkC _ _ _ (iter _ _ _ _) = qq
 obtain ⟨r, e1, M', e', hi, hs', rfl, w1, w2, w3⟩ : ∃ r, qq = some r ∧ ∃ M' e' hi hs', r = (Ex.norm, ⟨[(5, .c (.sl m.length 0 n n))], M', e', 0⟩) ∧ Ext m M' ∧ SX M' m.length hi m.length hs' (buck l n) ∧ hi ≤ mx e' (m.length + 1) := by
  rw [← hqq]
  refine hlp L (0, _, _, m.length + 1, List.replicate n .nils) _ ?I (by simp (maxSteps := 1000000) -implicitDefEqProofs (disch := omega) [-getElem?_pos, ]; exact ⟨rfl, rfl⟩) (by show l.length - 0 < L; omega)
  refine ⟨Nat.zero_le _, Ext.cut ⟨_, rfl⟩ (le_mx_l _ _), h0.cut (by simp only [mx_eq]; omega), ?_⟩
  exact le_mx_r _ _
 subst e1
 simp (maxSteps := 1000000) -implicitDefEqProofs (disch := omega) [-getElem?_pos, -fin]
 obtain ⟨q', M2, e2, f1, f2, hi2, f3, f4⟩ := fin_sx (env := [(4, .c (.sl m.length 0 n n))]) (e := e') (w1.cut (le_mx_l m.length (mx e' (m.length + 1)))) (w2.cut (Nat.le_trans w3 (le_mx_r m.length _))) (buck_len l n).symm w3
 exact ⟨q', M2, e2, f1, f2, hi2, ⟨_, f3⟩, f4⟩
def pre (z : List (List Int)) (i j : Nat) : List Int := (z.take i).flatten ++ (nthL z i).take j
theorem pre_zero (z : List (List Int)) (i : Nat) : pre z i 0 = (z.take i).flatten := by simp [pre]
theorem pre_all {z : List (List Int)} {i : Nat} (h : i < z.length) : pre z i (nthL z i).length = (z.take (i + 1)).flatten := by
 unfold pre
 rw [List.take_length, ← take_snoc h]
 simp
theorem pre_snoc {z : List (List Int)} {i j : Nat} (h : j < (nthL z i).length) : pre z i (j + 1) = pre z i j ++ [nth (nthL z i) j] := by
 have hn : nth (nthL z i) j = (nthL z i)[j] := by simp [nth, List.getD_eq_getElem?_getD, h]
 unfold pre
 rw [List.take_succ_eq_append_getElem h, hn, List.append_assoc]
theorem pre_len {z : List (List Int)} {i j : Nat} (hi : i < z.length) : (pre z i j).length ≤ tot z := by
 unfold pre
 rw [List.length_append, tot_flatten, List.length_take]
 have h1 := tot_take hi
 have h2 := tot_le_all z (i + 1)
 omega
theorem den_l16Double (hL : 2000000 ≤ L) (k : Nat) (m : List Blk) (v : C) (z : List (List Int)) (hv : SSA m v z) (hn : 0 < z.length ∧ 2 * z.length ≤ 8) (ht : tot z ≤ 1048576) :
  ∃ q M e, den T X L (k + 2) 106 [.c v] m = some ⟨.c (.sl q 0 (2 * z.length) (2 * z.length)), M, e, 0⟩ ∧ Ext m M ∧ ∃ hi, ∃ hs, SX M m.length hi q hs (dbl z.flatten (2 * z.length)) ∧ hi ≤ mx e (q + 1) := by
 rw [den_eq T_106]
 obtain ⟨n, hne⟩ : ∃ n, n = 2 * z.length := ⟨_, rfl⟩
 rw [← hne]
 have hlpI : ∀ i, i < z.length → ∀ n0 (s : Nat × List Blk × Nat × Nat × List C) st, (s.1 ≤ (nthL z i).length ∧ Ext m s.2.1 ∧ SX s.2.1 m.length s.2.2.2.1 m.length s.2.2.2.2 (dbl (pre z i s.1) n) ∧ s.2.2.2.1 ≤ mx s.2.2.1 (m.length + 1)) →
   trim m.length (some [0, 3, 4, 5]) st = ⟨[(0, .c v), (3, .c (.sl m.length 0 n n)), (4, vi i), (5, vi s.1)], s.2.1, s.2.2.1, 0⟩ → (nthL z i).length - s.1 < n0 →
   ∃ r, blkC m.length 2 (some [0, 3, 4]) (iter (fun s => exec (den T X L (k + 1)) L m.length none c_spec_l16Double_b1 s) (trim m.length (some [0, 3, 4, 5])) n0 st) = some r ∧
    ∃ M' e' hi hs', r = (.norm, ⟨[(0, .c v), (3, .c (.sl m.length 0 n n)), (4, vi i)], M', e', 0⟩) ∧ Ext m M' ∧ SX M' m.length hi m.length hs' (dbl (pre z i (nthL z i).length) n) ∧ hi ≤ mx e' (m.length + 1) := by
  intro i hiz
  refine iter_ex (σ := Nat × List Blk × Nat × Nat × List C) (fun s => ⟨[(0, .c v), (3, .c (.sl m.length 0 n n)), (4, vi i), (5, vi s.1)], s.2.1, s.2.2.1, 0⟩) (fun s => s.1 ≤ (nthL z i).length ∧ Ext m s.2.1 ∧ SX s.2.1 m.length s.2.2.2.1 m.length s.2.2.2.2 (dbl (pre z i s.1) n) ∧ s.2.2.2.1 ≤ mx s.2.2.1 (m.length + 1)) (fun s => (nthL z i).length - s.1) _ ?_
  rintro ⟨j, M', e', hi, hs'⟩ ⟨i1, i2, i3, i4⟩
  simp only at i1 i2 i3 i4 ⊢
  obtain ⟨l0, hM'⟩ := i2
  have hv' : SSA M' v z := by rw [hM']; exact hv.grow
  have i2 : Ext m M' := ⟨l0, hM'⟩
  have hix := hv'.ss.ixV (i := (i : Int)) (by omega)
  rw [Int.toNat_natCast] at hix
  obtain ⟨c0, hc1, hc2⟩ := hv'.ldV (i := i) hiz
  have hcl := hc2.sl.lenV
  have hzl := nth_tot hiz
  by_cases he : j = (nthL z i).length
  ·subst he
   refine ⟨.exit 2, _, by simp (maxSteps := 1000000) -implicitDefEqProofs (disch := omega) [-getElem?_pos, c_spec_l16Double_b1, hix, hc1, hcl]; rfl, ?_⟩
   refine ⟨_, rfl, _, _, hi, hs', by simp (maxSteps := 1000000) -implicitDefEqProofs (disch := omega) [-getElem?_pos, c_blkx]; rfl, ?_, ?_, i4⟩
   ·exact i2.cut (by simp only [mx_eq]; omega)
   ·exact i3.cut (by simp only [mx_eq] at i4 ⊢; omega)
  ·have hj' : (j : Int) < ((nthL z i).length : Int) := by omega
   have hix2 := hc2.sl.ixV (i := (j : Int)) (by omega)
   rw [Int.toNat_natCast] at hix2
   have hld2 := hc2.sl.ldV (i := j) (by omega)
   obtain ⟨hp, hp1⟩ := plc_lt (n := n) (by omega) (nth (nthL z i) j)
   obtain ⟨p, hpe⟩ : ∃ p, p = plc n (nth (nthL z i) j) := ⟨_, rfl⟩
   rw [← hpe] at hp hp1
   have o1 := den_l16Place (X := X) (L := L) k M' (nth (nthL z i) j) n (by omega)
   rw [hp1] at o1
   have hpi : (p : Int) < (n : Int) := by omega
   have hdl := dbl_len (pre z i j) n
   have hlq : live M' m.length n = some ⟨hs', 103, 1, true⟩ := by have := i3.live; rwa [hdl] at this
   have hhl : hs'.length = n := by rw [i3.len, hdl]
   have hqM : m.length < M'.length := lt_of_get i3.hdr
   have hlq2 : ∀ l', live (M' ++ l') m.length n = some ⟨hs', 103, 1, true⟩ := fun l' => live_grow hlq
   have hset : ∀ l' W, (M' ++ l').set m.length W = M'.set m.length W ++ l' := fun l' W => List.set_append_left _ _ hqM
   obtain ⟨cp, hcp, hcs⟩ : ∃ cp, hs'[p]? = some cp ∧ SlA M' cp (nthL (dbl (pre z i j) n) p) := by
    rcases i3.bk p (by rw [hdl]; exact hp) with ⟨a1, a2⟩ | ⟨b, a1, a2, a3, a4, a5⟩
    ·exact ⟨_, a1, .inl ⟨rfl, a2⟩⟩
    ·exact ⟨_, a1, SlA_blk a2⟩
   have hble : (nthL (dbl (pre z i j) n) p).length ≤ tot z := by
    rw [dbl_nth hp, insAll_len]
    have h1 := List.length_filter_le (fun y => decide (plc n y = p)) (pre z i j)
    have h2 := pre_len (j := j) hiz
    simp only [List.length_nil]
    omega
   have o2 := den_l16Put (X := X) (L := L) hL k M' cp _ (nth (nthL z i) j) hcs (by omega)
   have hsn : dbl (pre z i (j + 1)) n = setN (dbl (pre z i j) n) p (insL (nthL (dbl (pre z i j) n) p) (nth (nthL z i) j)) := by
    rw [pre_snoc (by omega), dbl_snoc (by omega), ← hpe]
   obtain ⟨w1, w2⟩ := i3.appNew (p := p) (b := M'.length) (xs := insL (nthL (dbl (pre z i j) n) p) (nth (nthL z i) j)) (l := [blkI (insL (nthL (dbl (pre z i j) n) p) (nth (nthL z i) j))]) i2 (by rw [hdl]; exact hp) rfl (Nat.le_refl _) (by rw [get_app0]; rfl)
   rw [← hsn] at w1
   generalize insL (nthL (dbl (pre z i j) n) p) (nth (nthL z i) j) = ins at o2 w1 w2
   refine ⟨.norm, _, by simp (maxSteps := 1000000) -implicitDefEqProofs (disch := omega) [-getElem?_pos, c_spec_l16Double_b1, hix, hc1, hcl, hj', hix2, hld2, o1, o2, hpi, hlq, hlq2, hcp, hset, hhl]; rfl, (j + 1, _, _, M'.length + 1, lay hs' p [.sl M'.length 0 ins.length ins.length]), by simp (maxSteps := 1000000) -implicitDefEqProofs (disch := omega) [-getElem?_pos, ]; exact ⟨rfl, rfl⟩, ⟨?_, ?_, ?_, ?_⟩, ?_⟩
   ·show j + 1 ≤ (nthL z i).length; omega
   ·exact w2.cut (le_mx_l _ _)
   ·exact w1.cut (by simp only [mx_eq] at i4 ⊢; omega)
   ·simp only [mx_eq] at i4 ⊢; omega
   ·show (nthL z i).length - (j + 1) < (nthL z i).length - j; omega
 have hlp := iter_ex (n0 := m.length) (id := 0) (ka := some [3]) (f := fun s => exec (den T X L (k + 1)) L m.length none c_spec_l16Double_b0 s) (tr := trim m.length (some [0, 3, 4])) (σ := Nat × List Blk × Nat × Nat × List C)
  (fun s => ⟨[(0, .c v), (3, .c (.sl m.length 0 n n)), (4, vi s.1)], s.2.1, s.2.2.1, 0⟩)
  (fun s => s.1 ≤ z.length ∧ Ext m s.2.1 ∧ SX s.2.1 m.length s.2.2.2.1 m.length s.2.2.2.2 (dbl (z.take s.1).flatten n) ∧ s.2.2.2.1 ≤ mx s.2.2.1 (m.length + 1))
  (fun s => z.length - s.1)
  (fun r => ∃ M' e' hi hs', r = (.norm, ⟨[(3, .c (.sl m.length 0 n n))], M', e', 0⟩) ∧ Ext m M' ∧ SX M' m.length hi m.length hs' (dbl z.flatten n) ∧ hi ≤ mx e' (m.length + 1)) ?w
 case w =>
  rintro ⟨i, M', e', hi, hs'⟩ ⟨i1, i2, i3, i4⟩
  simp only at i1 i2 i3 i4 ⊢
  obtain ⟨l0, hM'⟩ := i2
  have hv' : SSA M' v z := by rw [hM']; exact hv.grow
  have i2 : Ext m M' := ⟨l0, hM'⟩
  have hvl := hv'.ss.lenV
  by_cases he : i = z.length
  ·subst he
   rw [List.take_length] at i3
   refine ⟨.exit 0, _, by simp (maxSteps := 1000000) -implicitDefEqProofs (disch := omega) [-getElem?_pos, c_spec_l16Double_b0, hvl]; rfl, ?_⟩
   refine ⟨_, rfl, _, _, hi, hs', by simp (maxSteps := 1000000) -implicitDefEqProofs (disch := omega) [-getElem?_pos, c_blkx]; rfl, ?_, ?_, i4⟩
   ·exact i2.cut (by simp only [mx_eq]; omega)
   ·exact i3.cut (by simp only [mx_eq] at i4 ⊢; omega)
  ·have hi' : (i : Int) < (z.length : Int) := by omega
   have hin := hlpI i (by omega)
   have r1 : (C.sl m.length 0 n n).refs = m.length + 1 := rfl
   have r2 : ∀ k x, (C.int k x).refs = 0 := fun _ _ => rfl
   rw [← pre_zero] at i3
   obtain ⟨r, e1, M2, e2, hi2, hs2, rfl, w1, w2, w3⟩ := hin L (0, M'.take (mx m.length (mx e' (mx v.refs (m.length + 1)))), e', hi, hs') ⟨[(5, vi 0), (0, .c v), (3, .c (.sl m.length 0 n n)), (4, vi i)], M', e', 0⟩ ⟨Nat.zero_le _, i2.cut (by simp only [mx_eq]; omega), i3.cut (by simp only [mx_eq] at i4 ⊢; omega), i4⟩ (by simp (maxSteps := 1000000) -implicitDefEqProofs (disch := omega) [-getElem?_pos, -C.refs, r1, r2]) (by have := nth_tot (z := z) (p := i) (by omega); show (nthL z i).length - 0 < L; omega)
   rw [pre_all (by omega)] at w2
   have hwr := fun st h => (iter_tr (f := fun s => exec (den T X L (k + 1)) L m.length none c_spec_l16Double_b1 s) (tr := trim m.length (some [0, 3, 4, 5])) (st := st) (st' := ⟨[(5, vi 0), (0, .c v), (3, .c (.sl m.length 0 n n)), (4, vi i)], M', e', 0⟩) h L)
   refine ⟨.norm, _, by simp (maxSteps := 1000000) -implicitDefEqProofs (disch := omega) [-getElem?_pos, c_spec_l16Double_b0, hvl, hi']; rw [hwr _ (by simp (maxSteps := 1000000) -implicitDefEqProofs (disch := omega) [-getElem?_pos, ]), e1]; simp (maxSteps := 1000000) -implicitDefEqProofs (disch := omega) [-getElem?_pos]; rfl, (i + 1, _, _, hi2, hs2), by simp (maxSteps := 1000000) -implicitDefEqProofs (disch := omega) [-getElem?_pos, ]; exact ⟨rfl, rfl⟩, ⟨?_, ?_, ?_, ?_⟩, ?_⟩
   ·show i + 1 ≤ z.length; omega
   ·exact w1.cut (le_mx_l _ _)
   ·exact w2.cut (by simp only [mx_eq] at w3 ⊢; omega)
   ·exact w3
   ·show z.length - (i + 1) < z.length - i; omega
 have hb24 : (n : Int) * 24 ≤ 140737488355328 := by omega
 have h2 : (2 : Int) * (z.length : Int) = (n : Int) := by omega
 have h0 := nil_SX m n
 have hd0 : dbl [] n = buck [] n := by rw [dbl_buck, srt_nil]
 rw [← hd0] at h0
 have hvl := hv.ss.lenV
 simp (maxSteps := 1000000) -implicitDefEqProofs (disch := omega) [-getElem?_pos, -fin, c_spec_l16Double, hvl, hb24, h2]
 generalize hqq : blkC _ _ _ (iter _ _ _ _) = qq
 obtain ⟨r, e1, M', e', hi, hs', rfl, w1, w2, w3⟩ : ∃ r, qq = some r ∧ ∃ M' e' hi hs', r = (Ex.norm, ⟨[(3, .c (.sl m.length 0 n n))], M', e', 0⟩) ∧ Ext m M' ∧ SX M' m.length hi m.length hs' (dbl z.flatten n) ∧ hi ≤ mx e' (m.length + 1) := by
  rw [← hqq]
  refine hlp L (0, _, _, m.length + 1, List.replicate n .nils) _ ?I (by simp (maxSteps := 1000000) -implicitDefEqProofs (disch := omega) [-getElem?_pos, ]; exact ⟨rfl, rfl⟩) (by show z.length - 0 < L; omega)
  refine ⟨Nat.zero_le _, Ext.cut ⟨_, rfl⟩ (le_mx_l _ _), h0.cut (by simp only [mx_eq]; omega), ?_⟩
  exact le_mx_r _ _
 subst e1
 simp (maxSteps := 1000000) -implicitDefEqProofs (disch := omega) [-getElem?_pos, -fin]
 obtain ⟨q', M2, e2, f1, f2, hi2, f3, f4⟩ := fin_sx (env := [(2, .c (.sl m.length 0 n n))]) (e := e') (w1.cut (le_mx_l m.length (mx e' (m.length + 1)))) (w2.cut (Nat.le_trans w3 (le_mx_r m.length _))) (dbl_len z.flatten n).symm w3
 exact ⟨q', M2, e2, f1, f2, hi2, ⟨_, f3⟩, f4⟩
end Go.Proofs.YtfbeplbcaanimaaGreat
