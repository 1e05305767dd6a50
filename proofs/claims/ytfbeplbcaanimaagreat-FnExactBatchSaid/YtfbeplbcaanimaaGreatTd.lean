/-
 Trees: dropped.
-/
import Derived.Test.YtfbeplbcaanimaaGreatTB
set_option linter.unusedVariables false
set_option linter.unusedSimpArgs false
set_option maxHeartbeats 8000000
namespace Go.Proofs.YtfbeplbcaanimaaGreat
variable {X : FuncId → List V → List Blk → Option Ret} {L : Nat}
def lmW (f : Nat → Nd) : Nat → Way → Nat → Way × Nat × Nat
 | 0, w, s => (w, s, 0)
 | n + 1, w, s => if (f s).b = -1 then (w, s, 0) else ((lmW f n (some (s, false)) (f s).b.toNat).1, (lmW f n (some (s, false)) (f s).b.toNat).2.1, (lmW f n (some (s, false)) (f s).b.toNat).2.2 + 1)
theorem lmW_end {f : Nat → Nd} {n s : Nat} {w : Way} (h : (f s).b = -1) : lmW f n w s = (w, s, 0) := by cases n <;> simp [lmW, h]
theorem lmW_go {f : Nat → Nd} {n s t : Nat} {w : Way} (h : (f s).b = t) : lmW f (n + 1) w s = ((lmW f n (some (s, false)) t).1, (lmW f n (some (s, false)) t).2.1, (lmW f n (some (s, false)) t).2.2 + 1) := by
 conv => lhs; unfold lmW
 rw [if_neg (by omega), h, Int.toNat_natCast]
def ownW : Way → Nat
 | none => 16
 | some (q, _) => q
structure LmOk (f : Nat → Nd) (a : Int) (w0 : Way) (l : List Nat) (z : Way × Nat × Nat) : Prop where
 ok : okW z.1
 val : valW f a z.1 = z.2.1
 mem : z.2.1 ∈ l
 left : (f z.2.1).b = -1
 right : -1 ≤ (f z.2.1).c ∧ (f z.2.1).c ≤ 15
 way : z.1 = w0 ∨ (z.1 = some (ownW z.1, false) ∧ ownW z.1 ∈ l ∧ ownW z.1 ≠ z.2.1)
 cnt : z.2.2 ≤ l.length
theorem tr_val {f : Nat → Nd} {p : Int} {l : List Nat} (h : Tr f p l) : -1 ≤ p ∧ p ≤ 15 := by
 rcases h.inv with ⟨h, _⟩ | ⟨q, _, _, h, h2, _⟩ <;> omega
theorem lm_spec {f : Nat → Nd} {a : Int} : ∀ (n : Nat) (w : Way) (s : Nat) (l : List Nat), Tr f s l → l.length ≤ n → okW w → valW f a w = s → LmOk f a w l (lmW f n w s)
 | n, w, s, l, ht, hn, hw, hv => by
  rcases ht.inv with ⟨h, _⟩ | ⟨q, l1, r1, h1, h2, h3, h4, h5, h6⟩
  ·omega
  ·obtain rfl : s = q := by omega
   have hr := tr_val h5
   by_cases hb : (f s).b = -1
   ·rw [lmW_end hb]
    exact ⟨hw, hv, by rw [h6]; simp, hb, hr, .inl rfl, Nat.zero_le _⟩
   ·have hb2 := tr_val h4
    obtain ⟨t, ht'⟩ : ∃ t : Nat, (f s).b = t := ⟨(f s).b.toNat, by omega⟩
    rw [ht'] at h4
    have hlen : l.length = l1.length + (1 + r1.length) := by rw [h6]; simp; omega
    cases n with
    | zero => omega
    | succ n =>
     rw [lmW_go ht']
     have ih := lm_spec (a := a) n (some (s, false)) t l1 h4 (by omega) h2 ht'
     have hns := (Tr.not_l h2 h3 (by rw [ht']; exact h4) h5).1
     refine ⟨ih.ok, ih.val, by rw [h6]; simp [ih.mem], ih.left, ih.right, .inr ?_, by have := ih.cnt; simp only; omega⟩
     simp only
     rcases ih.way with e | ⟨e1, e2, e3⟩
     ·rw [e]
      exact ⟨rfl, by rw [h6]; simp [ownW], fun e => hns (by rw [show s = _ from e]; exact ih.mem)⟩
     ·exact ⟨e1, by rw [h6]; simp [e2], e3⟩
def mxC (x : Nd) : Int := if x.b ≤ x.c then x.c else x.b
def treeDrop (f : Nat → Nd) (a key : Int) : (Nat → Nd) × Int × Int :=
 if treeOk f a = true ∧ isVal key = true then
  if (twk f a key 8 none).2.2 = true then
   (if valW f a (twk f a key 8 none).1 = -1 then (f, a, 5) else
    if (f (valW f a (twk f a key 8 none).1).toNat).b ≠ -1 ∧ (f (valW f a (twk f a key 8 none).1).toNat).c ≠ -1 then
     (if 8 < (twk f a key 8 none).2.1 + 1 + (lmW f 17 (some ((valW f a (twk f a key 8 none).1).toNat, true)) (f (valW f a (twk f a key 8 none).1).toNat).c.toNat).2.2 then (f, a, 2) else
      (upd (setF (upd f (valW f a (twk f a key 8 none).1).toNat { f (valW f a (twk f a key 8 none).1).toNat with a := (f (lmW f 17 (some ((valW f a (twk f a key 8 none).1).toNat, true)) (f (valW f a (twk f a key 8 none).1).toNat).c.toNat).2.1).a })
        (lmW f 17 (some ((valW f a (twk f a key 8 none).1).toNat, true)) (f (valW f a (twk f a key 8 none).1).toNat).c.toNat).1 (f (lmW f 17 (some ((valW f a (twk f a key 8 none).1).toNat, true)) (f (valW f a (twk f a key 8 none).1).toNat).c.toNat).2.1).c)
       (lmW f 17 (some ((valW f a (twk f a key 8 none).1).toNat, true)) (f (valW f a (twk f a key 8 none).1).toNat).c.toNat).2.1 nd0, a, 0))
    else (upd (setF f (twk f a key 8 none).1 (mxC (f (valW f a (twk f a key 8 none).1).toNat))) (valW f a (twk f a key 8 none).1).toNat nd0, setA a (twk f a key 8 none).1 (mxC (f (valW f a (twk f a key 8 none).1).toNat)), 0))
  else (f, a, 2)
 else (f, a, 1)
theorem valW_key {f : Nat → Nd} {a x : Int} {q : Nat} {w : Way} : valW (upd f q { f q with a := x }) a w = valW f a w := by
 match w with
 | none => rfl
 | some (p, false) =>
  show (upd f q { f q with a := x } p).b = _
  by_cases e : p = q
  ·subst e; rw [upd_at]; rfl
  ·rw [upd_ne _ _ e]; rfl
 | some (p, true) =>
  show (upd f q { f q with a := x } p).c = _
  by_cases e : p = q
  ·subst e; rw [upd_at]; rfl
  ·rw [upd_ne _ _ e]; rfl
theorem vis_found {f : Nat → Nd} {a key : Int} : ∀ (n : Nat) (w : Way), trW f a w → (twk f a key n w).2.2 = true → valW f a (twk f a key n w).1 ≠ -1 →
  ∃ vs q, vis f key n (valW f a w) = vs ++ [q] ∧ valW f a (twk f a key n w).1 = (q : Nat) ∧ (f q).a = key ∧ (twk f a key n w).1 = match vs.getLast? with
   | none => w
   | some x => some (x, decide (¬ key < (f x).a))
 | 0, w, h, h1, h2 => by
  by_cases hv : valW f a w = -1
  ·rw [twk_end hv] at h2; exact absurd hv h2
  ·rw [twk_zero hv] at h1; cases h1
 | n + 1, w, h, h1, h2 => by
  by_cases hv : valW f a w = -1
  ·rw [twk_end hv] at h2; exact absurd hv h2
  ·obtain ⟨q, e1, _, _, h4, h5⟩ := trW_step h hv
   by_cases k1 : key < (f q).a
   ·rw [twk_l e1 k1] at h1 h2 ⊢
    obtain ⟨vs, x, i1, i2, i3, i4⟩ := vis_found n _ h4 h1 h2
    refine ⟨q :: vs, x, by rw [e1, vis_l (by omega) k1, show (f q).b = valW f a (some (q, false)) from rfl, i1]; rfl, i2, i3, ?_⟩
    simp only
    rw [i4]
    cases vs with
    | nil => simp [k1]
    | cons y r => rw [List.getLast?_cons_cons, List.getLast?_cons]
   ·by_cases k2 : key > (f q).a
    ·rw [twk_r e1 k1 k2] at h1 h2 ⊢
     obtain ⟨vs, x, i1, i2, i3, i4⟩ := vis_found n _ h5 h1 h2
     refine ⟨q :: vs, x, by rw [e1, vis_r (by omega) k1, show (f q).c = valW f a (some (q, true)) from rfl, i1]; rfl, i2, i3, ?_⟩
     simp only
     rw [i4]
     cases vs with
     | nil => simp [k1]
     | cons y r => rw [List.getLast?_cons_cons, List.getLast?_cons]
    ·rw [twk_hit e1 k1 k2]
     exact ⟨[], q, by rw [e1, vis_hit (by omega)]; rfl, e1, by omega, rfl⟩
theorem den_impl_TreeDrop (hL : 100 ≤ L) (k : Nat) (m : List Blk) (f : Nat → Nd) (a key : Int) : den T X L (k + 21) 89 [.agg (chn f a), vi key] m = some ⟨outT (treeDrop f a key), m, 0, 0⟩ := by
 rw [den_eq T_89]
 unfold outT
 cases hok : treeOk f a with
 | false => simp (maxSteps := 1000000) -implicitDefEqProofs (disch := omega) [-getElem?_pos, c_impl_TreeDrop, den_impl_TreeOk hL, treeOk_same, hok, treeDrop, z65]
 | true =>
  have ht := trW_root hok
  cases hv : isVal key with
  | false => simp (maxSteps := 1000000) -implicitDefEqProofs (disch := omega) [-getElem?_pos, c_impl_TreeDrop, den_impl_TreeOk hL, treeOk_same, den_isValue (k + 18), hok, hv, treeDrop, z65]
  | true =>
   have e := den_impl_twalk (X := X) hL (k + 19) (m ++ [⟨chn f a, 49, 0, true⟩, ⟨chn (fun _ => nd0) 0, 49, 0, true⟩, ⟨chn f a, 49, 0, true⟩]) m.length f a key (by simp (maxSteps := 1000000) -implicitDefEqProofs (disch := omega) [-getElem?_pos]) ht
   have htw := twk_tr (key := key) 8 none ht
   have hg := get_way (f := f) (a := a) htw.1
   have hw := way_lt htw.1
   have hop := twk_le (key := key) 8 none ht
   unfold treeDrop
   rw [if_pos ⟨hok, hv⟩]
   generalize twk f a key 8 none = r at e htw hg hw hop
   obtain ⟨w, op, ok⟩ := r
   simp only at e htw hg hw hop ⊢
   cases ok with
   | false => simp (maxSteps := 1000000) -implicitDefEqProofs (disch := omega) [-getElem?_pos, c_impl_TreeDrop, den_impl_TreeOk hL, treeOk_same, den_isValue (k + 18), hok, hv, e, z65]
   | true =>
    by_cases hz : valW f a w = -1
    ·rw [hz] at hg
     simp (maxSteps := 1000000) -implicitDefEqProofs (disch := omega) [-getElem?_pos, c_impl_TreeDrop, den_impl_TreeOk hL, treeOk_same, den_isValue (k + 18), hok, hv, e, z65, hg, hz]
    ·obtain ⟨q, h1, h2, h3, ⟨_, ll, h4⟩, ⟨_, lr, h5⟩⟩ := trW_step htw hz
     rw [h1] at hg
     simp only [if_true, h1, Int.toNat_natCast]
     have hq : ¬ (q : Int) = -1 := by omega
     have b4 := tr_val h4
     have b5 := tr_val h5
     simp only [valW] at b4 b5 h4 h5
     have hlay := fun x => lay_way (f := f) (a := a) (x := x) htw.1
     have hnl := Tr.not_l h2 h3 h4 h5
     by_cases hb : (f q).b = -1
     ·simp (maxSteps := 1000000) -implicitDefEqProofs (disch := omega) [-getElem?_pos, c_impl_TreeDrop, den_impl_TreeOk hL, treeOk_same, den_isValue (k + 18), hok, hv, e, z65, hg, hq, hb, znd, nd_g2, nd_g3, nd_lay, hlay, mxC]
      rfl
     ·by_cases hc : (f q).c = -1
      ·simp (maxSteps := 1000000) -implicitDefEqProofs (disch := omega) [-getElem?_pos, c_impl_TreeDrop, den_impl_TreeOk hL, treeOk_same, den_isValue (k + 18), hok, hv, e, z65, hg, hq, hb, hc, znd, nd_g2, nd_g3, nd_lay, hlay, mxC]
       rfl
      ·obtain ⟨s0, hs0⟩ : ∃ s : Nat, (f q).c = s := ⟨(f q).c.toNat, by omega⟩
       rw [hs0] at h5
       have h16 : lr.length ≤ 17 := by
        obtain ⟨l, _, t1, _, t3, _, hl⟩ := tree_spec hok
        have hql : q ∈ l := by
         have := t3 q h2
         rw [h3] at this
         simpa using this.symm
        obtain ⟨_, _, lq, t4, t5⟩ := t1.mem hql
        have h5' := h5
        rw [← hs0] at h5'
        rw [t4.det (Tr.node h2 h3 h4 h5')] at t5
        simp only [List.length_append, List.length_cons] at t5
        omega
       have hlm := lm_spec (a := a) 17 (some (q, true)) s0 lr h5 h16 h2 hs0
       have hlp := iter_blk (n0 := m.length) (id := 1) (ka := some [2, 4, 6, 7, 8, 10]) (f := fun s => exec (den T X L (k + 20)) L m.length none c_impl_TreeDrop_b0 s) (tr := trim m.length (some [2, 4, 6, 7, 8, 10])) (σ := Nat × Way × Nat × Nat)
        (fun s => ⟨[(2, .c (.ptr m.length 0 65)), (4, .c (.ptr (m.length + 1) 0 65)), (6, .c (.ptr (m.length + 2) 0 65)), (7, .c (.ptr m.length (offW s.2.1) 65)), (8, vi ((op : Int) + 1 + s.2.2.2)), (10, .c (.ptr m.length (q * 4) 65))], m ++ [⟨chn f a, 49, 0, true⟩, ⟨chn (fun _ => nd0) 0, 49, 0, true⟩, ⟨chn f a, 49, 0, true⟩], 0, 0⟩)
        (fun s => okW s.2.1 ∧ valW f a s.2.1 = s.2.2.1 ∧ ∃ l, Tr f s.2.2.1 l ∧ l.length ≤ s.1 ∧ s.2.2.2 + s.1 ≤ 17) (fun s => s.1)
        (fun s => (.norm, ⟨[(2, .c (.ptr m.length 0 65)), (4, .c (.ptr (m.length + 1) 0 65)), (6, .c (.ptr (m.length + 2) 0 65)), (7, .c (.ptr m.length (offW (lmW f s.1 s.2.1 s.2.2.1).1) 65)), (8, vi ((op : Int) + 1 + (s.2.2.2 + (lmW f s.1 s.2.1 s.2.2.1).2.2 : Nat))), (10, .c (.ptr m.length (q * 4) 65))], m ++ [⟨chn f a, 49, 0, true⟩, ⟨chn (fun _ => nd0) 0, 49, 0, true⟩, ⟨chn f a, 49, 0, true⟩], 0, 0⟩)) ?w
       case w =>
        rintro ⟨n, w, s, c⟩ ⟨i1, i2, l, i3, i4, i5⟩
        simp only at i1 i2 i3 i4 i5 ⊢
        have hg2 := get_way (f := f) (a := a) i1
        have hw2 := way_lt i1
        rw [i2] at hg2
        rcases i3.inv with ⟨j1, _⟩ | ⟨s', l1, r1, j1, j2, j3, j4, j5, j6⟩
        ·omega
        ·obtain rfl : s = s' := by omega
         have b6 := tr_val j4
         by_cases hb2 : (f s).b = -1
         ·refine ⟨.exit 1, _, by simp (maxSteps := 1000000) -implicitDefEqProofs (disch := omega) [-getElem?_pos, c_impl_TreeDrop_b0, hg2, hb2]; rfl, ?_⟩
          rw [lmW_end hb2]
          simp (maxSteps := 1000000) -implicitDefEqProofs (disch := omega) [-getElem?_pos, c_blkx]
         ·obtain ⟨t, ht2⟩ : ∃ t : Nat, (f s).b = t := ⟨(f s).b.toNat, by omega⟩
          rw [ht2] at j4
          have hlen : l.length = l1.length + (1 + r1.length) := by rw [j6]; simp; omega
          obtain ⟨n, rfl⟩ : ∃ n', n = n' + 1 := ⟨n - 1, by omega⟩
          have ht3 : ¬ (t : Int) = -1 := by omega
          refine ⟨.norm, _, by simp (maxSteps := 1000000) -implicitDefEqProofs (disch := omega) [-getElem?_pos, c_impl_TreeDrop_b0, hg2, ht2, ht3]; rfl, (n, some (s, false), t, c + 1), ?_, ⟨j2, ht2, l1, j4, by omega, by show c + 1 + n ≤ 17; omega⟩, by show n < n + 1; omega, ?_⟩
          ·simp (maxSteps := 1000000) -implicitDefEqProofs (disch := omega) [-getElem?_pos, offW]
           omega
          ·rw [lmW_go ht2]
           simp only
           rw [show c + 1 + (lmW f n (some (s, false)) t).2.2 = c + ((lmW f n (some (s, false)) t).2.2 + 1) by omega]
       simp (maxSteps := 1000000) -implicitDefEqProofs (disch := omega) [-getElem?_pos, c_impl_TreeDrop, den_impl_TreeOk hL, treeOk_same, den_isValue (k + 18), hok, hv, e, z65, hg, hq, hb, hc, hs0]
       rw [hlp L (17, some (q, true), s0, 0) _ ⟨h2, hs0, lr, h5, h16, by show 0 + 17 ≤ 17; omega⟩ ?tr (by show 17 < L; omega)]
       case tr => simp (maxSteps := 1000000) -implicitDefEqProofs (disch := omega) [-getElem?_pos, offW]
       simp only [Nat.zero_add]
       obtain ⟨z1, z2, z3, z4, z5, z6, z7⟩ := hlm
       generalize lmW f 17 (some (q, true)) s0 = z at z1 z2 z3 z4 z5 z6 z7
       obtain ⟨w', s, cn⟩ := z
       simp only at z1 z2 z3 z4 z5 z6 z7 ⊢
       have hsl := h5.mem z3
       have hsq : s ≠ q := by rintro rfl; exact hnl.2 z3
       by_cases hmany : 8 < op + 1 + cn
       ·have hm' : (8 < (op : Int) + 1 + cn) = True := eq_true (by omega)
        simp (maxSteps := 1000000) -implicitDefEqProofs (disch := omega) [-getElem?_pos, hm', hmany]
       ·have hm' : (8 < (op : Int) + 1 + cn) = False := eq_false (by omega)
        have hg3 := get_way (f := f) (a := a) z1
        rw [z2] at hg3
        have hw3 := way_lt z1
        have hg4 := get_way (f := upd f q { f q with a := (f s).a }) (a := a) z1
        rw [valW_key, z2] at hg4
        have hlay2 := fun x => lay_way (f := upd f q { f q with a := (f s).a }) (a := a) (x := x) z1
        have hs1 : upd f q { f q with a := (f s).a } s = f s := upd_ne _ _ hsq
        have hsa : ∀ x, setA a w' x = a := fun x => by
         rcases z6 with rfl | ⟨e1, _⟩
         ·rfl
         ·rw [e1]; rfl
        simp (maxSteps := 1000000) -implicitDefEqProofs (disch := omega) [-getElem?_pos, hm', hmany, hg3, hg4, hlay2, hs1, hsa, z4, znd, nd_g2, nd_g3, nd_lay]
        rw [if_pos z5.1, hs0]
        rfl
theorem den_spec_TreeDrop (hL : 100 ≤ L) (k : Nat) (m : List Blk) (f : Nat → Nd) (a key : Int) : den T X L (k + 21) 70 [.agg (chn f a), vi key] m = some ⟨outT (treeDrop f a key), m, 0, 0⟩ := by
 rw [den_eq T_70]
 unfold outT
 cases hok : treeOk f a with
 | false => simp (maxSteps := 1000000) -implicitDefEqProofs (disch := omega) [-getElem?_pos, c_spec_TreeDrop, den_spec_TreeOk hL, hok, treeDrop, z65]
 | true =>
  have ht := trW_root hok
  cases hv : isVal key with
  | false => simp (maxSteps := 1000000) -implicitDefEqProofs (disch := omega) [-getElem?_pos, c_spec_TreeDrop, den_spec_TreeOk hL, den_l1Value (k + 18), hok, hv, treeDrop, z65]
  | true =>
   have e := fun m => den_spec_twalk (X := X) hL (k + 19) m f a key ht
   have htw := twk_tr (key := key) 8 none ht
   have hvl := vis_len (key := key) 8 none ht
   have hop := twk_le (key := key) 8 none ht
   have hvt := vis_lt (key := key) 8 none ht
   have hvf := vis_found (key := key) 8 none ht
   rw [show valW f a none = a from rfl] at hvl hvt hvf
   unfold treeDrop
   rw [if_pos ⟨hok, hv⟩]
   generalize vis f key 8 a = vs at e hvl hvt hvf
   generalize twk f a key 8 none = r at e htw hvl hop hvf
   obtain ⟨w, op, ok⟩ := r
   simp only at e htw hvl hop hvf ⊢
   cases ok with
   | false => simp (maxSteps := 1000000) -implicitDefEqProofs (disch := omega) [-getElem?_pos, c_spec_TreeDrop, den_spec_TreeOk hL, den_l1Value (k + 18), hok, hv, e, z65]
   | true =>
    by_cases hz : valW f a w = -1
    ·simp (maxSteps := 1000000) -implicitDefEqProofs (disch := omega) [-getElem?_pos, c_spec_TreeDrop, den_spec_TreeOk hL, den_l1Value (k + 18), hok, hv, e, z65, hz]
    ·obtain ⟨vs, q, rfl, h1, _, hlw⟩ := hvf rfl hz
     have hlw : lastW f key vs = w := hlw.symm
     obtain ⟨q', h1', h2, h3, ⟨_, ll, h4⟩, ⟨_, lr, h5⟩⟩ := trW_step htw hz
     obtain rfl : q = q' := by omega
     simp only [if_true, h1, Int.toNat_natCast, List.length_append, List.length_cons, List.length_nil, Nat.zero_add] at hvl e ⊢
     have hq : ¬ (q : Int) = -1 := by omega
     have b4 := tr_val h4
     have b5 := tr_val h5
     simp only [valW] at b4 b5 h4 h5
     have hnl := Tr.not_l h2 h3 h4 h5
     have hget : (ints (toI (vs ++ [q])))[vs.length]? = some (ci q) := by
      rw [toI_get (by simp)]
      simp [List.getD_eq_getElem?_getD]
     have hsl : ∀ l : List Blk, Sl (m ++ ⟨chn f a, 49, 0, true⟩ :: ⟨chn (fun _ => nd0) 0, 49, 0, true⟩ :: blkI (toI (vs ++ [q])) :: l) (.sl (m.length + 2) 0 vs.length (vs.length + 1)) (toI vs) := fun l => by
      refine .inr ⟨m.length + 2, 0, vs.length + 1, blkI (toI (vs ++ [q])), by rw [toI_len], by simp [live, get_app, ints_len, toI_len], .inr rfl, fun j hj => ?_⟩
      rw [toI_len] at hj
      show (ints (toI (vs ++ [q])))[0 + j]? = _
      rw [Nat.zero_add, toI_get (by simp; omega)]
      simp [nth, toI, List.getD_eq_getElem?_getD, hj, List.getElem?_append_left hj]
     have hh := fun (l : List Blk) (p : Int) => den_l15Hang (X := X) hL (k + 19) (m ++ ⟨chn f a, 49, 0, true⟩ :: ⟨chn (fun _ => nd0) 0, 49, 0, true⟩ :: blkI (toI (vs ++ [q])) :: l) f a key p (.sl (m.length + 2) 0 vs.length (vs.length + 1)) vs (hsl l) (fun x hx => (hvt x (by simp [hx])).1) (by omega)
     simp only [hlw] at hh
     by_cases hb : (f q).b = -1
     ·simp (maxSteps := 1000000) -implicitDefEqProofs (disch := omega) [-getElem?_pos, c_spec_TreeDrop, den_spec_TreeOk hL, den_l1Value (k + 18), hok, hv, e, z65, hq, h1, hget, hb, toI_len, znd, nd_g2, nd_g3, nd_lay, hh, mxC]
      rw [if_pos b5.1]
      exact ⟨rfl, rfl⟩
     ·by_cases hc : (f q).c = -1
      ·simp (maxSteps := 1000000) -implicitDefEqProofs (disch := omega) [-getElem?_pos, c_spec_TreeDrop, den_spec_TreeOk hL, den_l1Value (k + 18), hok, hv, e, z65, hq, h1, hget, hb, hc, toI_len, show 0 ≤ (f q).b by omega, show ¬ (f q).b < 0 by omega, show ¬ (f q).b ≤ -1 by omega, znd, nd_g2, nd_g3, nd_lay, hh, mxC]
       rfl
      ·obtain ⟨s0, hs0⟩ : ∃ s : Nat, (f q).c = s := ⟨(f q).c.toNat, by omega⟩
       rw [hs0] at h5
       have h16 : lr.length ≤ 17 := by
        obtain ⟨l, _, t1, _, t3, _, hl⟩ := tree_spec hok
        have hql : q ∈ l := by
         have := t3 q h2
         rw [h3] at this
         simpa using this.symm
        obtain ⟨_, _, lq, t4, t5⟩ := t1.mem hql
        have h5' := h5
        rw [← hs0] at h5'
        rw [t4.det (Tr.node h2 h3 h4 h5')] at t5
        simp only [List.length_append, List.length_cons] at t5
        omega
       have hlm := lm_spec (a := a) 17 (some (q, true)) s0 lr h5 h16 h2 hs0
       have hlp := iter_blk (n0 := m.length) (id := 0) (ka := some [2, 4, 9, 10, 12, 13, 14]) (f := fun s => exec (den T X L (k + 20)) L m.length none c_spec_TreeDrop_b0 s) (tr := trim m.length (some [2, 4, 9, 10, 12, 13, 14])) (σ := Nat × Way × Nat × Nat)
        (fun s => ⟨[(2, .c (.ptr m.length 0 65)), (4, .c (.ptr (m.length + 1) 0 65)), (9, .c (.ptr (m.length + 3) 0 65)), (10, vi q), (12, vi ((vs.length : Int) + 1 + 1 + s.2.2.2)), (13, vi (ownW s.2.1)), (14, vi s.2.2.1)], m ++ [⟨chn f a, 49, 0, true⟩, ⟨chn (fun _ => nd0) 0, 49, 0, true⟩, blkI (toI (vs ++ [q])), ⟨chn f a, 49, 0, true⟩], 0, 0⟩)
        (fun s => okW s.2.1 ∧ valW f a s.2.1 = s.2.2.1 ∧ ∃ l, Tr f s.2.2.1 l ∧ l.length ≤ s.1 ∧ s.2.2.2 + s.1 ≤ 17) (fun s => s.1)
        (fun s => (.norm, ⟨[(2, .c (.ptr m.length 0 65)), (4, .c (.ptr (m.length + 1) 0 65)), (9, .c (.ptr (m.length + 3) 0 65)), (10, vi q), (12, vi ((vs.length : Int) + 1 + 1 + (s.2.2.2 + (lmW f s.1 s.2.1 s.2.2.1).2.2 : Nat))), (13, vi (ownW (lmW f s.1 s.2.1 s.2.2.1).1)), (14, vi (lmW f s.1 s.2.1 s.2.2.1).2.1)], m ++ [⟨chn f a, 49, 0, true⟩, ⟨chn (fun _ => nd0) 0, 49, 0, true⟩, blkI (toI (vs ++ [q])), ⟨chn f a, 49, 0, true⟩], 0, 0⟩)) ?w
       case w =>
        rintro ⟨n, w, s, c⟩ ⟨i1, i2, l, i3, i4, i5⟩
        simp only at i1 i2 i3 i4 i5 ⊢
        rcases i3.inv with ⟨j1, _⟩ | ⟨s', l1, r1, j1, j2, j3, j4, j5, j6⟩
        ·omega
        ·obtain rfl : s = s' := by omega
         have b6 := tr_val j4
         by_cases hb2 : (f s).b = -1
         ·refine ⟨.exit 0, _, by simp (maxSteps := 1000000) -implicitDefEqProofs (disch := omega) [-getElem?_pos, c_spec_TreeDrop_b0, hb2]; rfl, ?_⟩
          rw [lmW_end hb2]
          simp (maxSteps := 1000000) -implicitDefEqProofs (disch := omega) [-getElem?_pos, c_blkx]
         ·obtain ⟨t, ht2⟩ : ∃ t : Nat, (f s).b = t := ⟨(f s).b.toNat, by omega⟩
          rw [ht2] at j4
          have hlen : l.length = l1.length + (1 + r1.length) := by rw [j6]; simp; omega
          obtain ⟨n, rfl⟩ : ∃ n', n = n' + 1 := ⟨n - 1, by omega⟩
          refine ⟨.norm, _, by simp (maxSteps := 1000000) -implicitDefEqProofs (disch := omega) [-getElem?_pos, c_spec_TreeDrop_b0, ht2]; rfl, (n, some (s, false), t, c + 1), ?_, ⟨j2, ht2, l1, j4, by omega, by show c + 1 + n ≤ 17; omega⟩, by show n < n + 1; omega, ?_⟩
          ·simp (maxSteps := 1000000) -implicitDefEqProofs (disch := omega) [-getElem?_pos, ownW]
           omega
          ·rw [lmW_go ht2]
           simp only
           rw [show c + 1 + (lmW f n (some (s, false)) t).2.2 = c + ((lmW f n (some (s, false)) t).2.2 + 1) by omega]
       simp (maxSteps := 1000000) -implicitDefEqProofs (disch := omega) [-getElem?_pos, c_spec_TreeDrop, den_spec_TreeOk hL, den_l1Value (k + 18), hok, hv, e, z65, hq, h1, hget, hb, hc, toI_len, znd, nd_g2, nd_g3, nd_lay, show 0 ≤ (f q).b by omega, show 0 ≤ (f q).c by omega, hs0]
       rw [hlp L (17, some (q, true), s0, 0) _ ⟨h2, hs0, lr, h5, h16, by show 0 + 17 ≤ 17; omega⟩ ?tr (by show 17 < L; omega)]
       case tr => simp (maxSteps := 1000000) -implicitDefEqProofs (disch := omega) [-getElem?_pos, ownW]
       simp only [Nat.zero_add]
       obtain ⟨z1, z2, z3, z4, z5, z6, z7⟩ := hlm
       generalize lmW f 17 (some (q, true)) s0 = z at z1 z2 z3 z4 z5 z6 z7
       obtain ⟨w', s, cn⟩ := z
       simp only at z1 z2 z3 z4 z5 z6 z7 ⊢
       have hsl := h5.mem z3
       have hsq : s ≠ q := by rintro rfl; exact hnl.2 z3
       by_cases hmany : 8 < op + 1 + cn
       ·have hm' : (8 < (vs.length : Int) + 1 + 1 + cn) = True := eq_true (by omega)
        simp (maxSteps := 1000000) -implicitDefEqProofs (disch := omega) [-getElem?_pos, hm', hmany]
       ·have hm' : (8 < (vs.length : Int) + 1 + 1 + cn) = False := eq_false (by omega)
        have hs1 : upd f q { f q with a := (f s).a } s = f s := upd_ne _ _ hsq
        rcases z6 with rfl | ⟨e1, e2, e3⟩
        ·have hx : upd (upd f q { f q with a := (f s).a }) q { upd f q { f q with a := (f s).a } q with c := (f s).c } s = f s := by rw [upd_ne _ _ hsq, hs1]
         simp (maxSteps := 1000000) -implicitDefEqProofs (disch := omega) [-getElem?_pos, hm', hmany, hs1, ownW, setF, setA, znd]
         rw [hs0]
         rfl
        ·have hoq : ownW w' ≠ q := by
          intro h
          rw [h] at e2
          exact hnl.2 e2
         have ho16 : ownW w' < 16 := by rw [e1] at z1; exact z1
         generalize ownW w' = o at e1 e2 e3 hoq ho16
         subst e1
         have hoq' : ¬ (o : Int) = q := by omega
         simp (maxSteps := 1000000) -implicitDefEqProofs (disch := omega) [-getElem?_pos, hm', hmany, hs1, setF, setA, znd, hoq']
         rw [hs0]
         rfl
end Go.Proofs.YtfbeplbcaanimaaGreat
