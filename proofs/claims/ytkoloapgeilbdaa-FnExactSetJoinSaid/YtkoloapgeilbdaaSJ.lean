/-
  Sets: joined, the program's way and the reference's; the law of SetJoin.
-/
import Derived.Test.YtkoloapgeilbdaaSI
set_option linter.unusedVariables false
set_option linter.unusedSimpArgs false
set_option maxHeartbeats 4000000
namespace Go.Proofs.Ytkoloapgeilbdaa
variable {X : FuncId → List V → List Blk → Option Ret} {L : Nat}

def joinF (z : List (List Int)) : List Int → Option (List (List Int))
  | [] => some z
  | x :: r => if (setAdd z x).2 = 3 then none else joinF (setAdd z x).1 r
def setJoin (xss yss : List (List Int)) : List (List Int) × Int :=
  if setOk xss = true ∧ setOk yss = true then (match joinF xss (srt yss.flatten) with
    | none => (xss, 3)
    | some z => (z, 0)) else (xss, 1)
structure Bd (z : List (List Int)) : Prop where
  l : z.length ≤ 1048576
  e : ∀ xs ∈ z, xs.length ≤ 1048576
  t : tot z ≤ 1073741824
theorem Bd.add {z : List (List Int)} (h : Bd z) (x : Int) : Bd (setAdd z x).1 := let ⟨a, b, c⟩ := setAdd_b (x := x) h.l h.e h.t; ⟨a, b, c⟩
theorem Bd.join : ∀ (l : List Int) {z w : List (List Int)}, Bd z → joinF z l = some w → Bd w
  | [], z, w, h, hj => by simp only [joinF, Option.some.injEq] at hj; rw [← hj]; exact h
  | x :: l, z, w, h, hj => by
    unfold joinF at hj
    split at hj
    · cases hj
    · exact Bd.join l (h.add x) hj
theorem setJoin_b {xss yss : List (List Int)} (h : Bd xss) : Bd (setJoin xss yss).1 := by
  unfold setJoin
  split
  · cases hj : joinF xss (srt yss.flatten) with
    | none => exact h
    | some z => exact h.join _ hj
  · exact h
theorem SO.refs_lt {m : List Blk} {lo hi : Nat} {c : C} {z : List (List Int)} (h : SO m lo hi c z) : lo < c.refs := by
  obtain ⟨b, hs, bi, h1, h2, rfl, _⟩ := h
  simp only [C.refs]; omega
theorem SO.cut {m : List Blk} {lo hi a : Nat} {c : C} {z : List (List Int)} (h : SO m lo hi c z) (ha : hi ≤ a) : SO (m.take a) lo hi c z := h.congr fun q _ hq => List.getElem?_take_of_lt (by omega)
theorem drop_nth {l : List Int} {i : Nat} (h : i < l.length) : l.drop i = nth l i :: l.drop (i + 1) := by
  rw [List.drop_eq_getElem_cons h]
  simp [nth, List.getD_eq_getElem?_getD, h]
theorem outL_obb (m : List Blk) (l : List Int) : ∃ c M bj, outL m l = ⟨.c c, M, 0, 0⟩ ∧ Ext m M ∧ OB M m.length M.length M.length bj c l ∧ M.length ≤ mx m.length c.refs := by
  unfold outL
  by_cases h : l = []
  · rw [if_pos h]
    exact ⟨_, _, 0, rfl, Ext.refl m, .inl ⟨rfl, h⟩, le_mx_l _ _⟩
  · rw [if_neg h]
    refine ⟨_, _, m.length, rfl, ⟨_, rfl⟩, .inr ⟨ints l, by rw [ints_len], Nat.le_refl _, by simp, by simp, by simp [blkI], by rw [ints_len]; exact Nat.le_refl _, fun i hi => ints_get' hi⟩, by simp [C.refs, mx_eq]⟩
theorem impl_SetJoin (hL : 2000000 ≤ L) (k : Nat) (m : List Blk) (v w : C) (xss yss : List (List Int)) (hv : SSA m v xss) (hw : SSA m w yss) (hx : Bd xss) (hy : Bd yss) :
    ∃ M c e, den T libX L (k + 5) 59 [.c v, .c w] m = some ⟨.tup [.c c, vi (setJoin xss yss).2], M, e, 0⟩ ∧ Ext m M ∧ SO M m.length M.length c (setJoin xss yss).1 ∧ M.length ≤ mx e c.refs := by
  rw [den_eq T_59]
  have d1 := den_ownSet (X := libX) (L := L) hL (k + 2) m v xss hv hx.l hx.e
  have hsx := fresh_SX m xss
  have hml := freshM_len m xss
  have hext : Ext m (freshM m xss) := ⟨_, rfl⟩
  unfold freshR at d1
  generalize freshM m xss = M at d1 hsx hml hext
  obtain ⟨q0, hq0⟩ : ∃ q, q = m.length := ⟨_, rfl⟩
  rw [← hq0] at d1 hml
  have hsx : SX M m.length (q0 + 1 + xss.length) q0 (hd (q0 + 1) xss) xss := by rw [hq0]; exact hsx
  have hle : M.length ≤ mx (if xss = [] then 0 else q0 + 1 + xss.length) (q0 + 1) := by
    rw [mx_eq, hml]
    split
    · rename_i h; subst h; simp
    · omega
  have htk : List.take (mx (if xss = [] then 0 else q0 + 1 + xss.length) (q0 + 1)) M = M := List.take_of_length_le hle
  have hso0 : SO M m.length M.length (.sl q0 0 xss.length xss.length) xss := by rw [hml]; exact hsx.so
  have o1 := den_impl_SetOk (X := libX) (L := L) hL (k + 1) m v xss hv.ss hx.l hx.e
  have o2 := den_impl_SetOk (X := libX) (L := L) hL (k + 1) m w yss hw.ss hy.l hy.e
  unfold setJoin
  cases h1 : setOk xss with
  | false =>
    rw [h1] at o1
    simp (maxSteps := 1000000) (implicitDefEqProofs := false) (disch := omega) [-getElem?_pos, -fin, c_impl_SetJoin, d1, o1, htk]
    exact fin_sety hext hso0 (Nat.le_refl _) hle
  | true =>
    rw [h1] at o1
    cases h2 : setOk yss with
    | false =>
      rw [h2] at o2
      simp (maxSteps := 1000000) (implicitDefEqProofs := false) (disch := omega) [-getElem?_pos, -fin, c_impl_SetJoin, d1, o1, o2, htk]
      exact fin_sety hext hso0 (Nat.le_refl _) hle
    | true =>
      rw [h2] at o2
      have hne : xss ≠ [] := fun e => by have hn := setOk_len h1; subst e; simp at hn
      have d2 := den_listed (L := L) hL (k + 1) M w yss (hext.ssa hw) hy.l hy.e hy.t
      have hll : (srt yss.flatten).length ≤ 24 := by rw [srt_len, tot_flatten]; exact (setOk_tot h2).1
      generalize srt yss.flatten = l at d2 hll ⊢
      obtain ⟨c1, M1, bj, ho, x1, ob, hM1⟩ := outL_obb M l
      rw [ho] at d2
      have hlp := iter_ex (n0 := m.length) (id := 0) (ka := some [6]) (f := fun s => exec (den T libX L (k + 4)) L m.length none c_impl_SetJoin_b0 s) (tr := trim m.length (some [0, 6, 24, 25, 26])) (σ := Nat × List (List Int) × List Blk × Nat × C × Nat)
        (fun s => ⟨[(0, .c v), (6, .c s.2.2.2.2.1), (24, .c c1), (25, vi l.length), (26, vi s.1)], s.2.2.1, s.2.2.2.1, 0⟩)
        (fun s => s.1 ≤ l.length ∧ joinF s.2.1 (l.drop s.1) = joinF xss l ∧ Bd s.2.1 ∧ Ext M1 s.2.2.1 ∧ SO s.2.2.1 m.length s.2.2.2.2.2 s.2.2.2.2.1 s.2.1 ∧ s.2.2.2.2.2 ≤ s.2.2.1.length ∧ s.2.2.2.2.2 ≤ mx s.2.2.2.1 s.2.2.2.2.1.refs)
        (fun s => l.length - s.1)
        (fun r => (∃ z M' e' c hi, r = (.norm, ⟨[(6, .c c)], M', e', 0⟩) ∧ joinF xss l = some z ∧ Ext m M' ∧ SO M' m.length hi c z ∧ hi ≤ M'.length ∧ hi ≤ mx e' c.refs) ∨
          (∃ M' e' hi q hs, r = (.ret, ⟨[(4, .c (.sl q 0 xss.length xss.length)), (5, .c (.int .i64 3))], M', e', 0⟩) ∧ joinF xss l = none ∧ Ext m M' ∧ SX M' m.length hi q hs xss ∧ hi ≤ mx e' (q + 1))) ?w
      case w =>
        rintro ⟨i, z, M', e', c, hi⟩ ⟨i1, i2, i3, i4, i5, i6, i7⟩
        simp only at i1 i2 i3 i4 i5 i6 i7 ⊢
        have l1 := x1.len
        have l4 := i4.len
        have l0 := hext.len
        by_cases he : i = l.length
        · subst he
          rw [List.drop_length, joinF] at i2
          refine ⟨.exit 0, _, by simp (maxSteps := 1000000) (implicitDefEqProofs := false) (disch := omega) [-getElem?_pos, c_impl_SetJoin_b0]; exact rfl, ?_⟩
          refine ⟨_, rfl, .inl ⟨z, _, _, c, hi, by simp (maxSteps := 1000000) (implicitDefEqProofs := false) (disch := omega) [-getElem?_pos, c_blkx, -C.refs]; exact rfl, i2.symm, ?_, ?_, ?_, i7⟩⟩
          · exact (hext.trans (x1.trans i4)).cut (le_mx_l _ _)
          · exact i5.cut (Nat.le_trans i7 (le_mx_r _ _))
          · rw [List.length_take]; simp only [mx_eq] at i7 ⊢; omega
        · have hi' : (i : Int) < (l.length : Int) := by omega
          have hsl : Sl M' c1 l := (i4.ob (Nat.le_refl _) ob).sl
          have hix := hsl.ixV (i := (i : Int)) (by omega)
          rw [Int.toNat_natCast] at hix
          have hld := hsl.ldV (i := i) (by omega)
          rw [drop_nth (by omega), joinF] at i2
          obtain ⟨M2, c2, e2, d3, x2, s2, hb2⟩ := impl_SetAdd (L := L) hL k M' c z (nth l i) i5.ssa i3.l i3.e
          have l2 := x2.len
          have hr2 := s2.refs_lt
          by_cases h3 : (setAdd z (nth l i)).2 = 3
          · rw [if_pos h3] at i2
            rw [h3] at d3
            have hv2 : SSA M2 v xss := (hext.trans (x1.trans (i4.trans x2))).ssa hv
            have d4 := den_ownSet (X := libX) (L := L) hL (k + 2) M2 v xss hv2 hx.l hx.e
            have hsx2 := fresh_SX M2 xss
            have hext2 : Ext M2 (freshM M2 xss) := ⟨_, rfl⟩
            unfold freshR at d4
            generalize freshM M2 xss = M3 at d4 hsx2 hext2
            refine ⟨.ret, _, by simp (maxSteps := 1000000) (implicitDefEqProofs := false) (disch := omega) [-getElem?_pos, c_impl_SetJoin_b0, hi', hix, hld, d3, d4, hne]; exact rfl, ?_⟩
            refine ⟨_, by simp (maxSteps := 1000000) (implicitDefEqProofs := false) (disch := omega) [-getElem?_pos, c_blkr]; exact ⟨rfl, rfl⟩, .inr ⟨_, _, M2.length + 1 + xss.length, M2.length, hd (M2.length + 1) xss, rfl, i2.symm, ?_, ?_, ?_⟩⟩
            · exact ((hext.trans (x1.trans (i4.trans x2))).trans hext2).cut (le_mx_l _ _)
            · exact (hsx2.low (by omega)).cut (by simp only [mx_eq]; omega)
            · simp only [mx_eq]; omega
          · rw [if_neg h3] at i2
            have r2 : ∀ k x, (C.int k x).refs = 0 := fun _ _ => rfl
            refine ⟨.norm, _, by simp (maxSteps := 1000000) (implicitDefEqProofs := false) (disch := omega) [-getElem?_pos, c_impl_SetJoin_b0, hi', hix, hld, d3, h3]; exact rfl, (i + 1, (setAdd z (nth l i)).1, _, _, c2, M2.length), by simp (maxSteps := 1000000) (implicitDefEqProofs := false) (disch := omega) [-getElem?_pos, -C.refs, r2]; exact ⟨rfl, rfl⟩, ⟨?_, i2, i3.add _, ?_, ?_, ?_, ?_⟩, ?_⟩
            · show i + 1 ≤ l.length; omega
            · exact (i4.trans x2).cut (by simp only [mx_eq] at hb2 ⊢; omega)
            · exact (s2.wide (lo' := m.length) (by omega) (Nat.le_refl _)).cut (by simp only [mx_eq] at hb2 ⊢; omega)
            · show M2.length ≤ (List.take _ M2).length
              rw [List.length_take]; simp only [mx_eq] at hb2 ⊢; omega
            · simp only [mx_eq] at hb2 ⊢; omega
            · show l.length - (i + 1) < l.length - i; omega
      have hcl := ob.sl.lenV
      have r1 : (C.sl q0 0 xss.length xss.length).refs = q0 + 1 := rfl
      have r2 : ∀ k x, (C.int k x).refs = 0 := fun _ _ => rfl
      simp (maxSteps := 1000000) (implicitDefEqProofs := false) (disch := omega) [-getElem?_pos, -fin, c_impl_SetJoin, d1, o1, o2, d2, hne, hcl]
      generalize hqq : blkC _ _ _ (iter _ _ _ _) = qq
      obtain ⟨r, e1, hr⟩ : ∃ r, qq = some r ∧ ((∃ z M' e' c hi, r = (Ex.norm, ⟨[(6, .c c)], M', e', 0⟩) ∧ joinF xss l = some z ∧ Ext m M' ∧ SO M' m.length hi c z ∧ hi ≤ M'.length ∧ hi ≤ mx e' c.refs) ∨
          (∃ M' e' hi q hs, r = (.ret, ⟨[(4, .c (.sl q 0 xss.length xss.length)), (5, .c (.int .i64 3))], M', e', 0⟩) ∧ joinF xss l = none ∧ Ext m M' ∧ SX M' m.length hi q hs xss ∧ hi ≤ mx e' (q + 1))) := by
        rw [← hqq]
        refine hlp L (0, xss, _, q0 + 1 + xss.length, .sl q0 0 xss.length xss.length, M.length) _ ?I (by simp (maxSteps := 1000000) (implicitDefEqProofs := false) (disch := omega) [-getElem?_pos, -C.refs, r1, r2, hne]; exact rfl) (by show l.length - 0 < L; omega)
        have l1 := x1.len
        refine ⟨Nat.zero_le _, by rw [List.drop_zero], hx, (Ext.refl M1).cut (by simp only [mx_eq] at hM1 ⊢; omega), (x1.so (Nat.le_refl _) hso0).cut (by simp only [mx_eq]; omega), ?_, ?_⟩
        · show M.length ≤ (List.take _ M1).length
          rw [List.length_take]; simp only [mx_eq]; omega
        · show M.length ≤ mx (q0 + 1 + xss.length) (q0 + 1)
          rw [hml]; exact le_mx_l _ _
      clear hlp hqq
      rcases hr with ⟨z, M', e', c, hi, rfl, hst, w1, w2, w3, w4⟩ | ⟨M', e', hi, q, hs, rfl, hst, w1, w2, w3⟩
      · subst e1
        have w5 := w2
        obtain ⟨b, hs, bi, hb1, _, rfl, _⟩ := w5
        have w4 : hi ≤ mx e' (b + 1) := w4
        rw [hst]
        simp (maxSteps := 1000000) (implicitDefEqProofs := false) (disch := omega) [-getElem?_pos, -fin]
        exact fin_sety (w1.cut (a := mx e' (b + 1)) (by simp only [mx_eq]; omega)) (w2.cut w4) (by rw [List.length_take]; simp only [mx_eq] at w4 ⊢; omega) w4
      · subst e1
        rw [hst]
        simp (maxSteps := 1000000) (implicitDefEqProofs := false) (disch := omega) [-getElem?_pos, -fin]
        exact fin_sety w1 w2.so w2.hm w3
end Go.Proofs.Ytkoloapgeilbdaa
