/-
 ChainOk, the program's and the reference's.
-/
import Derived.Test.YtfbeplbcaanimaaGreatBA
set_option linter.unusedVariables false
set_option linter.unusedSimpArgs false
set_option maxHeartbeats 4000000
namespace Go.Proofs.YtfbeplbcaanimaaGreat
variable {X : FuncId → List V → List Blk → Option Ret} {L : Nat}
def usedTo (f : Nat → Nd) (i : Nat) : Nat := cn (fun i => (f i).u) i
theorem used_t {f : Nat → Nd} {i : Nat} (h : (f i).u = true) : usedTo f (i + 1) = usedTo f i + 1 := by simp [usedTo, cn, h]
theorem used_f {f : Nat → Nd} {i : Nat} (h : (f i).u = false) : usedTo f (i + 1) = usedTo f i := by simp [usedTo, cn, h]
theorem used_le {f : Nat → Nd} (i : Nat) : usedTo f i ≤ i := cn_le i
theorem den_spec_ChainOk (hL : 100 ≤ L) (k : Nat) (m : List Blk) (f : Nat → Nd) (a : Int) :
  den T X L (k + 3) 57 [.agg (chn f a)] m = some ⟨vb (chainOk f a), m, 0, 0⟩ := by
 rw [den_eq T_57]
 have hl := iter_all (f := fun s => exec (den T X L (k + 2)) L m.length none c_spec_ChainOk_b0 s) (tr := trim m.length (some [1, 3, 4]))
  (fun i => ⟨[(1, .c (.ptr m.length 0 65)), (3, vi (usedTo f i)), (4, vi i)], m ++ [⟨chn f a, 44, 0, true⟩], 0, 0⟩) 16 (fun i => nodeOk (f i) = true)
  ⟨[(2, vb false)], m, 0, 0⟩ ?s1 ?s2 ⟨0, _, by simp (maxSteps := 1000000) -implicitDefEqProofs (disch := omega) [-getElem?_pos, c_spec_ChainOk_b0]; rfl⟩
 case s1 =>
  intro i hi hk
  have hu := used_le (f := f) i
  unfold nodeOk at hk
  cases h : (f i).u with
  | true =>
   rw [if_pos h, Bool.and_eq_true] at hk
   refine ⟨_, by simp (maxSteps := 1000000) -implicitDefEqProofs (disch := omega) [-getElem?_pos, c_spec_ChainOk_b0, nd, show (i : Int) < 16 by omega, den_l1Value, h, hk.1, hk.2]; rfl, ?_⟩
   simp (maxSteps := 1000000) -implicitDefEqProofs (disch := omega) [-getElem?_pos, used_t h]
  | false =>
   rw [if_neg (by simp [h])] at hk
   simp only [Bool.and_eq_true, decide_eq_true_eq] at hk
   refine ⟨_, by simp (maxSteps := 1000000) -implicitDefEqProofs (disch := omega) [-getElem?_pos, c_spec_ChainOk_b0, nd, show (i : Int) < 16 by omega, den_l1Value, h, hk.1.1, hk.1.2, hk.2]; rfl, ?_⟩
   simp (maxSteps := 1000000) -implicitDefEqProofs (disch := omega) [-getElem?_pos, used_f h]
 case s2 =>
  intro i hi hk
  unfold nodeOk at hk
  cases h : (f i).u with
  | true =>
   rw [if_pos h, Bool.and_eq_true] at hk
   cases h1 : isVal (f i).a with
   | false => simp (maxSteps := 1000000) -implicitDefEqProofs (disch := omega) [-getElem?_pos, c_spec_ChainOk_b0, nd, show (i : Int) < 16 by omega, den_l1Value, h, h1]
   | true =>
    have h2 : isVal (f i).b = false := by cases h3 : isVal (f i).b with | false => rfl | true => exact absurd ⟨h1, h3⟩ hk
    simp (maxSteps := 1000000) -implicitDefEqProofs (disch := omega) [-getElem?_pos, c_spec_ChainOk_b0, nd, show (i : Int) < 16 by omega, den_l1Value, h, h1, h2]
  | false =>
   rw [if_neg (by simp [h])] at hk
   simp only [Bool.and_eq_true, decide_eq_true_eq] at hk
   by_cases h1 : (f i).a = 0
   ·by_cases h2 : (f i).b = 0
    ·have h3 : ¬ (f i).c = 0 := fun h3 => hk ⟨⟨h1, h2⟩, h3⟩
     simp (maxSteps := 1000000) -implicitDefEqProofs (disch := omega) [-getElem?_pos, c_spec_ChainOk_b0, nd, show (i : Int) < 16 by omega, den_l1Value, h, h1, h2, h3]
    ·simp (maxSteps := 1000000) -implicitDefEqProofs (disch := omega) [-getElem?_pos, c_spec_ChainOk_b0, nd, show (i : Int) < 16 by omega, den_l1Value, h, h1, h2]
   ·simp (maxSteps := 1000000) -implicitDefEqProofs (disch := omega) [-getElem?_pos, c_spec_ChainOk_b0, nd, show (i : Int) < 16 by omega, den_l1Value, h, h1]
 simp (maxSteps := 1000000) -implicitDefEqProofs (disch := omega) [-getElem?_pos, c_spec_ChainOk]
 rw [hl L 0 _ ?tr (by omega) (by omega)]
 case tr => simp (maxSteps := 1000000) -implicitDefEqProofs (disch := omega) [-getElem?_pos, nds_refs, refs_append, refsL, usedTo, cn]
 by_cases hok : ∀ i : Nat, i < 16 → nodeOk (f i) = true
 case neg =>
  rw [if_neg fun h' => hok fun j h1 => h' j h1 (Nat.zero_le _), show chainOk f a = false by unfold chainOk; rw [decide_eq_false hok]; rfl]
  simp (maxSteps := 1000000) -implicitDefEqProofs (disch := omega) [-getElem?_pos]
 rw [if_pos fun j h1 _ => hok j h1]
 have hu := used_le (f := f) 16
 have hl2 := iter_blk (n0 := m.length) (id := 2) (ka := some [3]) (f := fun s => exec (den T X L (k + 2)) L m.length none c_spec_ChainOk_b1 s) (tr := trim m.length (some [1, 3, 6, 7]))
  (σ := Nat × Int × Int) (fun s => ⟨[(1, .c (.ptr m.length 0 65)), (3, vi s.1), (6, vi s.2.1), (7, vi s.2.2)], m ++ [⟨chn f a, 44, 0, true⟩], 0, 0⟩)
  (fun s => s.1 ≤ 16 ∧ (s.2.2 = -1 ∨ 0 ≤ s.2.2 ∧ s.2.2 ≤ 15)) (fun s => s.1)
  (fun s => match chW f 17 (if s.2.2 = -1 then κ0 else (f s.2.2.toNat).a) s.2.1 with
   | some d => if d ≤ s.1 then (.norm, ⟨[(3, vi (s.1 - d : Nat))], m, 0, 0⟩) else (.ret, ⟨[(2, vb false)], m, 0, 0⟩)
   | none => (.ret, ⟨[(2, vb false)], m, 0, 0⟩)) ?w
 case w =>
  rintro ⟨u, p, l⟩ ⟨g1, g2⟩
  simp only at g1 g2
  by_cases hp : p = -1
  ·subst hp
   refine ⟨.exit 2, _, by simp (maxSteps := 1000000) -implicitDefEqProofs (disch := omega) [-getElem?_pos, c_spec_ChainOk_b1]; rfl, ?_⟩
   simp (maxSteps := 1000000) -implicitDefEqProofs (disch := omega) [-getElem?_pos, chW_end]
  simp only
  generalize hκ : (if l = -1 then κ0 else (f l.toNat).a) = κ
  cases hin : inB p 0 15 with
  | false =>
   refine ⟨.ret, _, by simp (maxSteps := 1000000) -implicitDefEqProofs (disch := omega) [-getElem?_pos, c_spec_ChainOk_b1, hp, den_l1In, hin]; rfl, ?_⟩
   rw [chW_bad hp (by simp [okp, hin])]
   simp (maxSteps := 1000000) -implicitDefEqProofs (disch := omega) [-getElem?_pos]
  | true =>
   have hin' := inB_iff.mp hin
   obtain ⟨q, rfl⟩ : ∃ q : Nat, p = q := ⟨p.toNat, by omega⟩
   have hq : q < 16 := by omega
   cases hu1 : (f q).u with
   | false =>
    refine ⟨.ret, _, by simp (maxSteps := 1000000) -implicitDefEqProofs (disch := omega) [-getElem?_pos, c_spec_ChainOk_b1, hp, den_l1In, hin, hu1]; rfl, ?_⟩
    rw [chW_bad hp (by simp [okp, hu1])]
    simp (maxSteps := 1000000) -implicitDefEqProofs (disch := omega) [-getElem?_pos]
   | true =>
    by_cases hu0 : u = 0
    ·subst hu0
     refine ⟨.ret, _, by simp (maxSteps := 1000000) -implicitDefEqProofs (disch := omega) [-getElem?_pos, c_spec_ChainOk_b1, hp, den_l1In, hin, hu1]; rfl, ?_⟩
     cases ho : okp f κ q with
     | false => rw [chW_bad hp ho]; simp (maxSteps := 1000000) -implicitDefEqProofs (disch := omega) [-getElem?_pos]
     | true =>
      rw [chW_step hp ho]
      cases chW f 17 (f (q : Int).toNat).a (f (q : Int).toNat).c with
      | none => simp (maxSteps := 1000000) -implicitDefEqProofs (disch := omega) [-getElem?_pos]
      | some d => simp (maxSteps := 1000000) -implicitDefEqProofs (disch := omega) [-getElem?_pos]
    ·have hu0' : ¬ (u : Int) = 0 := by omega
     have hn := hok q hq
     simp only [nodeOk, hu1, if_true, Bool.and_eq_true, isVal, inB_iff] at hn
     have fin : okp f κ q = true → (match chW f 17 (if (q : Int) = -1 then κ0 else (f (q : Int).toNat).a) (f q).c with
       | some d => if d ≤ u - 1 then ((.norm, ⟨[(3, vi (u - 1 - d : Nat))], m, 0, 0⟩) : Ex × St) else (.ret, ⟨[(2, vb false)], m, 0, 0⟩)
       | none => (.ret, ⟨[(2, vb false)], m, 0, 0⟩)) = (match chW f 17 κ q with
       | some d => if d ≤ u then (.norm, ⟨[(3, vi (u - d : Nat))], m, 0, 0⟩) else (.ret, ⟨[(2, vb false)], m, 0, 0⟩)
       | none => (.ret, ⟨[(2, vb false)], m, 0, 0⟩)) := by
      intro ho
      rw [chW_step hp ho, if_neg hp, Int.toNat_natCast]
      cases chW f 17 (f q).a (f q).c with
      | none => rfl
      | some d =>
       simp only [Option.map_some]
       by_cases hd : d ≤ u - 1
       ·rw [if_pos hd, if_pos (by omega), show u - 1 - d = u - (d + 1) by omega]
       ·rw [if_neg hd, if_neg (by omega)]
     rcases g2 with rfl | ⟨g2, g3⟩
     ·have ho : okp f κ q = true := okp_iff.mpr ⟨hin', hu1, by rw [← hκ, if_pos rfl, Int.toNat_natCast]; unfold κ0; omega⟩
      refine ⟨.norm, _, by simp (maxSteps := 1000000) -implicitDefEqProofs (disch := omega) [-getElem?_pos, c_spec_ChainOk_b1, hp, den_l1In, hin, hu1, hu0, hu0']; rfl, (u - 1, (f q).c, q), ?_, ⟨by show u - 1 ≤ 16; omega, .inr ⟨by show (0 : Int) ≤ q; omega, by show (q : Int) ≤ 15; omega⟩⟩, by show u - 1 < u; omega, fin ho⟩
      simp (maxSteps := 1000000) -implicitDefEqProofs (disch := omega) [-getElem?_pos, show ((u - 1 : Nat) : Int) = (u : Int) - 1 by omega]
     ·obtain ⟨r, rfl⟩ : ∃ r : Nat, l = r := ⟨l.toNat, by omega⟩
      have hr : r < 16 := by omega
      have hκ' : (f r).a = κ := by rw [← hκ, if_neg (by omega), Int.toNat_natCast]
      by_cases hlt : (f r).a < (f q).a
      ·have ho : okp f κ q = true := okp_iff.mpr ⟨hin', hu1, by rw [← hκ', Int.toNat_natCast]; exact hlt⟩
       refine ⟨.norm, _, by simp (maxSteps := 1000000) -implicitDefEqProofs (disch := omega) [-getElem?_pos, c_spec_ChainOk_b1, hp, den_l1In, hin, hu1, hu0, hu0', show ¬ (f q).a ≤ (f r).a by omega]; rfl, (u - 1, (f q).c, q), ?_, ⟨by show u - 1 ≤ 16; omega, .inr ⟨by show (0 : Int) ≤ q; omega, by show (q : Int) ≤ 15; omega⟩⟩, by show u - 1 < u; omega, fin ho⟩
       simp (maxSteps := 1000000) -implicitDefEqProofs (disch := omega) [-getElem?_pos, show ((u - 1 : Nat) : Int) = (u : Int) - 1 by omega]
      ·have ho : okp f κ q = false := by
        cases h : okp f κ q with
        | false => rfl
        | true => exact absurd (okp_iff.mp h).2.2 (by rw [← hκ', Int.toNat_natCast]; exact hlt)
       refine ⟨.ret, _, by simp (maxSteps := 1000000) -implicitDefEqProofs (disch := omega) [-getElem?_pos, c_spec_ChainOk_b1, hp, den_l1In, hin, hu1, hu0, hu0', show (f q).a ≤ (f r).a by omega]; rfl, ?_⟩
       rw [chW_bad hp ho]
       simp (maxSteps := 1000000) -implicitDefEqProofs (disch := omega) [-getElem?_pos]
 have hu16 : usedTo f 16 = usedN f := rfl
 simp (maxSteps := 1000000) -implicitDefEqProofs (disch := omega) [-getElem?_pos, c_spec_ChainOk_b0]
 rw [hl2 L (usedTo f 16, a, -1) _ ⟨hu, .inl rfl⟩ ?tr2 (by show usedTo f 16 < L; omega)]
 case tr2 => simp (maxSteps := 1000000) -implicitDefEqProofs (disch := omega) [-getElem?_pos]
 simp only [if_true]
 unfold chainOk
 rw [decide_eq_true hok, Bool.true_and]
 cases chW f 17 κ0 a with
 | none => simp (maxSteps := 1000000) -implicitDefEqProofs (disch := omega) [-getElem?_pos]
 | some d =>
  by_cases hd : d ≤ usedTo f 16
  ·simp only [if_pos hd]
   by_cases hd2 : d = usedN f
   ·have : usedTo f 16 - d = 0 := by omega
    simp (maxSteps := 1000000) -implicitDefEqProofs (disch := omega) [-getElem?_pos, this, hd2]
   ·have t1 : ¬ usedTo f 16 - d = 0 := by omega
    have t2 : ¬ ((usedTo f 16 - d : Nat) : Int) = 0 := by omega
    simp (maxSteps := 1000000) -implicitDefEqProofs (disch := omega) [-getElem?_pos, t1, t2, hd2]
  ·simp only [if_neg hd]
   have hd2 : ¬ d = usedN f := by omega
   simp (maxSteps := 1000000) -implicitDefEqProofs (disch := omega) [-getElem?_pos, hd2]
end Go.Proofs.YtfbeplbcaanimaaGreat
set_option linter.unusedVariables false
set_option linter.unusedSimpArgs false
set_option maxHeartbeats 4000000
namespace Go.Proofs.YtfbeplbcaanimaaGreat
variable {X : FuncId → List V → List Blk → Option Ret} {L : Nat}
def nodeOkI (x : Nd) : Bool := nodeOk x && (!x.u || inB x.c (-1) 15)
section
variable (k : Nat) (m : List Blk) (f : Nat → Nd) (a : Int)
abbrev hI1 (i : Nat) : St := ⟨[(1, .c (.ptr m.length 0 65)), (3, vi (usedTo f i)), (4, vi 0), (10, .agg (nds 16 f)), (11, vi i)], m ++ [⟨chn f a, 44, 0, true⟩], 0, 0⟩
theorem impl_ok_1 {i : Nat} (hi : i < 16) (hk : nodeOkI (f i) = true) :
  ∃ st, exec (den T X L (k + 2)) L m.length none c_impl_ChainOk_b0 (hI1 m f a i) = some (.norm, st) ∧ trim m.length (some [1, 3, 4, 10, 11]) st = hI1 m f a (i + 1) := by
 have hu := used_le (f := f) i
 unfold nodeOkI nodeOk at hk
 cases h : (f i).u with
 | true =>
  simp only [h, if_true, Bool.and_eq_true, Bool.not_true, Bool.false_or] at hk
  refine ⟨_, by simp (maxSteps := 1000000) -implicitDefEqProofs (disch := omega) [-getElem?_pos, c_impl_ChainOk_b0, nd, show (i : Int) < 16 by omega, show i * 4 ≤ 60 by omega, den_isValue, den_in, h, hk.1.1, hk.1.2, hk.2]; rfl, ?_⟩
  simp (maxSteps := 1000000) -implicitDefEqProofs (disch := omega) [-getElem?_pos, used_t h]
 | false =>
  simp only [h, Bool.false_eq_true, if_false, Bool.and_eq_true, decide_eq_true_eq] at hk
  refine ⟨_, by simp (maxSteps := 1000000) -implicitDefEqProofs (disch := omega) [-getElem?_pos, c_impl_ChainOk_b0, nd, show (i : Int) < 16 by omega, show i * 4 ≤ 60 by omega, den_isValue, den_in, h, hk.1.1.1, hk.1.1.2, hk.1.2]; rfl, ?_⟩
  simp (maxSteps := 1000000) -implicitDefEqProofs (disch := omega) [-getElem?_pos, used_f h]
theorem impl_bad_1 {i : Nat} (hi : i < 16) (hk : ¬ nodeOkI (f i) = true) :
  exec (den T X L (k + 2)) L m.length none c_impl_ChainOk_b0 (hI1 m f a i) = some (.ret, ⟨[(2, vb false)], m, 0, 0⟩) := by
 have hu := used_le (f := f) i
 unfold nodeOkI nodeOk at hk
 cases h : (f i).u with
 | true =>
  simp only [h, if_true, Bool.and_eq_true, Bool.not_true, Bool.false_or] at hk
  cases h1 : isVal (f i).a with
  | false => simp (maxSteps := 1000000) -implicitDefEqProofs (disch := omega) [-getElem?_pos, c_impl_ChainOk_b0, nd, show (i : Int) < 16 by omega, show i * 4 ≤ 60 by omega, den_isValue, den_in, h, h1]
  | true =>
   cases h2 : isVal (f i).b with
   | false => simp (maxSteps := 1000000) -implicitDefEqProofs (disch := omega) [-getElem?_pos, c_impl_ChainOk_b0, nd, show (i : Int) < 16 by omega, show i * 4 ≤ 60 by omega, den_isValue, den_in, h, h1, h2]
   | true =>
    have h3 : inB (f i).c (-1) 15 = false := by cases h3 : inB (f i).c (-1) 15 with | false => rfl | true => exact absurd ⟨⟨h1, h2⟩, h3⟩ hk
    simp (maxSteps := 1000000) -implicitDefEqProofs (disch := omega) [-getElem?_pos, c_impl_ChainOk_b0, nd, show (i : Int) < 16 by omega, show i * 4 ≤ 60 by omega, den_isValue, den_in, h, h1, h2, h3]
 | false =>
  simp only [h, Bool.false_eq_true, if_false, Bool.and_eq_true, decide_eq_true_eq, Bool.not_false, Bool.true_or, and_true] at hk
  by_cases h1 : (f i).a = 0
  ·by_cases h2 : (f i).b = 0
   ·have h3 : ¬ (f i).c = 0 := fun h3 => hk ⟨⟨h1, h2⟩, h3⟩
    simp (maxSteps := 1000000) -implicitDefEqProofs (disch := omega) [-getElem?_pos, c_impl_ChainOk_b0, nd, show (i : Int) < 16 by omega, show i * 4 ≤ 60 by omega, den_isValue, den_in, h, h1, h2, h3]
   ·simp (maxSteps := 1000000) -implicitDefEqProofs (disch := omega) [-getElem?_pos, c_impl_ChainOk_b0, nd, show (i : Int) < 16 by omega, show i * 4 ≤ 60 by omega, den_isValue, den_in, h, h1, h2]
  ·simp (maxSteps := 1000000) -implicitDefEqProofs (disch := omega) [-getElem?_pos, c_impl_ChainOk_b0, nd, show (i : Int) < 16 by omega, show i * 4 ≤ 60 by omega, den_isValue, den_in, h, h1]
abbrev hI2 (u t : Nat) (κ p : Int) : St := ⟨[(1, .c (.ptr m.length 0 65)), (3, vi u), (4, vi t), (7, vi κ), (8, vi p)], m ++ [⟨chn f a, 44, 0, true⟩], 0, 0⟩
theorem impl_end_2 (u t : Nat) (κ : Int) : ∃ st, exec (den T X L (k + 2)) L m.length none c_impl_ChainOk_b1 (hI2 m f a u t κ (-1)) = some (.exit 3, st) ∧ trim m.length (some [3, 4]) st = ⟨[(3, vi u), (4, vi t)], m, 0, 0⟩ := by
 refine ⟨_, by simp (maxSteps := 1000000) -implicitDefEqProofs (disch := omega) [-getElem?_pos, c_impl_ChainOk_b1]; rfl, ?_⟩
 simp (maxSteps := 1000000) -implicitDefEqProofs (disch := omega) [-getElem?_pos]
theorem impl_bad_2 (u t : Nat) (κ p : Int) (hp : p ≠ -1) (ho : okp f κ p = false) : exec (den T X L (k + 2)) L m.length none c_impl_ChainOk_b1 (hI2 m f a u t κ p) = some (.ret, ⟨[(2, vb false)], m, 0, 0⟩) := by
 have hp : ¬ p = -1 := hp
 cases hin : inB p 0 15 with
 | false => simp (maxSteps := 1000000) -implicitDefEqProofs (disch := omega) [-getElem?_pos, c_impl_ChainOk_b1, hp, den_in, hin]
 | true =>
  have hin' := inB_iff.mp hin
  obtain ⟨q, rfl⟩ : ∃ q : Nat, p = q := ⟨p.toNat, by omega⟩
  have hq : q < 16 := by omega
  cases hu1 : (f q).u with
  | false => simp (maxSteps := 1000000) -implicitDefEqProofs (disch := omega) [-getElem?_pos, c_impl_ChainOk_b1, hp, den_in, hin, hu1]
  | true =>
   have hle : (f q).a ≤ κ := by
    simp only [okp, hin, Int.toNat_natCast, hu1, Bool.true_and] at ho
    have := of_decide_eq_false ho
    omega
   simp (maxSteps := 1000000) -implicitDefEqProofs (disch := omega) [-getElem?_pos, c_impl_ChainOk_b1, hp, den_in, hin, hu1, hle]
theorem impl_ok_2 (u t : Nat) (κ : Int) (q : Nat) (ht : t < 100) (ho : okp f κ q = true) : ∃ st, exec (den T X L (k + 2)) L m.length none c_impl_ChainOk_b1 (hI2 m f a u t κ q) = some (.norm, st) ∧ trim m.length (some [1, 3, 4, 7, 8]) st = hI2 m f a u (t + 1) (f q).a (f q).c := by
 obtain ⟨hin', hu1, hlt⟩ := okp_iff.mp ho
 rw [Int.toNat_natCast] at hu1 hlt
 have hin := inB_pos hin'
 have hq : q < 16 := by omega
 have hp : ¬ (q : Int) = -1 := by omega
 refine ⟨_, by simp (maxSteps := 1000000) -implicitDefEqProofs (disch := omega) [-getElem?_pos, c_impl_ChainOk_b1, hp, den_in, hin, hu1, show ¬ (f q).a ≤ κ by omega]; rfl, ?_⟩
 simp (maxSteps := 1000000) -implicitDefEqProofs (disch := omega) [-getElem?_pos]
end
theorem den_impl_ChainOk (hL : 100 ≤ L) (k : Nat) (m : List Blk) (f : Nat → Nd) (a : Int) :
  den T X L (k + 3) 79 [.agg (chn f a)] m = some ⟨vb (chainOk f a), m, 0, 0⟩ := by
 rw [den_eq T_79]
 have hl := iter_all (f := fun s => exec (den T X L (k + 2)) L m.length none c_impl_ChainOk_b0 s) (tr := trim m.length (some [1, 3, 4, 10, 11]))
  (hI1 m f a) 16 (fun i => nodeOkI (f i) = true) ⟨[(2, vb false)], m, 0, 0⟩ (fun i hi hk => impl_ok_1 k m f a hi hk) (fun i hi hk => impl_bad_1 k m f a hi hk)
  ⟨0, _, by simp (maxSteps := 1000000) -implicitDefEqProofs (disch := omega) [-getElem?_pos, c_impl_ChainOk_b0]; rfl⟩
 simp (maxSteps := 1000000) -implicitDefEqProofs (disch := omega) [-getElem?_pos, c_impl_ChainOk]
 rw [hl L 0 _ ?tr (by omega) (by omega)]
 case tr => simp (maxSteps := 1000000) -implicitDefEqProofs (disch := omega) [-getElem?_pos, nds_refs, refs_append, refsL, usedTo, cn]
 by_cases hok : ∀ i : Nat, i < 16 → nodeOkI (f i) = true
 case neg =>
  rw [if_neg fun h' => hok fun j h1 => h' j h1 (Nat.zero_le _)]
  have : chainOk f a = false := by
   cases h : chainOk f a with
   | false => rfl
   | true =>
    exfalso
    apply hok
    intro i hi
    have h1 := chain_strict h i hi
    simp only [chainOk, Bool.and_eq_true, decide_eq_true_eq] at h
    simp only [nodeOkI, h.1 i hi, Bool.true_and]
    cases hu : (f i).u with
    | false => rfl
    | true => simp [h1 hu]
  rw [this]
  simp (maxSteps := 1000000) -implicitDefEqProofs (disch := omega) [-getElem?_pos]
 rw [if_pos fun j h1 _ => hok j h1]
 have hokN : ∀ i : Nat, i < 16 → nodeOk (f i) = true := fun i hi => by
  have := hok i hi
  simp only [nodeOkI, Bool.and_eq_true] at this
  exact this.1
 have hu := used_le (f := f) 16
 have hl2 := iter_blk (n0 := m.length) (id := 3) (ka := some [3, 4]) (f := fun s => exec (den T X L (k + 2)) L m.length none c_impl_ChainOk_b1 s) (tr := trim m.length (some [1, 3, 4, 7, 8]))
  (σ := Nat × Int × Int) (fun s => hI2 m f a (usedTo f 16) s.1 s.2.1 s.2.2) (fun s => s.1 + cn (above f s.2.1) 16 ≤ 16) (fun s => cn (above f s.2.1) 16)
  (fun s => match chW f 17 s.2.1 s.2.2 with
   | some d => (.norm, ⟨[(3, vi (usedTo f 16)), (4, vi (s.1 + d : Nat))], m, 0, 0⟩)
   | none => (.ret, ⟨[(2, vb false)], m, 0, 0⟩)) ?w
 case w =>
  rintro ⟨t, κ, p⟩ hI
  simp only at hI
  by_cases hp : p = -1
  ·subst hp
   obtain ⟨st, e1, e2⟩ := impl_end_2 (X := X) (L := L) k m f a (usedTo f 16) t κ
   refine ⟨.exit 3, st, e1, ?_⟩
   simp only [c_blkx, e2, chW_end, Nat.add_zero]
  ·cases ho : okp f κ p with
   | false =>
    refine ⟨.ret, _, impl_bad_2 k m f a (usedTo f 16) t κ p hp ho, ?_⟩
    simp only [c_blkr, chW_bad hp ho]
   | true =>
    obtain ⟨q, rfl⟩ : ∃ q : Nat, p = q := ⟨p.toNat, by have := (okp_iff.mp ho).1; omega⟩
    have hs := above_step ho
    rw [Int.toNat_natCast] at hs
    obtain ⟨st, e1, e2⟩ := impl_ok_2 (X := X) (L := L) k m f a (usedTo f 16) t κ q (by omega) ho
    refine ⟨.norm, st, e1, (t + 1, (f q).a, (f q).c), e2, ?_, hs, ?_⟩
    ·show t + 1 + cn (above f (f q).a) 16 ≤ 16
     omega
    ·simp only [chW_step hp ho, Int.toNat_natCast]
     cases chW f 17 (f q).a (f q).c with
     | none => rfl
     | some d => simp only [Option.map_some]; rw [show t + 1 + d = t + (d + 1) by omega]
 have hu16 : usedTo f 16 = usedN f := rfl
 have hc16 := cn_le (q := above f κ0) 16
 simp (maxSteps := 1000000) -implicitDefEqProofs (disch := omega) [-getElem?_pos, c_impl_ChainOk_b0]
 rw [hl2 L (0, κ0, a) _ (by show 0 + cn (above f κ0) 16 ≤ 16; omega) ?tr2 (by show cn (above f κ0) 16 < L; omega)]
 case tr2 => simp (maxSteps := 1000000) -implicitDefEqProofs (disch := omega) [-getElem?_pos, κ0]
 unfold chainOk
 rw [decide_eq_true hokN, Bool.true_and]
 simp only [Nat.zero_add]
 cases chW f 17 κ0 a with
 | none => simp (maxSteps := 1000000) -implicitDefEqProofs (disch := omega) [-getElem?_pos]
 | some d =>
  by_cases hd2 : d = usedN f
  ·simp (maxSteps := 1000000) -implicitDefEqProofs (disch := omega) [-getElem?_pos, hd2, hu16]
  ·have t2 : ¬ (d : Int) = (usedN f : Nat) := by omega
   simp (maxSteps := 1000000) -implicitDefEqProofs (disch := omega) [-getElem?_pos, t2, hd2, hu16]
end Go.Proofs.YtfbeplbcaanimaaGreat
set_option linter.unusedVariables false
set_option linter.unusedSimpArgs false
set_option maxHeartbeats 4000000
namespace Go.Proofs.YtfbeplbcaanimaaGreat
variable {X : FuncId → List V → List Blk → Option Ret} {L : Nat}
theorem den_impl_walk (hL : 100 ≤ L) (k : Nat) (m : List Blk) (f : Nat → Nd) (a key κ : Int) (hc : ch f κ a) :
  den T X L (k + 1) 114 [.agg (chn f a), vi key] m = some ⟨.tup [vi (wk f key 10 (-1) a).1, vi (wk f key 10 (-1) a).2.1, vi (wk f key 10 (-1) a).2.2.1, vb (wk f key 10 (-1) a).2.2.2], m, 0, 0⟩ := by
 rw [den_eq T_114]
 have hl := iter_blk (n0 := m.length) (id := 0) (ka := some [8, 9, 10]) (f := fun s => exec (den T X L k) L m.length none c_impl_Chain_walk_b0 s) (tr := trim m.length (some [1, 2, 8, 9, 10])) (σ := Nat × Int × Int × Int)
  (fun s => ⟨[(1, vi key), (2, .c (.ptr m.length 0 65)), (8, vi s.2.2.1), (9, vi s.2.2.2), (10, vi (10 - s.1))], m ++ [⟨chn f a, 44, 0, true⟩], 0, 0⟩)
  (fun s => s.1 ≤ 10 ∧ ch f s.2.1 s.2.2.2) (fun s => s.1)
  (fun s => if (wk f key s.1 s.2.2.1 s.2.2.2).2.2.2 = true then (.norm, ⟨[(8, vi (wk f key s.1 s.2.2.1 s.2.2.2).1), (9, vi (wk f key s.1 s.2.2.1 s.2.2.2).2.1), (10, vi (10 - s.1 + (wk f key s.1 s.2.2.1 s.2.2.2).2.2.1))], m, 0, 0⟩)
   else (.ret, ⟨[(4, vi (wk f key s.1 s.2.2.1 s.2.2.2).1), (5, vi (wk f key s.1 s.2.2.1 s.2.2.2).2.1), (6, vi (10 - s.1 + (wk f key s.1 s.2.2.1 s.2.2.2).2.2.1)), (7, vb false)], m, 0, 0⟩)) ?w
 case w =>
  rintro ⟨n, κ, ah, p⟩ ⟨hn, hc⟩
  simp only at hn hc
  by_cases hp : p = -1
  ·subst hp
   refine ⟨.exit 0, _, by simp (maxSteps := 1000000) -implicitDefEqProofs (disch := omega) [-getElem?_pos, c_impl_Chain_walk_b0]; rfl, ?_⟩
   simp (maxSteps := 1000000) -implicitDefEqProofs (disch := omega) [-getElem?_pos, c_blkx, wk_end]
  ·obtain ⟨q, rfl, hq, hu, hk, hn2⟩ := ch_nat hc hp
   have hp' : ¬ (q : Int) = -1 := hp
   cases n with
   | zero =>
    refine ⟨.ret, _, by simp (maxSteps := 1000000) -implicitDefEqProofs (disch := omega) [-getElem?_pos, c_impl_Chain_walk_b0, hp']; rfl, ?_⟩
    simp (maxSteps := 1000000) -implicitDefEqProofs (disch := omega) [-getElem?_pos, c_blkr, wk_zero hp]
   | succ n =>
    have h10 : ¬ (10 - ((n : Int) + 1)) = 10 := by omega
    by_cases hk : key ≤ (f q).a
    ·refine ⟨.exit 0, _, by simp (maxSteps := 1000000) -implicitDefEqProofs (disch := omega) [-getElem?_pos, c_impl_Chain_walk_b0, hp', h10, hk, ge_iff_le]; rfl, ?_⟩
     have hk' : key ≤ (f (q : Int).toNat).a := hk
     simp (maxSteps := 1000000) -implicitDefEqProofs (disch := omega) [-getElem?_pos, c_blkx, wk_hit hp hk', show 10 - ((n : Int) + 1) + 1 = 10 - (n + 1 : Nat) + (1 : Nat) by omega]
    ·refine ⟨.norm, _, by simp (maxSteps := 1000000) -implicitDefEqProofs (disch := omega) [-getElem?_pos, c_impl_Chain_walk_b0, hp', h10, hk, ge_iff_le]; rfl, (n, (f q).a, q, (f q).c), ?_, ⟨by show n ≤ 10; omega, hn2⟩, by show n < n + 1; omega, ?_⟩
     ·simp (maxSteps := 1000000) -implicitDefEqProofs (disch := omega) [-getElem?_pos, show 10 - ((n : Int) + 1) + 1 = 10 - n by omega]
     ·have hk' : ¬ key ≤ (f (q : Int).toNat).a := hk
      simp only [wk_go hp hk', Int.toNat_natCast]
      rw [show (10 - (n : Int) + ((wk f key n q (f q).c).2.2.1 : Nat)) = 10 - ((n + 1 : Nat) : Int) + (((wk f key n q (f q).c).2.2.1 + 1 : Nat)) by omega]
 have hle := wk_le (f := f) (key := key) 10 (-1) a
 simp (maxSteps := 1000000) -implicitDefEqProofs (disch := omega) [-getElem?_pos, c_impl_Chain_walk]
 rw [hl L (10, κ, -1, a) _ ⟨Nat.le_refl _, hc⟩ ?tr (by show 10 < L; omega)]
 case tr => simp (maxSteps := 1000000) -implicitDefEqProofs (disch := omega) [-getElem?_pos]
 cases h : (wk f key 10 (-1) a).2.2.2 with
 | true => simp (maxSteps := 1000000) -implicitDefEqProofs (disch := omega) [-getElem?_pos, h]
 | false => simp (maxSteps := 1000000) -implicitDefEqProofs (disch := omega) [-getElem?_pos, h]
def wkS (r : Int × Int × Nat × Bool) : V := if r.2.2.2 = true then .tup [vi r.2.1, vi r.1, vi r.2.2.1, vb true] else .tup [vi 0, vi 0, vi r.2.2.1, vb false]
theorem den_spec_walk (hL : 100 ≤ L) (k : Nat) (m : List Blk) (f : Nat → Nd) (a key κ : Int) (hc : ch f κ a) :
  den T X L (k + 1) 102 [.agg (chn f a), vi key] m = some ⟨wkS (wk f key 10 (-1) a), m, 0, 0⟩ := by
 rw [den_eq T_102]
 have hl := iter_blk (n0 := m.length) (id := 0) (ka := some [8, 9]) (f := fun s => exec (den T X L k) L m.length none c_spec_l13Walk_b0 s) (tr := trim m.length (some [1, 2, 8, 9, 10])) (σ := Nat × Int × Int × Int)
  (fun s => ⟨[(1, vi key), (2, .c (.ptr m.length 0 65)), (8, vi s.2.2.1), (9, vi (10 - s.1)), (10, vi s.2.2.2)], m ++ [⟨chn f a, 44, 0, true⟩], 0, 0⟩)
  (fun s => s.1 ≤ 10 ∧ ch f s.2.1 s.2.2.2) (fun s => s.1)
  (fun s => if (wk f key s.1 s.2.2.1 s.2.2.2).2.2.2 = true then
    (if (wk f key s.1 s.2.2.1 s.2.2.2).2.1 = -1 then (.norm, ⟨[(8, vi (wk f key s.1 s.2.2.1 s.2.2.2).1), (9, vi (10 - s.1 + (wk f key s.1 s.2.2.1 s.2.2.2).2.2.1))], m, 0, 0⟩)
     else (.ret, ⟨[(4, vi (wk f key s.1 s.2.2.1 s.2.2.2).2.1), (5, vi (wk f key s.1 s.2.2.1 s.2.2.2).1), (6, vi (10 - s.1 + (wk f key s.1 s.2.2.1 s.2.2.2).2.2.1)), (7, vb true)], m, 0, 0⟩))
   else (.ret, ⟨[(4, vi 0), (5, vi 0), (6, vi (10 - s.1 + (wk f key s.1 s.2.2.1 s.2.2.2).2.2.1)), (7, vb false)], m, 0, 0⟩)) ?w
 case w =>
  rintro ⟨n, κ, ah, p⟩ ⟨hn, hc⟩
  simp only at hn hc
  by_cases hp : p = -1
  ·subst hp
   refine ⟨.exit 0, _, by simp (maxSteps := 1000000) -implicitDefEqProofs (disch := omega) [-getElem?_pos, c_spec_l13Walk_b0]; rfl, ?_⟩
   simp (maxSteps := 1000000) -implicitDefEqProofs (disch := omega) [-getElem?_pos, c_blkx, wk_end]
  ·obtain ⟨q, rfl, hq, hu, hk, hn2⟩ := ch_nat hc hp
   have hp' : ¬ (q : Int) = -1 := hp
   cases n with
   | zero =>
    refine ⟨.ret, _, by simp (maxSteps := 1000000) -implicitDefEqProofs (disch := omega) [-getElem?_pos, c_spec_l13Walk_b0, hp']; rfl, ?_⟩
    simp (maxSteps := 1000000) -implicitDefEqProofs (disch := omega) [-getElem?_pos, c_blkr, wk_zero hp]
   | succ n =>
    have h10 : ¬ (10 - ((n : Int) + 1)) = 10 := by omega
    by_cases hk : key ≤ (f q).a
    ·refine ⟨.ret, _, by simp (maxSteps := 1000000) -implicitDefEqProofs (disch := omega) [-getElem?_pos, c_spec_l13Walk_b0, hp', h10, hk, ge_iff_le]; rfl, ?_⟩
     have hk' : key ≤ (f (q : Int).toNat).a := hk
     simp (maxSteps := 1000000) -implicitDefEqProofs (disch := omega) [-getElem?_pos, c_blkr, wk_hit hp hk', hp']
    ·refine ⟨.norm, _, by simp (maxSteps := 1000000) -implicitDefEqProofs (disch := omega) [-getElem?_pos, c_spec_l13Walk_b0, hp', h10, hk, ge_iff_le]; rfl, (n, (f q).a, q, (f q).c), ?_, ⟨by show n ≤ 10; omega, hn2⟩, by show n < n + 1; omega, ?_⟩
     ·simp (maxSteps := 1000000) -implicitDefEqProofs (disch := omega) [-getElem?_pos, show 10 - ((n : Int) + 1) + 1 = 10 - n by omega]
     ·have hk' : ¬ key ≤ (f (q : Int).toNat).a := hk
      simp only [wk_go hp hk', Int.toNat_natCast]
      rw [show (10 - (n : Int) + ((wk f key n q (f q).c).2.2.1 : Nat)) = 10 - ((n + 1 : Nat) : Int) + (((wk f key n q (f q).c).2.2.1 + 1 : Nat)) by omega]
 have hle := wk_le (f := f) (key := key) 10 (-1) a
 unfold wkS
 simp (maxSteps := 1000000) -implicitDefEqProofs (disch := omega) [-getElem?_pos, c_spec_l13Walk]
 rw [hl L (10, κ, -1, a) _ ⟨Nat.le_refl _, hc⟩ ?tr (by show 10 < L; omega)]
 case tr => simp (maxSteps := 1000000) -implicitDefEqProofs (disch := omega) [-getElem?_pos]
 cases h : (wk f key 10 (-1) a).2.2.2 with
 | true =>
  by_cases h2 : (wk f key 10 (-1) a).2.1 = -1
  ·simp (maxSteps := 1000000) -implicitDefEqProofs (disch := omega) [-getElem?_pos, h, h2]
  ·simp (maxSteps := 1000000) -implicitDefEqProofs (disch := omega) [-getElem?_pos, h, h2]
 | false => simp (maxSteps := 1000000) -implicitDefEqProofs (disch := omega) [-getElem?_pos, h]
end Go.Proofs.YtfbeplbcaanimaaGreat
set_option linter.unusedVariables false
set_option linter.unusedSimpArgs false
set_option maxHeartbeats 4000000
namespace Go.Proofs.YtfbeplbcaanimaaGreat
variable {X : FuncId → List V → List Blk → Option Ret} {L : Nat}
theorem znd (u : Bool) (a b c : Int) : [C.bool u, .int .i64 a, .int .i64 b, .int .i64 c] = nd ⟨u, a, b, c⟩ := rfl
def inP (p : Int) : Prop := p = -1 ∨ (0 ≤ p ∧ p ≤ 15)
theorem inP_nat {p : Int} (h : inP p) (hp : p ≠ -1) : ∃ q : Nat, p = q ∧ q < 16 := by
 rcases h with h | h
 ·exact absurd h hp
 ·exact ⟨p.toNat, by omega, by omega⟩
def hasB (f : Nat → Nd) (p key : Int) : Bool := decide (p ≠ -1) && decide ((f p.toNat).a = key)
theorem den_has (k : Nat) (m : List Blk) (f : Nat → Nd) (a p key : Int) (hp : inP p) :
  den T X L (k + 1) 115 [.agg (chn f a), vi p, vi key] m = some ⟨vb (hasB f p key), m, 0, 0⟩ := by
 rw [den_eq T_115]
 by_cases h : p = -1
 ·simp (maxSteps := 1000000) -implicitDefEqProofs (disch := omega) [-getElem?_pos, c_impl_Chain_has, h, hasB]
 ·obtain ⟨q, rfl, hq⟩ := inP_nat hp h
  have h' : ¬ (q : Int) = -1 := h
  simp (maxSteps := 1000000) -implicitDefEqProofs (disch := omega) [-getElem?_pos, c_impl_Chain_has, h', hasB]
def linkF (f : Nat → Nd) (ah p : Int) : Nat → Nd := if ah = -1 then f else upd f ah.toNat { f ah.toNat with c := p }
def linkA (a ah p : Int) : Int := if ah = -1 then p else a
theorem den_link (k : Nat) (m : List Blk) (b : Nat) (f : Nat → Nd) (a ah p : Int) (hb : live m b 65 = some ⟨chn f a, 44, 0, true⟩) (ha : inP ah) :
  den T X L (k + 1) 116 [.c (.ptr b 0 65), vi ah, vi p] m = some ⟨.tup [], m.set b ⟨chn (linkF f ah p) (linkA a ah p), 44, 0, true⟩, 0, m.length - b⟩ := by
 have hlt : b < m.length := by
  unfold live at hb
  simp only [Option.bind_eq_some_iff] at hb
  obtain ⟨blk, h1, _⟩ := hb
  exact (List.getElem?_eq_some_iff.1 h1).1
 have hw : ¬ m.length - b = 0 := by omega
 rw [den_eq T_116]
 by_cases h : ah = -1
 ·simp (maxSteps := 1000000) -implicitDefEqProofs (disch := omega) [-getElem?_pos, c_impl_Chain_link, h, hb, linkF, linkA, hw]
 ·obtain ⟨q, rfl, hq⟩ := inP_nat ha h
  have h' : ¬ (q : Int) = -1 := h
  simp (maxSteps := 1000000) -implicitDefEqProofs (disch := omega) [-getElem?_pos, c_impl_Chain_link, h', hb, linkF, linkA, hw]
def mapGet (f : Nat → Nd) (a key : Int) : Int × Int × Int :=
 if chainOk f a = true ∧ isVal key = true then
  if (wk f key 10 (-1) a).2.2.2 = true then
   if hasB f (wk f key 10 (-1) a).2.1 key = true then ((f (wk f key 10 (-1) a).2.1.toNat).b, (wk f key 10 (-1) a).2.2.1, 0) else (0, (wk f key 10 (-1) a).2.2.1, 4)
  else (0, (wk f key 10 (-1) a).2.2.1, 2)
 else (0, 0, 1)
theorem den_impl_MapGet (hL : 100 ≤ L) (k : Nat) (m : List Blk) (f : Nat → Nd) (a key : Int) :
  den T X L (k + 4) 85 [.agg (chn f a), vi key] m = some ⟨.tup [vi (mapGet f a key).1, vi (mapGet f a key).2.1, vi (mapGet f a key).2.2], m, 0, 0⟩ := by
 rw [den_eq T_85]
 cases hok : chainOk f a with
 | false => simp (maxSteps := 1000000) -implicitDefEqProofs (disch := omega) [-getElem?_pos, c_impl_MapGet, den_impl_ChainOk hL, hok, mapGet]
 | true =>
  have hc := ch_of hok
  obtain ⟨hin, _⟩ := wk_in (key := key) 10 κ0 (-1) a hc (.inl rfl)
  cases hv : isVal key with
  | false => simp (maxSteps := 1000000) -implicitDefEqProofs (disch := omega) [-getElem?_pos, c_impl_MapGet, den_impl_ChainOk hL, den_isValue, hok, hv, mapGet]
  | true =>
   cases hw : (wk f key 10 (-1) a).2.2.2 with
   | false => simp (maxSteps := 1000000) -implicitDefEqProofs (disch := omega) [-getElem?_pos, c_impl_MapGet, den_impl_ChainOk hL, den_isValue, den_impl_walk hL _ _ f a key κ0 hc, hok, hv, hw, mapGet]
   | true =>
    cases hh : hasB f (wk f key 10 (-1) a).2.1 key with
    | false => simp (maxSteps := 1000000) -implicitDefEqProofs (disch := omega) [-getElem?_pos, c_impl_MapGet, den_impl_ChainOk hL, den_isValue, den_impl_walk hL _ _ f a key κ0 hc, den_has _ _ f a _ key hin, hok, hv, hw, hh, mapGet]
    | true =>
     have hne : (wk f key 10 (-1) a).2.1 ≠ -1 := by simp only [hasB, Bool.and_eq_true, decide_eq_true_eq] at hh; exact hh.1
     obtain ⟨q, hq, hq2⟩ := inP_nat hin hne
     rw [hq] at hh hin
     simp (maxSteps := 1000000) -implicitDefEqProofs (disch := omega) [-getElem?_pos, c_impl_MapGet, den_impl_ChainOk hL, den_isValue, den_impl_walk hL _ _ f a key κ0 hc, den_has _ _ f a _ key hin, hok, hv, hw, hq, hh, mapGet]
theorem wkS_t {r : Int × Int × Nat × Bool} (h : r.2.2.2 = true) : wkS r = .tup [vi r.2.1, vi r.1, vi r.2.2.1, vb true] := by simp [wkS, h]
theorem wkS_f {r : Int × Int × Nat × Bool} (h : r.2.2.2 = false) : wkS r = .tup [vi 0, vi 0, vi r.2.2.1, vb false] := by simp [wkS, h]
theorem hasB_neg {f : Nat → Nd} {p key : Int} (hp : inP p) (h : hasB f p key = false) : p < 0 ∨ (∃ q : Nat, p = q ∧ q < 16 ∧ ¬ (f q).a = key) := by
 rcases hp with hp | hp
 ·left; omega
 ·right
  refine ⟨p.toNat, by omega, by omega, fun hk => ?_⟩
  simp only [hasB, hk, decide_true, Bool.and_true, decide_eq_false_iff_not] at h
  omega
theorem hasB_pos {f : Nat → Nd} {p key : Int} (hp : inP p) (h : hasB f p key = true) : ∃ q : Nat, p = q ∧ q < 16 ∧ (f q).a = key := by
 simp only [hasB, Bool.and_eq_true, decide_eq_true_eq] at h
 rcases hp with hp | hp
 ·exact absurd hp h.1
 ·exact ⟨p.toNat, by omega, by omega, h.2⟩
theorem den_spec_MapGet (hL : 100 ≤ L) (k : Nat) (m : List Blk) (f : Nat → Nd) (a key : Int) :
  den T X L (k + 4) 64 [.agg (chn f a), vi key] m = some ⟨.tup [vi (mapGet f a key).1, vi (mapGet f a key).2.1, vi (mapGet f a key).2.2], m, 0, 0⟩ := by
 rw [den_eq T_64]
 cases hok : chainOk f a with
 | false => simp (maxSteps := 1000000) -implicitDefEqProofs (disch := omega) [-getElem?_pos, c_spec_MapGet, den_spec_ChainOk hL, hok, mapGet]
 | true =>
  have hc := ch_of hok
  obtain ⟨hin, _⟩ := wk_in (key := key) 10 κ0 (-1) a hc (.inl rfl)
  cases hv : isVal key with
  | false => simp (maxSteps := 1000000) -implicitDefEqProofs (disch := omega) [-getElem?_pos, c_spec_MapGet, den_spec_ChainOk hL, den_l1Value, hok, hv, mapGet]
  | true =>
   cases hw : (wk f key 10 (-1) a).2.2.2 with
   | false => simp (maxSteps := 1000000) -implicitDefEqProofs (disch := omega) [-getElem?_pos, c_spec_MapGet, den_spec_ChainOk hL, den_l1Value, den_spec_walk hL _ _ f a key κ0 hc, wkS_f hw, hok, hv, hw, mapGet]
   | true =>
    cases hh : hasB f (wk f key 10 (-1) a).2.1 key with
    | false =>
     rcases hasB_neg hin hh with hn | ⟨q, hq, hq2, hk⟩
     ·simp (maxSteps := 1000000) -implicitDefEqProofs (disch := omega) [-getElem?_pos, c_spec_MapGet, den_spec_ChainOk hL, den_l1Value, den_spec_walk hL _ _ f a key κ0 hc, wkS_t hw, hok, hv, hw, hh, mapGet, hn]
     ·rw [hq] at hh
      simp (maxSteps := 1000000) -implicitDefEqProofs (disch := omega) [-getElem?_pos, c_spec_MapGet, den_spec_ChainOk hL, den_l1Value, den_spec_walk hL _ _ f a key κ0 hc, wkS_t hw, hok, hv, hw, hh, mapGet, hq, hk, show ¬ ((q : Int) < 0) by omega]
    | true =>
     obtain ⟨q, hq, hq2, hk⟩ := hasB_pos hin hh
     rw [hq] at hh
     simp (maxSteps := 1000000) -implicitDefEqProofs (disch := omega) [-getElem?_pos, c_spec_MapGet, den_spec_ChainOk hL, den_l1Value, den_spec_walk hL _ _ f a key κ0 hc, wkS_t hw, hok, hv, hw, hq, hk, hh, mapGet, show ¬ ((q : Int) < 0) by omega]
end Go.Proofs.YtfbeplbcaanimaaGreat
set_option linter.unusedVariables false
set_option linter.unusedSimpArgs false
set_option maxHeartbeats 4000000
namespace Go.Proofs.YtfbeplbcaanimaaGreat
variable {X : FuncId → List V → List Blk → Option Ret} {L : Nat}
theorem den_eqNode (k : Nat) (m : List Blk) (x : Nd) : den T X L (k + 1) 124 [.agg (nd x), .agg (nd x)] m = some ⟨vb true, m, 0, 0⟩ := by
 rw [den_eq T_124]
 simp (maxSteps := 1000000) -implicitDefEqProofs (disch := omega) [-getElem?_pos, c_laws_eqNode, nd]
theorem den_eqNodeA16 (hL : 100 ≤ L) (k : Nat) (m : List Blk) (f : Nat → Nd) : den T X L (k + 2) 93 [.agg (nds 16 f), .agg (nds 16 f)] m = some ⟨vb true, m, 0, 0⟩ := by
 rw [den_eq T_93]
 have hl := iter_up (f := fun s => exec (den T X L (k + 1)) L m.length none c_laws_eqNodeA16_b0 s) (tr := trim m.length (some [2, 3, 5]))
  (fun i => ⟨[(2, .c (.ptr m.length 0 64)), (3, .c (.ptr (m.length + 1) 0 64)), (5, vi i)], m ++ [⟨nds 16 f, 42, 0, true⟩, ⟨nds 16 f, 42, 0, true⟩], 0, 0⟩) 16
  ?s1 ⟨0, _, by simp (maxSteps := 1000000) -implicitDefEqProofs (disch := omega) [-getElem?_pos, c_laws_eqNodeA16_b0]; rfl⟩
 case s1 =>
  intro i hi
  refine ⟨_, by simp (maxSteps := 1000000) -implicitDefEqProofs (disch := omega) [-getElem?_pos, c_laws_eqNodeA16_b0, show (i : Int) < 16 by omega, den_eqNode]; rfl, ?_⟩
  simp (maxSteps := 1000000) -implicitDefEqProofs (disch := omega) [-getElem?_pos]
 simp (maxSteps := 1000000) -implicitDefEqProofs (disch := omega) [-getElem?_pos, c_laws_eqNodeA16]
 rw [hl L 0 _ ?tr (by omega) (by omega)]
 case tr => simp (maxSteps := 1000000) -implicitDefEqProofs (disch := omega) [-getElem?_pos, nds_refs]
 simp (maxSteps := 1000000) -implicitDefEqProofs (disch := omega) [-getElem?_pos, c_laws_eqNodeA16_b0]
theorem den_eqChain (hL : 100 ≤ L) (k : Nat) (m : List Blk) (f : Nat → Nd) (a : Int) : den T X L (k + 3) 48 [.agg (chn f a), .agg (chn f a)] m = some ⟨vb true, m, 0, 0⟩ := by
 rw [den_eq T_48]
 simp (maxSteps := 1000000) -implicitDefEqProofs (disch := omega) [-getElem?_pos, c_laws_eqChain, den_eqNodeA16 hL]
end Go.Proofs.YtfbeplbcaanimaaGreat
set_option linter.unusedVariables false
set_option linter.unusedSimpArgs false
set_option maxHeartbeats 4000000
namespace Go.Proofs.YtfbeplbcaanimaaGreat
variable {X : FuncId → List V → List Blk → Option Ret} {L : Nat}
def mapDrop (f : Nat → Nd) (a key : Int) : (Nat → Nd) × Int × Int × Int :=
 if chainOk f a = true ∧ isVal key = true then
  if (wk f key 10 (-1) a).2.2.2 = true then
   if hasB f (wk f key 10 (-1) a).2.1 key = true then
    (upd (linkF f (wk f key 10 (-1) a).1 (f (wk f key 10 (-1) a).2.1.toNat).c) (wk f key 10 (-1) a).2.1.toNat nd0, linkA a (wk f key 10 (-1) a).1 (f (wk f key 10 (-1) a).2.1.toNat).c, (wk f key 10 (-1) a).2.2.1, 0)
   else (f, a, (wk f key 10 (-1) a).2.2.1, 4)
  else (f, a, (wk f key 10 (-1) a).2.2.1, 2)
 else (f, a, 0, 1)
def outC (r : (Nat → Nd) × Int × Int × Int) : V := .tup [.agg (chn r.1 r.2.1), vi r.2.2.1, vi r.2.2.2]
theorem den_impl_MapDrop (hL : 100 ≤ L) (k : Nat) (m : List Blk) (f : Nat → Nd) (a key : Int) :
  den T X L (k + 4) 84 [.agg (chn f a), vi key] m = some ⟨outC (mapDrop f a key), m, 0, 0⟩ := by
 rw [den_eq T_84]
 unfold outC
 cases hok : chainOk f a with
 | false => simp (maxSteps := 1000000) -implicitDefEqProofs (disch := omega) [-getElem?_pos, c_impl_MapDrop, den_impl_ChainOk hL, hok, mapDrop, z65]
 | true =>
  have hc := ch_of hok
  obtain ⟨hin, hah⟩ := wk_in (key := key) 10 κ0 (-1) a hc (.inl rfl)
  cases hv : isVal key with
  | false => simp (maxSteps := 1000000) -implicitDefEqProofs (disch := omega) [-getElem?_pos, c_impl_MapDrop, den_impl_ChainOk hL, den_isValue, hok, hv, mapDrop, z65]
  | true =>
   cases hw : (wk f key 10 (-1) a).2.2.2 with
   | false => simp (maxSteps := 1000000) -implicitDefEqProofs (disch := omega) [-getElem?_pos, c_impl_MapDrop, den_impl_ChainOk hL, den_isValue, den_impl_walk hL _ _ f a key κ0 hc, hok, hv, hw, mapDrop, z65]
   | true =>
    cases hh : hasB f (wk f key 10 (-1) a).2.1 key with
    | false => simp (maxSteps := 1000000) -implicitDefEqProofs (disch := omega) [-getElem?_pos, c_impl_MapDrop, den_impl_ChainOk hL, den_isValue, den_impl_walk hL _ _ f a key κ0 hc, den_has _ _ f a _ key hin, hok, hv, hw, hh, mapDrop, z65]
    | true =>
     obtain ⟨q, hq, hq2, _⟩ := hasB_pos hin hh
     rw [hq] at hh hin
     have e1 : ∀ (m : List Blk) (p : Int), den T X L (k + 3) 116 [.c (.ptr m.length 0 65), vi (wk f key 10 (-1) a).1, vi p] (m ++ [⟨chn f a, 44, 0, true⟩, ⟨chn (fun _ => nd0) 0, 44, 0, true⟩]) =
       some ⟨.tup [], m ++ [⟨chn (linkF f (wk f key 10 (-1) a).1 p) (linkA a (wk f key 10 (-1) a).1 p), 44, 0, true⟩, ⟨chn (fun _ => nd0) 0, 44, 0, true⟩], 0, 2⟩ := fun m p => by
      have h := den_link (X := X) (L := L) (k + 2) (m ++ [⟨chn f a, 44, 0, true⟩, ⟨chn (fun _ => nd0) 0, 44, 0, true⟩]) m.length f a (wk f key 10 (-1) a).1 p (by simp (maxSteps := 1000000) -implicitDefEqProofs (disch := omega) [-getElem?_pos]) hah
      rw [h]; simp (maxSteps := 1000000) -implicitDefEqProofs (disch := omega) [-getElem?_pos, set_app0, List.length_append]
     simp (maxSteps := 1000000) -implicitDefEqProofs (disch := omega) [-getElem?_pos, c_impl_MapDrop, den_impl_ChainOk hL, den_isValue, den_impl_walk hL _ _ f a key κ0 hc, den_has _ _ f a _ key hin, hok, hv, hw, hq, hh, mapDrop, z65, e1, z4]
theorem den_spec_MapDrop (hL : 100 ≤ L) (k : Nat) (m : List Blk) (f : Nat → Nd) (a key : Int) :
  den T X L (k + 4) 63 [.agg (chn f a), vi key] m = some ⟨outC (mapDrop f a key), m, 0, 0⟩ := by
 rw [den_eq T_63]
 unfold outC
 cases hok : chainOk f a with
 | false => simp (maxSteps := 1000000) -implicitDefEqProofs (disch := omega) [-getElem?_pos, c_spec_MapDrop, den_spec_ChainOk hL, hok, mapDrop, z65]
 | true =>
  have hc := ch_of hok
  obtain ⟨hin, hah⟩ := wk_in (key := key) 10 κ0 (-1) a hc (.inl rfl)
  cases hv : isVal key with
  | false => simp (maxSteps := 1000000) -implicitDefEqProofs (disch := omega) [-getElem?_pos, c_spec_MapDrop, den_spec_ChainOk hL, den_l1Value, hok, hv, mapDrop, z65]
  | true =>
   cases hw : (wk f key 10 (-1) a).2.2.2 with
   | false => simp (maxSteps := 1000000) -implicitDefEqProofs (disch := omega) [-getElem?_pos, c_spec_MapDrop, den_spec_ChainOk hL, den_l1Value, den_spec_walk hL _ _ f a key κ0 hc, wkS_f hw, hok, hv, hw, mapDrop, z65]
   | true =>
    cases hh : hasB f (wk f key 10 (-1) a).2.1 key with
    | false =>
     rcases hasB_neg hin hh with hn | ⟨q, hq, hq2, hk⟩
     ·simp (maxSteps := 1000000) -implicitDefEqProofs (disch := omega) [-getElem?_pos, c_spec_MapDrop, den_spec_ChainOk hL, den_l1Value, den_spec_walk hL _ _ f a key κ0 hc, wkS_t hw, hok, hv, hw, hh, mapDrop, hn, z65]
     ·rw [hq] at hh
      simp (maxSteps := 1000000) -implicitDefEqProofs (disch := omega) [-getElem?_pos, c_spec_MapDrop, den_spec_ChainOk hL, den_l1Value, den_spec_walk hL _ _ f a key κ0 hc, wkS_t hw, hok, hv, hw, hh, mapDrop, hq, hk, show ¬ ((q : Int) < 0) by omega, z65]
    | true =>
     obtain ⟨q, hq, hq2, hk⟩ := hasB_pos hin hh
     rw [hq] at hh
     by_cases ha : (wk f key 10 (-1) a).1 = -1
     ·simp (maxSteps := 1000000) -implicitDefEqProofs (disch := omega) [-getElem?_pos, c_spec_MapDrop, den_spec_ChainOk hL, den_l1Value, den_spec_walk hL _ _ f a key κ0 hc, wkS_t hw, hok, hv, hw, hq, hk, hh, mapDrop, show ¬ ((q : Int) < 0) by omega, z65, z4, ha, linkF, linkA]
     ·obtain ⟨p, hp, hp2⟩ := inP_nat hah ha
      simp (maxSteps := 1000000) -implicitDefEqProofs (disch := omega) [-getElem?_pos, c_spec_MapDrop, den_spec_ChainOk hL, den_l1Value, den_spec_walk hL _ _ f a key κ0 hc, wkS_t hw, hok, hv, hw, hq, hk, hh, mapDrop, show ¬ ((q : Int) < 0) by omega, z65, z4, hp, show ¬ ((p : Int) < 0) by omega, show ¬ ((p : Int) = -1) by omega, linkF, linkA]
end Go.Proofs.YtfbeplbcaanimaaGreat
set_option linter.unusedVariables false
set_option linter.unusedSimpArgs false
set_option maxHeartbeats 4000000
namespace Go.Proofs.YtfbeplbcaanimaaGreat
variable {X : FuncId → List V → List Blk → Option Ret} {L : Nat}
theorem nd_g0 (x : Nd) : (nd x)[0]? = some (cb x.u) := rfl
theorem nd_g1 (x : Nd) : (nd x)[1]? = some (ci x.a) := rfl
theorem nd_g2 (x : Nd) : (nd x)[2]? = some (ci x.b) := rfl
theorem nd_g3 (x : Nd) : (nd x)[3]? = some (ci x.c) := rfl
theorem nd_l0 (x : Nd) (v : Bool) : lay (nd x) 0 [.bool v] = nd ⟨v, x.a, x.b, x.c⟩ := rfl
theorem nd_l1 (x : Nd) (v : Int) : lay (nd x) 1 [.int .i64 v] = nd ⟨x.u, v, x.b, x.c⟩ := rfl
theorem nd_l2 (x : Nd) (v : Int) : lay (nd x) 2 [.int .i64 v] = nd ⟨x.u, x.a, v, x.c⟩ := rfl
theorem nd_l3 (x : Nd) (v : Int) : lay (nd x) 3 [.int .i64 v] = nd ⟨x.u, x.a, x.b, v⟩ := rfl
theorem nd_lay (x y : Nd) : lay (nd x) 0 (nd y) = nd y := lay_all rfl
def frI (f : Nat → Nd) : Nat → Nat → Nat
 | 0, i => i
 | n + 1, i => if (f i).u = true then frI f n (i + 1) else i
theorem frI_bound (f : Nat → Nd) : ∀ (n i : Nat), i ≤ frI f n i ∧ frI f n i ≤ i + n
 | 0, i => ⟨Nat.le_refl _, Nat.le_refl _⟩
 | n + 1, i => by
  have := frI_bound f n (i + 1)
  unfold frI
  split <;> omega
theorem frI_step {f : Nat → Nd} {i : Nat} (hi : i < 16) (h : (f i).u = true) : frI f (16 - i) i = frI f (16 - (i + 1)) (i + 1) := by
 conv => lhs; rw [show 16 - i = (16 - (i + 1)) + 1 by omega]; unfold frI
 rw [if_pos h]
theorem frI_hit {f : Nat → Nd} {i : Nat} (hi : i < 16) (h : (f i).u = false) : frI f (16 - i) i = i := by
 rw [show 16 - i = (16 - (i + 1)) + 1 by omega]; unfold frI
 rw [if_neg (by simp [h])]
theorem den_link_at (k : Nat) (m l : List Blk) (f : Nat → Nd) (a ah p : Int) (ha : inP ah) :
  den T X L (k + 1) 116 [.c (.ptr m.length 0 65), vi ah, vi p] (m ++ ⟨chn f a, 44, 0, true⟩ :: l) = some ⟨.tup [], m ++ ⟨chn (linkF f ah p) (linkA a ah p), 44, 0, true⟩ :: l, 0, l.length + 1⟩ := by
 have h := den_link (X := X) (L := L) k (m ++ ⟨chn f a, 44, 0, true⟩ :: l) m.length f a ah p (by simp (maxSteps := 1000000) -implicitDefEqProofs (disch := omega) [-getElem?_pos]) ha
 rw [h]; simp (maxSteps := 1000000) -implicitDefEqProofs (disch := omega) [-getElem?_pos, set_app0, List.length_append, List.length_cons]
def mapPut (f : Nat → Nd) (a key val : Int) : (Nat → Nd) × Int × Int × Int :=
 if chainOk f a = true ∧ isVal key = true ∧ isVal val = true then
  if (wk f key 10 (-1) a).2.2.2 = true then
   if hasB f (wk f key 10 (-1) a).2.1 key = true then (upd f (wk f key 10 (-1) a).2.1.toNat { f (wk f key 10 (-1) a).2.1.toNat with b := val }, a, (wk f key 10 (-1) a).2.2.1, 0)
   else if frI f 16 0 = 16 then (f, a, (wk f key 10 (-1) a).2.2.1, 3)
   else (linkF (upd f (frI f 16 0) ⟨true, key, val, (wk f key 10 (-1) a).2.1⟩) (wk f key 10 (-1) a).1 (frI f 16 0), linkA a (wk f key 10 (-1) a).1 (frI f 16 0), (wk f key 10 (-1) a).2.2.1, 0)
  else (f, a, (wk f key 10 (-1) a).2.2.1, 2)
 else (f, a, 0, 1)
theorem den_impl_MapPut (hL : 100 ≤ L) (k : Nat) (m : List Blk) (f : Nat → Nd) (a key val : Int) :
  den T X L (k + 4) 83 [.agg (chn f a), vi key, vi val] m = some ⟨outC (mapPut f a key val), m, 0, 0⟩ := by
 rw [den_eq T_83]
 unfold outC
 cases hok : chainOk f a with
 | false => simp (maxSteps := 1000000) -implicitDefEqProofs (disch := omega) [-getElem?_pos, c_impl_MapPut, den_impl_ChainOk hL, hok, mapPut, z65]
 | true =>
  have hc := ch_of hok
  obtain ⟨hin, hah⟩ := wk_in (key := key) 10 κ0 (-1) a hc (.inl rfl)
  cases hv : isVal key with
  | false => simp (maxSteps := 1000000) -implicitDefEqProofs (disch := omega) [-getElem?_pos, c_impl_MapPut, den_impl_ChainOk hL, den_isValue, hok, hv, mapPut, z65]
  | true =>
   cases hv2 : isVal val with
   | false => simp (maxSteps := 1000000) -implicitDefEqProofs (disch := omega) [-getElem?_pos, c_impl_MapPut, den_impl_ChainOk hL, den_isValue, hok, hv, hv2, mapPut, z65]
   | true =>
    cases hw : (wk f key 10 (-1) a).2.2.2 with
    | false => simp (maxSteps := 1000000) -implicitDefEqProofs (disch := omega) [-getElem?_pos, c_impl_MapPut, den_impl_ChainOk hL, den_isValue, den_impl_walk hL _ _ f a key κ0 hc, hok, hv, hv2, hw, mapPut, z65]
    | true =>
     cases hh : hasB f (wk f key 10 (-1) a).2.1 key with
     | true =>
      obtain ⟨q, hq, hq2, _⟩ := hasB_pos hin hh
      rw [hq] at hh hin
      simp (maxSteps := 1000000) -implicitDefEqProofs (disch := omega) [-getElem?_pos, c_impl_MapPut, den_impl_ChainOk hL, den_isValue, den_impl_walk hL _ _ f a key κ0 hc, den_has _ _ f a _ key hin, hok, hv, hv2, hw, hq, hh, mapPut, z65]
     | false =>
      have hl := iter_blk (n0 := m.length) (id := 1) (ka := some [3, 6, 11]) (f := fun s => exec (den T X L (k + 3)) L m.length none c_impl_MapPut_b0 s) (tr := trim m.length (some [1, 2, 3, 6, 9, 10, 11, 55, 56])) (σ := Nat)
       (fun i => ⟨[(1, vi key), (2, vi val), (3, .c (.ptr m.length 0 65)), (6, .c (.ptr (m.length + 1) 0 65)), (9, vi (wk f key 10 (-1) a).1), (10, vi (wk f key 10 (-1) a).2.1), (11, vi (wk f key 10 (-1) a).2.2.1), (55, .agg (nds 16 f)), (56, vi i)], m ++ [⟨chn f a, 44, 0, true⟩, ⟨chn (fun _ => nd0) 0, 44, 0, true⟩], 0, 0⟩)
       (fun i => i ≤ 16) (fun i => 16 - i)
       (fun i => if frI f (16 - i) i = 16 then (.norm, ⟨[(3, .c (.ptr m.length 0 65)), (6, .c (.ptr (m.length + 1) 0 65)), (11, vi (wk f key 10 (-1) a).2.2.1)], m ++ [⟨chn f a, 44, 0, true⟩, ⟨chn (fun _ => nd0) 0, 44, 0, true⟩], 0, 0⟩)
        else (.ret, ⟨[(6, .c (.ptr (m.length + 1) 0 65)), (7, vi (wk f key 10 (-1) a).2.2.1), (8, vi 0)],
         m ++ [⟨chn (linkF (upd f (frI f (16 - i) i) ⟨true, key, val, (wk f key 10 (-1) a).2.1⟩) (wk f key 10 (-1) a).1 (frI f (16 - i) i)) (linkA a (wk f key 10 (-1) a).1 (frI f (16 - i) i)), 44, 0, true⟩,
          ⟨chn (linkF (upd f (frI f (16 - i) i) ⟨true, key, val, (wk f key 10 (-1) a).2.1⟩) (wk f key 10 (-1) a).1 (frI f (16 - i) i)) (linkA a (wk f key 10 (-1) a).1 (frI f (16 - i) i)), 44, 0, true⟩], 0, 0⟩)) ?w
      case w =>
       intro i hi
       by_cases he : i = 16
       ·subst he
        refine ⟨.exit 1, _, by simp (maxSteps := 1000000) -implicitDefEqProofs (disch := omega) [-getElem?_pos, c_impl_MapPut_b0]; rfl, ?_⟩
        simp (maxSteps := 1000000) -implicitDefEqProofs (disch := omega) [-getElem?_pos, c_blkx, frI]
       ·have hi' : (i : Int) < 16 := by omega
        cases hu : (f i).u with
        | true =>
         refine ⟨.norm, _, by simp (maxSteps := 1000000) -implicitDefEqProofs (disch := omega) [-getElem?_pos, c_impl_MapPut_b0, hi', znd, nd_g0, nd_lay, nd_l0, nd_l1, nd_l2, nd_l3, hu, show i * 4 ≤ 60 by omega]; rfl, i + 1, ?_, by omega, by omega, by simp only [← frI_step (show i < 16 by omega) hu]⟩
         simp (maxSteps := 1000000) -implicitDefEqProofs (disch := omega) [-getElem?_pos, nd_refs]
        | false =>
         refine ⟨.ret, _, by simp (maxSteps := 1000000) -implicitDefEqProofs (disch := omega) [-getElem?_pos, c_impl_MapPut_b0, hi', znd, nd_g0, nd_lay, nd_l0, nd_l1, nd_l2, nd_l3, hu, show i * 4 ≤ 60 by omega, den_link_at _ _ _ _ _ _ _ hah]; rfl, ?_⟩
         simp (maxSteps := 1000000) -implicitDefEqProofs (disch := omega) [-getElem?_pos, c_blkr, frI_hit (show i < 16 by omega) hu, he]
      simp (maxSteps := 1000000) -implicitDefEqProofs (disch := omega) [-getElem?_pos, c_impl_MapPut, den_impl_ChainOk hL, den_isValue, den_impl_walk hL _ _ f a key κ0 hc, den_has _ _ f a _ key hin, hok, hv, hv2, hw, hh, mapPut, z65]
      rw [hl L 0 _ (Nat.zero_le _) ?tr (by show 16 < L; omega)]
      case tr => simp (maxSteps := 1000000) -implicitDefEqProofs (disch := omega) [-getElem?_pos]
      by_cases hf : frI f 16 0 = 16
      ·simp (maxSteps := 1000000) -implicitDefEqProofs (disch := omega) [-getElem?_pos, hf]
      ·simp (maxSteps := 1000000) -implicitDefEqProofs (disch := omega) [-getElem?_pos, hf]
end Go.Proofs.YtfbeplbcaanimaaGreat
set_option linter.unusedVariables false
set_option linter.unusedSimpArgs false
set_option maxHeartbeats 4000000
namespace Go.Proofs.YtfbeplbcaanimaaGreat
variable {X : FuncId → List V → List Blk → Option Ret} {L : Nat}
theorem den_spec_MapPut (hL : 100 ≤ L) (k : Nat) (m : List Blk) (f : Nat → Nd) (a key val : Int) :
  den T X L (k + 4) 61 [.agg (chn f a), vi key, vi val] m = some ⟨outC (mapPut f a key val), m, 0, 0⟩ := by
 rw [den_eq T_61]
 unfold outC
 cases hok : chainOk f a with
 | false => simp (maxSteps := 1000000) -implicitDefEqProofs (disch := omega) [-getElem?_pos, c_spec_MapPut, den_spec_ChainOk hL, hok, mapPut, z65]
 | true =>
  have hc := ch_of hok
  obtain ⟨hin, hah⟩ := wk_in (key := key) 10 κ0 (-1) a hc (.inl rfl)
  cases hv : isVal key with
  | false => simp (maxSteps := 1000000) -implicitDefEqProofs (disch := omega) [-getElem?_pos, c_spec_MapPut, den_spec_ChainOk hL, den_l1Value, hok, hv, mapPut, z65]
  | true =>
   cases hv2 : isVal val with
   | false => simp (maxSteps := 1000000) -implicitDefEqProofs (disch := omega) [-getElem?_pos, c_spec_MapPut, den_spec_ChainOk hL, den_l1Value, hok, hv, hv2, mapPut, z65]
   | true =>
    cases hw : (wk f key 10 (-1) a).2.2.2 with
    | false => simp (maxSteps := 1000000) -implicitDefEqProofs (disch := omega) [-getElem?_pos, c_spec_MapPut, den_spec_ChainOk hL, den_l1Value, den_spec_walk hL _ _ f a key κ0 hc, wkS_f hw, hok, hv, hv2, hw, mapPut, z65]
    | true =>
     cases hh : hasB f (wk f key 10 (-1) a).2.1 key with
     | true =>
      obtain ⟨q, hq, hq2, hk⟩ := hasB_pos hin hh
      rw [hq] at hh
      simp (maxSteps := 1000000) -implicitDefEqProofs (disch := omega) [-getElem?_pos, c_spec_MapPut, den_spec_ChainOk hL, den_l1Value, den_spec_walk hL _ _ f a key κ0 hc, wkS_t hw, hok, hv, hv2, hw, hq, hk, hh, mapPut, z65, show (q : Int) ≥ 0 by omega]
     | false =>
      have hl := iter_blk (n0 := m.length) (id := 0) (ka := some [1, 2, 3, 6, 9, 10, 11, 13]) (f := fun s => exec (den T X L (k + 3)) L m.length none c_spec_MapPut_b0 s) (tr := trim m.length (some [1, 2, 3, 6, 9, 10, 11, 13])) (σ := Nat)
       (fun i => ⟨[(1, vi key), (2, vi val), (3, .c (.ptr m.length 0 65)), (6, .c (.ptr (m.length + 1) 0 65)), (9, vi (wk f key 10 (-1) a).2.1), (10, vi (wk f key 10 (-1) a).1), (11, vi (wk f key 10 (-1) a).2.2.1), (13, vi i)], m ++ [⟨chn f a, 44, 0, true⟩, ⟨chn (fun _ => nd0) 0, 44, 0, true⟩], 0, 0⟩)
       (fun i => i ≤ 16) (fun i => 16 - i)
       (fun i => (.norm, ⟨[(1, vi key), (2, vi val), (3, .c (.ptr m.length 0 65)), (6, .c (.ptr (m.length + 1) 0 65)), (9, vi (wk f key 10 (-1) a).2.1), (10, vi (wk f key 10 (-1) a).1), (11, vi (wk f key 10 (-1) a).2.2.1), (13, vi (frI f (16 - i) i))], m ++ [⟨chn f a, 44, 0, true⟩, ⟨chn (fun _ => nd0) 0, 44, 0, true⟩], 0, 0⟩)) ?w
      case w =>
       intro i hi
       by_cases he : i = 16
       ·subst he
        refine ⟨.exit 0, _, by simp (maxSteps := 1000000) -implicitDefEqProofs (disch := omega) [-getElem?_pos, c_spec_MapPut_b0]; rfl, ?_⟩
        simp (maxSteps := 1000000) -implicitDefEqProofs (disch := omega) [-getElem?_pos, c_blkx, frI]
       ·have hi' : (i : Int) < 16 := by omega
        cases hu : (f i).u with
        | true =>
         refine ⟨.norm, _, by simp (maxSteps := 1000000) -implicitDefEqProofs (disch := omega) [-getElem?_pos, c_spec_MapPut_b0, hi', hu]; rfl, i + 1, ?_, by omega, by omega, by simp only [← frI_step (show i < 16 by omega) hu]⟩
         simp (maxSteps := 1000000) -implicitDefEqProofs (disch := omega) [-getElem?_pos]
        | false =>
         refine ⟨.exit 0, _, by simp (maxSteps := 1000000) -implicitDefEqProofs (disch := omega) [-getElem?_pos, c_spec_MapPut_b0, hi', hu]; rfl, ?_⟩
         simp (maxSteps := 1000000) -implicitDefEqProofs (disch := omega) [-getElem?_pos, c_blkx, frI_hit (show i < 16 by omega) hu]
      have hb := frI_bound f 16 0
      rcases hasB_neg hin hh with hn | ⟨q, hq, hq2, hk⟩
      ·simp (maxSteps := 1000000) -implicitDefEqProofs (disch := omega) [-getElem?_pos, c_spec_MapPut, den_spec_ChainOk hL, den_l1Value, den_spec_walk hL _ _ f a key κ0 hc, wkS_t hw, hok, hv, hv2, hw, hh, mapPut, z65, show ¬ (wk f key 10 (-1) a).2.1 ≥ 0 by omega]
       rw [hl L 0 _ (Nat.zero_le _) ?tr (by show 16 < L; omega)]
       case tr => simp (maxSteps := 1000000) -implicitDefEqProofs (disch := omega) [-getElem?_pos]
       simp only [Nat.sub_zero]
       generalize frI f 16 0 = n at hb
       by_cases hf : n = 16
       ·subst hf; simp (maxSteps := 1000000) -implicitDefEqProofs (disch := omega) [-getElem?_pos]
       ·have hf' : ¬ (n : Int) = 16 := by omega
        by_cases ha : (wk f key 10 (-1) a).1 = -1
        ·simp (maxSteps := 1000000) -implicitDefEqProofs (disch := omega) [-getElem?_pos, hf, hf', znd, nd_l0, nd_l1, nd_l2, nd_l3, ha, linkF, linkA]
        ·obtain ⟨p, hp, hp2⟩ := inP_nat hah ha
         simp (maxSteps := 1000000) -implicitDefEqProofs (disch := omega) [-getElem?_pos, hf, hf', znd, nd_l0, nd_l1, nd_l2, nd_l3, hp, show ¬ ((p : Int) < 0) by omega, show ¬ ((p : Int) = -1) by omega, linkF, linkA]
      ·rw [hq] at hh
       simp (maxSteps := 1000000) -implicitDefEqProofs (disch := omega) [-getElem?_pos, c_spec_MapPut, den_spec_ChainOk hL, den_l1Value, den_spec_walk hL _ _ f a key κ0 hc, wkS_t hw, hok, hv, hv2, hw, hh, mapPut, z65, hq, hk, show (q : Int) ≥ 0 by omega]
       rw [hq] at hl
       rw [hl L 0 _ (Nat.zero_le _) ?tr2 (by show 16 < L; omega)]
       case tr2 => simp (maxSteps := 1000000) -implicitDefEqProofs (disch := omega) [-getElem?_pos]
       simp only [Nat.sub_zero]
       generalize frI f 16 0 = n at hb
       by_cases hf : n = 16
       ·subst hf; simp (maxSteps := 1000000) -implicitDefEqProofs (disch := omega) [-getElem?_pos]
       ·have hf' : ¬ (n : Int) = 16 := by omega
        by_cases ha : (wk f key 10 (-1) a).1 = -1
        ·simp (maxSteps := 1000000) -implicitDefEqProofs (disch := omega) [-getElem?_pos, hf, hf', znd, nd_l0, nd_l1, nd_l2, nd_l3, ha, linkF, linkA]
        ·obtain ⟨p, hp, hp2⟩ := inP_nat hah ha
         simp (maxSteps := 1000000) -implicitDefEqProofs (disch := omega) [-getElem?_pos, hf, hf', znd, nd_l0, nd_l1, nd_l2, nd_l3, hp, show ¬ ((p : Int) < 0) by omega, show ¬ ((p : Int) = -1) by omega, linkF, linkA]
end Go.Proofs.YtfbeplbcaanimaaGreat
