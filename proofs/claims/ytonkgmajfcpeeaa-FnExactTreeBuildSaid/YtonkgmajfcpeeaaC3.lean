/-
  ChainOk, the program's.
-/
import Derived.Test.YtonkgmajfcpeeaaC2
set_option linter.unusedVariables false
set_option linter.unusedSimpArgs false
set_option maxHeartbeats 4000000
namespace Go.Proofs.Ytonkgmajfcpeeaa
variable {X : FuncId → List V → List Blk → Option Ret} {L : Nat}

def nodeOkI (x : Nd) : Bool := nodeOk x && (!x.u || inB x.c (-1) 15)

section
variable (k : Nat) (m : List Blk) (f : Nat → Nd) (a : Int)
abbrev hI1 (i : Nat) : St := ⟨[(1, .c (.ptr m.length 0 65)), (3, vi (usedTo f i)), (4, vi 0), (10, .agg (nds 16 f)), (11, vi i)], m ++ [⟨chn f a, 31, 0, true⟩], 0, 0⟩
theorem impl_ok_1 {i : Nat} (hi : i < 16) (hk : nodeOkI (f i) = true) :
    ∃ st, exec (den T X L (k + 2)) L m.length none c_impl_ChainOk_b0 (hI1 m f a i) = some (.norm, st) ∧ trim m.length (some [1, 3, 4, 10, 11]) st = hI1 m f a (i + 1) := by
  have hu := used_le (f := f) i
  unfold nodeOkI nodeOk at hk
  cases h : (f i).u with
  | true =>
    simp only [h, if_true, Bool.and_eq_true, Bool.not_true, Bool.false_or] at hk
    refine ⟨_, by simp (maxSteps := 1000000) (implicitDefEqProofs := false) (disch := omega) [-getElem?_pos, c_impl_ChainOk_b0, nd, show (i : Int) < 16 by omega, show i * 4 ≤ 60 by omega, den_isValue, den_in, h, hk.1.1, hk.1.2, hk.2]; rfl, ?_⟩
    simp (maxSteps := 1000000) (implicitDefEqProofs := false) (disch := omega) [-getElem?_pos, used_t h]
  | false =>
    simp only [h, Bool.false_eq_true, if_false, Bool.and_eq_true, decide_eq_true_eq] at hk
    refine ⟨_, by simp (maxSteps := 1000000) (implicitDefEqProofs := false) (disch := omega) [-getElem?_pos, c_impl_ChainOk_b0, nd, show (i : Int) < 16 by omega, show i * 4 ≤ 60 by omega, den_isValue, den_in, h, hk.1.1.1, hk.1.1.2, hk.1.2]; rfl, ?_⟩
    simp (maxSteps := 1000000) (implicitDefEqProofs := false) (disch := omega) [-getElem?_pos, used_f h]
theorem impl_bad_1 {i : Nat} (hi : i < 16) (hk : ¬ nodeOkI (f i) = true) :
    exec (den T X L (k + 2)) L m.length none c_impl_ChainOk_b0 (hI1 m f a i) = some (.ret, ⟨[(2, vb false)], m, 0, 0⟩) := by
  have hu := used_le (f := f) i
  unfold nodeOkI nodeOk at hk
  cases h : (f i).u with
  | true =>
    simp only [h, if_true, Bool.and_eq_true, Bool.not_true, Bool.false_or] at hk
    cases h1 : isVal (f i).a with
    | false => simp (maxSteps := 1000000) (implicitDefEqProofs := false) (disch := omega) [-getElem?_pos, c_impl_ChainOk_b0, nd, show (i : Int) < 16 by omega, show i * 4 ≤ 60 by omega, den_isValue, den_in, h, h1]
    | true =>
      cases h2 : isVal (f i).b with
      | false => simp (maxSteps := 1000000) (implicitDefEqProofs := false) (disch := omega) [-getElem?_pos, c_impl_ChainOk_b0, nd, show (i : Int) < 16 by omega, show i * 4 ≤ 60 by omega, den_isValue, den_in, h, h1, h2]
      | true =>
        have h3 : inB (f i).c (-1) 15 = false := by cases h3 : inB (f i).c (-1) 15 with | false => rfl | true => exact absurd ⟨⟨h1, h2⟩, h3⟩ hk
        simp (maxSteps := 1000000) (implicitDefEqProofs := false) (disch := omega) [-getElem?_pos, c_impl_ChainOk_b0, nd, show (i : Int) < 16 by omega, show i * 4 ≤ 60 by omega, den_isValue, den_in, h, h1, h2, h3]
  | false =>
    simp only [h, Bool.false_eq_true, if_false, Bool.and_eq_true, decide_eq_true_eq, Bool.not_false, Bool.true_or, and_true] at hk
    by_cases h1 : (f i).a = 0
    · by_cases h2 : (f i).b = 0
      · have h3 : ¬ (f i).c = 0 := fun h3 => hk ⟨⟨h1, h2⟩, h3⟩
        simp (maxSteps := 1000000) (implicitDefEqProofs := false) (disch := omega) [-getElem?_pos, c_impl_ChainOk_b0, nd, show (i : Int) < 16 by omega, show i * 4 ≤ 60 by omega, den_isValue, den_in, h, h1, h2, h3]
      · simp (maxSteps := 1000000) (implicitDefEqProofs := false) (disch := omega) [-getElem?_pos, c_impl_ChainOk_b0, nd, show (i : Int) < 16 by omega, show i * 4 ≤ 60 by omega, den_isValue, den_in, h, h1, h2]
    · simp (maxSteps := 1000000) (implicitDefEqProofs := false) (disch := omega) [-getElem?_pos, c_impl_ChainOk_b0, nd, show (i : Int) < 16 by omega, show i * 4 ≤ 60 by omega, den_isValue, den_in, h, h1]
abbrev hI2 (u t : Nat) (κ p : Int) : St := ⟨[(1, .c (.ptr m.length 0 65)), (3, vi u), (4, vi t), (7, vi κ), (8, vi p)], m ++ [⟨chn f a, 31, 0, true⟩], 0, 0⟩
theorem impl_end_2 (u t : Nat) (κ : Int) : ∃ st, exec (den T X L (k + 2)) L m.length none c_impl_ChainOk_b1 (hI2 m f a u t κ (-1)) = some (.exit 3, st) ∧ trim m.length (some [3, 4]) st = ⟨[(3, vi u), (4, vi t)], m, 0, 0⟩ := by
  refine ⟨_, by simp (maxSteps := 1000000) (implicitDefEqProofs := false) (disch := omega) [-getElem?_pos, c_impl_ChainOk_b1]; rfl, ?_⟩
  simp (maxSteps := 1000000) (implicitDefEqProofs := false) (disch := omega) [-getElem?_pos]
theorem impl_bad_2 (u t : Nat) (κ p : Int) (hp : p ≠ -1) (ho : okp f κ p = false) : exec (den T X L (k + 2)) L m.length none c_impl_ChainOk_b1 (hI2 m f a u t κ p) = some (.ret, ⟨[(2, vb false)], m, 0, 0⟩) := by
  have hp : ¬ p = -1 := hp
  cases hin : inB p 0 15 with
  | false => simp (maxSteps := 1000000) (implicitDefEqProofs := false) (disch := omega) [-getElem?_pos, c_impl_ChainOk_b1, hp, den_in, hin]
  | true =>
    have hin' := inB_iff.mp hin
    obtain ⟨q, rfl⟩ : ∃ q : Nat, p = q := ⟨p.toNat, by omega⟩
    have hq : q < 16 := by omega
    cases hu1 : (f q).u with
    | false => simp (maxSteps := 1000000) (implicitDefEqProofs := false) (disch := omega) [-getElem?_pos, c_impl_ChainOk_b1, hp, den_in, hin, hu1]
    | true =>
      have hle : (f q).a ≤ κ := by
        simp only [okp, hin, Int.toNat_natCast, hu1, Bool.true_and] at ho
        have := of_decide_eq_false ho
        omega
      simp (maxSteps := 1000000) (implicitDefEqProofs := false) (disch := omega) [-getElem?_pos, c_impl_ChainOk_b1, hp, den_in, hin, hu1, hle]
theorem impl_ok_2 (u t : Nat) (κ : Int) (q : Nat) (ht : t < 100) (ho : okp f κ q = true) : ∃ st, exec (den T X L (k + 2)) L m.length none c_impl_ChainOk_b1 (hI2 m f a u t κ q) = some (.norm, st) ∧ trim m.length (some [1, 3, 4, 7, 8]) st = hI2 m f a u (t + 1) (f q).a (f q).c := by
  obtain ⟨hin', hu1, hlt⟩ := okp_iff.mp ho
  rw [Int.toNat_natCast] at hu1 hlt
  have hin := inB_pos hin'
  have hq : q < 16 := by omega
  have hp : ¬ (q : Int) = -1 := by omega
  refine ⟨_, by simp (maxSteps := 1000000) (implicitDefEqProofs := false) (disch := omega) [-getElem?_pos, c_impl_ChainOk_b1, hp, den_in, hin, hu1, show ¬ (f q).a ≤ κ by omega]; rfl, ?_⟩
  simp (maxSteps := 1000000) (implicitDefEqProofs := false) (disch := omega) [-getElem?_pos]
end

theorem den_impl_ChainOk (hL : 100 ≤ L) (k : Nat) (m : List Blk) (f : Nat → Nd) (a : Int) :
    den T X L (k + 3) 17 [.agg (chn f a)] m = some ⟨vb (chainOk f a), m, 0, 0⟩ := by
  rw [den_eq T_17]
  have hl := iter_all (f := fun s => exec (den T X L (k + 2)) L m.length none c_impl_ChainOk_b0 s) (tr := trim m.length (some [1, 3, 4, 10, 11]))
    (hI1 m f a) 16 (fun i => nodeOkI (f i) = true) ⟨[(2, vb false)], m, 0, 0⟩ (fun i hi hk => impl_ok_1 k m f a hi hk) (fun i hi hk => impl_bad_1 k m f a hi hk)
    ⟨0, _, by simp (maxSteps := 1000000) (implicitDefEqProofs := false) (disch := omega) [-getElem?_pos, c_impl_ChainOk_b0]; rfl⟩
  simp (maxSteps := 1000000) (implicitDefEqProofs := false) (disch := omega) [-getElem?_pos, c_impl_ChainOk]
  rw [hl L 0 _ ?tr (by omega) (by omega)]
  case tr => simp (maxSteps := 1000000) (implicitDefEqProofs := false) (disch := omega) [-getElem?_pos, nds_refs, refs_append, refsL, usedTo, cn]
  by_cases hok : ∀ i : Nat, i < 16 → nodeOkI (f i) = true
  case neg =>
    rw [if_neg fun h' => hok fun j h1 => h' j h1 (Nat.zero_le _)]
    have : chainOk f a = false := by
      cases h : chainOk f a with
      | false => rfl
      | true =>
        exfalso
        apply hok
        intro i hi
        have h1 := chain_strict h i hi
        simp only [chainOk, Bool.and_eq_true, decide_eq_true_eq] at h
        simp only [nodeOkI, h.1 i hi, Bool.true_and]
        cases hu : (f i).u with
        | false => rfl
        | true => simp [h1 hu]
    rw [this]
    simp (maxSteps := 1000000) (implicitDefEqProofs := false) (disch := omega) [-getElem?_pos]
  rw [if_pos fun j h1 _ => hok j h1]
  have hokN : ∀ i : Nat, i < 16 → nodeOk (f i) = true := fun i hi => by
    have := hok i hi
    simp only [nodeOkI, Bool.and_eq_true] at this
    exact this.1
  have hu := used_le (f := f) 16
  have hl2 := iter_blk (n0 := m.length) (id := 3) (ka := some [3, 4]) (f := fun s => exec (den T X L (k + 2)) L m.length none c_impl_ChainOk_b1 s) (tr := trim m.length (some [1, 3, 4, 7, 8]))
    (σ := Nat × Int × Int) (fun s => hI2 m f a (usedTo f 16) s.1 s.2.1 s.2.2) (fun s => s.1 + cn (above f s.2.1) 16 ≤ 16) (fun s => cn (above f s.2.1) 16)
    (fun s => match chW f 17 s.2.1 s.2.2 with
      | some d => (.norm, ⟨[(3, vi (usedTo f 16)), (4, vi (s.1 + d : Nat))], m, 0, 0⟩)
      | none => (.ret, ⟨[(2, vb false)], m, 0, 0⟩)) ?w
  case w =>
    rintro ⟨t, κ, p⟩ hI
    simp only at hI
    by_cases hp : p = -1
    · subst hp
      obtain ⟨st, e1, e2⟩ := impl_end_2 (X := X) (L := L) k m f a (usedTo f 16) t κ
      refine ⟨.exit 3, st, e1, ?_⟩
      simp only [c_blkx, e2, chW_end, Nat.add_zero]
    · cases ho : okp f κ p with
      | false =>
        refine ⟨.ret, _, impl_bad_2 k m f a (usedTo f 16) t κ p hp ho, ?_⟩
        simp only [c_blkr, chW_bad hp ho]
      | true =>
        obtain ⟨q, rfl⟩ : ∃ q : Nat, p = q := ⟨p.toNat, by have := (okp_iff.mp ho).1; omega⟩
        have hs := above_step ho
        rw [Int.toNat_natCast] at hs
        obtain ⟨st, e1, e2⟩ := impl_ok_2 (X := X) (L := L) k m f a (usedTo f 16) t κ q (by omega) ho
        refine ⟨.norm, st, e1, (t + 1, (f q).a, (f q).c), e2, ?_, hs, ?_⟩
        · show t + 1 + cn (above f (f q).a) 16 ≤ 16
          omega
        · simp only [chW_step hp ho, Int.toNat_natCast]
          cases chW f 17 (f q).a (f q).c with
          | none => rfl
          | some d => simp only [Option.map_some]; rw [show t + 1 + d = t + (d + 1) by omega]
  have hu16 : usedTo f 16 = usedN f := rfl
  have hc16 := cn_le (q := above f κ0) 16
  simp (maxSteps := 1000000) (implicitDefEqProofs := false) (disch := omega) [-getElem?_pos, c_impl_ChainOk_b0]
  rw [hl2 L (0, κ0, a) _ (by show 0 + cn (above f κ0) 16 ≤ 16; omega) ?tr2 (by show cn (above f κ0) 16 < L; omega)]
  case tr2 => simp (maxSteps := 1000000) (implicitDefEqProofs := false) (disch := omega) [-getElem?_pos, κ0]
  unfold chainOk
  rw [decide_eq_true hokN, Bool.true_and]
  simp only [Nat.zero_add]
  cases chW f 17 κ0 a with
  | none => simp (maxSteps := 1000000) (implicitDefEqProofs := false) (disch := omega) [-getElem?_pos]
  | some d =>
    by_cases hd2 : d = usedN f
    · simp (maxSteps := 1000000) (implicitDefEqProofs := false) (disch := omega) [-getElem?_pos, hd2, hu16]
    · have t2 : ¬ (d : Int) = (usedN f : Nat) := by omega
      simp (maxSteps := 1000000) (implicitDefEqProofs := false) (disch := omega) [-getElem?_pos, t2, hd2, hu16]
end Go.Proofs.Ytonkgmajfcpeeaa
