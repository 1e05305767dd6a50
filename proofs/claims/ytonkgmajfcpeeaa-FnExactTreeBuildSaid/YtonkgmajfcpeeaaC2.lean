/-
  ChainOk, the program's and the reference's.
-/
import Derived.Test.YtonkgmajfcpeeaaCm
set_option linter.unusedVariables false
set_option linter.unusedSimpArgs false
set_option maxHeartbeats 4000000
namespace Go.Proofs.Ytonkgmajfcpeeaa
variable {X : FuncId → List V → List Blk → Option Ret} {L : Nat}

theorem cn_succ {q : Nat → Bool} {n : Nat} : cn q (n + 1) = cn q n + (if q n then 1 else 0) := rfl
def usedTo (f : Nat → Nd) (i : Nat) : Nat := cn (fun i => (f i).u) i
theorem used_t {f : Nat → Nd} {i : Nat} (h : (f i).u = true) : usedTo f (i + 1) = usedTo f i + 1 := by simp [usedTo, cn, h]
theorem used_f {f : Nat → Nd} {i : Nat} (h : (f i).u = false) : usedTo f (i + 1) = usedTo f i := by simp [usedTo, cn, h]
theorem used_le {f : Nat → Nd} (i : Nat) : usedTo f i ≤ i := cn_le i

theorem den_spec_ChainOk (hL : 100 ≤ L) (k : Nat) (m : List Blk) (f : Nat → Nd) (a : Int) :
    den T X L (k + 3) 15 [.agg (chn f a)] m = some ⟨vb (chainOk f a), m, 0, 0⟩ := by
  rw [den_eq T_15]
  have hl := iter_all (f := fun s => exec (den T X L (k + 2)) L m.length none c_spec_ChainOk_b0 s) (tr := trim m.length (some [1, 3, 4]))
    (fun i => ⟨[(1, .c (.ptr m.length 0 65)), (3, vi (usedTo f i)), (4, vi i)], m ++ [⟨chn f a, 31, 0, true⟩], 0, 0⟩) 16 (fun i => nodeOk (f i) = true)
    ⟨[(2, vb false)], m, 0, 0⟩ ?s1 ?s2 ⟨0, _, by simp (maxSteps := 1000000) (implicitDefEqProofs := false) (disch := omega) [-getElem?_pos, c_spec_ChainOk_b0]; rfl⟩
  case s1 =>
    intro i hi hk
    have hu := used_le (f := f) i
    unfold nodeOk at hk
    cases h : (f i).u with
    | true =>
      rw [if_pos h, Bool.and_eq_true] at hk
      refine ⟨_, by simp (maxSteps := 1000000) (implicitDefEqProofs := false) (disch := omega) [-getElem?_pos, c_spec_ChainOk_b0, nd, show (i : Int) < 16 by omega, den_l1Value, h, hk.1, hk.2]; rfl, ?_⟩
      simp (maxSteps := 1000000) (implicitDefEqProofs := false) (disch := omega) [-getElem?_pos, used_t h]
    | false =>
      rw [if_neg (by simp [h])] at hk
      simp only [Bool.and_eq_true, decide_eq_true_eq] at hk
      refine ⟨_, by simp (maxSteps := 1000000) (implicitDefEqProofs := false) (disch := omega) [-getElem?_pos, c_spec_ChainOk_b0, nd, show (i : Int) < 16 by omega, den_l1Value, h, hk.1.1, hk.1.2, hk.2]; rfl, ?_⟩
      simp (maxSteps := 1000000) (implicitDefEqProofs := false) (disch := omega) [-getElem?_pos, used_f h]
  case s2 =>
    intro i hi hk
    unfold nodeOk at hk
    cases h : (f i).u with
    | true =>
      rw [if_pos h, Bool.and_eq_true] at hk
      cases h1 : isVal (f i).a with
      | false => simp (maxSteps := 1000000) (implicitDefEqProofs := false) (disch := omega) [-getElem?_pos, c_spec_ChainOk_b0, nd, show (i : Int) < 16 by omega, den_l1Value, h, h1]
      | true =>
        have h2 : isVal (f i).b = false := by cases h3 : isVal (f i).b with | false => rfl | true => exact absurd ⟨h1, h3⟩ hk
        simp (maxSteps := 1000000) (implicitDefEqProofs := false) (disch := omega) [-getElem?_pos, c_spec_ChainOk_b0, nd, show (i : Int) < 16 by omega, den_l1Value, h, h1, h2]
    | false =>
      rw [if_neg (by simp [h])] at hk
      simp only [Bool.and_eq_true, decide_eq_true_eq] at hk
      by_cases h1 : (f i).a = 0
      · by_cases h2 : (f i).b = 0
        · have h3 : ¬ (f i).c = 0 := fun h3 => hk ⟨⟨h1, h2⟩, h3⟩
          simp (maxSteps := 1000000) (implicitDefEqProofs := false) (disch := omega) [-getElem?_pos, c_spec_ChainOk_b0, nd, show (i : Int) < 16 by omega, den_l1Value, h, h1, h2, h3]
        · simp (maxSteps := 1000000) (implicitDefEqProofs := false) (disch := omega) [-getElem?_pos, c_spec_ChainOk_b0, nd, show (i : Int) < 16 by omega, den_l1Value, h, h1, h2]
      · simp (maxSteps := 1000000) (implicitDefEqProofs := false) (disch := omega) [-getElem?_pos, c_spec_ChainOk_b0, nd, show (i : Int) < 16 by omega, den_l1Value, h, h1]
  simp (maxSteps := 1000000) (implicitDefEqProofs := false) (disch := omega) [-getElem?_pos, c_spec_ChainOk]
  rw [hl L 0 _ ?tr (by omega) (by omega)]
  case tr => simp (maxSteps := 1000000) (implicitDefEqProofs := false) (disch := omega) [-getElem?_pos, nds_refs, refs_append, refsL, usedTo, cn]
  by_cases hok : ∀ i : Nat, i < 16 → nodeOk (f i) = true
  case neg =>
    rw [if_neg fun h' => hok fun j h1 => h' j h1 (Nat.zero_le _), show chainOk f a = false by unfold chainOk; rw [decide_eq_false hok]; rfl]
    simp (maxSteps := 1000000) (implicitDefEqProofs := false) (disch := omega) [-getElem?_pos]
  rw [if_pos fun j h1 _ => hok j h1]
  have hu := used_le (f := f) 16
  have hl2 := iter_blk (n0 := m.length) (id := 2) (ka := some [3]) (f := fun s => exec (den T X L (k + 2)) L m.length none c_spec_ChainOk_b1 s) (tr := trim m.length (some [1, 3, 6, 7]))
    (σ := Nat × Int × Int) (fun s => ⟨[(1, .c (.ptr m.length 0 65)), (3, vi s.1), (6, vi s.2.1), (7, vi s.2.2)], m ++ [⟨chn f a, 31, 0, true⟩], 0, 0⟩)
    (fun s => s.1 ≤ 16 ∧ (s.2.2 = -1 ∨ 0 ≤ s.2.2 ∧ s.2.2 ≤ 15)) (fun s => s.1)
    (fun s => match chW f 17 (if s.2.2 = -1 then κ0 else (f s.2.2.toNat).a) s.2.1 with
      | some d => if d ≤ s.1 then (.norm, ⟨[(3, vi (s.1 - d : Nat))], m, 0, 0⟩) else (.ret, ⟨[(2, vb false)], m, 0, 0⟩)
      | none => (.ret, ⟨[(2, vb false)], m, 0, 0⟩)) ?w
  case w =>
    rintro ⟨u, p, l⟩ ⟨g1, g2⟩
    simp only at g1 g2
    by_cases hp : p = -1
    · subst hp
      refine ⟨.exit 2, _, by simp (maxSteps := 1000000) (implicitDefEqProofs := false) (disch := omega) [-getElem?_pos, c_spec_ChainOk_b1]; rfl, ?_⟩
      simp (maxSteps := 1000000) (implicitDefEqProofs := false) (disch := omega) [-getElem?_pos, chW_end]
    simp only
    generalize hκ : (if l = -1 then κ0 else (f l.toNat).a) = κ
    cases hin : inB p 0 15 with
    | false =>
      refine ⟨.ret, _, by simp (maxSteps := 1000000) (implicitDefEqProofs := false) (disch := omega) [-getElem?_pos, c_spec_ChainOk_b1, hp, den_l1In, hin]; rfl, ?_⟩
      rw [chW_bad hp (by simp [okp, hin])]
      simp (maxSteps := 1000000) (implicitDefEqProofs := false) (disch := omega) [-getElem?_pos]
    | true =>
      have hin' := inB_iff.mp hin
      obtain ⟨q, rfl⟩ : ∃ q : Nat, p = q := ⟨p.toNat, by omega⟩
      have hq : q < 16 := by omega
      cases hu1 : (f q).u with
      | false =>
        refine ⟨.ret, _, by simp (maxSteps := 1000000) (implicitDefEqProofs := false) (disch := omega) [-getElem?_pos, c_spec_ChainOk_b1, hp, den_l1In, hin, hu1]; rfl, ?_⟩
        rw [chW_bad hp (by simp [okp, hu1])]
        simp (maxSteps := 1000000) (implicitDefEqProofs := false) (disch := omega) [-getElem?_pos]
      | true =>
        by_cases hu0 : u = 0
        · subst hu0
          refine ⟨.ret, _, by simp (maxSteps := 1000000) (implicitDefEqProofs := false) (disch := omega) [-getElem?_pos, c_spec_ChainOk_b1, hp, den_l1In, hin, hu1]; rfl, ?_⟩
          cases ho : okp f κ q with
          | false => rw [chW_bad hp ho]; simp (maxSteps := 1000000) (implicitDefEqProofs := false) (disch := omega) [-getElem?_pos]
          | true =>
            rw [chW_step hp ho]
            cases chW f 17 (f (q : Int).toNat).a (f (q : Int).toNat).c with
            | none => simp (maxSteps := 1000000) (implicitDefEqProofs := false) (disch := omega) [-getElem?_pos]
            | some d => simp (maxSteps := 1000000) (implicitDefEqProofs := false) (disch := omega) [-getElem?_pos]
        · have hu0' : ¬ (u : Int) = 0 := by omega
          have hn := hok q hq
          simp only [nodeOk, hu1, if_true, Bool.and_eq_true, isVal, inB_iff] at hn
          have fin : okp f κ q = true → (match chW f 17 (if (q : Int) = -1 then κ0 else (f (q : Int).toNat).a) (f q).c with
              | some d => if d ≤ u - 1 then ((.norm, ⟨[(3, vi (u - 1 - d : Nat))], m, 0, 0⟩) : Ex × St) else (.ret, ⟨[(2, vb false)], m, 0, 0⟩)
              | none => (.ret, ⟨[(2, vb false)], m, 0, 0⟩)) = (match chW f 17 κ q with
              | some d => if d ≤ u then (.norm, ⟨[(3, vi (u - d : Nat))], m, 0, 0⟩) else (.ret, ⟨[(2, vb false)], m, 0, 0⟩)
              | none => (.ret, ⟨[(2, vb false)], m, 0, 0⟩)) := by
            intro ho
            rw [chW_step hp ho, if_neg hp, Int.toNat_natCast]
            cases chW f 17 (f q).a (f q).c with
            | none => rfl
            | some d =>
              simp only [Option.map_some]
              by_cases hd : d ≤ u - 1
              · rw [if_pos hd, if_pos (by omega), show u - 1 - d = u - (d + 1) by omega]
              · rw [if_neg hd, if_neg (by omega)]
          rcases g2 with rfl | ⟨g2, g3⟩
          · have ho : okp f κ q = true := okp_iff.mpr ⟨hin', hu1, by rw [← hκ, if_pos rfl, Int.toNat_natCast]; unfold κ0; omega⟩
            refine ⟨.norm, _, by simp (maxSteps := 1000000) (implicitDefEqProofs := false) (disch := omega) [-getElem?_pos, c_spec_ChainOk_b1, hp, den_l1In, hin, hu1, hu0, hu0']; rfl, (u - 1, (f q).c, q), ?_, ⟨by show u - 1 ≤ 16; omega, .inr ⟨by show (0 : Int) ≤ q; omega, by show (q : Int) ≤ 15; omega⟩⟩, by show u - 1 < u; omega, fin ho⟩
            simp (maxSteps := 1000000) (implicitDefEqProofs := false) (disch := omega) [-getElem?_pos, show ((u - 1 : Nat) : Int) = (u : Int) - 1 by omega]
          · obtain ⟨r, rfl⟩ : ∃ r : Nat, l = r := ⟨l.toNat, by omega⟩
            have hr : r < 16 := by omega
            have hκ' : (f r).a = κ := by rw [← hκ, if_neg (by omega), Int.toNat_natCast]
            by_cases hlt : (f r).a < (f q).a
            · have ho : okp f κ q = true := okp_iff.mpr ⟨hin', hu1, by rw [← hκ', Int.toNat_natCast]; exact hlt⟩
              refine ⟨.norm, _, by simp (maxSteps := 1000000) (implicitDefEqProofs := false) (disch := omega) [-getElem?_pos, c_spec_ChainOk_b1, hp, den_l1In, hin, hu1, hu0, hu0', show ¬ (f q).a ≤ (f r).a by omega]; rfl, (u - 1, (f q).c, q), ?_, ⟨by show u - 1 ≤ 16; omega, .inr ⟨by show (0 : Int) ≤ q; omega, by show (q : Int) ≤ 15; omega⟩⟩, by show u - 1 < u; omega, fin ho⟩
              simp (maxSteps := 1000000) (implicitDefEqProofs := false) (disch := omega) [-getElem?_pos, show ((u - 1 : Nat) : Int) = (u : Int) - 1 by omega]
            · have ho : okp f κ q = false := by
                cases h : okp f κ q with
                | false => rfl
                | true => exact absurd (okp_iff.mp h).2.2 (by rw [← hκ', Int.toNat_natCast]; exact hlt)
              refine ⟨.ret, _, by simp (maxSteps := 1000000) (implicitDefEqProofs := false) (disch := omega) [-getElem?_pos, c_spec_ChainOk_b1, hp, den_l1In, hin, hu1, hu0, hu0', show (f q).a ≤ (f r).a by omega]; rfl, ?_⟩
              rw [chW_bad hp ho]
              simp (maxSteps := 1000000) (implicitDefEqProofs := false) (disch := omega) [-getElem?_pos]
  have hu16 : usedTo f 16 = usedN f := rfl
  simp (maxSteps := 1000000) (implicitDefEqProofs := false) (disch := omega) [-getElem?_pos, c_spec_ChainOk_b0]
  rw [hl2 L (usedTo f 16, a, -1) _ ⟨hu, .inl rfl⟩ ?tr2 (by show usedTo f 16 < L; omega)]
  case tr2 => simp (maxSteps := 1000000) (implicitDefEqProofs := false) (disch := omega) [-getElem?_pos]
  simp only [if_true]
  unfold chainOk
  rw [decide_eq_true hok, Bool.true_and]
  cases chW f 17 κ0 a with
  | none => simp (maxSteps := 1000000) (implicitDefEqProofs := false) (disch := omega) [-getElem?_pos]
  | some d =>
    by_cases hd : d ≤ usedTo f 16
    · simp only [if_pos hd]
      by_cases hd2 : d = usedN f
      · have : usedTo f 16 - d = 0 := by omega
        simp (maxSteps := 1000000) (implicitDefEqProofs := false) (disch := omega) [-getElem?_pos, this, hd2]
      · have t1 : ¬ usedTo f 16 - d = 0 := by omega
        have t2 : ¬ ((usedTo f 16 - d : Nat) : Int) = 0 := by omega
        simp (maxSteps := 1000000) (implicitDefEqProofs := false) (disch := omega) [-getElem?_pos, t1, t2, hd2]
    · simp only [if_neg hd]
      have hd2 : ¬ d = usedN f := by omega
      simp (maxSteps := 1000000) (implicitDefEqProofs := false) (disch := omega) [-getElem?_pos, hd2]
end Go.Proofs.Ytonkgmajfcpeeaa
