/-
  Chains: put, by the reference; the law.
-/
import Derived.Test.YtonkgmajfcpeeaaC8
set_option linter.unusedVariables false
set_option linter.unusedSimpArgs false
set_option maxHeartbeats 4000000
namespace Go.Proofs.Ytonkgmajfcpeeaa
variable {X : FuncId → List V → List Blk → Option Ret} {L : Nat}

theorem den_spec_MapPut (hL : 100 ≤ L) (k : Nat) (m : List Blk) (f : Nat → Nd) (a key val : Int) :
    den T X L (k + 4) 43 [.agg (chn f a), vi key, vi val] m = some ⟨outC (mapPut f a key val), m, 0, 0⟩ := by
  rw [den_eq T_43]
  unfold outC
  cases hok : chainOk f a with
  | false => simp (maxSteps := 1000000) (implicitDefEqProofs := false) (disch := omega) [-getElem?_pos, c_spec_MapPut, den_spec_ChainOk hL, hok, mapPut, z65]
  | true =>
    have hc := ch_of hok
    obtain ⟨hin, hah⟩ := wk_in (key := key) 10 κ0 (-1) a hc (.inl rfl)
    cases hv : isVal key with
    | false => simp (maxSteps := 1000000) (implicitDefEqProofs := false) (disch := omega) [-getElem?_pos, c_spec_MapPut, den_spec_ChainOk hL, den_l1Value, hok, hv, mapPut, z65]
    | true =>
      cases hv2 : isVal val with
      | false => simp (maxSteps := 1000000) (implicitDefEqProofs := false) (disch := omega) [-getElem?_pos, c_spec_MapPut, den_spec_ChainOk hL, den_l1Value, hok, hv, hv2, mapPut, z65]
      | true =>
        cases hw : (wk f key 10 (-1) a).2.2.2 with
        | false => simp (maxSteps := 1000000) (implicitDefEqProofs := false) (disch := omega) [-getElem?_pos, c_spec_MapPut, den_spec_ChainOk hL, den_l1Value, den_spec_walk hL _ _ f a key κ0 hc, wkS_f hw, hok, hv, hv2, hw, mapPut, z65]
        | true =>
          cases hh : hasB f (wk f key 10 (-1) a).2.1 key with
          | true =>
            obtain ⟨q, hq, hq2, hk⟩ := hasB_pos hin hh
            rw [hq] at hh
            simp (maxSteps := 1000000) (implicitDefEqProofs := false) (disch := omega) [-getElem?_pos, c_spec_MapPut, den_spec_ChainOk hL, den_l1Value, den_spec_walk hL _ _ f a key κ0 hc, wkS_t hw, hok, hv, hv2, hw, hq, hk, hh, mapPut, z65, show (q : Int) ≥ 0 by omega]
          | false =>
            have hl := iter_blk (n0 := m.length) (id := 0) (ka := some [1, 2, 3, 6, 9, 10, 11, 13]) (f := fun s => exec (den T X L (k + 3)) L m.length none c_spec_MapPut_b0 s) (tr := trim m.length (some [1, 2, 3, 6, 9, 10, 11, 13])) (σ := Nat)
              (fun i => ⟨[(1, vi key), (2, vi val), (3, .c (.ptr m.length 0 65)), (6, .c (.ptr (m.length + 1) 0 65)), (9, vi (wk f key 10 (-1) a).2.1), (10, vi (wk f key 10 (-1) a).1), (11, vi (wk f key 10 (-1) a).2.2.1), (13, vi i)], m ++ [⟨chn f a, 31, 0, true⟩, ⟨chn (fun _ => nd0) 0, 31, 0, true⟩], 0, 0⟩)
              (fun i => i ≤ 16) (fun i => 16 - i)
              (fun i => (.norm, ⟨[(1, vi key), (2, vi val), (3, .c (.ptr m.length 0 65)), (6, .c (.ptr (m.length + 1) 0 65)), (9, vi (wk f key 10 (-1) a).2.1), (10, vi (wk f key 10 (-1) a).1), (11, vi (wk f key 10 (-1) a).2.2.1), (13, vi (frI f (16 - i) i))], m ++ [⟨chn f a, 31, 0, true⟩, ⟨chn (fun _ => nd0) 0, 31, 0, true⟩], 0, 0⟩)) ?w
            case w =>
              intro i hi
              by_cases he : i = 16
              · subst he
                refine ⟨.exit 0, _, by simp (maxSteps := 1000000) (implicitDefEqProofs := false) (disch := omega) [-getElem?_pos, c_spec_MapPut_b0]; rfl, ?_⟩
                simp (maxSteps := 1000000) (implicitDefEqProofs := false) (disch := omega) [-getElem?_pos, c_blkx, frI]
              · have hi' : (i : Int) < 16 := by omega
                cases hu : (f i).u with
                | true =>
                  refine ⟨.norm, _, by simp (maxSteps := 1000000) (implicitDefEqProofs := false) (disch := omega) [-getElem?_pos, c_spec_MapPut_b0, hi', hu]; rfl, i + 1, ?_, by omega, by omega, by simp only [← frI_step (show i < 16 by omega) hu]⟩
                  simp (maxSteps := 1000000) (implicitDefEqProofs := false) (disch := omega) [-getElem?_pos]
                | false =>
                  refine ⟨.exit 0, _, by simp (maxSteps := 1000000) (implicitDefEqProofs := false) (disch := omega) [-getElem?_pos, c_spec_MapPut_b0, hi', hu]; rfl, ?_⟩
                  simp (maxSteps := 1000000) (implicitDefEqProofs := false) (disch := omega) [-getElem?_pos, c_blkx, frI_hit (show i < 16 by omega) hu]
            have hb := frI_bound f 16 0
            rcases hasB_neg hin hh with hn | ⟨q, hq, hq2, hk⟩
            · simp (maxSteps := 1000000) (implicitDefEqProofs := false) (disch := omega) [-getElem?_pos, c_spec_MapPut, den_spec_ChainOk hL, den_l1Value, den_spec_walk hL _ _ f a key κ0 hc, wkS_t hw, hok, hv, hv2, hw, hh, mapPut, z65, show ¬ (wk f key 10 (-1) a).2.1 ≥ 0 by omega]
              rw [hl L 0 _ (Nat.zero_le _) ?tr (by show 16 < L; omega)]
              case tr => simp (maxSteps := 1000000) (implicitDefEqProofs := false) (disch := omega) [-getElem?_pos]
              simp only [Nat.sub_zero]
              generalize frI f 16 0 = n at hb
              by_cases hf : n = 16
              · subst hf; simp (maxSteps := 1000000) (implicitDefEqProofs := false) (disch := omega) [-getElem?_pos]
              · have hf' : ¬ (n : Int) = 16 := by omega
                by_cases ha : (wk f key 10 (-1) a).1 = -1
                · simp (maxSteps := 1000000) (implicitDefEqProofs := false) (disch := omega) [-getElem?_pos, hf, hf', znd, nd_l0, nd_l1, nd_l2, nd_l3, ha, linkF, linkA]
                · obtain ⟨p, hp, hp2⟩ := inP_nat hah ha
                  simp (maxSteps := 1000000) (implicitDefEqProofs := false) (disch := omega) [-getElem?_pos, hf, hf', znd, nd_l0, nd_l1, nd_l2, nd_l3, hp, show ¬ ((p : Int) < 0) by omega, show ¬ ((p : Int) = -1) by omega, linkF, linkA]
            · rw [hq] at hh
              simp (maxSteps := 1000000) (implicitDefEqProofs := false) (disch := omega) [-getElem?_pos, c_spec_MapPut, den_spec_ChainOk hL, den_l1Value, den_spec_walk hL _ _ f a key κ0 hc, wkS_t hw, hok, hv, hv2, hw, hh, mapPut, z65, hq, hk, show (q : Int) ≥ 0 by omega]
              rw [hq] at hl
              rw [hl L 0 _ (Nat.zero_le _) ?tr2 (by show 16 < L; omega)]
              case tr2 => simp (maxSteps := 1000000) (implicitDefEqProofs := false) (disch := omega) [-getElem?_pos]
              simp only [Nat.sub_zero]
              generalize frI f 16 0 = n at hb
              by_cases hf : n = 16
              · subst hf; simp (maxSteps := 1000000) (implicitDefEqProofs := false) (disch := omega) [-getElem?_pos]
              · have hf' : ¬ (n : Int) = 16 := by omega
                by_cases ha : (wk f key 10 (-1) a).1 = -1
                · simp (maxSteps := 1000000) (implicitDefEqProofs := false) (disch := omega) [-getElem?_pos, hf, hf', znd, nd_l0, nd_l1, nd_l2, nd_l3, ha, linkF, linkA]
                · obtain ⟨p, hp, hp2⟩ := inP_nat hah ha
                  simp (maxSteps := 1000000) (implicitDefEqProofs := false) (disch := omega) [-getElem?_pos, hf, hf', znd, nd_l0, nd_l1, nd_l2, nd_l3, hp, show ¬ ((p : Int) < 0) by omega, show ¬ ((p : Int) = -1) by omega, linkF, linkA]
theorem den_FnExactMapPut (hL : 100 ≤ L) (k : Nat) (m : List Blk) (f : Nat → Nd) (a key val : Int) : den T X L (k + 5) 13 [.agg (chn f a), vi key, vi val] m = some ⟨vb true, m, 0, 0⟩ := by
  rw [den_eq T_13]
  simp (maxSteps := 1000000) (implicitDefEqProofs := false) (disch := omega) [-getElem?_pos, c_laws_FnExactMapPut, den_toChain hL (k + 1), den_spec_MapPut hL, den_impl_MapPut hL, den_eqChain hL (k + 1), outC, z65]
end Go.Proofs.Ytonkgmajfcpeeaa
