/-
  Chains: dropped and put.
-/
import Derived.Test.YtonkgmajfcpeeaaC6
set_option linter.unusedVariables false
set_option linter.unusedSimpArgs false
set_option maxHeartbeats 4000000
namespace Go.Proofs.Ytonkgmajfcpeeaa
variable {X : FuncId → List V → List Blk → Option Ret} {L : Nat}

def mapDrop (f : Nat → Nd) (a key : Int) : (Nat → Nd) × Int × Int × Int :=
  if chainOk f a = true ∧ isVal key = true then
    if (wk f key 10 (-1) a).2.2.2 = true then
      if hasB f (wk f key 10 (-1) a).2.1 key = true then
        (upd (linkF f (wk f key 10 (-1) a).1 (f (wk f key 10 (-1) a).2.1.toNat).c) (wk f key 10 (-1) a).2.1.toNat nd0, linkA a (wk f key 10 (-1) a).1 (f (wk f key 10 (-1) a).2.1.toNat).c, (wk f key 10 (-1) a).2.2.1, 0)
      else (f, a, (wk f key 10 (-1) a).2.2.1, 4)
    else (f, a, (wk f key 10 (-1) a).2.2.1, 2)
  else (f, a, 0, 1)
def outC (r : (Nat → Nd) × Int × Int × Int) : V := .tup [.agg (chn r.1 r.2.1), vi r.2.2.1, vi r.2.2.2]

theorem den_impl_MapDrop (hL : 100 ≤ L) (k : Nat) (m : List Blk) (f : Nat → Nd) (a key : Int) :
    den T X L (k + 4) 41 [.agg (chn f a), vi key] m = some ⟨outC (mapDrop f a key), m, 0, 0⟩ := by
  rw [den_eq T_41]
  unfold outC
  cases hok : chainOk f a with
  | false => simp (maxSteps := 1000000) (implicitDefEqProofs := false) (disch := omega) [-getElem?_pos, c_impl_MapDrop, den_impl_ChainOk hL, hok, mapDrop, z65]
  | true =>
    have hc := ch_of hok
    obtain ⟨hin, hah⟩ := wk_in (key := key) 10 κ0 (-1) a hc (.inl rfl)
    cases hv : isVal key with
    | false => simp (maxSteps := 1000000) (implicitDefEqProofs := false) (disch := omega) [-getElem?_pos, c_impl_MapDrop, den_impl_ChainOk hL, den_isValue, hok, hv, mapDrop, z65]
    | true =>
      cases hw : (wk f key 10 (-1) a).2.2.2 with
      | false => simp (maxSteps := 1000000) (implicitDefEqProofs := false) (disch := omega) [-getElem?_pos, c_impl_MapDrop, den_impl_ChainOk hL, den_isValue, den_impl_walk hL _ _ f a key κ0 hc, hok, hv, hw, mapDrop, z65]
      | true =>
        cases hh : hasB f (wk f key 10 (-1) a).2.1 key with
        | false => simp (maxSteps := 1000000) (implicitDefEqProofs := false) (disch := omega) [-getElem?_pos, c_impl_MapDrop, den_impl_ChainOk hL, den_isValue, den_impl_walk hL _ _ f a key κ0 hc, den_has _ _ f a _ key hin, hok, hv, hw, hh, mapDrop, z65]
        | true =>
          obtain ⟨q, hq, hq2, _⟩ := hasB_pos hin hh
          rw [hq] at hh hin
          have e1 : ∀ (m : List Blk) (p : Int), den T X L (k + 3) 69 [.c (.ptr m.length 0 65), vi (wk f key 10 (-1) a).1, vi p] (m ++ [⟨chn f a, 31, 0, true⟩, ⟨chn (fun _ => nd0) 0, 31, 0, true⟩]) =
              some ⟨.tup [], m ++ [⟨chn (linkF f (wk f key 10 (-1) a).1 p) (linkA a (wk f key 10 (-1) a).1 p), 31, 0, true⟩, ⟨chn (fun _ => nd0) 0, 31, 0, true⟩], 0, 2⟩ := fun m p => by
            have h := den_link (X := X) (L := L) (k + 2) (m ++ [⟨chn f a, 31, 0, true⟩, ⟨chn (fun _ => nd0) 0, 31, 0, true⟩]) m.length f a (wk f key 10 (-1) a).1 p (by simp (maxSteps := 1000000) (implicitDefEqProofs := false) (disch := omega) [-getElem?_pos]) hah
            rw [h]; simp (maxSteps := 1000000) (implicitDefEqProofs := false) (disch := omega) [-getElem?_pos, set_app0, List.length_append]
          simp (maxSteps := 1000000) (implicitDefEqProofs := false) (disch := omega) [-getElem?_pos, c_impl_MapDrop, den_impl_ChainOk hL, den_isValue, den_impl_walk hL _ _ f a key κ0 hc, den_has _ _ f a _ key hin, hok, hv, hw, hq, hh, mapDrop, z65, e1, z4]

theorem den_spec_MapDrop (hL : 100 ≤ L) (k : Nat) (m : List Blk) (f : Nat → Nd) (a key : Int) :
    den T X L (k + 4) 40 [.agg (chn f a), vi key] m = some ⟨outC (mapDrop f a key), m, 0, 0⟩ := by
  rw [den_eq T_40]
  unfold outC
  cases hok : chainOk f a with
  | false => simp (maxSteps := 1000000) (implicitDefEqProofs := false) (disch := omega) [-getElem?_pos, c_spec_MapDrop, den_spec_ChainOk hL, hok, mapDrop, z65]
  | true =>
    have hc := ch_of hok
    obtain ⟨hin, hah⟩ := wk_in (key := key) 10 κ0 (-1) a hc (.inl rfl)
    cases hv : isVal key with
    | false => simp (maxSteps := 1000000) (implicitDefEqProofs := false) (disch := omega) [-getElem?_pos, c_spec_MapDrop, den_spec_ChainOk hL, den_l1Value, hok, hv, mapDrop, z65]
    | true =>
      cases hw : (wk f key 10 (-1) a).2.2.2 with
      | false => simp (maxSteps := 1000000) (implicitDefEqProofs := false) (disch := omega) [-getElem?_pos, c_spec_MapDrop, den_spec_ChainOk hL, den_l1Value, den_spec_walk hL _ _ f a key κ0 hc, wkS_f hw, hok, hv, hw, mapDrop, z65]
      | true =>
        cases hh : hasB f (wk f key 10 (-1) a).2.1 key with
        | false =>
          rcases hasB_neg hin hh with hn | ⟨q, hq, hq2, hk⟩
          · simp (maxSteps := 1000000) (implicitDefEqProofs := false) (disch := omega) [-getElem?_pos, c_spec_MapDrop, den_spec_ChainOk hL, den_l1Value, den_spec_walk hL _ _ f a key κ0 hc, wkS_t hw, hok, hv, hw, hh, mapDrop, hn, z65]
          · rw [hq] at hh
            simp (maxSteps := 1000000) (implicitDefEqProofs := false) (disch := omega) [-getElem?_pos, c_spec_MapDrop, den_spec_ChainOk hL, den_l1Value, den_spec_walk hL _ _ f a key κ0 hc, wkS_t hw, hok, hv, hw, hh, mapDrop, hq, hk, show ¬ ((q : Int) < 0) by omega, z65]
        | true =>
          obtain ⟨q, hq, hq2, hk⟩ := hasB_pos hin hh
          rw [hq] at hh
          by_cases ha : (wk f key 10 (-1) a).1 = -1
          · simp (maxSteps := 1000000) (implicitDefEqProofs := false) (disch := omega) [-getElem?_pos, c_spec_MapDrop, den_spec_ChainOk hL, den_l1Value, den_spec_walk hL _ _ f a key κ0 hc, wkS_t hw, hok, hv, hw, hq, hk, hh, mapDrop, show ¬ ((q : Int) < 0) by omega, z65, z4, ha, linkF, linkA]
          · obtain ⟨p, hp, hp2⟩ := inP_nat hah ha
            simp (maxSteps := 1000000) (implicitDefEqProofs := false) (disch := omega) [-getElem?_pos, c_spec_MapDrop, den_spec_ChainOk hL, den_l1Value, den_spec_walk hL _ _ f a key κ0 hc, wkS_t hw, hok, hv, hw, hq, hk, hh, mapDrop, show ¬ ((q : Int) < 0) by omega, z65, z4, hp, show ¬ ((p : Int) < 0) by omega, show ¬ ((p : Int) = -1) by omega, linkF, linkA]
theorem den_FnExactMapDrop (hL : 100 ≤ L) (k : Nat) (m : List Blk) (f : Nat → Nd) (a key : Int) : den T X L (k + 5) 12 [.agg (chn f a), vi key] m = some ⟨vb true, m, 0, 0⟩ := by
  rw [den_eq T_12]
  simp (maxSteps := 1000000) (implicitDefEqProofs := false) (disch := omega) [-getElem?_pos, c_laws_FnExactMapDrop, den_toChain hL (k + 1), den_spec_MapDrop hL, den_impl_MapDrop hL, den_eqChain hL (k + 1), outC, z65]
end Go.Proofs.Ytonkgmajfcpeeaa
