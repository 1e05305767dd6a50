/-
  What is done with chains: got, put, dropped.
-/
import Derived.Test.YtonkgmajfcpeeaaC4
import Derived.Test.YtonkgmajfcpeeaaC3
import Derived.Test.YtonkgmajfcpeeaaC2
set_option linter.unusedVariables false
set_option linter.unusedSimpArgs false
set_option maxHeartbeats 4000000
namespace Go.Proofs.Ytonkgmajfcpeeaa
variable {X : FuncId → List V → List Blk → Option Ret} {L : Nat}

theorem znd (u : Bool) (a b c : Int) : [C.bool u, .int .i64 a, .int .i64 b, .int .i64 c] = nd ⟨u, a, b, c⟩ := rfl
def inP (p : Int) : Prop := p = -1 ∨ (0 ≤ p ∧ p ≤ 15)
theorem inP_nat {p : Int} (h : inP p) (hp : p ≠ -1) : ∃ q : Nat, p = q ∧ q < 16 := by
  rcases h with h | h
  · exact absurd h hp
  · exact ⟨p.toNat, by omega, by omega⟩
def hasB (f : Nat → Nd) (p key : Int) : Bool := decide (p ≠ -1) && decide ((f p.toNat).a = key)
theorem den_has (k : Nat) (m : List Blk) (f : Nat → Nd) (a p key : Int) (hp : inP p) :
    den T X L (k + 1) 65 [.agg (chn f a), vi p, vi key] m = some ⟨vb (hasB f p key), m, 0, 0⟩ := by
  rw [den_eq T_65]
  by_cases h : p = -1
  · simp (maxSteps := 1000000) (implicitDefEqProofs := false) (disch := omega) [-getElem?_pos, c_impl_Chain_has, h, hasB]
  · obtain ⟨q, rfl, hq⟩ := inP_nat hp h
    have h' : ¬ (q : Int) = -1 := h
    simp (maxSteps := 1000000) (implicitDefEqProofs := false) (disch := omega) [-getElem?_pos, c_impl_Chain_has, h', hasB]

def linkF (f : Nat → Nd) (ah p : Int) : Nat → Nd := if ah = -1 then f else upd f ah.toNat { f ah.toNat with c := p }
def linkA (a ah p : Int) : Int := if ah = -1 then p else a
theorem den_link (k : Nat) (m : List Blk) (b : Nat) (f : Nat → Nd) (a ah p : Int) (hb : live m b 65 = some ⟨chn f a, 31, 0, true⟩) (ha : inP ah) :
    den T X L (k + 1) 69 [.c (.ptr b 0 65), vi ah, vi p] m = some ⟨.tup [], m.set b ⟨chn (linkF f ah p) (linkA a ah p), 31, 0, true⟩, 0, m.length - b⟩ := by
  have hlt : b < m.length := by
    unfold live at hb
    simp only [Option.bind_eq_some_iff] at hb
    obtain ⟨blk, h1, _⟩ := hb
    exact (List.getElem?_eq_some_iff.1 h1).1
  have hw : ¬ m.length - b = 0 := by omega
  rw [den_eq T_69]
  by_cases h : ah = -1
  · simp (maxSteps := 1000000) (implicitDefEqProofs := false) (disch := omega) [-getElem?_pos, c_impl_Chain_link, h, hb, linkF, linkA, hw]
  · obtain ⟨q, rfl, hq⟩ := inP_nat ha h
    have h' : ¬ (q : Int) = -1 := h
    simp (maxSteps := 1000000) (implicitDefEqProofs := false) (disch := omega) [-getElem?_pos, c_impl_Chain_link, h', hb, linkF, linkA, hw]

/-! ### Got -/
def mapGet (f : Nat → Nd) (a key : Int) : Int × Int × Int :=
  if chainOk f a = true ∧ isVal key = true then
    if (wk f key 10 (-1) a).2.2.2 = true then
      if hasB f (wk f key 10 (-1) a).2.1 key = true then ((f (wk f key 10 (-1) a).2.1.toNat).b, (wk f key 10 (-1) a).2.2.1, 0) else (0, (wk f key 10 (-1) a).2.2.1, 4)
    else (0, (wk f key 10 (-1) a).2.2.1, 2)
  else (0, 0, 1)
theorem den_impl_MapGet (hL : 100 ≤ L) (k : Nat) (m : List Blk) (f : Nat → Nd) (a key : Int) :
    den T X L (k + 4) 33 [.agg (chn f a), vi key] m = some ⟨.tup [vi (mapGet f a key).1, vi (mapGet f a key).2.1, vi (mapGet f a key).2.2], m, 0, 0⟩ := by
  rw [den_eq T_33]
  cases hok : chainOk f a with
  | false => simp (maxSteps := 1000000) (implicitDefEqProofs := false) (disch := omega) [-getElem?_pos, c_impl_MapGet, den_impl_ChainOk hL, hok, mapGet]
  | true =>
    have hc := ch_of hok
    obtain ⟨hin, _⟩ := wk_in (key := key) 10 κ0 (-1) a hc (.inl rfl)
    cases hv : isVal key with
    | false => simp (maxSteps := 1000000) (implicitDefEqProofs := false) (disch := omega) [-getElem?_pos, c_impl_MapGet, den_impl_ChainOk hL, den_isValue, hok, hv, mapGet]
    | true =>
      cases hw : (wk f key 10 (-1) a).2.2.2 with
      | false => simp (maxSteps := 1000000) (implicitDefEqProofs := false) (disch := omega) [-getElem?_pos, c_impl_MapGet, den_impl_ChainOk hL, den_isValue, den_impl_walk hL _ _ f a key κ0 hc, hok, hv, hw, mapGet]
      | true =>
        cases hh : hasB f (wk f key 10 (-1) a).2.1 key with
        | false => simp (maxSteps := 1000000) (implicitDefEqProofs := false) (disch := omega) [-getElem?_pos, c_impl_MapGet, den_impl_ChainOk hL, den_isValue, den_impl_walk hL _ _ f a key κ0 hc, den_has _ _ f a _ key hin, hok, hv, hw, hh, mapGet]
        | true =>
          have hne : (wk f key 10 (-1) a).2.1 ≠ -1 := by simp only [hasB, Bool.and_eq_true, decide_eq_true_eq] at hh; exact hh.1
          obtain ⟨q, hq, hq2⟩ := inP_nat hin hne
          rw [hq] at hh hin
          simp (maxSteps := 1000000) (implicitDefEqProofs := false) (disch := omega) [-getElem?_pos, c_impl_MapGet, den_impl_ChainOk hL, den_isValue, den_impl_walk hL _ _ f a key κ0 hc, den_has _ _ f a _ key hin, hok, hv, hw, hq, hh, mapGet]

theorem wkS_t {r : Int × Int × Nat × Bool} (h : r.2.2.2 = true) : wkS r = .tup [vi r.2.1, vi r.1, vi r.2.2.1, vb true] := by simp [wkS, h]
theorem wkS_f {r : Int × Int × Nat × Bool} (h : r.2.2.2 = false) : wkS r = .tup [vi 0, vi 0, vi r.2.2.1, vb false] := by simp [wkS, h]
theorem hasB_neg {f : Nat → Nd} {p key : Int} (hp : inP p) (h : hasB f p key = false) : p < 0 ∨ (∃ q : Nat, p = q ∧ q < 16 ∧ ¬ (f q).a = key) := by
  rcases hp with hp | hp
  · left; omega
  · right
    refine ⟨p.toNat, by omega, by omega, fun hk => ?_⟩
    simp only [hasB, hk, decide_true, Bool.and_true, decide_eq_false_iff_not] at h
    omega
theorem hasB_pos {f : Nat → Nd} {p key : Int} (hp : inP p) (h : hasB f p key = true) : ∃ q : Nat, p = q ∧ q < 16 ∧ (f q).a = key := by
  simp only [hasB, Bool.and_eq_true, decide_eq_true_eq] at h
  rcases hp with hp | hp
  · exact absurd hp h.1
  · exact ⟨p.toNat, by omega, by omega, h.2⟩
theorem den_spec_MapGet (hL : 100 ≤ L) (k : Nat) (m : List Blk) (f : Nat → Nd) (a key : Int) :
    den T X L (k + 4) 32 [.agg (chn f a), vi key] m = some ⟨.tup [vi (mapGet f a key).1, vi (mapGet f a key).2.1, vi (mapGet f a key).2.2], m, 0, 0⟩ := by
  rw [den_eq T_32]
  cases hok : chainOk f a with
  | false => simp (maxSteps := 1000000) (implicitDefEqProofs := false) (disch := omega) [-getElem?_pos, c_spec_MapGet, den_spec_ChainOk hL, hok, mapGet]
  | true =>
    have hc := ch_of hok
    obtain ⟨hin, _⟩ := wk_in (key := key) 10 κ0 (-1) a hc (.inl rfl)
    cases hv : isVal key with
    | false => simp (maxSteps := 1000000) (implicitDefEqProofs := false) (disch := omega) [-getElem?_pos, c_spec_MapGet, den_spec_ChainOk hL, den_l1Value, hok, hv, mapGet]
    | true =>
      cases hw : (wk f key 10 (-1) a).2.2.2 with
      | false => simp (maxSteps := 1000000) (implicitDefEqProofs := false) (disch := omega) [-getElem?_pos, c_spec_MapGet, den_spec_ChainOk hL, den_l1Value, den_spec_walk hL _ _ f a key κ0 hc, wkS_f hw, hok, hv, hw, mapGet]
      | true =>
        cases hh : hasB f (wk f key 10 (-1) a).2.1 key with
        | false =>
          rcases hasB_neg hin hh with hn | ⟨q, hq, hq2, hk⟩
          · simp (maxSteps := 1000000) (implicitDefEqProofs := false) (disch := omega) [-getElem?_pos, c_spec_MapGet, den_spec_ChainOk hL, den_l1Value, den_spec_walk hL _ _ f a key κ0 hc, wkS_t hw, hok, hv, hw, hh, mapGet, hn]
          · rw [hq] at hh
            simp (maxSteps := 1000000) (implicitDefEqProofs := false) (disch := omega) [-getElem?_pos, c_spec_MapGet, den_spec_ChainOk hL, den_l1Value, den_spec_walk hL _ _ f a key κ0 hc, wkS_t hw, hok, hv, hw, hh, mapGet, hq, hk, show ¬ ((q : Int) < 0) by omega]
        | true =>
          obtain ⟨q, hq, hq2, hk⟩ := hasB_pos hin hh
          rw [hq] at hh
          simp (maxSteps := 1000000) (implicitDefEqProofs := false) (disch := omega) [-getElem?_pos, c_spec_MapGet, den_spec_ChainOk hL, den_l1Value, den_spec_walk hL _ _ f a key κ0 hc, wkS_t hw, hok, hv, hw, hq, hk, hh, mapGet, show ¬ ((q : Int) < 0) by omega]
end Go.Proofs.Ytonkgmajfcpeeaa
