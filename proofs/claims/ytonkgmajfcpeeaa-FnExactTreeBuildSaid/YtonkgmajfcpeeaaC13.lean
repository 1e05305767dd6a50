/-
  Chains: the law of ranges.
-/
import Derived.Test.YtonkgmajfcpeeaaC12
set_option linter.unusedVariables false
set_option linter.unusedSimpArgs false
set_option maxHeartbeats 4000000
namespace Go.Proofs.Ytonkgmajfcpeeaa
variable {X : FuncId → List V → List Blk → Option Ret} {L : Nat}

theorem eqI_n (k : Nat) (m : List Blk) (b : Nat) (h : m[b]? = some (blkI [])) (hL : 100 ≤ L) : den T X L (k + 1) 25 [.c .nils, .c (.sl b 0 0 0)] m = some ⟨vb true, m, 0, 0⟩ := by
  have := den_eqIntS (X := X) (L := L) k m .nils _ [] [] (.inl ⟨rfl, rfl⟩) (live_ints h) (by simp; omega) (by simp)
  simpa using this
theorem den_FnExactMapRange (hL : 100 ≤ L) (k : Nat) (m : List Blk) (f : Nat → Nd) (a lo hi : Int) : den T X L (k + 6) 10 [.agg (chn f a), vi lo, vi hi] m = some ⟨vb true, m, 0, 0⟩ := by
  rw [den_eq T_10]
  cases hok : chainOk f a with
  | false => simp (maxSteps := 1000000) (implicitDefEqProofs := false) (disch := first | omega | (simp [get_app, get_app0]; done) | rfl) [-getElem?_pos, c_laws_FnExactMapRange, den_toChain hL (k + 2), den_spec_MapRange hL, den_impl_MapRange hL, outRI, outRS, hok, eqI_n (k + 4), den_markNil hL (k + 4), den_heldNil hL (k + 4), z65]
  | true =>
    have hlen := rgL_len (lo := lo) (hi := hi) (ch_of hok)
    cases hb : (rgL f a lo hi).2 with
    | false => simp (maxSteps := 1000000) (implicitDefEqProofs := false) (disch := first | omega | (simp [get_app, get_app0]; done) | rfl) [-getElem?_pos, c_laws_FnExactMapRange, den_toChain hL (k + 2), den_spec_MapRange hL, den_impl_MapRange hL, outRI, outRS, hok, hb, eqI_n (k + 4), den_markNil hL (k + 4), den_heldNil hL (k + 4), z65]
    | true =>
      generalize hr : (rgL f a lo hi).1 = r at hlen
      by_cases hn : r.length = 0
      · obtain rfl : r = [] := List.length_eq_zero_iff.1 hn
        simp (maxSteps := 1000000) (implicitDefEqProofs := false) (disch := first | omega | (simp [get_app, get_app0]; done) | rfl) [-getElem?_pos, c_laws_FnExactMapRange, den_toChain hL (k + 2), den_spec_MapRange hL, den_impl_MapRange hL, outRI, outRS, hok, hb, hr, eqI_b (k + 4) _ _ _ _ [], markZ_b hL (k + 4), heldZ_b hL (k + 4), z65]
      · simp (maxSteps := 1000000) (implicitDefEqProofs := false) (disch := first | omega | (simp [get_app, get_app0]; done) | rfl) [-getElem?_pos, c_laws_FnExactMapRange, den_toChain hL (k + 2), den_spec_MapRange hL, den_impl_MapRange hL, outRI, outRS, hok, hb, hr, eqI_b (k + 4) _ _ _ _ r, markI_b (k + 4) _ _ _ _ r, heldI_b (k + 4), z65]
        rw [if_neg (by omega), if_neg (by omega)]
end Go.Proofs.Ytonkgmajfcpeeaa
