/-
  RingTurn, the program's and the reference's.
-/
import Derived.Test.YtkoloapgeilbdaaR5
set_option linter.unusedVariables false
set_option linter.unusedSimpArgs false
namespace Go.Proofs.Ytkoloapgeilbdaa
variable {X : FuncId → List V → List Blk → Option Ret} {L : Nat}

def rpt {α : Type} (f : α → α) : Nat → α → α
  | 0, x => x
  | n + 1, x => f (rpt f n x)
theorem rpt_fix {α : Type} {f : α → α} {x : α} {j : Nat} (h : f (rpt f j x) = rpt f j x) : ∀ d, rpt f (j + d) x = rpt f j x
  | 0 => rfl
  | d + 1 => by rw [← Nat.add_assoc]; show f (rpt f (j + d) x) = _; rw [rpt_fix h d, h]

abbrev R3 := (Nat → Int) × Int × Int
def rot (r : R3) : R3 := if (ringTake r.1 r.2.1 r.2.2).2.2 = 0 then
  (ringPut (ringTake r.1 r.2.1 r.2.2).1.1 (ringTake r.1 r.2.1 r.2.2).1.2.1 (ringTake r.1 r.2.1 r.2.2).1.2.2 (ringTake r.1 r.2.1 r.2.2).2.1).1 else r
def ringTurn (r : R3) (n : Int) : R3 × Int := if ringOk r.1 r.2.1 r.2.2 = false ∨ inB n 0 1000 = false then (r, 1) else (rpt rot n.toNat r, 0)

theorem den_impl_RingTurn (hL : 2000 ≤ L) (k : Nat) (m : List Blk) (r : R3) (n : Int) :
    den T X L (k + 9) 43 [.agg (ringV r), vi n] m = some ⟨.tup [.agg (ringV (ringTurn r n).1), vi (ringTurn r n).2], m, 0, 0⟩ := by
  rw [den_eq T_43]
  have e := fun m => den_impl_RingOk (X := X) (show 100 ≤ L by omega) (k + 1) m r.1 r.2.1 r.2.2
  unfold ringTurn
  cases ho : ringOk r.1 r.2.1 r.2.2 with
  | false => rw [ho] at e; simp (maxSteps := 1000000) (implicitDefEqProofs := false) (disch := omega) [-getElem?_pos, c_impl_RingTurn, e, z10]
  | true =>
    rw [ho] at e
    cases hn : inB n 0 1000 with
    | false => simp (maxSteps := 1000000) (implicitDefEqProofs := false) (disch := omega) [-getElem?_pos, c_impl_RingTurn, e, z10, den_in, hn]
    | true =>
      have hn' := inB_iff.mp hn
      obtain ⟨q, rfl⟩ : ∃ q : Nat, n = q := ⟨n.toNat, by omega⟩
      have e1 := fun m f a b => den_impl_RingTake (X := X) (show 100 ≤ L by omega) k m f a b
      have e2 := fun m f a b v => den_impl_RingPut (X := X) (show 100 ≤ L by omega) k m f a b v
      have hl := iter_up (f := fun s => exec (den T X L (k + 8)) L m.length none c_impl_RingTurn_b0 s) (tr := trim m.length (some [2, 4, 18, 19]))
        (fun i => ⟨[(2, .c (.ptr m.length 0 10)), (4, .c (.ptr (m.length + 1) 0 10)), (18, vi q), (19, vi i)], m ++ [⟨ringV (rpt rot i r), 32, 0, true⟩, ⟨ar 8 (fun _ => 0) ++ [ci 0, ci 0], 32, 0, true⟩], 0, 0⟩) q ?s1
        ⟨0, _, by simp (maxSteps := 1000000) (implicitDefEqProofs := false) (disch := omega) [-getElem?_pos, c_impl_RingTurn_b0, show ¬ ((q : Nat) : Int) < (q : Int) by omega]; rfl⟩
      case s1 =>
        intro i hi
        by_cases hc : (ringTake (rpt rot i r).1 (rpt rot i r).2.1 (rpt rot i r).2.2).2.2 = 0
        · refine ⟨_, by simp (maxSteps := 1000000) (implicitDefEqProofs := false) (disch := omega) [-getElem?_pos, c_impl_RingTurn_b0, show (i : Int) < (q : Int) by omega, e1, e2, hc, z10]; rfl, ?_⟩
          simp (maxSteps := 1000000) (implicitDefEqProofs := false) (disch := omega) [-getElem?_pos, rpt, show rot (rpt rot i r) = _ from if_pos hc]
        · refine ⟨_, by simp (maxSteps := 1000000) (implicitDefEqProofs := false) (disch := omega) [-getElem?_pos, c_impl_RingTurn_b0, show (i : Int) < (q : Int) by omega, e1, e2, hc, z10]; rfl, ?_⟩
          simp (maxSteps := 1000000) (implicitDefEqProofs := false) (disch := omega) [-getElem?_pos, rpt, show rot (rpt rot i r) = _ from if_neg hc]
      simp (maxSteps := 1000000) (implicitDefEqProofs := false) (disch := omega) [-getElem?_pos, c_impl_RingTurn, e, z10, den_in, hn]
      rw [hl L 0 _ ?tr (by omega) (by omega)]
      case tr => simp (maxSteps := 1000000) (implicitDefEqProofs := false) (disch := omega) [-getElem?_pos, ar_refs, refs_append, refsL, rpt]
      simp (maxSteps := 1000000) (implicitDefEqProofs := false) (disch := omega) [-getElem?_pos, c_impl_RingTurn_b0, show ¬ ((q : Nat) : Int) < (q : Int) by omega]

theorem rot_fix {r : R3} (h : ¬ 0 < r.2.2) : rot r = r := by
  unfold rot ringTake
  cases ho : ringOk r.1 r.2.1 r.2.2 with
  | false => simp
  | true =>
    have := ringOk_bounds ho
    have h0 : r.2.2 = 0 := by omega
    simp [h0]
theorem rot_step {r : R3} (h : 0 < r.2.2) : rot r = (ringPut (ringTake r.1 r.2.1 r.2.2).1.1 (ringTake r.1 r.2.1 r.2.2).1.2.1 (ringTake r.1 r.2.1 r.2.2).1.2.2 (ringTake r.1 r.2.1 r.2.2).2.1).1 := by
  unfold rot
  split
  · rfl
  · rename_i hc
    cases ho : ringOk r.1 r.2.1 r.2.2 with
    | false => simp [ringTake, ringPut, ho]
    | true =>
      exfalso
      apply hc
      simp [ringTake, ho, show ¬ r.2.2 = 0 by omega]

end Go.Proofs.Ytkoloapgeilbdaa
