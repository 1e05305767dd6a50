/-
  The walks of chains, the program's and the reference's.
-/
import Derived.Test.YtonkgmajfcpeeaaCn
set_option linter.unusedVariables false
set_option linter.unusedSimpArgs false
set_option maxHeartbeats 4000000
namespace Go.Proofs.Ytonkgmajfcpeeaa
variable {X : FuncId → List V → List Blk → Option Ret} {L : Nat}

theorem den_impl_walk (hL : 100 ≤ L) (k : Nat) (m : List Blk) (f : Nat → Nd) (a key κ : Int) (hc : ch f κ a) :
    den T X L (k + 1) 64 [.agg (chn f a), vi key] m = some ⟨.tup [vi (wk f key 10 (-1) a).1, vi (wk f key 10 (-1) a).2.1, vi (wk f key 10 (-1) a).2.2.1, vb (wk f key 10 (-1) a).2.2.2], m, 0, 0⟩ := by
  rw [den_eq T_64]
  have hl := iter_blk (n0 := m.length) (id := 0) (ka := some [8, 9, 10]) (f := fun s => exec (den T X L k) L m.length none c_impl_Chain_walk_b0 s) (tr := trim m.length (some [1, 2, 8, 9, 10])) (σ := Nat × Int × Int × Int)
    (fun s => ⟨[(1, vi key), (2, .c (.ptr m.length 0 65)), (8, vi s.2.2.1), (9, vi s.2.2.2), (10, vi (10 - s.1))], m ++ [⟨chn f a, 31, 0, true⟩], 0, 0⟩)
    (fun s => s.1 ≤ 10 ∧ ch f s.2.1 s.2.2.2) (fun s => s.1)
    (fun s => if (wk f key s.1 s.2.2.1 s.2.2.2).2.2.2 = true then (.norm, ⟨[(8, vi (wk f key s.1 s.2.2.1 s.2.2.2).1), (9, vi (wk f key s.1 s.2.2.1 s.2.2.2).2.1), (10, vi (10 - s.1 + (wk f key s.1 s.2.2.1 s.2.2.2).2.2.1))], m, 0, 0⟩)
      else (.ret, ⟨[(4, vi (wk f key s.1 s.2.2.1 s.2.2.2).1), (5, vi (wk f key s.1 s.2.2.1 s.2.2.2).2.1), (6, vi (10 - s.1 + (wk f key s.1 s.2.2.1 s.2.2.2).2.2.1)), (7, vb false)], m, 0, 0⟩)) ?w
  case w =>
    rintro ⟨n, κ, ah, p⟩ ⟨hn, hc⟩
    simp only at hn hc
    by_cases hp : p = -1
    · subst hp
      refine ⟨.exit 0, _, by simp (maxSteps := 1000000) (implicitDefEqProofs := false) (disch := omega) [-getElem?_pos, c_impl_Chain_walk_b0]; rfl, ?_⟩
      simp (maxSteps := 1000000) (implicitDefEqProofs := false) (disch := omega) [-getElem?_pos, c_blkx, wk_end]
    · obtain ⟨q, rfl, hq, hu, hk, hn2⟩ := ch_nat hc hp
      have hp' : ¬ (q : Int) = -1 := hp
      cases n with
      | zero =>
        refine ⟨.ret, _, by simp (maxSteps := 1000000) (implicitDefEqProofs := false) (disch := omega) [-getElem?_pos, c_impl_Chain_walk_b0, hp']; rfl, ?_⟩
        simp (maxSteps := 1000000) (implicitDefEqProofs := false) (disch := omega) [-getElem?_pos, c_blkr, wk_zero hp]
      | succ n =>
        have h10 : ¬ (10 - ((n : Int) + 1)) = 10 := by omega
        by_cases hk : key ≤ (f q).a
        · refine ⟨.exit 0, _, by simp (maxSteps := 1000000) (implicitDefEqProofs := false) (disch := omega) [-getElem?_pos, c_impl_Chain_walk_b0, hp', h10, hk, ge_iff_le]; rfl, ?_⟩
          have hk' : key ≤ (f (q : Int).toNat).a := hk
          simp (maxSteps := 1000000) (implicitDefEqProofs := false) (disch := omega) [-getElem?_pos, c_blkx, wk_hit hp hk', show 10 - ((n : Int) + 1) + 1 = 10 - (n + 1 : Nat) + (1 : Nat) by omega]
        · refine ⟨.norm, _, by simp (maxSteps := 1000000) (implicitDefEqProofs := false) (disch := omega) [-getElem?_pos, c_impl_Chain_walk_b0, hp', h10, hk, ge_iff_le]; rfl, (n, (f q).a, q, (f q).c), ?_, ⟨by show n ≤ 10; omega, hn2⟩, by show n < n + 1; omega, ?_⟩
          · simp (maxSteps := 1000000) (implicitDefEqProofs := false) (disch := omega) [-getElem?_pos, show 10 - ((n : Int) + 1) + 1 = 10 - n by omega]
          · have hk' : ¬ key ≤ (f (q : Int).toNat).a := hk
            simp only [wk_go hp hk', Int.toNat_natCast]
            rw [show (10 - (n : Int) + ((wk f key n q (f q).c).2.2.1 : Nat)) = 10 - ((n + 1 : Nat) : Int) + (((wk f key n q (f q).c).2.2.1 + 1 : Nat)) by omega]
  have hle := wk_le (f := f) (key := key) 10 (-1) a
  simp (maxSteps := 1000000) (implicitDefEqProofs := false) (disch := omega) [-getElem?_pos, c_impl_Chain_walk]
  rw [hl L (10, κ, -1, a) _ ⟨Nat.le_refl _, hc⟩ ?tr (by show 10 < L; omega)]
  case tr => simp (maxSteps := 1000000) (implicitDefEqProofs := false) (disch := omega) [-getElem?_pos]
  cases h : (wk f key 10 (-1) a).2.2.2 with
  | true => simp (maxSteps := 1000000) (implicitDefEqProofs := false) (disch := omega) [-getElem?_pos, h]
  | false => simp (maxSteps := 1000000) (implicitDefEqProofs := false) (disch := omega) [-getElem?_pos, h]

/-- What the reference's walk tells. -/
def wkS (r : Int × Int × Nat × Bool) : V := if r.2.2.2 = true then .tup [vi r.2.1, vi r.1, vi r.2.2.1, vb true] else .tup [vi 0, vi 0, vi r.2.2.1, vb false]
theorem den_spec_walk (hL : 100 ≤ L) (k : Nat) (m : List Blk) (f : Nat → Nd) (a key κ : Int) (hc : ch f κ a) :
    den T X L (k + 1) 63 [.agg (chn f a), vi key] m = some ⟨wkS (wk f key 10 (-1) a), m, 0, 0⟩ := by
  rw [den_eq T_63]
  have hl := iter_blk (n0 := m.length) (id := 0) (ka := some [8, 9]) (f := fun s => exec (den T X L k) L m.length none c_spec_l13Walk_b0 s) (tr := trim m.length (some [1, 2, 8, 9, 10])) (σ := Nat × Int × Int × Int)
    (fun s => ⟨[(1, vi key), (2, .c (.ptr m.length 0 65)), (8, vi s.2.2.1), (9, vi (10 - s.1)), (10, vi s.2.2.2)], m ++ [⟨chn f a, 31, 0, true⟩], 0, 0⟩)
    (fun s => s.1 ≤ 10 ∧ ch f s.2.1 s.2.2.2) (fun s => s.1)
    (fun s => if (wk f key s.1 s.2.2.1 s.2.2.2).2.2.2 = true then
        (if (wk f key s.1 s.2.2.1 s.2.2.2).2.1 = -1 then (.norm, ⟨[(8, vi (wk f key s.1 s.2.2.1 s.2.2.2).1), (9, vi (10 - s.1 + (wk f key s.1 s.2.2.1 s.2.2.2).2.2.1))], m, 0, 0⟩)
          else (.ret, ⟨[(4, vi (wk f key s.1 s.2.2.1 s.2.2.2).2.1), (5, vi (wk f key s.1 s.2.2.1 s.2.2.2).1), (6, vi (10 - s.1 + (wk f key s.1 s.2.2.1 s.2.2.2).2.2.1)), (7, vb true)], m, 0, 0⟩))
      else (.ret, ⟨[(4, vi 0), (5, vi 0), (6, vi (10 - s.1 + (wk f key s.1 s.2.2.1 s.2.2.2).2.2.1)), (7, vb false)], m, 0, 0⟩)) ?w
  case w =>
    rintro ⟨n, κ, ah, p⟩ ⟨hn, hc⟩
    simp only at hn hc
    by_cases hp : p = -1
    · subst hp
      refine ⟨.exit 0, _, by simp (maxSteps := 1000000) (implicitDefEqProofs := false) (disch := omega) [-getElem?_pos, c_spec_l13Walk_b0]; rfl, ?_⟩
      simp (maxSteps := 1000000) (implicitDefEqProofs := false) (disch := omega) [-getElem?_pos, c_blkx, wk_end]
    · obtain ⟨q, rfl, hq, hu, hk, hn2⟩ := ch_nat hc hp
      have hp' : ¬ (q : Int) = -1 := hp
      cases n with
      | zero =>
        refine ⟨.ret, _, by simp (maxSteps := 1000000) (implicitDefEqProofs := false) (disch := omega) [-getElem?_pos, c_spec_l13Walk_b0, hp']; rfl, ?_⟩
        simp (maxSteps := 1000000) (implicitDefEqProofs := false) (disch := omega) [-getElem?_pos, c_blkr, wk_zero hp]
      | succ n =>
        have h10 : ¬ (10 - ((n : Int) + 1)) = 10 := by omega
        by_cases hk : key ≤ (f q).a
        · refine ⟨.ret, _, by simp (maxSteps := 1000000) (implicitDefEqProofs := false) (disch := omega) [-getElem?_pos, c_spec_l13Walk_b0, hp', h10, hk, ge_iff_le]; rfl, ?_⟩
          have hk' : key ≤ (f (q : Int).toNat).a := hk
          simp (maxSteps := 1000000) (implicitDefEqProofs := false) (disch := omega) [-getElem?_pos, c_blkr, wk_hit hp hk', hp']
        · refine ⟨.norm, _, by simp (maxSteps := 1000000) (implicitDefEqProofs := false) (disch := omega) [-getElem?_pos, c_spec_l13Walk_b0, hp', h10, hk, ge_iff_le]; rfl, (n, (f q).a, q, (f q).c), ?_, ⟨by show n ≤ 10; omega, hn2⟩, by show n < n + 1; omega, ?_⟩
          · simp (maxSteps := 1000000) (implicitDefEqProofs := false) (disch := omega) [-getElem?_pos, show 10 - ((n : Int) + 1) + 1 = 10 - n by omega]
          · have hk' : ¬ key ≤ (f (q : Int).toNat).a := hk
            simp only [wk_go hp hk', Int.toNat_natCast]
            rw [show (10 - (n : Int) + ((wk f key n q (f q).c).2.2.1 : Nat)) = 10 - ((n + 1 : Nat) : Int) + (((wk f key n q (f q).c).2.2.1 + 1 : Nat)) by omega]
  have hle := wk_le (f := f) (key := key) 10 (-1) a
  unfold wkS
  simp (maxSteps := 1000000) (implicitDefEqProofs := false) (disch := omega) [-getElem?_pos, c_spec_l13Walk]
  rw [hl L (10, κ, -1, a) _ ⟨Nat.le_refl _, hc⟩ ?tr (by show 10 < L; omega)]
  case tr => simp (maxSteps := 1000000) (implicitDefEqProofs := false) (disch := omega) [-getElem?_pos]
  cases h : (wk f key 10 (-1) a).2.2.2 with
  | true =>
    by_cases h2 : (wk f key 10 (-1) a).2.1 = -1
    · simp (maxSteps := 1000000) (implicitDefEqProofs := false) (disch := omega) [-getElem?_pos, h, h2]
    · simp (maxSteps := 1000000) (implicitDefEqProofs := false) (disch := omega) [-getElem?_pos, h, h2]
  | false => simp (maxSteps := 1000000) (implicitDefEqProofs := false) (disch := omega) [-getElem?_pos, h]
end Go.Proofs.Ytonkgmajfcpeeaa
