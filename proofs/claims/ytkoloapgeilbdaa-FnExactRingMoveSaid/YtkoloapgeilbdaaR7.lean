/-
  Rings: listed, moved; the laws.
-/
import Derived.Test.YtkoloapgeilbdaaR6
import Derived.Test.YtkoloapgeilbdaaS1
set_option linter.unusedVariables false
set_option linter.unusedSimpArgs false
set_option maxHeartbeats 4000000
namespace Go.Proofs.Ytkoloapgeilbdaa
variable {X : FuncId → List V → List Blk → Option Ret} {L : Nat}

def rl (f : Nat → Int) (a : Int) (n : Nat) : List Int := (List.range n).map fun (i : Nat) => f (ix8 a i)
theorem rl_len (f : Nat → Int) (a : Int) (n : Nat) : (rl f a n).length = n := by simp [rl]
theorem rl_snoc (f : Nat → Int) (a : Int) (n : Nat) : rl f a n ++ [f ((a + n) % 8).toNat] = rl f a (n + 1) := by simp [rl, List.range_succ, ix8]
def ringList (f : Nat → Int) (a b : Int) : List Int := if ringOk f a b = true then rl f a b.toNat else []
theorem ringList_len (f : Nat → Int) (a b : Int) : (ringList f a b).length ≤ 8 := by
  unfold ringList
  split
  · rename_i h
    have := ringOk_bounds h
    rw [rl_len]; omega
  · exact Nat.zero_le _
def outI (m : List Blk) (l : List Int) : Ret := ⟨.c (.sl m.length 0 l.length l.length), m ++ [blkI l], 0, 0⟩
theorem den_impl_RingList (hL : 100 ≤ L) (k : Nat) (m : List Blk) (f : Nat → Int) (a b : Int) : den T X L (k + 8) 22 [.agg (ring f a b)] m = some (outI m (ringList f a b)) := by
  rw [den_eq T_22]
  have e := fun m => den_impl_RingOk (X := X) hL k m f a b
  unfold outI ringList
  cases ho : ringOk f a b with
  | false => rw [ho] at e; simp (maxSteps := 1000000) (implicitDefEqProofs := false) (disch := omega) [-getElem?_pos, c_impl_RingList, e, ints]
  | true =>
    rw [ho] at e
    obtain ⟨h1, h2, h3, h4⟩ := ringOk_bounds ho
    obtain ⟨n, rfl⟩ : ∃ n : Nat, b = n := ⟨b.toNat, by omega⟩
    have hl := iter_blk (n0 := m.length) (id := 0) (ka := some [3]) (f := fun s => exec (den T X L (k + 7)) L m.length none c_impl_RingList_b0 s) (tr := trim m.length (some [1, 3, 11, 12])) (σ := Nat)
      (fun i => ⟨[(1, .c (.ptr m.length 0 10)), (3, .c (.sl (m.length + 1) 0 i i)), (11, vi n), (12, vi i)], m ++ [⟨ring f a n, 32, 0, true⟩, blkI (rl f a i)], 0, 0⟩) (fun i => i ≤ n) (fun i => n - i)
      (fun i => (.norm, ⟨[(3, .c (.sl (m.length + 1) 0 n n))], m ++ [⟨ring f a n, 32, 0, true⟩, blkI (rl f a n)], 0, 0⟩)) ?w
    case w =>
      intro i hi
      by_cases he : i = n
      · subst he
        refine ⟨.exit 0, _, by simp (maxSteps := 1000000) (implicitDefEqProofs := false) (disch := omega) [-getElem?_pos, c_impl_RingList_b0]; rfl, ?_⟩
        simp (maxSteps := 1000000) (implicitDefEqProofs := false) (disch := omega) [-getElem?_pos, c_blkx]
      · have hi' : (i : Int) < (n : Int) := by omega
        refine ⟨.norm, _, by simp (maxSteps := 1000000) (implicitDefEqProofs := false) (disch := omega) [-getElem?_pos, c_impl_RingList_b0, hi', rl_len, ints_len, ints_snoc, rl_snoc]; rfl, i + 1, ?_, by omega, by omega, rfl⟩
        simp (maxSteps := 1000000) (implicitDefEqProofs := false) (disch := omega) [-getElem?_pos]
    simp (maxSteps := 1000000) (implicitDefEqProofs := false) (disch := omega) [-getElem?_pos, c_impl_RingList, e]
    rw [hl L 0 _ (Nat.zero_le _) ?tr (by show n - 0 < L; omega)]
    case tr => simp (maxSteps := 1000000) (implicitDefEqProofs := false) (disch := omega) [-getElem?_pos, rl, ints, refsL, ar_refs]
    simp (maxSteps := 1000000) (implicitDefEqProofs := false) (disch := omega) [-getElem?_pos, rl_len, Int.toNat_natCast]
theorem den_spec_RingList (hL : 100 ≤ L) (k : Nat) (m : List Blk) (f : Nat → Int) (a b : Int) : den T X L (k + 4) 20 [.agg (ring f a b)] m = some (outI m (ringList f a b)) := by
  rw [den_eq T_20]
  have e := fun m => den_spec_RingOk (X := X) hL k m f a b
  unfold outI ringList
  cases ho : ringOk f a b with
  | false =>
    rw [ho] at e
    have hl := iter_blk (n0 := m.length) (id := 0) (ka := some [3]) (f := fun s => exec (den T X L (k + 3)) L m.length none c_spec_RingList_b0 s) (tr := trim m.length (some [1, 3, 4])) (σ := Unit)
      (fun _ => ⟨[(1, .c (.ptr m.length 0 10)), (3, .c (.sl (m.length + 1) 0 0 0)), (4, vi 0)], m ++ [⟨ring f a b, 32, 0, true⟩, blkI []], 0, 0⟩) (fun _ => True) (fun _ => 0)
      (fun _ => (.norm, ⟨[(3, .c (.sl (m.length + 1) 0 0 0))], m ++ [⟨ring f a b, 32, 0, true⟩, blkI []], 0, 0⟩)) ?w
    case w =>
      intro _ _
      by_cases hb : 0 < b
      · refine ⟨.exit 0, _, by simp (maxSteps := 1000000) (implicitDefEqProofs := false) (disch := omega) [-getElem?_pos, c_spec_RingList_b0, e, hb]; rfl, ?_⟩
        simp (maxSteps := 1000000) (implicitDefEqProofs := false) (disch := omega) [-getElem?_pos, c_blkx]
      · refine ⟨.exit 0, _, by simp (maxSteps := 1000000) (implicitDefEqProofs := false) (disch := omega) [-getElem?_pos, c_spec_RingList_b0, e, hb]; rfl, ?_⟩
        simp (maxSteps := 1000000) (implicitDefEqProofs := false) (disch := omega) [-getElem?_pos, c_blkx]
    simp (maxSteps := 1000000) (implicitDefEqProofs := false) (disch := omega) [-getElem?_pos, c_spec_RingList]
    rw [hl L () _ trivial ?tr (by show 0 < L; omega)]
    case tr => simp (maxSteps := 1000000) (implicitDefEqProofs := false) (disch := omega) [-getElem?_pos, ints, refsL, ar_refs]
    simp (maxSteps := 1000000) (implicitDefEqProofs := false) (disch := omega) [-getElem?_pos, ints]
  | true =>
    rw [ho] at e
    obtain ⟨h1, h2, h3, h4⟩ := ringOk_bounds ho
    obtain ⟨n, rfl⟩ : ∃ n : Nat, b = n := ⟨b.toNat, by omega⟩
    have hl := iter_blk (n0 := m.length) (id := 0) (ka := some [3]) (f := fun s => exec (den T X L (k + 3)) L m.length none c_spec_RingList_b0 s) (tr := trim m.length (some [1, 3, 4])) (σ := Nat)
      (fun i => ⟨[(1, .c (.ptr m.length 0 10)), (3, .c (.sl (m.length + 1) 0 i i)), (4, vi i)], m ++ [⟨ring f a n, 32, 0, true⟩, blkI (rl f a i)], 0, 0⟩) (fun i => i ≤ n) (fun i => n - i)
      (fun i => (.norm, ⟨[(3, .c (.sl (m.length + 1) 0 n n))], m ++ [⟨ring f a n, 32, 0, true⟩, blkI (rl f a n)], 0, 0⟩)) ?w
    case w =>
      intro i hi
      by_cases he : i = n
      · subst he
        refine ⟨.exit 0, _, by simp (maxSteps := 1000000) (implicitDefEqProofs := false) (disch := omega) [-getElem?_pos, c_spec_RingList_b0]; rfl, ?_⟩
        simp (maxSteps := 1000000) (implicitDefEqProofs := false) (disch := omega) [-getElem?_pos, c_blkx]
      · have hi' : (i : Int) < (n : Int) := by omega
        refine ⟨.norm, _, by simp (maxSteps := 1000000) (implicitDefEqProofs := false) (disch := omega) [-getElem?_pos, c_spec_RingList_b0, hi', e, rl_len, ints_len, ints_snoc, rl_snoc]; rfl, i + 1, ?_, by omega, by omega, rfl⟩
        simp (maxSteps := 1000000) (implicitDefEqProofs := false) (disch := omega) [-getElem?_pos]
    simp (maxSteps := 1000000) (implicitDefEqProofs := false) (disch := omega) [-getElem?_pos, c_spec_RingList]
    rw [hl L 0 _ (Nat.zero_le _) ?tr (by show n - 0 < L; omega)]
    case tr => simp (maxSteps := 1000000) (implicitDefEqProofs := false) (disch := omega) [-getElem?_pos, rl, ints, refsL, ar_refs]
    simp (maxSteps := 1000000) (implicitDefEqProofs := false) (disch := omega) [-getElem?_pos, rl_len, Int.toNat_natCast]
theorem den_FnExactRingList (hL : 100 ≤ L) (k : Nat) (m : List Blk) (f : Nat → Int) (a b : Int) : den T X L (k + 9) 4 [.agg (ring f a b)] m = some ⟨vb true, m, 0, 0⟩ := by
  rw [den_eq T_4]
  have hlen := ringList_len f a b
  have e1 := fun m => den_toRing (X := X) hL (k + 6) m f a b
  have e2 := fun m => den_spec_RingList (X := X) hL (k + 4) m f a b
  have e3 := fun m => den_impl_RingList (X := X) hL k m f a b
  generalize ringList f a b = r at hlen e2 e3
  unfold outI at e2 e3
  by_cases hn : r.length = 0
  · obtain rfl : r = [] := List.length_eq_zero_iff.1 hn
    simp (maxSteps := 1000000) (implicitDefEqProofs := false) (disch := first | omega | (simp [get_app, get_app0]; done) | rfl) [-getElem?_pos, c_laws_FnExactRingList, e1, e2, e3, eqI_b (k + 7) _ _ _ _ [], markZ_b hL (k + 7), heldZ_b hL (k + 7)]
  · simp (maxSteps := 1000000) (implicitDefEqProofs := false) (disch := first | omega | (simp [get_app, get_app0]; done) | rfl) [-getElem?_pos, c_laws_FnExactRingList, e1, e2, e3, eqI_b (k + 7) _ _ _ _ r, markI_b (k + 7) _ _ _ _ r, heldI_b (k + 7)]
    rw [if_neg (by omega), if_neg (by omega)]

/-! Moved. -/
def mv1 (r : R3 × R3) : R3 × R3 := ((ringTake r.1.1 r.1.2.1 r.1.2.2).1, (ringPut r.2.1 r.2.2.1 r.2.2.2 (ringTake r.1.1 r.1.2.1 r.1.2.2).2.1).1)
def ringMove (r s : R3) (n : Int) : (R3 × R3) × Int :=
  if ringOk r.1 r.2.1 r.2.2 = false ∨ ringOk s.1 s.2.1 s.2.2 = false ∨ inB n 0 8 = false then ((r, s), 1)
  else if r.2.2 < n then ((r, s), 3) else if s.2.2 + n > 8 then ((r, s), 2) else (rpt mv1 n.toNat (r, s), 0)
def outM (r : (R3 × R3) × Int) : V := .tup [.agg (ringV r.1.1), .agg (ringV r.1.2), vi r.2]
theorem den_impl_RingMove (hL : 100 ≤ L) (k : Nat) (m : List Blk) (r s : R3) (n : Int) :
    den T X L (k + 9) 29 [.agg (ringV r), .agg (ringV s), vi n] m = some ⟨outM (ringMove r s n), m, 0, 0⟩ := by
  rw [den_eq T_29]
  have e1 := fun m => den_impl_RingOk (X := X) hL (k + 1) m r.1 r.2.1 r.2.2
  have e2 := fun m => den_impl_RingOk (X := X) hL (k + 1) m s.1 s.2.1 s.2.2
  have e3 := fun m => den_in (X := X) (L := L) (k + 7) m n 0 8
  have t := fun m f a b => den_impl_RingTake (X := X) hL k m f a b
  have p := fun m f a b v => den_impl_RingPut (X := X) hL k m f a b v
  unfold outM ringMove
  cases h1 : ringOk r.1 r.2.1 r.2.2 with
  | false => rw [h1] at e1; simp (maxSteps := 1000000) (implicitDefEqProofs := false) (disch := omega) [-getElem?_pos, c_impl_RingMove, e1, z10]
  | true =>
    rw [h1] at e1
    cases h2 : ringOk s.1 s.2.1 s.2.2 with
    | false => rw [h2] at e2; simp (maxSteps := 1000000) (implicitDefEqProofs := false) (disch := omega) [-getElem?_pos, c_impl_RingMove, e1, e2, z10]
    | true =>
      rw [h2] at e2
      cases h3 : inB n 0 8 with
      | false => rw [h3] at e3; simp (maxSteps := 1000000) (implicitDefEqProofs := false) (disch := omega) [-getElem?_pos, c_impl_RingMove, e1, e2, e3, z10]
      | true =>
        rw [h3] at e3
        have hn := inB_iff.mp h3
        obtain ⟨q, rfl⟩ : ∃ q : Nat, n = q := ⟨n.toNat, by omega⟩
        have b1 := ringOk_bounds h1
        have b2 := ringOk_bounds h2
        by_cases c1 : r.2.2 < (q : Int)
        · simp (maxSteps := 1000000) (implicitDefEqProofs := false) (disch := omega) [-getElem?_pos, c_impl_RingMove, e1, e2, e3, z10, c1]
        · by_cases c2 : s.2.2 + (q : Int) > 8
          · simp (maxSteps := 1000000) (implicitDefEqProofs := false) (disch := omega) [-getElem?_pos, c_impl_RingMove, e1, e2, e3, z10, c1, c2]
          · have hl := iter_blk (n0 := m.length) (id := 1) (ka := some [3, 4, 6, 7]) (f := fun s => exec (den T X L (k + 8)) L m.length none c_impl_RingMove_b0 s) (tr := trim m.length (some [3, 4, 6, 7, 41, 42])) (σ := Nat)
              (fun i => ⟨[(3, .c (.ptr m.length 0 10)), (4, .c (.ptr (m.length + 1) 0 10)), (6, .c (.ptr (m.length + 2) 0 10)), (7, .c (.ptr (m.length + 3) 0 10)), (41, vi q), (42, vi i)], m ++ [⟨ringV (rpt mv1 i (r, s)).1, 32, 0, true⟩, ⟨ringV (rpt mv1 i (r, s)).2, 32, 0, true⟩, ⟨ar 8 (fun _ => 0) ++ [ci 0, ci 0], 32, 0, true⟩, ⟨ar 8 (fun _ => 0) ++ [ci 0, ci 0], 32, 0, true⟩], 0, 0⟩) (fun i => i ≤ q) (fun i => q - i)
              (fun i => (.norm, ⟨[(3, .c (.ptr m.length 0 10)), (4, .c (.ptr (m.length + 1) 0 10)), (6, .c (.ptr (m.length + 2) 0 10)), (7, .c (.ptr (m.length + 3) 0 10))], m ++ [⟨ringV (rpt mv1 q (r, s)).1, 32, 0, true⟩, ⟨ringV (rpt mv1 q (r, s)).2, 32, 0, true⟩, ⟨ar 8 (fun _ => 0) ++ [ci 0, ci 0], 32, 0, true⟩, ⟨ar 8 (fun _ => 0) ++ [ci 0, ci 0], 32, 0, true⟩], 0, 0⟩)) ?w
            case w =>
              intro i hi
              by_cases he : i = q
              · subst he
                refine ⟨.exit 1, _, by simp (maxSteps := 1000000) (implicitDefEqProofs := false) (disch := omega) [-getElem?_pos, c_impl_RingMove_b0]; rfl, ?_⟩
                simp (maxSteps := 1000000) (implicitDefEqProofs := false) (disch := omega) [-getElem?_pos, c_blkx]
              · have hi' : (i : Int) < (q : Int) := by omega
                refine ⟨.norm, _, by simp (maxSteps := 1000000) (implicitDefEqProofs := false) (disch := omega) [-getElem?_pos, c_impl_RingMove_b0, hi', t, p, z10]; rfl, i + 1, ?_, by omega, by omega, rfl⟩
                simp (maxSteps := 1000000) (implicitDefEqProofs := false) (disch := omega) [-getElem?_pos, rpt, mv1]
            simp (maxSteps := 1000000) (implicitDefEqProofs := false) (disch := omega) [-getElem?_pos, c_impl_RingMove, e1, e2, e3, z10, c1, c2]
            rw [hl L 0 _ (Nat.zero_le _) ?tr (by show q - 0 < L; omega)]
            case tr => simp (maxSteps := 1000000) (implicitDefEqProofs := false) (disch := omega) [-getElem?_pos, rpt, refs_append, ar_refs, refsL]
            simp (maxSteps := 1000000) (implicitDefEqProofs := false) (disch := omega) [-getElem?_pos]
theorem den_spec_RingMove (hL : 100 ≤ L) (k : Nat) (m : List Blk) (r s : R3) (n : Int) :
    den T X L (k + 5) 28 [.agg (ringV r), .agg (ringV s), vi n] m = some ⟨outM (ringMove r s n), m, 0, 0⟩ := by
  rw [den_eq T_28]
  have e1 := fun m => den_spec_RingOk (X := X) hL (k + 1) m r.1 r.2.1 r.2.2
  have e2 := fun m => den_spec_RingOk (X := X) hL (k + 1) m s.1 s.2.1 s.2.2
  have e3 := fun m => den_l1In (X := X) (L := L) (k + 3) m n 0 8
  have t := fun m f a b => den_spec_RingTake (X := X) hL k m f a b
  have p := fun m f a b v => den_spec_RingPut (X := X) hL k m f a b v
  unfold outM ringMove
  cases h1 : ringOk r.1 r.2.1 r.2.2 with
  | false => rw [h1] at e1; simp (maxSteps := 1000000) (implicitDefEqProofs := false) (disch := omega) [-getElem?_pos, c_spec_RingMove, e1, z10]
  | true =>
    rw [h1] at e1
    cases h2 : ringOk s.1 s.2.1 s.2.2 with
    | false => rw [h2] at e2; simp (maxSteps := 1000000) (implicitDefEqProofs := false) (disch := omega) [-getElem?_pos, c_spec_RingMove, e1, e2, z10]
    | true =>
      rw [h2] at e2
      cases h3 : inB n 0 8 with
      | false => rw [h3] at e3; simp (maxSteps := 1000000) (implicitDefEqProofs := false) (disch := omega) [-getElem?_pos, c_spec_RingMove, e1, e2, e3, z10]
      | true =>
        rw [h3] at e3
        have hn := inB_iff.mp h3
        obtain ⟨q, rfl⟩ : ∃ q : Nat, n = q := ⟨n.toNat, by omega⟩
        have b1 := ringOk_bounds h1
        have b2 := ringOk_bounds h2
        by_cases c1 : r.2.2 < (q : Int)
        · simp (maxSteps := 1000000) (implicitDefEqProofs := false) (disch := omega) [-getElem?_pos, c_spec_RingMove, e1, e2, e3, z10, c1]
        · by_cases c2 : s.2.2 + (q : Int) > 8
          · simp (maxSteps := 1000000) (implicitDefEqProofs := false) (disch := omega) [-getElem?_pos, c_spec_RingMove, e1, e2, e3, z10, c1, c2]
          · have hl := iter_blk (n0 := m.length) (id := 1) (ka := some [3, 4, 6, 7]) (f := fun s => exec (den T X L (k + 4)) L m.length none c_spec_RingMove_b0 s) (tr := trim m.length (some [2, 3, 4, 6, 7, 9])) (σ := Nat)
              (fun i => ⟨[(2, vi q), (3, .c (.ptr m.length 0 10)), (4, .c (.ptr (m.length + 1) 0 10)), (6, .c (.ptr (m.length + 2) 0 10)), (7, .c (.ptr (m.length + 3) 0 10)), (9, vi i)], m ++ [⟨ringV (rpt mv1 i (r, s)).1, 32, 0, true⟩, ⟨ringV (rpt mv1 i (r, s)).2, 32, 0, true⟩, ⟨ar 8 (fun _ => 0) ++ [ci 0, ci 0], 32, 0, true⟩, ⟨ar 8 (fun _ => 0) ++ [ci 0, ci 0], 32, 0, true⟩], 0, 0⟩) (fun i => i ≤ q) (fun i => q - i)
              (fun i => (.norm, ⟨[(3, .c (.ptr m.length 0 10)), (4, .c (.ptr (m.length + 1) 0 10)), (6, .c (.ptr (m.length + 2) 0 10)), (7, .c (.ptr (m.length + 3) 0 10))], m ++ [⟨ringV (rpt mv1 q (r, s)).1, 32, 0, true⟩, ⟨ringV (rpt mv1 q (r, s)).2, 32, 0, true⟩, ⟨ar 8 (fun _ => 0) ++ [ci 0, ci 0], 32, 0, true⟩, ⟨ar 8 (fun _ => 0) ++ [ci 0, ci 0], 32, 0, true⟩], 0, 0⟩)) ?w
            case w =>
              intro i hi
              by_cases he : i = q
              · subst he
                refine ⟨.exit 1, _, by simp (maxSteps := 1000000) (implicitDefEqProofs := false) (disch := omega) [-getElem?_pos, c_spec_RingMove_b0]; rfl, ?_⟩
                simp (maxSteps := 1000000) (implicitDefEqProofs := false) (disch := omega) [-getElem?_pos, c_blkx]
              · have hi' : (i : Int) < (q : Int) := by omega
                refine ⟨.norm, _, by simp (maxSteps := 1000000) (implicitDefEqProofs := false) (disch := omega) [-getElem?_pos, c_spec_RingMove_b0, hi', t, p, z10]; rfl, i + 1, ?_, by omega, by omega, rfl⟩
                simp (maxSteps := 1000000) (implicitDefEqProofs := false) (disch := omega) [-getElem?_pos, rpt, mv1]
            simp (maxSteps := 1000000) (implicitDefEqProofs := false) (disch := omega) [-getElem?_pos, c_spec_RingMove, e1, e2, e3, z10, c1, c2]
            rw [hl L 0 _ (Nat.zero_le _) ?tr (by show q - 0 < L; omega)]
            case tr => simp (maxSteps := 1000000) (implicitDefEqProofs := false) (disch := omega) [-getElem?_pos, rpt, refs_append, ar_refs, refsL]
            simp (maxSteps := 1000000) (implicitDefEqProofs := false) (disch := omega) [-getElem?_pos]
theorem den_FnExactRingMove (hL : 100 ≤ L) (k : Nat) (m : List Blk) (r s : R3) (n : Int) :
    den T X L (k + 10) 6 [.agg (ringV r), .agg (ringV s), vi n] m = some ⟨vb true, m, 0, 0⟩ := by
  rw [den_eq T_6]
  have e1 := fun m => den_toRing (X := X) hL (k + 7) m r.1 r.2.1 r.2.2
  have e2 := fun m => den_toRing (X := X) hL (k + 7) m s.1 s.2.1 s.2.2
  have e3 := fun m => den_spec_RingMove (X := X) hL (k + 4) m r s n
  have e4 := fun m => den_impl_RingMove (X := X) hL k m r s n
  have e5 := fun m f a b => den_eqRing (X := X) hL (k + 7) m f f a b a b
  unfold outM at e3 e4
  simp (maxSteps := 1000000) (implicitDefEqProofs := false) (disch := omega) [-getElem?_pos, c_laws_FnExactRingMove, e1, e2, e3, e4, e5, z10]
end Go.Proofs.Ytkoloapgeilbdaa
