/-
  The law of drawn rings, run.
-/
import Derived.Test.YtdnfcomgdgdifaaDs
import Derived.Test.YtdnfcomgdgdifaaDa
set_option linter.unusedVariables false
set_option linter.unusedSimpArgs false
set_option maxHeartbeats 4000000
set_option maxRecDepth 100000
namespace Go.Proofs.Ytdnfcomgdgdifaa
variable {X : FuncId → List V → List Blk → Option Ret} {L : Nat}

section
variable {r : R3} {l : List Int}
theorem ring_list (hL : 100 ≤ L) (k : Nat) (h : isRing r l) (m : List Blk) : den T X L (k + 8) 12 [.agg (ringV r)] m = some (outI m l) := by
  have := den_impl_RingList (X := X) hL k m r.1 r.2.1 r.2.2
  rw [h.2] at this
  exact this
theorem ring_ok (hL : 100 ≤ L) (k : Nat) (h : isRing r l) (m : List Blk) : den T X L (k + 7) 14 [.agg (ringV r)] m = some ⟨vb true, m, 0, 0⟩ := by
  have := den_impl_RingOk (X := X) hL k m r.1 r.2.1 r.2.2
  rw [h.1] at this
  exact this
theorem ring_put (hL : 100 ≤ L) (k : Nat) (h : isRing r l) {v : Int} (hv : isVal v = true) : ∃ r' c, (∀ m, den T X L (k + 8) 13 [.agg (ringV r), vi v] m = some ⟨.tup [.agg (ringV r'), vi c], m, 0, 0⟩) ∧ ((l.length = 8 ∧ c = 2) ∨ (l.length < 8 ∧ c = 0 ∧ isRing r' (l ++ [v]))) := by
  refine ⟨_, _, fun m => den_impl_RingPut (X := X) hL k m r.1 r.2.1 r.2.2 v, ?_⟩
  have hl := h.len
  by_cases h8 : l.length = 8
  · rw [h.full v hv h8]; exact .inl ⟨h8, rfl⟩
  · obtain ⟨h1, h2⟩ := h.put hv (by omega)
    exact .inr ⟨by omega, h1, h2⟩
theorem ring_take (hL : 100 ≤ L) (k : Nat) (h : isRing r l) : ∃ r' x c, (∀ m, den T X L (k + 8) 16 [.agg (ringV r)] m = some ⟨.tup [.agg (ringV r'), vi x, vi c], m, 0, 0⟩) ∧ ((l = [] ∧ c = 3) ∨ ∃ l', l = x :: l' ∧ c = 0 ∧ isRing r' l') := by
  refine ⟨_, _, _, fun m => den_impl_RingTake (X := X) hL k m r.1 r.2.1 r.2.2, ?_⟩
  cases l with
  | nil => rw [h.none]; exact .inl ⟨rfl, rfl⟩
  | cons x l' =>
    obtain ⟨h1, h2⟩ := h.take
    rw [h1]
    exact .inr ⟨l', rfl, rfl, h2⟩
theorem ring_move (hL : 100 ≤ L) (k : Nat) (h : isRing r l) {a : Int} (ha : 0 ≤ a ∧ a ≤ 7) (q : Nat) (hq : q ≤ 8) : ∃ p s c, (∀ m, den T X L (k + 9) 18 [.agg (ringV r), .agg (ringV (fun _ => 0, a, 0)), vi q] m = some ⟨.tup [.agg (ringV p), .agg (ringV s), vi c], m, 0, 0⟩) ∧
    ((l.length < q ∧ c = 3) ∨ (q ≤ l.length ∧ c = 0 ∧ isRing p (l.drop q) ∧ isRing s (l.take q))) := by
  refine ⟨_, _, _, fun m => den_impl_RingMove (X := X) hL k m r (fun _ => 0, a, 0) q, ?_⟩
  have hl := h.len
  have hs := isRing.start ha
  unfold ringMove
  have h1 := h.1
  have h2 := hs.1
  simp only at h2
  rw [if_neg (by simp [h1, h2, inB]; omega)]
  by_cases hc : r.2.2 < (q : Int)
  · rw [if_pos hc]; exact .inl ⟨by omega, rfl⟩
  · rw [if_neg hc, if_neg (by show ¬ (0 : Int) + q > 8; omega)]
    obtain ⟨m1, m2⟩ := isRing.moves q h hs (by omega) (by show 0 + q ≤ 8; omega)
    rw [Int.toNat_natCast]
    exact .inr ⟨by omega, rfl, m1, by simpa using m2⟩
theorem ring_turn (hL : 2000 ≤ L) (k : Nat) (h : isRing r l) : ∃ r', (∀ m, den T X L (k + 9) 19 [.agg (ringV r), vi l.length] m = some ⟨.tup [.agg (ringV r'), vi 0], m, 0, 0⟩) ∧ isRing r' l := by
  have hl := h.len
  have e := fun m => den_impl_RingTurn (X := X) hL k m r l.length
  have ht : ringTurn r l.length = (rpt rot l.length r, 0) := by
    unfold ringTurn
    rw [if_neg (by simp [h.1, inB]; omega), Int.toNat_natCast]
  rw [ht] at e
  exact ⟨_, e, h.round⟩
end
theorem ringV_facts (r : R3) : (ringV r).length = 10 ∧ (ringV r).take 10 = ringV r ∧ refsL (ringV r) = 0 ∧ (∀ r', lay (ringV r') 0 (ringV r) = ringV r) ∧ (ringV r)[9]? = some (ci r.2.2) ∧ (ringV r).all (·.hard) = true := by
  refine ⟨rfl, rfl, rfl, fun r' => rfl, rfl, rfl⟩
theorem len_cons_int (y : Int) (l : List Int) : (((y :: l).length : Nat) : Int) = (l.length : Int) + 1 := by simp
theorem den_FnRings (hL : 2000000 ≤ L) (k : Nat) (m : List Blk) (c : C) (bs : List Int) (hs : SlB m c bs) : den T X L (k + 10) 3 [.c c] m = some ⟨vb true, m, 0, 0⟩ := by
  rw [den_eq T_3]
  have hbig := den_big (X := X) (L := L) (k + 8) m c bs hs
  by_cases hb : bs.length > 1048576
  · rw [decide_eq_true hb] at hbig
    simp (maxSteps := 1000000) (implicitDefEqProofs := false) (disch := omega) [-getElem?_pos, c_laws_FnRings, hbig]
  · rw [decide_eq_false hb] at hbig
    have hb' : bs.length ≤ 1048576 := by omega
    obtain ⟨r, ⟨l, hr⟩, e0⟩ := den_DrawRing (X := X) (L := L) (by omega) k m c bs hs hb'
    obtain ⟨hmany, hl8⟩ := hr.len
    have eat : ∀ l', den T X L (k + 9) 17 [.c c, vi 1] (m ++ l') = some ⟨vi (atB bs 1), m ++ l', 0, 0⟩ := fun l' => den_at (X := X) (L := L) (k + 8) (m ++ l') c bs hs.grow hb' 1 (by omega)
    have hat := atB_in hs 1
    generalize atB bs 1 = v at eat hat
    obtain ⟨q, hq, hq8⟩ : ∃ q : Nat, v.tmod 9 = q ∧ q ≤ 8 := ⟨(v % 9).toNat, by rw [Int.tmod_eq_emod_of_nonneg hat.1]; omega, by omega⟩
    have hz := zero_ring 0
    have elist := fun m => ring_list (X := X) (L := L) (by omega) (k + 1) hr m
    have eok := fun m => ring_ok (X := X) (L := L) (by omega) (k + 2) hr m
    obtain ⟨r1, c1, ep, hp⟩ := ring_put (X := X) (L := L) (by omega) (k + 1) hr (v := 77) (by decide)
    obtain ⟨r2, x2, c2, etk, htk⟩ := ring_take (X := X) (L := L) (by omega) (k + 1) hr
    obtain ⟨r3, s3, c3, em, hm⟩ := ring_move (X := X) (L := L) (by omega) k hr (a := 3) (by omega) q hq8
    obtain ⟨r4, etn, h4⟩ := ring_turn (X := X) (L := L) (by omega) k hr
    have el4 := fun m => ring_list (X := X) (L := L) (by omega) (k + 1) h4 m
    have el1 := fun l1 (h : isRing r1 l1) m => ring_list (X := X) (L := L) (by omega) (k + 1) h m
    have el2 := fun l1 (h : isRing r2 l1) m => ring_list (X := X) (L := L) (by omega) (k + 1) h m
    have el3 := fun l1 (h : isRing r3 l1) m => ring_list (X := X) (L := L) (by omega) (k + 1) h m
    have es3 := fun l1 (h : isRing s3 l1) m => ring_list (X := X) (L := L) (by omega) (k + 1) h m
    obtain ⟨f0, f1, f2, f3, f4, f5⟩ := ringV_facts r
    obtain ⟨g0, g1, g2, g3, g4, g5⟩ := ringV_facts r1
    obtain ⟨i0, i1, i2, i3, i4, i5⟩ := ringV_facts r2
    obtain ⟨j0, j1, j2, j3, j4, j5⟩ := ringV_facts r3
    obtain ⟨n0, n1, n2, n3, n4, n5⟩ := ringV_facts s3
    obtain ⟨o0, o1, o2, o3, o4, o5⟩ := ringV_facts r4
    rw [hmany] at f4
    unfold outI at elist el4 el1 el2 el3 es3
    generalize ringV r = R at *
    generalize ringV r1 = R1 at *
    generalize ringV r2 = R2 at *
    generalize ringV r3 = R3' at *
    generalize ringV s3 = S3 at *
    generalize ringV r4 = R4 at *
    clear hs hat
    have hsame := fun xs ys (h : xs.length ≤ 100) => sameQ (X := X) (L := L) (k + 8) xs ys (by omega) (by omega)
    rcases htk with ⟨rfl, rfl⟩ | ⟨l', rfl, rfl, h2⟩
    · rcases hp with ⟨hp1, rfl⟩ | ⟨hp1, rfl, hp2⟩
      · simp at hp1
      · have el1 := el1 _ hp2
        simp only [List.length_nil, List.nil_append, Int.natCast_zero] at hl8 hm elist etn el4 f4 el1
        have hg7 : (ints [77])[0]? = some (ci 77) := rfl
        rcases hm with ⟨hm1, rfl⟩ | ⟨hm1, rfl, hm2, hm3⟩
        · have hqn : ((0 : Int) < (q : Int)) = True := eq_true (by omega)
          simp (maxSteps := 1000000) (implicitDefEqProofs := false) (disch := first | omega | (simp [get_app, get_app0]; done) | rfl | (simp only [List.length_cons, List.length_append, List.length_take, List.length_drop, List.length_nil]; omega)) [-getElem?_pos, c_laws_FnRings, hbig, e0, hz, elist, eok, ep, etk, em, etn, el4, eat, hq, f0, f1, f2, f3, f4, g0, g1, g2, g3, i0, i1, i2, i3, j0, j1, j2, j3, n0, n1, n2, n3, o0, o1, o2, o3, el1, hg7, hqn, hsame [77] [] (by simp), hsame [] [] (by simp)]
          omega
        · obtain rfl : q = 0 := by omega
          have el3 := el3 _ hm2
          have es3 := es3 _ hm3
          simp only [List.drop_zero, List.take_zero, List.length_nil] at el3 es3
          simp only [Int.natCast_zero] at em
          simp (maxSteps := 1000000) (implicitDefEqProofs := false) (disch := first | omega | (simp [get_app, get_app0]; done) | rfl | (simp only [List.length_cons, List.length_append, List.length_take, List.length_drop, List.length_nil]; omega)) [-getElem?_pos, c_laws_FnRings, hbig, e0, hz, elist, eok, ep, etk, em, etn, el4, eat, hq, f0, f1, f2, f3, f4, g0, g1, g2, g3, i0, i1, i2, i3, j0, j1, j2, j3, n0, n1, n2, n3, o0, o1, o2, o3, el1, el3, es3, hg7, hsame [77] [] (by simp), hsame [] [] (by simp)]
    · have el2 := el2 _ h2
      have hget : (ints (x2 :: l'))[0]? = some (ci x2) := rfl
      have hg7 : (ints (x2 :: (l' ++ [77])))[l'.length + 1]? = some (ci 77) := by simp [ints]
      have hne0 : ((l'.length : Int) + 1 = 0) = False := eq_false (by omega)
      simp only [List.length_cons] at hl8 hm elist etn el4 f4 hp
      simp only [Int.natCast_add, Int.natCast_one] at f4 etn
      rcases hm with ⟨hm1, rfl⟩ | ⟨hm1, rfl, hm2, hm3⟩
      · have hqn : ((l'.length : Int) + 1 < (q : Int)) = True := eq_true (by omega)
        rcases hp with ⟨hp1, rfl⟩ | ⟨hp1, rfl, hp2⟩
        · omega
        · have el1 := el1 _ hp2
          have hn8 : ((l'.length : Int) + 1 = 8) = False := eq_false (by omega)
          simp (maxSteps := 1000000) (implicitDefEqProofs := false) (disch := first | omega | (simp [get_app, get_app0]; done) | rfl | (simp only [List.length_cons, List.length_append, List.length_take, List.length_drop, List.length_nil]; omega)) [-getElem?_pos, c_laws_FnRings, hbig, e0, hz, elist, eok, ep, etk, em, etn, el4, eat, hq, f0, f1, f2, f3, f4, g0, g1, g2, g3, i0, i1, i2, i3, j0, j1, j2, j3, n0, n1, n2, n3, o0, o1, o2, o3, el1, el2, hget, hg7, hne0, hqn, hn8, hsame (x2 :: (l' ++ [77])) (x2 :: l') (by first | omega | (simp; omega)), hsame l' (x2 :: l') (by first | omega | (simp; omega)), hsame (x2 :: l') (x2 :: l') (by first | omega | (simp; omega))]
      · have hqn : ((l'.length : Int) + 1 < (q : Int)) = False := eq_false (by omega)
        have el3 := el3 _ hm2
        have es3 := es3 _ hm3
        have htt : List.take q (List.take q (x2 :: l')) = List.take q (x2 :: l') := by rw [List.take_take, Nat.min_self]
        have hmin : min q (l'.length + 1) = q := by omega
        have hsub : ((l'.length : Int) + 1 - (q : Int)).toNat = l'.length + 1 - q := by omega
        rcases hp with ⟨hp1, rfl⟩ | ⟨hp1, rfl, hp2⟩
        · have hn8 : ((l'.length : Int) + 1 = 8) = True := eq_true (by omega)
          simp (maxSteps := 1000000) (implicitDefEqProofs := false) (disch := first | omega | (simp [get_app, get_app0]; done) | rfl | (simp only [List.length_cons, List.length_append, List.length_take, List.length_drop, List.length_nil]; omega)) [-getElem?_pos, c_laws_FnRings, hbig, e0, hz, elist, eok, ep, etk, em, etn, el4, eat, hq, f0, f1, f2, f3, f4, g0, g1, g2, g3, i0, i1, i2, i3, j0, j1, j2, j3, n0, n1, n2, n3, o0, o1, o2, o3, el2, el3, es3, hget, hg7, hne0, hqn, hn8, hsame l' (x2 :: l') (by first | omega | (simp; omega)), hsame (List.take q (x2 :: l')) (x2 :: l') (by first | omega | (simp; omega)), hsame (List.drop q (x2 :: l')) (x2 :: l') (by first | omega | (simp; omega)), hsame (x2 :: l') (x2 :: l') (by first | omega | (simp; omega)), hmin, hsub, htt]
        · have el1 := el1 _ hp2
          have hn8 : ((l'.length : Int) + 1 = 8) = False := eq_false (by omega)
          simp (maxSteps := 1000000) (implicitDefEqProofs := false) (disch := first | omega | (simp [get_app, get_app0]; done) | rfl | (simp only [List.length_cons, List.length_append, List.length_take, List.length_drop, List.length_nil]; omega)) [-getElem?_pos, c_laws_FnRings, hbig, e0, hz, elist, eok, ep, etk, em, etn, el4, eat, hq, f0, f1, f2, f3, f4, g0, g1, g2, g3, i0, i1, i2, i3, j0, j1, j2, j3, n0, n1, n2, n3, o0, o1, o2, o3, el1, el2, el3, es3, hget, hg7, hne0, hqn, hn8, hsame (x2 :: (l' ++ [77])) (x2 :: l') (by first | omega | (simp; omega)), hsame l' (x2 :: l') (by first | omega | (simp; omega)), hsame (List.take q (x2 :: l')) (x2 :: l') (by first | omega | (simp; omega)), hsame (List.drop q (x2 :: l')) (x2 :: l') (by first | omega | (simp; omega)), hsame (x2 :: l') (x2 :: l') (by first | omega | (simp; omega)), hmin, hsub, htt]
end Go.Proofs.Ytdnfcomgdgdifaa
