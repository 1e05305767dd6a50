/-
  Slices of numbers: compared, marked, held to their marks.
-/
import Derived.Test.YtkoloapgeilbdaaTab
import Derived.Test.YtkoloapgeilbdaaEk
set_option linter.unusedVariables false
set_option linter.unusedSimpArgs false
set_option maxHeartbeats 4000000
namespace Go.Proofs.Ytkoloapgeilbdaa
variable {X : FuncId → List V → List Blk → Option Ret} {L : Nat}

theorem live_ints {m : List Blk} {b : Nat} {xs : List Int} {ty : TypeId} {o : Bool} (h : m[b]? = some ⟨ints xs, ty, 1, o⟩) : Sl m (.sl b 0 xs.length xs.length) xs :=
  .inr ⟨b, 0, xs.length, ⟨ints xs, ty, 1, o⟩, rfl, by simp [live, h, ints_len], .inr rfl, fun j hj => by
    rw [Nat.zero_add]; exact ints_get' hj⟩
theorem nth_ext {xs ys : List Int} (hl : xs.length = ys.length) : (∀ j, j < xs.length → nth xs j = nth ys j) ↔ xs = ys := by
  constructor
  · intro h
    apply List.ext_getElem hl
    intro i h1 h2
    have := h i h1
    simpa [nth, h1, h2, List.getD_eq_getElem?_getD] using this
  · rintro rfl _ _; rfl

theorem den_eqIntS (k : Nat) (m : List Blk) (v w : C) (xs ys : List Int) (hv : Sl m v xs) (hw : Sl m w ys) (hx : xs.length < L) (hb : xs.length < 4611686018427387904) :
    den T X L (k + 1) 23 [.c v, .c w] m = some ⟨vb (decide (xs = ys)), m, 0, 0⟩ := by
  rw [den_eq T_23]
  by_cases hl : xs.length = ys.length
  · have hlp := iter_blk (n0 := m.length) (id := 0) (ka := some []) (f := fun s => exec (den T X L k) L m.length none c_laws_eqIntS_b0 s) (tr := trim m.length (some [0, 1, 5])) (σ := Nat)
      (fun i => ⟨[(0, .c v), (1, .c w), (5, vi i)], m, 0, 0⟩) (fun i => i ≤ xs.length) (fun i => xs.length - i)
      (fun i => if ∀ j, j < xs.length → i ≤ j → nth xs j = nth ys j then (.norm, ⟨[], m, 0, 0⟩) else (.ret, ⟨[(4, vb false)], m, 0, 0⟩)) ?w
    case w =>
      intro i hi
      by_cases he : i = xs.length
      · refine ⟨.exit 0, _, by simp (maxSteps := 1000000) (implicitDefEqProofs := false) (disch := omega) [-getElem?_pos, c_laws_eqIntS_b0, he, hv.lenV]; rfl, ?_⟩
        rw [if_pos fun j h1 h2 => by omega]
        simp (maxSteps := 1000000) (implicitDefEqProofs := false) (disch := omega) [-getElem?_pos, c_blkx, take_mx]
      · have hi' : (i : Int) < (xs.length : Int) := by omega
        have hiv : (0 : Int) ≤ i ∧ (i : Int) < xs.length := by omega
        have hiw : (0 : Int) ≤ i ∧ (i : Int) < ys.length := by omega
        by_cases hq : nth xs i = nth ys i
        · refine ⟨.norm, _, by simp (maxSteps := 1000000) (implicitDefEqProofs := false) (disch := omega) [-getElem?_pos, c_laws_eqIntS_b0, hi', hv.lenV, hv.ixV hiv, hw.ixV hiw, hv.ldV (show i < xs.length by omega), hw.ldV (show i < ys.length by omega), hq]; rfl, i + 1, ?_, by omega, by omega, ?_⟩
          · simp (maxSteps := 1000000) (implicitDefEqProofs := false) (disch := omega) [-getElem?_pos, take_mx]
          · congr 1
            apply propext
            exact ⟨fun h j h1 h2 => if hj : j = i then hj ▸ hq else h j h1 (by omega), fun h j h1 h2 => h j h1 (by omega)⟩
        · refine ⟨.ret, _, by simp (maxSteps := 1000000) (implicitDefEqProofs := false) (disch := omega) [-getElem?_pos, c_laws_eqIntS_b0, hi', hv.lenV, hv.ixV hiv, hw.ixV hiw, hv.ldV (show i < xs.length by omega), hw.ldV (show i < ys.length by omega), hq]; rfl, ?_⟩
          rw [if_neg fun h => hq (h i (by omega) (Nat.le_refl _))]
          simp (maxSteps := 1000000) (implicitDefEqProofs := false) (disch := omega) [-getElem?_pos, c_blkr, take_mx]
    have hl' : (xs.length : Int) = ys.length := by omega
    simp (maxSteps := 1000000) (implicitDefEqProofs := false) (disch := omega) [-getElem?_pos, c_laws_eqIntS, hv.lenV, hw.lenV, hl']
    rw [hlp L 0 _ (Nat.zero_le _) ?tr (by show xs.length - 0 < L; omega)]
    case tr => simp (maxSteps := 1000000) (implicitDefEqProofs := false) (disch := omega) [-getElem?_pos, take_mx]
    by_cases hq : xs = ys
    · rw [if_pos fun j h1 _ => (nth_ext hl).2 hq j h1]
      simp (maxSteps := 1000000) (implicitDefEqProofs := false) (disch := omega) [-getElem?_pos, hq]
    · rw [if_neg fun h => hq ((nth_ext hl).1 fun j h1 => h j h1 (Nat.zero_le _))]
      simp (maxSteps := 1000000) (implicitDefEqProofs := false) (disch := omega) [-getElem?_pos, hq]
  · have hl' : ¬ (xs.length : Int) = ys.length := by omega
    have hq : ¬ xs = ys := fun h => hl (by rw [h])
    simp (maxSteps := 1000000) (implicitDefEqProofs := false) (disch := omega) [-getElem?_pos, c_laws_eqIntS, hv.lenV, hw.lenV, hl', hq]

/-! Marks. -/
theorem live_set (m : List Blk) (b tot : Nat) (x : Blk) (h : b < m.length) : live (m.set b x) b tot = if tot = x.cs.length then some x else none := by
  unfold live; rw [List.getElem?_set_self h]; rfl
theorem take_set' (m : List Blk) (b k : Nat) (x : Blk) : (m.set b x).take (mx m.length k) = m.set b x := List.take_of_length_le (by simp [mx_eq]; omega)
def mk (f : Nat → Int) (k : Int) (i : Nat) : Nat → Int := fun j => if j < i then k + j else f j
theorem mk_upd {n i : Nat} {f : Nat → Int} {k : Int} : ar n (upd (mk f k i) i (k + i)) = ar n (mk f k (i + 1)) := ar_ext fun j hj => by
  unfold upd mk
  by_cases h1 : j = i
  · subst h1; simp
  · by_cases h2 : j < i
    · simp [h1, h2, show j < i + 1 by omega]
    · simp [h1, h2, show ¬ j < i + 1 by omega]
theorem den_markIntS (k : Nat) (m : List Blk) (b n : Nat) (c : Int) (f : Nat → Int) (ty : TypeId) (hm : m[b]? = some ⟨ar n f, ty, 1, true⟩) (hx : n < L) (hn : 0 < n) (hb : n < 4611686018427387904) (hc : 0 ≤ c ∧ c < 4611686018427387904) :
    den T X L (k + 1) 24 [.c (.sl b 0 n n), vi c] m = some ⟨vi (c + n), m.set b ⟨ar n (fun j => c + j), ty, 1, true⟩, 0, m.length - b⟩ := by
  rw [den_eq T_24]
  have hlt := lt_of_get hm
  have hlive : live m b n = some ⟨ar n f, ty, 1, true⟩ := by simp [live, hm, ar_len]
  have hw : ¬ m.length - b = 0 := by omega
  have hl := iter_blk (n0 := m.length) (id := 0) (ka := some [1]) (f := fun s => exec (den T X L k) L m.length none c_laws_markIntS_b0 s) (tr := trim m.length (some [0, 1, 5])) (σ := Nat)
    (fun i => ⟨[(0, .c (.sl b 0 n n)), (1, vi (c + i)), (5, vi i)], m.set b ⟨ar n (mk f c i), ty, 1, true⟩, 0, if i = 0 then 0 else m.length - b⟩) (fun i => i ≤ n) (fun i => n - i)
    (fun i => (.norm, ⟨[(1, vi (c + n))], m.set b ⟨ar n (mk f c n), ty, 1, true⟩, 0, m.length - b⟩)) ?w
  case w =>
    intro i hi
    by_cases he : i = n
    · subst he
      refine ⟨.exit 0, _, by simp (maxSteps := 1000000) (implicitDefEqProofs := false) (disch := omega) [-getElem?_pos, c_laws_markIntS_b0, live_set, hlt]; rfl, ?_⟩
      simp (maxSteps := 1000000) (implicitDefEqProofs := false) (disch := omega) [-getElem?_pos, c_blkx, take_set', show ¬ i = 0 by omega]
    · have hi' : (i : Int) < (n : Int) := by omega
      refine ⟨.norm, _, by simp (maxSteps := 1000000) (implicitDefEqProofs := false) (disch := omega) [-getElem?_pos, c_laws_markIntS_b0, hi', live_set, hlt, List.set_set, List.length_set]; rfl, i + 1, ?_, by omega, by omega, rfl⟩
      simp (maxSteps := 1000000) (implicitDefEqProofs := false) (disch := omega) [-getElem?_pos, take_set', mk_upd]
      refine ⟨by omega, ?_⟩
      by_cases h0 : i = 0
      · simp [h0, mx_zero_l]
      · rw [if_neg h0]; exact mx_r (Nat.le_refl _)
  have h0 : m.set b ⟨ar n (mk f c 0), ty, 1, true⟩ = m := by
    have : mk f c 0 = f := by funext j; simp [mk]
    rw [this]
    apply List.ext_getElem?
    intro j
    by_cases hj : b = j
    · subst hj; rw [List.getElem?_set_self hlt, hm]
    · rw [List.getElem?_set_ne hj]
  simp (maxSteps := 1000000) (implicitDefEqProofs := false) (disch := omega) [-getElem?_pos, c_laws_markIntS]
  rw [hl L 0 _ (Nat.zero_le _) ?tr (by show n - 0 < L; omega)]
  case tr => simp (maxSteps := 1000000) (implicitDefEqProofs := false) (disch := omega) [-getElem?_pos, take_mx, h0]
  simp (maxSteps := 1000000) (implicitDefEqProofs := false) (disch := omega) [-getElem?_pos, hw]
  exact congrArg (fun g => m.set b ⟨g, ty, 1, true⟩) (ar_ext fun j hj => by simp [mk, hj])
theorem den_heldIntS (k : Nat) (m : List Blk) (b n : Nat) (c : Int) (ty : TypeId) (hm : m[b]? = some ⟨ar n (fun j => c + j), ty, 1, true⟩) (hx : n < L) (hb : n < 4611686018427387904) (hc : 0 ≤ c ∧ c < 4611686018427387904) :
    den T X L (k + 1) 25 [.c (.sl b 0 n n), vi c] m = some ⟨vi (c + n), m, 0, 0⟩ := by
  rw [den_eq T_25]
  have hlive : live m b n = some ⟨ar n (fun j => c + j), ty, 1, true⟩ := by simp [live, hm, ar_len]
  have hl := iter_blk (n0 := m.length) (id := 0) (ka := some [1]) (f := fun s => exec (den T X L k) L m.length none c_laws_heldIntS_b0 s) (tr := trim m.length (some [0, 1, 5])) (σ := Nat)
    (fun i => ⟨[(0, .c (.sl b 0 n n)), (1, vi (c + i)), (5, vi i)], m, 0, 0⟩) (fun i => i ≤ n) (fun i => n - i)
    (fun i => (.norm, ⟨[(1, vi (c + n))], m, 0, 0⟩)) ?w
  case w =>
    intro i hi
    by_cases he : i = n
    · subst he
      refine ⟨.exit 0, _, by simp (maxSteps := 1000000) (implicitDefEqProofs := false) (disch := omega) [-getElem?_pos, c_laws_heldIntS_b0, hlive]; rfl, ?_⟩
      simp (maxSteps := 1000000) (implicitDefEqProofs := false) (disch := omega) [-getElem?_pos, c_blkx, take_mx]
    · have hi' : (i : Int) < (n : Int) := by omega
      refine ⟨.norm, _, by simp (maxSteps := 1000000) (implicitDefEqProofs := false) (disch := omega) [-getElem?_pos, c_laws_heldIntS_b0, hi', hlive]; rfl, i + 1, ?_, by omega, by omega, rfl⟩
      simp (maxSteps := 1000000) (implicitDefEqProofs := false) (disch := omega) [-getElem?_pos, take_mx]
      omega
  simp (maxSteps := 1000000) (implicitDefEqProofs := false) (disch := omega) [-getElem?_pos, c_laws_heldIntS]
  rw [hl L 0 _ (Nat.zero_le _) ?tr (by show n - 0 < L; omega)]
  case tr => simp (maxSteps := 1000000) (implicitDefEqProofs := false) (disch := omega) [-getElem?_pos, take_mx]
  simp (maxSteps := 1000000) (implicitDefEqProofs := false) (disch := omega) [-getElem?_pos]
theorem den_markNil (hL : 100 ≤ L) (k : Nat) (m : List Blk) (c : Int) : den T X L (k + 1) 24 [.c .nils, vi c] m = some ⟨vi c, m, 0, 0⟩ := by
  rw [den_eq T_24]
  have hl := iter_up (f := fun s => exec (den T X L k) L m.length none c_laws_markIntS_b0 s) (tr := trim m.length (some [0, 1, 5])) (fun i => ⟨[(0, .c .nils), (1, vi c), (5, vi 0)], m, 0, 0⟩) 0 (fun i hi => by omega) ⟨0, _, by simp (maxSteps := 1000000) (implicitDefEqProofs := false) (disch := omega) [-getElem?_pos, c_laws_markIntS_b0]; rfl⟩
  simp (maxSteps := 1000000) (implicitDefEqProofs := false) (disch := omega) [-getElem?_pos, c_laws_markIntS]
  rw [hl L 0 _ ?tr (by omega) (by omega)]
  case tr => simp (maxSteps := 1000000) (implicitDefEqProofs := false) (disch := omega) [-getElem?_pos, take_mx]
  simp (maxSteps := 1000000) (implicitDefEqProofs := false) (disch := omega) [-getElem?_pos, c_laws_markIntS_b0]
theorem den_heldNil (hL : 100 ≤ L) (k : Nat) (m : List Blk) (c : Int) : den T X L (k + 1) 25 [.c .nils, vi c] m = some ⟨vi c, m, 0, 0⟩ := by
  rw [den_eq T_25]
  have hl := iter_up (f := fun s => exec (den T X L k) L m.length none c_laws_heldIntS_b0 s) (tr := trim m.length (some [0, 1, 5])) (fun i => ⟨[(0, .c .nils), (1, vi c), (5, vi 0)], m, 0, 0⟩) 0 (fun i hi => by omega) ⟨0, _, by simp (maxSteps := 1000000) (implicitDefEqProofs := false) (disch := omega) [-getElem?_pos, c_laws_heldIntS_b0]; rfl⟩
  simp (maxSteps := 1000000) (implicitDefEqProofs := false) (disch := omega) [-getElem?_pos, c_laws_heldIntS]
  rw [hl L 0 _ ?tr (by omega) (by omega)]
  case tr => simp (maxSteps := 1000000) (implicitDefEqProofs := false) (disch := omega) [-getElem?_pos, take_mx]
  simp (maxSteps := 1000000) (implicitDefEqProofs := false) (disch := omega) [-getElem?_pos, c_laws_heldIntS_b0]
/-! The same on blocks of their own. -/
abbrev blkI (xs : List Int) : Blk := ⟨ints xs, 3, 1, true⟩
abbrev blkM (n : Nat) (c : Int) : Blk := ⟨ar n (fun j => c + j), 3, 1, true⟩
theorem eqI_b (k : Nat) (m : List Blk) (b1 b2 n : Nat) (xs : List Int) (h1 : m[b1]? = some (blkI xs)) (h2 : m[b2]? = some (blkI xs)) (hn : n = xs.length) (hx : n < L) (hb : n < 4611686018427387904) :
    den T X L (k + 1) 23 [.c (.sl b1 0 n n), .c (.sl b2 0 n n)] m = some ⟨vb true, m, 0, 0⟩ := by
  subst hn
  have := den_eqIntS (X := X) k m _ _ xs xs (live_ints h1) (live_ints h2) hx hb
  simpa using this
theorem markI_b (k : Nat) (m : List Blk) (b n : Nat) (c : Int) (xs : List Int) (hm : m[b]? = some (blkI xs)) (hn : n = xs.length) (h0 : 0 < n) (hx : n < L) (hb : n < 4611686018427387904) (hc : 0 ≤ c ∧ c < 4611686018427387904) :
    den T X L (k + 1) 24 [.c (.sl b 0 n n), vi c] m = some ⟨vi (c + n), m.set b (blkM n c), 0, m.length - b⟩ := by
  subst hn
  exact den_markIntS k m b xs.length c (fun i => xs.getD i 0) 3 (by rw [hm, blkI, ar_of_list]) hx h0 hb hc
theorem heldI_b (k : Nat) (m : List Blk) (b n : Nat) (c : Int) (hm : m[b]? = some (blkM n c)) (hx : n < L) (hb : n < 4611686018427387904) (hc : 0 ≤ c ∧ c < 4611686018427387904) :
    den T X L (k + 1) 25 [.c (.sl b 0 n n), vi c] m = some ⟨vi (c + n), m, 0, 0⟩ := den_heldIntS k m b n c 3 hm hx hb hc
theorem markZ_b (hL : 100 ≤ L) (k : Nat) (m : List Blk) (b : Nat) (c : Int) (hm : m[b]? = some (blkI [])) : den T X L (k + 1) 24 [.c (.sl b 0 0 0), vi c] m = some ⟨vi c, m, 0, 0⟩ := by
  rw [den_eq T_24]
  have hlt := lt_of_get hm
  have hlive : live m b 0 = some (blkI []) := by simp [live, hm, ints]
  have hl := iter_up (f := fun s => exec (den T X L k) L m.length none c_laws_markIntS_b0 s) (tr := trim m.length (some [0, 1, 5])) (fun i => ⟨[(0, .c (.sl b 0 0 0)), (1, vi c), (5, vi 0)], m, 0, 0⟩) 0 (fun i hi => by omega) ⟨0, _, by simp (maxSteps := 1000000) (implicitDefEqProofs := false) (disch := omega) [-getElem?_pos, c_laws_markIntS_b0, hlive]; rfl⟩
  simp (maxSteps := 1000000) (implicitDefEqProofs := false) (disch := omega) [-getElem?_pos, c_laws_markIntS]
  rw [hl L 0 _ ?tr (by omega) (by omega)]
  case tr => simp (maxSteps := 1000000) (implicitDefEqProofs := false) (disch := omega) [-getElem?_pos, take_mx]
  simp (maxSteps := 1000000) (implicitDefEqProofs := false) (disch := omega) [-getElem?_pos, c_laws_markIntS_b0, hlive]
theorem heldZ_b (hL : 100 ≤ L) (k : Nat) (m : List Blk) (b : Nat) (c : Int) (hm : m[b]? = some (blkI [])) : den T X L (k + 1) 25 [.c (.sl b 0 0 0), vi c] m = some ⟨vi c, m, 0, 0⟩ := by
  rw [den_eq T_25]
  have hlt := lt_of_get hm
  have hlive : live m b 0 = some (blkI []) := by simp [live, hm, ints]
  have hl := iter_up (f := fun s => exec (den T X L k) L m.length none c_laws_heldIntS_b0 s) (tr := trim m.length (some [0, 1, 5])) (fun i => ⟨[(0, .c (.sl b 0 0 0)), (1, vi c), (5, vi 0)], m, 0, 0⟩) 0 (fun i hi => by omega) ⟨0, _, by simp (maxSteps := 1000000) (implicitDefEqProofs := false) (disch := omega) [-getElem?_pos, c_laws_heldIntS_b0, hlive]; rfl⟩
  simp (maxSteps := 1000000) (implicitDefEqProofs := false) (disch := omega) [-getElem?_pos, c_laws_heldIntS]
  rw [hl L 0 _ ?tr (by omega) (by omega)]
  case tr => simp (maxSteps := 1000000) (implicitDefEqProofs := false) (disch := omega) [-getElem?_pos, take_mx]
  simp (maxSteps := 1000000) (implicitDefEqProofs := false) (disch := omega) [-getElem?_pos, c_laws_heldIntS_b0, hlive]
theorem ints_snoc (xs : List Int) (x : Int) : ints xs ++ [.int .i64 x] = ints (xs ++ [x]) := by simp [ints]
theorem eqI_n (k : Nat) (m : List Blk) (b : Nat) (h : m[b]? = some (blkI [])) (hL : 100 ≤ L) : den T X L (k + 1) 23 [.c .nils, .c (.sl b 0 0 0)] m = some ⟨vb true, m, 0, 0⟩ := by
  have := den_eqIntS (X := X) (L := L) k m .nils _ [] [] (.inl ⟨rfl, rfl⟩) (live_ints h) (by simp; omega) (by simp)
  simpa using this
end Go.Proofs.Ytkoloapgeilbdaa
