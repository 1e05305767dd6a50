/-
  Trees: built of keys.
-/
import Derived.Test.YtonkgmajfcpeeaaT8
set_option linter.unusedVariables false
set_option linter.unusedSimpArgs false
set_option maxHeartbeats 4000000
namespace Go.Proofs.Ytonkgmajfcpeeaa
variable {X : FuncId → List V → List Blk → Option Ret} {L : Nat}

def Bd : Nat → (Nat → Nd) → List Int → Nat → (Nat → Nd) × Int × Nat
  | 0, f, _, p => (f, -1, p)
  | n + 1, f, xs, p => if xs.length = 0 then (f, -1, p) else
      (upd (Bd n (Bd n f (xs.take (xs.length / 2)) (p + 1)).1 (xs.drop (xs.length / 2 + 1)) (Bd n f (xs.take (xs.length / 2)) (p + 1)).2.2).1 p
        ⟨true, nth xs (xs.length / 2), (Bd n f (xs.take (xs.length / 2)) (p + 1)).2.1, (Bd n (Bd n f (xs.take (xs.length / 2)) (p + 1)).1 (xs.drop (xs.length / 2 + 1)) (Bd n f (xs.take (xs.length / 2)) (p + 1)).2.2).2.1⟩, p,
        (Bd n (Bd n f (xs.take (xs.length / 2)) (p + 1)).1 (xs.drop (xs.length / 2 + 1)) (Bd n f (xs.take (xs.length / 2)) (p + 1)).2.2).2.2)
theorem Bd_end : ∀ (n : Nat) (f : Nat → Nd) (xs : List Int) (p : Nat), xs.length < n → (Bd n f xs p).2.2 = p + xs.length
  | 0, _, _, _, h => by omega
  | n + 1, f, xs, p, h => by
    unfold Bd
    split
    · rename_i h0; show p = _; omega
    · rename_i h0
      show (Bd n _ _ _).2.2 = _
      rw [Bd_end n _ _ _ (by rw [List.length_drop]; omega), Bd_end n _ _ _ (by rw [List.length_take]; omega), List.length_drop, List.length_take]
      omega
theorem Sl.cut {m : List Blk} {b off len tot : Nat} {xs : List Int} (h : Sl m (.sl b off len tot) xs) (i j : Nat) (hij : i + j ≤ xs.length) : Sl m (.sl b (off + i) j tot) ((xs.drop i).take j) := by
  rcases h with ⟨h, _⟩ | ⟨b', off', tot', blk, h1, h2, h3, h4⟩
  · cases h
  · injection h1 with e1 e2 e3 e4
    subst e1; subst e2; subst e4
    have hl : ((xs.drop i).take j).length = j := by rw [List.length_take, List.length_drop]; omega
    refine .inr ⟨_, _, _, blk, by rw [hl], h2, h3, fun k hk => ?_⟩
    rw [hl] at hk
    have := h4 (i + k) (by omega)
    rw [Nat.add_assoc, this]
    simp [nth, List.getD_eq_getElem?_getD, List.getElem?_take, hk, List.getElem?_drop]

theorem den_l15Build (hL : 100 ≤ L) : ∀ (n k : Nat) (m : List Blk) (f : Nat → Nd) (a : Int) (p : Nat) (v : C) (xs : List Int), xs.length < n → n ≤ k → Sl m v xs → p + xs.length ≤ 16 →
    den T X L (k + 1) 57 [.agg (chn f a), .c v, vi p] m = some ⟨.tup [.agg (chn (Bd n f xs p).1 a), vi (Bd n f xs p).2.1, vi (Bd n f xs p).2.2], m, 0, 0⟩ := by
  intro n
  induction n with
  | zero => intro k m f a p v xs h; omega
  | succ n ih =>
    intro k m f a p v xs hl hk hv hp
    obtain ⟨k, rfl⟩ : ∃ k', k = k' + 1 := ⟨k - 1, by omega⟩
    rw [den_eq T_57]
    have h1 := fun l : List Blk => (hv.grow (l := l)).lenV
    by_cases h0 : xs.length = 0
    · have hB : Bd (n + 1) f xs p = (f, -1, p) := by unfold Bd; rw [if_pos h0]
      rw [hB]
      simp (maxSteps := 1000000) (implicitDefEqProofs := false) (disch := omega) [-getElem?_pos, c_spec_l15Build, z65, h1, h0]
    · rcases hv with ⟨_, hx⟩ | ⟨b, off, tot, blk, rfl, h2, h3, h4⟩
      · subst hx; exact absurd rfl h0
      · have hv : Sl m (.sl b off xs.length tot) xs := .inr ⟨b, off, tot, blk, rfl, h2, h3, h4⟩
        have hlive := fun l : List Blk => live_grow (l := l) h2
        obtain ⟨mid, hm⟩ : ∃ mid, xs.length / 2 = mid := ⟨_, rfl⟩
        have hmz : (xs.length : Int) / 2 = (mid : Int) := by omega
        have hrest : ((xs.length : Int) - ((mid : Int) + 1)).toNat = xs.length - (mid + 1) := by omega
        have hm1 : ((mid : Int) + 1).toNat = mid + 1 := by omega
        have c1 := hv.cut 0 mid (by omega)
        have c2 := hv.cut (mid + 1) (xs.length - (mid + 1)) (by omega)
        rw [List.drop_zero, Nat.add_zero] at c1
        rw [List.take_of_length_le (by rw [List.length_drop]; exact Nat.le_refl _)] at c2
        have hcell := h4 mid (by omega)
        have e1 := fun l => ih k (m ++ l) f a (p + 1) _ _ (by rw [List.length_take]; omega) (by omega) (c1.grow (l := l)) (by rw [List.length_take]; omega)
        have hB1 := Bd_end n f (xs.take mid) (p + 1) (by rw [List.length_take]; omega)
        rw [List.length_take] at hB1
        have hB : Bd (n + 1) f xs p = (upd (Bd n (Bd n f (xs.take mid) (p + 1)).1 (xs.drop (mid + 1)) (Bd n f (xs.take mid) (p + 1)).2.2).1 p
            ⟨true, nth xs mid, (Bd n f (xs.take mid) (p + 1)).2.1, (Bd n (Bd n f (xs.take mid) (p + 1)).1 (xs.drop (mid + 1)) (Bd n f (xs.take mid) (p + 1)).2.2).2.1⟩, (p : Int),
            (Bd n (Bd n f (xs.take mid) (p + 1)).1 (xs.drop (mid + 1)) (Bd n f (xs.take mid) (p + 1)).2.2).2.2) := by
          conv => lhs; unfold Bd
          rw [if_neg h0, hm]
        rw [hB]
        generalize Bd n f (xs.take mid) (p + 1) = r1 at e1 hB1
        obtain ⟨f1, l1, n1⟩ := r1
        simp only at e1 hB1 ⊢
        have e2 := fun l => ih k (m ++ l) f1 a n1 _ _ (by rw [List.length_drop]; omega) (by omega) (c2.grow (l := l)) (by rw [List.length_drop]; omega)
        generalize Bd n f1 (xs.drop (mid + 1)) n1 = r2 at e2
        obtain ⟨f2, l2, n2⟩ := r2
        simp only at e2 ⊢
        have hp1 : ((p + 1 : Nat) : Int) = (p : Int) + 1 := by omega
        rw [hp1] at e1
        simp (maxSteps := 1000000) (implicitDefEqProofs := false) (disch := omega) [-getElem?_pos, c_spec_l15Build, z65, h1, h0, hlive, h3, hmz, hrest, hm1, e1, e2, hcell, znd, nd_l0, nd_l1, nd_l2, nd_l3]

/-! ### A slice's copy -/
def cpF (xs : List Int) (i : Nat) : Nat → Int := fun j => if j < i then nth xs j else 0
theorem cpF_upd {xs : List Int} {i n : Nat} : ar n (upd (cpF xs i) i (nth xs i)) = ar n (cpF xs (i + 1)) := ar_ext fun j hj => by
  unfold upd cpF
  by_cases h1 : j = i
  · subst h1; simp
  · by_cases h2 : j < i
    · simp [h1, h2, show j < i + 1 by omega]
    · simp [h1, h2, show ¬ j < i + 1 by omega]
theorem cpF_all {xs : List Int} : ar xs.length (cpF xs xs.length) = ints xs := by
  rw [ar_of_list]
  exact ar_ext fun j hj => by simp [cpF, hj, nth]
theorem ar_front (n : Nat) : (ar (n + 1) fun _ => (0 : Int)) = [ci 0] ++ ar n fun _ => 0 := by
  unfold ar
  rw [rows_split (s := 1) (fun _ => rfl) _ (Nat.succ_pos n)]
  simp [rows]
theorem rep_ar : ∀ n : Nat, rep n [.int .i64 0] = ar n fun _ => 0
  | 0 => rfl
  | n + 1 => by
    have h : rep (n + 1) [C.int .i64 0] = [ci 0] ++ rep n [.int .i64 0] := by simp [rep, List.replicate_succ]
    rw [h, rep_ar n]
    exact (ar_front n).symm
theorem repl_ar (n : Nat) : List.replicate n (C.int .i64 0) = ar n fun _ => 0 := by
  rw [← rep_ar]; simp [rep]
theorem cpF_zero {xs : List Int} {n : Nat} : ar n (cpF xs 0) = ar n fun _ => 0 := ar_ext fun j hj => by simp [cpF]

theorem den_toIntS (k : Nat) (m : List Blk) (v : C) (xs : List Int) (hv : Sl m v xs) (hx : xs.length < L) (hb : xs.length ≤ 1048576) :
    den T X L (k + 1) 22 [.c v] m = some ⟨.c (.sl m.length 0 xs.length xs.length), m ++ [blkI xs], 0, 0⟩ := by
  rw [den_eq T_22]
  have h1 := fun l : List Blk => (hv.grow (l := l)).lenV
  have hl := iter_blk (n0 := m.length) (id := 0) (ka := some [3]) (f := fun s => exec (den T X L k) L m.length none c_laws_toIntS_b0 s) (tr := trim m.length (some [0, 3, 4])) (σ := Nat)
    (fun i => ⟨[(0, .c v), (3, .c (.sl m.length 0 xs.length xs.length)), (4, vi i)], m ++ [⟨ar xs.length (cpF xs i), 3, 1, true⟩], 0, 0⟩) (fun i => i ≤ xs.length) (fun i => xs.length - i)
    (fun i => (.norm, ⟨[(3, .c (.sl m.length 0 xs.length xs.length))], m ++ [blkI xs], 0, 0⟩)) ?w
  case w =>
    intro i hi
    by_cases he : i = xs.length
    · refine ⟨.exit 0, _, by simp (maxSteps := 1000000) (implicitDefEqProofs := false) (disch := omega) [-getElem?_pos, c_laws_toIntS_b0, he, h1]; rfl, ?_⟩
      simp (maxSteps := 1000000) (implicitDefEqProofs := false) (disch := omega) [-getElem?_pos, c_blkx, cpF_all]
    · have hi' : (i : Int) < (xs.length : Int) := by omega
      have h2 := fun l : List Blk => (hv.grow (l := l)).ixV (show (0 : Int) ≤ i ∧ (i : Int) < xs.length by omega)
      have h3 := fun l : List Blk => (hv.grow (l := l)).ldV (show i < xs.length by omega)
      refine ⟨.norm, _, by simp (maxSteps := 1000000) (implicitDefEqProofs := false) (disch := omega) [-getElem?_pos, c_laws_toIntS_b0, hi', h1, h2, h3]; rfl, i + 1, ?_, by omega, by omega, rfl⟩
      simp (maxSteps := 1000000) (implicitDefEqProofs := false) (disch := omega) [-getElem?_pos, cpF_upd]
      exact List.take_of_length_le (by simp [mx_eq]; omega)
  simp (maxSteps := 1000000) (implicitDefEqProofs := false) (disch := omega) [-getElem?_pos, c_laws_toIntS, h1, hv.lenV, rep_ar]
  rw [hl L 0 _ (Nat.zero_le _) ?tr (by show xs.length - 0 < L; omega)]
  case tr =>
    simp (maxSteps := 1000000) (implicitDefEqProofs := false) (disch := omega) [-getElem?_pos, cpF_zero, repl_ar]
    exact List.take_of_length_le (by simp [mx_eq]; omega)
  simp (maxSteps := 1000000) (implicitDefEqProofs := false) (disch := omega) [-getElem?_pos]

/-! ### The program's own way: the tree is written where it stands -/
def wB (m : List Blk) (b : Nat) (xs : List Int) : Nat := if xs.length = 0 then 0 else m.length - b
theorem den_build (hL : 100 ≤ L) : ∀ (n k : Nat) (m : List Blk) (b : Nat) (f : Nat → Nd) (a : Int) (p : Nat) (v : C) (xs : List Int), xs.length < n → n ≤ k → b < m.length → (∀ x, Sl (m.set b x) v xs) → p + xs.length ≤ 16 →
    den T X L (k + 1) 59 [.c (.ptr b 0 65), .c v, vi p] (m.set b ⟨chn f a, 43, 0, true⟩) =
      some ⟨.tup [vi (Bd n f xs p).2.1, vi (Bd n f xs p).2.2], m.set b ⟨chn (Bd n f xs p).1 a, 43, 0, true⟩, 0, wB m b xs⟩ := by
  intro n
  induction n with
  | zero => intro k m b f a p v xs h; omega
  | succ n ih =>
    intro k m b f a p v xs hl hk hb hv hp
    obtain ⟨k, rfl⟩ : ∃ k', k = k' + 1 := ⟨k - 1, by omega⟩
    rw [den_eq T_59]
    have h1 := fun x => (hv x).lenV
    by_cases h0 : xs.length = 0
    · have hB : Bd (n + 1) f xs p = (f, -1, p) := by unfold Bd; rw [if_pos h0]
      rw [hB]
      simp (maxSteps := 1000000) (implicitDefEqProofs := false) (disch := omega) [-getElem?_pos, c_impl_Tree_build, z65, h1, h0, wB]
    · have hvv : ∃ b2 off tot, v = .sl b2 off xs.length tot := by
        rcases hv ⟨[], 3, 0, true⟩ with ⟨_, hx⟩ | ⟨b2, off, tot, blk, hv1, _⟩
        · subst hx; exact absurd rfl h0
        · exact ⟨b2, off, tot, hv1⟩
      obtain ⟨b2, off, tot, rfl⟩ := hvv
      have hs : ∀ x, ∃ blk, live (m.set b x) b2 tot = some blk ∧ (blk.esz = 0 ∨ blk.esz = 1) ∧ ∀ j, j < xs.length → blk.cs[off + j]? = some (ci (nth xs j)) := by
        intro x
        rcases hv x with ⟨h, _⟩ | ⟨b', o', t', blk, e, g2, g3, g4⟩
        · cases h
        · injection e with e1 e2 e3 e4
          subst e1; subst e2; subst e4
          exact ⟨blk, g2, g3, g4⟩
      obtain ⟨mid, hm⟩ : ∃ mid, xs.length / 2 = mid := ⟨_, rfl⟩
      have hmz : (xs.length : Int) / 2 = (mid : Int) := by omega
      have hrest : ((xs.length : Int) - ((mid : Int) + 1)).toNat = xs.length - (mid + 1) := by omega
      have hm1 : ((mid : Int) + 1).toNat = mid + 1 := by omega
      have c1 : ∀ x, Sl (m.set b x) (.sl b2 off mid tot) (xs.take mid) := fun x => by
        have := (hv x).cut 0 mid (by omega)
        rwa [List.drop_zero, Nat.add_zero] at this
      have c2 : ∀ x, Sl (m.set b x) (.sl b2 (off + (mid + 1)) (xs.length - (mid + 1)) tot) (xs.drop (mid + 1)) := fun x => by
        have := (hv x).cut (mid + 1) (xs.length - (mid + 1)) (by omega)
        rwa [List.take_of_length_le (by rw [List.length_drop]; exact Nat.le_refl _)] at this
      have e1 := ih k m b f a (p + 1) _ _ (by rw [List.length_take]; omega) (by omega) hb c1 (by rw [List.length_take]; omega)
      have hB1 := Bd_end n f (xs.take mid) (p + 1) (by rw [List.length_take]; omega)
      rw [List.length_take] at hB1
      have hB : Bd (n + 1) f xs p = (upd (Bd n (Bd n f (xs.take mid) (p + 1)).1 (xs.drop (mid + 1)) (Bd n f (xs.take mid) (p + 1)).2.2).1 p
          ⟨true, nth xs mid, (Bd n f (xs.take mid) (p + 1)).2.1, (Bd n (Bd n f (xs.take mid) (p + 1)).1 (xs.drop (mid + 1)) (Bd n f (xs.take mid) (p + 1)).2.2).2.1⟩, (p : Int),
          (Bd n (Bd n f (xs.take mid) (p + 1)).1 (xs.drop (mid + 1)) (Bd n f (xs.take mid) (p + 1)).2.2).2.2) := by
        conv => lhs; unfold Bd
        rw [if_neg h0, hm]
      rw [hB]
      generalize Bd n f (xs.take mid) (p + 1) = r1 at e1 hB1
      obtain ⟨f1, l1, n1⟩ := r1
      simp only at e1 hB1 ⊢
      have e2 := ih k m b f1 a n1 _ _ (by rw [List.length_drop]; omega) (by omega) hb c2 (by rw [List.length_drop]; omega)
      generalize Bd n f1 (xs.drop (mid + 1)) n1 = r2 at e2
      obtain ⟨f2, l2, n2⟩ := r2
      simp only at e2 ⊢
      have hp1 : ((p + 1 : Nat) : Int) = (p : Int) + 1 := by omega
      rw [hp1] at e1
      obtain ⟨k0, g0, s0, t0⟩ := hs ⟨chn f a, 43, 0, true⟩
      obtain ⟨k1, g1, s1, t1⟩ := hs ⟨chn f1 a, 43, 0, true⟩
      obtain ⟨k2, g2, s2, t2⟩ := hs ⟨chn f2 a, 43, 0, true⟩
      have u2 := t2 mid (by omega)
      simp (maxSteps := 1000000) (implicitDefEqProofs := false) (disch := omega) [-getElem?_pos, c_impl_Tree_build, z65, h1, h0, g0, g1, g2, s0, s1, s2, hmz, hrest, hm1, e1, e2, u2, hb, znd, nd_l0, nd_l1, nd_l2, nd_l3, List.set_set, List.length_set]
      have hw : mx (mx (wB m b (xs.take mid)) (wB m b (xs.drop (mid + 1)))) (m.length - b) = m.length - b := by
        unfold wB
        simp only [mx_eq]
        split <;> split <;> omega
      rw [hw, if_neg (by omega)]
      unfold wB
      rw [if_neg h0]

theorem den_l1All (k : Nat) (m : List Blk) (v : C) (xs : List Int) (hv : Sl m v xs) (hx : xs.length < L) (hb : xs.length < 4611686018427387904) :
    den T X L (k + 2) 55 [.c v, vi (-1000000000), vi 1000000000] m = some ⟨vb (decide (∀ j, j < xs.length → isVal (nth xs j) = true)), m, 0, 0⟩ := by
  rw [den_eq T_55]
  have hlp := iter_blk (n0 := m.length) (id := 0) (ka := some []) (f := fun s => exec (den T X L (k + 1)) L m.length none c_spec_l1All_b0 s) (tr := trim m.length (some [0, 1, 2, 7])) (σ := Nat)
    (fun i => ⟨[(0, .c v), (1, vi (-1000000000)), (2, vi 1000000000), (7, vi i)], m, 0, 0⟩) (fun i => i ≤ xs.length) (fun i => xs.length - i)
    (fun i => if ∀ j, j < xs.length → i ≤ j → isVal (nth xs j) = true then (.norm, ⟨[], m, 0, 0⟩) else (.ret, ⟨[(6, vb false)], m, 0, 0⟩)) ?w
  case w =>
    intro i hi
    by_cases he : i = xs.length
    · refine ⟨.exit 0, _, by simp (maxSteps := 1000000) (implicitDefEqProofs := false) (disch := omega) [-getElem?_pos, c_spec_l1All_b0, he, hv.lenV]; rfl, ?_⟩
      rw [if_pos fun j h1 h2 => by omega]
      simp (maxSteps := 1000000) (implicitDefEqProofs := false) (disch := omega) [-getElem?_pos, c_blkx, take_mx]
    · have hi' : (i : Int) < (xs.length : Int) := by omega
      have hiv : (0 : Int) ≤ i ∧ (i : Int) < xs.length := by omega
      cases hq : isVal (nth xs i) with
      | true =>
        have hq' : inB (nth xs i) (-1000000000) 1000000000 = true := hq
        refine ⟨.norm, _, by simp (maxSteps := 1000000) (implicitDefEqProofs := false) (disch := omega) [-getElem?_pos, c_spec_l1All_b0, hi', hv.lenV, hv.ixV hiv, hv.ldV (show i < xs.length by omega), den_l1In, hq']; rfl, i + 1, ?_, by omega, by omega, ?_⟩
        · simp (maxSteps := 1000000) (implicitDefEqProofs := false) (disch := omega) [-getElem?_pos, take_mx]
        · congr 1
          apply propext
          exact ⟨fun h j h1 h2 => if hj : j = i then hj ▸ hq else h j h1 (by omega), fun h j h1 h2 => h j h1 (by omega)⟩
      | false =>
        have hq' : inB (nth xs i) (-1000000000) 1000000000 = false := hq
        refine ⟨.ret, _, by simp (maxSteps := 1000000) (implicitDefEqProofs := false) (disch := omega) [-getElem?_pos, c_spec_l1All_b0, hi', hv.lenV, hv.ixV hiv, hv.ldV (show i < xs.length by omega), den_l1In, hq']; rfl, ?_⟩
        rw [if_neg fun h => by have := h i (by omega) (Nat.le_refl _); rw [hq] at this; cases this]
        simp (maxSteps := 1000000) (implicitDefEqProofs := false) (disch := omega) [-getElem?_pos, c_blkr, take_mx]
  simp (maxSteps := 1000000) (implicitDefEqProofs := false) (disch := omega) [-getElem?_pos, c_spec_l1All]
  rw [hlp L 0 _ (Nat.zero_le _) ?tr (by show xs.length - 0 < L; omega)]
  case tr => simp (maxSteps := 1000000) (implicitDefEqProofs := false) (disch := omega) [-getElem?_pos, take_mx]
  by_cases hq : ∀ j, j < xs.length → isVal (nth xs j) = true
  · rw [if_pos fun j h1 _ => hq j h1]
    have hd := decide_eq_true hq
    simp (maxSteps := 1000000) (implicitDefEqProofs := false) (disch := omega) [-getElem?_pos, hd]
  · rw [if_neg fun h => hq fun j h1 => h j h1 (Nat.zero_le _)]
    have hd := decide_eq_false hq
    simp (maxSteps := 1000000) (implicitDefEqProofs := false) (disch := omega) [-getElem?_pos, hd]

theorem den_spec_NewTree (k : Nat) (m : List Blk) : den T X L (k + 1) 56 [] m = some ⟨.agg (chn (fun _ => nd0) (-1)), m, 0, 0⟩ := by
  rw [den_eq T_56]
  simp (maxSteps := 1000000) (implicitDefEqProofs := false) (disch := omega) [-getElem?_pos, c_spec_NewTree, z65]
theorem den_impl_NewTree (k : Nat) (m : List Blk) : den T X L (k + 1) 58 [] m = some ⟨.agg (chn (fun _ => nd0) (-1)), m, 0, 0⟩ := by
  rw [den_eq T_58]
  simp (maxSteps := 1000000) (implicitDefEqProofs := false) (disch := omega) [-getElem?_pos, c_impl_NewTree, z65]
theorem take_one (m : List Blk) (x : Blk) (c : Nat) : (m ++ [x]).take (mx m.length (mx c (m.length + 1))) = m ++ [x] := List.take_of_length_le (by simp [mx_eq]; omega)
theorem take_one2 (m : List Blk) (x : Blk) (c d : Nat) : (m ++ [x]).take (mx m.length (mx c (mx (m.length + 1) d))) = m ++ [x] := List.take_of_length_le (by simp [mx_eq]; omega)
def rise (xs : List Int) (q : Nat) : Prop := ∀ j, q ≤ j → j + 1 < xs.length → nth xs j < nth xs (j + 1)
instance (xs : List Int) (q : Nat) : Decidable (rise xs q) := by
  unfold rise
  exact decidable_of_iff (∀ j, j < xs.length → q ≤ j → j + 1 < xs.length → nth xs j < nth xs (j + 1)) ⟨fun h j a b => h j (by omega) a b, fun h j _ a b => h j a b⟩
theorem rise_step {xs : List Int} {q : Nat} (h : nth xs q < nth xs (q + 1)) : rise xs (q + 1) ↔ rise xs q :=
  ⟨fun g j h1 h2 => if hj : j = q then hj ▸ h else g j (by omega) h2, fun g j h1 h2 => g j (by omega) h2⟩

def goodK (xs : List Int) : Prop := xs.length ≤ 16 ∧ (∀ j, j < xs.length → isVal (nth xs j) = true) ∧ rise xs 0
instance (xs : List Int) : Decidable (goodK xs) := by unfold goodK; infer_instance
def treeBuild (xs : List Int) : (Nat → Nd) × Int × Bool :=
  if goodK xs then ((Bd 17 (fun _ => nd0) xs 0).1, (Bd 17 (fun _ => nd0) xs 0).2.1, true) else ((fun _ => nd0), -1, false)
theorem tb_bad {xs : List Int} (h : ¬ goodK xs) : treeBuild xs = ((fun _ => nd0), -1, false) := if_neg h
theorem tb_good {xs : List Int} (h : goodK xs) : treeBuild xs = ((Bd 17 (fun _ => nd0) xs 0).1, (Bd 17 (fun _ => nd0) xs 0).2.1, true) := if_pos h
def outB (t : (Nat → Nd) × Int × Bool) : V := .tup [.agg (chn t.1 t.2.1), vb t.2.2]

theorem den_spec_TreeBuild (hL : 100 ≤ L) (k : Nat) (m : List Blk) (v : C) (xs : List Int) (hv : Sl m v xs) (hx : xs.length < L) (hb : xs.length ≤ 1048576) :
    den T X L (k + 20) 21 [.c v] m = some ⟨outB (treeBuild xs), m, 0, 0⟩ := by
  rw [den_eq T_21]
  have h1 := fun l : List Blk => (hv.grow (l := l)).lenV
  have hl := iter_blk (n0 := m.length) (id := 0) (ka := some [0, 2]) (f := fun s => exec (den T X L (k + 19)) L m.length none c_spec_TreeBuild_b0 s) (tr := trim m.length (some [0, 2, 4])) (σ := Nat)
    (fun q => ⟨[(0, .c v), (2, .c (.ptr m.length 0 65)), (4, vi ((q : Int) + 1))], m ++ [⟨chn (fun _ => nd0) 0, 43, 0, true⟩], 0, 0⟩) (fun q => q ≤ xs.length) (fun q => xs.length - q)
    (fun q => if rise xs q then (.norm, ⟨[(0, .c v), (2, .c (.ptr m.length 0 65))], m ++ [⟨chn (fun _ => nd0) 0, 43, 0, true⟩], 0, 0⟩)
      else (.ret, ⟨[(2, .c (.ptr m.length 0 65)), (3, vb false)], m ++ [⟨chn (fun _ => nd0) (-1), 43, 0, true⟩], 0, 0⟩)) ?w
  case w =>
    intro q hq
    by_cases he : q + 1 < xs.length
    · have hi' : (q : Int) + 1 < (xs.length : Int) := by omega
      have hq1 : ((q : Int) + 1).toNat = q + 1 := by omega
      have h2 := fun l : List Blk => (hv.grow (l := l)).ixV (show (0 : Int) ≤ q ∧ (q : Int) < xs.length by omega)
      have h3 := fun l : List Blk => (hv.grow (l := l)).ixV (show (0 : Int) ≤ q + 1 ∧ (q : Int) + 1 < xs.length by omega)
      have h4 := fun l : List Blk => (hv.grow (l := l)).ldV (show q < xs.length by omega)
      have h5 := fun l : List Blk => (hv.grow (l := l)).ldV (show q + 1 < xs.length by omega)
      by_cases hr : nth xs q < nth xs (q + 1)
      · have hr' : ¬ nth xs (q + 1) ≤ nth xs q := by omega
        refine ⟨.norm, _, by simp (maxSteps := 1000000) (implicitDefEqProofs := false) (disch := omega) [-getElem?_pos, c_spec_TreeBuild_b0, hi', hq1, h1, h2, h3, h4, h5, hr, hr']; rfl, q + 1, ?_, by omega, by omega, by simp only [rise_step hr]⟩
        simp (maxSteps := 1000000) (implicitDefEqProofs := false) (disch := omega) [-getElem?_pos, take_one, take_one2]
      · have hr' : nth xs (q + 1) ≤ nth xs q := by omega
        refine ⟨.ret, _, by simp (maxSteps := 1000000) (implicitDefEqProofs := false) (disch := omega) [-getElem?_pos, c_spec_TreeBuild_b0, hi', hq1, h1, h2, h3, h4, h5, hr, hr', den_spec_NewTree]; rfl, ?_⟩
        rw [if_neg (show ¬ rise xs q from fun h => hr (h q (Nat.le_refl _) he))]
        simp (maxSteps := 1000000) (implicitDefEqProofs := false) (disch := omega) [-getElem?_pos, c_blkr, take_one, take_one2]
    · have hi' : ¬ (q : Int) + 1 < (xs.length : Int) := by omega
      refine ⟨.exit 0, _, by simp (maxSteps := 1000000) (implicitDefEqProofs := false) (disch := omega) [-getElem?_pos, c_spec_TreeBuild_b0, hi', h1]; rfl, ?_⟩
      rw [if_pos (show rise xs q from fun j h1 h2 => by omega)]
      simp (maxSteps := 1000000) (implicitDefEqProofs := false) (disch := omega) [-getElem?_pos, c_blkx, take_one, take_one2]
  by_cases h16 : 16 < xs.length
  · have h16' : (16 : Int) < (xs.length : Int) := by omega
    rw [tb_bad fun h => by have := h.1; omega]
    simp (maxSteps := 1000000) (implicitDefEqProofs := false) (disch := omega) [-getElem?_pos, c_spec_TreeBuild, z65, h1, h16', den_spec_NewTree, outB]
  · have h16' : ¬ (16 : Int) < (xs.length : Int) := by omega
    have ha := fun l : List Blk => den_l1All (X := X) (L := L) (k + 17) (m ++ l) v xs hv.grow hx (by omega)
    by_cases hv' : ∀ j, j < xs.length → isVal (nth xs j) = true
    · rw [decide_eq_true hv'] at ha
      by_cases hr : rise xs 0
      · rw [tb_good ⟨by omega, hv', hr⟩]
        have hB : ∀ l : List Blk, den T X L (k + 19) 57 [.agg (nds 16 (fun _ => nd0) ++ [ci 0]), .c v, vi 0] (m ++ l) = _ := fun l => den_l15Build (X := X) hL 17 (k + 18) (m ++ l) (fun _ => nd0) 0 0 v xs (by omega) (by omega) hv.grow (by omega)
        simp (maxSteps := 1000000) (implicitDefEqProofs := false) (disch := omega) [-getElem?_pos, c_spec_TreeBuild, z65, h1, h16', ha]
        rw [hl L 0 _ (Nat.zero_le _) ?tr (by show xs.length - 0 < L; omega)]
        case tr => simp (maxSteps := 1000000) (implicitDefEqProofs := false) (disch := omega) [-getElem?_pos, take_one, take_one2]
        rw [if_pos hr]
        simp (maxSteps := 1000000) (implicitDefEqProofs := false) (disch := omega) [-getElem?_pos, z65, hB, outB]
      · rw [tb_bad fun h => hr h.2.2]
        simp (maxSteps := 1000000) (implicitDefEqProofs := false) (disch := omega) [-getElem?_pos, c_spec_TreeBuild, z65, h1, h16', ha]
        rw [hl L 0 _ (Nat.zero_le _) ?tr2 (by show xs.length - 0 < L; omega)]
        case tr2 => simp (maxSteps := 1000000) (implicitDefEqProofs := false) (disch := omega) [-getElem?_pos, take_one, take_one2]
        rw [if_neg hr]
        simp (maxSteps := 1000000) (implicitDefEqProofs := false) (disch := omega) [-getElem?_pos, outB]
    · rw [decide_eq_false hv'] at ha
      rw [tb_bad fun h => hv' h.2.1]
      simp (maxSteps := 1000000) (implicitDefEqProofs := false) (disch := omega) [-getElem?_pos, c_spec_TreeBuild, z65, h1, h16', ha, den_spec_NewTree, outB]

def rest (xs : List Int) (i : Nat) : Prop := ∀ j, j < xs.length → i ≤ j → j < 16 ∧ isVal (nth xs j) = true ∧ (0 < j → nth xs (j - 1) < nth xs j)
instance (xs : List Int) (i : Nat) : Decidable (rest xs i) := by unfold rest; infer_instance
theorem rest_step {xs : List Int} {i : Nat} (h : i < 16 ∧ isVal (nth xs i) = true ∧ (0 < i → nth xs (i - 1) < nth xs i)) : rest xs (i + 1) ↔ rest xs i :=
  ⟨fun g j h1 h2 => if hj : j = i then hj ▸ h else g j h1 (by omega), fun g j h1 h2 => g j h1 (by omega)⟩
theorem rest_good {xs : List Int} : rest xs 0 ↔ goodK xs := by
  constructor
  · intro h
    refine ⟨?_, fun j hj => (h j hj (Nat.zero_le _)).2.1, fun j _ hj => (h (j + 1) hj (Nat.zero_le _)).2.2 (by omega)⟩
    rcases Nat.lt_or_ge 16 xs.length with hl | hl
    · have := (h 16 hl (Nat.zero_le _)).1; omega
    · exact hl
  · intro h j hj _
    refine ⟨by have := h.1; omega, h.2.1 j hj, fun h0 => ?_⟩
    have := h.2.2 (j - 1) (Nat.zero_le _) (by omega)
    rwa [show j - 1 + 1 = j by omega] at this
theorem den_impl_TreeBuild (hL : 100 ≤ L) (k : Nat) (m : List Blk) (v : C) (xs : List Int) (hv : Sl m v xs) (hx : xs.length < L) (hb : xs.length ≤ 1048576) :
    den T X L (k + 20) 23 [.c v] m = some ⟨outB (treeBuild xs), m, 0, 0⟩ := by
  rw [den_eq T_23]
  have h1 := fun l : List Blk => (hv.grow (l := l)).lenV
  have hl := iter_blk (n0 := m.length) (id := 0) (ka := some [0, 2]) (f := fun s => exec (den T X L (k + 19)) L m.length none c_impl_TreeBuild_b0 s) (tr := trim m.length (some [0, 2, 7, 8, 9])) (σ := Nat)
    (fun q => ⟨[(0, .c v), (2, .c (.ptr m.length 0 65)), (7, .c v), (8, vi xs.length), (9, vi q)], m ++ [⟨chn (fun _ => nd0) 0, 43, 0, true⟩], 0, 0⟩) (fun q => q ≤ xs.length) (fun q => xs.length - q)
    (fun q => if rest xs q then (.norm, ⟨[(0, .c v), (2, .c (.ptr m.length 0 65))], m ++ [⟨chn (fun _ => nd0) 0, 43, 0, true⟩], 0, 0⟩)
      else (.ret, ⟨[(2, .c (.ptr m.length 0 65)), (3, vb false)], m ++ [⟨chn (fun _ => nd0) (-1), 43, 0, true⟩], 0, 0⟩)) ?w
  case w =>
    intro q hq
    by_cases he : q < xs.length
    · have hi' : (q : Int) < (xs.length : Int) := by omega
      have h2 := fun l : List Blk => (hv.grow (l := l)).ixV (show (0 : Int) ≤ q ∧ (q : Int) < xs.length by omega)
      have h3 := fun l : List Blk => (hv.grow (l := l)).ldV (show q < xs.length by omega)
      by_cases h16 : q < 16
      · have h16' : ¬ (16 : Int) ≤ (q : Int) := by omega
        cases hi : isVal (nth xs q) with
        | true =>
          by_cases h0 : q = 0
          · subst h0
            have h2' : ∀ l : List Blk, ixsV (m ++ l) 1 (.c v) (vi 0) = some (.c (ptrOf v 0)) := h2
            refine ⟨.norm, _, by simp (maxSteps := 1000000) (implicitDefEqProofs := false) (disch := omega) [-getElem?_pos, c_impl_TreeBuild_b0, he, h1, h2', h3, hi, den_isValue]; rfl, 0 + 1, ?_, by omega, by omega, by simp only [rest_step ⟨h16, hi, fun h => by omega⟩]⟩
            simp (maxSteps := 1000000) (implicitDefEqProofs := false) (disch := omega) [-getElem?_pos, take_one, take_one2]
          · obtain ⟨p, rfl⟩ : ∃ p, q = p + 1 := ⟨q - 1, by omega⟩
            have hp0 : (0 : Int) < (p : Int) + 1 := by omega
            have hp1 : ((p : Int) + 1).toNat = p + 1 := by omega
            have hz : ((p + 1 : Nat) : Int) = (p : Int) + 1 := by omega
            have h4 := fun l : List Blk => (hv.grow (l := l)).ixV (show (0 : Int) ≤ p ∧ (p : Int) < xs.length by omega)
            have h5 := fun l : List Blk => (hv.grow (l := l)).ldV (show p < xs.length by omega)
            rw [hz] at hi' h2 h16'
            by_cases hr : nth xs p < nth xs (p + 1)
            · have hr' : ¬ nth xs (p + 1) ≤ nth xs p := by omega
              refine ⟨.norm, _, by simp (maxSteps := 1000000) (implicitDefEqProofs := false) (disch := omega) [-getElem?_pos, c_impl_TreeBuild_b0, hi', h16', hp0, hp1, hz, h1, h2, h3, h4, h5, hi, hr, hr', den_isValue]; rfl, p + 1 + 1, ?_, by omega, by omega, by simp only [rest_step ⟨h16, hi, fun _ => hr⟩]⟩
              simp (maxSteps := 1000000) (implicitDefEqProofs := false) (disch := omega) [-getElem?_pos, take_one, take_one2]
            · have hr' : nth xs (p + 1) ≤ nth xs p := by omega
              refine ⟨.ret, _, by simp (maxSteps := 1000000) (implicitDefEqProofs := false) (disch := omega) [-getElem?_pos, c_impl_TreeBuild_b0, hi', h16', hp0, hp1, hz, h1, h2, h3, h4, h5, hi, hr, hr', den_isValue, den_impl_NewTree]; rfl, ?_⟩
              rw [if_neg (show ¬ rest xs (p + 1) from fun h => hr ((h (p + 1) he (Nat.le_refl _)).2.2 (by omega)))]
              simp (maxSteps := 1000000) (implicitDefEqProofs := false) (disch := omega) [-getElem?_pos, c_blkr, take_one, take_one2]
        | false =>
          refine ⟨.ret, _, by simp (maxSteps := 1000000) (implicitDefEqProofs := false) (disch := omega) [-getElem?_pos, c_impl_TreeBuild_b0, hi', h16', h1, h2, h3, hi, den_isValue, den_impl_NewTree]; rfl, ?_⟩
          rw [if_neg (show ¬ rest xs q from fun h => by have := (h q he (Nat.le_refl _)).2.1; rw [hi] at this; cases this)]
          simp (maxSteps := 1000000) (implicitDefEqProofs := false) (disch := omega) [-getElem?_pos, c_blkr, take_one, take_one2]
      · have h16' : (16 : Int) ≤ (q : Int) := by omega
        refine ⟨.ret, _, by simp (maxSteps := 1000000) (implicitDefEqProofs := false) (disch := omega) [-getElem?_pos, c_impl_TreeBuild_b0, hi', h16', h1, h2, h3, den_impl_NewTree]; rfl, ?_⟩
        rw [if_neg (show ¬ rest xs q from fun h => h16 (h q he (Nat.le_refl _)).1)]
        simp (maxSteps := 1000000) (implicitDefEqProofs := false) (disch := omega) [-getElem?_pos, c_blkr, take_one, take_one2]
    · have hi' : ¬ (q : Int) < (xs.length : Int) := by omega
      refine ⟨.exit 0, _, by simp (maxSteps := 1000000) (implicitDefEqProofs := false) (disch := omega) [-getElem?_pos, c_impl_TreeBuild_b0, hi', h1]; rfl, ?_⟩
      rw [if_pos (show rest xs q from fun j h1 h2 => by omega)]
      simp (maxSteps := 1000000) (implicitDefEqProofs := false) (disch := omega) [-getElem?_pos, c_blkx, take_one, take_one2]
  simp (maxSteps := 1000000) (implicitDefEqProofs := false) (disch := omega) [-getElem?_pos, c_impl_TreeBuild, z65, hv.lenV, h1]
  rw [hl L 0 _ (Nat.zero_le _) ?tr (by show xs.length - 0 < L; omega)]
  case tr => simp (maxSteps := 1000000) (implicitDefEqProofs := false) (disch := omega) [-getElem?_pos, take_one, take_one2]
  by_cases hg : goodK xs
  · rw [if_pos (rest_good.2 hg), tb_good hg]
    obtain ⟨w, hw, hB⟩ : ∃ w, w - 2 = 0 ∧ ∀ z : Blk, den T X L (k + 19) 59 [.c (.ptr (m.length + 1) 0 65), .c v, vi 0] (m ++ [z, ⟨chn (fun _ => nd0) (-1), 43, 0, true⟩]) =
        some ⟨.tup [vi (Bd 17 (fun _ => nd0) xs 0).2.1, vi (Bd 17 (fun _ => nd0) xs 0).2.2], m ++ [z, ⟨chn (Bd 17 (fun _ => nd0) xs 0).1 (-1), 43, 0, true⟩], 0, w⟩ := by
      have hlen := hg.1
      refine ⟨if xs.length = 0 then 0 else 1, by split <;> rfl, fun z => ?_⟩
      have := den_build (X := X) hL 17 (k + 18) (m ++ [z, ⟨chn (fun _ => nd0) (-1), 43, 0, true⟩]) (m.length + 1) (fun _ => nd0) (-1) 0 v xs (by omega) (by omega) (by simp) (fun x => by rw [set_app]; exact hv.grow) (by omega)
      simp only [set_app, List.set_cons_succ, List.set_cons_zero, wB] at this
      simp only [List.length_append, List.length_cons, List.length_nil, show m.length + (0 + 1 + 1) - (m.length + 1) = 1 by omega] at this
      exact this
    simp (maxSteps := 1000000) (implicitDefEqProofs := false) (disch := omega) [-getElem?_pos, z65, den_impl_NewTree, hB, hw, outB]
  · rw [if_neg fun h => hg (rest_good.1 h), tb_bad hg]
    simp (maxSteps := 1000000) (implicitDefEqProofs := false) (disch := omega) [-getElem?_pos, outB]
theorem den_FnExactTreeBuild (hL : 1048577 ≤ L) (k : Nat) (m : List Blk) (v : C) (xs : List Int) (hv : Sl m v xs) : den T X L (k + 22) 5 [.c v] m = some ⟨vb true, m, 0, 0⟩ := by
  rw [den_eq T_5]
  by_cases hb : 1048576 < xs.length
  · have hb' : (1048576 : Int) < (xs.length : Int) := by omega
    simp (maxSteps := 1000000) (implicitDefEqProofs := false) (disch := omega) [-getElem?_pos, c_laws_FnExactTreeBuild, hv.lenV, hb']
  · have hb' : ¬ (1048576 : Int) < (xs.length : Int) := by omega
    have ht0 := den_toIntS (X := X) (L := L) (k + 20) m v xs hv (by omega) (by omega)
    have ht : ∀ l : List Blk, den T X L (k + 21) 22 [.c v] (m ++ l) = some ⟨.c (.sl (m.length + l.length) 0 xs.length xs.length), m ++ (l ++ [blkI xs]), 0, 0⟩ := fun l => by
      have := den_toIntS (X := X) (L := L) (k + 20) (m ++ l) v xs hv.grow (by omega) (by omega)
      rw [this, List.length_append, List.append_assoc]
    have hs1 := den_spec_TreeBuild (X := X) (L := L) (by omega) (k + 1) (m ++ [blkI xs]) (.sl m.length 0 xs.length xs.length) xs (live_ints (ty := 3) (o := true) (by simp)) (by omega) (by omega)
    have hs2 := fun x => den_impl_TreeBuild (X := X) (L := L) (by omega) (k + 1) (m ++ [blkI xs, x, blkI xs]) (.sl (m.length + 2) 0 xs.length xs.length) xs (live_ints (ty := 3) (o := true) (by simp)) (by omega) (by omega)
    have he := fun x y => eqI_b (X := X) (L := L) (k + 20) (m ++ [blkI xs, x, blkI xs, y, blkI xs]) (m.length + 2) (m.length + 4) xs.length xs (by simp) (by simp) rfl (by omega) (by omega)
    simp (maxSteps := 1000000) (implicitDefEqProofs := false) (disch := omega) [-getElem?_pos, c_laws_FnExactTreeBuild, z65, hv.lenV, hb', ht0, ht, hs1, hs2, outB, den_eqTree (show 100 ≤ L by omega) (k + 18), he]
end Go.Proofs.Ytonkgmajfcpeeaa
