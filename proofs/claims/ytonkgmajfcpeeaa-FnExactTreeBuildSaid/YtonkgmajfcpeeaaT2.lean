/-
  Trees: the reference's test, run; the law of TreeOk.
-/
import Derived.Test.YtonkgmajfcpeeaaT1
import Derived.Test.YtonkgmajfcpeeaaC10
set_option linter.unusedVariables false
set_option linter.unusedSimpArgs false
set_option maxHeartbeats 4000000
namespace Go.Proofs.Ytonkgmajfcpeeaa
variable {X : FuncId → List V → List Blk → Option Ret} {L : Nat}

def toI (l : List Nat) : List Int := l.map fun (x : Nat) => (x : Int)
theorem toI_len (l : List Nat) : (toI l).length = l.length := by simp [toI]
theorem toI_snoc (l : List Nat) (q : Nat) : toI l ++ [(q : Int)] = toI (l ++ [q]) := by simp [toI]
theorem K_len : ∀ (n : Nat) (f : Nat → Nd) (p : Int) (out : List Nat), out.length ≤ 16 → (K n f p out).1.length ≤ 16
  | 0, _, _, _, h => h
  | n + 1, f, p, out, h => by
    unfold K
    split
    · exact h
    · split
      · split
        · rename_i hc
          exact K_len n _ _ _ (by simp only [List.length_append, List.length_cons, List.length_nil]; omega)
        · exact K_len n _ _ _ h
      · exact h

theorem K_lt : ∀ (n : Nat) (f : Nat → Nd) (p : Int) (out : List Nat), (∀ x ∈ out, x < 16) → ∀ x ∈ (K n f p out).1, x < 16
  | 0, _, _, _, h => h
  | n + 1, f, p, out, h => by
    unfold K
    split
    · exact h
    · split
      · rename_i hc
        simp only [Bool.and_eq_true, inB_iff] at hc
        split
        · refine K_lt n _ _ _ fun x hx => ?_
          rcases List.mem_append.1 hx with hx | hx
          · exact K_lt n _ _ _ h x hx
          · have := List.mem_singleton.1 hx
            omega
        · exact K_lt n _ _ _ h
      · exact h
theorem den_l15Keys (hL : 100 ≤ L) : ∀ (n k : Nat) (m : List Blk) (b : Nat) (f : Nat → Nd) (a p : Int) (out : List Nat), n ≤ k → b < m.length → usedC f < n → out.length ≤ 16 →
    ∃ W, W ≤ m.length - b ∧ den T X L (k + 2) 52 [.agg (chn f a), vi p, .c (.sl b 0 out.length out.length)] (m.set b (blkI (toI out))) =
      some ⟨.tup [.c (.sl b 0 (K n f p out).1.length (K n f p out).1.length), vb (K n f p out).2], m.set b (blkI (toI (K n f p out).1)), 0, W⟩ := by
  intro n
  induction n with
  | zero => intro k m b f a p out hk hb hn; omega
  | succ n ih =>
    intro k m b f a p out hk0 hb hn hout
    obtain ⟨k, rfl⟩ : ∃ k', k = k' + 1 := ⟨k - 1, by omega⟩
    rw [den_eq T_52]
    have hW : m.length - b ≠ 0 := by omega
    have hbn : ¬ m.length ≤ b := by omega
    by_cases hp : p = -1
    · subst hp
      exact ⟨0, Nat.zero_le _, by simp (maxSteps := 1000000) (implicitDefEqProofs := false) (disch := omega) [-getElem?_pos, c_spec_l15Keys, K_end, hb]⟩
    · cases hin : inB p 0 15 with
      | false => exact ⟨0, Nat.zero_le _, by rw [K_bad hp (by simp [hin])]; simp (maxSteps := 1000000) (implicitDefEqProofs := false) (disch := omega) [-getElem?_pos, c_spec_l15Keys, hp, den_l1In (k + 1), hin, hb]⟩
      | true =>
        have hin' := inB_iff.mp hin
        obtain ⟨q, rfl⟩ : ∃ q : Nat, p = q := ⟨p.toNat, by omega⟩
        have hq : q < 16 := by omega
        have hp' : ¬ (q : Int) = -1 := hp
        cases hu : (f q).u with
        | false => exact ⟨0, Nat.zero_le _, by rw [K_bad hp (by simp [hu])]; simp (maxSteps := 1000000) (implicitDefEqProofs := false) (disch := omega) [-getElem?_pos, c_spec_l15Keys, hp', den_l1In (k + 1), hin, hu, hb]⟩
        | true =>
          by_cases ho : out.length < 16
          · have hc := usedC_hide hq hu
            have ho' : ¬ (out.length : Int) ≥ 16 := by omega
            rw [K_go hq hu ho]
            obtain ⟨W1, w1, e1⟩ := ih k (m ++ [⟨chn (upd f q nd0) a, 43, 0, true⟩, ⟨nd (f q), 40, 0, true⟩]) b (upd f q nd0) a (f q).b out (by omega) (by simp; omega) (by omega) hout
            rw [List.set_append_left _ _ hb, List.set_append_left _ _ hb] at e1
            rw [List.length_append] at w1
            simp only [List.length_cons, List.length_nil] at w1
            have hlen1 := K_len n (upd f q nd0) (f q).b out hout
            generalize hr1 : K n (upd f q nd0) (f q).b out = r1 at e1 hlen1
            obtain ⟨r1, b1⟩ := r1
            simp only at e1 hlen1
            by_cases hc2 : b1 = true ∧ r1.length < 16
            · obtain ⟨rfl, hc2⟩ := hc2
              have hc2' : ¬ (r1.length : Int) ≥ 16 := by omega
              obtain ⟨W2, w2, e2⟩ := ih k (m ++ [⟨chn (upd f q nd0) a, 43, 0, true⟩, ⟨nd (f q), 40, 0, true⟩, ⟨[.int .i64 q], 3, 1, true⟩]) b (upd f q nd0) a (f q).c (r1 ++ [q]) (by omega) (by simp; omega) (by omega) (by simp only [List.length_append, List.length_cons, List.length_nil]; omega)
              have hl1 : (r1 ++ [q]).length = r1.length + 1 := by simp
              rw [List.set_append_left _ _ hb, List.set_append_left _ _ hb, hl1] at e2
              simp only [List.length_append, List.length_cons, List.length_nil] at w2
              have hmx : mx (mx (W1 - 2) (m.length - b)) (W2 - 3) = m.length - b := by rw [mx_eq, mx_eq]; omega
              refine ⟨m.length - b, Nat.le_refl _, ?_⟩
              rw [if_pos ⟨rfl, hc2⟩]
              simp (maxSteps := 1000000) (implicitDefEqProofs := false) (disch := omega) [-getElem?_pos, c_spec_l15Keys, hp', den_l1In (k + 1), hin, hu, hb, ho', znd0, nd_g0, nd_g1, nd_g2, nd_g3, nd_lay, e1, hc2', toI_len, ints_snoc, toI_snoc, e2, hbn]
              intro h; omega
            · rw [if_neg hc2]
              refine ⟨W1 - 2, by omega, ?_⟩
              cases b1 with
              | false =>
                simp (maxSteps := 1000000) (implicitDefEqProofs := false) (disch := omega) [-getElem?_pos, c_spec_l15Keys, hp', den_l1In (k + 1), hin, hu, hb, ho', znd0, nd_g0, nd_g1, nd_g2, nd_g3, nd_lay, e1, toI_len, hbn]
                intro h; omega
              | true =>
                have hc3 : (r1.length : Int) ≥ 16 := by
                  have : ¬ r1.length < 16 := fun h => hc2 ⟨rfl, h⟩
                  omega
                simp (maxSteps := 1000000) (implicitDefEqProofs := false) (disch := omega) [-getElem?_pos, c_spec_l15Keys, hp', den_l1In (k + 1), hin, hu, hb, ho', znd0, nd_g0, nd_g1, nd_g2, nd_g3, nd_lay, e1, toI_len, hbn, hc3]
                intro h; omega
          · refine ⟨0, Nat.zero_le _, ?_⟩
            rw [K_bad hp (by simp [ho])]
            simp (maxSteps := 1000000) (implicitDefEqProofs := false) (disch := omega) [-getElem?_pos, c_spec_l15Keys, hp', den_l1In (k + 1), hin, hu, hb, toI_len, show (out.length : Int) ≥ 16 by omega]

theorem usedC_succ {f : Nat → Nd} : usedC f = usedTo f 16 := rfl
theorem toI_get {l : List Nat} {j : Nat} (h : j < l.length) : (ints (toI l))[j]? = some (ci (l.getD j 0 : Nat)) := by
  rw [ints_get' (by rw [toI_len]; exact h)]
  simp [toI, h, List.getD_eq_getElem?_getD]
theorem den_spec_TreeOk (hL : 100 ≤ L) (k : Nat) (m : List Blk) (f : Nat → Nd) (a : Int) : den T X L (k + 20) 18 [.agg (chn f a)] m = some ⟨vb (treeOk f a), m, 0, 0⟩ := by
  rw [den_eq T_18]
  have hl := iter_all (f := fun s => exec (den T X L (k + 19)) L m.length none c_spec_TreeOk_b0 s) (tr := trim m.length (some [1, 3, 4]))
    (fun i => ⟨[(1, .c (.ptr m.length 0 65)), (3, vi (usedTo f i)), (4, vi i)], m ++ [⟨chn f a, 43, 0, true⟩], 0, 0⟩) 16 (fun i => tnOk (f i) = true)
    ⟨[(2, vb false)], m, 0, 0⟩ ?s1 ?s2 ⟨0, _, by simp (maxSteps := 1000000) (implicitDefEqProofs := false) (disch := omega) [-getElem?_pos, c_spec_TreeOk_b0]; rfl⟩
  case s1 =>
    intro i hi hk
    have hi' : (i : Int) < 16 := by omega
    have hu := used_le (f := f) i
    unfold tnOk at hk
    cases h : (f i).u with
    | true =>
      rw [if_pos h] at hk
      refine ⟨_, by simp (maxSteps := 1000000) (implicitDefEqProofs := false) (disch := omega) [-getElem?_pos, c_spec_TreeOk_b0, znd0, nd_g0, nd_g1, nd_lay, nd_take, eqa_nd, hi', den_l1Value (k + 17), h, hk]; rfl, ?_⟩
      simp (maxSteps := 1000000) (implicitDefEqProofs := false) (disch := omega) [-getElem?_pos, used_t h]
    | false =>
      rw [if_neg (by simp [h])] at hk
      simp only [Bool.and_eq_true, decide_eq_true_eq] at hk
      refine ⟨_, by simp (maxSteps := 1000000) (implicitDefEqProofs := false) (disch := omega) [-getElem?_pos, c_spec_TreeOk_b0, znd0, nd_g0, nd_g1, nd_lay, nd_take, eqa_nd, hi', den_l1Value (k + 17), h, hk.1.1, hk.1.2, hk.2]; rfl, ?_⟩
      simp (maxSteps := 1000000) (implicitDefEqProofs := false) (disch := omega) [-getElem?_pos, used_f h]
  case s2 =>
    intro i hi hk
    have hi' : (i : Int) < 16 := by omega
    unfold tnOk at hk
    cases h : (f i).u with
    | true =>
      rw [if_pos h] at hk
      simp (maxSteps := 1000000) (implicitDefEqProofs := false) (disch := omega) [-getElem?_pos, c_spec_TreeOk_b0, znd0, nd_g0, nd_g1, nd_lay, nd_take, eqa_nd, hi', den_l1Value (k + 17), h, hk]
    | false =>
      rw [if_neg (by simp [h])] at hk
      simp only [Bool.and_eq_true, decide_eq_true_eq] at hk
      by_cases ha : (f i).a = 0
      · by_cases hb : (f i).b = 0
        · have hc : ¬ (f i).c = 0 := fun hc => hk ⟨⟨ha, hb⟩, hc⟩
          simp (maxSteps := 1000000) (implicitDefEqProofs := false) (disch := omega) [-getElem?_pos, c_spec_TreeOk_b0, znd0, nd_g0, nd_g1, nd_lay, nd_take, eqa_nd, hi', den_l1Value (k + 17), h, ha, hb, hc]
        · simp (maxSteps := 1000000) (implicitDefEqProofs := false) (disch := omega) [-getElem?_pos, c_spec_TreeOk_b0, znd0, nd_g0, nd_g1, nd_lay, nd_take, eqa_nd, hi', den_l1Value (k + 17), h, ha, hb]
      · simp (maxSteps := 1000000) (implicitDefEqProofs := false) (disch := omega) [-getElem?_pos, c_spec_TreeOk_b0, znd0, nd_g0, nd_g1, nd_lay, nd_take, eqa_nd, hi', den_l1Value (k + 17), h, ha]
  simp (maxSteps := 1000000) (implicitDefEqProofs := false) (disch := omega) [-getElem?_pos, c_spec_TreeOk]
  rw [hl L 0 _ ?tr (by omega) (by omega)]
  case tr => simp (maxSteps := 1000000) (implicitDefEqProofs := false) (disch := omega) [-getElem?_pos, usedTo, cn]
  unfold treeOk
  by_cases hok : ∀ i : Nat, i < 16 → tnOk (f i) = true
  case neg =>
    rw [if_neg fun h' => hok fun j h1 => h' j h1 (Nat.zero_le _), decide_eq_false hok]
    simp (maxSteps := 1000000) (implicitDefEqProofs := false) (disch := omega) [-getElem?_pos]
  rw [if_pos fun j h1 _ => hok j h1, decide_eq_true hok, Bool.true_and]
  obtain ⟨W, w1, e1⟩ := den_l15Keys (X := X) hL 17 (k + 17) (m ++ [⟨chn f a, 43, 0, true⟩, blkI []]) (m.length + 1) f a a [] (by omega) (by simp) (Nat.lt_of_le_of_lt (cn_le 16) (by omega)) (by simp)
  have hKl := K_len 17 f a [] (by simp)
  have hKt := K_lt 17 f a [] (by simp)
  have hus := cn_le (q := fun i => (f i).u) 16
  generalize K 17 f a [] = r at e1 hKl hKt
  obtain ⟨l, ok⟩ := r
  simp only at hKl hKt ⊢
  rw [set_app, set_app] at e1
  simp only [List.set_cons_succ, List.set_cons_zero, List.length_nil] at e1
  have e1' : den T X L (k + 19) 52 [.agg (chn f a), vi a, .c (.sl (m.length + 1) 0 0 0)] (m ++ [⟨chn f a, 43, 0, true⟩, ⟨[], 3, 1, true⟩]) = some ⟨.tup [.c (.sl (m.length + 1) 0 l.length l.length), vb ok], m ++ [⟨chn f a, 43, 0, true⟩, blkI (toI l)], 0, W⟩ := e1
  have hW : W - 2 = 0 := by simp at w1; omega
  have hgt : ∀ j, l.getD j 0 < 16 := fun j => by
    rw [List.getD_eq_getElem?_getD]
    cases h : l[j]? with
    | none => simp
    | some x => exact hKt x (List.mem_of_getElem? h)
  have hl2 := iter_all (f := fun s => exec (den T X L (k + 19)) L m.length none c_spec_TreeOk_b1 s) (tr := trim m.length (some [1, 3, 6, 7, 8]))
    (fun i => ⟨[(1, .c (.ptr m.length 0 65)), (3, vi (usedTo f 16)), (6, .c (.sl (m.length + 1) 0 l.length l.length)), (7, vb ok), (8, vi ((i : Int) + 1))], m ++ [⟨chn f a, 43, 0, true⟩, blkI (toI l)], 0, 0⟩) (l.length - 1) (fun i => keyAt f l i < keyAt f l (i + 1))
    ⟨[(2, vb false)], m, 0, 0⟩ ?t1 ?t2 ⟨2, _, by simp (maxSteps := 1000000) (implicitDefEqProofs := false) (disch := omega) [-getElem?_pos, c_spec_TreeOk_b1, toI_len, show ¬ (((l.length - 1 : Nat) : Int) + 1 < (l.length : Int)) by omega]; rfl⟩
  case t1 =>
    intro i hi hk
    have hi' : (i : Int) + 1 < (l.length : Int) := by omega
    have q1 := hgt i
    have q2 := hgt (i + 1)
    have g1 := toI_get (l := l) (j := i) (by omega)
    have g2 := toI_get (l := l) (j := i + 1) (by omega)
    unfold keyAt at hk
    generalize l.getD i 0 = x at q1 g1 hk
    generalize l.getD (i + 1) 0 = y at q2 g2 hk
    have hk' : ¬ (f x).a ≥ (f y).a := by omega
    refine ⟨_, by simp (maxSteps := 1000000) (implicitDefEqProofs := false) (disch := omega) [-getElem?_pos, c_spec_TreeOk_b1, toI_len, hi', show (i : Int) + 1 - 1 = i by omega, show ((i : Int) + 1).toNat = i + 1 by omega, g1, g2, hk']; rfl, ?_⟩
    simp (maxSteps := 1000000) (implicitDefEqProofs := false) (disch := omega) [-getElem?_pos]
  case t2 =>
    intro i hi hk
    have hi' : (i : Int) + 1 < (l.length : Int) := by omega
    have q1 := hgt i
    have q2 := hgt (i + 1)
    have g1 := toI_get (l := l) (j := i) (by omega)
    have g2 := toI_get (l := l) (j := i + 1) (by omega)
    unfold keyAt at hk
    generalize l.getD i 0 = x at q1 g1 hk
    generalize l.getD (i + 1) 0 = y at q2 g2 hk
    have hk' : (f x).a ≥ (f y).a := by omega
    simp (maxSteps := 1000000) (implicitDefEqProofs := false) (disch := omega) [-getElem?_pos, c_spec_TreeOk_b1, toI_len, hi', show (i : Int) + 1 - 1 = i by omega, show ((i : Int) + 1).toNat = i + 1 by omega, g1, g2, hk']
  simp (maxSteps := 1000000) (implicitDefEqProofs := false) (disch := omega) [-getElem?_pos, c_spec_TreeOk_b0, e1', hW]
  rw [hl2 L 0 _ ?tr2 (Nat.zero_le _) (by omega)]
  case tr2 => simp (maxSteps := 1000000) (implicitDefEqProofs := false) (disch := omega) [-getElem?_pos]
  by_cases hasc : ∀ i, i < l.length - 1 → keyAt f l i < keyAt f l (i + 1)
  · have : ascI f l := fun j hj h1 => by
      have := hasc (j - 1) (by omega)
      rwa [show j - 1 + 1 = j by omega] at this
    rw [if_pos fun j h1 _ => hasc j h1, decide_eq_true this, Bool.true_and]
    have hus : usedC f = usedTo f 16 := rfl
    rw [hus]
    cases ok with
    | false => simp (maxSteps := 1000000) (implicitDefEqProofs := false) (disch := omega) [-getElem?_pos, c_spec_TreeOk_b1, toI_len, show ¬ (((l.length - 1 : Nat) : Int) + 1 < (l.length : Int)) by omega]
    | true =>
      by_cases hlu : l.length = usedTo f 16
      · simp (maxSteps := 1000000) (implicitDefEqProofs := false) (disch := omega) [-getElem?_pos, c_spec_TreeOk_b1, toI_len, hlu, show ¬ (((usedTo f 16 - 1 : Nat) : Int) + 1 < (usedTo f 16 : Nat)) by omega]
      · simp (maxSteps := 1000000) (implicitDefEqProofs := false) (disch := omega) [-getElem?_pos, c_spec_TreeOk_b1, toI_len, show ¬ (((l.length - 1 : Nat) : Int) + 1 < (l.length : Int)) by omega, hlu, show ¬ ((l.length : Int) = (usedTo f 16 : Nat)) by omega]
  · have : ¬ ascI f l := fun h => hasc fun i hi => by
      have := h (i + 1) (by omega) (by omega)
      simpa using this
    rw [if_neg fun h => hasc fun j h1 => h j h1 (Nat.zero_le _), decide_eq_false this]
    simp (maxSteps := 1000000) (implicitDefEqProofs := false) (disch := omega) [-getElem?_pos]
end Go.Proofs.Ytonkgmajfcpeeaa
