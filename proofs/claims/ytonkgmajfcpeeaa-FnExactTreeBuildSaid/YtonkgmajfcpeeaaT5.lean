/-
  Trees: their keys.
-/
import Derived.Test.YtonkgmajfcpeeaaT4
set_option linter.unusedVariables false
set_option linter.unusedSimpArgs false
set_option maxHeartbeats 4000000
namespace Go.Proofs.Ytonkgmajfcpeeaa
variable {X : FuncId → List V → List Blk → Option Ret} {L : Nat}

def kl (f : Nat → Nd) (l : List Nat) : List Int := l.map fun q => (f q).a
theorem kl_len (f : Nat → Nd) (l : List Nat) : (kl f l).length = l.length := by simp [kl]
theorem kl_node (f : Nat → Nd) (xs : List Int) (l r : List Nat) (q : Nat) : xs ++ kl f (l ++ q :: r) = (xs ++ kl f l ++ [(f q).a]) ++ kl f r := by simp [kl]
theorem den_keysOf (hL : 100 ≤ L) : ∀ (n k : Nat) (m : List Blk) (b : Nat) (f : Nat → Nd) (a p : Int) (l : List Nat) (xs : List Int), Tr f p l → l.length < n → n ≤ k → b < m.length → xs.length + l.length ≤ 16 →
    ∃ W, W ≤ m.length - b ∧ den T X L (k + 1) 66 [.agg (chn f a), vi p, .c (.sl b 0 xs.length xs.length)] (m.set b (blkI xs)) = some ⟨.c (.sl b 0 (xs ++ kl f l).length (xs ++ kl f l).length), m.set b (blkI (xs ++ kl f l)), 0, W⟩
  | 0, _, _, _, _, _, _, _, _, _, h, _, _, _ => by omega
  | n + 1, k, m, b, f, a, p, l, xs, h, hl, hk, hb, hx => by
    obtain ⟨k, rfl⟩ : ∃ k', k = k' + 1 := ⟨k - 1, by omega⟩
    rw [den_eq T_66]
    have hbn : ¬ m.length ≤ b := by omega
    rcases h.inv with ⟨rfl, rfl⟩ | ⟨q, l1, r1, rfl, h1, h2, h3, h4, rfl⟩
    · exact ⟨0, Nat.zero_le _, by simp (maxSteps := 1000000) (implicitDefEqProofs := false) (disch := omega) [-getElem?_pos, c_impl_Tree_keysOf, kl, hb]⟩
    · simp only [List.length_append, List.length_cons] at hl hx
      obtain ⟨W1, w1, e1⟩ := den_keysOf hL n k (m ++ [⟨chn f a, 43, 0, true⟩]) b f a (f q).b l1 xs h3 (by omega) (by omega) (by simp; omega) (by omega)
      rw [List.set_append_left _ _ hb, List.set_append_left _ _ hb] at e1
      have hl1 := kl_len f l1
      have hys : (xs ++ kl f l1).length = xs.length + l1.length := by rw [List.length_append, hl1]
      generalize hgy : xs ++ kl f l1 = ys at e1 hys
      obtain ⟨W2, w2, e2⟩ := den_keysOf hL n k (m ++ [⟨chn f a, 43, 0, true⟩, ⟨[.int .i64 (f q).a], 3, 1, true⟩]) b f a (f q).c r1 (ys ++ [(f q).a]) h4 (by omega) (by omega) (by simp; omega) (by simp only [List.length_append, List.length_cons, List.length_nil]; omega)
      have hl2 : (ys ++ [(f q).a]).length = ys.length + 1 := by simp
      rw [List.set_append_left _ _ hb, List.set_append_left _ _ hb, hl2] at e2
      simp only [List.length_append, List.length_cons, List.length_nil] at w1 w2
      have hmx : mx (mx (W1 - 1) (m.length - b)) (W2 - 2) = m.length - b := by rw [mx_eq, mx_eq]; omega
      refine ⟨m.length - b, Nat.le_refl _, ?_⟩
      rw [kl_node f xs l1 r1 q, hgy]
      simp (maxSteps := 1000000) (implicitDefEqProofs := false) (disch := omega) [-getElem?_pos, c_impl_Tree_keysOf, show ¬ (q : Int) = -1 by omega, e1, hb, hbn, ints_snoc, e2]
      intro h; omega

def treeKeys (f : Nat → Nd) (a : Int) : List Int := if treeOk f a = true then kl f (K 17 f a []).1 else []
theorem treeKeys_len (f : Nat → Nd) (a : Int) : (treeKeys f a).length ≤ 16 := by
  unfold treeKeys
  split
  · rw [kl_len]; exact K_len 17 f a [] (by simp)
  · exact Nat.zero_le _
def outK (m : List Blk) (f : Nat → Nd) (a : Int) : Ret := if treeOk f a = true then ⟨.c (.sl m.length 0 (treeKeys f a).length (treeKeys f a).length), m ++ [blkI (treeKeys f a)], 0, 0⟩ else ⟨.c .nils, m, 0, 0⟩
theorem den_impl_TreeKeys (hL : 100 ≤ L) (k : Nat) (m : List Blk) (f : Nat → Nd) (a : Int) : den T X L (k + 21) 35 [.agg (chn f a)] m = some (outK m f a) := by
  rw [den_eq T_35]
  unfold outK
  cases hok : treeOk f a with
  | false => simp (maxSteps := 1000000) (implicitDefEqProofs := false) (disch := omega) [-getElem?_pos, c_impl_TreeKeys, den_impl_TreeOk hL, treeOk_same, hok]
  | true =>
    obtain ⟨l, hK, h1, _, _, _, h2⟩ := tree_spec hok
    obtain ⟨W, w1, e⟩ := den_keysOf (X := X) (L := L) hL 17 (k + 19) (m ++ [⟨chn f a, 43, 0, true⟩, blkI []]) (m.length + 1) f a a l [] h1 (by omega) (by omega) (by simp) (by simpa using h2)
    rw [set_app, set_app] at e
    simp only [List.set_cons_succ, List.set_cons_zero, List.length_nil, List.nil_append] at e
    have e' : den T X L (k + 20) 66 [.agg (chn f a), vi a, .c (.sl (m.length + 1) 0 0 0)] (m ++ [⟨chn f a, 43, 0, true⟩, ⟨[], 3, 1, true⟩]) = some ⟨.c (.sl (m.length + 1) 0 (kl f l).length (kl f l).length), m ++ [⟨chn f a, 43, 0, true⟩, blkI (kl f l)], 0, W⟩ := e
    have hW : W - 2 = 0 := by simp at w1; omega
    have ht : treeKeys f a = kl f l := by unfold treeKeys; rw [if_pos hok, hK]
    rw [ht]
    simp (maxSteps := 1000000) (implicitDefEqProofs := false) (disch := omega) [-getElem?_pos, c_impl_TreeKeys, den_impl_TreeOk hL, treeOk_same, hok, e', hW]
def outKS (m : List Blk) (f : Nat → Nd) (a : Int) : Ret := ⟨.c (.sl m.length 0 (treeKeys f a).length (treeKeys f a).length), m ++ [blkI (treeKeys f a)], 0, 0⟩
theorem kl_snoc (f : Nat → Nd) (l : List Nat) (i : Nat) (h : i < l.length) : kl f (l.take i) ++ [(f (l.getD i 0)).a] = kl f (l.take (i + 1)) := by
  rw [List.take_succ_eq_append_getElem h, kl, kl, List.map_append]
  simp only [List.map_cons, List.map_nil, List.getD_eq_getElem?_getD, List.getElem?_eq_getElem h, Option.getD_some]
theorem den_spec_TreeKeys (hL : 100 ≤ L) (k : Nat) (m : List Blk) (f : Nat → Nd) (a : Int) : den T X L (k + 21) 34 [.agg (chn f a)] m = some (outKS m f a) := by
  rw [den_eq T_34]
  unfold outKS treeKeys
  cases hok : treeOk f a with
  | false => simp (maxSteps := 1000000) (implicitDefEqProofs := false) (disch := omega) [-getElem?_pos, c_spec_TreeKeys, den_spec_TreeOk hL (k), hok, ints]
  | true =>
    obtain ⟨l, hK, h1, _, _, _, h2⟩ := tree_spec hok
    have hlt : ∀ j, l.getD j 0 < 16 := fun j => by
      rw [List.getD_eq_getElem?_getD]
      cases h : l[j]? with
      | none => simp
      | some x => exact (h1.mem (List.mem_of_getElem? h)).1
    obtain ⟨W, w1, e⟩ := den_l15Keys (X := X) hL 17 (k + 18) (m ++ [⟨chn f a, 43, 0, true⟩, ⟨[], 3, 1, true⟩, blkI []]) (m.length + 2) f a a [] (by omega) (by simp) (Nat.lt_of_le_of_lt (cn_le 16) (by omega)) (by simp)
    rw [hK, set_app, set_app] at e
    simp only [List.set_cons_succ, List.set_cons_zero, List.length_nil] at e
    have e' : den T X L (k + 20) 52 [.agg (chn f a), vi a, .c (.sl (m.length + 2) 0 0 0)] (m ++ [⟨chn f a, 43, 0, true⟩, ⟨[], 3, 1, true⟩, ⟨[], 3, 1, true⟩]) = some ⟨.tup [.c (.sl (m.length + 2) 0 l.length l.length), vb true], m ++ [⟨chn f a, 43, 0, true⟩, ⟨[], 3, 1, true⟩, blkI (toI l)], 0, W⟩ := e
    have hW : W - 3 = 0 := by simp at w1; omega
    have hl := iter_up (f := fun s => exec (den T X L (k + 20)) L m.length none c_spec_TreeKeys_b0 s) (tr := trim m.length (some [1, 3, 4, 6]))
      (fun i => ⟨[(1, .c (.ptr m.length 0 65)), (3, .c (.sl (m.length + 1) 0 (kl f (l.take i)).length (kl f (l.take i)).length)), (4, .c (.sl (m.length + 2) 0 l.length l.length)), (6, vi i)], m ++ [⟨chn f a, 43, 0, true⟩, blkI (kl f (l.take i)), blkI (toI l)], 0, 0⟩) l.length
      ?s1 ⟨0, _, by simp (maxSteps := 1000000) (implicitDefEqProofs := false) (disch := omega) [-getElem?_pos, c_spec_TreeKeys_b0, toI_len]; rfl⟩
    case s1 =>
      intro i hi
      have q1 := hlt i
      have g1 := toI_get (l := l) (j := i) hi
      have hs := kl_snoc f l i hi
      have hlen : (kl f (l.take (i + 1))).length = (kl f (l.take i)).length + 1 := by rw [← hs]; simp
      have hle : (kl f (l.take i)).length ≤ 16 := by rw [kl_len, List.length_take]; omega
      generalize l.getD i 0 = x at q1 g1 hs
      refine ⟨_, by simp (maxSteps := 1000000) (implicitDefEqProofs := false) (disch := omega) [-getElem?_pos, c_spec_TreeKeys_b0, toI_len, show (i : Int) < (l.length : Int) by omega, g1, ints_snoc, hs]; rfl, ?_⟩
      simp (maxSteps := 1000000) (implicitDefEqProofs := false) (disch := omega) [-getElem?_pos, hlen]
    simp (maxSteps := 1000000) (implicitDefEqProofs := false) (disch := omega) [-getElem?_pos, c_spec_TreeKeys, den_spec_TreeOk hL (k), hok, e', hW]
    rw [hl L 0 _ ?tr (Nat.zero_le _) (by omega)]
    case tr => simp (maxSteps := 1000000) (implicitDefEqProofs := false) (disch := omega) [-getElem?_pos, kl, ints, refsL]
    have hfin : kl f (l.take l.length) = kl f l := by rw [List.take_length]
    simp (maxSteps := 1000000) (implicitDefEqProofs := false) (disch := omega) [-getElem?_pos, c_spec_TreeKeys_b0, toI_len, hfin, hK]
theorem den_FnExactTreeKeys (hL : 100 ≤ L) (k : Nat) (m : List Blk) (f : Nat → Nd) (a : Int) : den T X L (k + 22) 9 [.agg (chn f a)] m = some ⟨vb true, m, 0, 0⟩ := by
  rw [den_eq T_9]
  have hlen := treeKeys_len f a
  cases hok : treeOk f a with
  | false =>
    have h0 : treeKeys f a = [] := by unfold treeKeys; rw [if_neg (by simp [hok])]
    simp (maxSteps := 1000000) (implicitDefEqProofs := false) (disch := first | omega | (simp [get_app, get_app0]; done) | rfl) [-getElem?_pos, c_laws_FnExactTreeKeys, den_toTree hL (k + 18), den_spec_TreeKeys hL, den_impl_TreeKeys hL, outK, outKS, hok, h0, eqI_n (k + 20), den_markNil hL (k + 20), den_heldNil hL (k + 20), z65]
  | true =>
    generalize hr : treeKeys f a = r at hlen
    by_cases hn : r.length = 0
    · obtain rfl : r = [] := List.length_eq_zero_iff.1 hn
      simp (maxSteps := 1000000) (implicitDefEqProofs := false) (disch := first | omega | (simp [get_app, get_app0]; done) | rfl) [-getElem?_pos, c_laws_FnExactTreeKeys, den_toTree hL (k + 18), den_spec_TreeKeys hL, den_impl_TreeKeys hL, outK, outKS, hok, hr, eqI_b (k + 20) _ _ _ _ [], markZ_b hL (k + 20), heldZ_b hL (k + 20), z65]
    · simp (maxSteps := 1000000) (implicitDefEqProofs := false) (disch := first | omega | (simp [get_app, get_app0]; done) | rfl) [-getElem?_pos, c_laws_FnExactTreeKeys, den_toTree hL (k + 18), den_spec_TreeKeys hL, den_impl_TreeKeys hL, outK, outKS, hok, hr, eqI_b (k + 20) _ _ _ _ r, markI_b (k + 20) _ _ _ _ r, heldI_b (k + 20), z65]
      rw [if_neg (by omega), if_neg (by omega)]
end Go.Proofs.Ytonkgmajfcpeeaa
