/-
 Trees: the walk to a key; found.
-/
import Derived.Test.YtfbeplbcaanimaaGreatTA
import Derived.Test.YtfbeplbcaanimaaGreatCA
set_option linter.unusedVariables false
set_option linter.unusedSimpArgs false
set_option maxHeartbeats 4000000
namespace Go.Proofs.YtfbeplbcaanimaaGreat
variable {X : FuncId → List V → List Blk → Option Ret} {L : Nat}
abbrev Way := Option (Nat × Bool)
def valW (f : Nat → Nd) (a : Int) : Way → Int
 | none => a
 | some (q, false) => (f q).b
 | some (q, true) => (f q).c
def offW : Way → Nat
 | none => 64
 | some (q, false) => q * 4 + 2
 | some (q, true) => q * 4 + 3
def okW : Way → Prop
 | none => True
 | some (q, _) => q < 16
theorem get_way {f : Nat → Nd} {a : Int} {w : Way} (h : okW w) : (chn f a)[offW w]? = some (ci (valW f a w)) := by
 match w, h with
 | none, _ => simp [offW, valW, nds_past]
 | some (q, false), h => exact nds_b h
 | some (q, true), h => exact nds_c h
theorem way_lt {w : Way} (h : okW w) : offW w < 65 := by
 match w, h with
 | none, _ => decide
 | some (q, false), h => show q * 4 + 2 < 65; have : q < 16 := h; omega
 | some (q, true), h => show q * 4 + 3 < 65; have : q < 16 := h; omega
def twk (f : Nat → Nd) (a key : Int) : Nat → Way → Way × Nat × Bool
 | n, w => if valW f a w = -1 then (w, 0, true) else match n with
  | 0 => (w, 0, false)
  | n + 1 => if key < (f (valW f a w).toNat).a then ((twk f a key n (some ((valW f a w).toNat, false))).1, (twk f a key n (some ((valW f a w).toNat, false))).2.1 + 1, (twk f a key n (some ((valW f a w).toNat, false))).2.2)
   else if key > (f (valW f a w).toNat).a then ((twk f a key n (some ((valW f a w).toNat, true))).1, (twk f a key n (some ((valW f a w).toNat, true))).2.1 + 1, (twk f a key n (some ((valW f a w).toNat, true))).2.2)
   else (w, 1, true)
section
variable {f : Nat → Nd} {a key : Int} {n : Nat} {w : Way} {q : Nat}
theorem twk_end (h : valW f a w = -1) : twk f a key n w = (w, 0, true) := by cases n <;> simp [twk, h]
theorem twk_zero (h : valW f a w ≠ -1) : twk f a key 0 w = (w, 0, false) := by simp [twk, h]
theorem twk_l (h : valW f a w = q) (hk : key < (f q).a) : twk f a key (n + 1) w = ((twk f a key n (some (q, false))).1, (twk f a key n (some (q, false))).2.1 + 1, (twk f a key n (some (q, false))).2.2) := by
 conv => lhs; unfold twk
 rw [if_neg (by omega)]
 simp only [h, Int.toNat_natCast, if_pos hk]
theorem twk_r (h : valW f a w = q) (hk : ¬ key < (f q).a) (hk2 : key > (f q).a) : twk f a key (n + 1) w = ((twk f a key n (some (q, true))).1, (twk f a key n (some (q, true))).2.1 + 1, (twk f a key n (some (q, true))).2.2) := by
 conv => lhs; unfold twk
 rw [if_neg (by omega)]
 simp only [h, Int.toNat_natCast, if_neg hk, if_pos hk2]
theorem twk_hit (h : valW f a w = q) (hk : ¬ key < (f q).a) (hk2 : ¬ key > (f q).a) : twk f a key (n + 1) w = (w, 1, true) := by
 conv => lhs; unfold twk
 rw [if_neg (by omega)]
 simp only [h, Int.toNat_natCast, if_neg hk, if_neg hk2]
end
def trW (f : Nat → Nd) (a : Int) (w : Way) : Prop := okW w ∧ ∃ l, Tr f (valW f a w) l
theorem trW_step {f : Nat → Nd} {a : Int} {w : Way} (h : trW f a w) (hv : valW f a w ≠ -1) : ∃ q : Nat, valW f a w = q ∧ q < 16 ∧ (f q).u = true ∧ trW f a (some (q, false)) ∧ trW f a (some (q, true)) := by
 obtain ⟨_, l, hl⟩ := h
 rcases hl.inv with ⟨h1, _⟩ | ⟨q, l1, r1, h1, h2, h3, h4, h5, _⟩
 ·exact absurd h1 hv
 ·exact ⟨q, h1, h2, h3, ⟨h2, l1, h4⟩, ⟨h2, r1, h5⟩⟩
theorem twk_le {f : Nat → Nd} {a key : Int} : ∀ (n : Nat) (w : Way), trW f a w → (twk f a key n w).2.1 ≤ n
 | 0, w, _ => by
  by_cases h : valW f a w = -1
  ·rw [twk_end h]; exact Nat.le_refl _
  ·rw [twk_zero h]; exact Nat.le_refl _
 | n + 1, w, h => by
  by_cases hv : valW f a w = -1
  ·rw [twk_end hv]; exact Nat.zero_le _
  ·obtain ⟨q, h1, _, _, h4, h5⟩ := trW_step h hv
   by_cases k1 : key < (f q).a
   ·rw [twk_l h1 k1]; exact Nat.succ_le_succ (twk_le n _ h4)
   ·by_cases k2 : key > (f q).a
    ·rw [twk_r h1 k1 k2]; exact Nat.succ_le_succ (twk_le n _ h5)
    ·rw [twk_hit h1 k1 k2]; exact Nat.succ_le_succ (Nat.zero_le _)
theorem twk_tr {f : Nat → Nd} {a key : Int} : ∀ (n : Nat) (w : Way), trW f a w → trW f a (twk f a key n w).1
 | 0, w, h => by
  by_cases hv : valW f a w = -1
  ·rw [twk_end hv]; exact h
  ·rw [twk_zero hv]; exact h
 | n + 1, w, h => by
  by_cases hv : valW f a w = -1
  ·rw [twk_end hv]; exact h
  ·obtain ⟨q, h1, _, _, h4, h5⟩ := trW_step h hv
   by_cases k1 : key < (f q).a
   ·rw [twk_l h1 k1]; exact twk_tr n _ h4
   ·by_cases k2 : key > (f q).a
    ·rw [twk_r h1 k1 k2]; exact twk_tr n _ h5
    ·rw [twk_hit h1 k1 k2]; exact h
theorem den_impl_twalk (hL : 100 ≤ L) (k : Nat) (m : List Blk) (b : Nat) (f : Nat → Nd) (a key : Int) (hb : live m b 65 = some ⟨chn f a, 49, 0, true⟩) (ht : trW f a none) :
  den T X L (k + 1) 117 [.c (.ptr b 0 65), vi key] m = some ⟨.tup [.c (.ptr b (offW (twk f a key 8 none).1) 65), vi (twk f a key 8 none).2.1, vb (twk f a key 8 none).2.2], m, 0, 0⟩ := by
 have hlt := live_lt hb
 rw [den_eq T_117]
 have hl := iter_blk (n0 := m.length) (id := 0) (ka := some [7, 8]) (f := fun s => exec (den T X L k) L m.length none c_impl_Tree_walk_b0 s) (tr := trim m.length (some [0, 1, 7, 8])) (σ := Nat × Way)
  (fun s => ⟨[(0, .c (.ptr b 0 65)), (1, vi key), (7, .c (.ptr b (offW s.2) 65)), (8, vi (8 - s.1))], m, 0, 0⟩) (fun s => s.1 ≤ 8 ∧ trW f a s.2) (fun s => s.1)
  (fun s => if (twk f a key s.1 s.2).2.2 = true ∧ valW f a (twk f a key s.1 s.2).1 = -1 then (.norm, ⟨[(7, .c (.ptr b (offW (twk f a key s.1 s.2).1) 65)), (8, vi (8 - s.1 + (twk f a key s.1 s.2).2.1))], m, 0, 0⟩)
   else (.ret, ⟨[(4, .c (.ptr b (offW (twk f a key s.1 s.2).1) 65)), (5, vi (8 - s.1 + (twk f a key s.1 s.2).2.1)), (6, vb (twk f a key s.1 s.2).2.2)], m, 0, 0⟩)) ?w
 case w =>
  rintro ⟨n, w⟩ ⟨hn, htw⟩
  simp only at hn htw
  have hg := get_way (f := f) (a := a) htw.1
  by_cases hv : valW f a w = -1
  ·rw [hv] at hg
   refine ⟨.exit 0, _, by simp (maxSteps := 1000000) -implicitDefEqProofs (disch := omega) [-getElem?_pos, c_impl_Tree_walk_b0, hb, hg]; rfl, ?_⟩
   simp only [twk_end hv]
   simp (maxSteps := 1000000) -implicitDefEqProofs (disch := omega) [-getElem?_pos, c_blkx, hv, take_mx]
  ·obtain ⟨q, h1, h2, h3, h4, h5⟩ := trW_step htw hv
   rw [h1] at hg
   have hq : ¬ (q : Int) = -1 := by omega
   cases n with
   | zero =>
    refine ⟨.ret, _, by simp (maxSteps := 1000000) -implicitDefEqProofs (disch := omega) [-getElem?_pos, c_impl_Tree_walk_b0, hb, hg, hq]; rfl, ?_⟩
    simp only [twk_zero hv]
    simp (maxSteps := 1000000) -implicitDefEqProofs (disch := omega) [-getElem?_pos, c_blkr, take_mx]
   | succ n =>
    have h8 : ¬ (8 - ((n : Int) + 1)) = 8 := by omega
    have hn8 : 8 - ((n : Int) + 1) + 1 = 8 - n := by omega
    by_cases k1 : key < (f q).a
    ·refine ⟨.norm, _, by simp (maxSteps := 1000000) -implicitDefEqProofs (disch := omega) [-getElem?_pos, c_impl_Tree_walk_b0, hb, hg, hq, h8, k1]; rfl, (n, some (q, false)), ?_, ⟨by omega, h4⟩, by show n < n + 1; omega, ?_⟩
     ·simp (maxSteps := 1000000) -implicitDefEqProofs (disch := omega) [-getElem?_pos, hn8, offW, take_mx]
     ·simp only [twk_l h1 k1]
      rw [show (8 - (n : Int) + ((twk f a key n (some (q, false))).2.1 : Nat)) = 8 - ((n + 1 : Nat) : Int) + (((twk f a key n (some (q, false))).2.1 + 1 : Nat)) by omega]
    ·by_cases k2 : key > (f q).a
     ·refine ⟨.norm, _, by simp (maxSteps := 1000000) -implicitDefEqProofs (disch := omega) [-getElem?_pos, c_impl_Tree_walk_b0, hb, hg, hq, h8, k1, k2]; rfl, (n, some (q, true)), ?_, ⟨by omega, h5⟩, by show n < n + 1; omega, ?_⟩
      ·simp (maxSteps := 1000000) -implicitDefEqProofs (disch := omega) [-getElem?_pos, hn8, offW, take_mx]
      ·simp only [twk_r h1 k1 k2]
       rw [show (8 - (n : Int) + ((twk f a key n (some (q, true))).2.1 : Nat)) = 8 - ((n + 1 : Nat) : Int) + (((twk f a key n (some (q, true))).2.1 + 1 : Nat)) by omega]
     ·refine ⟨.ret, _, by simp (maxSteps := 1000000) -implicitDefEqProofs (disch := omega) [-getElem?_pos, c_impl_Tree_walk_b0, hb, hg, hq, h8, k1, k2]; rfl, ?_⟩
      simp only [twk_hit h1 k1 k2]
      simp (maxSteps := 1000000) -implicitDefEqProofs (disch := omega) [-getElem?_pos, c_blkr, take_mx, h1, hq, hn8]
 simp (maxSteps := 1000000) -implicitDefEqProofs (disch := omega) [-getElem?_pos, c_impl_Tree_walk, hb]
 rw [hl L (8, none) _ ⟨Nat.le_refl _, ht⟩ ?tr (by show 8 < L; omega)]
 case tr => simp (maxSteps := 1000000) -implicitDefEqProofs (disch := omega) [-getElem?_pos, offW, take_mx]
 have hle := twk_le (f := f) (a := a) (key := key) 8 none ht
 by_cases hc : (twk f a key 8 none).2.2 = true ∧ valW f a (twk f a key 8 none).1 = -1
 ·simp (maxSteps := 1000000) -implicitDefEqProofs (disch := omega) [-getElem?_pos, hc.1, hc.2, take_mx]
 ·rw [if_neg hc]
  simp (maxSteps := 1000000) -implicitDefEqProofs (disch := omega) [-getElem?_pos, take_mx]
def vis (f : Nat → Nd) (key : Int) : Nat → Int → List Nat
 | n, p => if p = -1 then [] else match n with
  | 0 => []
  | n + 1 => if (f p.toNat).a = key then [p.toNat] else if key < (f p.toNat).a then p.toNat :: vis f key n (f p.toNat).b else p.toNat :: vis f key n (f p.toNat).c
section
variable {f : Nat → Nd} {key : Int} {n q : Nat}
theorem vis_end : vis f key n (-1) = [] := by cases n <;> simp [vis]
theorem vis_zero (p : Int) : vis f key 0 p = [] := by simp [vis]
theorem vis_hit (hk : (f q).a = key) : vis f key (n + 1) q = [q] := by
 conv => lhs; unfold vis
 rw [if_neg (by omega)]
 simp only [Int.toNat_natCast, if_pos hk]
theorem vis_l (hk : ¬ (f q).a = key) (hk2 : key < (f q).a) : vis f key (n + 1) q = q :: vis f key n (f q).b := by
 conv => lhs; unfold vis
 rw [if_neg (by omega)]
 simp only [Int.toNat_natCast, if_neg hk, if_pos hk2]
theorem vis_r (hk : ¬ (f q).a = key) (hk2 : ¬ key < (f q).a) : vis f key (n + 1) q = q :: vis f key n (f q).c := by
 conv => lhs; unfold vis
 rw [if_neg (by omega)]
 simp only [Int.toNat_natCast, if_neg hk, if_neg hk2]
end
theorem vis_len {f : Nat → Nd} {a key : Int} : ∀ (n : Nat) (w : Way), trW f a w → (vis f key n (valW f a w)).length = (twk f a key n w).2.1
 | 0, w, h => by
  rw [vis_zero]
  by_cases hv : valW f a w = -1
  ·rw [twk_end hv]; rfl
  ·rw [twk_zero hv]; rfl
 | n + 1, w, h => by
  by_cases hv : valW f a w = -1
  ·rw [twk_end hv, hv, vis_end]; rfl
  ·obtain ⟨q, h1, _, _, h4, h5⟩ := trW_step h hv
   by_cases k1 : key < (f q).a
   ·rw [twk_l h1 k1, h1, vis_l (by omega) k1, List.length_cons]
    exact congrArg (· + 1) (vis_len n _ h4)
   ·by_cases k2 : key > (f q).a
    ·rw [twk_r h1 k1 k2, h1, vis_r (by omega) k1, List.length_cons]
     exact congrArg (· + 1) (vis_len n _ h5)
    ·rw [twk_hit h1 k1 k2, h1, vis_hit (by omega)]; rfl
theorem vis_last {f : Nat → Nd} {a key : Int} : ∀ (n : Nat) (w : Way), trW f a w → (twk f a key n w).2.2 = true → valW f a (twk f a key n w).1 = -1 →
  (twk f a key n w).1 = match (vis f key n (valW f a w)).getLast? with
   | none => w
   | some q => some (q, decide (¬ key < (f q).a))
 | 0, w, h, h1, h2 => by
  rw [vis_zero]
  by_cases hv : valW f a w = -1
  ·rw [twk_end hv]; rfl
  ·rw [twk_zero hv] at h1; cases h1
 | n + 1, w, h, h1, h2 => by
  by_cases hv : valW f a w = -1
  ·rw [twk_end hv, hv, vis_end]; rfl
  ·obtain ⟨q, e1, _, _, h4, h5⟩ := trW_step h hv
   by_cases k1 : key < (f q).a
   ·rw [twk_l e1 k1] at h1 h2 ⊢
    rw [e1, vis_l (by omega) k1]
    have := vis_last n _ h4 h1 h2
    simp only at this ⊢
    rw [this]
    show _ = _
    cases hl : vis f key n (f q).b with
    | nil => rw [show valW f a (some (q, false)) = (f q).b from rfl, hl]; simp [k1]
    | cons x r => rw [show valW f a (some (q, false)) = (f q).b from rfl, hl, List.getLast?_cons_cons, List.getLast?_cons]
   ·by_cases k2 : key > (f q).a
    ·rw [twk_r e1 k1 k2] at h1 h2 ⊢
     rw [e1, vis_r (by omega) k1]
     have := vis_last n _ h5 h1 h2
     simp only at this ⊢
     rw [this]
     cases hl : vis f key n (f q).c with
     | nil => rw [show valW f a (some (q, true)) = (f q).c from rfl, hl]; simp [k1]
     | cons x r => rw [show valW f a (some (q, true)) = (f q).c from rfl, hl, List.getLast?_cons_cons, List.getLast?_cons]
    ·rw [twk_hit e1 k1 k2] at h2
     rw [show valW f a ((w, 1, true) : Way × Nat × Bool).1 = valW f a w from rfl, e1] at h2
     omega
theorem vis_lt {f : Nat → Nd} {a key : Int} : ∀ (n : Nat) (w : Way), trW f a w → ∀ x ∈ vis f key n (valW f a w), x < 16 ∧ (f x).u = true
 | 0, w, h, x, hx => by rw [vis_zero] at hx; cases hx
 | n + 1, w, h, x, hx => by
  by_cases hv : valW f a w = -1
  ·rw [hv, vis_end] at hx; cases hx
  ·obtain ⟨q, e1, q1, q2, h4, h5⟩ := trW_step h hv
   rw [e1] at hx
   by_cases k0 : (f q).a = key
   ·rw [vis_hit k0] at hx
    have := List.mem_singleton.1 hx
    subst this; exact ⟨q1, q2⟩
   ·by_cases k1 : key < (f q).a
    ·rw [vis_l k0 k1] at hx
     rcases List.mem_cons.1 hx with hx | hx
     ·subst hx; exact ⟨q1, q2⟩
     ·exact vis_lt n _ h4 x hx
    ·rw [vis_r k0 k1] at hx
     rcases List.mem_cons.1 hx with hx | hx
     ·subst hx; exact ⟨q1, q2⟩
     ·exact vis_lt n _ h5 x hx
end Go.Proofs.YtfbeplbcaanimaaGreat
set_option linter.unusedVariables false
set_option linter.unusedSimpArgs false
set_option maxHeartbeats 4000000
namespace Go.Proofs.YtfbeplbcaanimaaGreat
variable {X : FuncId → List V → List Blk → Option Ret} {L : Nat}
theorem den_spec_twalk (hL : 100 ≤ L) (k : Nat) (m : List Blk) (f : Nat → Nd) (a key : Int) (ht : trW f a none) :
  den T X L (k + 1) 103 [.agg (chn f a), vi key] m = some ⟨.tup [.c (.sl m.length 0 (vis f key 8 a).length (vis f key 8 a).length), vb ((twk f a key 8 none).2.2 && !(decide (valW f a (twk f a key 8 none).1 = -1))), vb (twk f a key 8 none).2.2], m ++ [blkI (toI (vis f key 8 a))], 0, 0⟩ := by
 rw [den_eq T_103]
 have hl := iter_blk (n0 := m.length) (id := 0) (ka := some [7]) (f := fun s => exec (den T X L k) L m.length none c_spec_l15Walk_b0 s) (tr := trim m.length (some [1, 2, 7, 8])) (σ := Nat × Way × List Nat)
  (fun s => ⟨[(1, vi key), (2, .c (.ptr m.length 0 65)), (7, .c (.sl (m.length + 1) 0 s.2.2.length s.2.2.length)), (8, vi (valW f a s.2.1))], m ++ [⟨chn f a, 49, 0, true⟩, blkI (toI s.2.2)], 0, 0⟩)
  (fun s => s.1 ≤ 8 ∧ s.2.2.length = 8 - s.1 ∧ trW f a s.2.1) (fun s => s.1)
  (fun s => if (twk f a key s.1 s.2.1).2.2 = true ∧ valW f a (twk f a key s.1 s.2.1).1 = -1 then (.norm, ⟨[(7, .c (.sl (m.length + 1) 0 (s.2.2 ++ vis f key s.1 (valW f a s.2.1)).length (s.2.2 ++ vis f key s.1 (valW f a s.2.1)).length))], m ++ [⟨chn f a, 49, 0, true⟩, blkI (toI (s.2.2 ++ vis f key s.1 (valW f a s.2.1)))], 0, 0⟩)
   else (.ret, ⟨[(4, .c (.sl (m.length + 1) 0 (s.2.2 ++ vis f key s.1 (valW f a s.2.1)).length (s.2.2 ++ vis f key s.1 (valW f a s.2.1)).length)), (5, vb (twk f a key s.1 s.2.1).2.2), (6, vb (twk f a key s.1 s.2.1).2.2)], m ++ [⟨chn f a, 49, 0, true⟩, blkI (toI (s.2.2 ++ vis f key s.1 (valW f a s.2.1)))], 0, 0⟩)) ?w
 case w =>
  rintro ⟨n, w, out⟩ ⟨hn, ho, htw⟩
  simp only at hn ho htw
  by_cases hv : valW f a w = -1
  ·refine ⟨.exit 0, _, by simp (maxSteps := 1000000) -implicitDefEqProofs (disch := omega) [-getElem?_pos, c_spec_l15Walk_b0, hv]; rfl, ?_⟩
   simp only [twk_end hv, hv, vis_end, List.append_nil]
   simp (maxSteps := 1000000) -implicitDefEqProofs (disch := omega) [-getElem?_pos, c_blkx]
  ·obtain ⟨q, h1, h2, h3, h4, h5⟩ := trW_step htw hv
   have hq : ¬ (q : Int) = -1 := by omega
   cases n with
   | zero =>
    refine ⟨.ret, _, by simp (maxSteps := 1000000) -implicitDefEqProofs (disch := omega) [-getElem?_pos, c_spec_l15Walk_b0, h1, hq, toI_len, show (out.length : Int) = 8 by omega]; rfl, ?_⟩
    simp only [twk_zero hv, vis_zero, List.append_nil]
    simp (maxSteps := 1000000) -implicitDefEqProofs (disch := omega) [-getElem?_pos, c_blkr]
   | succ n =>
    have h8 : ¬ (out.length : Int) = 8 := by omega
    have hll : (out ++ [q]).length = out.length + 1 := by simp
    by_cases k1 : key < (f q).a
    ·refine ⟨.norm, _, by simp (maxSteps := 1000000) -implicitDefEqProofs (disch := omega) [-getElem?_pos, c_spec_l15Walk_b0, h1, hq, toI_len, h8, k1, show ¬ (f q).a = key by omega, ints_snoc, toI_snoc]; rfl, (n, some (q, false), out ++ [q]), ?_, ⟨by omega, by show (out ++ [q]).length = 8 - n; rw [hll]; omega, h4⟩, by show n < n + 1; omega, ?_⟩
     ·simp (maxSteps := 1000000) -implicitDefEqProofs (disch := omega) [-getElem?_pos, valW]
     ·simp only [twk_l h1 k1, h1, vis_l (show ¬ (f q).a = key by omega) k1, List.append_assoc, List.cons_append, List.nil_append]
      rfl
    ·by_cases k2 : key > (f q).a
     ·refine ⟨.norm, _, by simp (maxSteps := 1000000) -implicitDefEqProofs (disch := omega) [-getElem?_pos, c_spec_l15Walk_b0, h1, hq, toI_len, h8, k1, show ¬ (f q).a = key by omega, ints_snoc, toI_snoc]; rfl, (n, some (q, true), out ++ [q]), ?_, ⟨by omega, by show (out ++ [q]).length = 8 - n; rw [hll]; omega, h5⟩, by show n < n + 1; omega, ?_⟩
      ·simp (maxSteps := 1000000) -implicitDefEqProofs (disch := omega) [-getElem?_pos, valW]
      ·simp only [twk_r h1 k1 k2, h1, vis_r (show ¬ (f q).a = key by omega) k1, List.append_assoc, List.cons_append, List.nil_append]
       rfl
     ·refine ⟨.ret, _, by simp (maxSteps := 1000000) -implicitDefEqProofs (disch := omega) [-getElem?_pos, c_spec_l15Walk_b0, h1, hq, toI_len, h8, k1, show (f q).a = key by omega, ints_snoc, toI_snoc]; rfl, ?_⟩
      simp only [twk_hit h1 k1 k2, h1, vis_hit (show (f q).a = key by omega), hq, and_false, if_false]
      simp (maxSteps := 1000000) -implicitDefEqProofs (disch := omega) [-getElem?_pos, c_blkr]
 have hlen : (vis f key 8 a).length ≤ 8 := by
  have := vis_len (key := key) 8 none ht
  have h2 := twk_le (key := key) 8 none ht
  rw [show valW f a none = a from rfl] at this
  omega
 simp (maxSteps := 1000000) -implicitDefEqProofs (disch := omega) [-getElem?_pos, c_spec_l15Walk]
 rw [hl L (8, none, []) _ ⟨Nat.le_refl _, rfl, ht⟩ ?tr (by show 8 < L; omega)]
 case tr => simp (maxSteps := 1000000) -implicitDefEqProofs (disch := omega) [-getElem?_pos, toI, ints, refsL, valW]
 simp only [List.nil_append, show valW f a none = a from rfl]
 by_cases hc : (twk f a key 8 none).2.2 = true ∧ valW f a (twk f a key 8 none).1 = -1
 ·rw [if_pos hc]
  simp (maxSteps := 1000000) -implicitDefEqProofs (disch := omega) [-getElem?_pos, hc.1, hc.2, toI_len]
 ·rw [if_neg hc]
  cases hok : (twk f a key 8 none).2.2 with
  | false => simp (maxSteps := 1000000) -implicitDefEqProofs (disch := omega) [-getElem?_pos, hok, toI_len]
  | true =>
   have h2 : ¬ valW f a (twk f a key 8 none).1 = -1 := fun h => hc ⟨hok, h⟩
   simp (maxSteps := 1000000) -implicitDefEqProofs (disch := omega) [-getElem?_pos, hok, toI_len, h2]
theorem trW_root {f : Nat → Nd} {a : Int} (h : treeOk f a = true) : trW f a none := by
 obtain ⟨l, _, h1, _⟩ := tree_spec h
 exact ⟨trivial, l, h1⟩
end Go.Proofs.YtfbeplbcaanimaaGreat
set_option linter.unusedVariables false
set_option linter.unusedSimpArgs false
set_option maxHeartbeats 4000000
namespace Go.Proofs.YtfbeplbcaanimaaGreat
variable {X : FuncId → List V → List Blk → Option Ret} {L : Nat}
def setF (f : Nat → Nd) (w : Way) (x : Int) : Nat → Nd := match w with
 | none => f
 | some (q, false) => upd f q { f q with b := x }
 | some (q, true) => upd f q { f q with c := x }
def setA (a : Int) (w : Way) (x : Int) : Int := match w with
 | none => x
 | some _ => a
theorem lay_way {f : Nat → Nd} {a x : Int} {w : Way} (h : okW w) : lay (chn f a) (offW w) [ci x] = chn (setF f w x) (setA a w x) := by
 match w, h with
 | none, _ =>
  show lay (nds 16 f ++ [ci a]) 64 [ci x] = nds 16 f ++ [ci x]
  rw [nds_lay_past (by omega)]; rfl
 | some (q, false), h => exact nds_lb h x
 | some (q, true), h => exact nds_lc h x
theorem upd_comm {f : Nat → Nd} {i j : Nat} (h : i ≠ j) (x y : Nd) : upd (upd f i x) j y = upd (upd f j y) i x := by
 funext k
 unfold upd
 by_cases h1 : k = i
 ·by_cases h2 : k = j
  ·omega
  ·simp [h1, h]
 ·simp [h1]
theorem setF_comm {f : Nat → Nd} {w : Way} {x : Int} {i : Nat} {y : Nd} (h : ∀ q s, w = some (q, s) → q ≠ i) : setF (upd f i y) w x = upd (setF f w x) i y := by
 match w, h with
 | none, _ => rfl
 | some (q, false), h =>
  have := h q false rfl
  show upd (upd f i y) q { upd f i y q with b := x } = _
  rw [upd_ne _ _ this, upd_comm (Ne.symm this)]
  rfl
 | some (q, true), h =>
  have := h q true rfl
  show upd (upd f i y) q { upd f i y q with c := x } = _
  rw [upd_ne _ _ this, upd_comm (Ne.symm this)]
  rfl
def lastW (f : Nat → Nd) (key : Int) (vs : List Nat) : Way := match vs.getLast? with
 | none => none
 | some q => some (q, decide (¬ key < (f q).a))
theorem den_l15Hang (hL : 100 ≤ L) (k : Nat) (m : List Blk) (f : Nat → Nd) (a key p : Int) (v : C) (vs : List Nat) (hv : Sl m v (toI vs)) (hvs : ∀ x ∈ vs, x < 16) (hlen : vs.length ≤ 16) :
  den T X L (k + 1) 104 [.agg (chn f a), .c v, vi key, vi p] m = some ⟨.agg (chn (setF f (lastW f key vs) p) (setA a (lastW f key vs) p)), m, 0, 0⟩ := by
 rw [den_eq T_104]
 have hg : Sl (m ++ [⟨chn f a, 49, 0, true⟩, ⟨chn (fun _ => nd0) 0, 49, 0, true⟩]) v (toI vs) := hv.grow
 have h1 := hg.lenV
 rw [toI_len] at h1
 cases hl : vs.getLast? with
 | none =>
  have : vs = [] := List.getLast?_eq_none_iff.1 hl
  subst this
  simp (maxSteps := 1000000) -implicitDefEqProofs (disch := omega) [-getElem?_pos, c_spec_l15Hang, z65, h1, lastW, setF, setA]
 | some q =>
  have hne : vs ≠ [] := fun h => by subst h; cases hl
  have hpos : 0 < vs.length := List.length_pos_iff.2 hne
  have hq : q < 16 := hvs q (List.mem_of_getLast? hl)
  have h2 := hg.ixV (i := (vs.length : Int) - 1) (by rw [toI_len]; omega)
  have h3 := hg.ldV (i := ((vs.length : Int) - 1).toNat) (by rw [toI_len]; omega)
  have h4 : nth (toI vs) ((vs.length : Int) - 1).toNat = q := by
   rw [List.getLast?_eq_getElem?] at hl
   have : ((vs.length : Int) - 1).toNat = vs.length - 1 := by omega
   rw [this]
   simp [nth, toI, List.getD_eq_getElem?_getD, hl]
  rw [h4] at h3
  rw [show ((vs.length : Int) - 1).toNat = vs.length - 1 by omega] at h2 h3
  have hz : ¬ (vs.length : Int) = 0 := by omega
  by_cases hk : key < (f q).a
  ·simp (maxSteps := 1000000) -implicitDefEqProofs (disch := omega) [-getElem?_pos, c_spec_l15Hang, z65, h1, h2, h3, hz, hne, hk, lastW, hl, setF, setA]
  ·simp (maxSteps := 1000000) -implicitDefEqProofs (disch := omega) [-getElem?_pos, c_spec_l15Hang, z65, h1, h2, h3, hz, hne, hk, lastW, hl, setF, setA]
def treeAdd (f : Nat → Nd) (a key : Int) : (Nat → Nd) × Int × Int :=
 if treeOk f a = true ∧ isVal key = true then
  if (twk f a key 8 none).2.2 = true then
   (if valW f a (twk f a key 8 none).1 = -1 then (if frI f 16 0 = 16 then (f, a, 3) else (upd (setF f (twk f a key 8 none).1 (frI f 16 0)) (frI f 16 0) ⟨true, key, -1, -1⟩, setA a (twk f a key 8 none).1 (frI f 16 0), 0)) else (f, a, 4))
  else (f, a, 2)
 else (f, a, 1)
def outT (r : (Nat → Nd) × Int × Int) : V := .tup [.agg (chn r.1 r.2.1), vi r.2.2]
theorem frI_free {f : Nat → Nd} : ∀ (n i : Nat), frI f n i ≠ i + n → (f (frI f n i)).u = false
 | 0, i, h => absurd rfl h
 | n + 1, i, h => by
  unfold frI at h ⊢
  cases hu : (f i).u with
  | true =>
   rw [if_pos hu] at h
   simp only [if_true]
   exact frI_free n (i + 1) (by omega)
  | false => simpa using hu
theorem den_impl_TreeAdd (hL : 100 ≤ L) (k : Nat) (m : List Blk) (f : Nat → Nd) (a key : Int) : den T X L (k + 21) 88 [.agg (chn f a), vi key] m = some ⟨outT (treeAdd f a key), m, 0, 0⟩ := by
 rw [den_eq T_88]
 unfold outT
 cases hok : treeOk f a with
 | false => simp (maxSteps := 1000000) -implicitDefEqProofs (disch := omega) [-getElem?_pos, c_impl_TreeAdd, den_impl_TreeOk hL, treeOk_same, hok, treeAdd, z65]
 | true =>
  have ht := trW_root hok
  cases hv : isVal key with
  | false => simp (maxSteps := 1000000) -implicitDefEqProofs (disch := omega) [-getElem?_pos, c_impl_TreeAdd, den_impl_TreeOk hL, treeOk_same, den_isValue (k + 18), hok, hv, treeAdd, z65]
  | true =>
   have e := den_impl_twalk (X := X) hL (k + 19) (m ++ [⟨chn f a, 49, 0, true⟩, ⟨chn (fun _ => nd0) 0, 49, 0, true⟩]) m.length f a key (by simp (maxSteps := 1000000) -implicitDefEqProofs (disch := omega) [-getElem?_pos]) ht
   have htw := (twk_tr (key := key) 8 none ht).1
   have hg := get_way (f := f) (a := a) htw
   have hw := way_lt htw
   unfold treeAdd
   rw [if_pos ⟨hok, hv⟩]
   generalize twk f a key 8 none = r at e htw hg hw
   obtain ⟨w, op, ok⟩ := r
   simp only at e htw hg hw ⊢
   cases ok with
   | false => simp (maxSteps := 1000000) -implicitDefEqProofs (disch := omega) [-getElem?_pos, c_impl_TreeAdd, den_impl_TreeOk hL, treeOk_same, den_isValue (k + 18), hok, hv, e, z65]
   | true =>
    by_cases hz : valW f a w = -1
    ·rw [hz] at hg
     have hl := iter_blk (n0 := m.length) (id := 1) (ka := some [2, 4]) (f := fun s => exec (den T X L (k + 20)) L m.length none c_impl_TreeAdd_b0 s) (tr := trim m.length (some [1, 2, 4, 6, 37, 38])) (σ := Nat)
      (fun i => ⟨[(1, vi key), (2, .c (.ptr m.length 0 65)), (4, .c (.ptr (m.length + 1) 0 65)), (6, .c (.ptr m.length (offW w) 65)), (37, .agg (nds 16 f)), (38, vi i)], m ++ [⟨chn f a, 49, 0, true⟩, ⟨chn (fun _ => nd0) 0, 49, 0, true⟩], 0, 0⟩)
      (fun i => i ≤ 16) (fun i => 16 - i)
      (fun i => if frI f (16 - i) i = 16 then (.norm, ⟨[(2, .c (.ptr m.length 0 65)), (4, .c (.ptr (m.length + 1) 0 65))], m ++ [⟨chn f a, 49, 0, true⟩, ⟨chn (fun _ => nd0) 0, 49, 0, true⟩], 0, 0⟩)
       else (.ret, ⟨[(4, .c (.ptr (m.length + 1) 0 65)), (5, vi 0)],
        m ++ [⟨chn (upd (setF f w (frI f (16 - i) i)) (frI f (16 - i) i) ⟨true, key, -1, -1⟩) (setA a w (frI f (16 - i) i)), 49, 0, true⟩, ⟨chn (upd (setF f w (frI f (16 - i) i)) (frI f (16 - i) i) ⟨true, key, -1, -1⟩) (setA a w (frI f (16 - i) i)), 49, 0, true⟩], 0, 0⟩)) ?w
     case w =>
      intro i hi
      by_cases he : i = 16
      ·subst he
       refine ⟨.exit 1, _, by simp (maxSteps := 1000000) -implicitDefEqProofs (disch := omega) [-getElem?_pos, c_impl_TreeAdd_b0]; rfl, ?_⟩
       simp (maxSteps := 1000000) -implicitDefEqProofs (disch := omega) [-getElem?_pos, c_blkx, frI]
      ·have hi' : (i : Int) < 16 := by omega
       cases hu : (f i).u with
       | true =>
        refine ⟨.norm, _, by simp (maxSteps := 1000000) -implicitDefEqProofs (disch := omega) [-getElem?_pos, c_impl_TreeAdd_b0, hi', znd, nd_g0, nd_lay, hu, show i * 4 ≤ 60 by omega]; rfl, i + 1, ?_, by omega, by omega, by simp only [← frI_step (show i < 16 by omega) hu]⟩
        simp (maxSteps := 1000000) -implicitDefEqProofs (disch := omega) [-getElem?_pos, nd_refs]
       | false =>
        have hlay := fun x => lay_way (f := f) (a := a) (x := x) htw
        refine ⟨.ret, _, by simp (maxSteps := 1000000) -implicitDefEqProofs (disch := omega) [-getElem?_pos, c_impl_TreeAdd_b0, hi', znd, nd_g0, nd_lay, nd_l0, nd_l1, nd_l2, nd_l3, hu, show i * 4 ≤ 60 by omega, hlay]; rfl, ?_⟩
        simp (maxSteps := 1000000) -implicitDefEqProofs (disch := omega) [-getElem?_pos, c_blkr, frI_hit (show i < 16 by omega) hu, he]
     simp (maxSteps := 1000000) -implicitDefEqProofs (disch := omega) [-getElem?_pos, c_impl_TreeAdd, den_impl_TreeOk hL, treeOk_same, den_isValue (k + 18), hok, hv, e, z65, hg, hz]
     rw [hl L 0 _ (Nat.zero_le _) ?tr (by show 16 < L; omega)]
     case tr => simp (maxSteps := 1000000) -implicitDefEqProofs (disch := omega) [-getElem?_pos]
     by_cases hf : frI f 16 0 = 16
     ·simp (maxSteps := 1000000) -implicitDefEqProofs (disch := omega) [-getElem?_pos, hf]
     ·simp (maxSteps := 1000000) -implicitDefEqProofs (disch := omega) [-getElem?_pos, hf]
    ·simp (maxSteps := 1000000) -implicitDefEqProofs (disch := omega) [-getElem?_pos, c_impl_TreeAdd, den_impl_TreeOk hL, treeOk_same, den_isValue (k + 18), hok, hv, e, z65, hg, hz]
theorem den_spec_TreeAdd (hL : 100 ≤ L) (k : Nat) (m : List Blk) (f : Nat → Nd) (a key : Int) : den T X L (k + 21) 68 [.agg (chn f a), vi key] m = some ⟨outT (treeAdd f a key), m, 0, 0⟩ := by
 rw [den_eq T_68]
 unfold outT
 cases hok : treeOk f a with
 | false => simp (maxSteps := 1000000) -implicitDefEqProofs (disch := omega) [-getElem?_pos, c_spec_TreeAdd, den_spec_TreeOk hL, hok, treeAdd, z65]
 | true =>
  have ht := trW_root hok
  cases hv : isVal key with
  | false => simp (maxSteps := 1000000) -implicitDefEqProofs (disch := omega) [-getElem?_pos, c_spec_TreeAdd, den_spec_TreeOk hL, den_l1Value (k + 18), hok, hv, treeAdd, z65]
  | true =>
   have e := fun m => den_spec_twalk (X := X) hL (k + 19) m f a key ht
   have hvl := vis_len (key := key) 8 none ht
   have hle := twk_le (key := key) 8 none ht
   have hvt := vis_lt (key := key) 8 none ht
   have hla := vis_last (key := key) 8 none ht
   rw [show valW f a none = a from rfl] at hvl hvt hla
   unfold treeAdd
   rw [if_pos ⟨hok, hv⟩]
   generalize vis f key 8 a = vs at e hvl hvt hla
   generalize twk f a key 8 none = r at e hvl hle hla
   obtain ⟨w, op, ok⟩ := r
   simp only at e hvl hle hla ⊢
   have hb := frI_bound f 16 0
   cases ok with
   | false => simp (maxSteps := 1000000) -implicitDefEqProofs (disch := omega) [-getElem?_pos, c_spec_TreeAdd, den_spec_TreeOk hL, den_l1Value (k + 18), hok, hv, e, z65]
   | true =>
    by_cases hz : valW f a w = -1
    ·have hw : lastW f key vs = w := (hla rfl hz).symm
     have hl := iter_blk (n0 := m.length) (id := 0) (ka := some [1, 2, 4, 6, 9]) (f := fun s => exec (den T X L (k + 20)) L m.length none c_spec_TreeAdd_b0 s) (tr := trim m.length (some [1, 2, 4, 6, 9])) (σ := Nat)
      (fun i => ⟨[(1, vi key), (2, .c (.ptr m.length 0 65)), (4, .c (.ptr (m.length + 1) 0 65)), (6, .c (.sl (m.length + 2) 0 vs.length vs.length)), (9, vi i)], m ++ [⟨chn f a, 49, 0, true⟩, ⟨chn (fun _ => nd0) 0, 49, 0, true⟩, blkI (toI vs)], 0, 0⟩)
      (fun i => i ≤ 16) (fun i => 16 - i)
      (fun i => (.norm, ⟨[(1, vi key), (2, .c (.ptr m.length 0 65)), (4, .c (.ptr (m.length + 1) 0 65)), (6, .c (.sl (m.length + 2) 0 vs.length vs.length)), (9, vi (frI f (16 - i) i))], m ++ [⟨chn f a, 49, 0, true⟩, ⟨chn (fun _ => nd0) 0, 49, 0, true⟩, blkI (toI vs)], 0, 0⟩)) ?w
     case w =>
      intro i hi
      by_cases he : i = 16
      ·subst he
       refine ⟨.exit 0, _, by simp (maxSteps := 1000000) -implicitDefEqProofs (disch := omega) [-getElem?_pos, c_spec_TreeAdd_b0]; rfl, ?_⟩
       simp (maxSteps := 1000000) -implicitDefEqProofs (disch := omega) [-getElem?_pos, c_blkx, frI]
      ·have hi' : (i : Int) < 16 := by omega
       cases hu : (f i).u with
       | true =>
        refine ⟨.norm, _, by simp (maxSteps := 1000000) -implicitDefEqProofs (disch := omega) [-getElem?_pos, c_spec_TreeAdd_b0, hi', hu]; rfl, i + 1, ?_, by omega, by omega, by simp only [← frI_step (show i < 16 by omega) hu]⟩
        simp (maxSteps := 1000000) -implicitDefEqProofs (disch := omega) [-getElem?_pos]
       | false =>
        refine ⟨.exit 0, _, by simp (maxSteps := 1000000) -implicitDefEqProofs (disch := omega) [-getElem?_pos, c_spec_TreeAdd_b0, hi', hu]; rfl, ?_⟩
        simp (maxSteps := 1000000) -implicitDefEqProofs (disch := omega) [-getElem?_pos, c_blkx, frI_hit (show i < 16 by omega) hu]
     have hfree := frI_free (f := f) 16 0
     simp (maxSteps := 1000000) -implicitDefEqProofs (disch := omega) [-getElem?_pos, c_spec_TreeAdd, den_spec_TreeOk hL, den_l1Value (k + 18), hok, hv, e, z65, hz]
     rw [hl L 0 _ (Nat.zero_le _) ?tr (by show 16 < L; omega)]
     case tr => simp (maxSteps := 1000000) -implicitDefEqProofs (disch := omega) [-getElem?_pos]
     simp only [Nat.sub_zero]
     generalize frI f 16 0 = n at hb hfree
     by_cases hf : n = 16
     ·subst hf; simp (maxSteps := 1000000) -implicitDefEqProofs (disch := omega) [-getElem?_pos]
     ·have hf' : ¬ (n : Int) = 16 := by omega
      have hfu := hfree (by omega)
      have hne : ∀ q s, w = some (q, s) → q ≠ n := by
       intro q s hqs hqn
       rw [← hw] at hqs
       unfold lastW at hqs
       cases hgl : vs.getLast? with
       | none => rw [hgl] at hqs; cases hqs
       | some x =>
        rw [hgl] at hqs
        simp only [Option.some.injEq, Prod.mk.injEq] at hqs
        have := (hvt x (List.mem_of_getLast? hgl)).2
        rw [hqs.1, hqn, hfu] at this
        cases this
      have hw2 : lastW (upd f n ⟨true, key, -1, -1⟩) key vs = w := by
       rw [← hw]
       unfold lastW
       cases hgl : vs.getLast? with
       | none => rfl
       | some x =>
        have hx : x ≠ n := fun hx => by
         have := (hvt x (List.mem_of_getLast? hgl)).2
         rw [hx, hfu] at this
         cases this
        simp only [upd_ne _ _ hx]
      have hh := fun (l : List Blk) (p : Int) => den_l15Hang (X := X) hL (k + 19) (m ++ ⟨chn (upd f n ⟨true, key, -1, -1⟩) a, 49, 0, true⟩ :: ⟨chn (fun _ => nd0) 0, 49, 0, true⟩ :: blkI (toI vs) :: l) (upd f n ⟨true, key, -1, -1⟩) a key p (.sl (m.length + 2) 0 (toI vs).length (toI vs).length) vs (live_ints (ty := 3) (o := true) (by simp [get_app])) (fun x hx => (hvt x hx).1) (by omega)
      simp only [hw2, setF_comm hne, toI_len] at hh
      simp (maxSteps := 1000000) -implicitDefEqProofs (disch := omega) [-getElem?_pos, hf, hf', znd, nd_l0, nd_l1, nd_l2, nd_l3, hh]
    ·simp (maxSteps := 1000000) -implicitDefEqProofs (disch := omega) [-getElem?_pos, c_spec_TreeAdd, den_spec_TreeOk hL, den_l1Value (k + 18), hok, hv, e, z65, hz]
end Go.Proofs.YtfbeplbcaanimaaGreat
