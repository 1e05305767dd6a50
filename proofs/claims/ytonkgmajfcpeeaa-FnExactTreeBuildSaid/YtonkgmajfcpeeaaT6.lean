/-
  Trees: the walk to a key; found.
-/
import Derived.Test.YtonkgmajfcpeeaaT5
set_option linter.unusedVariables false
set_option linter.unusedSimpArgs false
set_option maxHeartbeats 4000000
namespace Go.Proofs.Ytonkgmajfcpeeaa
variable {X : FuncId → List V → List Blk → Option Ret} {L : Nat}

/-- Where a place is written: the root, or a node's left or right. -/
abbrev Way := Option (Nat × Bool)
def valW (f : Nat → Nd) (a : Int) : Way → Int
  | none => a
  | some (q, false) => (f q).b
  | some (q, true) => (f q).c
def offW : Way → Nat
  | none => 64
  | some (q, false) => q * 4 + 2
  | some (q, true) => q * 4 + 3
def okW : Way → Prop
  | none => True
  | some (q, _) => q < 16
theorem get_way {f : Nat → Nd} {a : Int} {w : Way} (h : okW w) : (chn f a)[offW w]? = some (ci (valW f a w)) := by
  match w, h with
  | none, _ => simp [offW, valW, nds_past]
  | some (q, false), h => exact nds_b h
  | some (q, true), h => exact nds_c h
theorem way_lt {w : Way} (h : okW w) : offW w < 65 := by
  match w, h with
  | none, _ => decide
  | some (q, false), h => show q * 4 + 2 < 65; have : q < 16 := h; omega
  | some (q, true), h => show q * 4 + 3 < 65; have : q < 16 := h; omega
def twk (f : Nat → Nd) (a key : Int) : Nat → Way → Way × Nat × Bool
  | n, w => if valW f a w = -1 then (w, 0, true) else match n with
    | 0 => (w, 0, false)
    | n + 1 => if key < (f (valW f a w).toNat).a then ((twk f a key n (some ((valW f a w).toNat, false))).1, (twk f a key n (some ((valW f a w).toNat, false))).2.1 + 1, (twk f a key n (some ((valW f a w).toNat, false))).2.2)
      else if key > (f (valW f a w).toNat).a then ((twk f a key n (some ((valW f a w).toNat, true))).1, (twk f a key n (some ((valW f a w).toNat, true))).2.1 + 1, (twk f a key n (some ((valW f a w).toNat, true))).2.2)
      else (w, 1, true)
section
variable {f : Nat → Nd} {a key : Int} {n : Nat} {w : Way} {q : Nat}
theorem twk_end (h : valW f a w = -1) : twk f a key n w = (w, 0, true) := by cases n <;> simp [twk, h]
theorem twk_zero (h : valW f a w ≠ -1) : twk f a key 0 w = (w, 0, false) := by simp [twk, h]
theorem twk_l (h : valW f a w = q) (hk : key < (f q).a) : twk f a key (n + 1) w = ((twk f a key n (some (q, false))).1, (twk f a key n (some (q, false))).2.1 + 1, (twk f a key n (some (q, false))).2.2) := by
  conv => lhs; unfold twk
  rw [if_neg (by omega)]
  simp only [h, Int.toNat_natCast, if_pos hk]
theorem twk_r (h : valW f a w = q) (hk : ¬ key < (f q).a) (hk2 : key > (f q).a) : twk f a key (n + 1) w = ((twk f a key n (some (q, true))).1, (twk f a key n (some (q, true))).2.1 + 1, (twk f a key n (some (q, true))).2.2) := by
  conv => lhs; unfold twk
  rw [if_neg (by omega)]
  simp only [h, Int.toNat_natCast, if_neg hk, if_pos hk2]
theorem twk_hit (h : valW f a w = q) (hk : ¬ key < (f q).a) (hk2 : ¬ key > (f q).a) : twk f a key (n + 1) w = (w, 1, true) := by
  conv => lhs; unfold twk
  rw [if_neg (by omega)]
  simp only [h, Int.toNat_natCast, if_neg hk, if_neg hk2]
end
/-- A place where a part hangs. -/
def trW (f : Nat → Nd) (a : Int) (w : Way) : Prop := okW w ∧ ∃ l, Tr f (valW f a w) l
theorem trW_step {f : Nat → Nd} {a : Int} {w : Way} (h : trW f a w) (hv : valW f a w ≠ -1) : ∃ q : Nat, valW f a w = q ∧ q < 16 ∧ (f q).u = true ∧ trW f a (some (q, false)) ∧ trW f a (some (q, true)) := by
  obtain ⟨_, l, hl⟩ := h
  rcases hl.inv with ⟨h1, _⟩ | ⟨q, l1, r1, h1, h2, h3, h4, h5, _⟩
  · exact absurd h1 hv
  · exact ⟨q, h1, h2, h3, ⟨h2, l1, h4⟩, ⟨h2, r1, h5⟩⟩
theorem twk_le {f : Nat → Nd} {a key : Int} : ∀ (n : Nat) (w : Way), trW f a w → (twk f a key n w).2.1 ≤ n
  | 0, w, _ => by
    by_cases h : valW f a w = -1
    · rw [twk_end h]; exact Nat.le_refl _
    · rw [twk_zero h]; exact Nat.le_refl _
  | n + 1, w, h => by
    by_cases hv : valW f a w = -1
    · rw [twk_end hv]; exact Nat.zero_le _
    · obtain ⟨q, h1, _, _, h4, h5⟩ := trW_step h hv
      by_cases k1 : key < (f q).a
      · rw [twk_l h1 k1]; exact Nat.succ_le_succ (twk_le n _ h4)
      · by_cases k2 : key > (f q).a
        · rw [twk_r h1 k1 k2]; exact Nat.succ_le_succ (twk_le n _ h5)
        · rw [twk_hit h1 k1 k2]; exact Nat.succ_le_succ (Nat.zero_le _)
theorem twk_tr {f : Nat → Nd} {a key : Int} : ∀ (n : Nat) (w : Way), trW f a w → trW f a (twk f a key n w).1
  | 0, w, h => by
    by_cases hv : valW f a w = -1
    · rw [twk_end hv]; exact h
    · rw [twk_zero hv]; exact h
  | n + 1, w, h => by
    by_cases hv : valW f a w = -1
    · rw [twk_end hv]; exact h
    · obtain ⟨q, h1, _, _, h4, h5⟩ := trW_step h hv
      by_cases k1 : key < (f q).a
      · rw [twk_l h1 k1]; exact twk_tr n _ h4
      · by_cases k2 : key > (f q).a
        · rw [twk_r h1 k1 k2]; exact twk_tr n _ h5
        · rw [twk_hit h1 k1 k2]; exact h

theorem den_impl_twalk (hL : 100 ≤ L) (k : Nat) (m : List Blk) (b : Nat) (f : Nat → Nd) (a key : Int) (hb : live m b 65 = some ⟨chn f a, 43, 0, true⟩) (ht : trW f a none) :
    den T X L (k + 1) 68 [.c (.ptr b 0 65), vi key] m = some ⟨.tup [.c (.ptr b (offW (twk f a key 8 none).1) 65), vi (twk f a key 8 none).2.1, vb (twk f a key 8 none).2.2], m, 0, 0⟩ := by
  have hlt := live_lt hb
  rw [den_eq T_68]
  have hl := iter_blk (n0 := m.length) (id := 0) (ka := some [7, 8]) (f := fun s => exec (den T X L k) L m.length none c_impl_Tree_walk_b0 s) (tr := trim m.length (some [0, 1, 7, 8])) (σ := Nat × Way)
    (fun s => ⟨[(0, .c (.ptr b 0 65)), (1, vi key), (7, .c (.ptr b (offW s.2) 65)), (8, vi (8 - s.1))], m, 0, 0⟩) (fun s => s.1 ≤ 8 ∧ trW f a s.2) (fun s => s.1)
    (fun s => if (twk f a key s.1 s.2).2.2 = true ∧ valW f a (twk f a key s.1 s.2).1 = -1 then (.norm, ⟨[(7, .c (.ptr b (offW (twk f a key s.1 s.2).1) 65)), (8, vi (8 - s.1 + (twk f a key s.1 s.2).2.1))], m, 0, 0⟩)
      else (.ret, ⟨[(4, .c (.ptr b (offW (twk f a key s.1 s.2).1) 65)), (5, vi (8 - s.1 + (twk f a key s.1 s.2).2.1)), (6, vb (twk f a key s.1 s.2).2.2)], m, 0, 0⟩)) ?w
  case w =>
    rintro ⟨n, w⟩ ⟨hn, htw⟩
    simp only at hn htw
    have hg := get_way (f := f) (a := a) htw.1
    by_cases hv : valW f a w = -1
    · rw [hv] at hg
      refine ⟨.exit 0, _, by simp (maxSteps := 1000000) (implicitDefEqProofs := false) (disch := omega) [-getElem?_pos, c_impl_Tree_walk_b0, hb, hg]; rfl, ?_⟩
      simp only [twk_end hv]
      simp (maxSteps := 1000000) (implicitDefEqProofs := false) (disch := omega) [-getElem?_pos, c_blkx, hv, take_mx]
    · obtain ⟨q, h1, h2, h3, h4, h5⟩ := trW_step htw hv
      rw [h1] at hg
      have hq : ¬ (q : Int) = -1 := by omega
      cases n with
      | zero =>
        refine ⟨.ret, _, by simp (maxSteps := 1000000) (implicitDefEqProofs := false) (disch := omega) [-getElem?_pos, c_impl_Tree_walk_b0, hb, hg, hq]; rfl, ?_⟩
        simp only [twk_zero hv]
        simp (maxSteps := 1000000) (implicitDefEqProofs := false) (disch := omega) [-getElem?_pos, c_blkr, take_mx]
      | succ n =>
        have h8 : ¬ (8 - ((n : Int) + 1)) = 8 := by omega
        have hn8 : 8 - ((n : Int) + 1) + 1 = 8 - n := by omega
        by_cases k1 : key < (f q).a
        · refine ⟨.norm, _, by simp (maxSteps := 1000000) (implicitDefEqProofs := false) (disch := omega) [-getElem?_pos, c_impl_Tree_walk_b0, hb, hg, hq, h8, k1]; rfl, (n, some (q, false)), ?_, ⟨by omega, h4⟩, by show n < n + 1; omega, ?_⟩
          · simp (maxSteps := 1000000) (implicitDefEqProofs := false) (disch := omega) [-getElem?_pos, hn8, offW, take_mx]
          · simp only [twk_l h1 k1]
            rw [show (8 - (n : Int) + ((twk f a key n (some (q, false))).2.1 : Nat)) = 8 - ((n + 1 : Nat) : Int) + (((twk f a key n (some (q, false))).2.1 + 1 : Nat)) by omega]
        · by_cases k2 : key > (f q).a
          · refine ⟨.norm, _, by simp (maxSteps := 1000000) (implicitDefEqProofs := false) (disch := omega) [-getElem?_pos, c_impl_Tree_walk_b0, hb, hg, hq, h8, k1, k2]; rfl, (n, some (q, true)), ?_, ⟨by omega, h5⟩, by show n < n + 1; omega, ?_⟩
            · simp (maxSteps := 1000000) (implicitDefEqProofs := false) (disch := omega) [-getElem?_pos, hn8, offW, take_mx]
            · simp only [twk_r h1 k1 k2]
              rw [show (8 - (n : Int) + ((twk f a key n (some (q, true))).2.1 : Nat)) = 8 - ((n + 1 : Nat) : Int) + (((twk f a key n (some (q, true))).2.1 + 1 : Nat)) by omega]
          · refine ⟨.ret, _, by simp (maxSteps := 1000000) (implicitDefEqProofs := false) (disch := omega) [-getElem?_pos, c_impl_Tree_walk_b0, hb, hg, hq, h8, k1, k2]; rfl, ?_⟩
            simp only [twk_hit h1 k1 k2]
            simp (maxSteps := 1000000) (implicitDefEqProofs := false) (disch := omega) [-getElem?_pos, c_blkr, take_mx, h1, hq, hn8]
  simp (maxSteps := 1000000) (implicitDefEqProofs := false) (disch := omega) [-getElem?_pos, c_impl_Tree_walk, hb]
  rw [hl L (8, none) _ ⟨Nat.le_refl _, ht⟩ ?tr (by show 8 < L; omega)]
  case tr => simp (maxSteps := 1000000) (implicitDefEqProofs := false) (disch := omega) [-getElem?_pos, offW, take_mx]
  have hle := twk_le (f := f) (a := a) (key := key) 8 none ht
  by_cases hc : (twk f a key 8 none).2.2 = true ∧ valW f a (twk f a key 8 none).1 = -1
  · simp (maxSteps := 1000000) (implicitDefEqProofs := false) (disch := omega) [-getElem?_pos, hc.1, hc.2, take_mx]
  · rw [if_neg hc]
    simp (maxSteps := 1000000) (implicitDefEqProofs := false) (disch := omega) [-getElem?_pos, take_mx]

/-! The reference's: the places that are opened. -/
def vis (f : Nat → Nd) (key : Int) : Nat → Int → List Nat
  | n, p => if p = -1 then [] else match n with
    | 0 => []
    | n + 1 => if (f p.toNat).a = key then [p.toNat] else if key < (f p.toNat).a then p.toNat :: vis f key n (f p.toNat).b else p.toNat :: vis f key n (f p.toNat).c
section
variable {f : Nat → Nd} {key : Int} {n q : Nat}
theorem vis_end : vis f key n (-1) = [] := by cases n <;> simp [vis]
theorem vis_zero (p : Int) : vis f key 0 p = [] := by simp [vis]
theorem vis_hit (hk : (f q).a = key) : vis f key (n + 1) q = [q] := by
  conv => lhs; unfold vis
  rw [if_neg (by omega)]
  simp only [Int.toNat_natCast, if_pos hk]
theorem vis_l (hk : ¬ (f q).a = key) (hk2 : key < (f q).a) : vis f key (n + 1) q = q :: vis f key n (f q).b := by
  conv => lhs; unfold vis
  rw [if_neg (by omega)]
  simp only [Int.toNat_natCast, if_neg hk, if_pos hk2]
theorem vis_r (hk : ¬ (f q).a = key) (hk2 : ¬ key < (f q).a) : vis f key (n + 1) q = q :: vis f key n (f q).c := by
  conv => lhs; unfold vis
  rw [if_neg (by omega)]
  simp only [Int.toNat_natCast, if_neg hk, if_neg hk2]
end
theorem vis_len {f : Nat → Nd} {a key : Int} : ∀ (n : Nat) (w : Way), trW f a w → (vis f key n (valW f a w)).length = (twk f a key n w).2.1
  | 0, w, h => by
    rw [vis_zero]
    by_cases hv : valW f a w = -1
    · rw [twk_end hv]; rfl
    · rw [twk_zero hv]; rfl
  | n + 1, w, h => by
    by_cases hv : valW f a w = -1
    · rw [twk_end hv, hv, vis_end]; rfl
    · obtain ⟨q, h1, _, _, h4, h5⟩ := trW_step h hv
      by_cases k1 : key < (f q).a
      · rw [twk_l h1 k1, h1, vis_l (by omega) k1, List.length_cons]
        exact congrArg (· + 1) (vis_len n _ h4)
      · by_cases k2 : key > (f q).a
        · rw [twk_r h1 k1 k2, h1, vis_r (by omega) k1, List.length_cons]
          exact congrArg (· + 1) (vis_len n _ h5)
        · rw [twk_hit h1 k1 k2, h1, vis_hit (by omega)]; rfl
/-- Where the walk ends at nothing: below the last place that was opened, on the key's side. -/
theorem vis_last {f : Nat → Nd} {a key : Int} : ∀ (n : Nat) (w : Way), trW f a w → (twk f a key n w).2.2 = true → valW f a (twk f a key n w).1 = -1 →
    (twk f a key n w).1 = match (vis f key n (valW f a w)).getLast? with
      | none => w
      | some q => some (q, decide (¬ key < (f q).a))
  | 0, w, h, h1, h2 => by
    rw [vis_zero]
    by_cases hv : valW f a w = -1
    · rw [twk_end hv]; rfl
    · rw [twk_zero hv] at h1; cases h1
  | n + 1, w, h, h1, h2 => by
    by_cases hv : valW f a w = -1
    · rw [twk_end hv, hv, vis_end]; rfl
    · obtain ⟨q, e1, _, _, h4, h5⟩ := trW_step h hv
      by_cases k1 : key < (f q).a
      · rw [twk_l e1 k1] at h1 h2 ⊢
        rw [e1, vis_l (by omega) k1]
        have := vis_last n _ h4 h1 h2
        simp only at this ⊢
        rw [this]
        show _ = _
        cases hl : vis f key n (f q).b with
        | nil => rw [show valW f a (some (q, false)) = (f q).b from rfl, hl]; simp [k1]
        | cons x r => rw [show valW f a (some (q, false)) = (f q).b from rfl, hl, List.getLast?_cons_cons, List.getLast?_cons]
      · by_cases k2 : key > (f q).a
        · rw [twk_r e1 k1 k2] at h1 h2 ⊢
          rw [e1, vis_r (by omega) k1]
          have := vis_last n _ h5 h1 h2
          simp only at this ⊢
          rw [this]
          cases hl : vis f key n (f q).c with
          | nil => rw [show valW f a (some (q, true)) = (f q).c from rfl, hl]; simp [k1]
          | cons x r => rw [show valW f a (some (q, true)) = (f q).c from rfl, hl, List.getLast?_cons_cons, List.getLast?_cons]
        · rw [twk_hit e1 k1 k2] at h2
          rw [show valW f a ((w, 1, true) : Way × Nat × Bool).1 = valW f a w from rfl, e1] at h2
          omega
theorem vis_lt {f : Nat → Nd} {a key : Int} : ∀ (n : Nat) (w : Way), trW f a w → ∀ x ∈ vis f key n (valW f a w), x < 16 ∧ (f x).u = true
  | 0, w, h, x, hx => by rw [vis_zero] at hx; cases hx
  | n + 1, w, h, x, hx => by
    by_cases hv : valW f a w = -1
    · rw [hv, vis_end] at hx; cases hx
    · obtain ⟨q, e1, q1, q2, h4, h5⟩ := trW_step h hv
      rw [e1] at hx
      by_cases k0 : (f q).a = key
      · rw [vis_hit k0] at hx
        have := List.mem_singleton.1 hx
        subst this; exact ⟨q1, q2⟩
      · by_cases k1 : key < (f q).a
        · rw [vis_l k0 k1] at hx
          rcases List.mem_cons.1 hx with hx | hx
          · subst hx; exact ⟨q1, q2⟩
          · exact vis_lt n _ h4 x hx
        · rw [vis_r k0 k1] at hx
          rcases List.mem_cons.1 hx with hx | hx
          · subst hx; exact ⟨q1, q2⟩
          · exact vis_lt n _ h5 x hx
end Go.Proofs.Ytonkgmajfcpeeaa
