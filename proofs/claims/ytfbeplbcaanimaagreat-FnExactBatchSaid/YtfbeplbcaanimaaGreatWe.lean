/-
 Deeds on spaces: the program's walk.
-/
import Derived.Test.YtfbeplbcaanimaaGreatWa
import Derived.Test.YtfbeplbcaanimaaGreatWc
set_option linter.unusedVariables false
set_option linter.unusedSimpArgs false
set_option maxHeartbeats 4000000
set_option maxRecDepth 100000
namespace Go.Proofs.YtfbeplbcaanimaaGreat
variable {L : Nat}
structure LeftB (m M : List Blk) (b lo e0 e w : Nat) (s : Spc) (c' : C) (xss : List (List Int)) : Prop where
 wr : w ≤ m.length - b
 len : m.length ≤ M.length
 at_ : M[b]? = some ⟨spC s c', 51, 0, true⟩
 get : ∀ q, q < m.length → q ≠ b → M[q]? = m[q]?
 so : ∃ hi', SO M lo hi' c' xss ∧ hi' ≤ M.length ∧ hi' ≤ mx (mx e0 e) c'.refs
theorem SO.set {m : List Blk} {lo hi b : Nat} {c : C} {xss : List (List Int)} {B : Blk} (h : SO m lo hi c xss) (hb : b < lo ∨ hi ≤ b) : SO (m.set b B) lo hi c xss :=
 h.congr fun q h1 h2 => List.getElem?_set_ne (by omega)
theorem LeftB.set {m : List Blk} {b lo hi e0 w : Nat} {s : Spc} {c : C} {xss : List (List Int)} (hb : b < m.length) (hs : SO m lo hi c xss) (hd : b < lo ∨ hi ≤ b) (hi1 : hi ≤ m.length) (he : hi ≤ mx e0 c.refs) (hw : w ≤ m.length - b) : LeftB m (m.set b ⟨spC s c, 51, 0, true⟩) b lo e0 0 w s c xss :=
 ⟨hw, by simp, List.getElem?_set_self hb, fun q h1 h2 => List.getElem?_set_ne (Ne.symm h2), hi, hs.set hd, by simpa using hi1, by simp only [mx_eq] at he ⊢; omega⟩
theorem told_lit1 (k : Nat) (a : Int) {m : List Blk} {n : Nat} (hn : m.length = n) (p : List Blk) (code many full : Int) (hL : 100 ≤ L) : den T libX L (k + 1) 92 [vi code, .c (.sl (n + p.length) 0 1 1), vi many, vi full] (m ++ (p ++ [⟨[ci a], 3, 1, true⟩])) = some ⟨vi (if code = a then 1 else if code = 0 then 0 else if code = many then 2 else if code = full then 3 else 4), m ++ (p ++ [⟨[ci a], 3, 1, true⟩]), 0, 0⟩ := by
 have hs : Sl (m ++ (p ++ [⟨[ci a], 3, 1, true⟩])) (.sl (n + p.length) 0 1 1) [a] := by
  refine .inr ⟨n + p.length, 0, 1, ⟨[ci a], 3, 1, true⟩, rfl, ?_, .inr rfl, fun j hj => ?_⟩
  ·unfold live
   rw [← List.append_assoc, List.getElem?_append_right (by rw [List.length_append]; omega), List.length_append, hn, Nat.sub_self]
   rfl
  ·have : j = 0 := by simpa using hj
   subst this; rfl
 rw [den_toldBy k _ _ [a] code many full hs (by simp; omega) (by simp)]
 simp
theorem told_lit2 (k : Nat) (a a' : Int) {m : List Blk} {n : Nat} (hn : m.length = n) (p : List Blk) (code many full : Int) (hL : 100 ≤ L) : den T libX L (k + 1) 92 [vi code, .c (.sl (n + p.length) 0 2 2), vi many, vi full] (m ++ (p ++ [⟨[ci a, ci a'], 3, 1, true⟩])) = some ⟨vi (if code = a ∨ code = a' then 1 else if code = 0 then 0 else if code = many then 2 else if code = full then 3 else 4), m ++ (p ++ [⟨[ci a, ci a'], 3, 1, true⟩]), 0, 0⟩ := by
 have hs : Sl (m ++ (p ++ [⟨[ci a, ci a'], 3, 1, true⟩])) (.sl (n + p.length) 0 2 2) [a, a'] := by
  refine .inr ⟨n + p.length, 0, 2, ⟨[ci a, ci a'], 3, 1, true⟩, rfl, ?_, .inr rfl, fun j hj => ?_⟩
  ·unfold live
   rw [← List.append_assoc, List.getElem?_append_right (by rw [List.length_append]; omega), List.length_append, hn, Nat.sub_self]
   rfl
  ·rcases (show j = 0 ∨ j = 1 by simp at hj; omega) with rfl | rfl <;> rfl
 rw [den_toldBy k _ _ [a, a'] code many full hs (by simp; omega) (by simp)]
 simp
theorem told_M {c : Int} (h : 0 ≤ c ∧ c ≤ 4) : (if c = 4 then (1 : Int) else if c = 0 then 0 else if c = 2 then 2 else if c = 3 then 3 else 4) = toldM c := by
 rcases (show c = 0 ∨ c = 1 ∨ c = 2 ∨ c = 3 ∨ c = 4 by omega) with rfl | rfl | rfl | rfl | rfl <;> simp [toldM]
theorem told_R {c : Int} (h : 0 ≤ c ∧ c ≤ 3) : (if c = 3 then (1 : Int) else if c = 0 then 0 else if c = -1 then 2 else if c = 2 then 3 else 4) = toldR c := by
 rcases (show c = 0 ∨ c = 1 ∨ c = 2 ∨ c = 3 by omega) with rfl | rfl | rfl | rfl <;> simp [toldR]
theorem told_T {c : Int} (h : 0 ≤ c ∧ c ≤ 5) : (if c = 4 ∨ c = 5 then (1 : Int) else if c = 0 then 0 else if c = 2 then 2 else if c = 3 then 3 else 4) = toldM c := by
 rcases (show c = 0 ∨ c = 1 ∨ c = 2 ∨ c = 3 ∨ c = 4 ∨ c = 5 by omega) with rfl | rfl | rfl | rfl | rfl | rfl <;> simp [toldM]
theorem told_S {c : Int} (h : 0 ≤ c ∧ c ≤ 4) : (if c = 2 ∨ c = 4 then (1 : Int) else if c = 0 then 0 else if c = -1 then 2 else if c = 3 then 3 else 4) = toldS c := by
 rcases (show c = 0 ∨ c = 1 ∨ c = 2 ∨ c = 3 ∨ c = 4 by omega) with rfl | rfl | rfl | rfl | rfl <;> simp [toldS]
theorem so_tail {m l l3 : List Blk} {b hi : Nat} {B A1 A2 X1 X2 : Blk} {c : C} {xss : List (List Int)} (h : SO (m ++ [A1, A2] ++ l) (m ++ [A1, A2]).length hi c xss) (h3 : ∀ j, m.length + 2 + j < hi → l3[j]? = l[j]?) : SO (m.set b B ++ X1 :: X2 :: l3) m.length hi c xss := by
 refine (h.congr fun q h1 h2 => ?_).wide (by simp) (Nat.le_refl _)
 obtain ⟨j, rfl⟩ : ∃ j, q = m.length + (j + 2) := ⟨q - m.length - 2, by simp at h1; omega⟩
 rw [List.append_assoc, get_app, List.getElem?_append_right (by simp), List.length_set, Nat.add_sub_cancel_left]
 exact h3 j (by omega)
theorem take2 {m : List Blk} {a b : Nat} {B X1 X2 : Blk} {l2 : List Blk} (ha : m.length + 2 ≤ a) : List.take a (m.set b B ++ X1 :: X2 :: l2) = m.set b B ++ X1 :: X2 :: l2.take (a - m.length - 2) := by
 obtain ⟨j, rfl⟩ : ∃ j, a = m.length + (j + 2) := ⟨a - m.length - 2, by omega⟩
 rw [List.take_append, List.length_set, Nat.add_sub_cancel_left, List.take_of_length_le (by simp)]
 simp
theorem fin_leftB {m l : List Blk} {b lo hi e e0 : Nat} {s : Spc} {c : C} {xss : List (List Int)} {a t : Int} {env : List (Nat × V)} (hb : b < m.length) (h : SO (m.set b ⟨spC s c, 51, 0, true⟩ ++ l) m.length hi c xss) (hm : hi ≤ m.length + l.length) (ha : hi ≤ e) (hlo : lo ≤ m.length) :
  ∃ M c' e' w, some (fin m.length (.agg [ci a, ci t]) ⟨env, m.set b ⟨spC s c, 51, 0, true⟩ ++ l, e, m.length - b⟩) = some ⟨.agg [ci a, ci t], M, e', w⟩ ∧ LeftB m M b lo e0 e' w s c' xss := by
 have hw : ¬ m.length - b = 0 := by omega
 have hr : (V.agg [ci a, ci t]).refs = 0 := rfl
 have hmx : ∀ x, x ≤ mx e x := fun x => le_mx_r _ _
 refine ⟨_, c, e, m.length - b, by unfold fin; rw [if_neg hw, hr], Nat.le_refl _, ?_, ?_, fun q h1 h2 => ?_, hi, ?_, ?_, ?_⟩
 ·rw [List.length_take, List.length_append, List.length_set, mx_eq]; omega
 ·show (List.take (mx m.length (mx e 0)) _)[b]? = _
  rw [List.getElem?_take_of_lt (by rw [mx_eq]; omega), List.getElem?_append_left (by simpa using hb), List.getElem?_set_self hb]
 ·show (List.take (mx m.length (mx e 0)) _)[q]? = _
  rw [List.getElem?_take_of_lt (by rw [mx_eq]; omega), List.getElem?_append_left (by simpa using h1), List.getElem?_set_ne (Ne.symm h2)]
 ·exact (h.congr fun q _ hq => List.getElem?_take_of_lt (by show q < mx m.length (mx e 0); rw [mx_eq, mx_eq]; omega)).wide hlo (Nat.le_refl _)
 ·show hi ≤ (List.take (mx m.length (mx e 0)) _).length
  rw [List.length_take, List.length_append, List.length_set, mx_eq, mx_eq]; omega
 ·simp only [mx_eq]; omega
theorem deed8' (s : Spc) (xss : List (List Int)) (x y : Int) : deed s xss ⟨8, x, y⟩ = (s, (setAdd xss x).1, toldS (setAdd xss x).2, 0) := by simp [deed]
theorem deed9' (s : Spc) (xss : List (List Int)) (x y : Int) : deed s xss ⟨9, x, y⟩ = (s, (setDrop xss x).1, toldS (setDrop xss x).2, 0) := by simp [deed]
section
variable (hL : 2000000 ≤ L) (k : Nat) (m : List Blk) (s : Spc) (c : C) (xss : List (List Int)) (x y : Int) (b : Nat) (hb : m[b]? = some ⟨spC s c, 51, 0, true⟩)
include hL hb
theorem deed_1 : den T libX L (k + 22) 47 [.c (.ptr b 0 141), .agg [ci 1, ci x, ci y]] m = some ⟨.agg [ci (deed s xss ⟨1, x, y⟩).2.2.1, ci (deed s xss ⟨1, x, y⟩).2.2.2], m.set b ⟨spC (deed s xss ⟨1, x, y⟩).1 c, 51, 0, true⟩, 0, (m.length - b)⟩ := by
 rw [den_eq T_47]
 have hlt := lt_of_get hb
 have hlv : ∀ l, live (m ++ l) b 141 = some ⟨spC s c, 51, 0, true⟩ := fun l => by unfold live; rw [List.getElem?_append_left hlt, hb, Option.bind_some, if_pos (sp_len s c).symm]
 have st : ∀ l W, (m ++ l).set b W = m.set b W ++ l := fun l W => List.set_append_left _ _ hlt
 have hw : ¬ m.length - b = 0 := by omega
 have hc := mapPut_c s.f s.a x y
 have e1  := fun m => den_impl_MapPut (X := libX) (L := L) (by omega) (k + 17) m s.f s.a x y
 have e2 : ∀ B B1 B2 code many full, den T libX L (k + 21) 92 [vi code, .c (.sl (m.length + 2) 0 1 1), vi many, vi full] (m.set b B ++ [B1, B2, ⟨[ci 4], 3, 1, true⟩]) = some ⟨vi (if code = 4 then 1 else if code = 0 then 0 else if code = many then 2 else if code = full then 3 else 4), m.set b B ++ [B1, B2, ⟨[ci 4], 3, 1, true⟩], 0, 0⟩ := fun B B1 B2 code many full => told_lit1 (L := L) (k + 20) 4 (m := m.set b B) (n := m.length) (by simp) [B1, B2] code many full (by omega)
 simp only [deed, if_true]
 unfold outC at e1
 generalize mapPut s.f s.a x y = q at e1 hc ⊢
 simp only [← told_M hc]
 simp (maxSteps := 1000000) -implicitDefEqProofs (disch := first | omega | (simp [get_app, get_app0]; done) | rfl | (simp only [List.length_cons, List.length_append, List.length_take, List.length_drop, List.length_nil]; omega)) [-getElem?_pos, -C.refs, cr_sl, cr_ptr, cr_nils, cr_int, cr_bool, cr_ci, c_impl_Space_deed, z141, z65, z10r, chn_over, ring_over, chn_take, ring_take, chn_z, ring_z, chn_l, ring_l, sp_len, sp_refs, sp_take, sp_map, sp_queue, sp_tree, sp_set, sp_over, sp_lmap, sp_lqueue, sp_ltree, sp_lset, e1, e2, hlv, st, hw, hlt]
theorem deed_2 : den T libX L (k + 22) 47 [.c (.ptr b 0 141), .agg [ci 2, ci x, ci y]] m = some ⟨.agg [ci (deed s xss ⟨2, x, y⟩).2.2.1, ci (deed s xss ⟨2, x, y⟩).2.2.2], m.set b ⟨spC (deed s xss ⟨2, x, y⟩).1 c, 51, 0, true⟩, 0, (m.length - b)⟩ := by
 rw [den_eq T_47]
 have hlt := lt_of_get hb
 have hlv : ∀ l, live (m ++ l) b 141 = some ⟨spC s c, 51, 0, true⟩ := fun l => by unfold live; rw [List.getElem?_append_left hlt, hb, Option.bind_some, if_pos (sp_len s c).symm]
 have st : ∀ l W, (m ++ l).set b W = m.set b W ++ l := fun l W => List.set_append_left _ _ hlt
 have hw : ¬ m.length - b = 0 := by omega
 have hc := mapDrop_c s.f s.a x
 have e1  := fun m => den_impl_MapDrop (X := libX) (L := L) (by omega) (k + 17) m s.f s.a x
 have e2 : ∀ B B1 B2 code many full, den T libX L (k + 21) 92 [vi code, .c (.sl (m.length + 2) 0 1 1), vi many, vi full] (m.set b B ++ [B1, B2, ⟨[ci 4], 3, 1, true⟩]) = some ⟨vi (if code = 4 then 1 else if code = 0 then 0 else if code = many then 2 else if code = full then 3 else 4), m.set b B ++ [B1, B2, ⟨[ci 4], 3, 1, true⟩], 0, 0⟩ := fun B B1 B2 code many full => told_lit1 (L := L) (k + 20) 4 (m := m.set b B) (n := m.length) (by simp) [B1, B2] code many full (by omega)
 simp only [deed, if_true]
 unfold outC at e1
 generalize mapDrop s.f s.a x = q at e1 hc ⊢
 simp only [← told_M hc]
 simp (maxSteps := 1000000) -implicitDefEqProofs (disch := first | omega | (simp [get_app, get_app0]; done) | rfl | (simp only [List.length_cons, List.length_append, List.length_take, List.length_drop, List.length_nil]; omega)) [-getElem?_pos, -C.refs, cr_sl, cr_ptr, cr_nils, cr_int, cr_bool, cr_ci, c_impl_Space_deed, z141, z65, z10r, chn_over, ring_over, chn_take, ring_take, chn_z, ring_z, chn_l, ring_l, sp_len, sp_refs, sp_take, sp_map, sp_queue, sp_tree, sp_set, sp_over, sp_lmap, sp_lqueue, sp_ltree, sp_lset, e1, e2, hlv, st, hw, hlt]
theorem deed_3 : den T libX L (k + 22) 47 [.c (.ptr b 0 141), .agg [ci 3, ci x, ci y]] m = some ⟨.agg [ci (deed s xss ⟨3, x, y⟩).2.2.1, ci (deed s xss ⟨3, x, y⟩).2.2.2], m, 0, 0⟩ := by
 rw [den_eq T_47]
 have hlt := lt_of_get hb
 have hlv : ∀ l, live (m ++ l) b 141 = some ⟨spC s c, 51, 0, true⟩ := fun l => by unfold live; rw [List.getElem?_append_left hlt, hb, Option.bind_some, if_pos (sp_len s c).symm]
 have st : ∀ l W, (m ++ l).set b W = m.set b W ++ l := fun l W => List.set_append_left _ _ hlt
 have hw : ¬ m.length - b = 0 := by omega
 have hc := mapGet_c s.f s.a x
 have e1  := fun m => den_impl_MapGet (X := libX) (L := L) (by omega) (k + 17) m s.f s.a x
 have e2 : ∀ B1 B2 code many full, den T libX L (k + 21) 92 [vi code, .c (.sl (m.length + 2) 0 1 1), vi many, vi full] (m ++ [B1, B2, ⟨[ci 4], 3, 1, true⟩]) = some ⟨vi (if code = 4 then 1 else if code = 0 then 0 else if code = many then 2 else if code = full then 3 else 4), m ++ [B1, B2, ⟨[ci 4], 3, 1, true⟩], 0, 0⟩ := fun B1 B2 code many full => told_lit1 (L := L) (k + 20) 4 (m := m) (n := m.length) (by simp) [B1, B2] code many full (by omega)
 simp only [deed, if_true]
 skip
 generalize mapGet s.f s.a x = q at e1 hc ⊢
 simp only [← told_M hc]
 simp (maxSteps := 1000000) -implicitDefEqProofs (disch := first | omega | (simp [get_app, get_app0]; done) | rfl | (simp only [List.length_cons, List.length_append, List.length_take, List.length_drop, List.length_nil]; omega)) [-getElem?_pos, -C.refs, cr_sl, cr_ptr, cr_nils, cr_int, cr_bool, cr_ci, c_impl_Space_deed, z141, z65, z10r, chn_over, ring_over, chn_take, ring_take, chn_z, ring_z, chn_l, ring_l, sp_len, sp_refs, sp_take, sp_map, sp_queue, sp_tree, sp_set, sp_over, sp_lmap, sp_lqueue, sp_ltree, sp_lset, e1, e2, hlv, st, hw, hlt]
theorem deed_4 : den T libX L (k + 22) 47 [.c (.ptr b 0 141), .agg [ci 4, ci x, ci y]] m = some ⟨.agg [ci (deed s xss ⟨4, x, y⟩).2.2.1, ci (deed s xss ⟨4, x, y⟩).2.2.2], m.set b ⟨spC (deed s xss ⟨4, x, y⟩).1 c, 51, 0, true⟩, 0, (m.length - b)⟩ := by
 rw [den_eq T_47]
 have hlt := lt_of_get hb
 have hlv : ∀ l, live (m ++ l) b 141 = some ⟨spC s c, 51, 0, true⟩ := fun l => by unfold live; rw [List.getElem?_append_left hlt, hb, Option.bind_some, if_pos (sp_len s c).symm]
 have st : ∀ l W, (m ++ l).set b W = m.set b W ++ l := fun l W => List.set_append_left _ _ hlt
 have hw : ¬ m.length - b = 0 := by omega
 have hc := ringPut_c s.r.1 s.r.2.1 s.r.2.2 x
 have e1 : ∀ m, den T libX L (k + 21) 86 [.agg (ringV s.r), vi x] m = some ⟨.tup [.agg (ringV (ringPut s.r.1 s.r.2.1 s.r.2.2 x).1), vi (ringPut s.r.1 s.r.2.1 s.r.2.2 x).2], m, 0, 0⟩ := fun m => den_impl_RingPut (X := libX) (L := L) (by omega) (k + 13) m s.r.1 s.r.2.1 s.r.2.2 x
 have e2 : ∀ B B1 B2 code many full, den T libX L (k + 21) 92 [vi code, .c (.sl (m.length + 2) 0 1 1), vi many, vi full] (m.set b B ++ [B1, B2, ⟨[ci 3], 3, 1, true⟩]) = some ⟨vi (if code = 3 then 1 else if code = 0 then 0 else if code = many then 2 else if code = full then 3 else 4), m.set b B ++ [B1, B2, ⟨[ci 3], 3, 1, true⟩], 0, 0⟩ := fun B B1 B2 code many full => told_lit1 (L := L) (k + 20) 3 (m := m.set b B) (n := m.length) (by simp) [B1, B2] code many full (by omega)
 simp only [deed, if_true]
 skip
 generalize ringPut s.r.1 s.r.2.1 s.r.2.2 x = q at e1 hc ⊢
 simp only [← told_R hc]
 simp (maxSteps := 1000000) -implicitDefEqProofs (disch := first | omega | (simp [get_app, get_app0]; done) | rfl | (simp only [List.length_cons, List.length_append, List.length_take, List.length_drop, List.length_nil]; omega)) [-getElem?_pos, -C.refs, cr_sl, cr_ptr, cr_nils, cr_int, cr_bool, cr_ci, c_impl_Space_deed, z141, z65, z10r, chn_over, ring_over, chn_take, ring_take, chn_z, ring_z, chn_l, ring_l, sp_len, sp_refs, sp_take, sp_map, sp_queue, sp_tree, sp_set, sp_over, sp_lmap, sp_lqueue, sp_ltree, sp_lset, e1, e2, hlv, st, hw, hlt]
theorem deed_5 : den T libX L (k + 22) 47 [.c (.ptr b 0 141), .agg [ci 5, ci x, ci y]] m = some ⟨.agg [ci (deed s xss ⟨5, x, y⟩).2.2.1, ci (deed s xss ⟨5, x, y⟩).2.2.2], m.set b ⟨spC (deed s xss ⟨5, x, y⟩).1 c, 51, 0, true⟩, 0, (m.length - b)⟩ := by
 rw [den_eq T_47]
 have hlt := lt_of_get hb
 have hlv : ∀ l, live (m ++ l) b 141 = some ⟨spC s c, 51, 0, true⟩ := fun l => by unfold live; rw [List.getElem?_append_left hlt, hb, Option.bind_some, if_pos (sp_len s c).symm]
 have st : ∀ l W, (m ++ l).set b W = m.set b W ++ l := fun l W => List.set_append_left _ _ hlt
 have hw : ¬ m.length - b = 0 := by omega
 have hc := ringTake_c s.r.1 s.r.2.1 s.r.2.2
 have e1 : ∀ m, den T libX L (k + 21) 87 [.agg (ringV s.r)] m = some ⟨.tup [.agg (ringV (ringTake s.r.1 s.r.2.1 s.r.2.2).1), vi (ringTake s.r.1 s.r.2.1 s.r.2.2).2.1, vi (ringTake s.r.1 s.r.2.1 s.r.2.2).2.2], m, 0, 0⟩ := fun m => den_impl_RingTake (X := libX) (L := L) (by omega) (k + 13) m s.r.1 s.r.2.1 s.r.2.2
 have e2 : ∀ B B1 B2 code many full, den T libX L (k + 21) 92 [vi code, .c (.sl (m.length + 2) 0 1 1), vi many, vi full] (m.set b B ++ [B1, B2, ⟨[ci 3], 3, 1, true⟩]) = some ⟨vi (if code = 3 then 1 else if code = 0 then 0 else if code = many then 2 else if code = full then 3 else 4), m.set b B ++ [B1, B2, ⟨[ci 3], 3, 1, true⟩], 0, 0⟩ := fun B B1 B2 code many full => told_lit1 (L := L) (k + 20) 3 (m := m.set b B) (n := m.length) (by simp) [B1, B2] code many full (by omega)
 simp only [deed, if_true]
 skip
 generalize ringTake s.r.1 s.r.2.1 s.r.2.2 = q at e1 hc ⊢
 simp only [← told_R hc]
 simp (maxSteps := 1000000) -implicitDefEqProofs (disch := first | omega | (simp [get_app, get_app0]; done) | rfl | (simp only [List.length_cons, List.length_append, List.length_take, List.length_drop, List.length_nil]; omega)) [-getElem?_pos, -C.refs, cr_sl, cr_ptr, cr_nils, cr_int, cr_bool, cr_ci, c_impl_Space_deed, z141, z65, z10r, chn_over, ring_over, chn_take, ring_take, chn_z, ring_z, chn_l, ring_l, sp_len, sp_refs, sp_take, sp_map, sp_queue, sp_tree, sp_set, sp_over, sp_lmap, sp_lqueue, sp_ltree, sp_lset, e1, e2, hlv, st, hw, hlt]
theorem deed_6 : den T libX L (k + 22) 47 [.c (.ptr b 0 141), .agg [ci 6, ci x, ci y]] m = some ⟨.agg [ci (deed s xss ⟨6, x, y⟩).2.2.1, ci (deed s xss ⟨6, x, y⟩).2.2.2], m.set b ⟨spC (deed s xss ⟨6, x, y⟩).1 c, 51, 0, true⟩, 0, (m.length - b)⟩ := by
 rw [den_eq T_47]
 have hlt := lt_of_get hb
 have hlv : ∀ l, live (m ++ l) b 141 = some ⟨spC s c, 51, 0, true⟩ := fun l => by unfold live; rw [List.getElem?_append_left hlt, hb, Option.bind_some, if_pos (sp_len s c).symm]
 have st : ∀ l W, (m ++ l).set b W = m.set b W ++ l := fun l W => List.set_append_left _ _ hlt
 have hw : ¬ m.length - b = 0 := by omega
 have hc := treeAdd_c s.g s.b x
 have e1  := fun m => den_impl_TreeAdd (X := libX) (L := L) (by omega) k m s.g s.b x
 have e2 : ∀ B B1 B2 code many full, den T libX L (k + 21) 92 [vi code, .c (.sl (m.length + 2) 0 2 2), vi many, vi full] (m.set b B ++ [B1, B2, ⟨[ci 4, ci 5], 3, 1, true⟩]) = some ⟨vi (if code = 4 ∨ code = 5 then 1 else if code = 0 then 0 else if code = many then 2 else if code = full then 3 else 4), m.set b B ++ [B1, B2, ⟨[ci 4, ci 5], 3, 1, true⟩], 0, 0⟩ := fun B B1 B2 code many full => told_lit2 (L := L) (k + 20) 4 5 (m := m.set b B) (n := m.length) (by simp) [B1, B2] code many full (by omega)
 simp only [deed, if_true]
 unfold outT at e1
 generalize treeAdd s.g s.b x = q at e1 hc ⊢
 simp only [← told_T hc]
 simp (maxSteps := 1000000) -implicitDefEqProofs (disch := first | omega | (simp [get_app, get_app0]; done) | rfl | (simp only [List.length_cons, List.length_append, List.length_take, List.length_drop, List.length_nil]; omega)) [-getElem?_pos, -C.refs, cr_sl, cr_ptr, cr_nils, cr_int, cr_bool, cr_ci, c_impl_Space_deed, z141, z65, z10r, chn_over, ring_over, chn_take, ring_take, chn_z, ring_z, chn_l, ring_l, sp_len, sp_refs, sp_take, sp_map, sp_queue, sp_tree, sp_set, sp_over, sp_lmap, sp_lqueue, sp_ltree, sp_lset, e1, e2, hlv, st, hw, hlt]
theorem deed_7 : den T libX L (k + 22) 47 [.c (.ptr b 0 141), .agg [ci 7, ci x, ci y]] m = some ⟨.agg [ci (deed s xss ⟨7, x, y⟩).2.2.1, ci (deed s xss ⟨7, x, y⟩).2.2.2], m.set b ⟨spC (deed s xss ⟨7, x, y⟩).1 c, 51, 0, true⟩, 0, (m.length - b)⟩ := by
 rw [den_eq T_47]
 have hlt := lt_of_get hb
 have hlv : ∀ l, live (m ++ l) b 141 = some ⟨spC s c, 51, 0, true⟩ := fun l => by unfold live; rw [List.getElem?_append_left hlt, hb, Option.bind_some, if_pos (sp_len s c).symm]
 have st : ∀ l W, (m ++ l).set b W = m.set b W ++ l := fun l W => List.set_append_left _ _ hlt
 have hw : ¬ m.length - b = 0 := by omega
 have hc := treeDrop_c s.g s.b x
 have e1  := fun m => den_impl_TreeDrop (X := libX) (L := L) (by omega) k m s.g s.b x
 have e2 : ∀ B B1 B2 code many full, den T libX L (k + 21) 92 [vi code, .c (.sl (m.length + 2) 0 2 2), vi many, vi full] (m.set b B ++ [B1, B2, ⟨[ci 4, ci 5], 3, 1, true⟩]) = some ⟨vi (if code = 4 ∨ code = 5 then 1 else if code = 0 then 0 else if code = many then 2 else if code = full then 3 else 4), m.set b B ++ [B1, B2, ⟨[ci 4, ci 5], 3, 1, true⟩], 0, 0⟩ := fun B B1 B2 code many full => told_lit2 (L := L) (k + 20) 4 5 (m := m.set b B) (n := m.length) (by simp) [B1, B2] code many full (by omega)
 simp only [deed, if_true]
 unfold outT at e1
 generalize treeDrop s.g s.b x = q at e1 hc ⊢
 simp only [← told_T hc]
 simp (maxSteps := 1000000) -implicitDefEqProofs (disch := first | omega | (simp [get_app, get_app0]; done) | rfl | (simp only [List.length_cons, List.length_append, List.length_take, List.length_drop, List.length_nil]; omega)) [-getElem?_pos, -C.refs, cr_sl, cr_ptr, cr_nils, cr_int, cr_bool, cr_ci, c_impl_Space_deed, z141, z65, z10r, chn_over, ring_over, chn_take, ring_take, chn_z, ring_z, chn_l, ring_l, sp_len, sp_refs, sp_take, sp_map, sp_queue, sp_tree, sp_set, sp_over, sp_lmap, sp_lqueue, sp_ltree, sp_lset, e1, e2, hlv, st, hw, hlt]
theorem deed_8 {lo hi e0 : Nat} (h : SO m lo hi c xss) (hlo : lo ≤ m.length) (hhi : hi ≤ m.length) (hd : b < lo ∨ hi ≤ b) (b1 : xss.length ≤ 1048576) (b2 : ∀ xs ∈ xss, xs.length ≤ 1048576) :
  ∃ M c' e w, den T libX L (k + 22) 47 [.c (.ptr b 0 141), .agg [ci 8, ci x, ci y]] m = some ⟨.agg [ci (deed s xss ⟨8, x, y⟩).2.2.1, ci (deed s xss ⟨8, x, y⟩).2.2.2], M, e, w⟩ ∧ LeftB m M b lo e0 e w (deed s xss ⟨8, x, y⟩).1 c' (deed s xss ⟨8, x, y⟩).2.1 := by
 have hcr : c.refs ≤ m.length := by have := h.refs; omega
 rw [deed8']
 rw [den_eq T_47]
 have hlt := lt_of_get hb
 have hlv : ∀ l, live (m ++ l) b 141 = some ⟨spC s c, 51, 0, true⟩ := fun l => by unfold live; rw [List.getElem?_append_left hlt, hb, Option.bind_some, if_pos (sp_len s c).symm]
 have st : ∀ l W, (m ++ l).set b W = m.set b W ++ l := fun l W => List.set_append_left _ _ hlt
 have hw : ¬ m.length - b = 0 := by omega
 obtain ⟨M, c', e, d1, x1, s1, q1⟩ := impl_SetAdd  (L := L) hL (k + 17) (m ++ [⟨[ci 8, ci x, ci y], 57, 0, true⟩, ⟨[ci 0, ci 0], 53, 0, true⟩]) c xss x h.ssa.grow b1 b2
 obtain ⟨l, rfl⟩ := x1
 obtain ⟨q', n', rfl⟩ := s1.form
 simp only [List.append_assoc, List.cons_append, List.nil_append] at d1
 have hc := setAdd_c xss x
 generalize setAdd xss x = q at d1 s1 hc ⊢
 rw [← told_S hc]
 have e2 : ∀ B B1 B2 code many full, den T libX L (k + 21) 92 [vi code, .c (.sl (m.length + (l.length + 2)) 0 2 2), vi many, vi full] (m.set b B ++ B1 :: B2 :: (l ++ [⟨[ci 2, ci 4], 3, 1, true⟩])) = some ⟨vi (if code = 2 ∨ code = 4 then 1 else if code = 0 then 0 else if code = many then 2 else if code = full then 3 else 4), m.set b B ++ B1 :: B2 :: (l ++ [⟨[ci 2, ci 4], 3, 1, true⟩]), 0, 0⟩ := fun B B1 B2 code many full => told_lit2 (L := L) (k + 20) 2 4 (m := m.set b B) (n := m.length) (by simp) (B1 :: B2 :: l) code many full (by omega)
 have htk : ∀ B X1 X2 l2, List.take (mx m.length (mx (mx e (q' + 1)) (m.length + 2))) (m.set b B ++ X1 :: X2 :: l2) = m.set b B ++ X1 :: X2 :: l2.take (mx m.length (mx (mx e (q' + 1)) (m.length + 2)) - m.length - 2) := fun B X1 X2 l2 => take2 (by simp only [mx_eq]; omega)
 have hY : l.length ≤ mx m.length (mx (mx e (q' + 1)) (m.length + 2)) - m.length - 2 := by
  simp only [List.length_append, List.length_cons, List.length_nil, cr_sl, mx_eq] at q1 ⊢
  omega
 generalize mx m.length (mx (mx e (q' + 1)) (m.length + 2)) - m.length - 2 = Y at htk hY
 generalize hd' : runF _ _ _ _ _ = d
 simp (maxSteps := 1000000) -implicitDefEqProofs (disch := first | omega | (simp [get_app, get_app0]; done) | rfl | (simp only [List.length_cons, List.length_append, List.length_take, List.length_drop, List.length_nil]; omega)) [-getElem?_pos, -fin, -C.refs, cr_sl, cr_ptr, cr_nils, cr_int, cr_bool, cr_ci, c_impl_Space_deed, z141, sp_len, sp_refs, sp_take, sp_map, sp_queue, sp_tree, sp_set, sp_over, sp_lmap, sp_lqueue, sp_ltree, sp_lset, d1, e2, hlv, st, htk, hw, hlt] at hd'
 subst hd'
 refine fin_leftB hlt (so_tail s1 fun j hj => ?_) ?_ ?_ hlo
 ·simp only [List.length_append, List.length_cons, List.length_nil] at hj
  rw [List.getElem?_take_of_lt (by omega), List.getElem?_append_left (by omega)]
 ·simp only [List.length_append, List.length_cons, List.length_nil, List.length_take]
  omega
 ·simpa only [cr_sl] using q1
theorem deed_9 {lo hi e0 : Nat} (h : SO m lo hi c xss) (hlo : lo ≤ m.length) (hhi : hi ≤ m.length) (hd : b < lo ∨ hi ≤ b) (b1 : xss.length ≤ 1048576) (b2 : ∀ xs ∈ xss, xs.length ≤ 1048576) :
  ∃ M c' e w, den T libX L (k + 22) 47 [.c (.ptr b 0 141), .agg [ci 9, ci x, ci y]] m = some ⟨.agg [ci (deed s xss ⟨9, x, y⟩).2.2.1, ci (deed s xss ⟨9, x, y⟩).2.2.2], M, e, w⟩ ∧ LeftB m M b lo e0 e w (deed s xss ⟨9, x, y⟩).1 c' (deed s xss ⟨9, x, y⟩).2.1 := by
 have hcr : c.refs ≤ m.length := by have := h.refs; omega
 rw [deed9']
 rw [den_eq T_47]
 have hlt := lt_of_get hb
 have hlv : ∀ l, live (m ++ l) b 141 = some ⟨spC s c, 51, 0, true⟩ := fun l => by unfold live; rw [List.getElem?_append_left hlt, hb, Option.bind_some, if_pos (sp_len s c).symm]
 have st : ∀ l W, (m ++ l).set b W = m.set b W ++ l := fun l W => List.set_append_left _ _ hlt
 have hw : ¬ m.length - b = 0 := by omega
 obtain ⟨M, c', e, d1, x1, s1, q1⟩ := impl_SetDrop (X := libX) (L := L) hL (k + 17) (m ++ [⟨[ci 9, ci x, ci y], 57, 0, true⟩, ⟨[ci 0, ci 0], 53, 0, true⟩]) c xss x h.ssa.grow b1 b2
 obtain ⟨l, rfl⟩ := x1
 obtain ⟨q', n', rfl⟩ := s1.form
 simp only [List.append_assoc, List.cons_append, List.nil_append] at d1
 have hc := setDrop_c xss x
 generalize setDrop xss x = q at d1 s1 hc ⊢
 rw [← told_S hc]
 have e2 : ∀ B B1 B2 code many full, den T libX L (k + 21) 92 [vi code, .c (.sl (m.length + (l.length + 2)) 0 2 2), vi many, vi full] (m.set b B ++ B1 :: B2 :: (l ++ [⟨[ci 2, ci 4], 3, 1, true⟩])) = some ⟨vi (if code = 2 ∨ code = 4 then 1 else if code = 0 then 0 else if code = many then 2 else if code = full then 3 else 4), m.set b B ++ B1 :: B2 :: (l ++ [⟨[ci 2, ci 4], 3, 1, true⟩]), 0, 0⟩ := fun B B1 B2 code many full => told_lit2 (L := L) (k + 20) 2 4 (m := m.set b B) (n := m.length) (by simp) (B1 :: B2 :: l) code many full (by omega)
 have htk : ∀ B X1 X2 l2, List.take (mx m.length (mx (mx e (q' + 1)) (m.length + 2))) (m.set b B ++ X1 :: X2 :: l2) = m.set b B ++ X1 :: X2 :: l2.take (mx m.length (mx (mx e (q' + 1)) (m.length + 2)) - m.length - 2) := fun B X1 X2 l2 => take2 (by simp only [mx_eq]; omega)
 have hY : l.length ≤ mx m.length (mx (mx e (q' + 1)) (m.length + 2)) - m.length - 2 := by
  simp only [List.length_append, List.length_cons, List.length_nil, cr_sl, mx_eq] at q1 ⊢
  omega
 generalize mx m.length (mx (mx e (q' + 1)) (m.length + 2)) - m.length - 2 = Y at htk hY
 generalize hd' : runF _ _ _ _ _ = d
 simp (maxSteps := 1000000) -implicitDefEqProofs (disch := first | omega | (simp [get_app, get_app0]; done) | rfl | (simp only [List.length_cons, List.length_append, List.length_take, List.length_drop, List.length_nil]; omega)) [-getElem?_pos, -fin, -C.refs, cr_sl, cr_ptr, cr_nils, cr_int, cr_bool, cr_ci, c_impl_Space_deed, z141, sp_len, sp_refs, sp_take, sp_map, sp_queue, sp_tree, sp_set, sp_over, sp_lmap, sp_lqueue, sp_ltree, sp_lset, d1, e2, hlv, st, htk, hw, hlt] at hd'
 subst hd'
 refine fin_leftB hlt (so_tail s1 fun j hj => ?_) ?_ ?_ hlo
 ·simp only [List.length_append, List.length_cons, List.length_nil] at hj
  rw [List.getElem?_take_of_lt (by omega), List.getElem?_append_left (by omega)]
 ·simp only [List.length_append, List.length_cons, List.length_nil, List.length_take]
  omega
 ·simpa only [cr_sl] using q1
theorem deed_all {kd : Int} {lo hi e0 : Nat} (h : SO m lo hi c xss) (hlo : lo ≤ m.length) (hhi : hi ≤ m.length) (hd : b < lo ∨ hi ≤ b) (he : hi ≤ mx e0 c.refs) (hk : 1 ≤ kd ∧ kd ≤ 9) (b1 : xss.length ≤ 1048576) (b2 : ∀ xs ∈ xss, xs.length ≤ 1048576) :
  ∃ M c' e w, den T libX L (k + 22) 47 [.c (.ptr b 0 141), .agg [ci kd, ci x, ci y]] m = some ⟨.agg [ci (deed s xss ⟨kd, x, y⟩).2.2.1, ci (deed s xss ⟨kd, x, y⟩).2.2.2], M, e, w⟩ ∧ LeftB m M b lo e0 e w (deed s xss ⟨kd, x, y⟩).1 c' (deed s xss ⟨kd, x, y⟩).2.1 := by
 have hlt := lt_of_get hb
 have he' : hi ≤ mx (mx e0 0) c.refs := by simp only [mx_eq] at he ⊢; omega
 rcases (show kd = 1 ∨ kd = 2 ∨ kd = 3 ∨ kd = 4 ∨ kd = 5 ∨ kd = 6 ∨ kd = 7 ∨ kd = 8 ∨ kd = 9 by omega) with rfl | rfl | rfl | rfl | rfl | rfl | rfl | rfl | rfl
 ·exact ⟨_, _, _, _, deed_1 hL k m s c xss x y b hb, LeftB.set hlt h hd hhi he (Nat.le_refl _)⟩
 ·exact ⟨_, _, _, _, deed_2 hL k m s c xss x y b hb, LeftB.set hlt h hd hhi he (Nat.le_refl _)⟩
 ·exact ⟨_, _, _, _, deed_3 hL k m s c xss x y b hb, ⟨Nat.zero_le _, Nat.le_refl _, hb, fun _ _ _ => rfl, hi, h, hhi, he'⟩⟩
 ·exact ⟨_, _, _, _, deed_4 hL k m s c xss x y b hb, LeftB.set hlt h hd hhi he (Nat.le_refl _)⟩
 ·exact ⟨_, _, _, _, deed_5 hL k m s c xss x y b hb, LeftB.set hlt h hd hhi he (Nat.le_refl _)⟩
 ·exact ⟨_, _, _, _, deed_6 hL k m s c xss x y b hb, LeftB.set hlt h hd hhi he (Nat.le_refl _)⟩
 ·exact ⟨_, _, _, _, deed_7 hL k m s c xss x y b hb, LeftB.set hlt h hd hhi he (Nat.le_refl _)⟩
 ·exact deed_8 hL k m s c xss x y b hb h hlo hhi hd b1 b2
 ·exact deed_9 hL k m s c xss x y b hb h hlo hhi hd b1 b2
end
end Go.Proofs.YtfbeplbcaanimaaGreat
