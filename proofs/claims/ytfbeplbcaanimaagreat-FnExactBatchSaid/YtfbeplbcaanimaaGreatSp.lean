/-
 Spaces: a map, a queue, a tree and a set, as cells.
-/
import Derived.Test.YtfbeplbcaanimaaGreatGB
import Derived.Test.YtfbeplbcaanimaaGreatRA
import Derived.Test.YtfbeplbcaanimaaGreatTA
import Derived.Test.YtfbeplbcaanimaaGreatCA
import Derived.Test.YtfbeplbcaanimaaGreatSq
set_option linter.unusedVariables false
set_option linter.unusedSimpArgs false
set_option linter.unnecessarySimpa false
set_option maxHeartbeats 4000000
set_option maxRecDepth 100000
namespace Go.Proofs.YtfbeplbcaanimaaGreat
variable {X : FuncId → List V → List Blk → Option Ret} {L : Nat}
def spZ : Spc := ⟨fun _ => nd0, 0, (fun _ => 0, 0, 0), fun _ => nd0, 0⟩
theorem z141 : [C.bool false, .int .i64 0, .int .i64 0, .int .i64 0, .bool false, .int .i64 0, .int .i64 0, .int .i64 0, .bool false, .int .i64 0, .int .i64 0, .int .i64 0, .bool false, .int .i64 0, .int .i64 0, .int .i64 0, .bool false, .int .i64 0, .int .i64 0, .int .i64 0, .bool false, .int .i64 0, .int .i64 0, .int .i64 0, .bool false, .int .i64 0, .int .i64 0, .int .i64 0, .bool false, .int .i64 0, .int .i64 0, .int .i64 0, .bool false, .int .i64 0, .int .i64 0, .int .i64 0, .bool false, .int .i64 0, .int .i64 0, .int .i64 0, .bool false, .int .i64 0, .int .i64 0, .int .i64 0, .bool false, .int .i64 0, .int .i64 0, .int .i64 0, .bool false, .int .i64 0, .int .i64 0, .int .i64 0, .bool false, .int .i64 0, .int .i64 0, .int .i64 0, .bool false, .int .i64 0, .int .i64 0, .int .i64 0, .bool false, .int .i64 0, .int .i64 0, .int .i64 0, .int .i64 0, .int .i64 0, .int .i64 0, .int .i64 0, .int .i64 0, .int .i64 0, .int .i64 0, .int .i64 0, .int .i64 0, .int .i64 0, .int .i64 0, .bool false, .int .i64 0, .int .i64 0, .int .i64 0, .bool false, .int .i64 0, .int .i64 0, .int .i64 0, .bool false, .int .i64 0, .int .i64 0, .int .i64 0, .bool false, .int .i64 0, .int .i64 0, .int .i64 0, .bool false, .int .i64 0, .int .i64 0, .int .i64 0, .bool false, .int .i64 0, .int .i64 0, .int .i64 0, .bool false, .int .i64 0, .int .i64 0, .int .i64 0, .bool false, .int .i64 0, .int .i64 0, .int .i64 0, .bool false, .int .i64 0, .int .i64 0, .int .i64 0, .bool false, .int .i64 0, .int .i64 0, .int .i64 0, .bool false, .int .i64 0, .int .i64 0, .int .i64 0, .bool false, .int .i64 0, .int .i64 0, .int .i64 0, .bool false, .int .i64 0, .int .i64 0, .int .i64 0, .bool false, .int .i64 0, .int .i64 0, .int .i64 0, .bool false, .int .i64 0, .int .i64 0, .int .i64 0, .bool false, .int .i64 0, .int .i64 0, .int .i64 0, .int .i64 0, .nils] = spC spZ .nils := rfl
section
variable (s : Spc) (v : C)
theorem chn_l (f : Nat → Nd) (a : Int) : (chn f a).length = 65 := by simp [nds_len]
theorem ring_l (r : R3) : (ringV r).length = 10 := rfl
theorem chn_z (f : Nat → Nd) (a : Int) : refsL (chn f a) = 0 := by simp [refs_append, nds_refs, refsL, C.refs, ci, mx]
theorem chn_h (f : Nat → Nd) (a : Int) : (chn f a).all (·.hard) = true := by rw [List.all_append, nds_hard]; rfl
theorem sp_len : (spC s v).length = 141 := by simp [spC, ring_l, nds_len]
theorem sp_refs : refsL (spC s v) = v.refs := by
 unfold spC
 rw [refs_append (a := chn s.f s.a), refs_append (a := ringV s.r), refs_append (a := chn s.g s.b), chn_z, chn_z, show refsL (ringV s.r) = 0 from rfl, refsL, refsL]
 generalize v.refs = r
 simp only [mx_eq]
 omega
theorem sp_take : (spC s v).take 141 = spC s v := List.take_of_length_le (by rw [sp_len]; exact Nat.le_refl _)
theorem sp_map : (spC s v).take 65 = chn s.f s.a := by unfold spC; rw [← chn_l s.f s.a, List.take_left]
theorem sp_queue : ((spC s v).drop 65).take 10 = ringV s.r := by
 unfold spC
 rw [← chn_l s.f s.a, List.drop_left, ← ring_l s.r, List.take_left]
theorem sp_tree : ((spC s v).drop 75).take 65 = chn s.g s.b := by
 unfold spC
 rw [show 75 = (chn s.f s.a).length + 10 by rw [chn_l], ← List.drop_drop, List.drop_left, ← ring_l s.r, List.drop_left, ← chn_l s.g s.b, List.take_left]
theorem sp_set : (spC s v)[140]? = some v := by
 unfold spC
 rw [List.getElem?_append_right (by rw [chn_l]; omega), chn_l, List.getElem?_append_right (by rw [ring_l]; omega), ring_l, List.getElem?_append_right (by rw [chn_l]; omega), chn_l]
 rfl
theorem sp_over (s' : Spc) (v' : C) : lay (spC s v) 0 (spC s' v') = spC s' v' := lay_all (by rw [sp_len, sp_len])
theorem sp_lmap (f : Nat → Nd) (a : Int) : lay (spC s v) 0 (chn f a) = spC { s with f := f, a := a } v := by
 unfold spC lay
 rw [List.take_zero, List.nil_append, Nat.zero_add, chn_l, ← chn_l s.f s.a, List.drop_left]
theorem sp_lqueue (r : R3) : lay (spC s v) 65 (ringV r) = spC { s with r := r } v := by
 unfold spC
 rw [lay_mid (a := chn s.f s.a) (b := ringV s.r) (by rw [chn_l]) (by rw [ring_l, ring_l])]
theorem sp_ltree (g : Nat → Nd) (b : Int) : lay (spC s v) 75 (chn g b) = spC { s with g := g, b := b } v := by
 unfold spC
 rw [← List.append_assoc (chn s.f s.a), lay_mid (a := chn s.f s.a ++ ringV s.r) (b := chn s.g s.b) (by rw [List.length_append, chn_l, ring_l]) (by rw [chn_l, chn_l]), List.append_assoc]
theorem sp_lset (v' : C) : lay (spC s v) 140 [v'] = spC s v' := by
 unfold spC
 rw [← List.append_assoc (ringV s.r), ← List.append_assoc (chn s.f s.a), ← List.append_assoc (ringV s.r), ← List.append_assoc (chn s.f s.a)]
 have := lay_mid (a := chn s.f s.a ++ (ringV s.r ++ chn s.g s.b)) (b := [v]) (n := [v']) (r := []) (o := 140) (by simp [nds_len, ring_l]) rfl
 simpa using this
end
theorem own_hard {n0 : Nat} {cs : List C} (h : cs.all (·.hard) = true) : cs.flatMap (·.own n0) = [] := by
 rw [List.flatMap_eq_nil_iff]
 intro c hc
 have := List.all_eq_true.1 h c hc
 cases c <;> first | rfl | (simp [C.hard] at this)
theorem ren_hard {f : Nat → Nat} {cs : List C} (h : cs.all (·.hard) = true) : cs.map (·.ren f) = cs := by
 rw [List.map_congr_left (g := id)]
 ·simp
 ·intro c hc
  have := List.all_eq_true.1 h c hc
  cases c <;> first | rfl | (simp [C.hard] at this)
theorem sp_own (s : Spc) (v : C) (n0 : Nat) : (spC s v).flatMap (·.own n0) = v.own n0 := by
 unfold spC
 rw [List.flatMap_append (xs := chn s.f s.a), List.flatMap_append (xs := ringV s.r), List.flatMap_append (xs := chn s.g s.b), own_hard (chn_h _ _), own_hard (chn_h _ _), own_hard (cs := ringV s.r) rfl]
 simp
theorem sp_ren (s : Spc) (v : C) (f : Nat → Nat) : (spC s v).map (·.ren f) = spC s (v.ren f) := by
 unfold spC
 rw [List.map_append (l₁ := chn s.f s.a), List.map_append (l₁ := ringV s.r), List.map_append (l₁ := chn s.g s.b), ren_hard (chn_h _ _), ren_hard (chn_h _ _), ren_hard (cs := ringV s.r) rfl]
 rfl
def spOk (s : Spc) (xss : List (List Int)) : Bool := chainOk s.f s.a && ringOk s.r.1 s.r.2.1 s.r.2.2 && treeOk s.g s.b && setOk xss
section
variable (hL : 2000000 ≤ L) (k : Nat) (m : List Blk) (s : Spc) (v : C) (xss : List (List Int)) (hv : SS m v xss) (hb : xss.length ≤ 1048576) (hbs : ∀ xs ∈ xss, xs.length ≤ 1048576)
include hL hv hb hbs
theorem den_spec_SpaceOk : den T X L (k + 21) 35 [.agg (spC s v)] m = some ⟨vb (spOk s xss), m, 0, 0⟩ := by
 rw [den_eq T_35]
 have e1 := fun m => den_spec_ChainOk (X := X) (L := L) (by omega) (k + 17) m s.f s.a
 have e2 : ∀ m, den T X L (k + 20) 58 [.agg (ringV s.r)] m = some ⟨vb (ringOk s.r.1 s.r.2.1 s.r.2.2), m, 0, 0⟩ := fun m => den_spec_RingOk (X := X) (L := L) (by omega) (k + 17) m s.r.1 s.r.2.1 s.r.2.2
 have e3 := fun m => den_spec_TreeOk (X := X) (L := L) (by omega) k m s.g s.b
 have e4 := den_spec_SetOk (X := X) (L := L) hL (k + 17) (m ++ [⟨spC s v, 51, 0, true⟩]) v xss hv.grow hb hbs
 unfold spOk
 generalize chainOk s.f s.a = b1 at e1 ⊢
 generalize ringOk s.r.1 s.r.2.1 s.r.2.2 = b2 at e2 ⊢
 generalize treeOk s.g s.b = b3 at e3 ⊢
 generalize setOk xss = b4 at e4 ⊢
 cases b1 <;> cases b2 <;> cases b3 <;> simp (maxSteps := 1000000) -implicitDefEqProofs (disch := omega) [-getElem?_pos, c_spec_SpaceOk, sp_len, sp_take, sp_map, sp_queue, sp_tree, sp_set, e1, e2, e3, e4, Bool.true_and, Bool.false_and, take_end]
theorem den_impl_SpaceOk : den T X L (k + 21) 44 [.agg (spC s v)] m = some ⟨vb (spOk s xss), m, 0, 0⟩ := by
 rw [den_eq T_44]
 have e1 := fun m => den_impl_ChainOk (X := X) (L := L) (by omega) (k + 17) m s.f s.a
 have e2 : ∀ m, den T X L (k + 20) 80 [.agg (ringV s.r)] m = some ⟨vb (ringOk s.r.1 s.r.2.1 s.r.2.2), m, 0, 0⟩ := fun m => den_impl_RingOk (X := X) (L := L) (by omega) (k + 13) m s.r.1 s.r.2.1 s.r.2.2
 have e3 := fun m => den_impl_TreeOk (X := X) (L := L) (by omega) k m s.g s.b
 have e4 := den_impl_SetOk (X := X) (L := L) hL (k + 17) (m ++ [⟨spC s v, 51, 0, true⟩]) v xss hv.grow hb hbs
 rw [treeOk_same] at e3
 unfold spOk
 generalize chainOk s.f s.a = b1 at e1 ⊢
 generalize ringOk s.r.1 s.r.2.1 s.r.2.2 = b2 at e2 ⊢
 generalize treeOk s.g s.b = b3 at e3 ⊢
 generalize setOk xss = b4 at e4 ⊢
 cases b1 <;> cases b2 <;> cases b3 <;> simp (maxSteps := 1000000) -implicitDefEqProofs (disch := omega) [-getElem?_pos, c_impl_SpaceOk, sp_len, sp_take, sp_map, sp_queue, sp_tree, sp_set, e1, e2, e3, e4, Bool.true_and, Bool.false_and, take_end]
end
theorem den_szSpace (hL : 2000000 ≤ L) (k : Nat) (m : List Blk) (s : Spc) (v : C) (xss : List (List Int)) (left : Int) (hv : SS m v xss) (hb : big xss.length) (hbs : ∀ xs ∈ xss, big xs.length) (hl : 0 ≤ left ∧ left ≤ 1048576) :
  den T X L (k + 3) 6 [.agg (spC s v), vi left] m = some ⟨vi (szSS xss left), m, 0, 0⟩ := by
 rw [den_eq T_6]
 have e := den_szIntSS (X := X) (L := L) hL k (m ++ [⟨spC s v, 37, 0, true⟩]) v xss left hv.grow hb hbs hl
 have h1 : -1 ≤ szSS xss left := by
  unfold szSS
  split
  ·omega
  ·exact (szL_le (by omega)).1
 by_cases h : szSS xss left < 0
 ·rw [show szSS xss left = -1 by omega] at e ⊢
  simp (maxSteps := 1000000) -implicitDefEqProofs (disch := omega) [-getElem?_pos, c_laws_szSpace, sp_len, sp_set, e, take_end]
 ·simp (maxSteps := 1000000) -implicitDefEqProofs (disch := omega) [-getElem?_pos, c_laws_szSpace, sp_len, sp_set, e, h, take_end]
theorem den_eqTwig' (k : Nat) (m : List Blk) (x : Nd) : den T X L (k + 1) 125 [.agg (nd x), .agg (nd x)] m = some ⟨vb true, m, 0, 0⟩ := by
 rw [den_eq T_125]
 simp (maxSteps := 1000000) -implicitDefEqProofs (disch := omega) [-getElem?_pos, c_laws_eqTwig, nd]
theorem den_eqTwigA16' (hL : 100 ≤ L) (k : Nat) (m : List Blk) (f : Nat → Nd) : den T X L (k + 2) 95 [.agg (nds 16 f), .agg (nds 16 f)] m = some ⟨vb true, m, 0, 0⟩ := by
 rw [den_eq T_95]
 have hl := iter_up (f := fun s => exec (den T X L (k + 1)) L m.length none c_laws_eqTwigA16_b0 s) (tr := trim m.length (some [2, 3, 5]))
  (fun i => ⟨[(2, .c (.ptr m.length 0 64)), (3, .c (.ptr (m.length + 1) 0 64)), (5, vi i)], m ++ [⟨nds 16 f, 47, 0, true⟩, ⟨nds 16 f, 47, 0, true⟩], 0, 0⟩) 16
  ?s1 ⟨0, _, by simp (maxSteps := 1000000) -implicitDefEqProofs (disch := omega) [-getElem?_pos, c_laws_eqTwigA16_b0]; rfl⟩
 case s1 =>
  intro i hi
  refine ⟨_, by simp (maxSteps := 1000000) -implicitDefEqProofs (disch := omega) [-getElem?_pos, c_laws_eqTwigA16_b0, show (i : Int) < 16 by omega, den_eqTwig']; rfl, ?_⟩
  simp (maxSteps := 1000000) -implicitDefEqProofs (disch := omega) [-getElem?_pos]
 simp (maxSteps := 1000000) -implicitDefEqProofs (disch := omega) [-getElem?_pos, c_laws_eqTwigA16]
 rw [hl L 0 _ ?tr (by omega) (by omega)]
 case tr => simp (maxSteps := 1000000) -implicitDefEqProofs (disch := omega) [-getElem?_pos, nds_refs]
 simp (maxSteps := 1000000) -implicitDefEqProofs (disch := omega) [-getElem?_pos, c_laws_eqTwigA16_b0]
theorem den_eqTree' (hL : 100 ≤ L) (k : Nat) (m : List Blk) (f : Nat → Nd) (a : Int) : den T X L (k + 3) 50 [.agg (chn f a), .agg (chn f a)] m = some ⟨vb true, m, 0, 0⟩ := by
 rw [den_eq T_50]
 simp (maxSteps := 1000000) -implicitDefEqProofs (disch := omega) [-getElem?_pos, c_laws_eqTree, den_eqTwigA16' hL]
theorem den_eqSpace (hL : 2000000 ≤ L) (k : Nat) (m : List Blk) (s : Spc) (v w : C) (xss : List (List Int)) (hv : SS m v xss) (hw : SS m w xss) (hb : xss.length ≤ 1048576) (hbs : ∀ xs ∈ xss, xs.length ≤ 1048576) :
  den T X L (k + 4) 11 [.agg (spC s v), .agg (spC s w)] m = some ⟨vb true, m, 0, 0⟩ := by
 rw [den_eq T_11]
 have e1 := fun m => den_eqChain (X := X) (L := L) (by omega) k m s.f s.a
 have e2 : ∀ m, den T X L (k + 3) 49 [.agg (ringV s.r), .agg (ringV s.r)] m = some ⟨vb true, m, 0, 0⟩ := fun m => by
  have := den_eqRing (X := X) (L := L) (by omega) (k + 1) m s.r.1 s.r.1 s.r.2.1 s.r.2.2 s.r.2.1 s.r.2.2
  simpa using this
 have e3 := fun m => den_eqTree' (X := X) (L := L) (by omega) k m s.g s.b
 have e4 := den_eqIntSS (X := X) (L := L) hL (k + 1) (m ++ [⟨spC s v, 51, 0, true⟩, ⟨spC s w, 51, 0, true⟩]) v w xss xss hv.grow hw.grow hb hbs
 simp only [decide_true] at e4
 simp (maxSteps := 1000000) -implicitDefEqProofs (disch := omega) [-getElem?_pos, c_laws_eqSpace, sp_len, sp_take, sp_map, sp_queue, sp_tree, sp_set, e1, e2, e3, e4, take_end]
end Go.Proofs.YtfbeplbcaanimaaGreat
