/-
 Deeds on spaces: what they tell, in plain terms; how codes are told.
-/
import Derived.Test.YtfbeplbcaanimaaGreatSp
import Derived.Test.YtfbeplbcaanimaaGreatGF
import Derived.Test.YtfbeplbcaanimaaGreatTd
import Derived.Test.YtfbeplbcaanimaaGreatCA
set_option linter.unusedVariables false
set_option linter.unusedSimpArgs false
set_option maxHeartbeats 4000000
set_option maxRecDepth 100000
namespace Go.Proofs.YtfbeplbcaanimaaGreat
variable {X : FuncId → List V → List Blk → Option Ret} {L : Nat}
def toldM (c : Int) : Int := if c = 4 ∨ c = 5 then 1 else if c = 0 then 0 else if c = 2 then 2 else if c = 3 then 3 else 4
def toldR (c : Int) : Int := if c = 3 then 1 else if c = 0 then 0 else if c = 2 then 3 else 4
def toldS (c : Int) : Int := if c = 2 ∨ c = 4 then 1 else if c = 0 then 0 else if c = 3 then 3 else 4
theorem den_l17Map (k : Nat) (m : List Blk) (c : Int) (h : 0 ≤ c ∧ c ≤ 4) : den T X L (k + 1) 62 [vi c] m = some ⟨vi (toldM c), m, 0, 0⟩ := by
 rw [den_eq T_62]
 rcases (show c = 0 ∨ c = 1 ∨ c = 2 ∨ c = 3 ∨ c = 4 by omega) with rfl | rfl | rfl | rfl | rfl <;> simp (maxSteps := 1000000) -implicitDefEqProofs (disch := omega) [-getElem?_pos, c_spec_l17Map, toldM]
theorem den_l17Ring (k : Nat) (m : List Blk) (c : Int) (h : 0 ≤ c ∧ c ≤ 3) : den T X L (k + 1) 66 [vi c] m = some ⟨vi (toldR c), m, 0, 0⟩ := by
 rw [den_eq T_66]
 rcases (show c = 0 ∨ c = 1 ∨ c = 2 ∨ c = 3 by omega) with rfl | rfl | rfl | rfl <;> simp (maxSteps := 1000000) -implicitDefEqProofs (disch := omega) [-getElem?_pos, c_spec_l17Ring, toldR]
theorem den_l17Tree (k : Nat) (m : List Blk) (c : Int) (h : 0 ≤ c ∧ c ≤ 5) : den T X L (k + 1) 69 [vi c] m = some ⟨vi (toldM c), m, 0, 0⟩ := by
 rw [den_eq T_69]
 rcases (show c = 0 ∨ c = 1 ∨ c = 2 ∨ c = 3 ∨ c = 4 ∨ c = 5 by omega) with rfl | rfl | rfl | rfl | rfl | rfl <;> simp (maxSteps := 1000000) -implicitDefEqProofs (disch := omega) [-getElem?_pos, c_spec_l17Tree, toldM]
theorem den_l17Set (k : Nat) (m : List Blk) (c : Int) (h : 0 ≤ c ∧ c ≤ 4) : den T X L (k + 1) 72 [vi c] m = some ⟨vi (toldS c), m, 0, 0⟩ := by
 rw [den_eq T_72]
 rcases (show c = 0 ∨ c = 1 ∨ c = 2 ∨ c = 3 ∨ c = 4 by omega) with rfl | rfl | rfl | rfl | rfl <;> simp (maxSteps := 1000000) -implicitDefEqProofs (disch := omega) [-getElem?_pos, c_spec_l17Set, toldS]
theorem mapPut_c (f : Nat → Nd) (a key val : Int) : 0 ≤ (mapPut f a key val).2.2.2 ∧ (mapPut f a key val).2.2.2 ≤ 4 := by
 unfold mapPut; split
 ·split
  ·split
   ·simp
   ·split <;> simp
  ·simp
 ·simp
theorem mapDrop_c (f : Nat → Nd) (a key : Int) : 0 ≤ (mapDrop f a key).2.2.2 ∧ (mapDrop f a key).2.2.2 ≤ 4 := by
 unfold mapDrop; split
 ·split
  ·split <;> simp
  ·simp
 ·simp
theorem mapGet_c (f : Nat → Nd) (a key : Int) : 0 ≤ (mapGet f a key).2.2 ∧ (mapGet f a key).2.2 ≤ 4 := by
 unfold mapGet; split
 ·split
  ·split <;> simp
  ·simp
 ·simp
theorem ringPut_c (f : Nat → Int) (a b v : Int) : 0 ≤ (ringPut f a b v).2 ∧ (ringPut f a b v).2 ≤ 3 := by
 unfold ringPut; (repeat' split) <;> simp
theorem ringTake_c (f : Nat → Int) (a b : Int) : 0 ≤ (ringTake f a b).2.2 ∧ (ringTake f a b).2.2 ≤ 3 := by
 unfold ringTake; (repeat' split) <;> simp
theorem treeAdd_c (f : Nat → Nd) (a key : Int) : 0 ≤ (treeAdd f a key).2.2 ∧ (treeAdd f a key).2.2 ≤ 5 := by
 unfold treeAdd; (repeat' split) <;> simp
theorem treeDrop_c (f : Nat → Nd) (a key : Int) : 0 ≤ (treeDrop f a key).2.2 ∧ (treeDrop f a key).2.2 ≤ 5 := by
 unfold treeDrop; (repeat' split) <;> simp
theorem setAdd_c (z : List (List Int)) (x : Int) : 0 ≤ (setAdd z x).2 ∧ (setAdd z x).2 ≤ 4 := by
 unfold setAdd; split
 ·split
  ·simp
  ·cases settle x (srt z.flatten) 4 z <;> simp
 ·simp
theorem setDrop_c (z : List (List Int)) (x : Int) : 0 ≤ (setDrop z x).2 ∧ (setDrop z x).2 ≤ 4 := by
 unfold setDrop; (repeat' split) <;> simp
theorem den_toldBy (k : Nat) (m : List Blk) (v : C) (xs : List Int) (code many full : Int) (hv : Sl m v xs) (hx : xs.length < L) (hb : xs.length ≤ 1000) :
  den T X L (k + 1) 92 [vi code, .c v, vi many, vi full] m = some ⟨vi (if code ∈ xs then 1 else if code = 0 then 0 else if code = many then 2 else if code = full then 3 else 4), m, 0, 0⟩ := by
 rw [den_eq T_92]
 have hlp := iter_blk (n0 := m.length) (id := 0) (ka := some [0, 2, 3]) (f := fun s => exec (den T X L k) L m.length none c_impl_toldBy_b0 s) (tr := trim m.length (some [0, 2, 3, 11, 12, 13])) (σ := Nat)
  (fun i => ⟨[(0, vi code), (2, vi many), (3, vi full), (11, .c v), (12, vi xs.length), (13, vi i)], m, 0, 0⟩) (fun i => i ≤ xs.length) (fun i => xs.length - i)
  (fun i => if code ∈ xs.drop i then (.ret, ⟨[(8, vi 1)], m, 0, 0⟩) else (.norm, ⟨[(0, vi code), (2, vi many), (3, vi full)], m, 0, 0⟩)) ?w
 case w =>
  intro i hi
  by_cases he : i = xs.length
  ·refine ⟨.exit 0, _, by simp (maxSteps := 1000000) -implicitDefEqProofs (disch := omega) [-getElem?_pos, c_impl_toldBy_b0, he]; rfl, ?_⟩
   rw [he, List.drop_length, if_neg (by simp)]
   simp (maxSteps := 1000000) -implicitDefEqProofs (disch := omega) [-getElem?_pos, c_blkx, take_mx]
  ·have hi' : (i : Int) < (xs.length : Int) := by omega
   have hiv : (0 : Int) ≤ i ∧ (i : Int) < xs.length := by omega
   have hdr : xs.drop i = nth xs i :: xs.drop (i + 1) := by
    rw [List.drop_eq_getElem_cons (by omega)]
    simp [nth, List.getD_eq_getElem?_getD, show i < xs.length by omega]
   by_cases hq : code = nth xs i
   ·refine ⟨.ret, _, by simp (maxSteps := 1000000) -implicitDefEqProofs (disch := omega) [-getElem?_pos, c_impl_toldBy_b0, hi', hv.ixV hiv, hv.ldV (show i < xs.length by omega), ← hq]; rfl, ?_⟩
    rw [hdr, if_pos (by simp [hq])]
    simp (maxSteps := 1000000) -implicitDefEqProofs (disch := omega) [-getElem?_pos, c_blkr, take_mx]
   ·refine ⟨.norm, _, by simp (maxSteps := 1000000) -implicitDefEqProofs (disch := omega) [-getElem?_pos, c_impl_toldBy_b0, hi', hv.ixV hiv, hv.ldV (show i < xs.length by omega), hq]; rfl, i + 1, ?_, by omega, by omega, ?_⟩
    ·simp (maxSteps := 1000000) -implicitDefEqProofs (disch := omega) [-getElem?_pos, take_mx]
    ·rw [hdr]
     simp [hq]
 simp (maxSteps := 1000000) -implicitDefEqProofs (disch := omega) [-getElem?_pos, c_impl_toldBy, hv.lenV]
 rw [hlp L 0 _ (Nat.zero_le _) ?tr (by show xs.length - 0 < L; omega)]
 case tr => simp (maxSteps := 1000000) -implicitDefEqProofs (disch := omega) [-getElem?_pos, take_mx]
 rw [List.drop_zero]
 by_cases hq : code ∈ xs
 ·rw [if_pos hq, if_pos hq]
  simp (maxSteps := 1000000) -implicitDefEqProofs (disch := omega) [-getElem?_pos]
 ·rw [if_neg hq, if_neg hq]
  by_cases h0 : code = 0
  ·simp (maxSteps := 1000000) -implicitDefEqProofs (disch := omega) [-getElem?_pos, h0]
  ·by_cases h1 : code = many
   ·subst h1
    simp (maxSteps := 1000000) -implicitDefEqProofs (disch := omega) [-getElem?_pos, h0]
   ·by_cases h2 : code = full
    ·subst h2
     simp (maxSteps := 1000000) -implicitDefEqProofs (disch := omega) [-getElem?_pos, h0, h1]
    ·simp (maxSteps := 1000000) -implicitDefEqProofs (disch := omega) [-getElem?_pos, h0, h1, h2]
structure Dd where
 k : Int
 x : Int
 y : Int
def deed (s : Spc) (xss : List (List Int)) (d : Dd) : Spc × List (List Int) × Int × Int :=
 if d.k = 1 then ({ s with f := (mapPut s.f s.a d.x d.y).1, a := (mapPut s.f s.a d.x d.y).2.1 }, xss, toldM (mapPut s.f s.a d.x d.y).2.2.2, 0)
 else if d.k = 2 then ({ s with f := (mapDrop s.f s.a d.x).1, a := (mapDrop s.f s.a d.x).2.1 }, xss, toldM (mapDrop s.f s.a d.x).2.2.2, 0)
 else if d.k = 3 then (s, xss, toldM (mapGet s.f s.a d.x).2.2, (mapGet s.f s.a d.x).1)
 else if d.k = 4 then ({ s with r := (ringPut s.r.1 s.r.2.1 s.r.2.2 d.x).1 }, xss, toldR (ringPut s.r.1 s.r.2.1 s.r.2.2 d.x).2, 0)
 else if d.k = 5 then ({ s with r := (ringTake s.r.1 s.r.2.1 s.r.2.2).1 }, xss, toldR (ringTake s.r.1 s.r.2.1 s.r.2.2).2.2, (ringTake s.r.1 s.r.2.1 s.r.2.2).2.1)
 else if d.k = 6 then ({ s with g := (treeAdd s.g s.b d.x).1, b := (treeAdd s.g s.b d.x).2.1 }, xss, toldM (treeAdd s.g s.b d.x).2.2, 0)
 else if d.k = 7 then ({ s with g := (treeDrop s.g s.b d.x).1, b := (treeDrop s.g s.b d.x).2.1 }, xss, toldM (treeDrop s.g s.b d.x).2.2, 0)
 else if d.k = 8 then (s, (setAdd xss d.x).1, toldS (setAdd xss d.x).2, 0)
 else (s, (setDrop xss d.x).1, toldS (setDrop xss d.x).2, 0)
end Go.Proofs.YtfbeplbcaanimaaGreat
