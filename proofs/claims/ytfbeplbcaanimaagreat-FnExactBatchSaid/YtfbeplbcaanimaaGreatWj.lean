/-
 Batches in plain terms; slices of records.
-/
import Derived.Test.YtfbeplbcaanimaaGreatWi
set_option linter.unusedVariables false
set_option linter.unusedSimpArgs false
set_option maxHeartbeats 4000000
set_option maxRecDepth 100000
namespace Go.Proofs.YtfbeplbcaanimaaGreat
variable {X : FuncId → List V → List Blk → Option Ret} {L : Nat}
abbrev Tld := Int × Int
def batF (z : Spc × List (List Int)) : List Dd → List Tld × Option (Spc × List (List Int))
 | [] => ([], some z)
 | d :: r => if (doDeed z.1 z.2 d).2.2.1 ≤ 1 then ((doDeed z.1 z.2 d).2.2 :: (batF ((doDeed z.1 z.2 d).1, (doDeed z.1 z.2 d).2.1) r).1, (batF ((doDeed z.1 z.2 d).1, (doDeed z.1 z.2 d).2.1) r).2) else ([(doDeed z.1 z.2 d).2.2], none)
def batch (z : Spc × List (List Int)) (ds : List Dd) : (Spc × List (List Int)) × List Tld × Bool :=
 if 30 < ds.length then (z, [], false) else match (batF z ds).2 with
  | some y => (y, (batF z ds).1, true)
  | none => (z, (batF z ds).1, false)
theorem batF_len : ∀ (ds : List Dd) (z : Spc × List (List Int)), (batF z ds).1.length ≤ ds.length
 | [], z => Nat.le_refl _
 | d :: r, z => by
  unfold batF
  split
  ·simp only [List.length_cons]
   have := batF_len r ((doDeed z.1 z.2 d).1, (doDeed z.1 z.2 d).2.1)
   omega
  ·simp
theorem toldM_r {c : Int} (h : 0 ≤ c ∧ c ≤ 5) : 0 ≤ toldM c ∧ toldM c ≤ 4 := by
 unfold toldM; (repeat' split) <;> omega
theorem toldR_r {c : Int} (h : 0 ≤ c ∧ c ≤ 3) : 0 ≤ toldR c ∧ toldR c ≤ 4 := by
 unfold toldR; (repeat' split) <;> omega
theorem toldS_r {c : Int} (h : 0 ≤ c ∧ c ≤ 4) : 0 ≤ toldS c ∧ toldS c ≤ 4 := by
 unfold toldS; (repeat' split) <;> omega
theorem deed_r (s : Spc) (xss : List (List Int)) (d : Dd) : 0 ≤ (deed s xss d).2.2.1 ∧ (deed s xss d).2.2.1 ≤ 4 := by
 have h1 := mapPut_c s.f s.a d.x d.y
 have h2 := mapDrop_c s.f s.a d.x
 have h3 := mapGet_c s.f s.a d.x
 unfold deed
 (repeat' split)
 ·exact toldM_r ⟨h1.1, by omega⟩
 ·exact toldM_r ⟨h2.1, by omega⟩
 ·exact toldM_r ⟨h3.1, by omega⟩
 ·exact toldR_r (ringPut_c ..)
 ·exact toldR_r (ringTake_c ..)
 ·exact toldM_r (treeAdd_c ..)
 ·exact toldM_r (treeDrop_c ..)
 ·exact toldS_r (setAdd_c ..)
 ·exact toldS_r (setDrop_c ..)
theorem doDeed_r (s : Spc) (xss : List (List Int)) (d : Dd) : 0 ≤ (doDeed s xss d).2.2.1 ∧ (doDeed s xss d).2.2.1 ≤ 4 := by
 unfold doDeed
 split
 ·exact deed_r s xss d
 ·show (0 : Int) ≤ 4 ∧ (4 : Int) ≤ 4
  omega
def RS {α : Type} (en : α → List C) (w : Nat) (d : α) (m : List Blk) (v : C) (xs : List α) : Prop :=
 (v = .nils ∧ xs = []) ∨ ∃ b off tot blk, v = .sl b off xs.length tot ∧ live m b tot = some blk ∧ ∀ j, j < xs.length → (blk.cs.drop (off + j * w)).take w = en (xs.getD j d) ∧ off + j * w + w ≤ blk.cs.length
def ptrW (w : Nat) : C → Nat → C
 | .sl b off _ tot, i => .ptr b (off + i * w) tot
 | c, _ => c
def ldNV (m : List Blk) (n : Nat) : V → Option V
 | .c (.ptr b off tot) => (live m b tot).bind fun blk => guard' (off + n ≤ blk.cs.length) (some (.agg ((blk.cs.drop off).take n)))
 | _ => none
theorem s_loadN' (a : Opd) (n : Nat) (env : List (Nat × V)) (m : List Blk) : stepQ env m (.loadN a n) = ldNV m n (a.ev env) := by
 simp only [stepQ]
 cases a.ev env with
 | c y => cases y <;> rfl
 | agg l => rfl
 | tup l => rfl
section
variable {α : Type} {en : α → List C} {w : Nat} {d : α} {m l : List Blk} {v : C} {xs : List α}
theorem RS.grow (h : RS en w d m v xs) : RS en w d (m ++ l) v xs := h.imp id fun ⟨b, off, tot, blk, h1, h2, h3⟩ => ⟨b, off, tot, blk, h1, live_grow h2, h3⟩
theorem RS.ext {M : List Blk} (h : RS en w d m v xs) (hx : Ext m M) : RS en w d M v xs := by
 obtain ⟨l, rfl⟩ := hx
 exact h.grow
theorem RS.lenV (h : RS en w d m v xs) : lenV m (.c v) = some (vi xs.length) := by
 rcases h with ⟨rfl, rfl⟩ | ⟨b, off, tot, blk, rfl, h2, h3⟩
 ·rfl
 ·simp [Go.Proofs.YtfbeplbcaanimaaGreat.lenV, h2]
theorem RS.refs (h : RS en w d m v xs) : v.refs ≤ m.length := by
 rcases h with ⟨rfl, rfl⟩ | ⟨b, off, tot, blk, rfl, h2, h3⟩
 ·exact Nat.zero_le _
 ·exact live_lt h2
theorem RS.ixV (h : RS en w d m v xs) {i : Nat} (hi : i < xs.length) : ixsV m w (.c v) (vi i) = some (.c (ptrW w v i)) := by
 rcases h with ⟨rfl, rfl⟩ | ⟨b, off, tot, blk, rfl, h2, h3⟩
 ·simp at hi
 ·have h1 : (0 : Int) ≤ i ∧ (i : Int) < xs.length := by omega
  simp [ixsV, h2, guard', h1, ptrW]
theorem RS.ldV (h : RS en w d m v xs) {i : Nat} (hi : i < xs.length) : ldNV m w (.c (ptrW w v i)) = some (.agg (en (xs.getD i d))) := by
 rcases h with ⟨rfl, rfl⟩ | ⟨b, off, tot, blk, rfl, h2, h3⟩
 ·simp at hi
 ·obtain ⟨k1, k2⟩ := h3 i hi
  simp [ldNV, ptrW, h2, guard', k1, k2]
end
def tdC (t : Tld) : List C := [ci t.1, ci t.2]
def td0 : Tld := (0, 0)
def dd0 : Dd := ⟨0, 0, 0⟩
def ddE (d : Dd) : List C := [ci d.k, ci d.x, ci d.y]
abbrev DS := RS ddE 3 dd0
abbrev TS := RS tdC 2 td0
def flat {α : Type} (en : α → List C) (xs : List α) : List C := xs.flatMap en
section
variable {α : Type} {en : α → List C} {w : Nat} {d : α} (hw : ∀ x, (en x).length = w)
include hw
theorem flat_len (xs : List α) : (flat en xs).length = xs.length * w := by
 induction xs with
 | nil => simp [flat]
 | cons t r ih =>
  show (en t ++ flat en r).length = _
  rw [List.length_append, ih, hw, List.length_cons, Nat.succ_mul, Nat.add_comm]
theorem flat_get : ∀ (xs : List α) (j : Nat), j < xs.length → ((flat en xs).drop (j * w)).take w = en (xs.getD j d)
 | [], j, h => by simp at h
 | x :: r, 0, _ => by
  show ((en x ++ flat en r).drop (0 * w)).take w = _
  rw [Nat.zero_mul, List.drop_zero, ← hw x, List.take_left]
  rfl
 | x :: r, j + 1, h => by
  show ((en x ++ flat en r).drop ((j + 1) * w)).take w = _
  have : (j + 1) * w = (en x).length + j * w := by rw [hw, Nat.succ_mul, Nat.add_comm]
  rw [this, ← List.drop_drop, List.drop_left]
  have := flat_get r j (by simpa using h)
  rw [this]
  rfl
theorem flat_RS {m : List Blk} {b : Nat} {ty : TypeId} {e : Nat} {o : Bool} {xs : List α} (h : m[b]? = some ⟨flat en xs, ty, e, o⟩) : RS en w d m (.sl b 0 xs.length (xs.length * w)) xs := by
 refine .inr ⟨b, 0, xs.length * w, ⟨flat en xs, ty, e, o⟩, rfl, ?_, fun j hj => ?_⟩
 ·unfold live
  rw [h, Option.bind_some, if_pos (flat_len hw xs).symm]
 ·rw [Nat.zero_add]
  refine ⟨flat_get hw xs j hj, ?_⟩
  show j * w + w ≤ (flat en xs).length
  rw [flat_len hw, ← Nat.succ_mul]
  exact Nat.mul_le_mul_right w hj
end
theorem flat_snoc {α : Type} {en : α → List C} (xs : List α) (x : α) : flat en xs ++ en x = flat en (xs ++ [x]) := by simp [flat]
theorem tdC_len (t : Tld) : (tdC t).length = 2 := rfl
theorem ddE_len (t : Dd) : (ddE t).length = 3 := rfl
theorem flat_td_refs (ts : List Tld) : refsL (flat tdC ts) = 0 := by
 induction ts with
 | nil => rfl
 | cons t r ih => show refsL (tdC t ++ flat tdC r) = 0; rw [refs_append, ih]; simp [tdC, refsL, C.refs, ci, mx_eq]
end Go.Proofs.YtfbeplbcaanimaaGreat
