/-
 Batches: deeds as arguments.
-/
import Derived.Test.YtfbeplbcaanimaaGreatWj
set_option linter.unusedVariables false
set_option linter.unusedSimpArgs false
set_option maxRecDepth 100000
namespace Go.Proofs.YtfbeplbcaanimaaGreat
theorem getD_some {α : Type} {xs : List α} {j : Nat} {d : α} (h : j < xs.length) : xs[j]? = some (xs.getD j d) := by
 simp [List.getD_eq_getElem?_getD, List.getElem?_eq_getElem h]
theorem ok_dds {m : List Blk} {c : C} (h : Sh.ok m (.li shDd) c) : ∃ ds, DS m c ds ∧ ds.length ≤ maxLen := by
 unfold Sh.ok at h
 rcases h with rfl | ⟨b, off, len, tot, blk, rfl, h1, h2, h3, h4⟩
 ·exact ⟨[], .inl ⟨rfl, rfl⟩, Nat.zero_le _⟩
 ·obtain ⟨ds, k1, k2⟩ := choose_list (Q := fun j d => (blk.cs.drop (off + j * 3)).take 3 = ddE d) len fun j hj => okL_dd (h4 j hj)
  refine ⟨ds, .inr ⟨b, off, tot, blk, by rw [k1], h1, fun j hj => ?_⟩, by omega⟩
  have q := k2 j _ (getD_some (d := dd0) hj)
  refine ⟨q, ?_⟩
  have := congrArg List.length q
  rw [List.length_take, List.length_drop, ddE_len] at this
  omega
def DSS (m : List Blk) (v : C) (dss : List (List Dd)) : Prop :=
 (v = .nils ∧ dss = []) ∨ ∃ b off tot blk, v = .sl b off dss.length tot ∧ live m b tot = some blk ∧ ∀ j, j < dss.length → ∃ h, blk.cs[off + j]? = some h ∧ DS m h (dss.getD j [])
section
variable {m l : List Blk} {v : C} {dss : List (List Dd)}
theorem DSS.grow (h : DSS m v dss) : DSS (m ++ l) v dss := by
 rcases h with h | ⟨b, off, tot, blk, h1, h2, h4⟩
 ·exact .inl h
 ·exact .inr ⟨b, off, tot, blk, h1, live_grow h2, fun j hj => let ⟨h, a, b⟩ := h4 j hj; ⟨h, a, b.grow⟩⟩
theorem DSS.ext {M : List Blk} (h : DSS m v dss) (hx : Ext m M) : DSS M v dss := by
 obtain ⟨l, rfl⟩ := hx
 exact h.grow
theorem DSS.lenV (h : DSS m v dss) : lenV m (.c v) = some (vi dss.length) := by
 rcases h with ⟨rfl, rfl⟩ | ⟨b, off, tot, blk, rfl, h2, h4⟩
 ·rfl
 ·simp [Go.Proofs.YtfbeplbcaanimaaGreat.lenV, h2]
theorem DSS.refs (h : DSS m v dss) : v.refs ≤ m.length := by
 rcases h with ⟨rfl, rfl⟩ | ⟨b, off, tot, blk, rfl, h2, h3⟩
 ·exact Nat.zero_le _
 ·exact live_lt h2
theorem DSS.ixV (h : DSS m v dss) {i : Nat} (hi : i < dss.length) : ixsV m 1 (.c v) (vi i) = some (.c (ptrOf v i)) := by
 rcases h with ⟨rfl, rfl⟩ | ⟨b, off, tot, blk, rfl, h2, h4⟩
 ·simp at hi
 ·have h1 : (0 : Int) ≤ i ∧ (i : Int) < dss.length := by omega
  simp [ixsV, h2, guard', h1, ptrOf]
theorem DSS.ldV (h : DSS m v dss) {i : Nat} (hi : i < dss.length) : ∃ c, ld1V m (.c (ptrOf v i)) = some (.c c) ∧ DS m c (dss.getD i []) := by
 rcases h with ⟨rfl, rfl⟩ | ⟨b, off, tot, blk, rfl, h2, h4⟩
 ·simp at hi
 ·obtain ⟨c, e1, e2⟩ := h4 i hi
  exact ⟨c, by simp [ld1V, h2, ptrOf, e1], e2⟩
end
end Go.Proofs.YtfbeplbcaanimaaGreat
