/-
 Batches: the law of Batch.
-/
import Derived.Test.YtfbeplbcaanimaaGreatWl
import Derived.Test.YtfbeplbcaanimaaGreatWm
import Derived.Test.YtfbeplbcaanimaaGreatWn
set_option linter.unusedVariables false
set_option linter.unusedSimpArgs false
set_option maxHeartbeats 4000000
set_option maxRecDepth 100000
namespace Go.Proofs.YtfbeplbcaanimaaGreat
variable {L : Nat}
theorem batF_b : ∀ (ds : List Dd) (z y : Spc × List (List Int)), z.2.length ≤ 1048576 → (∀ xs ∈ z.2, xs.length ≤ 1048576) → tot z.2 ≤ 1073741824 → (batF z ds).2 = some y → y.2.length ≤ 1048576 ∧ (∀ xs ∈ y.2, xs.length ≤ 1048576) ∧ tot y.2 ≤ 1073741824
 | [], z, y, h1, h2, h3, h => by
  simp only [batF, Option.some.injEq] at h
  subst h
  exact ⟨h1, h2, h3⟩
 | d :: r, z, y, h1, h2, h3, h => by
  rw [batF] at h
  split at h
  ·obtain ⟨a1, a2, a3⟩ := doDeed_b (s := z.1) (d := d) h1 h2 h3
   exact batF_b r _ y a1 a2 a3 h
  ·cases h
theorem batch_b {z : Spc × List (List Int)} {ds : List Dd} (h1 : z.2.length ≤ 1048576) (h2 : ∀ xs ∈ z.2, xs.length ≤ 1048576) (h3 : tot z.2 ≤ 1073741824) : (batch z ds).1.2.length ≤ 1048576 ∧ (∀ xs ∈ (batch z ds).1.2, xs.length ≤ 1048576) ∧ tot (batch z ds).1.2 ≤ 1073741824 := by
 unfold batch
 split
 ·exact ⟨h1, h2, h3⟩
 ·split
  ·rename_i y h
   exact batF_b ds z y h1 h2 h3 h
  ·exact ⟨h1, h2, h3⟩
theorem batch_t {z : Spc × List (List Int)} {ds : List Dd} : (batch z ds).2.1.length ≤ 30 := by
 unfold batch
 split
 ·exact Nat.zero_le _
 ·have := batF_len ds z
  split <;> (simp only; omega)
def TV (M : List Blk) (lb : Nat) (tv : C) (ts : List Tld) (q : Nat) : Prop := (tv = .nils ∧ ts = []) ∨ (tv = .sl q 0 ts.length (ts.length * 2) ∧ M[q]? = some ⟨flat tdC ts, 53, 2, true⟩ ∧ lb ≤ q)
theorem TV.ts {M : List Blk} {lb q : Nat} {tv : C} {ts : List Tld} (h : TV M lb tv ts q) : TS M tv ts := by
 rcases h with ⟨rfl, rfl⟩ | ⟨rfl, h1, _⟩
 ·exact .inl ⟨rfl, rfl⟩
 ·exact flat_RS tdC_len h1
theorem TV.get {M M' : List Blk} {lb q : Nat} {tv : C} {ts : List Tld} (h : TV M lb tv ts q) (hg : q < M.length → M'[q]? = M[q]?) : TV M' lb tv ts q := by
 rcases h with h | ⟨h1, h2, h3⟩
 ·exact .inl h
 ·exact .inr ⟨h1, (hg (lt_of_get h2)).trans h2, h3⟩
theorem BRes.tv {m M : List Blk} {e lo hi q : Nat} {c tv : C} {xss : List (List Int)} {ts : List Tld} (h : BRes m M e c xss tv ts lo hi q) : TV M m.length tv ts q := by
 rcases h.told with h | ⟨h1, h2, h3, _⟩
 ·exact .inl h
 ·exact .inr ⟨h1, h2, h3⟩
theorem TV.mark (hL : 100000 ≤ L) (k : Nat) {M : List Blk} {lb q : Nat} {tv : C} {ts : List Tld} (h : TV M lb tv ts q) (ht : ts.length ≤ 30) {c : Int} (hc : 0 ≤ c ∧ c ≤ 1099511627776) :
  ∃ M' W, den T libX L (k + 1) 22 [.c tv, vi c] M = some ⟨vi (c + (ts.length : Int) * 2), M', 0, W⟩ ∧ M'.length = M.length ∧ W ≤ M.length - lb ∧ (∀ j, tv = .nils ∨ j ≠ q → M'[j]? = M[j]?) ∧ ∀ M2, (tv ≠ .nils → q < M2.length → M2[q]? = M'[q]?) → M'.length ≤ M2.length → den T libX L (k + 1) 23 [.c tv, vi c] M2 = some ⟨vi (c + (ts.length : Int) * 2), M2, 0, 0⟩ := by
 rcases h with ⟨rfl, rfl⟩ | ⟨rfl, h2, h3⟩
 ·refine ⟨M, 0, ?_, rfl, Nat.zero_le _, fun _ _ => rfl, fun M2 _ _ => ?_⟩
  ·have := den_markTN (X := libX) (L := L) (by omega) k M c
   simpa using this
  ·have := den_heldTN (X := libX) (L := L) (by omega) k M2 c
   simpa using this
 ·have hl := lt_of_get h2
  have hcs := flat_len tdC_len ts
  cases hn : ts with
  | nil =>
   subst hn
   refine ⟨M, 0, ?_, rfl, Nat.zero_le _, fun _ _ => rfl, fun M2 hq hM => ?_⟩
   ·have := den_markT0 (X := libX) (L := L) (by omega) k M q c _ h2
    simpa using this
   ·have := den_heldToldS (X := libX) (L := L) k M2 q 0 c [] (by rw [hq (fun h => nomatch h) (by omega)]; exact h2) rfl (fun j hj => by omega) (by omega) (by omega) hc
    simpa using this
  | cons t0 r =>
   rw [← hn]
   have hpos : 0 < ts.length := by rw [hn]; simp
   refine ⟨M.set q ⟨mkC c (ts.length * 2) (flat tdC ts), 53, 2, true⟩, M.length - q, den_markToldS (by omega) k M q ts.length c _ h2 hcs hpos (by omega) (by omega) hc, by simp, by omega, fun j hj => List.getElem?_set_ne (by rcases hj with hj | hj; cases hj; exact Ne.symm hj), fun M2 hq hM => ?_⟩
   rw [List.length_set] at hM
   refine den_heldToldS k M2 q ts.length c _ (by rw [hq (fun h => nomatch h) (by omega), List.getElem?_set_self hl]) (by rw [mkC_len (by omega), hcs]) (fun j hj => mkC_get hj) (by omega) (by omega) hc
theorem markD (hL : 2000000 ≤ L) (k : Nat) (m : List Blk) (b : Nat) (ds : List Dd) (c : Int) (hm : m[b]? = some ⟨flat ddE ds, 57, 3, true⟩) (hb : ds.length ≤ 1048576) (hc : 0 ≤ c ∧ c ≤ 1099511627776) :
  ∃ M' W, den T libX L (k + 1) 21 [.c (.sl b 0 ds.length (ds.length * 3)), vi c] m = some ⟨vi (c + (ds.length : Int) * 3), M', 0, W⟩ ∧ M'.length = m.length ∧ W ≤ m.length - b ∧ ∀ j, j ≠ b → M'[j]? = m[j]? := by
 cases hn : ds with
 | nil =>
  subst hn
  refine ⟨m, 0, ?_, rfl, Nat.zero_le _, fun _ _ => rfl⟩
  have := den_markD0 (X := libX) (L := L) (by omega) k m b c _ hm
  simpa using this
 | cons t0 r =>
  rw [← hn]
  have hpos : 0 < ds.length := by rw [hn]; simp
  exact ⟨_, _, den_markDeedS (by omega) k m b ds.length c _ hm (flat_len ddE_len ds) hpos (by omega) hb hc, by simp, Nat.le_refl _, fun j hj => List.getElem?_set_ne (Ne.symm hj)⟩
end Go.Proofs.YtfbeplbcaanimaaGreat
