/-
  Trees, in plain terms: how high; built of keys.
-/
import Derived.Test.YtdnfcomgdgdifaaPu
set_option linter.unusedVariables false
set_option linter.unusedSimpArgs false
set_option maxRecDepth 10000
namespace Go.Proofs.Ytdnfcomgdgdifaa

theorem hg_bound {f : Nat → Nd} : ∀ (n : Nat) (p : Int) (l : List Nat), Tr f p l → l.length < n → hgF f n p ≤ l.length ∧ (hgF f n p = 0 ↔ l = []) ∧ l.length + 1 ≤ 2 ^ (hgF f n p).toNat
  | 0, _, _, _, h => by omega
  | n + 1, p, l, h, hn => by
    rcases h.inv with ⟨rfl, rfl⟩ | ⟨q, ll, lr, rfl, h2, h3, h4, h5, rfl⟩
    · rw [hgF_end]; simp
    · simp only [List.length_append, List.length_cons] at hn ⊢
      obtain ⟨i1, i2, i3⟩ := hg_bound n _ ll h4 (by omega)
      obtain ⟨j1, j2, j3⟩ := hg_bound n _ lr h5 (by omega)
      have bl := (hgF_bound (f := f) n (f q).b).1
      have br := (hgF_bound (f := f) n (f q).c).1
      rw [hgF_go]
      generalize hgF f n (f q).b = x at *
      generalize hgF f n (f q).c = y at *
      obtain ⟨x, rfl⟩ : ∃ z : Nat, x = z := ⟨x.toNat, by omega⟩
      obtain ⟨y, rfl⟩ : ∃ z : Nat, y = z := ⟨y.toNat, by omega⟩
      rw [Int.toNat_natCast] at i3 j3
      refine ⟨by split <;> omega, ⟨fun h => by split at h <;> omega, fun h => by simp at h⟩, ?_⟩
      split
      · rename_i hxy
        have : (2 : Nat) ^ x ≤ 2 ^ y := Nat.pow_le_pow_right (by omega) (by omega)
        rw [show ((1 : Int) + y).toNat = y + 1 by omega, Nat.pow_succ]
        omega
      · rename_i hxy
        have : (2 : Nat) ^ y ≤ 2 ^ x := Nat.pow_le_pow_right (by omega) (by omega)
        rw [show ((1 : Int) + x).toNat = x + 1 by omega, Nat.pow_succ]
        omega
theorem hg_congr {f g : Nat → Nd} {p : Int} {l : List Nat} (h : Tr f p l) : (∀ q ∈ l, g q = f q) → ∀ n, hgF g n p = hgF f n p := by
  induction h with
  | nil => intro _ n; cases n <;> rfl
  | @node q l r hq hu hl hr ih1 ih2 =>
    intro hg n
    cases n with
    | zero => rfl
    | succ n => rw [hgF_go, hgF_go, hg q (by simp), ih1 (fun x hx => hg x (by simp [hx])) n, ih2 (fun x hx => hg x (by simp [hx])) n]
/-- The height of a tree built of so many keys. -/
def hbF : Nat → Nat → Nat
  | 0, _ => 0
  | n + 1, k => if k = 0 then 0 else 1 + max (hbF n (k / 2)) (hbF n (k - (k / 2 + 1)))
theorem hb_low : ∀ k, k ≤ 16 → 1 ≤ k → 2 ^ (hbF 17 k) / 2 ≤ k := by decide
theorem hb_least : ∀ k, k ≤ 16 → ∀ h, h ≤ 16 → k + 1 ≤ 2 ^ h → hbF 17 k ≤ h := by decide
theorem Bd_zero (n : Nat) (f : Nat → Nd) (xs : List Int) (p : Nat) (h : xs.length = 0) : Bd n f xs p = (f, -1, p) := by
  cases n with
  | zero => rfl
  | succ n => unfold Bd; rw [if_pos h]
theorem Bd_spec : ∀ (n : Nat) (f : Nat → Nd) (xs : List Int) (p : Nat), xs.length < n → p + xs.length ≤ 16 →
    ∃ l, Tr (Bd n f xs p).1 (Bd n f xs p).2.1 l ∧ kl (Bd n f xs p).1 l = xs ∧ (∀ i, i ∈ l ↔ p ≤ i ∧ i < p + xs.length) ∧ (∀ i, i < p ∨ p + xs.length ≤ i → (Bd n f xs p).1 i = f i) ∧ ∀ m, xs.length < m → hgF (Bd n f xs p).1 m (Bd n f xs p).2.1 = hbF n xs.length
  | 0, _, _, _, h, _ => by omega
  | n + 1, f, xs, p, hn, hp => by
    by_cases h0 : xs.length = 0
    · rw [Bd_zero _ _ _ _ h0]
      have : xs = [] := List.length_eq_zero_iff.1 h0
      subst this
      refine ⟨[], .nil, rfl, fun i => by simp only [List.not_mem_nil, false_iff, List.length_nil]; omega, fun i _ => rfl, fun m hm => ?_⟩
      obtain ⟨m, rfl⟩ : ∃ k, m = k + 1 := ⟨m - 1, by simp at hm; omega⟩
      rw [hgF_end]; rfl
    · have e1 : (xs.take (xs.length / 2)).length = xs.length / 2 := by rw [List.length_take]; omega
      have e2 : (xs.drop (xs.length / 2 + 1)).length = xs.length - (xs.length / 2 + 1) := List.length_drop ..
      have hend := Bd_end n f (xs.take (xs.length / 2)) (p + 1) (by rw [e1]; omega)
      obtain ⟨l1, a1, a2, a3, a4, a5⟩ := Bd_spec n f (xs.take (xs.length / 2)) (p + 1) (by rw [e1]; omega) (by rw [e1]; omega)
      rw [e1] at hend a3 a4 a5
      obtain ⟨l2, b1, b2, b3, b4, b5⟩ := Bd_spec n (Bd n f (xs.take (xs.length / 2)) (p + 1)).1 (xs.drop (xs.length / 2 + 1)) (p + 1 + xs.length / 2) (by rw [e2]; omega) (by rw [e2]; omega)
      rw [e2] at b3 b4 b5
      have hB : Bd (n + 1) f xs p = (upd (Bd n (Bd n f (xs.take (xs.length / 2)) (p + 1)).1 (xs.drop (xs.length / 2 + 1)) (p + 1 + xs.length / 2)).1 p
        ⟨true, nth xs (xs.length / 2), (Bd n f (xs.take (xs.length / 2)) (p + 1)).2.1, (Bd n (Bd n f (xs.take (xs.length / 2)) (p + 1)).1 (xs.drop (xs.length / 2 + 1)) (p + 1 + xs.length / 2)).2.1⟩, (p : Int),
        (Bd n (Bd n f (xs.take (xs.length / 2)) (p + 1)).1 (xs.drop (xs.length / 2 + 1)) (p + 1 + xs.length / 2)).2.2) := by
        conv => lhs; unfold Bd
        rw [if_neg h0, hend]
      rw [hB]
      simp only
      generalize Bd n f (xs.take (xs.length / 2)) (p + 1) = A at a1 a2 a3 a4 a5 b1 b2 b3 b4 b5 ⊢
      generalize Bd n A.1 (xs.drop (xs.length / 2 + 1)) (p + 1 + xs.length / 2) = B at b1 b2 b3 b4 b5 ⊢
      have gp : upd B.1 p ⟨true, nth xs (xs.length / 2), A.2.1, B.2.1⟩ p = ⟨true, nth xs (xs.length / 2), A.2.1, B.2.1⟩ := upd_at ..
      have gn : ∀ i, i ≠ p → upd B.1 p ⟨true, nth xs (xs.length / 2), A.2.1, B.2.1⟩ i = B.1 i := fun i hi => upd_ne _ _ hi
      have g1 : ∀ i ∈ l1, upd B.1 p ⟨true, nth xs (xs.length / 2), A.2.1, B.2.1⟩ i = A.1 i := fun i hi => by
        have := (a3 i).1 hi
        rw [gn i (by omega), b4 i (by omega)]
      have g2 : ∀ i ∈ l2, upd B.1 p ⟨true, nth xs (xs.length / 2), A.2.1, B.2.1⟩ i = B.1 i := fun i hi => by
        have := (b3 i).1 hi
        exact gn i (by omega)
      generalize upd B.1 p ⟨true, nth xs (xs.length / 2), A.2.1, B.2.1⟩ = g at gp gn g1 g2 ⊢
      have t1 : Tr g A.2.1 l1 := a1.congr g1
      have t2 : Tr g B.2.1 l2 := b1.congr g2
      refine ⟨l1 ++ p :: l2, .node (by omega) (by rw [gp]) (by rw [gp]; exact t1) (by rw [gp]; exact t2), ?_, fun i => ?_, fun i hi => ?_, fun m hm => ?_⟩
      · have hx : xs = xs.take (xs.length / 2) ++ nth xs (xs.length / 2) :: xs.drop (xs.length / 2 + 1) := by
          have hlt : xs.length / 2 < xs.length := by omega
          have : nth xs (xs.length / 2) = xs[xs.length / 2] := by simp [nth, List.getD_eq_getElem?_getD, hlt]
          rw [this, ← List.drop_eq_getElem_cons hlt, List.take_append_drop]
        rw [kl_append, kl_congr (f := A.1) (l := l1) fun q hq => by rw [g1 q hq]]
        show kl A.1 l1 ++ (g p).a :: kl g l2 = xs
        rw [gp, kl_congr (f := B.1) (l := l2) fun q hq => by rw [g2 q hq], a2, b2]
        exact hx.symm
      · rw [List.mem_append, List.mem_cons, a3, b3]; omega
      · rw [gn i (by omega), b4 i (by omega), a4 i (by omega)]
      · obtain ⟨m, rfl⟩ : ∃ k, m = k + 1 := ⟨m - 1, by omega⟩
        rw [hgF_go, gp]
        simp only
        rw [hg_congr (f := A.1) a1 g1, hg_congr (f := B.1) b1 g2, a5 m (by omega), b5 m (by omega)]
        conv => rhs; unfold hbF
        rw [if_neg h0]
        split <;> omega
theorem build_tree {xs : List Int} (h1 : xs.length ≤ 16) (h2 : ∀ x ∈ xs, isVal x = true) (h3 : xs.Pairwise (· < ·)) :
    ∃ g a l, treeBuild xs = (g, a, true) ∧ Tree g a l ∧ kl g l = xs ∧ treeHigh g a = hbF 17 xs.length := by
  have hgood : goodK xs := ⟨h1, fun j hj => h2 _ (by
    have : nth xs j = xs[j] := by simp [nth, List.getD_eq_getElem?_getD, hj]
    rw [this]; exact List.getElem_mem _), fun j _ hj => by
    have := List.pairwise_iff_getElem.1 h3 j (j + 1) (by omega) hj (by omega)
    simpa [nth, List.getD_eq_getElem?_getD, hj, show j < xs.length by omega] using this⟩
  obtain ⟨l, b1, b2, b3, b4, b5⟩ := Bd_spec 17 (fun _ => nd0) xs 0 (by omega) (by omega)
  have ht : Tree (Bd 17 (fun _ => nd0) xs 0).1 (Bd 17 (fun _ => nd0) xs 0).2.1 l := by
    refine Tree.mk' (f := fun _ => nd0) b1 (by rw [b2]; exact h3) (fun j hj => ?_) (fun j hj => h2 _ (by
      have hm : ((Bd 17 (fun _ => nd0) xs 0).1 j).a ∈ kl (Bd 17 (fun _ => nd0) xs 0).1 l := List.mem_map.2 ⟨j, hj, rfl⟩
      rwa [b2] at hm)) fun j hj hm => ?_
    · by_cases hm : j ∈ l
      · rw [(b1.mem hm).2.1]; symm; simpa using hm
      · have : ¬ (0 ≤ j ∧ j < 0 + xs.length) := fun h => hm ((b3 j).2 h)
        rw [b4 j (by omega)]; show false = _; symm; simpa using hm
    · have : ¬ (0 ≤ j ∧ j < 0 + xs.length) := fun h => hm ((b3 j).2 h)
      rw [b4 j (by omega)]; rfl
  refine ⟨_, _, l, tb_good hgood, ht, b2, ?_⟩
  unfold treeHigh
  rw [if_pos ht.treeOk]
  exact b5 17 (by omega)
theorem treeHigh_ok {f : Nat → Nd} {a : Int} (h : treeOk f a = true) : 0 ≤ treeHigh f a ∧ treeHigh f a ≤ (treeKeys f a).length ∧ treeHigh f a ≤ 16 ∧ (treeHigh f a = 0 ↔ (treeKeys f a).length = 0) ∧ (treeKeys f a).length + 1 ≤ 2 ^ (treeHigh f a).toNat := by
  obtain ⟨l, hl⟩ := Tree.of h
  have hb := hg_bound 17 a l hl.tr (by have := hl.len.2; omega)
  have hb2 := hgF_bound (f := f) 17 a
  have hlen := hl.len.2
  unfold treeHigh
  rw [if_pos h, hl.keys, kl_len]
  exact ⟨hb2.1, hb.1, by have := hb.1; omega, by rw [hb.2.1, List.length_eq_zero_iff], hb.2.2⟩
theorem treeKeys_vals {f : Nat → Nd} {a : Int} (h : treeOk f a = true) : (∀ x ∈ treeKeys f a, isVal x = true) ∧ (treeKeys f a).Pairwise (· < ·) := by
  obtain ⟨l, hl⟩ := Tree.of h
  rw [hl.keys]
  refine ⟨fun x hx => ?_, asc_kl.1 hl.asc⟩
  obtain ⟨q, hq, rfl⟩ := List.mem_map.1 hx
  exact (hl.mem hq).2.2
end Go.Proofs.Ytdnfcomgdgdifaa
