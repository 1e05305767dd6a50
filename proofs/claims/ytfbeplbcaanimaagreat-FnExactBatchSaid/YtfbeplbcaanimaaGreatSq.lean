/-
 Spaces as arguments: what a law's argument stands for, in plain terms.
-/
import Derived.Test.YtfbeplbcaanimaaGreatGB
import Derived.Test.YtfbeplbcaanimaaGreatRA
import Derived.Test.YtfbeplbcaanimaaGreatAg
set_option linter.unusedVariables false
set_option linter.unusedSimpArgs false
set_option maxHeartbeats 4000000
set_option maxRecDepth 100000
namespace Go.Proofs.YtfbeplbcaanimaaGreat
theorem okL_cons {m : List Blk} {s : Sh} {r : List Sh} {cs : List C} (h : Sh.okL m (s :: r) cs) : ∃ c cs', cs = c :: cs' ∧ Sh.ok m s c ∧ Sh.okL m r cs' := by
 unfold Sh.okL at h; exact h
theorem okL_nil {m : List Blk} {cs : List C} (h : Sh.okL m [] cs) : cs = [] := by
 unfold Sh.okL at h; exact h
theorem ok_bl {m : List Blk} {c : C} (h : Sh.ok m .bl c) : ∃ x, c = cb x := by
 unfold Sh.ok at h; exact h
theorem ok_nm {m : List Blk} {k : IntKind} {c : C} (h : Sh.ok m (.nm k) c) : ∃ n, c = .int k n := by
 unfold Sh.ok at h; obtain ⟨n, h, _⟩ := h; exact ⟨n, h⟩
theorem okL_rows {α : Type} {m : List Blk} {e : List Sh} {en : α → List C} (d : α) (he : ∀ cs, Sh.okL m e cs → ∃ x, cs = en x) : ∀ (n : Nat) {cs : List C}, Sh.okL m (List.replicate n e).flatten cs → ∃ f : Nat → α, cs = rows en n f
 | 0, cs, h => ⟨fun _ => d, by have := okL_nil h; rw [this]; rfl⟩
 | n + 1, cs, h => by
  rw [List.replicate_succ', List.flatten_append] at h
  obtain ⟨h1, h2⟩ := Sh.okL_split h
  obtain ⟨f, hf⟩ := okL_rows d he n h1
  simp only [List.flatten_cons, List.flatten_nil, List.append_nil] at h2
  obtain ⟨x, hx⟩ := he _ h2
  refine ⟨fun i => if i = n then x else f i, ?_⟩
  rw [rows_succ, if_pos rfl, ← hx, rows_ext (f := fun i => if i = n then x else f i) (g := f) fun i hi => if_neg (by omega), ← hf]
  exact (List.take_append_drop _ _).symm
def shNd : List Sh := [.bl, .nm .i64, .nm .i64, .nm .i64]
theorem okL_nd {m : List Blk} {cs : List C} (h : Sh.okL m shNd cs) : ∃ x, cs = nd x := by
 obtain ⟨c1, r1, rfl, h1, h⟩ := okL_cons h
 obtain ⟨c2, r2, rfl, h2, h⟩ := okL_cons h
 obtain ⟨c3, r3, rfl, h3, h⟩ := okL_cons h
 obtain ⟨c4, r4, rfl, h4, h⟩ := okL_cons h
 obtain rfl := okL_nil h
 obtain ⟨x, rfl⟩ := ok_bl h1
 obtain ⟨a, rfl⟩ := ok_nm h2
 obtain ⟨b, rfl⟩ := ok_nm h3
 obtain ⟨c, rfl⟩ := ok_nm h4
 exact ⟨⟨x, a, b, c⟩, rfl⟩
theorem okL_ci {m : List Blk} {cs : List C} (h : Sh.okL m [.nm .i64] cs) : ∃ x : Int, cs = [ci x] := by
 obtain ⟨c1, r1, rfl, h1, h⟩ := okL_cons h
 obtain rfl := okL_nil h
 obtain ⟨x, rfl⟩ := ok_nm h1
 exact ⟨x, rfl⟩
def shCh : List Sh := (List.replicate 16 shNd).flatten ++ [.nm .i64]
theorem okL_chn {m : List Blk} {cs : List C} (h : Sh.okL m shCh cs) : ∃ f a, cs = chn f a := by
 obtain ⟨h1, h2⟩ := Sh.okL_split h
 obtain ⟨f, hf⟩ := okL_rows (en := nd) ⟨false, 0, 0, 0⟩ (fun _ => okL_nd) 16 h1
 obtain ⟨a, ha⟩ := okL_ci h2
 exact ⟨f, a, by rw [← List.take_append_drop ((List.replicate 16 shNd).flatten.length) cs, ha]; unfold chn; rw [hf]; rfl⟩
def shRi : List Sh := (List.replicate 8 [.nm .i64]).flatten ++ ([.nm .i64] ++ [.nm .i64])
theorem okL_ring {m : List Blk} {cs : List C} (h : Sh.okL m shRi cs) : ∃ r, cs = ringV r := by
 obtain ⟨h1, h2⟩ := Sh.okL_split h
 obtain ⟨f, hf⟩ := okL_rows (en := fun x : Int => [ci x]) 0 (fun _ => okL_ci) 8 h1
 obtain ⟨h2, h3⟩ := Sh.okL_split h2
 obtain ⟨a, ha⟩ := okL_ci h2
 obtain ⟨b, hb⟩ := okL_ci h3
 refine ⟨(f, a, b), ?_⟩
 rw [← List.take_append_drop ((List.replicate 8 [Sh.nm .i64]).flatten.length) cs, hf, ← List.take_append_drop [Sh.nm .i64].length (List.drop _ cs), ha, hb]
 rfl
theorem ok_ints {m : List Blk} {c : C} (h : Sh.ok m (.li [.nm .i64]) c) : ∃ xs, Sl m c xs ∧ xs.length ≤ maxLen := by
 unfold Sh.ok at h
 rcases h with rfl | ⟨b, off, len, tot, blk, rfl, h1, h2, h3, h4⟩
 ·exact ⟨[], .inl ⟨rfl, rfl⟩, Nat.zero_le _⟩
 ·have hc : ∀ j, j < len → ∃ x : Int, blk.cs[off + j]? = some (ci x) := by
   intro j hj
   obtain ⟨x, hx⟩ := okL_ci (h4 j hj)
   refine ⟨x, ?_⟩
   have := congrArg (·[0]?) hx
   simpa [List.getElem?_take] using this
  refine ⟨(List.range len).map fun j => match blk.cs[off + j]? with | some (.int _ x) => x | _ => 0, .inr ⟨b, off, tot, blk, by simp, h1, .inl h2, fun j hj => ?_⟩, by simpa using h3⟩
  simp only [List.length_map, List.length_range] at hj
  obtain ⟨x, hx⟩ := hc j hj
  rw [hx]
  simp [nth, List.getD_eq_getElem?_getD, hj, hx]
theorem choose_list {α : Type} {Q : Nat → α → Prop} : ∀ (n : Nat), (∀ j, j < n → ∃ x, Q j x) → ∃ xs : List α, xs.length = n ∧ ∀ j x, xs[j]? = some x → Q j x
 | 0, _ => ⟨[], rfl, fun j x h => by simp at h⟩
 | n + 1, h => by
  obtain ⟨xs, h1, h2⟩ := choose_list n fun j hj => h j (by omega)
  obtain ⟨y, hy⟩ := h n (by omega)
  refine ⟨xs ++ [y], by simp [h1], fun j x hx => ?_⟩
  by_cases hj : j < n
  ·rw [List.getElem?_append_left (by omega)] at hx; exact h2 j x hx
  ·rw [List.getElem?_append_right (by omega), h1] at hx
   cases hq : j - n with
   | zero =>
    rw [hq] at hx
    have : y = x := by simpa using hx
    subst this
    have : j = n := by omega
    subst this; exact hy
   | succ k => rw [hq] at hx; simp at hx
theorem ok_ss {m : List Blk} {c : C} (h : Sh.ok m (.li [.li [.nm .i64]]) c) : ∃ xss, SS m c xss ∧ xss.length ≤ maxLen ∧ ∀ xs ∈ xss, xs.length ≤ maxLen := by
 unfold Sh.ok at h
 rcases h with rfl | ⟨b, off, len, tot, blk, rfl, h1, h2, h3, h4⟩
 ·exact ⟨[], .inl ⟨rfl, rfl⟩, Nat.zero_le _, fun _ h => by cases h⟩
 ·obtain ⟨xss, k1, k2⟩ := choose_list (Q := fun j xs => ∃ h, blk.cs[off + j]? = some h ∧ Sl m h xs ∧ xs.length ≤ maxLen) len fun j hj => by
   have := h4 j hj
   obtain ⟨c1, r1, hc, h5, h6⟩ := okL_cons this
   obtain ⟨xs, h7, h8⟩ := ok_ints h5
   refine ⟨xs, c1, ?_, h7, h8⟩
   have := congrArg (·[0]?) hc
   simpa [List.getElem?_take] using this
  refine ⟨xss, .inr ⟨b, off, tot, blk, by rw [k1], h1, .inl h2, fun j hj => ?_⟩, by omega, fun xs hx => ?_⟩
  ·obtain ⟨h, q1, q2, _⟩ := k2 j (nthL xss j) (by rw [nthL_lt hj]; exact List.getElem?_eq_getElem hj)
   exact ⟨h, q1, q2⟩
  ·obtain ⟨j, hj⟩ := List.mem_iff_getElem?.1 hx
   obtain ⟨_, _, _, q3⟩ := k2 j xs hj
   exact q3
def shSp : List Sh := shCh ++ (shRi ++ (shCh ++ [.li [.li [.nm .i64]]]))
structure Spc where
 f : Nat → Nd
 a : Int
 r : (Nat → Int) × Int × Int
 g : Nat → Nd
 b : Int
def spC (s : Spc) (v : C) : List C := chn s.f s.a ++ (ringV s.r ++ (chn s.g s.b ++ [v]))
theorem okL_sp {m : List Blk} {cs : List C} (h : Sh.okL m shSp cs) : ∃ s v xss, cs = spC s v ∧ SS m v xss ∧ xss.length ≤ maxLen ∧ ∀ xs ∈ xss, xs.length ≤ maxLen := by
 obtain ⟨h1, h⟩ := Sh.okL_split h
 obtain ⟨h2, h⟩ := Sh.okL_split h
 obtain ⟨h3, h⟩ := Sh.okL_split h
 obtain ⟨f, a, e1⟩ := okL_chn h1
 obtain ⟨r, e2⟩ := okL_ring h2
 obtain ⟨g, b, e3⟩ := okL_chn h3
 obtain ⟨c, r', e4, h4, h⟩ := okL_cons h
 obtain rfl := okL_nil h
 obtain ⟨xss, k1, k2, k3⟩ := ok_ss h4
 refine ⟨⟨f, a, r, g, b⟩, c, xss, ?_, k1, k2, k3⟩
 unfold spC
 rw [← e1, ← e2, ← e3, ← e4, List.take_append_drop, List.take_append_drop, List.take_append_drop]
theorem sh_sp : shT Tryz.prog 20 37 = some shSp := by kernel_rfl
end Go.Proofs.YtfbeplbcaanimaaGreat
