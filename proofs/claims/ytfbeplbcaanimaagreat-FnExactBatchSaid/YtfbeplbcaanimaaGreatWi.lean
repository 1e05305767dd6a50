/-
 Deeds: the law of DoDeed.
-/
import Derived.Test.YtfbeplbcaanimaaGreatWh
set_option linter.unusedVariables false
set_option linter.unusedSimpArgs false
set_option maxHeartbeats 4000000
set_option maxRecDepth 100000
namespace Go.Proofs.YtfbeplbcaanimaaGreat
variable {L : Nat}
def shDd : List Sh := [.nm .i64, .nm .i64, .nm .i64]
theorem okL_dd {m : List Blk} {cs : List C} (h : Sh.okL m shDd cs) : ∃ d : Dd, cs = [ci d.k, ci d.x, ci d.y] := by
 obtain ⟨c1, r1, rfl, h1, h⟩ := okL_cons h
 obtain ⟨c2, r2, rfl, h2, h⟩ := okL_cons h
 obtain ⟨c3, r3, rfl, h3, h⟩ := okL_cons h
 obtain rfl := okL_nil h
 obtain ⟨a, rfl⟩ := ok_nm h1
 obtain ⟨b, rfl⟩ := ok_nm h2
 obtain ⟨c, rfl⟩ := ok_nm h3
 exact ⟨⟨a, b, c⟩, rfl⟩
theorem lvAt {m r : List Blk} {k n : Nat} {B : Blk} (h : r[k]? = some B) (hn : n = B.cs.length) : live (m ++ r) (m.length + k) n = some B := by
 unfold live; rw [get_app, h, Option.bind_some, if_pos hn]
theorem lvAt0 {m r : List Blk} {n : Nat} {B : Blk} (hn : n = B.cs.length) : live (m ++ B :: r) m.length n = some B := lvAt (k := 0) rfl hn
theorem deed_b {s : Spc} {xss : List (List Int)} {d : Dd} (b1 : xss.length ≤ 1048576) (b2 : ∀ xs ∈ xss, xs.length ≤ 1048576) (bt : tot xss ≤ 1073741824) : (deed s xss d).2.1.length ≤ 1048576 ∧ (∀ xs ∈ (deed s xss d).2.1, xs.length ≤ 1048576) ∧ tot (deed s xss d).2.1 ≤ 1073741824 := by
 obtain ⟨a1, a2, a3⟩ := setAdd_b (x := d.x) b1 b2 bt
 obtain ⟨c1, c2, c3⟩ := setDrop_b (x := d.x) b1 b2 bt
 unfold deed
 (repeat' split) <;> first | exact ⟨b1, b2, bt⟩ | exact ⟨a1, a2, a3⟩ | exact ⟨c1, c2, c3⟩
theorem doDeed_b {s : Spc} {xss : List (List Int)} {d : Dd} (b1 : xss.length ≤ 1048576) (b2 : ∀ xs ∈ xss, xs.length ≤ 1048576) (bt : tot xss ≤ 1073741824) : (doDeed s xss d).2.1.length ≤ 1048576 ∧ (∀ xs ∈ (doDeed s xss d).2.1, xs.length ≤ 1048576) ∧ tot (doDeed s xss d).2.1 ≤ 1073741824 := by
 unfold doDeed
 split
 ·exact deed_b b1 b2 bt
 ·exact ⟨b1, b2, bt⟩
end Go.Proofs.YtfbeplbcaanimaaGreat
