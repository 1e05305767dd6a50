/-
  Arguments of the laws: rings.
-/
import Derived.Test.YtkoloapgeilbdaaArg
import Derived.Test.YtkoloapgeilbdaaR3
set_option linter.unusedVariables false
set_option linter.unusedSimpArgs false
set_option maxRecDepth 100000
namespace Go.Proofs.Ytkoloapgeilbdaa
theorem ring_of_ints {xs : List Int} (h : xs.length = 10) (hx : ∀ x, x ∈ xs → i64 x) : ∃ f a b, ints xs = ring f a b ∧ i64 a ∧ i64 b ∧ ∀ i, i < 8 → i64 (f i) := by
  refine ⟨fun i => xs.getD i 0, xs.getD 8 0, xs.getD 9 0, ?_, ?_, ?_, ?_⟩
  · obtain ⟨x0, x1, x2, x3, x4, x5, x6, x7, x8, x9, rfl⟩ : ∃ x0 x1 x2 x3 x4 x5 x6 x7 x8 x9, xs = [x0, x1, x2, x3, x4, x5, x6, x7, x8, x9] := by
      match xs, h with
      | [x0, x1, x2, x3, x4, x5, x6, x7, x8, x9], _ => exact ⟨_, _, _, _, _, _, _, _, _, _, rfl⟩
    rfl
  all_goals
    have : ∀ i, i < 10 → i64 (xs.getD i 0) := fun i hi => by
      rw [List.getD_eq_getElem?_getD, List.getElem?_eq_getElem (by omega)]
      exact hx _ (List.getElem_mem _)
  · exact this 8 (by omega)
  · exact this 9 (by omega)
  · exact fun i hi => this i (by omega)

/-- An argument that is a ring. -/
theorem arg_ring {H : Type} {enc : TypeId × Value → H} {w : World} {base b0 : Nat} {spare : Nat → Bool} {held : Bool} {v : Value} {dd : DataW H} {p : List MemPlace}
    (h : DataW.Trod enc Try.prog w base spare held 29 v dd p) (hv : Value.okWide Try.prog w .any b0 29 v) :
    ∃ f a b, i64 a ∧ i64 b ∧ (∀ i, i < 8 → i64 (f i)) ∧ ∀ ι m, VR w ι m (.agg (ring f a b)) v := by
  obtain ⟨l, h1, rfl⟩ := arg_flat (ks := List.replicate 10 (some .i64)) (by kernel_rfl) (by kernel_rfl) hv h
  obtain ⟨xs, rfl, h2, h3⟩ := KL.ints h1
  obtain ⟨f, a, b, h4, h5, h6, h7⟩ := ring_of_ints h2 h3
  refine ⟨f, a, b, h5, h6, h7, fun ι m => ?_⟩
  rw [← h4]
  exact flat_VR h1
end Go.Proofs.Ytkoloapgeilbdaa
