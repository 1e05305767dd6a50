/-
  Arguments of the laws: slices of numbers. NOT BUILT YET.
-/
import Derived.Test.YtonkgmajfcpeeaaArg
import Derived.Test.YtonkgmajfcpeeaaS1
import Derived.ChangeSlices
set_option linter.unusedVariables false
set_option linter.unusedSimpArgs false
set_option maxRecDepth 100000
namespace Go.Proofs.Ytonkgmajfcpeeaa

theorem atA_nat {a : Addr} (h : a.spot = none) (j : Nat) : a.add j = atA (fun _ => (a.block, a.off)) 0 j := by
  obtain ⟨b, o, s⟩ := a
  simp only at h
  subst h
  unfold Addr.add atA
  by_cases hj : j = 0
  · subst hj; rfl
  · rw [if_neg hj]
/-- An argument that is a slice of numbers: memory that is only read. -/
theorem arg_ints {H : Type} {enc : TypeId × Value → H} {w : World} {base : Nat} {t : TypeId} {v : Value} {dd : DataW H} {p : List MemPlace}
    (ht : Try.prog.underlying t = some (.slice 3)) (h : DataW.Trod enc Try.prog w 0 (fun _ => true) true t v dd p) (hv : Value.okWide Try.prog w .any base t v) :
    ∃ (zs : List Int) (c : C) (m : List Blk) (ι : Nat → Nat × Nat), Sl m c zs ∧ (∀ (j : Nat) (blk : Blk), m[j]? = some blk → blk.own = false) ∧ Sim w.heap.size w ι m ∧ VR w ι m (.c c) v := by
  obtain ⟨fuel, hx⟩ := h
  obtain ⟨a0, len, cap, rfl⟩ := Go.WideShapes.okWide_slice ht hv
  have hu : Try.prog.underlying 3 = some (.int .i64) := by kernel_rfl
  have hc : Try.prog.cellsOf 3 = 1 := by kernel_rfl
  rcases Go.ChangeShapes.open_ints ht hu hc hx with ⟨h1, _⟩ | ⟨a, len', cap', zs, h1, _, hle, hcap, hzl, _, hcell, _⟩
  · simp only [Value.cells, List.cons.injEq, and_true, Value.slice.injEq] at h1
    obtain ⟨rfl, rfl, rfl⟩ := h1
    exact ⟨[], .nils, [], fun _ => (0, 0), .inl ⟨rfl, rfl⟩, by simp, sim_nil w, .c .nils⟩
  · simp only [Value.cells, List.cons.injEq, and_true, Value.slice.injEq] at h1
    obtain ⟨rfl, rfl, rfl⟩ := h1
    simp only [if_true] at hzl
    by_cases h0 : len = 0
    · subst h0
      refine ⟨[], .sl 0 1 0 0, [⟨[], 3, 0, false⟩], fun _ => (0, 0), .inr ⟨0, 1, 0, _, rfl, rfl, .inl rfl, by simp⟩, ?_, ⟨Nat.le_refl _, ?_, ?_, ?_, ?_⟩, ?_⟩
      · intro j blk hj; cases j with | zero => cases hj; rfl | succ j => simp at hj
      · intro j blk hj ho; cases j with | zero => cases hj; cases ho | succ j => simp at hj
      · intro j blk hj ho hz; cases j with | zero => cases hj; exact ⟨fun h => absurd rfl h, by simp⟩ | succ j => simp at hj
      · intro j blk hj ho hz; cases j with | zero => cases hj; rfl | succ j => simp at hj
      · intro b b' blk blk' hb hb' ho; cases b with | zero => cases hb; cases ho | succ j => simp at hb
      · exact .c (.sl rfl (by rfl) (Nat.le_refl _) ⟨.inr rfl⟩ fun _ => ⟨_, _, rfl, fun h => by omega, Nat.zero_le _, hcap, fun h => absurd h (Nat.lt_irrefl _)⟩)
    · have hsp : a.spot = none := by
        have := hcell 0 (by omega)
        unfold World.cell? at this
        split at this
        · split at this
          · cases this
          · rename_i hs
            simpa [Addr.add] using hs
        · cases this
      have hblk : a.block < w.heap.size := by
        have := hcell 0 (by omega)
        unfold World.cell? at this
        split at this
        · rename_i he
          exact (Array.getElem?_eq_some_iff.1 he).1
        · cases this
      refine ⟨zs.take len, .sl 0 0 len zs.length, [⟨ints zs, 3, 0, false⟩], fun _ => (a.block, a.off), .inr ⟨0, 0, zs.length, ⟨ints zs, 3, 0, false⟩, ?_, ?_, .inl rfl, ?_⟩, ?_, ⟨Nat.le_refl _, ?_, ?_, ?_, ?_⟩, ?_⟩
      · rw [List.length_take, Nat.min_eq_left (by omega)]
      · simp [live, ints_len]
      · intro j hj
        rw [List.length_take] at hj
        rw [Nat.zero_add, ints_get' (by omega)]
        simp only [nth, List.getD_eq_getElem?_getD, List.getElem?_take]
        rw [if_pos (by omega)]
      · intro j blk hj; cases j with | zero => cases hj; rfl | succ j => simp at hj
      · intro j blk hj ho; cases j with | zero => cases hj; cases ho | succ j => simp at hj
      · intro j blk hj ho hz
        cases j with
        | zero =>
          cases hj
          refine ⟨fun _ => hblk, fun j c hj => ?_⟩
          have hl : j < zs.length := by
            have := (List.getElem?_eq_some_iff.1 hj).1
            rwa [ints_len] at this
          rw [ints_get' hl] at hj
          cases hj
          refine ⟨_, ?_, .int _ _, rfl⟩
          rw [← hcell j hl, atA_nat hsp]
        | succ j => simp at hj
      · intro j blk hj ho hz; cases j with | zero => cases hj; exact absurd rfl hz | succ j => simp at hj
      · intro b b' blk blk' hb hb' ho; cases b with | zero => cases hb; cases ho | succ j => simp at hb
      · refine .c (.sl rfl (by rfl) (by rw [ints_len]; exact Nat.le_refl _) ⟨.inr rfl⟩ fun _ => ⟨_, _, rfl, fun _ => ?_, hle, hcap, fun h => absurd h (Nat.lt_irrefl _)⟩)
        have := atA_nat hsp 0
        rwa [Addr.add, if_pos rfl] at this
end Go.Proofs.Ytonkgmajfcpeeaa
