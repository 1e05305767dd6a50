/-
  From a run of the abstract machine that may write what it made itself to a statement's call.
-/
import Derived.Test.YtkoloapgeilbdaaRow
import Derived.Test.YtkoloapgeilbdaaEk
set_option linter.unusedVariables false
namespace Go.Proofs.Ytkoloapgeilbdaa
open Go.RowKit Go.WideShapes

/-- A run that answers one bool, where none of the memory handed in is its own to write. -/
theorem calls_of_den0 {P : Program} {call : FuncId → List V → List Blk → Option Ret} (hC : CallOk P call) {f : FuncId} {args : List V} {m m' : List Blk} {b : Bool} {e wr : Nat} {base : Nat} {w : World} {ι : Nat → Nat × Nat} {ras : List Value}
    (h : call f args m = some ⟨.c (.bool b), m', e, wr⟩) (hm : ∀ (j : Nat) (blk : Blk), m[j]? = some blk → blk.own = false) (s : Sim base w ι m) (hl : args.length = ras.length) (ha : ∀ (j : Nat) (v : V), args[j]? = some v → ∃ r, ras[j]? = some r ∧ VR w ι m v r) :
    Calls P f ras.toArray w fun e w' => e = .returned (.bool b) ∧ Below w.heap.size w w' := by
  refine ((hC f args m _ h).2 base w ι ras s hl ha).mono fun e w' ⟨r, ι', he, hv, hm'⟩ => ?_
  rw [he, hv.bool]
  exact ⟨rfl, ⟨hm'.fr.os, hm'.fr.tape, hm'.fr.output, hm'.fr.size, fun g hg => hm'.fr.blk g hg fun j blk hj ho => by rw [hm j blk hj] at ho; cases ho⟩⟩
end Go.Proofs.Ytkoloapgeilbdaa
