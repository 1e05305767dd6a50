/-
  No cell of these rows narrows 'for every input' (looked for: loops, veiled, ifaces, maps, wideKeys, modest, calm, conditions, laid).
  DERIVED. THE GIVEN ROWS OF THIS SEAT. 10 by the template 'for every input the law returns true; each argument reads behind the call as it read before'; 0 by the template 'total and deterministic' (their statements: YtmifcdeajjgdpaaTotals.lean).
  GIVEN WITH THE SEED: the statements are not yours to turn. If you find one false, say at which input.
  Laid BY PROGRAM, IN A SANDBOX (cutbox-rows.mjs): the forced cells as the released guide's own fill.sh prints them over the translation 4a005e287ac971a8… (all of the seat's roots in one cut). By AI agents, Wed Nov 11 2026. No macro, syntax, notation, axiom, sorry.
-/
import Derived.Test.YtmifcdeajjgdpaaChecked
import GoSem.Claim
import GoSem.ClaimJoined
import GoSem.ClaimMapViews
import Derived.JoinedTies
import Derived.KernelRfl
namespace Go.Proofs.Ytmifcdeajjgdpaa
/- THE CELL 'sum', in the pinned program and in every row, IS THE sha256 OF THE DUMP (.gsa) THAT YtmifcdeajjgdpaaProg.lean LOADS. Nothing in Lean hashes anything: it is a label: what it is worth is what the hold of that sum in a sandbox is worth. -/
noncomputable def Try.pinned : Pinned := { name := "ytmifcdeajjgdpaa", sum := "4a005e287ac971a821049fc0c2aa8fe55e11c9164676dc74fc0f41020794bc30", checked := Try.checked }
namespace Rows
def none {H : Type} : Left H := { results := [], args := [] }

/-- 'laws.FnExactNewChain': WHATEVER THE INPUT: true; the input reads as it did. -/
def fnExactNewChainSpec : ChangeSpec := { name := "fnExactNewChain", fn := fun _ => fun
  | [] => { results := [.lit (.bool true)], args := [] }
  | _ => none }
def fnExactNewChainRow : OpenClaim := { program := "ytmifcdeajjgdpaa", sum := "4a005e287ac971a821049fc0c2aa8fe55e11c9164676dc74fc0f41020794bc30", func := "loop.example/g00087/laws.FnExactNewChain", spec := "fnExactNewChain", apart := false }
def FnExactNewChainSaid : Prop := fnExactNewChainRow.holds Try.pinned (OpenSpec.ofChange fnExactNewChainSpec)

/-- ITS FALSE NEIGHBOUR: 'it returns false'. Refute it at one input. -/
def fnExactNewChainWrong : ChangeSpec := { name := "fnExactNewChain", fn := fun _ => fun
  | [] => { results := [.lit (.bool false)], args := [] }
  | _ => none }
def FnExactNewChainWrongFalsely : Prop := fnExactNewChainRow.holds Try.pinned (OpenSpec.ofChange fnExactNewChainWrong)

/-- 'laws.FnExactNewTree': WHATEVER THE INPUT: true; the input reads as it did. -/
def fnExactNewTreeSpec : ChangeSpec := { name := "fnExactNewTree", fn := fun _ => fun
  | [] => { results := [.lit (.bool true)], args := [] }
  | _ => none }
def fnExactNewTreeRow : OpenClaim := { program := "ytmifcdeajjgdpaa", sum := "4a005e287ac971a821049fc0c2aa8fe55e11c9164676dc74fc0f41020794bc30", func := "loop.example/g00087/laws.FnExactNewTree", spec := "fnExactNewTree", apart := false }
def FnExactNewTreeSaid : Prop := fnExactNewTreeRow.holds Try.pinned (OpenSpec.ofChange fnExactNewTreeSpec)

/-- ITS FALSE NEIGHBOUR: 'it returns false'. Refute it at one input. -/
def fnExactNewTreeWrong : ChangeSpec := { name := "fnExactNewTree", fn := fun _ => fun
  | [] => { results := [.lit (.bool false)], args := [] }
  | _ => none }
def FnExactNewTreeWrongFalsely : Prop := fnExactNewTreeRow.holds Try.pinned (OpenSpec.ofChange fnExactNewTreeWrong)

/-- 'laws.FnExactNewSet': WHATEVER THE INPUT: true; the input reads as it did. -/
def fnExactNewSetSpec : ChangeSpec := { name := "fnExactNewSet", fn := fun _ => fun
  | [] => { results := [.lit (.bool true)], args := [] }
  | _ => none }
def fnExactNewSetRow : OpenClaim := { program := "ytmifcdeajjgdpaa", sum := "4a005e287ac971a821049fc0c2aa8fe55e11c9164676dc74fc0f41020794bc30", func := "loop.example/g00087/laws.FnExactNewSet", spec := "fnExactNewSet", apart := false }
def FnExactNewSetSaid : Prop := fnExactNewSetRow.holds Try.pinned (OpenSpec.ofChange fnExactNewSetSpec)

/-- ITS FALSE NEIGHBOUR: 'it returns false'. Refute it at one input. -/
def fnExactNewSetWrong : ChangeSpec := { name := "fnExactNewSet", fn := fun _ => fun
  | [] => { results := [.lit (.bool false)], args := [] }
  | _ => none }
def FnExactNewSetWrongFalsely : Prop := fnExactNewSetRow.holds Try.pinned (OpenSpec.ofChange fnExactNewSetWrong)

/-- 'laws.FnExactRingOk': WHATEVER THE INPUT: true; the input reads as it did. -/
def fnExactRingOkSpec : ChangeSpec := { name := "fnExactRingOk", fn := fun _ => fun
  | [d] => { results := [.lit (.bool true)], args := [d] }
  | _ => none }
def fnExactRingOkRow : OpenClaim := { program := "ytmifcdeajjgdpaa", sum := "4a005e287ac971a821049fc0c2aa8fe55e11c9164676dc74fc0f41020794bc30", func := "loop.example/g00087/laws.FnExactRingOk", spec := "fnExactRingOk", unfollowed := true, recurses := true, apart := false }
def FnExactRingOkSaid : Prop := fnExactRingOkRow.holds Try.pinned (OpenSpec.ofChange fnExactRingOkSpec)

/-- ITS FALSE NEIGHBOUR: 'it returns false'. Refute it at one input. -/
def fnExactRingOkWrong : ChangeSpec := { name := "fnExactRingOk", fn := fun _ => fun
  | [d] => { results := [.lit (.bool false)], args := [d] }
  | _ => none }
def FnExactRingOkWrongFalsely : Prop := fnExactRingOkRow.holds Try.pinned (OpenSpec.ofChange fnExactRingOkWrong)

/-- 'laws.FnExactRingPut': WHATEVER THE INPUT: true; the input reads as it did. -/
def fnExactRingPutSpec : ChangeSpec := { name := "fnExactRingPut", fn := fun _ => fun
  | [d1, d2] => { results := [.lit (.bool true)], args := [d1, d2] }
  | _ => none }
def fnExactRingPutRow : OpenClaim := { program := "ytmifcdeajjgdpaa", sum := "4a005e287ac971a821049fc0c2aa8fe55e11c9164676dc74fc0f41020794bc30", func := "loop.example/g00087/laws.FnExactRingPut", spec := "fnExactRingPut", unfollowed := true, recurses := true, apart := false }
def FnExactRingPutSaid : Prop := fnExactRingPutRow.holds Try.pinned (OpenSpec.ofChange fnExactRingPutSpec)

/-- ITS FALSE NEIGHBOUR: 'it returns false'. Refute it at one input. -/
def fnExactRingPutWrong : ChangeSpec := { name := "fnExactRingPut", fn := fun _ => fun
  | [d1, d2] => { results := [.lit (.bool false)], args := [d1, d2] }
  | _ => none }
def FnExactRingPutWrongFalsely : Prop := fnExactRingPutRow.holds Try.pinned (OpenSpec.ofChange fnExactRingPutWrong)

/-- 'laws.FnExactRingList': WHATEVER THE INPUT: true; the input reads as it did. -/
def fnExactRingListSpec : ChangeSpec := { name := "fnExactRingList", fn := fun _ => fun
  | [d] => { results := [.lit (.bool true)], args := [d] }
  | _ => none }
def fnExactRingListRow : OpenClaim := { program := "ytmifcdeajjgdpaa", sum := "4a005e287ac971a821049fc0c2aa8fe55e11c9164676dc74fc0f41020794bc30", func := "loop.example/g00087/laws.FnExactRingList", spec := "fnExactRingList", unfollowed := true, recurses := true, apart := false }
def FnExactRingListSaid : Prop := fnExactRingListRow.holds Try.pinned (OpenSpec.ofChange fnExactRingListSpec)

/-- ITS FALSE NEIGHBOUR: 'it returns false'. Refute it at one input. -/
def fnExactRingListWrong : ChangeSpec := { name := "fnExactRingList", fn := fun _ => fun
  | [d] => { results := [.lit (.bool false)], args := [d] }
  | _ => none }
def FnExactRingListWrongFalsely : Prop := fnExactRingListRow.holds Try.pinned (OpenSpec.ofChange fnExactRingListWrong)

/-- 'laws.FnExactRingTake': WHATEVER THE INPUT: true; the input reads as it did. -/
def fnExactRingTakeSpec : ChangeSpec := { name := "fnExactRingTake", fn := fun _ => fun
  | [d] => { results := [.lit (.bool true)], args := [d] }
  | _ => none }
def fnExactRingTakeRow : OpenClaim := { program := "ytmifcdeajjgdpaa", sum := "4a005e287ac971a821049fc0c2aa8fe55e11c9164676dc74fc0f41020794bc30", func := "loop.example/g00087/laws.FnExactRingTake", spec := "fnExactRingTake", unfollowed := true, recurses := true, apart := false }
def FnExactRingTakeSaid : Prop := fnExactRingTakeRow.holds Try.pinned (OpenSpec.ofChange fnExactRingTakeSpec)

/-- ITS FALSE NEIGHBOUR: 'it returns false'. Refute it at one input. -/
def fnExactRingTakeWrong : ChangeSpec := { name := "fnExactRingTake", fn := fun _ => fun
  | [d] => { results := [.lit (.bool false)], args := [d] }
  | _ => none }
def FnExactRingTakeWrongFalsely : Prop := fnExactRingTakeRow.holds Try.pinned (OpenSpec.ofChange fnExactRingTakeWrong)

/-- 'laws.FnExactRingTurn': WHATEVER THE INPUT: true; the input reads as it did. -/
def fnExactRingTurnSpec : ChangeSpec := { name := "fnExactRingTurn", fn := fun _ => fun
  | [d1, d2] => { results := [.lit (.bool true)], args := [d1, d2] }
  | _ => none }
def fnExactRingTurnRow : OpenClaim := { program := "ytmifcdeajjgdpaa", sum := "4a005e287ac971a821049fc0c2aa8fe55e11c9164676dc74fc0f41020794bc30", func := "loop.example/g00087/laws.FnExactRingTurn", spec := "fnExactRingTurn", unfollowed := true, recurses := true, apart := false }
def FnExactRingTurnSaid : Prop := fnExactRingTurnRow.holds Try.pinned (OpenSpec.ofChange fnExactRingTurnSpec)

/-- ITS FALSE NEIGHBOUR: 'it returns false'. Refute it at one input. -/
def fnExactRingTurnWrong : ChangeSpec := { name := "fnExactRingTurn", fn := fun _ => fun
  | [d1, d2] => { results := [.lit (.bool false)], args := [d1, d2] }
  | _ => none }
def FnExactRingTurnWrongFalsely : Prop := fnExactRingTurnRow.holds Try.pinned (OpenSpec.ofChange fnExactRingTurnWrong)

/-- 'laws.FnExactRingMove': WHATEVER THE INPUT: true; the input reads as it did. -/
def fnExactRingMoveSpec : ChangeSpec := { name := "fnExactRingMove", fn := fun _ => fun
  | [d1, d2, d3] => { results := [.lit (.bool true)], args := [d1, d2, d3] }
  | _ => none }
def fnExactRingMoveRow : OpenClaim := { program := "ytmifcdeajjgdpaa", sum := "4a005e287ac971a821049fc0c2aa8fe55e11c9164676dc74fc0f41020794bc30", func := "loop.example/g00087/laws.FnExactRingMove", spec := "fnExactRingMove", unfollowed := true, recurses := true, apart := false }
def FnExactRingMoveSaid : Prop := fnExactRingMoveRow.holds Try.pinned (OpenSpec.ofChange fnExactRingMoveSpec)

/-- ITS FALSE NEIGHBOUR: 'it returns false'. Refute it at one input. -/
def fnExactRingMoveWrong : ChangeSpec := { name := "fnExactRingMove", fn := fun _ => fun
  | [d1, d2, d3] => { results := [.lit (.bool false)], args := [d1, d2, d3] }
  | _ => none }
def FnExactRingMoveWrongFalsely : Prop := fnExactRingMoveRow.holds Try.pinned (OpenSpec.ofChange fnExactRingMoveWrong)

/-- 'laws.FnRings': WHATEVER THE INPUT: true; the input reads as it did. -/
def fnRingsSpec : ChangeSpec := { name := "fnRings", fn := fun _ => fun
  | [d] => { results := [.lit (.bool true)], args := [d] }
  | _ => none }
def fnRingsRow : OpenClaim := { program := "ytmifcdeajjgdpaa", sum := "4a005e287ac971a821049fc0c2aa8fe55e11c9164676dc74fc0f41020794bc30", func := "loop.example/g00087/laws.FnRings", spec := "fnRings", unfollowed := true, recurses := true, apart := false }
def FnRingsSaid : Prop := fnRingsRow.holds Try.pinned (OpenSpec.ofChange fnRingsSpec)

/-- ITS FALSE NEIGHBOUR: 'it returns false'. Refute it at one input. -/
def fnRingsWrong : ChangeSpec := { name := "fnRings", fn := fun _ => fun
  | [d] => { results := [.lit (.bool false)], args := [d] }
  | _ => none }
def FnRingsWrongFalsely : Prop := fnRingsRow.holds Try.pinned (OpenSpec.ofChange fnRingsWrong)

/- THE SECOND FORM. 'bulk': how many values and letters a reading holds, each counted each time it is reached (what is shared counts as often as it is met; a slice's spare places count too). A statement '..UptoSaid' is the law's where the arguments, and the package variables that the reading takes, are together of bulk at most 1048576: NARROWER than '..Said'. Prove '..Said' where nothing that the law and all that it calls make is longer than what came in: it says more and counts as full. Else prove '..UptoSaid'. A law counts once. -/
mutual
def uptoBulk {H : Type} : DataW H → Nat
  | .lit (.string bytes) => bytes.length + 1
  | .lit _ => 1
  | .nil => 1
  | .ptr d => uptoBulk d + 1
  | .slice elems spare => uptoBulkAll elems + uptoBulkAll spare + 1
  | .agg parts => uptoBulkAll parts + 1
  | .iface _ d => uptoBulk d + 1
  | .map entries => uptoBulkEntries entries + 1
  | .held _ => 1
def uptoBulkAll {H : Type} : List (DataW H) → Nat
  | [] => 0
  | d :: r => uptoBulk d + uptoBulkAll r
def uptoBulkEntries {H : Type} : List (Lit × DataW H) → Nat
  | [] => 0
  | x :: r => uptoBulkEntry x + uptoBulkEntries r
def uptoBulkEntry {H : Type} : Lit × DataW H → Nat
  | (.string bytes, d) => bytes.length + uptoBulk d + 1
  | (_, d) => uptoBulk d + 1
 end
def uptoSmall : (H : Type) → List (DataW H) → Bool := fun _ ds => decide (uptoBulkAll ds ≤ 1048576)
def OpenSpec.upto (s : _root_.Go.ChangeSpec) : _root_.Go.OpenSpec := { _root_.Go.OpenSpec.ofChange s with cond := some uptoSmall }

/-- 'laws.FnExactNewChain', WHERE WHAT IT READS IS OF BULK AT MOST 1048576: true; the input reads as it did. -/
def fnExactNewChainUptoRow : OpenClaim := { program := "ytmifcdeajjgdpaa", sum := "4a005e287ac971a821049fc0c2aa8fe55e11c9164676dc74fc0f41020794bc30", func := "loop.example/g00087/laws.FnExactNewChain", spec := "fnExactNewChain", apart := false, narrowed := true }
def FnExactNewChainUptoSaid : Prop := fnExactNewChainUptoRow.holds Try.pinned (OpenSpec.upto fnExactNewChainSpec)

/-- 'laws.FnExactNewTree', WHERE WHAT IT READS IS OF BULK AT MOST 1048576: true; the input reads as it did. -/
def fnExactNewTreeUptoRow : OpenClaim := { program := "ytmifcdeajjgdpaa", sum := "4a005e287ac971a821049fc0c2aa8fe55e11c9164676dc74fc0f41020794bc30", func := "loop.example/g00087/laws.FnExactNewTree", spec := "fnExactNewTree", apart := false, narrowed := true }
def FnExactNewTreeUptoSaid : Prop := fnExactNewTreeUptoRow.holds Try.pinned (OpenSpec.upto fnExactNewTreeSpec)

/-- 'laws.FnExactNewSet', WHERE WHAT IT READS IS OF BULK AT MOST 1048576: true; the input reads as it did. -/
def fnExactNewSetUptoRow : OpenClaim := { program := "ytmifcdeajjgdpaa", sum := "4a005e287ac971a821049fc0c2aa8fe55e11c9164676dc74fc0f41020794bc30", func := "loop.example/g00087/laws.FnExactNewSet", spec := "fnExactNewSet", apart := false, narrowed := true }
def FnExactNewSetUptoSaid : Prop := fnExactNewSetUptoRow.holds Try.pinned (OpenSpec.upto fnExactNewSetSpec)

/-- 'laws.FnExactRingOk', WHERE WHAT IT READS IS OF BULK AT MOST 1048576: true; the input reads as it did. -/
def fnExactRingOkUptoRow : OpenClaim := { program := "ytmifcdeajjgdpaa", sum := "4a005e287ac971a821049fc0c2aa8fe55e11c9164676dc74fc0f41020794bc30", func := "loop.example/g00087/laws.FnExactRingOk", spec := "fnExactRingOk", unfollowed := true, recurses := true, apart := false, narrowed := true }
def FnExactRingOkUptoSaid : Prop := fnExactRingOkUptoRow.holds Try.pinned (OpenSpec.upto fnExactRingOkSpec)

/-- 'laws.FnExactRingPut', WHERE WHAT IT READS IS OF BULK AT MOST 1048576: true; the input reads as it did. -/
def fnExactRingPutUptoRow : OpenClaim := { program := "ytmifcdeajjgdpaa", sum := "4a005e287ac971a821049fc0c2aa8fe55e11c9164676dc74fc0f41020794bc30", func := "loop.example/g00087/laws.FnExactRingPut", spec := "fnExactRingPut", unfollowed := true, recurses := true, apart := false, narrowed := true }
def FnExactRingPutUptoSaid : Prop := fnExactRingPutUptoRow.holds Try.pinned (OpenSpec.upto fnExactRingPutSpec)

/-- 'laws.FnExactRingList', WHERE WHAT IT READS IS OF BULK AT MOST 1048576: true; the input reads as it did. -/
def fnExactRingListUptoRow : OpenClaim := { program := "ytmifcdeajjgdpaa", sum := "4a005e287ac971a821049fc0c2aa8fe55e11c9164676dc74fc0f41020794bc30", func := "loop.example/g00087/laws.FnExactRingList", spec := "fnExactRingList", unfollowed := true, recurses := true, apart := false, narrowed := true }
def FnExactRingListUptoSaid : Prop := fnExactRingListUptoRow.holds Try.pinned (OpenSpec.upto fnExactRingListSpec)

/-- 'laws.FnExactRingTake', WHERE WHAT IT READS IS OF BULK AT MOST 1048576: true; the input reads as it did. -/
def fnExactRingTakeUptoRow : OpenClaim := { program := "ytmifcdeajjgdpaa", sum := "4a005e287ac971a821049fc0c2aa8fe55e11c9164676dc74fc0f41020794bc30", func := "loop.example/g00087/laws.FnExactRingTake", spec := "fnExactRingTake", unfollowed := true, recurses := true, apart := false, narrowed := true }
def FnExactRingTakeUptoSaid : Prop := fnExactRingTakeUptoRow.holds Try.pinned (OpenSpec.upto fnExactRingTakeSpec)

/-- 'laws.FnExactRingTurn', WHERE WHAT IT READS IS OF BULK AT MOST 1048576: true; the input reads as it did. -/
def fnExactRingTurnUptoRow : OpenClaim := { program := "ytmifcdeajjgdpaa", sum := "4a005e287ac971a821049fc0c2aa8fe55e11c9164676dc74fc0f41020794bc30", func := "loop.example/g00087/laws.FnExactRingTurn", spec := "fnExactRingTurn", unfollowed := true, recurses := true, apart := false, narrowed := true }
def FnExactRingTurnUptoSaid : Prop := fnExactRingTurnUptoRow.holds Try.pinned (OpenSpec.upto fnExactRingTurnSpec)

/-- 'laws.FnExactRingMove', WHERE WHAT IT READS IS OF BULK AT MOST 1048576: true; the input reads as it did. -/
def fnExactRingMoveUptoRow : OpenClaim := { program := "ytmifcdeajjgdpaa", sum := "4a005e287ac971a821049fc0c2aa8fe55e11c9164676dc74fc0f41020794bc30", func := "loop.example/g00087/laws.FnExactRingMove", spec := "fnExactRingMove", unfollowed := true, recurses := true, apart := false, narrowed := true }
def FnExactRingMoveUptoSaid : Prop := fnExactRingMoveUptoRow.holds Try.pinned (OpenSpec.upto fnExactRingMoveSpec)

/-- 'laws.FnRings', WHERE WHAT IT READS IS OF BULK AT MOST 1048576: true; the input reads as it did. -/
def fnRingsUptoRow : OpenClaim := { program := "ytmifcdeajjgdpaa", sum := "4a005e287ac971a821049fc0c2aa8fe55e11c9164676dc74fc0f41020794bc30", func := "loop.example/g00087/laws.FnRings", spec := "fnRings", unfollowed := true, recurses := true, apart := false, narrowed := true }
def FnRingsUptoSaid : Prop := fnRingsUptoRow.holds Try.pinned (OpenSpec.upto fnRingsSpec)

end Rows
end Go.Proofs.Ytmifcdeajjgdpaa
