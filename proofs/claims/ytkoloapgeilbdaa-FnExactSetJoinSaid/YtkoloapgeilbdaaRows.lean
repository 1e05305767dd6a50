/-
  No cell of these rows narrows 'for every input' (looked for: loops, veiled, ifaces, maps, wideKeys, modest, calm, conditions, laid).
  DERIVED. THE GIVEN ROWS OF THIS SEAT. 12 by the template 'for every input the law returns true; each argument reads behind the call as it read before'; 0 by the template 'total and deterministic' (their statements: YtkoloapgeilbdaaTotals.lean).
  GIVEN WITH THE SEED: the statements are not yours to turn. If you find one false, say at which input.
  Laid BY PROGRAM, IN A SANDBOX (cutbox-rows.mjs): the forced cells as the released guide's own fill.sh prints them over the translation 6358bfd034c15080… (all of the seat's roots in one cut). By AI agents, Wed Nov 11 2026. No macro, syntax, notation, axiom, sorry.
-/
import Derived.Test.YtkoloapgeilbdaaChecked
import GoSem.Claim
import GoSem.ClaimJoined
import GoSem.ClaimMapViews
import Derived.JoinedTies
import Derived.KernelRfl
namespace Go.Proofs.Ytkoloapgeilbdaa
/- THE CELL 'sum', in the pinned program and in every row, IS THE sha256 OF THE DUMP (.gsa) THAT YtkoloapgeilbdaaProg.lean LOADS. Nothing in Lean hashes anything: it is a label: what it is worth is what the hold of that sum in a sandbox is worth. -/
noncomputable def Try.pinned : Pinned := { name := "ytkoloapgeilbdaa", sum := "6358bfd034c15080fb81a70f888f754195fbb9f1035edcb5c50091b84c0a9287", checked := Try.checked }
namespace Rows
def none {H : Type} : Left H := { results := [], args := [] }

/-- 'laws.FnExactSetOk': WHATEVER THE INPUT: true; the input reads as it did. -/
def fnExactSetOkSpec : ChangeSpec := { name := "fnExactSetOk", fn := fun _ => fun
  | [d] => { results := [.lit (.bool true)], args := [d] }
  | _ => none }
def fnExactSetOkRow : OpenClaim := { program := "ytkoloapgeilbdaa", sum := "6358bfd034c15080fb81a70f888f754195fbb9f1035edcb5c50091b84c0a9287", func := "loop.example/g00087/laws.FnExactSetOk", spec := "fnExactSetOk", apart := false }
def FnExactSetOkSaid : Prop := fnExactSetOkRow.holds Try.pinned (OpenSpec.ofChange fnExactSetOkSpec)

/-- ITS FALSE NEIGHBOUR: 'it returns false'. Refute it at one input. -/
def fnExactSetOkWrong : ChangeSpec := { name := "fnExactSetOk", fn := fun _ => fun
  | [d] => { results := [.lit (.bool false)], args := [d] }
  | _ => none }
def FnExactSetOkWrongFalsely : Prop := fnExactSetOkRow.holds Try.pinned (OpenSpec.ofChange fnExactSetOkWrong)

/-- 'laws.FnExactRingList': WHATEVER THE INPUT: true; the input reads as it did. -/
def fnExactRingListSpec : ChangeSpec := { name := "fnExactRingList", fn := fun _ => fun
  | [d] => { results := [.lit (.bool true)], args := [d] }
  | _ => none }
def fnExactRingListRow : OpenClaim := { program := "ytkoloapgeilbdaa", sum := "6358bfd034c15080fb81a70f888f754195fbb9f1035edcb5c50091b84c0a9287", func := "loop.example/g00087/laws.FnExactRingList", spec := "fnExactRingList", unfollowed := true, recurses := true, apart := false }
def FnExactRingListSaid : Prop := fnExactRingListRow.holds Try.pinned (OpenSpec.ofChange fnExactRingListSpec)

/-- ITS FALSE NEIGHBOUR: 'it returns false'. Refute it at one input. -/
def fnExactRingListWrong : ChangeSpec := { name := "fnExactRingList", fn := fun _ => fun
  | [d] => { results := [.lit (.bool false)], args := [d] }
  | _ => none }
def FnExactRingListWrongFalsely : Prop := fnExactRingListRow.holds Try.pinned (OpenSpec.ofChange fnExactRingListWrong)

/-- 'laws.FnExactSetHas16': WHATEVER THE INPUT: true; the input reads as it did. -/
def fnExactSetHas16Spec : ChangeSpec := { name := "fnExactSetHas16", fn := fun _ => fun
  | [d1, d2] => { results := [.lit (.bool true)], args := [d1, d2] }
  | _ => none }
def fnExactSetHas16Row : OpenClaim := { program := "ytkoloapgeilbdaa", sum := "6358bfd034c15080fb81a70f888f754195fbb9f1035edcb5c50091b84c0a9287", func := "loop.example/g00087/laws.FnExactSetHas16", spec := "fnExactSetHas16", apart := false }
def FnExactSetHas16Said : Prop := fnExactSetHas16Row.holds Try.pinned (OpenSpec.ofChange fnExactSetHas16Spec)

/-- ITS FALSE NEIGHBOUR: 'it returns false'. Refute it at one input. -/
def fnExactSetHas16Wrong : ChangeSpec := { name := "fnExactSetHas16", fn := fun _ => fun
  | [d1, d2] => { results := [.lit (.bool false)], args := [d1, d2] }
  | _ => none }
def FnExactSetHas16WrongFalsely : Prop := fnExactSetHas16Row.holds Try.pinned (OpenSpec.ofChange fnExactSetHas16Wrong)

/-- 'laws.FnExactRingMove': WHATEVER THE INPUT: true; the input reads as it did. -/
def fnExactRingMoveSpec : ChangeSpec := { name := "fnExactRingMove", fn := fun _ => fun
  | [d1, d2, d3] => { results := [.lit (.bool true)], args := [d1, d2, d3] }
  | _ => none }
def fnExactRingMoveRow : OpenClaim := { program := "ytkoloapgeilbdaa", sum := "6358bfd034c15080fb81a70f888f754195fbb9f1035edcb5c50091b84c0a9287", func := "loop.example/g00087/laws.FnExactRingMove", spec := "fnExactRingMove", unfollowed := true, recurses := true, apart := false }
def FnExactRingMoveSaid : Prop := fnExactRingMoveRow.holds Try.pinned (OpenSpec.ofChange fnExactRingMoveSpec)

/-- ITS FALSE NEIGHBOUR: 'it returns false'. Refute it at one input. -/
def fnExactRingMoveWrong : ChangeSpec := { name := "fnExactRingMove", fn := fun _ => fun
  | [d1, d2, d3] => { results := [.lit (.bool false)], args := [d1, d2, d3] }
  | _ => none }
def FnExactRingMoveWrongFalsely : Prop := fnExactRingMoveRow.holds Try.pinned (OpenSpec.ofChange fnExactRingMoveWrong)

/-- 'laws.FnExactNewSpace': WHATEVER THE INPUT: true; the input reads as it did. -/
def fnExactNewSpaceSpec : ChangeSpec := { name := "fnExactNewSpace", fn := fun _ => fun
  | [] => { results := [.lit (.bool true)], args := [] }
  | _ => none }
def fnExactNewSpaceRow : OpenClaim := { program := "ytkoloapgeilbdaa", sum := "6358bfd034c15080fb81a70f888f754195fbb9f1035edcb5c50091b84c0a9287", func := "loop.example/g00087/laws.FnExactNewSpace", spec := "fnExactNewSpace", apart := false }
def FnExactNewSpaceSaid : Prop := fnExactNewSpaceRow.holds Try.pinned (OpenSpec.ofChange fnExactNewSpaceSpec)

/-- ITS FALSE NEIGHBOUR: 'it returns false'. Refute it at one input. -/
def fnExactNewSpaceWrong : ChangeSpec := { name := "fnExactNewSpace", fn := fun _ => fun
  | [] => { results := [.lit (.bool false)], args := [] }
  | _ => none }
def FnExactNewSpaceWrongFalsely : Prop := fnExactNewSpaceRow.holds Try.pinned (OpenSpec.ofChange fnExactNewSpaceWrong)

/-- 'laws.FnRings': WHATEVER THE INPUT: true; the input reads as it did. -/
def fnRingsSpec : ChangeSpec := { name := "fnRings", fn := fun _ => fun
  | [d] => { results := [.lit (.bool true)], args := [d] }
  | _ => none }
def fnRingsRow : OpenClaim := { program := "ytkoloapgeilbdaa", sum := "6358bfd034c15080fb81a70f888f754195fbb9f1035edcb5c50091b84c0a9287", func := "loop.example/g00087/laws.FnRings", spec := "fnRings", unfollowed := true, recurses := true, apart := false }
def FnRingsSaid : Prop := fnRingsRow.holds Try.pinned (OpenSpec.ofChange fnRingsSpec)

/-- ITS FALSE NEIGHBOUR: 'it returns false'. Refute it at one input. -/
def fnRingsWrong : ChangeSpec := { name := "fnRings", fn := fun _ => fun
  | [d] => { results := [.lit (.bool false)], args := [d] }
  | _ => none }
def FnRingsWrongFalsely : Prop := fnRingsRow.holds Try.pinned (OpenSpec.ofChange fnRingsWrong)

/-- 'laws.FnExactSetDrop': WHATEVER THE INPUT: true; the input reads as it did. -/
def fnExactSetDropSpec : ChangeSpec := { name := "fnExactSetDrop", fn := fun _ => fun
  | [d1, d2] => { results := [.lit (.bool true)], args := [d1, d2] }
  | _ => none }
def fnExactSetDropRow : OpenClaim := { program := "ytkoloapgeilbdaa", sum := "6358bfd034c15080fb81a70f888f754195fbb9f1035edcb5c50091b84c0a9287", func := "loop.example/g00087/laws.FnExactSetDrop", spec := "fnExactSetDrop", unfollowed := true, recurses := true, apart := false }
def FnExactSetDropSaid : Prop := fnExactSetDropRow.holds Try.pinned (OpenSpec.ofChange fnExactSetDropSpec)

/-- ITS FALSE NEIGHBOUR: 'it returns false'. Refute it at one input. -/
def fnExactSetDropWrong : ChangeSpec := { name := "fnExactSetDrop", fn := fun _ => fun
  | [d1, d2] => { results := [.lit (.bool false)], args := [d1, d2] }
  | _ => none }
def FnExactSetDropWrongFalsely : Prop := fnExactSetDropRow.holds Try.pinned (OpenSpec.ofChange fnExactSetDropWrong)

/-- 'laws.FnExactTreeDrop': WHATEVER THE INPUT: true; the input reads as it did. -/
def fnExactTreeDropSpec : ChangeSpec := { name := "fnExactTreeDrop", fn := fun _ => fun
  | [d1, d2] => { results := [.lit (.bool true)], args := [d1, d2] }
  | _ => none }
def fnExactTreeDropRow : OpenClaim := { program := "ytkoloapgeilbdaa", sum := "6358bfd034c15080fb81a70f888f754195fbb9f1035edcb5c50091b84c0a9287", func := "loop.example/g00087/laws.FnExactTreeDrop", spec := "fnExactTreeDrop", recurses := true, apart := false }
def FnExactTreeDropSaid : Prop := fnExactTreeDropRow.holds Try.pinned (OpenSpec.ofChange fnExactTreeDropSpec)

/-- ITS FALSE NEIGHBOUR: 'it returns false'. Refute it at one input. -/
def fnExactTreeDropWrong : ChangeSpec := { name := "fnExactTreeDrop", fn := fun _ => fun
  | [d1, d2] => { results := [.lit (.bool false)], args := [d1, d2] }
  | _ => none }
def FnExactTreeDropWrongFalsely : Prop := fnExactTreeDropRow.holds Try.pinned (OpenSpec.ofChange fnExactTreeDropWrong)

/-- 'laws.FnExactSetSame': WHATEVER THE INPUT: true; the input reads as it did. -/
def fnExactSetSameSpec : ChangeSpec := { name := "fnExactSetSame", fn := fun _ => fun
  | [d1, d2] => { results := [.lit (.bool true)], args := [d1, d2] }
  | _ => none }
def fnExactSetSameRow : OpenClaim := { program := "ytkoloapgeilbdaa", sum := "6358bfd034c15080fb81a70f888f754195fbb9f1035edcb5c50091b84c0a9287", func := "loop.example/g00087/laws.FnExactSetSame", spec := "fnExactSetSame", recurses := true, apart := false }
def FnExactSetSameSaid : Prop := fnExactSetSameRow.holds Try.pinned (OpenSpec.ofChange fnExactSetSameSpec)

/-- ITS FALSE NEIGHBOUR: 'it returns false'. Refute it at one input. -/
def fnExactSetSameWrong : ChangeSpec := { name := "fnExactSetSame", fn := fun _ => fun
  | [d1, d2] => { results := [.lit (.bool false)], args := [d1, d2] }
  | _ => none }
def FnExactSetSameWrongFalsely : Prop := fnExactSetSameRow.holds Try.pinned (OpenSpec.ofChange fnExactSetSameWrong)

/-- 'laws.FnExactSetList': WHATEVER THE INPUT: true; the input reads as it did. -/
def fnExactSetListSpec : ChangeSpec := { name := "fnExactSetList", fn := fun _ => fun
  | [d] => { results := [.lit (.bool true)], args := [d] }
  | _ => none }
def fnExactSetListRow : OpenClaim := { program := "ytkoloapgeilbdaa", sum := "6358bfd034c15080fb81a70f888f754195fbb9f1035edcb5c50091b84c0a9287", func := "loop.example/g00087/laws.FnExactSetList", spec := "fnExactSetList", recurses := true, apart := false }
def FnExactSetListSaid : Prop := fnExactSetListRow.holds Try.pinned (OpenSpec.ofChange fnExactSetListSpec)

/-- ITS FALSE NEIGHBOUR: 'it returns false'. Refute it at one input. -/
def fnExactSetListWrong : ChangeSpec := { name := "fnExactSetList", fn := fun _ => fun
  | [d] => { results := [.lit (.bool false)], args := [d] }
  | _ => none }
def FnExactSetListWrongFalsely : Prop := fnExactSetListRow.holds Try.pinned (OpenSpec.ofChange fnExactSetListWrong)

/-- 'laws.FnExactSetAdd': WHATEVER THE INPUT: true; the input reads as it did. -/
def fnExactSetAddSpec : ChangeSpec := { name := "fnExactSetAdd", fn := fun _ => fun
  | [d1, d2] => { results := [.lit (.bool true)], args := [d1, d2] }
  | _ => none }
def fnExactSetAddRow : OpenClaim := { program := "ytkoloapgeilbdaa", sum := "6358bfd034c15080fb81a70f888f754195fbb9f1035edcb5c50091b84c0a9287", func := "loop.example/g00087/laws.FnExactSetAdd", spec := "fnExactSetAdd", recurses := true, apart := false }
def FnExactSetAddSaid : Prop := fnExactSetAddRow.holds Try.pinned (OpenSpec.ofChange fnExactSetAddSpec)

/-- ITS FALSE NEIGHBOUR: 'it returns false'. Refute it at one input. -/
def fnExactSetAddWrong : ChangeSpec := { name := "fnExactSetAdd", fn := fun _ => fun
  | [d1, d2] => { results := [.lit (.bool false)], args := [d1, d2] }
  | _ => none }
def FnExactSetAddWrongFalsely : Prop := fnExactSetAddRow.holds Try.pinned (OpenSpec.ofChange fnExactSetAddWrong)

/-- 'laws.FnExactSetJoin': WHATEVER THE INPUT: true; the input reads as it did. -/
def fnExactSetJoinSpec : ChangeSpec := { name := "fnExactSetJoin", fn := fun _ => fun
  | [d1, d2] => { results := [.lit (.bool true)], args := [d1, d2] }
  | _ => none }
def fnExactSetJoinRow : OpenClaim := { program := "ytkoloapgeilbdaa", sum := "6358bfd034c15080fb81a70f888f754195fbb9f1035edcb5c50091b84c0a9287", func := "loop.example/g00087/laws.FnExactSetJoin", spec := "fnExactSetJoin", recurses := true, apart := false }
def FnExactSetJoinSaid : Prop := fnExactSetJoinRow.holds Try.pinned (OpenSpec.ofChange fnExactSetJoinSpec)

/-- ITS FALSE NEIGHBOUR: 'it returns false'. Refute it at one input. -/
def fnExactSetJoinWrong : ChangeSpec := { name := "fnExactSetJoin", fn := fun _ => fun
  | [d1, d2] => { results := [.lit (.bool false)], args := [d1, d2] }
  | _ => none }
def FnExactSetJoinWrongFalsely : Prop := fnExactSetJoinRow.holds Try.pinned (OpenSpec.ofChange fnExactSetJoinWrong)

/- THE SECOND FORM. 'bulk': how many values and letters a reading holds, each counted each time it is reached (what is shared counts as often as it is met; a slice's spare places count too). A statement '..UptoSaid' is the law's where the arguments, and the package variables that the reading takes, are together of bulk at most 1048576: NARROWER than '..Said'. Prove '..Said' where nothing that the law and all that it calls make is longer than what came in: it says more and counts as full. Else prove '..UptoSaid'. A law counts once. -/
mutual
def uptoBulk {H : Type} : DataW H → Nat
  | .lit (.string bytes) => bytes.length + 1
  | .lit _ => 1
  | .nil => 1
  | .ptr d => uptoBulk d + 1
  | .slice elems spare => uptoBulkAll elems + uptoBulkAll spare + 1
  | .agg parts => uptoBulkAll parts + 1
  | .iface _ d => uptoBulk d + 1
  | .map entries => uptoBulkEntries entries + 1
  | .held _ => 1
def uptoBulkAll {H : Type} : List (DataW H) → Nat
  | [] => 0
  | d :: r => uptoBulk d + uptoBulkAll r
def uptoBulkEntries {H : Type} : List (Lit × DataW H) → Nat
  | [] => 0
  | x :: r => uptoBulkEntry x + uptoBulkEntries r
def uptoBulkEntry {H : Type} : Lit × DataW H → Nat
  | (.string bytes, d) => bytes.length + uptoBulk d + 1
  | (_, d) => uptoBulk d + 1
 end
def uptoSmall : (H : Type) → List (DataW H) → Bool := fun _ ds => decide (uptoBulkAll ds ≤ 1048576)
def OpenSpec.upto (s : _root_.Go.ChangeSpec) : _root_.Go.OpenSpec := { _root_.Go.OpenSpec.ofChange s with cond := some uptoSmall }

/-- 'laws.FnExactSetOk', WHERE WHAT IT READS IS OF BULK AT MOST 1048576: true; the input reads as it did. -/
def fnExactSetOkUptoRow : OpenClaim := { program := "ytkoloapgeilbdaa", sum := "6358bfd034c15080fb81a70f888f754195fbb9f1035edcb5c50091b84c0a9287", func := "loop.example/g00087/laws.FnExactSetOk", spec := "fnExactSetOk", apart := false, narrowed := true }
def FnExactSetOkUptoSaid : Prop := fnExactSetOkUptoRow.holds Try.pinned (OpenSpec.upto fnExactSetOkSpec)

/-- 'laws.FnExactRingList', WHERE WHAT IT READS IS OF BULK AT MOST 1048576: true; the input reads as it did. -/
def fnExactRingListUptoRow : OpenClaim := { program := "ytkoloapgeilbdaa", sum := "6358bfd034c15080fb81a70f888f754195fbb9f1035edcb5c50091b84c0a9287", func := "loop.example/g00087/laws.FnExactRingList", spec := "fnExactRingList", unfollowed := true, recurses := true, apart := false, narrowed := true }
def FnExactRingListUptoSaid : Prop := fnExactRingListUptoRow.holds Try.pinned (OpenSpec.upto fnExactRingListSpec)

/-- 'laws.FnExactSetHas16', WHERE WHAT IT READS IS OF BULK AT MOST 1048576: true; the input reads as it did. -/
def fnExactSetHas16UptoRow : OpenClaim := { program := "ytkoloapgeilbdaa", sum := "6358bfd034c15080fb81a70f888f754195fbb9f1035edcb5c50091b84c0a9287", func := "loop.example/g00087/laws.FnExactSetHas16", spec := "fnExactSetHas16", apart := false, narrowed := true }
def FnExactSetHas16UptoSaid : Prop := fnExactSetHas16UptoRow.holds Try.pinned (OpenSpec.upto fnExactSetHas16Spec)

/-- 'laws.FnExactRingMove', WHERE WHAT IT READS IS OF BULK AT MOST 1048576: true; the input reads as it did. -/
def fnExactRingMoveUptoRow : OpenClaim := { program := "ytkoloapgeilbdaa", sum := "6358bfd034c15080fb81a70f888f754195fbb9f1035edcb5c50091b84c0a9287", func := "loop.example/g00087/laws.FnExactRingMove", spec := "fnExactRingMove", unfollowed := true, recurses := true, apart := false, narrowed := true }
def FnExactRingMoveUptoSaid : Prop := fnExactRingMoveUptoRow.holds Try.pinned (OpenSpec.upto fnExactRingMoveSpec)

/-- 'laws.FnExactNewSpace', WHERE WHAT IT READS IS OF BULK AT MOST 1048576: true; the input reads as it did. -/
def fnExactNewSpaceUptoRow : OpenClaim := { program := "ytkoloapgeilbdaa", sum := "6358bfd034c15080fb81a70f888f754195fbb9f1035edcb5c50091b84c0a9287", func := "loop.example/g00087/laws.FnExactNewSpace", spec := "fnExactNewSpace", apart := false, narrowed := true }
def FnExactNewSpaceUptoSaid : Prop := fnExactNewSpaceUptoRow.holds Try.pinned (OpenSpec.upto fnExactNewSpaceSpec)

/-- 'laws.FnRings', WHERE WHAT IT READS IS OF BULK AT MOST 1048576: true; the input reads as it did. -/
def fnRingsUptoRow : OpenClaim := { program := "ytkoloapgeilbdaa", sum := "6358bfd034c15080fb81a70f888f754195fbb9f1035edcb5c50091b84c0a9287", func := "loop.example/g00087/laws.FnRings", spec := "fnRings", unfollowed := true, recurses := true, apart := false, narrowed := true }
def FnRingsUptoSaid : Prop := fnRingsUptoRow.holds Try.pinned (OpenSpec.upto fnRingsSpec)

/-- 'laws.FnExactSetDrop', WHERE WHAT IT READS IS OF BULK AT MOST 1048576: true; the input reads as it did. -/
def fnExactSetDropUptoRow : OpenClaim := { program := "ytkoloapgeilbdaa", sum := "6358bfd034c15080fb81a70f888f754195fbb9f1035edcb5c50091b84c0a9287", func := "loop.example/g00087/laws.FnExactSetDrop", spec := "fnExactSetDrop", unfollowed := true, recurses := true, apart := false, narrowed := true }
def FnExactSetDropUptoSaid : Prop := fnExactSetDropUptoRow.holds Try.pinned (OpenSpec.upto fnExactSetDropSpec)

/-- 'laws.FnExactTreeDrop', WHERE WHAT IT READS IS OF BULK AT MOST 1048576: true; the input reads as it did. -/
def fnExactTreeDropUptoRow : OpenClaim := { program := "ytkoloapgeilbdaa", sum := "6358bfd034c15080fb81a70f888f754195fbb9f1035edcb5c50091b84c0a9287", func := "loop.example/g00087/laws.FnExactTreeDrop", spec := "fnExactTreeDrop", recurses := true, apart := false, narrowed := true }
def FnExactTreeDropUptoSaid : Prop := fnExactTreeDropUptoRow.holds Try.pinned (OpenSpec.upto fnExactTreeDropSpec)

/-- 'laws.FnExactSetSame', WHERE WHAT IT READS IS OF BULK AT MOST 1048576: true; the input reads as it did. -/
def fnExactSetSameUptoRow : OpenClaim := { program := "ytkoloapgeilbdaa", sum := "6358bfd034c15080fb81a70f888f754195fbb9f1035edcb5c50091b84c0a9287", func := "loop.example/g00087/laws.FnExactSetSame", spec := "fnExactSetSame", recurses := true, apart := false, narrowed := true }
def FnExactSetSameUptoSaid : Prop := fnExactSetSameUptoRow.holds Try.pinned (OpenSpec.upto fnExactSetSameSpec)

/-- 'laws.FnExactSetList', WHERE WHAT IT READS IS OF BULK AT MOST 1048576: true; the input reads as it did. -/
def fnExactSetListUptoRow : OpenClaim := { program := "ytkoloapgeilbdaa", sum := "6358bfd034c15080fb81a70f888f754195fbb9f1035edcb5c50091b84c0a9287", func := "loop.example/g00087/laws.FnExactSetList", spec := "fnExactSetList", recurses := true, apart := false, narrowed := true }
def FnExactSetListUptoSaid : Prop := fnExactSetListUptoRow.holds Try.pinned (OpenSpec.upto fnExactSetListSpec)

/-- 'laws.FnExactSetAdd', WHERE WHAT IT READS IS OF BULK AT MOST 1048576: true; the input reads as it did. -/
def fnExactSetAddUptoRow : OpenClaim := { program := "ytkoloapgeilbdaa", sum := "6358bfd034c15080fb81a70f888f754195fbb9f1035edcb5c50091b84c0a9287", func := "loop.example/g00087/laws.FnExactSetAdd", spec := "fnExactSetAdd", recurses := true, apart := false, narrowed := true }
def FnExactSetAddUptoSaid : Prop := fnExactSetAddUptoRow.holds Try.pinned (OpenSpec.upto fnExactSetAddSpec)

/-- 'laws.FnExactSetJoin', WHERE WHAT IT READS IS OF BULK AT MOST 1048576: true; the input reads as it did. -/
def fnExactSetJoinUptoRow : OpenClaim := { program := "ytkoloapgeilbdaa", sum := "6358bfd034c15080fb81a70f888f754195fbb9f1035edcb5c50091b84c0a9287", func := "loop.example/g00087/laws.FnExactSetJoin", spec := "fnExactSetJoin", recurses := true, apart := false, narrowed := true }
def FnExactSetJoinUptoSaid : Prop := fnExactSetJoinUptoRow.holds Try.pinned (OpenSpec.upto fnExactSetJoinSpec)

end Rows
end Go.Proofs.Ytkoloapgeilbdaa
