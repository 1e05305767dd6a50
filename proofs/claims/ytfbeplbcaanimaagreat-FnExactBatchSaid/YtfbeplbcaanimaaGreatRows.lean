/-
  No cell of these rows narrows 'for every input' (looked for: loops, veiled, ifaces, maps, wideKeys, modest, calm, conditions, laid).
  DERIVED. THE GIVEN ROWS OF THIS SEAT. 3 by the template 'for every input the law returns true; each argument reads behind the call as it read before'; 0 by the template 'total and deterministic' (their statements: YtfbeplbcaanimaaGreatTotals.lean).
  GIVEN WITH THE SEED: the statements are not yours to turn. If you find one false, say at which input.
  Laid BY PROGRAM, IN A SANDBOX (cutbox-rows.mjs): the forced cells as the released guide's own fill.sh prints them over the translation 45811e199cc9b9d3… (all of the seat's roots in one cut). By AI agents, Wed Nov 11 2026. No macro, syntax, notation, axiom, sorry.
-/
import Derived.Test.YtfbeplbcaanimaaGreatChecked
import GoSem.Claim
import GoSem.ClaimJoined
import GoSem.ClaimMapViews
import Derived.JoinedTies
import Derived.KernelRfl
namespace Go.Proofs.YtfbeplbcaanimaaGreat
/- THE CELL 'sum', in the pinned program and in every row, IS THE sha256 OF THE DUMP (.gsa) THAT YtfbeplbcaanimaaGreatProg.lean LOADS. Nothing in Lean hashes anything: it is a label: what it is worth is what the hold of that sum in a sandbox is worth. -/
noncomputable def Tryz.pinned : Pinned := { name := "ytfbeplbcaanimaagreat", sum := "45811e199cc9b9d321c910743a9c7b7a67ca20489966e29747969f3c7c1801c6", checked := Tryz.checked }
namespace Rows
def none {H : Type} : Left H := { results := [], args := [] }

/-- 'laws.FnExactDoDeed': WHATEVER THE INPUT: true; the input reads as it did. -/
def fnExactDoDeedSpec : ChangeSpec := { name := "fnExactDoDeed", fn := fun _ => fun
  | [d1, d2] => { results := [.lit (.bool true)], args := [d1, d2] }
  | _ => none }
def fnExactDoDeedRow : OpenClaim := { program := "ytfbeplbcaanimaagreat", sum := "45811e199cc9b9d321c910743a9c7b7a67ca20489966e29747969f3c7c1801c6", func := "loop.example/g00087/laws.FnExactDoDeed", spec := "fnExactDoDeed", unfollowed := true, recurses := true, apart := false }
def FnExactDoDeedSaid : Prop := fnExactDoDeedRow.holds Tryz.pinned (OpenSpec.ofChange fnExactDoDeedSpec)

/-- ITS FALSE NEIGHBOUR: 'it returns false'. Refute it at one input. -/
def fnExactDoDeedWrong : ChangeSpec := { name := "fnExactDoDeed", fn := fun _ => fun
  | [d1, d2] => { results := [.lit (.bool false)], args := [d1, d2] }
  | _ => none }
def FnExactDoDeedWrongFalsely : Prop := fnExactDoDeedRow.holds Tryz.pinned (OpenSpec.ofChange fnExactDoDeedWrong)

/-- 'laws.FnExactBatch': WHATEVER THE INPUT: true; the input reads as it did. -/
def fnExactBatchSpec : ChangeSpec := { name := "fnExactBatch", fn := fun _ => fun
  | [d1, d2] => { results := [.lit (.bool true)], args := [d1, d2] }
  | _ => none }
def fnExactBatchRow : OpenClaim := { program := "ytfbeplbcaanimaagreat", sum := "45811e199cc9b9d321c910743a9c7b7a67ca20489966e29747969f3c7c1801c6", func := "loop.example/g00087/laws.FnExactBatch", spec := "fnExactBatch", unfollowed := true, recurses := true, apart := false }
def FnExactBatchSaid : Prop := fnExactBatchRow.holds Tryz.pinned (OpenSpec.ofChange fnExactBatchSpec)

/-- ITS FALSE NEIGHBOUR: 'it returns false'. Refute it at one input. -/
def fnExactBatchWrong : ChangeSpec := { name := "fnExactBatch", fn := fun _ => fun
  | [d1, d2] => { results := [.lit (.bool false)], args := [d1, d2] }
  | _ => none }
def FnExactBatchWrongFalsely : Prop := fnExactBatchRow.holds Tryz.pinned (OpenSpec.ofChange fnExactBatchWrong)

/-- 'laws.FnExactBatches': WHATEVER THE INPUT: true; the input reads as it did. -/
def fnExactBatchesSpec : ChangeSpec := { name := "fnExactBatches", fn := fun _ => fun
  | [d1, d2] => { results := [.lit (.bool true)], args := [d1, d2] }
  | _ => none }
def fnExactBatchesRow : OpenClaim := { program := "ytfbeplbcaanimaagreat", sum := "45811e199cc9b9d321c910743a9c7b7a67ca20489966e29747969f3c7c1801c6", func := "loop.example/g00087/laws.FnExactBatches", spec := "fnExactBatches", unfollowed := true, recurses := true, apart := false }
def FnExactBatchesSaid : Prop := fnExactBatchesRow.holds Tryz.pinned (OpenSpec.ofChange fnExactBatchesSpec)

/-- ITS FALSE NEIGHBOUR: 'it returns false'. Refute it at one input. -/
def fnExactBatchesWrong : ChangeSpec := { name := "fnExactBatches", fn := fun _ => fun
  | [d1, d2] => { results := [.lit (.bool false)], args := [d1, d2] }
  | _ => none }
def FnExactBatchesWrongFalsely : Prop := fnExactBatchesRow.holds Tryz.pinned (OpenSpec.ofChange fnExactBatchesWrong)

/- THE SECOND FORM. 'bulk': how many values and letters a reading holds, each counted each time it is reached (what is shared counts as often as it is met; a slice's spare places count too). A statement '..UptoSaid' is the law's where the arguments, and the package variables that the reading takes, are together of bulk at most 1048576: NARROWER than '..Said'. Prove '..Said' where nothing that the law and all that it calls make is longer than what came in: it says more and counts as full. Else prove '..UptoSaid'. A law counts once. -/
mutual
def uptoBulk {H : Type} : DataW H → Nat
  | .lit (.string bytes) => bytes.length + 1
  | .lit _ => 1
  | .nil => 1
  | .ptr d => uptoBulk d + 1
  | .slice elems spare => uptoBulkAll elems + uptoBulkAll spare + 1
  | .agg parts => uptoBulkAll parts + 1
  | .iface _ d => uptoBulk d + 1
  | .map entries => uptoBulkEntries entries + 1
  | .held _ => 1
def uptoBulkAll {H : Type} : List (DataW H) → Nat
  | [] => 0
  | d :: r => uptoBulk d + uptoBulkAll r
def uptoBulkEntries {H : Type} : List (Lit × DataW H) → Nat
  | [] => 0
  | x :: r => uptoBulkEntry x + uptoBulkEntries r
def uptoBulkEntry {H : Type} : Lit × DataW H → Nat
  | (.string bytes, d) => bytes.length + uptoBulk d + 1
  | (_, d) => uptoBulk d + 1
 end
def uptoSmall : (H : Type) → List (DataW H) → Bool := fun _ ds => decide (uptoBulkAll ds ≤ 1048576)
def OpenSpec.upto (s : _root_.Go.ChangeSpec) : _root_.Go.OpenSpec := { _root_.Go.OpenSpec.ofChange s with cond := some uptoSmall }

/-- 'laws.FnExactDoDeed', WHERE WHAT IT READS IS OF BULK AT MOST 1048576: true; the input reads as it did. -/
def fnExactDoDeedUptoRow : OpenClaim := { program := "ytfbeplbcaanimaagreat", sum := "45811e199cc9b9d321c910743a9c7b7a67ca20489966e29747969f3c7c1801c6", func := "loop.example/g00087/laws.FnExactDoDeed", spec := "fnExactDoDeed", unfollowed := true, recurses := true, apart := false, narrowed := true }
def FnExactDoDeedUptoSaid : Prop := fnExactDoDeedUptoRow.holds Tryz.pinned (OpenSpec.upto fnExactDoDeedSpec)

/-- 'laws.FnExactBatch', WHERE WHAT IT READS IS OF BULK AT MOST 1048576: true; the input reads as it did. -/
def fnExactBatchUptoRow : OpenClaim := { program := "ytfbeplbcaanimaagreat", sum := "45811e199cc9b9d321c910743a9c7b7a67ca20489966e29747969f3c7c1801c6", func := "loop.example/g00087/laws.FnExactBatch", spec := "fnExactBatch", unfollowed := true, recurses := true, apart := false, narrowed := true }
def FnExactBatchUptoSaid : Prop := fnExactBatchUptoRow.holds Tryz.pinned (OpenSpec.upto fnExactBatchSpec)

/-- 'laws.FnExactBatches', WHERE WHAT IT READS IS OF BULK AT MOST 1048576: true; the input reads as it did. -/
def fnExactBatchesUptoRow : OpenClaim := { program := "ytfbeplbcaanimaagreat", sum := "45811e199cc9b9d321c910743a9c7b7a67ca20489966e29747969f3c7c1801c6", func := "loop.example/g00087/laws.FnExactBatches", spec := "fnExactBatches", unfollowed := true, recurses := true, apart := false, narrowed := true }
def FnExactBatchesUptoSaid : Prop := fnExactBatchesUptoRow.holds Tryz.pinned (OpenSpec.upto fnExactBatchesSpec)

end Rows
end Go.Proofs.YtfbeplbcaanimaaGreat
