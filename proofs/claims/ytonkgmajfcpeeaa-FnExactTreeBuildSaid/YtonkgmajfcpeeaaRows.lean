/-
  No cell of these rows narrows 'for every input' (looked for: loops, veiled, ifaces, maps, wideKeys, modest, calm, conditions, laid).
  DERIVED. THE GIVEN ROWS OF THIS SEAT. 12 by the template 'for every input the law returns true; each argument reads behind the call as it read before'; 0 by the template 'total and deterministic' (their statements: YtonkgmajfcpeeaaTotals.lean).
  GIVEN WITH THE SEED: the statements are not yours to turn. If you find one false, say at which input.
  Laid BY PROGRAM, IN A SANDBOX (cutbox-rows.mjs): the forced cells as the released guide's own fill.sh prints them over the translation f5ffa13570b162c4… (all of the seat's roots in one cut). By AI agents, Wed Nov 11 2026. No macro, syntax, notation, axiom, sorry.
-/
import Derived.Test.YtonkgmajfcpeeaaChecked
import GoSem.Claim
import GoSem.ClaimJoined
import GoSem.ClaimMapViews
import Derived.JoinedTies
import Derived.KernelRfl
namespace Go.Proofs.Ytonkgmajfcpeeaa
/- THE CELL 'sum', in the pinned program and in every row, IS THE sha256 OF THE DUMP (.gsa) THAT YtonkgmajfcpeeaaProg.lean LOADS. Nothing in Lean hashes anything: it is a label: what it is worth is what the hold of that sum in a sandbox is worth. -/
noncomputable def Try.pinned : Pinned := { name := "ytonkgmajfcpeeaa", sum := "f5ffa13570b162c426454792c8737d5d9159b756c6e1896911a31c03ff30a2f6", checked := Try.checked }
namespace Rows
def none {H : Type} : Left H := { results := [], args := [] }

/-- 'laws.FnExactChainOk': WHATEVER THE INPUT: true; the input reads as it did. -/
def fnExactChainOkSpec : ChangeSpec := { name := "fnExactChainOk", fn := fun _ => fun
  | [d] => { results := [.lit (.bool true)], args := [d] }
  | _ => none }
def fnExactChainOkRow : OpenClaim := { program := "ytonkgmajfcpeeaa", sum := "f5ffa13570b162c426454792c8737d5d9159b756c6e1896911a31c03ff30a2f6", func := "loop.example/g00087/laws.FnExactChainOk", spec := "fnExactChainOk", apart := false }
def FnExactChainOkSaid : Prop := fnExactChainOkRow.holds Try.pinned (OpenSpec.ofChange fnExactChainOkSpec)

/-- ITS FALSE NEIGHBOUR: 'it returns false'. Refute it at one input. -/
def fnExactChainOkWrong : ChangeSpec := { name := "fnExactChainOk", fn := fun _ => fun
  | [d] => { results := [.lit (.bool false)], args := [d] }
  | _ => none }
def FnExactChainOkWrongFalsely : Prop := fnExactChainOkRow.holds Try.pinned (OpenSpec.ofChange fnExactChainOkWrong)

/-- 'laws.FnExactTreeOk': WHATEVER THE INPUT: true; the input reads as it did. -/
def fnExactTreeOkSpec : ChangeSpec := { name := "fnExactTreeOk", fn := fun _ => fun
  | [d] => { results := [.lit (.bool true)], args := [d] }
  | _ => none }
def fnExactTreeOkRow : OpenClaim := { program := "ytonkgmajfcpeeaa", sum := "f5ffa13570b162c426454792c8737d5d9159b756c6e1896911a31c03ff30a2f6", func := "loop.example/g00087/laws.FnExactTreeOk", spec := "fnExactTreeOk", recurses := true, apart := false }
def FnExactTreeOkSaid : Prop := fnExactTreeOkRow.holds Try.pinned (OpenSpec.ofChange fnExactTreeOkSpec)

/-- ITS FALSE NEIGHBOUR: 'it returns false'. Refute it at one input. -/
def fnExactTreeOkWrong : ChangeSpec := { name := "fnExactTreeOk", fn := fun _ => fun
  | [d] => { results := [.lit (.bool false)], args := [d] }
  | _ => none }
def FnExactTreeOkWrongFalsely : Prop := fnExactTreeOkRow.holds Try.pinned (OpenSpec.ofChange fnExactTreeOkWrong)

/-- 'laws.FnExactTreeBuild': WHATEVER THE INPUT: true; the input reads as it did. -/
def fnExactTreeBuildSpec : ChangeSpec := { name := "fnExactTreeBuild", fn := fun _ => fun
  | [d] => { results := [.lit (.bool true)], args := [d] }
  | _ => none }
def fnExactTreeBuildRow : OpenClaim := { program := "ytonkgmajfcpeeaa", sum := "f5ffa13570b162c426454792c8737d5d9159b756c6e1896911a31c03ff30a2f6", func := "loop.example/g00087/laws.FnExactTreeBuild", spec := "fnExactTreeBuild", recurses := true, apart := false }
def FnExactTreeBuildSaid : Prop := fnExactTreeBuildRow.holds Try.pinned (OpenSpec.ofChange fnExactTreeBuildSpec)

/-- ITS FALSE NEIGHBOUR: 'it returns false'. Refute it at one input. -/
def fnExactTreeBuildWrong : ChangeSpec := { name := "fnExactTreeBuild", fn := fun _ => fun
  | [d] => { results := [.lit (.bool false)], args := [d] }
  | _ => none }
def FnExactTreeBuildWrongFalsely : Prop := fnExactTreeBuildRow.holds Try.pinned (OpenSpec.ofChange fnExactTreeBuildWrong)

/-- 'laws.FnExactTreeHigh': WHATEVER THE INPUT: true; the input reads as it did. -/
def fnExactTreeHighSpec : ChangeSpec := { name := "fnExactTreeHigh", fn := fun _ => fun
  | [d] => { results := [.lit (.bool true)], args := [d] }
  | _ => none }
def fnExactTreeHighRow : OpenClaim := { program := "ytonkgmajfcpeeaa", sum := "f5ffa13570b162c426454792c8737d5d9159b756c6e1896911a31c03ff30a2f6", func := "loop.example/g00087/laws.FnExactTreeHigh", spec := "fnExactTreeHigh", recurses := true, apart := false }
def FnExactTreeHighSaid : Prop := fnExactTreeHighRow.holds Try.pinned (OpenSpec.ofChange fnExactTreeHighSpec)

/-- ITS FALSE NEIGHBOUR: 'it returns false'. Refute it at one input. -/
def fnExactTreeHighWrong : ChangeSpec := { name := "fnExactTreeHigh", fn := fun _ => fun
  | [d] => { results := [.lit (.bool false)], args := [d] }
  | _ => none }
def FnExactTreeHighWrongFalsely : Prop := fnExactTreeHighRow.holds Try.pinned (OpenSpec.ofChange fnExactTreeHighWrong)

/-- 'laws.FnExactMapPairs': WHATEVER THE INPUT: true; the input reads as it did. -/
def fnExactMapPairsSpec : ChangeSpec := { name := "fnExactMapPairs", fn := fun _ => fun
  | [d] => { results := [.lit (.bool true)], args := [d] }
  | _ => none }
def fnExactMapPairsRow : OpenClaim := { program := "ytonkgmajfcpeeaa", sum := "f5ffa13570b162c426454792c8737d5d9159b756c6e1896911a31c03ff30a2f6", func := "loop.example/g00087/laws.FnExactMapPairs", spec := "fnExactMapPairs", apart := false }
def FnExactMapPairsSaid : Prop := fnExactMapPairsRow.holds Try.pinned (OpenSpec.ofChange fnExactMapPairsSpec)

/-- ITS FALSE NEIGHBOUR: 'it returns false'. Refute it at one input. -/
def fnExactMapPairsWrong : ChangeSpec := { name := "fnExactMapPairs", fn := fun _ => fun
  | [d] => { results := [.lit (.bool false)], args := [d] }
  | _ => none }
def FnExactMapPairsWrongFalsely : Prop := fnExactMapPairsRow.holds Try.pinned (OpenSpec.ofChange fnExactMapPairsWrong)

/-- 'laws.FnExactMapGet': WHATEVER THE INPUT: true; the input reads as it did. -/
def fnExactMapGetSpec : ChangeSpec := { name := "fnExactMapGet", fn := fun _ => fun
  | [d1, d2] => { results := [.lit (.bool true)], args := [d1, d2] }
  | _ => none }
def fnExactMapGetRow : OpenClaim := { program := "ytonkgmajfcpeeaa", sum := "f5ffa13570b162c426454792c8737d5d9159b756c6e1896911a31c03ff30a2f6", func := "loop.example/g00087/laws.FnExactMapGet", spec := "fnExactMapGet", apart := false }
def FnExactMapGetSaid : Prop := fnExactMapGetRow.holds Try.pinned (OpenSpec.ofChange fnExactMapGetSpec)

/-- ITS FALSE NEIGHBOUR: 'it returns false'. Refute it at one input. -/
def fnExactMapGetWrong : ChangeSpec := { name := "fnExactMapGet", fn := fun _ => fun
  | [d1, d2] => { results := [.lit (.bool false)], args := [d1, d2] }
  | _ => none }
def FnExactMapGetWrongFalsely : Prop := fnExactMapGetRow.holds Try.pinned (OpenSpec.ofChange fnExactMapGetWrong)

/-- 'laws.FnExactTreeKeys': WHATEVER THE INPUT: true; the input reads as it did. -/
def fnExactTreeKeysSpec : ChangeSpec := { name := "fnExactTreeKeys", fn := fun _ => fun
  | [d] => { results := [.lit (.bool true)], args := [d] }
  | _ => none }
def fnExactTreeKeysRow : OpenClaim := { program := "ytonkgmajfcpeeaa", sum := "f5ffa13570b162c426454792c8737d5d9159b756c6e1896911a31c03ff30a2f6", func := "loop.example/g00087/laws.FnExactTreeKeys", spec := "fnExactTreeKeys", recurses := true, apart := false }
def FnExactTreeKeysSaid : Prop := fnExactTreeKeysRow.holds Try.pinned (OpenSpec.ofChange fnExactTreeKeysSpec)

/-- ITS FALSE NEIGHBOUR: 'it returns false'. Refute it at one input. -/
def fnExactTreeKeysWrong : ChangeSpec := { name := "fnExactTreeKeys", fn := fun _ => fun
  | [d] => { results := [.lit (.bool false)], args := [d] }
  | _ => none }
def FnExactTreeKeysWrongFalsely : Prop := fnExactTreeKeysRow.holds Try.pinned (OpenSpec.ofChange fnExactTreeKeysWrong)

/-- 'laws.FnExactMapRange': WHATEVER THE INPUT: true; the input reads as it did. -/
def fnExactMapRangeSpec : ChangeSpec := { name := "fnExactMapRange", fn := fun _ => fun
  | [d1, d2, d3] => { results := [.lit (.bool true)], args := [d1, d2, d3] }
  | _ => none }
def fnExactMapRangeRow : OpenClaim := { program := "ytonkgmajfcpeeaa", sum := "f5ffa13570b162c426454792c8737d5d9159b756c6e1896911a31c03ff30a2f6", func := "loop.example/g00087/laws.FnExactMapRange", spec := "fnExactMapRange", apart := false }
def FnExactMapRangeSaid : Prop := fnExactMapRangeRow.holds Try.pinned (OpenSpec.ofChange fnExactMapRangeSpec)

/-- ITS FALSE NEIGHBOUR: 'it returns false'. Refute it at one input. -/
def fnExactMapRangeWrong : ChangeSpec := { name := "fnExactMapRange", fn := fun _ => fun
  | [d1, d2, d3] => { results := [.lit (.bool false)], args := [d1, d2, d3] }
  | _ => none }
def FnExactMapRangeWrongFalsely : Prop := fnExactMapRangeRow.holds Try.pinned (OpenSpec.ofChange fnExactMapRangeWrong)

/-- 'laws.FnExactTreeFind': WHATEVER THE INPUT: true; the input reads as it did. -/
def fnExactTreeFindSpec : ChangeSpec := { name := "fnExactTreeFind", fn := fun _ => fun
  | [d1, d2] => { results := [.lit (.bool true)], args := [d1, d2] }
  | _ => none }
def fnExactTreeFindRow : OpenClaim := { program := "ytonkgmajfcpeeaa", sum := "f5ffa13570b162c426454792c8737d5d9159b756c6e1896911a31c03ff30a2f6", func := "loop.example/g00087/laws.FnExactTreeFind", spec := "fnExactTreeFind", recurses := true, apart := false }
def FnExactTreeFindSaid : Prop := fnExactTreeFindRow.holds Try.pinned (OpenSpec.ofChange fnExactTreeFindSpec)

/-- ITS FALSE NEIGHBOUR: 'it returns false'. Refute it at one input. -/
def fnExactTreeFindWrong : ChangeSpec := { name := "fnExactTreeFind", fn := fun _ => fun
  | [d1, d2] => { results := [.lit (.bool false)], args := [d1, d2] }
  | _ => none }
def FnExactTreeFindWrongFalsely : Prop := fnExactTreeFindRow.holds Try.pinned (OpenSpec.ofChange fnExactTreeFindWrong)

/-- 'laws.FnExactMapDrop': WHATEVER THE INPUT: true; the input reads as it did. -/
def fnExactMapDropSpec : ChangeSpec := { name := "fnExactMapDrop", fn := fun _ => fun
  | [d1, d2] => { results := [.lit (.bool true)], args := [d1, d2] }
  | _ => none }
def fnExactMapDropRow : OpenClaim := { program := "ytonkgmajfcpeeaa", sum := "f5ffa13570b162c426454792c8737d5d9159b756c6e1896911a31c03ff30a2f6", func := "loop.example/g00087/laws.FnExactMapDrop", spec := "fnExactMapDrop", apart := false }
def FnExactMapDropSaid : Prop := fnExactMapDropRow.holds Try.pinned (OpenSpec.ofChange fnExactMapDropSpec)

/-- ITS FALSE NEIGHBOUR: 'it returns false'. Refute it at one input. -/
def fnExactMapDropWrong : ChangeSpec := { name := "fnExactMapDrop", fn := fun _ => fun
  | [d1, d2] => { results := [.lit (.bool false)], args := [d1, d2] }
  | _ => none }
def FnExactMapDropWrongFalsely : Prop := fnExactMapDropRow.holds Try.pinned (OpenSpec.ofChange fnExactMapDropWrong)

/-- 'laws.FnExactMapPut': WHATEVER THE INPUT: true; the input reads as it did. -/
def fnExactMapPutSpec : ChangeSpec := { name := "fnExactMapPut", fn := fun _ => fun
  | [d1, d2, d3] => { results := [.lit (.bool true)], args := [d1, d2, d3] }
  | _ => none }
def fnExactMapPutRow : OpenClaim := { program := "ytonkgmajfcpeeaa", sum := "f5ffa13570b162c426454792c8737d5d9159b756c6e1896911a31c03ff30a2f6", func := "loop.example/g00087/laws.FnExactMapPut", spec := "fnExactMapPut", apart := false }
def FnExactMapPutSaid : Prop := fnExactMapPutRow.holds Try.pinned (OpenSpec.ofChange fnExactMapPutSpec)

/-- ITS FALSE NEIGHBOUR: 'it returns false'. Refute it at one input. -/
def fnExactMapPutWrong : ChangeSpec := { name := "fnExactMapPut", fn := fun _ => fun
  | [d1, d2, d3] => { results := [.lit (.bool false)], args := [d1, d2, d3] }
  | _ => none }
def FnExactMapPutWrongFalsely : Prop := fnExactMapPutRow.holds Try.pinned (OpenSpec.ofChange fnExactMapPutWrong)

/-- 'laws.FnExactTreeAdd': WHATEVER THE INPUT: true; the input reads as it did. -/
def fnExactTreeAddSpec : ChangeSpec := { name := "fnExactTreeAdd", fn := fun _ => fun
  | [d1, d2] => { results := [.lit (.bool true)], args := [d1, d2] }
  | _ => none }
def fnExactTreeAddRow : OpenClaim := { program := "ytonkgmajfcpeeaa", sum := "f5ffa13570b162c426454792c8737d5d9159b756c6e1896911a31c03ff30a2f6", func := "loop.example/g00087/laws.FnExactTreeAdd", spec := "fnExactTreeAdd", recurses := true, apart := false }
def FnExactTreeAddSaid : Prop := fnExactTreeAddRow.holds Try.pinned (OpenSpec.ofChange fnExactTreeAddSpec)

/-- ITS FALSE NEIGHBOUR: 'it returns false'. Refute it at one input. -/
def fnExactTreeAddWrong : ChangeSpec := { name := "fnExactTreeAdd", fn := fun _ => fun
  | [d1, d2] => { results := [.lit (.bool false)], args := [d1, d2] }
  | _ => none }
def FnExactTreeAddWrongFalsely : Prop := fnExactTreeAddRow.holds Try.pinned (OpenSpec.ofChange fnExactTreeAddWrong)

/- THE SECOND FORM. 'bulk': how many values and letters a reading holds, each counted each time it is reached (what is shared counts as often as it is met; a slice's spare places count too). A statement '..UptoSaid' is the law's where the arguments, and the package variables that the reading takes, are together of bulk at most 1048576: NARROWER than '..Said'. Prove '..Said' where nothing that the law and all that it calls make is longer than what came in: it says more and counts as full. Else prove '..UptoSaid'. A law counts once. -/
mutual
def uptoBulk {H : Type} : DataW H → Nat
  | .lit (.string bytes) => bytes.length + 1
  | .lit _ => 1
  | .nil => 1
  | .ptr d => uptoBulk d + 1
  | .slice elems spare => uptoBulkAll elems + uptoBulkAll spare + 1
  | .agg parts => uptoBulkAll parts + 1
  | .iface _ d => uptoBulk d + 1
  | .map entries => uptoBulkEntries entries + 1
  | .held _ => 1
def uptoBulkAll {H : Type} : List (DataW H) → Nat
  | [] => 0
  | d :: r => uptoBulk d + uptoBulkAll r
def uptoBulkEntries {H : Type} : List (Lit × DataW H) → Nat
  | [] => 0
  | x :: r => uptoBulkEntry x + uptoBulkEntries r
def uptoBulkEntry {H : Type} : Lit × DataW H → Nat
  | (.string bytes, d) => bytes.length + uptoBulk d + 1
  | (_, d) => uptoBulk d + 1
 end
def uptoSmall : (H : Type) → List (DataW H) → Bool := fun _ ds => decide (uptoBulkAll ds ≤ 1048576)
def OpenSpec.upto (s : _root_.Go.ChangeSpec) : _root_.Go.OpenSpec := { _root_.Go.OpenSpec.ofChange s with cond := some uptoSmall }

/-- 'laws.FnExactChainOk', WHERE WHAT IT READS IS OF BULK AT MOST 1048576: true; the input reads as it did. -/
def fnExactChainOkUptoRow : OpenClaim := { program := "ytonkgmajfcpeeaa", sum := "f5ffa13570b162c426454792c8737d5d9159b756c6e1896911a31c03ff30a2f6", func := "loop.example/g00087/laws.FnExactChainOk", spec := "fnExactChainOk", apart := false, narrowed := true }
def FnExactChainOkUptoSaid : Prop := fnExactChainOkUptoRow.holds Try.pinned (OpenSpec.upto fnExactChainOkSpec)

/-- 'laws.FnExactTreeOk', WHERE WHAT IT READS IS OF BULK AT MOST 1048576: true; the input reads as it did. -/
def fnExactTreeOkUptoRow : OpenClaim := { program := "ytonkgmajfcpeeaa", sum := "f5ffa13570b162c426454792c8737d5d9159b756c6e1896911a31c03ff30a2f6", func := "loop.example/g00087/laws.FnExactTreeOk", spec := "fnExactTreeOk", recurses := true, apart := false, narrowed := true }
def FnExactTreeOkUptoSaid : Prop := fnExactTreeOkUptoRow.holds Try.pinned (OpenSpec.upto fnExactTreeOkSpec)

/-- 'laws.FnExactTreeBuild', WHERE WHAT IT READS IS OF BULK AT MOST 1048576: true; the input reads as it did. -/
def fnExactTreeBuildUptoRow : OpenClaim := { program := "ytonkgmajfcpeeaa", sum := "f5ffa13570b162c426454792c8737d5d9159b756c6e1896911a31c03ff30a2f6", func := "loop.example/g00087/laws.FnExactTreeBuild", spec := "fnExactTreeBuild", recurses := true, apart := false, narrowed := true }
def FnExactTreeBuildUptoSaid : Prop := fnExactTreeBuildUptoRow.holds Try.pinned (OpenSpec.upto fnExactTreeBuildSpec)

/-- 'laws.FnExactTreeHigh', WHERE WHAT IT READS IS OF BULK AT MOST 1048576: true; the input reads as it did. -/
def fnExactTreeHighUptoRow : OpenClaim := { program := "ytonkgmajfcpeeaa", sum := "f5ffa13570b162c426454792c8737d5d9159b756c6e1896911a31c03ff30a2f6", func := "loop.example/g00087/laws.FnExactTreeHigh", spec := "fnExactTreeHigh", recurses := true, apart := false, narrowed := true }
def FnExactTreeHighUptoSaid : Prop := fnExactTreeHighUptoRow.holds Try.pinned (OpenSpec.upto fnExactTreeHighSpec)

/-- 'laws.FnExactMapPairs', WHERE WHAT IT READS IS OF BULK AT MOST 1048576: true; the input reads as it did. -/
def fnExactMapPairsUptoRow : OpenClaim := { program := "ytonkgmajfcpeeaa", sum := "f5ffa13570b162c426454792c8737d5d9159b756c6e1896911a31c03ff30a2f6", func := "loop.example/g00087/laws.FnExactMapPairs", spec := "fnExactMapPairs", apart := false, narrowed := true }
def FnExactMapPairsUptoSaid : Prop := fnExactMapPairsUptoRow.holds Try.pinned (OpenSpec.upto fnExactMapPairsSpec)

/-- 'laws.FnExactMapGet', WHERE WHAT IT READS IS OF BULK AT MOST 1048576: true; the input reads as it did. -/
def fnExactMapGetUptoRow : OpenClaim := { program := "ytonkgmajfcpeeaa", sum := "f5ffa13570b162c426454792c8737d5d9159b756c6e1896911a31c03ff30a2f6", func := "loop.example/g00087/laws.FnExactMapGet", spec := "fnExactMapGet", apart := false, narrowed := true }
def FnExactMapGetUptoSaid : Prop := fnExactMapGetUptoRow.holds Try.pinned (OpenSpec.upto fnExactMapGetSpec)

/-- 'laws.FnExactTreeKeys', WHERE WHAT IT READS IS OF BULK AT MOST 1048576: true; the input reads as it did. -/
def fnExactTreeKeysUptoRow : OpenClaim := { program := "ytonkgmajfcpeeaa", sum := "f5ffa13570b162c426454792c8737d5d9159b756c6e1896911a31c03ff30a2f6", func := "loop.example/g00087/laws.FnExactTreeKeys", spec := "fnExactTreeKeys", recurses := true, apart := false, narrowed := true }
def FnExactTreeKeysUptoSaid : Prop := fnExactTreeKeysUptoRow.holds Try.pinned (OpenSpec.upto fnExactTreeKeysSpec)

/-- 'laws.FnExactMapRange', WHERE WHAT IT READS IS OF BULK AT MOST 1048576: true; the input reads as it did. -/
def fnExactMapRangeUptoRow : OpenClaim := { program := "ytonkgmajfcpeeaa", sum := "f5ffa13570b162c426454792c8737d5d9159b756c6e1896911a31c03ff30a2f6", func := "loop.example/g00087/laws.FnExactMapRange", spec := "fnExactMapRange", apart := false, narrowed := true }
def FnExactMapRangeUptoSaid : Prop := fnExactMapRangeUptoRow.holds Try.pinned (OpenSpec.upto fnExactMapRangeSpec)

/-- 'laws.FnExactTreeFind', WHERE WHAT IT READS IS OF BULK AT MOST 1048576: true; the input reads as it did. -/
def fnExactTreeFindUptoRow : OpenClaim := { program := "ytonkgmajfcpeeaa", sum := "f5ffa13570b162c426454792c8737d5d9159b756c6e1896911a31c03ff30a2f6", func := "loop.example/g00087/laws.FnExactTreeFind", spec := "fnExactTreeFind", recurses := true, apart := false, narrowed := true }
def FnExactTreeFindUptoSaid : Prop := fnExactTreeFindUptoRow.holds Try.pinned (OpenSpec.upto fnExactTreeFindSpec)

/-- 'laws.FnExactMapDrop', WHERE WHAT IT READS IS OF BULK AT MOST 1048576: true; the input reads as it did. -/
def fnExactMapDropUptoRow : OpenClaim := { program := "ytonkgmajfcpeeaa", sum := "f5ffa13570b162c426454792c8737d5d9159b756c6e1896911a31c03ff30a2f6", func := "loop.example/g00087/laws.FnExactMapDrop", spec := "fnExactMapDrop", apart := false, narrowed := true }
def FnExactMapDropUptoSaid : Prop := fnExactMapDropUptoRow.holds Try.pinned (OpenSpec.upto fnExactMapDropSpec)

/-- 'laws.FnExactMapPut', WHERE WHAT IT READS IS OF BULK AT MOST 1048576: true; the input reads as it did. -/
def fnExactMapPutUptoRow : OpenClaim := { program := "ytonkgmajfcpeeaa", sum := "f5ffa13570b162c426454792c8737d5d9159b756c6e1896911a31c03ff30a2f6", func := "loop.example/g00087/laws.FnExactMapPut", spec := "fnExactMapPut", apart := false, narrowed := true }
def FnExactMapPutUptoSaid : Prop := fnExactMapPutUptoRow.holds Try.pinned (OpenSpec.upto fnExactMapPutSpec)

/-- 'laws.FnExactTreeAdd', WHERE WHAT IT READS IS OF BULK AT MOST 1048576: true; the input reads as it did. -/
def fnExactTreeAddUptoRow : OpenClaim := { program := "ytonkgmajfcpeeaa", sum := "f5ffa13570b162c426454792c8737d5d9159b756c6e1896911a31c03ff30a2f6", func := "loop.example/g00087/laws.FnExactTreeAdd", spec := "fnExactTreeAdd", recurses := true, apart := false, narrowed := true }
def FnExactTreeAddUptoSaid : Prop := fnExactTreeAddUptoRow.holds Try.pinned (OpenSpec.upto fnExactTreeAddSpec)

end Rows
end Go.Proofs.Ytonkgmajfcpeeaa
