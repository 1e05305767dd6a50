/-
 Chains: their pairs.
-/
import Derived.Test.YtfbeplbcaanimaaGreatCA
import Derived.Test.YtfbeplbcaanimaaGreatBA
set_option linter.unusedVariables false
set_option linter.unusedSimpArgs false
set_option maxHeartbeats 4000000
namespace Go.Proofs.YtfbeplbcaanimaaGreat
variable {X : FuncId → List V → List Blk → Option Ret} {L : Nat}
def keysL (l : List Nd) : List Int := l.map (·.a)
def valsL (l : List Nd) : List Int := l.map (·.b)
section
variable (k : Nat) (m : List Blk) (f : Nat → Nd) (a : Int)
abbrev hP (l : List Nd) (p : Int) : St := ⟨[(1, .c (.ptr m.length 0 65)), (4, .c (.sl (m.length + 1) 0 l.length l.length)), (5, .c (.sl (m.length + 2) 0 l.length l.length)), (6, vi p)], m ++ [⟨chn f a, 44, 0, true⟩, blkI (keysL l), blkI (valsL l)], 0, 0⟩
end
end Go.Proofs.YtfbeplbcaanimaaGreat
set_option linter.unusedVariables false
set_option linter.unusedSimpArgs false
set_option maxHeartbeats 4000000
namespace Go.Proofs.YtfbeplbcaanimaaGreat
variable {X : FuncId → List V → List Blk → Option Ret} {L : Nat}
end Go.Proofs.YtfbeplbcaanimaaGreat
set_option linter.unusedVariables false
set_option linter.unusedSimpArgs false
set_option maxHeartbeats 4000000
namespace Go.Proofs.YtfbeplbcaanimaaGreat
variable {X : FuncId → List V → List Blk → Option Ret} {L : Nat}
section
variable (k : Nat) (m : List Blk) (f : Nat → Nd) (a lo hi : Int)
abbrev hR (ks vs out : List Int) (i : Nat) : St := ⟨[(1, vi lo), (2, vi hi), (10, .c (.sl (m.length + 3) 0 out.length out.length)), (22, .c (.sl (m.length + 1) 0 ks.length ks.length)), (23, vi ks.length), (24, vi i)], m ++ [⟨chn f a, 44, 0, true⟩, blkI ks, blkI vs, blkI out], 0, 0⟩
end
end Go.Proofs.YtfbeplbcaanimaaGreat
set_option linter.unusedVariables false
set_option linter.unusedSimpArgs false
set_option maxHeartbeats 4000000
namespace Go.Proofs.YtfbeplbcaanimaaGreat
variable {X : FuncId → List V → List Blk → Option Ret} {L : Nat}
end Go.Proofs.YtfbeplbcaanimaaGreat
