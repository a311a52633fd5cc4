/-
  No cell of these rows narrows 'for every input' (looked for: loops, veiled, ifaces, maps, wideKeys, modest, calm, conditions, laid).
  DERIVED. THE GIVEN ROWS OF THIS SEAT. 11 by the template 'for every input the law returns true; each argument reads behind the call as it read before'; 0 by the template 'total and deterministic' (their statements: YtdjlchbgdehccaaTotals.lean).
  GIVEN WITH THE SEED: the statements are not yours to turn. If you find one false, say at which input.
  Laid BY PROGRAM, IN A SANDBOX (cutbox-rows.mjs): the forced cells as the released guide's own fill.sh prints them over the translation 77438bc1dc7174de… (all of the seat's roots in one cut). By AI agents, Wed Nov 11 2026. No macro, syntax, notation, axiom, sorry.
-/
import Derived.Test.YtdjlchbgdehccaaChecked
import GoSem.Claim
import GoSem.ClaimJoined
import GoSem.ClaimMapViews
import Derived.JoinedTies
import Derived.KernelRfl
namespace Go.Proofs.Ytdjlchbgdehccaa
/- THE CELL 'sum', in the pinned program and in every row, IS THE sha256 OF THE DUMP (.gsa) THAT YtdjlchbgdehccaaProg.lean LOADS. Nothing in Lean hashes anything: it is a label: what it is worth is what the hold of that sum in a sandbox is worth. -/
noncomputable def Try.pinned : Pinned := { name := "ytdjlchbgdehccaa", sum := "77438bc1dc7174de2e3cae15d5451376ba39600d0918a9e930cd29505919fd3e", checked := Try.checked }
namespace Rows
def none {H : Type} : Left H := { results := [], args := [] }

/-- 'shuntlaw6.TreeMany': WHATEVER THE INPUT: true; the input reads as it did. -/
def treeManySpec : ChangeSpec := { name := "treeMany", fn := fun _ => fun
  | [d] => { results := [.lit (.bool true)], args := [d] }
  | _ => none }
def treeManyRow : OpenClaim := { program := "ytdjlchbgdehccaa", sum := "77438bc1dc7174de2e3cae15d5451376ba39600d0918a9e930cd29505919fd3e", func := "shunt/shuntlaw6.TreeMany", spec := "treeMany", inPlace := ["internal/bytealg.IndexByteString"], unfollowed := true, recurses := true, apart := false }
def TreeManySaid : Prop := treeManyRow.holds Try.pinned (OpenSpec.ofChange treeManySpec)

/-- ITS FALSE NEIGHBOUR: 'it returns false'. Refute it at one input. -/
def treeManyWrong : ChangeSpec := { name := "treeMany", fn := fun _ => fun
  | [d] => { results := [.lit (.bool false)], args := [d] }
  | _ => none }
def TreeManyWrongFalsely : Prop := treeManyRow.holds Try.pinned (OpenSpec.ofChange treeManyWrong)

/-- 'shuntlaw6.TreeSizes': WHATEVER THE INPUT: true; the input reads as it did. -/
def treeSizesSpec : ChangeSpec := { name := "treeSizes", fn := fun _ => fun
  | [d] => { results := [.lit (.bool true)], args := [d] }
  | _ => none }
def treeSizesRow : OpenClaim := { program := "ytdjlchbgdehccaa", sum := "77438bc1dc7174de2e3cae15d5451376ba39600d0918a9e930cd29505919fd3e", func := "shunt/shuntlaw6.TreeSizes", spec := "treeSizes", inPlace := ["internal/bytealg.IndexByteString"], unfollowed := true, recurses := true, apart := false }
def TreeSizesSaid : Prop := treeSizesRow.holds Try.pinned (OpenSpec.ofChange treeSizesSpec)

/-- ITS FALSE NEIGHBOUR: 'it returns false'. Refute it at one input. -/
def treeSizesWrong : ChangeSpec := { name := "treeSizes", fn := fun _ => fun
  | [d] => { results := [.lit (.bool false)], args := [d] }
  | _ => none }
def TreeSizesWrongFalsely : Prop := treeSizesRow.holds Try.pinned (OpenSpec.ofChange treeSizesWrong)

/-- 'shuntlaw6.TreeSame': WHATEVER THE INPUT: true; the input reads as it did. -/
def treeSameSpec : ChangeSpec := { name := "treeSame", fn := fun _ => fun
  | [d1, d2] => { results := [.lit (.bool true)], args := [d1, d2] }
  | _ => none }
def treeSameRow : OpenClaim := { program := "ytdjlchbgdehccaa", sum := "77438bc1dc7174de2e3cae15d5451376ba39600d0918a9e930cd29505919fd3e", func := "shunt/shuntlaw6.TreeSame", spec := "treeSame", inPlace := ["internal/bytealg.IndexByteString"], unfollowed := true, recurses := true, apart := false }
def TreeSameSaid : Prop := treeSameRow.holds Try.pinned (OpenSpec.ofChange treeSameSpec)

/-- ITS FALSE NEIGHBOUR: 'it returns false'. Refute it at one input. -/
def treeSameWrong : ChangeSpec := { name := "treeSame", fn := fun _ => fun
  | [d1, d2] => { results := [.lit (.bool false)], args := [d1, d2] }
  | _ => none }
def TreeSameWrongFalsely : Prop := treeSameRow.holds Try.pinned (OpenSpec.ofChange treeSameWrong)

/-- 'shuntlaw6.TreeLooks': WHATEVER THE INPUT: true; the input reads as it did. -/
def treeLooksSpec : ChangeSpec := { name := "treeLooks", fn := fun _ => fun
  | [d1, d2, d3] => { results := [.lit (.bool true)], args := [d1, d2, d3] }
  | _ => none }
def treeLooksRow : OpenClaim := { program := "ytdjlchbgdehccaa", sum := "77438bc1dc7174de2e3cae15d5451376ba39600d0918a9e930cd29505919fd3e", func := "shunt/shuntlaw6.TreeLooks", spec := "treeLooks", inPlace := ["internal/bytealg.IndexByteString"], unfollowed := true, recurses := true, apart := false }
def TreeLooksSaid : Prop := treeLooksRow.holds Try.pinned (OpenSpec.ofChange treeLooksSpec)

/-- ITS FALSE NEIGHBOUR: 'it returns false'. Refute it at one input. -/
def treeLooksWrong : ChangeSpec := { name := "treeLooks", fn := fun _ => fun
  | [d1, d2, d3] => { results := [.lit (.bool false)], args := [d1, d2, d3] }
  | _ => none }
def TreeLooksWrongFalsely : Prop := treeLooksRow.holds Try.pinned (OpenSpec.ofChange treeLooksWrong)

/-- 'shuntlaw6.TreeParts': WHATEVER THE INPUT: true; the input reads as it did. -/
def treePartsSpec : ChangeSpec := { name := "treeParts", fn := fun _ => fun
  | [d] => { results := [.lit (.bool true)], args := [d] }
  | _ => none }
def treePartsRow : OpenClaim := { program := "ytdjlchbgdehccaa", sum := "77438bc1dc7174de2e3cae15d5451376ba39600d0918a9e930cd29505919fd3e", func := "shunt/shuntlaw6.TreeParts", spec := "treeParts", inPlace := ["internal/bytealg.IndexByteString"], unfollowed := true, recurses := true, apart := false }
def TreePartsSaid : Prop := treePartsRow.holds Try.pinned (OpenSpec.ofChange treePartsSpec)

/-- ITS FALSE NEIGHBOUR: 'it returns false'. Refute it at one input. -/
def treePartsWrong : ChangeSpec := { name := "treeParts", fn := fun _ => fun
  | [d] => { results := [.lit (.bool false)], args := [d] }
  | _ => none }
def TreePartsWrongFalsely : Prop := treePartsRow.holds Try.pinned (OpenSpec.ofChange treePartsWrong)

/-- 'shuntlaw6.TreeTurned': WHATEVER THE INPUT: true; the input reads as it did. -/
def treeTurnedSpec : ChangeSpec := { name := "treeTurned", fn := fun _ => fun
  | [d1, d2, d3] => { results := [.lit (.bool true)], args := [d1, d2, d3] }
  | _ => none }
def treeTurnedRow : OpenClaim := { program := "ytdjlchbgdehccaa", sum := "77438bc1dc7174de2e3cae15d5451376ba39600d0918a9e930cd29505919fd3e", func := "shunt/shuntlaw6.TreeTurned", spec := "treeTurned", inPlace := ["internal/bytealg.IndexByteString"], unfollowed := true, recurses := true, apart := false }
def TreeTurnedSaid : Prop := treeTurnedRow.holds Try.pinned (OpenSpec.ofChange treeTurnedSpec)

/-- ITS FALSE NEIGHBOUR: 'it returns false'. Refute it at one input. -/
def treeTurnedWrong : ChangeSpec := { name := "treeTurned", fn := fun _ => fun
  | [d1, d2, d3] => { results := [.lit (.bool false)], args := [d1, d2, d3] }
  | _ => none }
def TreeTurnedWrongFalsely : Prop := treeTurnedRow.holds Try.pinned (OpenSpec.ofChange treeTurnedWrong)

/-- 'shuntlaw6.TreeChecks': WHATEVER THE INPUT: true; the input reads as it did. -/
def treeChecksSpec : ChangeSpec := { name := "treeChecks", fn := fun _ => fun
  | [d] => { results := [.lit (.bool true)], args := [d] }
  | _ => none }
def treeChecksRow : OpenClaim := { program := "ytdjlchbgdehccaa", sum := "77438bc1dc7174de2e3cae15d5451376ba39600d0918a9e930cd29505919fd3e", func := "shunt/shuntlaw6.TreeChecks", spec := "treeChecks", inPlace := ["internal/bytealg.IndexByteString"], unfollowed := true, recurses := true, apart := false }
def TreeChecksSaid : Prop := treeChecksRow.holds Try.pinned (OpenSpec.ofChange treeChecksSpec)

/-- ITS FALSE NEIGHBOUR: 'it returns false'. Refute it at one input. -/
def treeChecksWrong : ChangeSpec := { name := "treeChecks", fn := fun _ => fun
  | [d] => { results := [.lit (.bool false)], args := [d] }
  | _ => none }
def TreeChecksWrongFalsely : Prop := treeChecksRow.holds Try.pinned (OpenSpec.ofChange treeChecksWrong)

/-- 'shuntlaw6.TreeCanon': WHATEVER THE INPUT: true; the input reads as it did. -/
def treeCanonSpec : ChangeSpec := { name := "treeCanon", fn := fun _ => fun
  | [d] => { results := [.lit (.bool true)], args := [d] }
  | _ => none }
def treeCanonRow : OpenClaim := { program := "ytdjlchbgdehccaa", sum := "77438bc1dc7174de2e3cae15d5451376ba39600d0918a9e930cd29505919fd3e", func := "shunt/shuntlaw6.TreeCanon", spec := "treeCanon", inPlace := ["internal/bytealg.IndexByteString", "internal/bytealg.abigen_runtime_cmpstring"], unfollowed := true, recurses := true, apart := false }
def TreeCanonSaid : Prop := treeCanonRow.holds Try.pinned (OpenSpec.ofChange treeCanonSpec)

/-- ITS FALSE NEIGHBOUR: 'it returns false'. Refute it at one input. -/
def treeCanonWrong : ChangeSpec := { name := "treeCanon", fn := fun _ => fun
  | [d] => { results := [.lit (.bool false)], args := [d] }
  | _ => none }
def TreeCanonWrongFalsely : Prop := treeCanonRow.holds Try.pinned (OpenSpec.ofChange treeCanonWrong)

/-- 'shuntlaw6.TreeHeld': WHATEVER THE INPUT: true; the input reads as it did. -/
def treeHeldSpec : ChangeSpec := { name := "treeHeld", fn := fun _ => fun
  | [d1, d2] => { results := [.lit (.bool true)], args := [d1, d2] }
  | _ => none }
def treeHeldRow : OpenClaim := { program := "ytdjlchbgdehccaa", sum := "77438bc1dc7174de2e3cae15d5451376ba39600d0918a9e930cd29505919fd3e", func := "shunt/shuntlaw6.TreeHeld", spec := "treeHeld", inPlace := ["internal/bytealg.IndexByteString", "internal/bytealg.abigen_runtime_cmpstring"], unfollowed := true, recurses := true, apart := false }
def TreeHeldSaid : Prop := treeHeldRow.holds Try.pinned (OpenSpec.ofChange treeHeldSpec)

/-- ITS FALSE NEIGHBOUR: 'it returns false'. Refute it at one input. -/
def treeHeldWrong : ChangeSpec := { name := "treeHeld", fn := fun _ => fun
  | [d1, d2] => { results := [.lit (.bool false)], args := [d1, d2] }
  | _ => none }
def TreeHeldWrongFalsely : Prop := treeHeldRow.holds Try.pinned (OpenSpec.ofChange treeHeldWrong)

/-- 'shuntlaw6.TreeUnnamed': WHATEVER THE INPUT: true; the input reads as it did. -/
def treeUnnamedSpec : ChangeSpec := { name := "treeUnnamed", fn := fun _ => fun
  | [d1, d2] => { results := [.lit (.bool true)], args := [d1, d2] }
  | _ => none }
def treeUnnamedRow : OpenClaim := { program := "ytdjlchbgdehccaa", sum := "77438bc1dc7174de2e3cae15d5451376ba39600d0918a9e930cd29505919fd3e", func := "shunt/shuntlaw6.TreeUnnamed", spec := "treeUnnamed", inPlace := ["internal/bytealg.IndexByteString", "internal/bytealg.abigen_runtime_cmpstring"], unfollowed := true, recurses := true, apart := false }
def TreeUnnamedSaid : Prop := treeUnnamedRow.holds Try.pinned (OpenSpec.ofChange treeUnnamedSpec)

/-- ITS FALSE NEIGHBOUR: 'it returns false'. Refute it at one input. -/
def treeUnnamedWrong : ChangeSpec := { name := "treeUnnamed", fn := fun _ => fun
  | [d1, d2] => { results := [.lit (.bool false)], args := [d1, d2] }
  | _ => none }
def TreeUnnamedWrongFalsely : Prop := treeUnnamedRow.holds Try.pinned (OpenSpec.ofChange treeUnnamedWrong)

/-- 'shuntlaw6.TreeShuffled': WHATEVER THE INPUT: true; the input reads as it did. -/
def treeShuffledSpec : ChangeSpec := { name := "treeShuffled", fn := fun _ => fun
  | [d1, d2, d3] => { results := [.lit (.bool true)], args := [d1, d2, d3] }
  | _ => none }
def treeShuffledRow : OpenClaim := { program := "ytdjlchbgdehccaa", sum := "77438bc1dc7174de2e3cae15d5451376ba39600d0918a9e930cd29505919fd3e", func := "shunt/shuntlaw6.TreeShuffled", spec := "treeShuffled", inPlace := ["internal/bytealg.IndexByteString", "internal/bytealg.abigen_runtime_cmpstring"], unfollowed := true, recurses := true, apart := false }
def TreeShuffledSaid : Prop := treeShuffledRow.holds Try.pinned (OpenSpec.ofChange treeShuffledSpec)

/-- ITS FALSE NEIGHBOUR: 'it returns false'. Refute it at one input. -/
def treeShuffledWrong : ChangeSpec := { name := "treeShuffled", fn := fun _ => fun
  | [d1, d2, d3] => { results := [.lit (.bool false)], args := [d1, d2, d3] }
  | _ => none }
def TreeShuffledWrongFalsely : Prop := treeShuffledRow.holds Try.pinned (OpenSpec.ofChange treeShuffledWrong)

/- THE SECOND FORM. 'bulk': how many values and letters a reading holds, each counted each time it is reached (what is shared counts as often as it is met; a slice's spare places count too). A statement '..UptoSaid' is the law's where the arguments, and the package variables that the reading takes, are together of bulk at most 1048576: NARROWER than '..Said'. Prove '..Said' where nothing that the law and all that it calls make is longer than what came in: it says more and counts as full. Else prove '..UptoSaid'. A law counts once. -/
mutual
def uptoBulk {H : Type} : DataW H → Nat
  | .lit (.string bytes) => bytes.length + 1
  | .lit _ => 1
  | .nil => 1
  | .ptr d => uptoBulk d + 1
  | .slice elems spare => uptoBulkAll elems + uptoBulkAll spare + 1
  | .agg parts => uptoBulkAll parts + 1
  | .iface _ d => uptoBulk d + 1
  | .map entries => uptoBulkEntries entries + 1
  | .held _ => 1
def uptoBulkAll {H : Type} : List (DataW H) → Nat
  | [] => 0
  | d :: r => uptoBulk d + uptoBulkAll r
def uptoBulkEntries {H : Type} : List (Lit × DataW H) → Nat
  | [] => 0
  | x :: r => uptoBulkEntry x + uptoBulkEntries r
def uptoBulkEntry {H : Type} : Lit × DataW H → Nat
  | (.string bytes, d) => bytes.length + uptoBulk d + 1
  | (_, d) => uptoBulk d + 1
 end
def uptoSmall : (H : Type) → List (DataW H) → Bool := fun _ ds => decide (uptoBulkAll ds ≤ 1048576)
def OpenSpec.upto (s : _root_.Go.ChangeSpec) : _root_.Go.OpenSpec := { _root_.Go.OpenSpec.ofChange s with cond := some uptoSmall }

/-- 'shuntlaw6.TreeMany', WHERE WHAT IT READS IS OF BULK AT MOST 1048576: true; the input reads as it did. -/
def treeManyUptoRow : OpenClaim := { program := "ytdjlchbgdehccaa", sum := "77438bc1dc7174de2e3cae15d5451376ba39600d0918a9e930cd29505919fd3e", func := "shunt/shuntlaw6.TreeMany", spec := "treeMany", inPlace := ["internal/bytealg.IndexByteString"], unfollowed := true, recurses := true, apart := false, narrowed := true }
def TreeManyUptoSaid : Prop := treeManyUptoRow.holds Try.pinned (OpenSpec.upto treeManySpec)

/-- 'shuntlaw6.TreeSizes', WHERE WHAT IT READS IS OF BULK AT MOST 1048576: true; the input reads as it did. -/
def treeSizesUptoRow : OpenClaim := { program := "ytdjlchbgdehccaa", sum := "77438bc1dc7174de2e3cae15d5451376ba39600d0918a9e930cd29505919fd3e", func := "shunt/shuntlaw6.TreeSizes", spec := "treeSizes", inPlace := ["internal/bytealg.IndexByteString"], unfollowed := true, recurses := true, apart := false, narrowed := true }
def TreeSizesUptoSaid : Prop := treeSizesUptoRow.holds Try.pinned (OpenSpec.upto treeSizesSpec)

/-- 'shuntlaw6.TreeSame', WHERE WHAT IT READS IS OF BULK AT MOST 1048576: true; the input reads as it did. -/
def treeSameUptoRow : OpenClaim := { program := "ytdjlchbgdehccaa", sum := "77438bc1dc7174de2e3cae15d5451376ba39600d0918a9e930cd29505919fd3e", func := "shunt/shuntlaw6.TreeSame", spec := "treeSame", inPlace := ["internal/bytealg.IndexByteString"], unfollowed := true, recurses := true, apart := false, narrowed := true }
def TreeSameUptoSaid : Prop := treeSameUptoRow.holds Try.pinned (OpenSpec.upto treeSameSpec)

/-- 'shuntlaw6.TreeLooks', WHERE WHAT IT READS IS OF BULK AT MOST 1048576: true; the input reads as it did. -/
def treeLooksUptoRow : OpenClaim := { program := "ytdjlchbgdehccaa", sum := "77438bc1dc7174de2e3cae15d5451376ba39600d0918a9e930cd29505919fd3e", func := "shunt/shuntlaw6.TreeLooks", spec := "treeLooks", inPlace := ["internal/bytealg.IndexByteString"], unfollowed := true, recurses := true, apart := false, narrowed := true }
def TreeLooksUptoSaid : Prop := treeLooksUptoRow.holds Try.pinned (OpenSpec.upto treeLooksSpec)

/-- 'shuntlaw6.TreeParts', WHERE WHAT IT READS IS OF BULK AT MOST 1048576: true; the input reads as it did. -/
def treePartsUptoRow : OpenClaim := { program := "ytdjlchbgdehccaa", sum := "77438bc1dc7174de2e3cae15d5451376ba39600d0918a9e930cd29505919fd3e", func := "shunt/shuntlaw6.TreeParts", spec := "treeParts", inPlace := ["internal/bytealg.IndexByteString"], unfollowed := true, recurses := true, apart := false, narrowed := true }
def TreePartsUptoSaid : Prop := treePartsUptoRow.holds Try.pinned (OpenSpec.upto treePartsSpec)

/-- 'shuntlaw6.TreeTurned', WHERE WHAT IT READS IS OF BULK AT MOST 1048576: true; the input reads as it did. -/
def treeTurnedUptoRow : OpenClaim := { program := "ytdjlchbgdehccaa", sum := "77438bc1dc7174de2e3cae15d5451376ba39600d0918a9e930cd29505919fd3e", func := "shunt/shuntlaw6.TreeTurned", spec := "treeTurned", inPlace := ["internal/bytealg.IndexByteString"], unfollowed := true, recurses := true, apart := false, narrowed := true }
def TreeTurnedUptoSaid : Prop := treeTurnedUptoRow.holds Try.pinned (OpenSpec.upto treeTurnedSpec)

/-- 'shuntlaw6.TreeChecks', WHERE WHAT IT READS IS OF BULK AT MOST 1048576: true; the input reads as it did. -/
def treeChecksUptoRow : OpenClaim := { program := "ytdjlchbgdehccaa", sum := "77438bc1dc7174de2e3cae15d5451376ba39600d0918a9e930cd29505919fd3e", func := "shunt/shuntlaw6.TreeChecks", spec := "treeChecks", inPlace := ["internal/bytealg.IndexByteString"], unfollowed := true, recurses := true, apart := false, narrowed := true }
def TreeChecksUptoSaid : Prop := treeChecksUptoRow.holds Try.pinned (OpenSpec.upto treeChecksSpec)

/-- 'shuntlaw6.TreeCanon', WHERE WHAT IT READS IS OF BULK AT MOST 1048576: true; the input reads as it did. -/
def treeCanonUptoRow : OpenClaim := { program := "ytdjlchbgdehccaa", sum := "77438bc1dc7174de2e3cae15d5451376ba39600d0918a9e930cd29505919fd3e", func := "shunt/shuntlaw6.TreeCanon", spec := "treeCanon", inPlace := ["internal/bytealg.IndexByteString", "internal/bytealg.abigen_runtime_cmpstring"], unfollowed := true, recurses := true, apart := false, narrowed := true }
def TreeCanonUptoSaid : Prop := treeCanonUptoRow.holds Try.pinned (OpenSpec.upto treeCanonSpec)

/-- 'shuntlaw6.TreeHeld', WHERE WHAT IT READS IS OF BULK AT MOST 1048576: true; the input reads as it did. -/
def treeHeldUptoRow : OpenClaim := { program := "ytdjlchbgdehccaa", sum := "77438bc1dc7174de2e3cae15d5451376ba39600d0918a9e930cd29505919fd3e", func := "shunt/shuntlaw6.TreeHeld", spec := "treeHeld", inPlace := ["internal/bytealg.IndexByteString", "internal/bytealg.abigen_runtime_cmpstring"], unfollowed := true, recurses := true, apart := false, narrowed := true }
def TreeHeldUptoSaid : Prop := treeHeldUptoRow.holds Try.pinned (OpenSpec.upto treeHeldSpec)

/-- 'shuntlaw6.TreeUnnamed', WHERE WHAT IT READS IS OF BULK AT MOST 1048576: true; the input reads as it did. -/
def treeUnnamedUptoRow : OpenClaim := { program := "ytdjlchbgdehccaa", sum := "77438bc1dc7174de2e3cae15d5451376ba39600d0918a9e930cd29505919fd3e", func := "shunt/shuntlaw6.TreeUnnamed", spec := "treeUnnamed", inPlace := ["internal/bytealg.IndexByteString", "internal/bytealg.abigen_runtime_cmpstring"], unfollowed := true, recurses := true, apart := false, narrowed := true }
def TreeUnnamedUptoSaid : Prop := treeUnnamedUptoRow.holds Try.pinned (OpenSpec.upto treeUnnamedSpec)

/-- 'shuntlaw6.TreeShuffled', WHERE WHAT IT READS IS OF BULK AT MOST 1048576: true; the input reads as it did. -/
def treeShuffledUptoRow : OpenClaim := { program := "ytdjlchbgdehccaa", sum := "77438bc1dc7174de2e3cae15d5451376ba39600d0918a9e930cd29505919fd3e", func := "shunt/shuntlaw6.TreeShuffled", spec := "treeShuffled", inPlace := ["internal/bytealg.IndexByteString", "internal/bytealg.abigen_runtime_cmpstring"], unfollowed := true, recurses := true, apart := false, narrowed := true }
def TreeShuffledUptoSaid : Prop := treeShuffledUptoRow.holds Try.pinned (OpenSpec.upto treeShuffledSpec)

end Rows
end Go.Proofs.Ytdjlchbgdehccaa
