/-
  No cell of these rows narrows 'for every input' (looked for: loops, veiled, ifaces, maps, wideKeys, modest, calm, conditions, laid).
  DERIVED. THE GIVEN ROWS OF THIS SEAT. 7 by the template 'for every input the law returns true; each argument reads behind the call as it read before'; 0 by the template 'total and deterministic' (their statements: YtbpgakghdpflnaaTotals.lean).
  GIVEN WITH THE SEED: the statements are not yours to turn. If you find one false, say at which input.
  Laid BY PROGRAM, IN A SANDBOX (cutbox-rows.mjs): the forced cells as the released guide's own fill.sh prints them over the translation 1927a2a4735e0626… (all of the seat's roots in one cut). By AI agents, Wed Nov 11 2026. No macro, syntax, notation, axiom, sorry.
-/
import Derived.Test.YtbpgakghdpflnaaChecked
import GoSem.Claim
import GoSem.ClaimJoined
import GoSem.ClaimMapViews
import Derived.JoinedTies
import Derived.KernelRfl
namespace Go.Proofs.Ytbpgakghdpflnaa
/- THE CELL 'sum', in the pinned program and in every row, IS THE sha256 OF THE DUMP (.gsa) THAT YtbpgakghdpflnaaProg.lean LOADS. Nothing in Lean hashes anything: it is a label: what it is worth is what the hold of that sum in a sandbox is worth. -/
noncomputable def Try.pinned : Pinned := { name := "ytbpgakghdpflnaa", sum := "1927a2a4735e062691317ed2c420f7432a0c15c56e1442cbc8f6be361dbdfd43", checked := Try.checked }
namespace Rows
def none {H : Type} : Left H := { results := [], args := [] }

/-- 'shuntlaw18.PeepRuns': WHATEVER THE INPUT: true; the input reads as it did. -/
def peepRunsSpec : ChangeSpec := { name := "peepRuns", fn := fun _ => fun
  | [d1, d2, d3] => { results := [.lit (.bool true)], args := [d1, d2, d3] }
  | _ => none }
def peepRunsRow : OpenClaim := { program := "ytbpgakghdpflnaa", sum := "1927a2a4735e062691317ed2c420f7432a0c15c56e1442cbc8f6be361dbdfd43", func := "shunt/shuntlaw18.PeepRuns", spec := "peepRuns", unfollowed := true, recurses := true, apart := false }
def PeepRunsSaid : Prop := peepRunsRow.holds Try.pinned (OpenSpec.ofChange peepRunsSpec)

/-- ITS FALSE NEIGHBOUR: 'it returns false'. Refute it at one input. -/
def peepRunsWrong : ChangeSpec := { name := "peepRuns", fn := fun _ => fun
  | [d1, d2, d3] => { results := [.lit (.bool false)], args := [d1, d2, d3] }
  | _ => none }
def PeepRunsWrongFalsely : Prop := peepRunsRow.holds Try.pinned (OpenSpec.ofChange peepRunsWrong)

/-- 'shuntlaw18.PeepTwice': WHATEVER THE INPUT: true; the input reads as it did. -/
def peepTwiceSpec : ChangeSpec := { name := "peepTwice", fn := fun _ => fun
  | [d1, d2] => { results := [.lit (.bool true)], args := [d1, d2] }
  | _ => none }
def peepTwiceRow : OpenClaim := { program := "ytbpgakghdpflnaa", sum := "1927a2a4735e062691317ed2c420f7432a0c15c56e1442cbc8f6be361dbdfd43", func := "shunt/shuntlaw18.PeepTwice", spec := "peepTwice", unfollowed := true, recurses := true, apart := false }
def PeepTwiceSaid : Prop := peepTwiceRow.holds Try.pinned (OpenSpec.ofChange peepTwiceSpec)

/-- ITS FALSE NEIGHBOUR: 'it returns false'. Refute it at one input. -/
def peepTwiceWrong : ChangeSpec := { name := "peepTwice", fn := fun _ => fun
  | [d1, d2] => { results := [.lit (.bool false)], args := [d1, d2] }
  | _ => none }
def PeepTwiceWrongFalsely : Prop := peepTwiceRow.holds Try.pinned (OpenSpec.ofChange peepTwiceWrong)

/-- 'shuntlaw18.PeepLong': WHATEVER THE INPUT: true; the input reads as it did. -/
def peepLongSpec : ChangeSpec := { name := "peepLong", fn := fun _ => fun
  | [d] => { results := [.lit (.bool true)], args := [d] }
  | _ => none }
def peepLongRow : OpenClaim := { program := "ytbpgakghdpflnaa", sum := "1927a2a4735e062691317ed2c420f7432a0c15c56e1442cbc8f6be361dbdfd43", func := "shunt/shuntlaw18.PeepLong", spec := "peepLong", unfollowed := true, recurses := true, apart := false }
def PeepLongSaid : Prop := peepLongRow.holds Try.pinned (OpenSpec.ofChange peepLongSpec)

/-- ITS FALSE NEIGHBOUR: 'it returns false'. Refute it at one input. -/
def peepLongWrong : ChangeSpec := { name := "peepLong", fn := fun _ => fun
  | [d] => { results := [.lit (.bool false)], args := [d] }
  | _ => none }
def PeepLongWrongFalsely : Prop := peepLongRow.holds Try.pinned (OpenSpec.ofChange peepLongWrong)

/-- 'shuntlaw18.PeepNone': WHATEVER THE INPUT: true; the input reads as it did. -/
def peepNoneSpec : ChangeSpec := { name := "peepNone", fn := fun _ => fun
  | [d1, d2] => { results := [.lit (.bool true)], args := [d1, d2] }
  | _ => none }
def peepNoneRow : OpenClaim := { program := "ytbpgakghdpflnaa", sum := "1927a2a4735e062691317ed2c420f7432a0c15c56e1442cbc8f6be361dbdfd43", func := "shunt/shuntlaw18.PeepNone", spec := "peepNone", unfollowed := true, recurses := true, apart := false }
def PeepNoneSaid : Prop := peepNoneRow.holds Try.pinned (OpenSpec.ofChange peepNoneSpec)

/-- ITS FALSE NEIGHBOUR: 'it returns false'. Refute it at one input. -/
def peepNoneWrong : ChangeSpec := { name := "peepNone", fn := fun _ => fun
  | [d1, d2] => { results := [.lit (.bool false)], args := [d1, d2] }
  | _ => none }
def PeepNoneWrongFalsely : Prop := peepNoneRow.holds Try.pinned (OpenSpec.ofChange peepNoneWrong)

/-- 'shuntlaw18.PeepSyncs': WHATEVER THE INPUT: true; the input reads as it did. -/
def peepSyncsSpec : ChangeSpec := { name := "peepSyncs", fn := fun _ => fun
  | [d] => { results := [.lit (.bool true)], args := [d] }
  | _ => none }
def peepSyncsRow : OpenClaim := { program := "ytbpgakghdpflnaa", sum := "1927a2a4735e062691317ed2c420f7432a0c15c56e1442cbc8f6be361dbdfd43", func := "shunt/shuntlaw18.PeepSyncs", spec := "peepSyncs", unfollowed := true, recurses := true, apart := false }
def PeepSyncsSaid : Prop := peepSyncsRow.holds Try.pinned (OpenSpec.ofChange peepSyncsSpec)

/-- ITS FALSE NEIGHBOUR: 'it returns false'. Refute it at one input. -/
def peepSyncsWrong : ChangeSpec := { name := "peepSyncs", fn := fun _ => fun
  | [d] => { results := [.lit (.bool false)], args := [d] }
  | _ => none }
def PeepSyncsWrongFalsely : Prop := peepSyncsRow.holds Try.pinned (OpenSpec.ofChange peepSyncsWrong)

/-- 'shuntlaw18.PeepShort': WHATEVER THE INPUT: true; the input reads as it did. -/
def peepShortSpec : ChangeSpec := { name := "peepShort", fn := fun _ => fun
  | [d1, d2] => { results := [.lit (.bool true)], args := [d1, d2] }
  | _ => none }
def peepShortRow : OpenClaim := { program := "ytbpgakghdpflnaa", sum := "1927a2a4735e062691317ed2c420f7432a0c15c56e1442cbc8f6be361dbdfd43", func := "shunt/shuntlaw18.PeepShort", spec := "peepShort", unfollowed := true, recurses := true, apart := false }
def PeepShortSaid : Prop := peepShortRow.holds Try.pinned (OpenSpec.ofChange peepShortSpec)

/-- ITS FALSE NEIGHBOUR: 'it returns false'. Refute it at one input. -/
def peepShortWrong : ChangeSpec := { name := "peepShort", fn := fun _ => fun
  | [d1, d2] => { results := [.lit (.bool false)], args := [d1, d2] }
  | _ => none }
def PeepShortWrongFalsely : Prop := peepShortRow.holds Try.pinned (OpenSpec.ofChange peepShortWrong)

/-- 'shuntlaw18.PeepBack': WHATEVER THE INPUT: true; the input reads as it did. -/
def peepBackSpec : ChangeSpec := { name := "peepBack", fn := fun _ => fun
  | [d1, d2] => { results := [.lit (.bool true)], args := [d1, d2] }
  | _ => none }
def peepBackRow : OpenClaim := { program := "ytbpgakghdpflnaa", sum := "1927a2a4735e062691317ed2c420f7432a0c15c56e1442cbc8f6be361dbdfd43", func := "shunt/shuntlaw18.PeepBack", spec := "peepBack", unfollowed := true, recurses := true, apart := false }
def PeepBackSaid : Prop := peepBackRow.holds Try.pinned (OpenSpec.ofChange peepBackSpec)

/-- ITS FALSE NEIGHBOUR: 'it returns false'. Refute it at one input. -/
def peepBackWrong : ChangeSpec := { name := "peepBack", fn := fun _ => fun
  | [d1, d2] => { results := [.lit (.bool false)], args := [d1, d2] }
  | _ => none }
def PeepBackWrongFalsely : Prop := peepBackRow.holds Try.pinned (OpenSpec.ofChange peepBackWrong)

/- THE SECOND FORM. 'bulk': how many values and letters a reading holds, each counted each time it is reached (what is shared counts as often as it is met; a slice's spare places count too). A statement '..UptoSaid' is the law's where the arguments, and the package variables that the reading takes, are together of bulk at most 1048576: NARROWER than '..Said'. Prove '..Said' where nothing that the law and all that it calls make is longer than what came in: it says more and counts as full. Else prove '..UptoSaid'. A law counts once. -/
mutual
def uptoBulk {H : Type} : DataW H → Nat
  | .lit (.string bytes) => bytes.length + 1
  | .lit _ => 1
  | .nil => 1
  | .ptr d => uptoBulk d + 1
  | .slice elems spare => uptoBulkAll elems + uptoBulkAll spare + 1
  | .agg parts => uptoBulkAll parts + 1
  | .iface _ d => uptoBulk d + 1
  | .map entries => uptoBulkEntries entries + 1
  | .held _ => 1
def uptoBulkAll {H : Type} : List (DataW H) → Nat
  | [] => 0
  | d :: r => uptoBulk d + uptoBulkAll r
def uptoBulkEntries {H : Type} : List (Lit × DataW H) → Nat
  | [] => 0
  | x :: r => uptoBulkEntry x + uptoBulkEntries r
def uptoBulkEntry {H : Type} : Lit × DataW H → Nat
  | (.string bytes, d) => bytes.length + uptoBulk d + 1
  | (_, d) => uptoBulk d + 1
 end
def uptoSmall : (H : Type) → List (DataW H) → Bool := fun _ ds => decide (uptoBulkAll ds ≤ 1048576)
def OpenSpec.upto (s : _root_.Go.ChangeSpec) : _root_.Go.OpenSpec := { _root_.Go.OpenSpec.ofChange s with cond := some uptoSmall }

/-- 'shuntlaw18.PeepRuns', WHERE WHAT IT READS IS OF BULK AT MOST 1048576: true; the input reads as it did. -/
def peepRunsUptoRow : OpenClaim := { program := "ytbpgakghdpflnaa", sum := "1927a2a4735e062691317ed2c420f7432a0c15c56e1442cbc8f6be361dbdfd43", func := "shunt/shuntlaw18.PeepRuns", spec := "peepRuns", unfollowed := true, recurses := true, apart := false, narrowed := true }
def PeepRunsUptoSaid : Prop := peepRunsUptoRow.holds Try.pinned (OpenSpec.upto peepRunsSpec)

/-- 'shuntlaw18.PeepTwice', WHERE WHAT IT READS IS OF BULK AT MOST 1048576: true; the input reads as it did. -/
def peepTwiceUptoRow : OpenClaim := { program := "ytbpgakghdpflnaa", sum := "1927a2a4735e062691317ed2c420f7432a0c15c56e1442cbc8f6be361dbdfd43", func := "shunt/shuntlaw18.PeepTwice", spec := "peepTwice", unfollowed := true, recurses := true, apart := false, narrowed := true }
def PeepTwiceUptoSaid : Prop := peepTwiceUptoRow.holds Try.pinned (OpenSpec.upto peepTwiceSpec)

/-- 'shuntlaw18.PeepLong', WHERE WHAT IT READS IS OF BULK AT MOST 1048576: true; the input reads as it did. -/
def peepLongUptoRow : OpenClaim := { program := "ytbpgakghdpflnaa", sum := "1927a2a4735e062691317ed2c420f7432a0c15c56e1442cbc8f6be361dbdfd43", func := "shunt/shuntlaw18.PeepLong", spec := "peepLong", unfollowed := true, recurses := true, apart := false, narrowed := true }
def PeepLongUptoSaid : Prop := peepLongUptoRow.holds Try.pinned (OpenSpec.upto peepLongSpec)

/-- 'shuntlaw18.PeepNone', WHERE WHAT IT READS IS OF BULK AT MOST 1048576: true; the input reads as it did. -/
def peepNoneUptoRow : OpenClaim := { program := "ytbpgakghdpflnaa", sum := "1927a2a4735e062691317ed2c420f7432a0c15c56e1442cbc8f6be361dbdfd43", func := "shunt/shuntlaw18.PeepNone", spec := "peepNone", unfollowed := true, recurses := true, apart := false, narrowed := true }
def PeepNoneUptoSaid : Prop := peepNoneUptoRow.holds Try.pinned (OpenSpec.upto peepNoneSpec)

/-- 'shuntlaw18.PeepSyncs', WHERE WHAT IT READS IS OF BULK AT MOST 1048576: true; the input reads as it did. -/
def peepSyncsUptoRow : OpenClaim := { program := "ytbpgakghdpflnaa", sum := "1927a2a4735e062691317ed2c420f7432a0c15c56e1442cbc8f6be361dbdfd43", func := "shunt/shuntlaw18.PeepSyncs", spec := "peepSyncs", unfollowed := true, recurses := true, apart := false, narrowed := true }
def PeepSyncsUptoSaid : Prop := peepSyncsUptoRow.holds Try.pinned (OpenSpec.upto peepSyncsSpec)

/-- 'shuntlaw18.PeepShort', WHERE WHAT IT READS IS OF BULK AT MOST 1048576: true; the input reads as it did. -/
def peepShortUptoRow : OpenClaim := { program := "ytbpgakghdpflnaa", sum := "1927a2a4735e062691317ed2c420f7432a0c15c56e1442cbc8f6be361dbdfd43", func := "shunt/shuntlaw18.PeepShort", spec := "peepShort", unfollowed := true, recurses := true, apart := false, narrowed := true }
def PeepShortUptoSaid : Prop := peepShortUptoRow.holds Try.pinned (OpenSpec.upto peepShortSpec)

/-- 'shuntlaw18.PeepBack', WHERE WHAT IT READS IS OF BULK AT MOST 1048576: true; the input reads as it did. -/
def peepBackUptoRow : OpenClaim := { program := "ytbpgakghdpflnaa", sum := "1927a2a4735e062691317ed2c420f7432a0c15c56e1442cbc8f6be361dbdfd43", func := "shunt/shuntlaw18.PeepBack", spec := "peepBack", unfollowed := true, recurses := true, apart := false, narrowed := true }
def PeepBackUptoSaid : Prop := peepBackUptoRow.holds Try.pinned (OpenSpec.upto peepBackSpec)

end Rows
end Go.Proofs.Ytbpgakghdpflnaa
