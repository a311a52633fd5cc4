/-
  No cell of these rows narrows 'for every input' (looked for: loops, veiled, ifaces, maps, wideKeys, modest, calm, conditions, laid).
  DERIVED. THE GIVEN ROWS OF THIS SEAT. 10 by the template 'for every input the law returns true; each argument reads behind the call as it read before'; 0 by the template 'total and deterministic' (their statements: YthmeffpickejkaaTotals.lean).
  GIVEN WITH THE SEED: the statements are not yours to turn. If you find one false, say at which input.
  Laid BY PROGRAM, IN A SANDBOX (cutbox-rows.mjs): the forced cells as the released guide's own fill.sh prints them over the translation 589a0a71374b473b… (all of the seat's roots in one cut). By AI agents, Wed Nov 11 2026. No macro, syntax, notation, axiom, sorry.
-/
import Derived.Test.YthmeffpickejkaaChecked
import GoSem.Claim
import GoSem.ClaimJoined
import GoSem.ClaimMapViews
import Derived.JoinedTies
import Derived.KernelRfl
namespace Go.Proofs.Ythmeffpickejkaa
/- THE CELL 'sum', in the pinned program and in every row, IS THE sha256 OF THE DUMP (.gsa) THAT YthmeffpickejkaaProg.lean LOADS. Nothing in Lean hashes anything: it is a label: what it is worth is what the hold of that sum in a sandbox is worth. -/
noncomputable def Try.pinned : Pinned := { name := "ythmeffpickejkaa", sum := "589a0a71374b473bd5a578d9be7935a655549c8b0345caab6f7610392b39eef9", checked := Try.checked }
namespace Rows
def none {H : Type} : Left H := { results := [], args := [] }

/-- 'shuntlaw7.ModelDoes': WHATEVER THE INPUT: true; the input reads as it did. -/
def modelDoesSpec : ChangeSpec := { name := "modelDoes", fn := fun _ => fun
  | [d1, d2, d3] => { results := [.lit (.bool true)], args := [d1, d2, d3] }
  | _ => none }
def modelDoesRow : OpenClaim := { program := "ythmeffpickejkaa", sum := "589a0a71374b473bd5a578d9be7935a655549c8b0345caab6f7610392b39eef9", func := "shunt/shuntlaw7.ModelDoes", spec := "modelDoes", unfollowed := true, recurses := true, apart := false }
def ModelDoesSaid : Prop := modelDoesRow.holds Try.pinned (OpenSpec.ofChange modelDoesSpec)

/-- ITS FALSE NEIGHBOUR: 'it returns false'. Refute it at one input. -/
def modelDoesWrong : ChangeSpec := { name := "modelDoes", fn := fun _ => fun
  | [d1, d2, d3] => { results := [.lit (.bool false)], args := [d1, d2, d3] }
  | _ => none }
def ModelDoesWrongFalsely : Prop := modelDoesRow.holds Try.pinned (OpenSpec.ofChange modelDoesWrong)

/-- 'shuntlaw7.ModelUndo': WHATEVER THE INPUT: true; the input reads as it did. -/
def modelUndoSpec : ChangeSpec := { name := "modelUndo", fn := fun _ => fun
  | [d1, d2, d3, d4, d5] => { results := [.lit (.bool true)], args := [d1, d2, d3, d4, d5] }
  | _ => none }
def modelUndoRow : OpenClaim := { program := "ythmeffpickejkaa", sum := "589a0a71374b473bd5a578d9be7935a655549c8b0345caab6f7610392b39eef9", func := "shunt/shuntlaw7.ModelUndo", spec := "modelUndo", unfollowed := true, recurses := true, apart := false }
def ModelUndoSaid : Prop := modelUndoRow.holds Try.pinned (OpenSpec.ofChange modelUndoSpec)

/-- ITS FALSE NEIGHBOUR: 'it returns false'. Refute it at one input. -/
def modelUndoWrong : ChangeSpec := { name := "modelUndo", fn := fun _ => fun
  | [d1, d2, d3, d4, d5] => { results := [.lit (.bool false)], args := [d1, d2, d3, d4, d5] }
  | _ => none }
def ModelUndoWrongFalsely : Prop := modelUndoRow.holds Try.pinned (OpenSpec.ofChange modelUndoWrong)

/-- 'shuntlaw7.ModelRest': WHATEVER THE INPUT: true; the input reads as it did. -/
def modelRestSpec : ChangeSpec := { name := "modelRest", fn := fun _ => fun
  | [d1, d2, d3] => { results := [.lit (.bool true)], args := [d1, d2, d3] }
  | _ => none }
def modelRestRow : OpenClaim := { program := "ythmeffpickejkaa", sum := "589a0a71374b473bd5a578d9be7935a655549c8b0345caab6f7610392b39eef9", func := "shunt/shuntlaw7.ModelRest", spec := "modelRest", unfollowed := true, recurses := true, apart := false }
def ModelRestSaid : Prop := modelRestRow.holds Try.pinned (OpenSpec.ofChange modelRestSpec)

/-- ITS FALSE NEIGHBOUR: 'it returns false'. Refute it at one input. -/
def modelRestWrong : ChangeSpec := { name := "modelRest", fn := fun _ => fun
  | [d1, d2, d3] => { results := [.lit (.bool false)], args := [d1, d2, d3] }
  | _ => none }
def ModelRestWrongFalsely : Prop := modelRestRow.holds Try.pinned (OpenSpec.ofChange modelRestWrong)

/-- 'shuntlaw7.ModelGrows': WHATEVER THE INPUT: true; the input reads as it did. -/
def modelGrowsSpec : ChangeSpec := { name := "modelGrows", fn := fun _ => fun
  | [d1, d2, d3] => { results := [.lit (.bool true)], args := [d1, d2, d3] }
  | _ => none }
def modelGrowsRow : OpenClaim := { program := "ythmeffpickejkaa", sum := "589a0a71374b473bd5a578d9be7935a655549c8b0345caab6f7610392b39eef9", func := "shunt/shuntlaw7.ModelGrows", spec := "modelGrows", unfollowed := true, recurses := true, apart := false }
def ModelGrowsSaid : Prop := modelGrowsRow.holds Try.pinned (OpenSpec.ofChange modelGrowsSpec)

/-- ITS FALSE NEIGHBOUR: 'it returns false'. Refute it at one input. -/
def modelGrowsWrong : ChangeSpec := { name := "modelGrows", fn := fun _ => fun
  | [d1, d2, d3] => { results := [.lit (.bool false)], args := [d1, d2, d3] }
  | _ => none }
def ModelGrowsWrongFalsely : Prop := modelGrowsRow.holds Try.pinned (OpenSpec.ofChange modelGrowsWrong)

/-- 'shuntlaw7.ModelFull': WHATEVER THE INPUT: true; the input reads as it did. -/
def modelFullSpec : ChangeSpec := { name := "modelFull", fn := fun _ => fun
  | [d] => { results := [.lit (.bool true)], args := [d] }
  | _ => none }
def modelFullRow : OpenClaim := { program := "ythmeffpickejkaa", sum := "589a0a71374b473bd5a578d9be7935a655549c8b0345caab6f7610392b39eef9", func := "shunt/shuntlaw7.ModelFull", spec := "modelFull", unfollowed := true, recurses := true, apart := false }
def ModelFullSaid : Prop := modelFullRow.holds Try.pinned (OpenSpec.ofChange modelFullSpec)

/-- ITS FALSE NEIGHBOUR: 'it returns false'. Refute it at one input. -/
def modelFullWrong : ChangeSpec := { name := "modelFull", fn := fun _ => fun
  | [d] => { results := [.lit (.bool false)], args := [d] }
  | _ => none }
def ModelFullWrongFalsely : Prop := modelFullRow.holds Try.pinned (OpenSpec.ofChange modelFullWrong)

/-- 'shuntlaw7.ModelIgnores': WHATEVER THE INPUT: true; the input reads as it did. -/
def modelIgnoresSpec : ChangeSpec := { name := "modelIgnores", fn := fun _ => fun
  | [d1, d2, d3, d4, d5, d6] => { results := [.lit (.bool true)], args := [d1, d2, d3, d4, d5, d6] }
  | _ => none }
def modelIgnoresRow : OpenClaim := { program := "ythmeffpickejkaa", sum := "589a0a71374b473bd5a578d9be7935a655549c8b0345caab6f7610392b39eef9", func := "shunt/shuntlaw7.ModelIgnores", spec := "modelIgnores", unfollowed := true, recurses := true, apart := false }
def ModelIgnoresSaid : Prop := modelIgnoresRow.holds Try.pinned (OpenSpec.ofChange modelIgnoresSpec)

/-- ITS FALSE NEIGHBOUR: 'it returns false'. Refute it at one input. -/
def modelIgnoresWrong : ChangeSpec := { name := "modelIgnores", fn := fun _ => fun
  | [d1, d2, d3, d4, d5, d6] => { results := [.lit (.bool false)], args := [d1, d2, d3, d4, d5, d6] }
  | _ => none }
def ModelIgnoresWrongFalsely : Prop := modelIgnoresRow.holds Try.pinned (OpenSpec.ofChange modelIgnoresWrong)

/-- 'shuntlaw7.ModelLong': WHATEVER THE INPUT: true; the input reads as it did. -/
def modelLongSpec : ChangeSpec := { name := "modelLong", fn := fun _ => fun
  | [d] => { results := [.lit (.bool true)], args := [d] }
  | _ => none }
def modelLongRow : OpenClaim := { program := "ythmeffpickejkaa", sum := "589a0a71374b473bd5a578d9be7935a655549c8b0345caab6f7610392b39eef9", func := "shunt/shuntlaw7.ModelLong", spec := "modelLong", unfollowed := true, recurses := true, apart := false }
def ModelLongSaid : Prop := modelLongRow.holds Try.pinned (OpenSpec.ofChange modelLongSpec)

/-- ITS FALSE NEIGHBOUR: 'it returns false'. Refute it at one input. -/
def modelLongWrong : ChangeSpec := { name := "modelLong", fn := fun _ => fun
  | [d] => { results := [.lit (.bool false)], args := [d] }
  | _ => none }
def ModelLongWrongFalsely : Prop := modelLongRow.holds Try.pinned (OpenSpec.ofChange modelLongWrong)

/-- 'shuntlaw7.ModelSplit': WHATEVER THE INPUT: true; the input reads as it did. -/
def modelSplitSpec : ChangeSpec := { name := "modelSplit", fn := fun _ => fun
  | [d1, d2, d3, d4] => { results := [.lit (.bool true)], args := [d1, d2, d3, d4] }
  | _ => none }
def modelSplitRow : OpenClaim := { program := "ythmeffpickejkaa", sum := "589a0a71374b473bd5a578d9be7935a655549c8b0345caab6f7610392b39eef9", func := "shunt/shuntlaw7.ModelSplit", spec := "modelSplit", unfollowed := true, recurses := true, apart := false }
def ModelSplitSaid : Prop := modelSplitRow.holds Try.pinned (OpenSpec.ofChange modelSplitSpec)

/-- ITS FALSE NEIGHBOUR: 'it returns false'. Refute it at one input. -/
def modelSplitWrong : ChangeSpec := { name := "modelSplit", fn := fun _ => fun
  | [d1, d2, d3, d4] => { results := [.lit (.bool false)], args := [d1, d2, d3, d4] }
  | _ => none }
def ModelSplitWrongFalsely : Prop := modelSplitRow.holds Try.pinned (OpenSpec.ofChange modelSplitWrong)

/-- 'shuntlaw7.ModelSwap': WHATEVER THE INPUT: true; the input reads as it did. -/
def modelSwapSpec : ChangeSpec := { name := "modelSwap", fn := fun _ => fun
  | [d1, d2, d3, d4] => { results := [.lit (.bool true)], args := [d1, d2, d3, d4] }
  | _ => none }
def modelSwapRow : OpenClaim := { program := "ythmeffpickejkaa", sum := "589a0a71374b473bd5a578d9be7935a655549c8b0345caab6f7610392b39eef9", func := "shunt/shuntlaw7.ModelSwap", spec := "modelSwap", unfollowed := true, recurses := true, apart := false }
def ModelSwapSaid : Prop := modelSwapRow.holds Try.pinned (OpenSpec.ofChange modelSwapSpec)

/-- ITS FALSE NEIGHBOUR: 'it returns false'. Refute it at one input. -/
def modelSwapWrong : ChangeSpec := { name := "modelSwap", fn := fun _ => fun
  | [d1, d2, d3, d4] => { results := [.lit (.bool false)], args := [d1, d2, d3, d4] }
  | _ => none }
def ModelSwapWrongFalsely : Prop := modelSwapRow.holds Try.pinned (OpenSpec.ofChange modelSwapWrong)

/-- 'shuntlaw7.ModelHeld': WHATEVER THE INPUT: true; the input reads as it did. -/
def modelHeldSpec : ChangeSpec := { name := "modelHeld", fn := fun _ => fun
  | [d1, d2, d3, d4] => { results := [.lit (.bool true)], args := [d1, d2, d3, d4] }
  | _ => none }
def modelHeldRow : OpenClaim := { program := "ythmeffpickejkaa", sum := "589a0a71374b473bd5a578d9be7935a655549c8b0345caab6f7610392b39eef9", func := "shunt/shuntlaw7.ModelHeld", spec := "modelHeld", unfollowed := true, recurses := true, apart := false }
def ModelHeldSaid : Prop := modelHeldRow.holds Try.pinned (OpenSpec.ofChange modelHeldSpec)

/-- ITS FALSE NEIGHBOUR: 'it returns false'. Refute it at one input. -/
def modelHeldWrong : ChangeSpec := { name := "modelHeld", fn := fun _ => fun
  | [d1, d2, d3, d4] => { results := [.lit (.bool false)], args := [d1, d2, d3, d4] }
  | _ => none }
def ModelHeldWrongFalsely : Prop := modelHeldRow.holds Try.pinned (OpenSpec.ofChange modelHeldWrong)

/- THE SECOND FORM. 'bulk': how many values and letters a reading holds, each counted each time it is reached (what is shared counts as often as it is met; a slice's spare places count too). A statement '..UptoSaid' is the law's where the arguments, and the package variables that the reading takes, are together of bulk at most 1048576: NARROWER than '..Said'. Prove '..Said' where nothing that the law and all that it calls make is longer than what came in: it says more and counts as full. Else prove '..UptoSaid'. A law counts once. -/
mutual
def uptoBulk {H : Type} : DataW H → Nat
  | .lit (.string bytes) => bytes.length + 1
  | .lit _ => 1
  | .nil => 1
  | .ptr d => uptoBulk d + 1
  | .slice elems spare => uptoBulkAll elems + uptoBulkAll spare + 1
  | .agg parts => uptoBulkAll parts + 1
  | .iface _ d => uptoBulk d + 1
  | .map entries => uptoBulkEntries entries + 1
  | .held _ => 1
def uptoBulkAll {H : Type} : List (DataW H) → Nat
  | [] => 0
  | d :: r => uptoBulk d + uptoBulkAll r
def uptoBulkEntries {H : Type} : List (Lit × DataW H) → Nat
  | [] => 0
  | x :: r => uptoBulkEntry x + uptoBulkEntries r
def uptoBulkEntry {H : Type} : Lit × DataW H → Nat
  | (.string bytes, d) => bytes.length + uptoBulk d + 1
  | (_, d) => uptoBulk d + 1
 end
def uptoSmall : (H : Type) → List (DataW H) → Bool := fun _ ds => decide (uptoBulkAll ds ≤ 1048576)
def OpenSpec.upto (s : _root_.Go.ChangeSpec) : _root_.Go.OpenSpec := { _root_.Go.OpenSpec.ofChange s with cond := some uptoSmall }

/-- 'shuntlaw7.ModelDoes', WHERE WHAT IT READS IS OF BULK AT MOST 1048576: true; the input reads as it did. -/
def modelDoesUptoRow : OpenClaim := { program := "ythmeffpickejkaa", sum := "589a0a71374b473bd5a578d9be7935a655549c8b0345caab6f7610392b39eef9", func := "shunt/shuntlaw7.ModelDoes", spec := "modelDoes", unfollowed := true, recurses := true, apart := false, narrowed := true }
def ModelDoesUptoSaid : Prop := modelDoesUptoRow.holds Try.pinned (OpenSpec.upto modelDoesSpec)

/-- 'shuntlaw7.ModelUndo', WHERE WHAT IT READS IS OF BULK AT MOST 1048576: true; the input reads as it did. -/
def modelUndoUptoRow : OpenClaim := { program := "ythmeffpickejkaa", sum := "589a0a71374b473bd5a578d9be7935a655549c8b0345caab6f7610392b39eef9", func := "shunt/shuntlaw7.ModelUndo", spec := "modelUndo", unfollowed := true, recurses := true, apart := false, narrowed := true }
def ModelUndoUptoSaid : Prop := modelUndoUptoRow.holds Try.pinned (OpenSpec.upto modelUndoSpec)

/-- 'shuntlaw7.ModelRest', WHERE WHAT IT READS IS OF BULK AT MOST 1048576: true; the input reads as it did. -/
def modelRestUptoRow : OpenClaim := { program := "ythmeffpickejkaa", sum := "589a0a71374b473bd5a578d9be7935a655549c8b0345caab6f7610392b39eef9", func := "shunt/shuntlaw7.ModelRest", spec := "modelRest", unfollowed := true, recurses := true, apart := false, narrowed := true }
def ModelRestUptoSaid : Prop := modelRestUptoRow.holds Try.pinned (OpenSpec.upto modelRestSpec)

/-- 'shuntlaw7.ModelGrows', WHERE WHAT IT READS IS OF BULK AT MOST 1048576: true; the input reads as it did. -/
def modelGrowsUptoRow : OpenClaim := { program := "ythmeffpickejkaa", sum := "589a0a71374b473bd5a578d9be7935a655549c8b0345caab6f7610392b39eef9", func := "shunt/shuntlaw7.ModelGrows", spec := "modelGrows", unfollowed := true, recurses := true, apart := false, narrowed := true }
def ModelGrowsUptoSaid : Prop := modelGrowsUptoRow.holds Try.pinned (OpenSpec.upto modelGrowsSpec)

/-- 'shuntlaw7.ModelFull', WHERE WHAT IT READS IS OF BULK AT MOST 1048576: true; the input reads as it did. -/
def modelFullUptoRow : OpenClaim := { program := "ythmeffpickejkaa", sum := "589a0a71374b473bd5a578d9be7935a655549c8b0345caab6f7610392b39eef9", func := "shunt/shuntlaw7.ModelFull", spec := "modelFull", unfollowed := true, recurses := true, apart := false, narrowed := true }
def ModelFullUptoSaid : Prop := modelFullUptoRow.holds Try.pinned (OpenSpec.upto modelFullSpec)

/-- 'shuntlaw7.ModelIgnores', WHERE WHAT IT READS IS OF BULK AT MOST 1048576: true; the input reads as it did. -/
def modelIgnoresUptoRow : OpenClaim := { program := "ythmeffpickejkaa", sum := "589a0a71374b473bd5a578d9be7935a655549c8b0345caab6f7610392b39eef9", func := "shunt/shuntlaw7.ModelIgnores", spec := "modelIgnores", unfollowed := true, recurses := true, apart := false, narrowed := true }
def ModelIgnoresUptoSaid : Prop := modelIgnoresUptoRow.holds Try.pinned (OpenSpec.upto modelIgnoresSpec)

/-- 'shuntlaw7.ModelLong', WHERE WHAT IT READS IS OF BULK AT MOST 1048576: true; the input reads as it did. -/
def modelLongUptoRow : OpenClaim := { program := "ythmeffpickejkaa", sum := "589a0a71374b473bd5a578d9be7935a655549c8b0345caab6f7610392b39eef9", func := "shunt/shuntlaw7.ModelLong", spec := "modelLong", unfollowed := true, recurses := true, apart := false, narrowed := true }
def ModelLongUptoSaid : Prop := modelLongUptoRow.holds Try.pinned (OpenSpec.upto modelLongSpec)

/-- 'shuntlaw7.ModelSplit', WHERE WHAT IT READS IS OF BULK AT MOST 1048576: true; the input reads as it did. -/
def modelSplitUptoRow : OpenClaim := { program := "ythmeffpickejkaa", sum := "589a0a71374b473bd5a578d9be7935a655549c8b0345caab6f7610392b39eef9", func := "shunt/shuntlaw7.ModelSplit", spec := "modelSplit", unfollowed := true, recurses := true, apart := false, narrowed := true }
def ModelSplitUptoSaid : Prop := modelSplitUptoRow.holds Try.pinned (OpenSpec.upto modelSplitSpec)

/-- 'shuntlaw7.ModelSwap', WHERE WHAT IT READS IS OF BULK AT MOST 1048576: true; the input reads as it did. -/
def modelSwapUptoRow : OpenClaim := { program := "ythmeffpickejkaa", sum := "589a0a71374b473bd5a578d9be7935a655549c8b0345caab6f7610392b39eef9", func := "shunt/shuntlaw7.ModelSwap", spec := "modelSwap", unfollowed := true, recurses := true, apart := false, narrowed := true }
def ModelSwapUptoSaid : Prop := modelSwapUptoRow.holds Try.pinned (OpenSpec.upto modelSwapSpec)

/-- 'shuntlaw7.ModelHeld', WHERE WHAT IT READS IS OF BULK AT MOST 1048576: true; the input reads as it did. -/
def modelHeldUptoRow : OpenClaim := { program := "ythmeffpickejkaa", sum := "589a0a71374b473bd5a578d9be7935a655549c8b0345caab6f7610392b39eef9", func := "shunt/shuntlaw7.ModelHeld", spec := "modelHeld", unfollowed := true, recurses := true, apart := false, narrowed := true }
def ModelHeldUptoSaid : Prop := modelHeldUptoRow.holds Try.pinned (OpenSpec.upto modelHeldSpec)

end Rows
end Go.Proofs.Ythmeffpickejkaa
