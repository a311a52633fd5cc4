/-
  NARROWER THAN 'FOR EVERY INPUT', by the rows' own cells (each row's printed sentence says how): PackDecodes: laid · PackMany: laid · PackPeaks: laid.
  DERIVED. THE GIVEN ROWS OF THIS SEAT. 3 by the template 'for every input the law returns true; each argument reads behind the call as it read before'; 0 by the template 'total and deterministic' (their statements: YtgeiegjpnnbloaaDoorTotals.lean).
  GIVEN WITH THE SEED: the statements are not yours to turn. If you find one false, say at which input.
  Laid BY PROGRAM, IN A SANDBOX (cutbox-rows.mjs): the forced cells as the released guide's own fill.sh prints them over the translation 9e7207f6c901b223… (all of the seat's roots in one cut). By AI agents, Wed Nov 11 2026. No macro, syntax, notation, axiom, sorry.
-/
import Derived.Test.YtgeiegjpnnbloaaDoorChecked
import GoSem.Claim
import GoSem.ClaimJoined
import GoSem.ClaimMapViews
import Derived.JoinedTies
import Derived.KernelRfl
namespace Go.Proofs.YtgeiegjpnnbloaaDoor
/- THE CELL 'sum', in the pinned program and in every row, IS THE sha256 OF THE DUMP (.gsa) THAT YtgeiegjpnnbloaaDoorProg.lean LOADS. Nothing in Lean hashes anything: it is a label: what it is worth is what the hold of that sum in a sandbox is worth. -/
noncomputable def Tryd.pinned : Pinned := { name := "ytgeiegjpnnbloaadoor", sum := "9e7207f6c901b22367bbda86e1928c89d1a9c6e6b00aaff6ebd16cf1b372b686", checked := Tryd.checked }
namespace Rows
def none {H : Type} : Left H := { results := [], args := [] }

/- WHAT THE LISTED PACKAGE-LEVEL VARIABLES READ AS WHEN THE CALL BEGINS. Each datum BY PROGRAM (the guide's laid-datum.mjs) off the statement by which the dump's own 'gosem.cut.vars' lays the variable. In a bare row this is a premise. The card (YtgeiegjpnnbloaaDoorCards.lean) ties it to the program's text. -/
def laid_shunt_pack_errEnd {H : Type} : DataW H := .iface "*errors.errorString" (.ptr (.agg [.lit (.string [116, 104, 101, 32, 98, 121, 116, 101, 115, 32, 101, 110, 100, 32, 116, 111, 111, 32, 101, 97, 114, 108, 121])]))
def laid_shunt_pack_errSum {H : Type} : DataW H := .iface "*errors.errorString" (.ptr (.agg [.lit (.string [116, 104, 101, 32, 115, 117, 109, 32, 100, 111, 101, 115, 32, 110, 111, 116, 32, 102, 105, 116])]))
def laid_shunt_pack_errBytes {H : Type} : DataW H := .iface "*errors.errorString" (.ptr (.agg [.lit (.string [116, 104, 101, 114, 101, 32, 105, 115, 32, 110, 111, 32, 115, 117, 99, 104, 32, 115, 99, 114, 105, 112, 116])]))

/-- 'shuntlaw19.PackDecodes': WHATEVER THE INPUT: true; the input reads as it did. -/
def packDecodesSpec : ChangeSpec := { name := "packDecodes", fn := fun _ => fun
  | [d] => { results := [.lit (.bool true)], args := [d] }
  | _ => none }
def packDecodesRow : OpenClaim := { program := "ytgeiegjpnnbloaadoor", sum := "9e7207f6c901b22367bbda86e1928c89d1a9c6e6b00aaff6ebd16cf1b372b686", func := "shunt/shuntlaw19.PackDecodes", spec := "packDecodes", inPlace := ["math.archTrunc", "math.Float64bits", "math.Float64frombits", "internal/reflectlite.TypeOf"], unfollowed := true, recurses := true, named := ["shunt/pack.errEnd", "shunt/pack.errSum", "shunt/pack.errBytes"], apart := false, laid := [("shunt/pack.errEnd", laid_shunt_pack_errEnd), ("shunt/pack.errSum", laid_shunt_pack_errSum), ("shunt/pack.errBytes", laid_shunt_pack_errBytes)] }
def PackDecodesSaid : Prop := packDecodesRow.holds Tryd.pinned (OpenSpec.ofChange packDecodesSpec)

/-- ITS FALSE NEIGHBOUR: 'it returns false'. Refute it at one input. -/
def packDecodesWrong : ChangeSpec := { name := "packDecodes", fn := fun _ => fun
  | [d] => { results := [.lit (.bool false)], args := [d] }
  | _ => none }
def PackDecodesWrongFalsely : Prop := packDecodesRow.holds Tryd.pinned (OpenSpec.ofChange packDecodesWrong)

/-- 'shuntlaw19.PackMany': WHATEVER THE INPUT: true; the input reads as it did. -/
def packManySpec : ChangeSpec := { name := "packMany", fn := fun _ => fun
  | [d] => { results := [.lit (.bool true)], args := [d] }
  | _ => none }
def packManyRow : OpenClaim := { program := "ytgeiegjpnnbloaadoor", sum := "9e7207f6c901b22367bbda86e1928c89d1a9c6e6b00aaff6ebd16cf1b372b686", func := "shunt/shuntlaw19.PackMany", spec := "packMany", inPlace := ["math.archTrunc", "math.Float64bits", "math.Float64frombits", "internal/reflectlite.TypeOf"], unfollowed := true, recurses := true, named := ["shunt/pack.errEnd", "shunt/pack.errSum", "shunt/pack.errBytes"], apart := false, laid := [("shunt/pack.errEnd", laid_shunt_pack_errEnd), ("shunt/pack.errSum", laid_shunt_pack_errSum), ("shunt/pack.errBytes", laid_shunt_pack_errBytes)] }
def PackManySaid : Prop := packManyRow.holds Tryd.pinned (OpenSpec.ofChange packManySpec)

/-- ITS FALSE NEIGHBOUR: 'it returns false'. Refute it at one input. -/
def packManyWrong : ChangeSpec := { name := "packMany", fn := fun _ => fun
  | [d] => { results := [.lit (.bool false)], args := [d] }
  | _ => none }
def PackManyWrongFalsely : Prop := packManyRow.holds Tryd.pinned (OpenSpec.ofChange packManyWrong)

/-- 'shuntlaw19.PackPeaks': WHATEVER THE INPUT: true; the input reads as it did. -/
def packPeaksSpec : ChangeSpec := { name := "packPeaks", fn := fun _ => fun
  | [d1, d2] => { results := [.lit (.bool true)], args := [d1, d2] }
  | _ => none }
def packPeaksRow : OpenClaim := { program := "ytgeiegjpnnbloaadoor", sum := "9e7207f6c901b22367bbda86e1928c89d1a9c6e6b00aaff6ebd16cf1b372b686", func := "shunt/shuntlaw19.PackPeaks", spec := "packPeaks", inPlace := ["math.archTrunc", "math.Float64bits", "math.Float64frombits", "internal/reflectlite.TypeOf"], unfollowed := true, recurses := true, named := ["shunt/pack.errEnd", "shunt/pack.errSum", "shunt/pack.errBytes"], apart := false, laid := [("shunt/pack.errEnd", laid_shunt_pack_errEnd), ("shunt/pack.errSum", laid_shunt_pack_errSum), ("shunt/pack.errBytes", laid_shunt_pack_errBytes)] }
def PackPeaksSaid : Prop := packPeaksRow.holds Tryd.pinned (OpenSpec.ofChange packPeaksSpec)

/-- ITS FALSE NEIGHBOUR: 'it returns false'. Refute it at one input. -/
def packPeaksWrong : ChangeSpec := { name := "packPeaks", fn := fun _ => fun
  | [d1, d2] => { results := [.lit (.bool false)], args := [d1, d2] }
  | _ => none }
def PackPeaksWrongFalsely : Prop := packPeaksRow.holds Tryd.pinned (OpenSpec.ofChange packPeaksWrong)

/- THE SECOND FORM. 'bulk': how many values and letters a reading holds, each counted each time it is reached (what is shared counts as often as it is met; a slice's spare places count too). A statement '..UptoSaid' is the law's where the arguments, and the package variables that the reading takes, are together of bulk at most 1048576: NARROWER than '..Said'. Prove '..Said' where nothing that the law and all that it calls make is longer than what came in: it says more and counts as full. Else prove '..UptoSaid'. A law counts once. -/
mutual
def uptoBulk {H : Type} : DataW H → Nat
  | .lit (.string bytes) => bytes.length + 1
  | .lit _ => 1
  | .nil => 1
  | .ptr d => uptoBulk d + 1
  | .slice elems spare => uptoBulkAll elems + uptoBulkAll spare + 1
  | .agg parts => uptoBulkAll parts + 1
  | .iface _ d => uptoBulk d + 1
  | .map entries => uptoBulkEntries entries + 1
  | .held _ => 1
def uptoBulkAll {H : Type} : List (DataW H) → Nat
  | [] => 0
  | d :: r => uptoBulk d + uptoBulkAll r
def uptoBulkEntries {H : Type} : List (Lit × DataW H) → Nat
  | [] => 0
  | x :: r => uptoBulkEntry x + uptoBulkEntries r
def uptoBulkEntry {H : Type} : Lit × DataW H → Nat
  | (.string bytes, d) => bytes.length + uptoBulk d + 1
  | (_, d) => uptoBulk d + 1
 end
def uptoSmall : (H : Type) → List (DataW H) → Bool := fun _ ds => decide (uptoBulkAll ds ≤ 1048576)
def OpenSpec.upto (s : _root_.Go.ChangeSpec) : _root_.Go.OpenSpec := { _root_.Go.OpenSpec.ofChange s with cond := some uptoSmall }

/-- 'shuntlaw19.PackDecodes', WHERE WHAT IT READS IS OF BULK AT MOST 1048576: true; the input reads as it did. -/
def packDecodesUptoRow : OpenClaim := { program := "ytgeiegjpnnbloaadoor", sum := "9e7207f6c901b22367bbda86e1928c89d1a9c6e6b00aaff6ebd16cf1b372b686", func := "shunt/shuntlaw19.PackDecodes", spec := "packDecodes", inPlace := ["math.archTrunc", "math.Float64bits", "math.Float64frombits", "internal/reflectlite.TypeOf"], unfollowed := true, recurses := true, named := ["shunt/pack.errEnd", "shunt/pack.errSum", "shunt/pack.errBytes"], apart := false, laid := [("shunt/pack.errEnd", laid_shunt_pack_errEnd), ("shunt/pack.errSum", laid_shunt_pack_errSum), ("shunt/pack.errBytes", laid_shunt_pack_errBytes)], narrowed := true }
def PackDecodesUptoSaid : Prop := packDecodesUptoRow.holds Tryd.pinned (OpenSpec.upto packDecodesSpec)

/-- 'shuntlaw19.PackMany', WHERE WHAT IT READS IS OF BULK AT MOST 1048576: true; the input reads as it did. -/
def packManyUptoRow : OpenClaim := { program := "ytgeiegjpnnbloaadoor", sum := "9e7207f6c901b22367bbda86e1928c89d1a9c6e6b00aaff6ebd16cf1b372b686", func := "shunt/shuntlaw19.PackMany", spec := "packMany", inPlace := ["math.archTrunc", "math.Float64bits", "math.Float64frombits", "internal/reflectlite.TypeOf"], unfollowed := true, recurses := true, named := ["shunt/pack.errEnd", "shunt/pack.errSum", "shunt/pack.errBytes"], apart := false, laid := [("shunt/pack.errEnd", laid_shunt_pack_errEnd), ("shunt/pack.errSum", laid_shunt_pack_errSum), ("shunt/pack.errBytes", laid_shunt_pack_errBytes)], narrowed := true }
def PackManyUptoSaid : Prop := packManyUptoRow.holds Tryd.pinned (OpenSpec.upto packManySpec)

/-- 'shuntlaw19.PackPeaks', WHERE WHAT IT READS IS OF BULK AT MOST 1048576: true; the input reads as it did. -/
def packPeaksUptoRow : OpenClaim := { program := "ytgeiegjpnnbloaadoor", sum := "9e7207f6c901b22367bbda86e1928c89d1a9c6e6b00aaff6ebd16cf1b372b686", func := "shunt/shuntlaw19.PackPeaks", spec := "packPeaks", inPlace := ["math.archTrunc", "math.Float64bits", "math.Float64frombits", "internal/reflectlite.TypeOf"], unfollowed := true, recurses := true, named := ["shunt/pack.errEnd", "shunt/pack.errSum", "shunt/pack.errBytes"], apart := false, laid := [("shunt/pack.errEnd", laid_shunt_pack_errEnd), ("shunt/pack.errSum", laid_shunt_pack_errSum), ("shunt/pack.errBytes", laid_shunt_pack_errBytes)], narrowed := true }
def PackPeaksUptoSaid : Prop := packPeaksUptoRow.holds Tryd.pinned (OpenSpec.upto packPeaksSpec)

end Rows
end Go.Proofs.YtgeiegjpnnbloaaDoor
