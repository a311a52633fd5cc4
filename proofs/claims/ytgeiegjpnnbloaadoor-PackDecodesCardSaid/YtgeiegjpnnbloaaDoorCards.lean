/-
  DERIVED. GIVEN WITH THE SEED: THE CARDS: each row of YtgeiegjpnnbloaaDoorRows.lean that lists a variable, with what it lists TIED to the program's text (the seventh form; the later family's looks); each row that meets fmt, with fmt's text TOLD by the authors' own Lean function (tested against real Go, not proved from fmt's source: count such statements apart). THE CARD IS WHAT COUNTS. Prove the row's statement (the work); the ties are given (YtgeiegjpnnbloaaDoorTie.lean); close each card by the builder's one call (the guide's Derived/Test/ToyasCard.lean, 'card_holds'). Laid BY PROGRAM, IN A SANDBOX (cutbox-door.mjs). By AI agents, Wed Nov 11 2026. No macro, syntax, notation, axiom, sorry.
-/
import Derived.Test.YtgeiegjpnnbloaaDoorRows
import GoSem.ClaimSeven
namespace Go.Proofs.YtgeiegjpnnbloaaDoor
namespace Rows

/-- THE TIED CARD OF 'shuntlaw19.PackDecodes'. -/
def packDecodesCard : Claim7 := { stood := { row := packDecodesRow, standIns := [], harness := (true, "0110537f8734ceb01c7f38b15ff46ac1c9a62e7462910232cd926bc6ebd3e4ff"), looks := true }, kinds := [], alts := [], laidByText := true, laidKinds := [.sentinel, .sentinel, .sentinel], laidTests := true, laidLooks := .later }
def PackDecodesCardSaid : Prop := Claim7.holds Tryd.pinned (.plain (OpenSpec.ofChange packDecodesSpec)) packDecodesCard

/-- THE TIED CARD OF 'shuntlaw19.PackMany'. -/
def packManyCard : Claim7 := { stood := { row := packManyRow, standIns := [], harness := (true, "0110537f8734ceb01c7f38b15ff46ac1c9a62e7462910232cd926bc6ebd3e4ff"), looks := true }, kinds := [], alts := [], laidByText := true, laidKinds := [.sentinel, .sentinel, .sentinel], laidTests := true, laidLooks := .later }
def PackManyCardSaid : Prop := Claim7.holds Tryd.pinned (.plain (OpenSpec.ofChange packManySpec)) packManyCard

/-- THE TIED CARD OF 'shuntlaw19.PackPeaks'. -/
def packPeaksCard : Claim7 := { stood := { row := packPeaksRow, standIns := [], harness := (true, "0110537f8734ceb01c7f38b15ff46ac1c9a62e7462910232cd926bc6ebd3e4ff"), looks := true }, kinds := [], alts := [], laidByText := true, laidKinds := [.sentinel, .sentinel, .sentinel], laidTests := true, laidLooks := .later }
def PackPeaksCardSaid : Prop := Claim7.holds Tryd.pinned (.plain (OpenSpec.ofChange packPeaksSpec)) packPeaksCard

/-- THE SECOND FORM's CARD OF 'shuntlaw19.PackDecodes'. -/
def packDecodesUptoCard : Claim7 := { stood := { row := packDecodesUptoRow, standIns := [], harness := (true, "0110537f8734ceb01c7f38b15ff46ac1c9a62e7462910232cd926bc6ebd3e4ff"), looks := true }, kinds := [], alts := [], laidByText := true, laidKinds := [.sentinel, .sentinel, .sentinel], laidTests := true, laidLooks := .later }
def PackDecodesUptoCardSaid : Prop := Claim7.holds Tryd.pinned (.plain (OpenSpec.upto packDecodesSpec)) packDecodesUptoCard

/-- THE SECOND FORM's CARD OF 'shuntlaw19.PackMany'. -/
def packManyUptoCard : Claim7 := { stood := { row := packManyUptoRow, standIns := [], harness := (true, "0110537f8734ceb01c7f38b15ff46ac1c9a62e7462910232cd926bc6ebd3e4ff"), looks := true }, kinds := [], alts := [], laidByText := true, laidKinds := [.sentinel, .sentinel, .sentinel], laidTests := true, laidLooks := .later }
def PackManyUptoCardSaid : Prop := Claim7.holds Tryd.pinned (.plain (OpenSpec.upto packManySpec)) packManyUptoCard

/-- THE SECOND FORM's CARD OF 'shuntlaw19.PackPeaks'. -/
def packPeaksUptoCard : Claim7 := { stood := { row := packPeaksUptoRow, standIns := [], harness := (true, "0110537f8734ceb01c7f38b15ff46ac1c9a62e7462910232cd926bc6ebd3e4ff"), looks := true }, kinds := [], alts := [], laidByText := true, laidKinds := [.sentinel, .sentinel, .sentinel], laidTests := true, laidLooks := .later }
def PackPeaksUptoCardSaid : Prop := Claim7.holds Tryd.pinned (.plain (OpenSpec.upto packPeaksSpec)) packPeaksUptoCard
end Rows
end Go.Proofs.YtgeiegjpnnbloaaDoor
