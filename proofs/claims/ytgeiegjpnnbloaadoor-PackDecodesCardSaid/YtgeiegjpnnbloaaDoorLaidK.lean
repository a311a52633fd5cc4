/- What the row's cell 'laid' gives: the three errors of pack; a world that meets it. -/
import Derived.Test.YtgeiegjpnnbloaaDoorDecode
import Derived.Lay
import Derived.RowKit
import Derived.ChangeShapes
import Derived.Stop.LaidErr
namespace Go.Proofs.YtgeiegjpnnbloaaDoor
open Go.ChangeShapes Go.WideShapes Go.ChangeAt Go.RowKit

abbrev laid3 : List (String × DataW Unit) := [("shunt/pack.errEnd", Rows.laid_shunt_pack_errEnd), ("shunt/pack.errSum", Rows.laid_shunt_pack_errSum), ("shunt/pack.errBytes", Rows.laid_shunt_pack_errBytes)]
theorem Tryd.gE0 : Tryd.prog.globalNamed "shunt/pack.errEnd" = some 0 := by kernel_rfl
theorem Tryd.gE1 : Tryd.prog.globalNamed "shunt/pack.errSum" = some 1 := by kernel_rfl
theorem Tryd.gE2 : Tryd.prog.globalNamed "shunt/pack.errBytes" = some 2 := by kernel_rfl
theorem Tryd.gT0 : (Tryd.prog.globals[0]?).map (·.type) = some 47 := by kernel_rfl
theorem Tryd.gT1 : (Tryd.prog.globals[1]?).map (·.type) = some 47 := by kernel_rfl
theorem Tryd.gT2 : (Tryd.prog.globals[2]?).map (·.type) = some 47 := by kernel_rfl
theorem Tryd.cellsES : Tryd.prog.cellsOf 140 = 1 := by kernel_rfl
theorem Tryd.cellsST : Tryd.prog.cellsOf 9 = 1 := by kernel_rfl
theorem Tryd.starES : "*" ++ "errors.errorString" = "*errors.errorString" := by decide
theorem Tryd.rowES (u : TypeId) (h : Tryd.prog.typeName? 3 u = some "*errors.errorString") : u = 115 :=
  typeName_ptr_named (nm := "errors.errorString") (by rw [Tryd.starES]; kernel_rfl) (by kernel_rfl) (by decide) u (by rw [Tryd.starES]; exact h)

theorem errs_of_laid {W : World} (h : laidMet Tryd.prog laid3 W) : ∃ a0 a1 a2, ErrsAt W a0 a1 a2 := by
  obtain ⟨a0, _, v0, -, -, -⟩ := laid_sentinel h Tryd.gE0 Tryd.gT0 Tryd.underlying47 Tryd.rowES Tryd.underlying115 Tryd.underlying140 rfl rfl Tryd.underlying9 Tryd.cellsES Tryd.cellsST
  obtain ⟨a1, _, v1, -, -, -⟩ := laid_sentinel h.tail Tryd.gE1 Tryd.gT1 Tryd.underlying47 Tryd.rowES Tryd.underlying115 Tryd.underlying140 rfl rfl Tryd.underlying9 Tryd.cellsES Tryd.cellsST
  obtain ⟨a2, _, v2, -, -, -⟩ := laid_sentinel h.tail.tail Tryd.gE2 Tryd.gT2 Tryd.underlying47 Tryd.rowES Tryd.underlying115 Tryd.underlying140 rfl rfl Tryd.underlying9 Tryd.cellsES Tryd.cellsST
  have c0 : W.cell? ⟨0, 0, none⟩ = some (.iface 115 (.pointer (some a0))) := by simpa using World.var?_cell Tryd.gE0 v0 0
  have c1 : W.cell? ⟨1, 0, none⟩ = some (.iface 115 (.pointer (some a1))) := by simpa using World.var?_cell Tryd.gE1 v1 0
  have c2 : W.cell? ⟨2, 0, none⟩ = some (.iface 115 (.pointer (some a2))) := by simpa using World.var?_cell Tryd.gE2 v2 0
  exact ⟨a0, a1, a2, c0, c1, c2, World.block_lt_of_cell? W ⟨2, 0, none⟩ c2⟩

noncomputable abbrev laidW (os : Os) : World := World.laidAll Tryd.prog os laid3
theorem laidW_met (os : Os) (args : Array Value) : laidMet Tryd.prog laid3 ((laidW os).forCall (fun _ _ => 0) ⟨#[], args, []⟩).memory :=
  laidMet_laidAll args (by kernel_rfl) (by kernel_rfl)
theorem laidW_os (os : Os) : (laidW os).os = os := World.laidAll_os _ _ _
end Go.Proofs.YtgeiegjpnnbloaaDoor
