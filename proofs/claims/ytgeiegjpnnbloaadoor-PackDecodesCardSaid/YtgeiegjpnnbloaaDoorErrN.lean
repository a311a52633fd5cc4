/- errors.Is at unlike sentinels; the three errors are three. -/
import Derived.Test.YtgeiegjpnnbloaaDoorLaidK
import Derived.Stop.LaidTwo
import Derived.LaidSub
namespace Go.Proofs.YtgeiegjpnnbloaaDoor
open Go.RowKit Go.Extern.Stop Go.Stop Go.Extern

theorem Tryd.noIs (v : Value) (xT : TypeId) (w : World) : (Instr.typeAssert (.iface 115 v) xT 89 true).run Tryd.prog w = .ok (.tuple #[.nilIface, .bool false]) w := run_typeAssert_lacksB Tryd.underlying89 (by kernel_rfl) (by kernel_rfl) v xT w
theorem Tryd.noUn (v : Value) (xT : TypeId) (w : World) : (Instr.typeAssert (.iface 115 v) xT 92 true).run Tryd.prog w = .ok (.tuple #[.nilIface, .bool false]) w := run_typeAssert_lacksB Tryd.underlying92 (by kernel_rfl) (by kernel_rfl) v xT w
theorem Tryd.noUs (v : Value) (xT : TypeId) (w : World) : (Instr.typeAssert (.iface 115 v) xT 94 true).run Tryd.prog w = .ok (.tuple #[.nilIface, .bool false]) w := run_typeAssert_lacksB Tryd.underlying94 (by kernel_rfl) (by kernel_rfl) v xT w
def IsBlk (w : World) (a : Addr) : Prop := ∃ c t, w.heap[a.block]? = some (.cells c t (0, 0))
set_option maxRecDepth 100000 in
/-- errors.Is(x, y), x and y two pointers to errors.errorString. -/
theorem is_other (a b : Addr) (w : World) (hne : a ≠ b) (ha : IsBlk w a) (hb : IsBlk w b) :
    Calls Tryd.prog 13 #[.iface 115 (.pointer (some a)), .iface 115 (.pointer (some b))] w fun e w' => e = .returned (.bool false) ∧ w' = w := by
  obtain ⟨i, hi, hcmp⟩ := Option.map_eq_some_iff.1 Tryd.isComp
  obtain ⟨j, hj, hjs⟩ := Option.map_eq_some_iff.1 Tryd.isSize
  obtain ⟨ca, ta, ha⟩ := ha
  obtain ⟨cb, tb, hb⟩ := hb
  have h8 := @run_callFunc_extern Tryd.prog 25 _ Extern.ReflectliteType.typeOf Tryd.func25 (by kernel_rfl) (by kernel_rfl) (by kernel_rfl) (by kernel_rfl)
  have h32 := @run_callFunc_extern Tryd.prog 75 _ cmpM Tryd.func75 (by kernel_rfl) (by kernel_rfl) (by kernel_rfl) (Option.some_get _).symm
  have tT := Tryd.isTypeOf
  have cT := Tryd.isComparable
  have mR := Tryd.isMethodComparable
  have n1 := Tryd.noIs
  have n2 := Tryd.noUn
  have n3 := Tryd.noUs
  have heq := run_eql_iface_ptr_other (P := Tryd.prog) (w := w) Tryd.underlying47 Tryd.underlying115 hi hcmp hj (by rw [hjs]; decide) hne ha hb
  clear ha hb hi hj
  go_enter Tryd.func13, Tryd.ntmps13
  go_wp2
  refine wp_loop_rounds 1 ?_
  rw [rounds_succ]
  go_wp2
  go_ret
  exact ⟨rfl, rfl⟩
/-- The three errors are three, each in a block. -/
structure ErrsN (w : World) (a0 a1 a2 : Addr) : Prop where
  at_ : ErrsAt w a0 a1 a2
  n10 : a1 ≠ a0
  n20 : a2 ≠ a0
  n21 : a2 ≠ a1
  k0 : IsBlk w a0
  k1 : IsBlk w a1
  k2 : IsBlk w a2
theorem IsBlk.keep {w w' : World} {a : Addr} (h : IsBlk w a) (hb : Below w.heap.size w w') : IsBlk w' a := by
  obtain ⟨c, t, e⟩ := h
  exact ⟨c, t, (hb.block _ (Array.getElem?_eq_some_iff.1 e).1).trans e⟩
theorem ErrsN.keep {w w' : World} {a0 a1 a2 : Addr} (h : ErrsN w a0 a1 a2) (hb : Below w.heap.size w w') : ErrsN w' a0 a1 a2 :=
  ⟨h.at_.keep hb, h.n10, h.n20, h.n21, h.k0.keep hb, h.k1.keep hb, h.k2.keep hb⟩
theorem errsN_of_laid {W : World} (h : laidMet Tryd.prog laid3 W) : ∃ a0 a1 a2, ErrsN W a0 a1 a2 := by
  obtain ⟨a0, a1, _, _, _, _, _, _, v0, v1, _, _, _, _, _, _, n01, b0, b1⟩ := laid_sentinels2 h Tryd.gE0 Tryd.gT0 Tryd.gE1 Tryd.gT1 Tryd.underlying47 Tryd.rowES Tryd.underlying115 Tryd.underlying140 rfl rfl Tryd.underlying9 Tryd.cellsES Tryd.cellsST
  obtain ⟨a1', a2, _, _, _, _, _, _, v1', v2, _, _, _, _, _, _, n12, _, b2⟩ := laid_sentinels2 h.tail Tryd.gE1 Tryd.gT1 Tryd.gE2 Tryd.gT2 Tryd.underlying47 Tryd.rowES Tryd.underlying115 Tryd.underlying140 rfl rfl Tryd.underlying9 Tryd.cellsES Tryd.cellsST
  have hf : laidMet Tryd.prog [("shunt/pack.errEnd", Rows.laid_shunt_pack_errEnd), ("shunt/pack.errBytes", Rows.laid_shunt_pack_errBytes)] W := by
    have := h.filter (fun x => x.1 != "shunt/pack.errSum")
    exact this
  obtain ⟨a0', a2', _, _, _, _, _, _, v0', v2', _, _, _, _, _, _, n02, _, _⟩ := laid_sentinels2 hf Tryd.gE0 Tryd.gT0 Tryd.gE2 Tryd.gT2 Tryd.underlying47 Tryd.rowES Tryd.underlying115 Tryd.underlying140 rfl rfl Tryd.underlying9 Tryd.cellsES Tryd.cellsST
  have same : ∀ {n : String} {x y : Addr}, W.var? Tryd.prog n = some #[.iface 115 (.pointer (some x))] → W.var? Tryd.prog n = some #[.iface 115 (.pointer (some y))] → x = y := fun h1 h2 => by
    rw [h1] at h2
    simpa using h2
  obtain rfl := same v1 v1'
  obtain rfl := same v0 v0'
  obtain rfl := same v2 v2'
  have c0 : W.cell? ⟨0, 0, none⟩ = some (.iface 115 (.pointer (some a0))) := by simpa using World.var?_cell Tryd.gE0 v0 0
  have c1 : W.cell? ⟨1, 0, none⟩ = some (.iface 115 (.pointer (some a1))) := by simpa using World.var?_cell Tryd.gE1 v1 0
  have c2 : W.cell? ⟨2, 0, none⟩ = some (.iface 115 (.pointer (some a2))) := by simpa using World.var?_cell Tryd.gE2 v2 0
  exact ⟨a0, a1, a2, ⟨c0, c1, c2, World.block_lt_of_cell? W ⟨2, 0, none⟩ c2⟩, fun e => n01 e.symm, fun e => n02 e.symm, fun e => n12 e.symm, ⟨_, _, b0⟩, ⟨_, _, b1⟩, ⟨_, _, b2⟩⟩
end Go.Proofs.YtgeiegjpnnbloaaDoor
