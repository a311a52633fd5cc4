/- errors.Is at a sentinel. -/
import Derived.Test.YtgeiegjpnnbloaaDoorKit
import Derived.WalkKit
import Derived.LaidEql
import Derived.Stop.Asserts
import Derived.RowKitTokens
namespace Go.Proofs.YtgeiegjpnnbloaaDoor
open Go.RowKit Go.Extern.Stop Go.Stop Go.Extern

theorem Tryd.isTypeOf (v : Value) (w : World) : (Extern.ReflectliteType.typeOf #[.iface 115 v]).run Tryd.prog w = .ok (.iface 87 (.agg #[.pointer (some ⟨4, 115, none⟩)])) w := by kernel_rfl
theorem Tryd.cmpSome : (Go.Extern.find Tryd.f75).isSome = true := by kernel_rfl
noncomputable def cmpM : Array Value → Sem Value := (Go.Extern.find Tryd.f75).get Tryd.cmpSome
theorem Tryd.isComparable (w : World) : (cmpM #[.agg #[.pointer (some ⟨4, 115, none⟩)]]).run Tryd.prog w = .ok (.bool true) w := by kernel_rfl
theorem Tryd.isMethodComparable (v : Value) (w : World) : (Go.method 252 87 v "Comparable").run Tryd.prog w = .ok (75, v) w := by kernel_rfl
theorem Tryd.isComp : (Tryd.prog.info? 115).map (·.comparable) = some true := by kernel_rfl
theorem Tryd.isSize : (Tryd.prog.info? 140).map (·.size) = some 1 := by kernel_rfl
set_option maxRecDepth 100000 in
/-- errors.Is(x, x), x a pointer to an errors.errorString. -/
theorem is_same (a : Addr) (w : World) :
    Calls Tryd.prog 13 #[.iface 115 (.pointer (some a)), .iface 115 (.pointer (some a))] w fun e w' => e = .returned (.bool true) ∧ w' = w := by
  obtain ⟨i, hi, hcmp⟩ := Option.map_eq_some_iff.1 Tryd.isComp
  obtain ⟨j, hj, hjs⟩ := Option.map_eq_some_iff.1 Tryd.isSize
  have h8 := @run_callFunc_extern Tryd.prog 25 _ Extern.ReflectliteType.typeOf Tryd.func25 (by kernel_rfl) (by kernel_rfl) (by kernel_rfl) (by kernel_rfl)
  have h32 := @run_callFunc_extern Tryd.prog 75 _ cmpM Tryd.func75 (by kernel_rfl) (by kernel_rfl) (by kernel_rfl) (Option.some_get _).symm
  have tT := Tryd.isTypeOf
  have cT := Tryd.isComparable
  have mR := Tryd.isMethodComparable
  have heq := run_eql_iface_ptr_same (P := Tryd.prog) w a Tryd.underlying47 Tryd.underlying115 hi hcmp hj
  go_enter Tryd.func13, Tryd.ntmps13
  go_wp2
  refine wp_loop_rounds 1 ?_
  rw [rounds_succ]
  go_wp2
  go_ret
  exact ⟨rfl, rfl⟩
/-- errors.Is(nil, x). -/
theorem is_nil (b : Addr) (w : World) :
    Calls Tryd.prog 13 #[.nilIface, .iface 115 (.pointer (some b))] w fun e w' => e = .returned (.bool false) ∧ w' = w := by
  have hn := run_eql_iface_nil_left (P := Tryd.prog) w 115 (.pointer (some b)) Tryd.underlying47
  go_enter Tryd.func13, Tryd.ntmps13
  go_wp2
  go_ret
  exact ⟨rfl, rfl⟩
end Go.Proofs.YtgeiegjpnnbloaaDoor
