/- shuntref1.part, Of, Complex. -/
import Derived.Test.YtgeiegjpnnbloaaDoorTrunc
import Derived.ChangeMaps5
import Derived.Deep.DeepCutAuto
namespace Go.Proofs.YtgeiegjpnnbloaaDoor
open Go.RowKit

def PartRes (a : Nat) (w : World) (e : Ending) (w' : World) : Prop := e = .returned (.tuple #[.int .i64 a, .bool true]) ∧ w' = w
set_option maxHeartbeats 4000000 in
theorem rpart_any (a : Nat) (ha : a < 4294967296) (w : World) : Calls Tryd.prog 40 #[.float .f64 (N a)] w (PartRes a w) := by
  have h1 := N_ge a ha
  have h2 := N_le a ha
  have h3 := fun w => run_convert_float_int (P := Tryd.prog) w 44 3 .f64 .i64 (N a) a (by kernel_rfl) Tryd.underlying3 (N_int a ha)
  have h4 : (FloatKind.f64.format.order (floatOfInt .f64 (a : Int)) (N a) == some .eq) = true := N_eq a ha
  have h5 : (FloatKind.f64.format.order (N a) 14010698440749613056 == some .eq) = false := by
    have : FloatKind.f64.format.order (N a) 14010698440749613056 = some .gt := by simpa using h1
    rw [this]; rfl
  go_enter Tryd.func40, Tryd.ntmps40
  go_wp2
  go_ret2
  exact ⟨rfl, rfl⟩
def OfRes (a b : Nat) (w : World) (e : Ending) (w' : World) : Prop := e = .returned (.tuple #[.agg #[.int .i64 a, .int .i64 b], .bool true]) ∧ Below w.heap.size w w'
set_option maxHeartbeats 4000000 in
theorem rof_any (a b : Nat) (ha : a < 4294967296) (hb : b < 4294967296) (w : World) : Calls Tryd.prog 31 #[.complex .f64 (N a) (N b)] w (OfRes a b w) := by
  have hB := Blk.new w 76 #[.int .i64 0, .int .i64 0]
  go_enter Tryd.func31, Tryd.ntmps31
  go_upto_region 2 with (go_at_call 40; refine (rpart_any a ha _).mono ?_; rintro e w1 ⟨rfl, hw⟩; rw [hw]; clear hw)
  go_wp2_with (first | (go_at_call 40; refine (rpart_any b hb _).mono ?_; rintro e w2 ⟨rfl, hw⟩; rw [hw]; clear hw) | (refine wpList_store_blk rfl 76 (.tmp 2) (.tmp 29) rfl hB #[.int .i64 a, .int .i64 b] rfl rfl (by kernel_rfl) rfl (by simp [Value.oneCell']) ?_; intro w7 hB7 hg7 hs7))
  exact ret_cell_t rfl rfl (load_blk hB7 Tryd.underlying76 rfl (by kernel_rfl)) rfl ⟨rfl, ((Below.refl _ _).alloc (Nat.le_refl _) _).trans (below_grown hg7 (by simp) (fun g e => by injection e with e; omega))⟩
theorem F_N (a : Nat) : F (a : Int) = N a := rfl
set_option maxHeartbeats 4000000 in
theorem rcomplex_any (a b : Nat) (w : World) : Calls Tryd.prog 28 #[.agg #[.int .i64 a, .int .i64 b]] w fun e w' => e = .returned (.complex .f64 (F a) (F b)) ∧ Below w.heap.size w w' := by
  have hB := Blk.new w 76 #[.int .i64 a, .int .i64 b]
  have b0 := hB.cell 0; have b1 := hB.cell 1
  have hl := hB.lt
  have hb := (Below.refl w.heap.size w).alloc (Nat.le_refl _) (.cells #[.int .i64 a, .int .i64 b] 76)
  go_enter Tryd.func28, Tryd.ntmps28
  go_wp2
  go_ret
  exact ⟨rfl, hb⟩
end Go.Proofs.YtgeiegjpnnbloaaDoor
