/- shuntref1.Is of a small toll that is not nought. -/
import Derived.Test.YthmeffpickejkaaGreatNum0
import Derived.Test.YthmeffpickejkaaGreatRWeight
namespace Go.Proofs.YthmeffpickejkaaGreat
open Go.RowKit

def PartRes (a : Nat) (w : World) (e : Ending) (w' : World) : Prop := e = .returned (.tuple #[.int .i64 a, .bool true]) ∧ w' = w
set_option maxHeartbeats 4000000 in
theorem part_any (a : Nat) (ha : a < 4294967296) (w : World) : Calls Tryz.prog 48 #[.float .f64 (N a)] w (PartRes a w) := by
  have h1 := N_ge a ha
  have h2 := N_le a ha
  have h3 := fun w => run_convert_float_int (P := Tryz.prog) w 73 3 .f64 .i64 (N a) a (by kernel_rfl) Tryz.underlying3 (N_int a ha)
  have h4 : (FloatKind.f64.format.order (floatOfInt .f64 (a : Int)) (N a) == some .eq) = true := N_eq a ha
  have h5 : (FloatKind.f64.format.order (N a) 14010698440749613056 == some .eq) = false := by
    have : FloatKind.f64.format.order (N a) 14010698440749613056 = some .gt := by simpa using h1
    rw [this]; rfl
  go_enter Tryz.func48, Tryz.ntmps48
  go_wp2
  go_ret2
  exact ⟨rfl, rfl⟩
def OfRes (a b : Nat) (w : World) (e : Ending) (w' : World) : Prop := e = .returned (.tuple #[tollV a b, .bool true]) ∧ Below w.heap.size w w'
set_option maxHeartbeats 4000000 in
theorem of_any (a b : Nat) (ha : a < 4294967296) (hb : b < 4294967296) (w : World) : Calls Tryz.prog 26 #[.complex .f64 (N a) (N b)] w (OfRes a b w) := by
  have hB := Blk.new w 48 #[.int .i64 0, .int .i64 0]
  go_enter Tryz.func26, Tryz.ntmps26
  go_upto_region 2 with (go_at_call 48; refine (part_any a ha _).mono ?_; rintro e w1 ⟨rfl, hw⟩; rw [hw]; clear hw)
  go_wp2_with (first | (go_at_call 48; refine (part_any b hb _).mono ?_; rintro e w2 ⟨rfl, hw⟩; rw [hw]; clear hw) | (refine wpList_store_blk rfl 48 (.tmp 2) (.tmp 29) rfl hB #[.int .i64 a, .int .i64 b] rfl rfl (by kernel_rfl) rfl (by simp [Value.oneCell']) ?_; intro w7 hB7 hg7 hs7))
  exact ret_cell_t rfl rfl (load_blk hB7 Tryz.underlying48 rfl (by kernel_rfl)) rfl ⟨rfl, ((Below.refl _ _).alloc (Nat.le_refl _) _).trans (below_grown hg7 (by simp) (fun g e => by injection e with e; omega))⟩
set_option maxRecDepth 100000 in
set_option maxHeartbeats 4000000 in
theorem isT_any (a b : Nat) (ha : a < 1000000000) (hb : b < 1000000000) (ha0 : 0 < a) (hb0 : 0 < b) (w : World) : Calls Tryz.prog 12 #[.complex .f64 (N a) (N b), tollV a b] w fun e w' => e = .returned (.bool true) ∧ Below w.heap.size w w' := by
  have hB := Blk.new w 48 #[.int .i64 a, .int .i64 b]
  have hb0' := (Below.refl w.heap.size w).alloc (Nat.le_refl _) (.cells #[.int .i64 a, .int .i64 b] 48)
  have e1 : ((a : Int) != 0) = true := by simp; omega
  have e2 : ((b : Int) != 0) = true := by simp; omega
  unfold tollV
  go_enter Tryz.func12, Tryz.ntmps12
  go_upto_region 2 with (go_at_call 26; refine (of_any a b (by omega) (by omega) _).mono ?_; rintro e w1 ⟨rfl, hb1⟩; unfold tollV; replace hB := hB.below hb1 hB.lt)
  have hbe := hb0'.trans (hb1.mono (by simp))
  have b0 := hB.cell 0; have b1 := hB.cell 1
  have hBl := hB.lt
  have hz := hbe.size
  clear hb0' hb1
  go_wp2
  go_ret
  exact ⟨rfl, hbe.alloc hz _⟩
end Go.Proofs.YthmeffpickejkaaGreat
