/- The small numbers as float bits. -/
import Derived.Test.YtgeiegjpnnbloaaDoorKit
import Derived.Test.YtgeiegjpnnbloaaDoorFloat
namespace Go.Proofs.YtgeiegjpnnbloaaDoor
open Go.RowKit

/-- The bits of a whole number. -/
def N (n : Nat) : Nat := F n
theorem N_add (a : Nat) (ha : a < 1073741824) (b : Nat) (hb : b < 1073741824) : floatBits .add .f64 (N a) (N b) = some (N (a + b)) := by
  have h := F_add (a := a) (b := b) (by omega) (by omega)
  rwa [← Int.natCast_add] at h
theorem F_lo : F (-1099511627776) = 14010698440749613056 := by decide +kernel
theorem F_hi : F 1099511627776 = 4787326403894837248 := by decide +kernel
theorem N_order (a b : Nat) (ha : a < 8589934592) (hb : b < 8589934592) : FloatKind.f64.format.order (N a) (N b) = some (compare (a : Int) b) := F_order (by omega) (by omega)
theorem N_ge (a : Nat) (ha : a < 4294967296) : (FloatKind.f64.format.order (N a) 14010698440749613056 == some .gt) = true := by
  rw [← F_lo, N, F_order (by omega) (by omega)]
  have key : ∀ x y : Int, compare x y = if x < y then .lt else if x = y then .eq else .gt := fun x y => rfl
  rw [key, if_neg (by omega), if_neg (by omega)]; rfl
theorem N_le (a : Nat) (ha : a < 4294967296) : (FloatKind.f64.format.order (N a) 4787326403894837248 == some .lt) = true := by
  rw [← F_hi, N, F_order (by omega) (by omega)]
  have key : ∀ x y : Int, compare x y = if x < y then .lt else if x = y then .eq else .gt := fun x y => rfl
  rw [key, if_pos (by omega)]; rfl
theorem N_int (a : Nat) (ha : a < 4294967296) : floatToIntVal .f64 (N a) .i64 = some (a : Int) := F_int (by omega)
theorem N_eq (a : Nat) (ha : a < 4294967296) : (FloatKind.f64.format.order (N a) (N a) == some .eq) = true := by
  rw [N_order a a (by omega) (by omega)]; simp
theorem F_zero : F 0 = 0 := by decide +kernel
theorem N_plus0 (a : Nat) (ha : a < 4294967296) : floatBits .add .f64 (N a) 0 = some (N a) := by
  have h := F_add (a := a) (b := 0) (by omega) (by omega)
  rwa [Int.add_zero, F_zero] at h
end Go.Proofs.YtgeiegjpnnbloaaDoor
