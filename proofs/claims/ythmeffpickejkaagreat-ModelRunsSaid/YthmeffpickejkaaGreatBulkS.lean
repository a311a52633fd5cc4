/- The sizes of a stock that was read in bulk. -/
import Derived.Test.YthmeffpickejkaaGreatBulk
import Derived.Test.YthmeffpickejkaaGreatOpenS
namespace Go.Proofs.YthmeffpickejkaaGreat
open Go.ChangeShapes Go.WideShapes Go.ChangeAt Go.RowKit Go.Deep

section
variable {H : Type} {enc : TypeId × Value → H} {w : World} {base : Nat} {held : Bool}
theorem stock_small {A : Option Addr} {n cap : Nat} {ss : List SC} {sd : List ByteArray} {d : DataW H} {p : List MemPlace} (h : DataW.Trod enc Tryz.prog w base (fun _ => true) held 27 (.slice A n cap) d p) (hK : StockAt w A n ss sd) : n ≤ Rows.uptoBulk d ∧ ∀ x ∈ ss, x.n ≤ Rows.uptoBulk d := by
  obtain ⟨fuel, hf⟩ := h
  refine ⟨bulk_slice Tryz.underlying27 hf, fun x hx => ?_⟩
  obtain ⟨k, hk⟩ := List.getElem?_of_mem hx
  obtain ⟨m, z, hz, hzb⟩ := bulk_elem SC.len Tryz.underlying27 (by kernel_rfl) hf hK.sl hK.len hk
  exact Nat.le_trans (bulk_slice Tryz.underlying57 hz) hzb
end
end Go.Proofs.YthmeffpickejkaaGreat
