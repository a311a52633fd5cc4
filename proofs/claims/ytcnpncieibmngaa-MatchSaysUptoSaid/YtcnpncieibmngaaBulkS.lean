/- The sizes of a stock that was read in bulk. -/
import Derived.Test.YtcnpncieibmngaaBulk
import Derived.Test.YtcnpncieibmngaaOpenS
namespace Go.Proofs.Ytcnpncieibmngaa
open Go.ChangeShapes Go.WideShapes Go.ChangeAt Go.RowKit Go.Deep

section
variable {H : Type} {enc : TypeId × Value → H} {w : World} {base : Nat} {held : Bool}
theorem stock_small {A : Option Addr} {n cap : Nat} {ss : List SC} {sd : List ByteArray} {d : DataW H} {p : List MemPlace} (h : DataW.Trod enc Try.prog w base (fun _ => true) held 36 (.slice A n cap) d p) (hK : StockAt w A n ss sd) : n ≤ Rows.uptoBulk d ∧ ∀ x ∈ ss, x.n ≤ Rows.uptoBulk d := by
  obtain ⟨fuel, hf⟩ := h
  refine ⟨bulk_slice Try.underlying36 hf, fun x hx => ?_⟩
  obtain ⟨k, hk⟩ := List.getElem?_of_mem hx
  obtain ⟨m, z, hz, hzb⟩ := bulk_elem SC.len Try.underlying36 (by kernel_rfl) hf hK.sl hK.len hk
  exact Nat.le_trans (bulk_slice Try.underlying45 hz) hzb
end
end Go.Proofs.Ytcnpncieibmngaa
