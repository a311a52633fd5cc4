/- []byte(s): a row of its own that holds the string's bytes. -/
import Derived.Test.YtcnpncieibmngaaTreeD
import Derived.Lib.ConvBytes
namespace Go.Proofs.Ytcnpncieibmngaa
open Go.RowKit

/-- A row of bytes that a conversion has laid. -/
structure ConvAt (w : World) (g cap : Nat) (d : ByteArray) : Prop where
  row : ∃ cur : Array Value, w.heap[g]? = some (.cells cur 5 (cur.size, cur.size + 1)) ∧ d.size ≤ cur.size ∧ cur.toList.take d.size = bytesC d
theorem ConvAt.lt {w : World} {g cap : Nat} {d : ByteArray} (h : ConvAt w g cap d) : g < w.heap.size := by
  obtain ⟨cur, hh, _⟩ := h.row
  exact (Array.getElem?_eq_some_iff.1 hh).1
theorem ConvAt.keep {w w' : World} {g cap : Nat} {d : ByteArray} (h : ConvAt w g cap d) (hk : w'.heap[g]? = w.heap[g]?) : ConvAt w' g cap d := ⟨by rw [hk]; exact h.row⟩
theorem ConvAt.sl {w : World} {g cap : Nat} {d : ByteArray} (h : ConvAt w g cap d) : Sl w w.heap.size 1 (some ⟨g, 0, none⟩) d.size (bytesC d) := by
  have hlt := h.lt
  obtain ⟨cur, hh, hc, ht⟩ := h.row
  refine ⟨by rw [bytesC_length, Nat.mul_one], fun _ => ⟨g, 0, rfl, hlt, fun i v hi => ?_⟩⟩
  rw [← ht] at hi
  have hil : i < d.size := by have := (List.getElem?_eq_some_iff.1 hi).1; rw [List.length_take] at this; omega
  rw [List.getElem?_take_of_lt hil] at hi
  rw [Nat.zero_add]
  simp only [World.cell?, hh]
  simpa using hi
theorem conv_bytes (s : ByteArray) (w : World) : ∃ cap w', (convert 9 45 (.string s)).run Try.prog w = .ok (.slice (some ⟨w.heap.size, 0, none⟩) s.size cap) w' ∧ w.grownBy w' none ∧ w'.heap.size = w.heap.size + 1 ∧ ConvAt w' w.heap.size cap s := by
  refine ⟨_, _, Lib.run_convert_string_bytes (P := Try.prog) w 9 45 5 s Try.underlying9 Try.underlying45 Try.underlying5, ?_, Lib.bytesWorld_size _ _ _, ⟨⟨_, Lib.bytesWorld_at_new _ _ _, ?_, ?_⟩⟩⟩
  · refine ⟨?_, ?_, ?_, by rw [Lib.bytesWorld_size]; omega, fun k hk _ => Lib.bytesWorld_at_old _ _ _ _ hk⟩
    all_goals simp [Lib.bytesWorld, World.freeze, World.alloc, World.drew, -World.alloc_eq, -World.drew_eq]
  · simp [Lib.bytesCells]
  · unfold Lib.bytesCells bytesC
    rw [Array.toList_append, List.take_append_of_le_length (by simp), List.take_of_length_le (by simp)]
    simp
end Go.Proofs.Ytcnpncieibmngaa
