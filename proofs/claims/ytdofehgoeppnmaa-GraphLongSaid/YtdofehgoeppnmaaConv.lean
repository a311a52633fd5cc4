/- string(b) of bytes that were laid just now. -/
import Derived.Test.YtdofehgoeppnmaaMem
import Derived.Laws.BytesArg
namespace Go.Proofs.Ytdofehgoeppnmaa
open Go.RowKit

theorem conv_new (xs : List Int) (w : World) {n : Nat} (hn : xs.length = n) : (convert 38 9 (.slice (some ⟨w.heap.size, 0, none⟩) n n)).run Try.prog (w.alloc (.cells (xs.map (Value.int .u8)).toArray 5)) = .ok (.string (strOfNums xs)) (w.alloc (.cells (xs.map (Value.int .u8)).toArray 5)) :=
  run_convert_bytes_arg _ 38 5 Try.underlying38 Try.underlying5 w.heap.size 0 n n xs hn (fun i hi => by
    rw [Nat.zero_add, (Blk.new w 5 _).cell i]
    simp [List.getD, List.getElem?_eq_getElem (show i < xs.length by omega)]) 9 Try.underlying9
theorem Blk.set {w : World} {g : Nat} {t : TypeId} {cs : Array Value} (h : Blk w g t cs) (i : Nat) (v : Value) : Blk (w.setCell ⟨g, i, none⟩ v) g t (cs.setIfInBounds i v) := heap_setCell_same w g i cs t v h
theorem Blk.set_ne {w : World} {g : Nat} {t : TypeId} {cs : Array Value} (h : Blk w g t cs) (a : Addr) (v : Value) (hne : g ≠ a.block) : Blk (w.setCell a v) g t cs := h.keep (heap_setCell_other w a g v hne)
theorem own_set {w : World} {base e sz n c : Nat} {A : Option Addr} {L : List Value} (h : w.ownsRow base e sz (.slice A n c) n L) (a : Addr) (v : Value) (hb : a.block < base) : (w.setCell a v).ownsRow base e sz (.slice A n c) n L := by
  refine own_keep h fun g o e => heap_setCell_other w a g v fun hg => ?_
  subst e
  rcases h.2 with ⟨h', _⟩ | ⟨g', cap, cur, hv, hg', hh, hnc, hcm, hcs, ht⟩
  · cases h'
  · injection hv with hA _ hC
    injection hA with hA
    injection hA with hA _ _
    omega
theorem Sl.blk {w : World} {g B sz n : Nat} {t : TypeId} {cs : Array Value} {L : List Value} (h : Blk w g t cs) (hL : cs.toList = L) (hl : L.length = n * sz) (hg : g < B) : Sl w B sz (some ⟨g, 0, none⟩) n L :=
  ⟨hl, fun _ => ⟨g, 0, rfl, hg, fun i v hi => by rw [Nat.zero_add, h.cell i]; subst hL; simpa using hi⟩⟩
end Go.Proofs.Ytdofehgoeppnmaa
