/- Bytes as numbers, rows of bytes. -/
import Derived.Test.YthmeffpickejkaaTreeD
import Derived.Test.YthmeffpickejkaaAppend
import Derived.Lib.AppendStr
namespace Go.Proofs.Ythmeffpickejkaa
open Go.RowKit

def i8C (xs : List Int) : List Value := xs.map (Value.int .u8)
theorem i8C_append (xs ys : List Int) : i8C (xs ++ ys) = i8C xs ++ i8C ys := by simp [i8C]
theorem i8C_one (xs : List Int) : ∀ u ∈ i8C xs, u.oneCell' = true := by
  intro u hu
  obtain ⟨b, _, rfl⟩ := List.mem_map.1 hu
  rfl
def bytesI (d : ByteArray) : List Int := d.data.toList.map fun b => (b.toNat : Int)
theorem bytesI_len (d : ByteArray) : (bytesI d).length = d.size := by simp [bytesI]
theorem bytesC_i8 (d : ByteArray) : bytesC d = i8C (bytesI d) := by rw [bytesC, i8C, bytesI, List.map_map]; rfl
theorem strCells_i8 (d : ByteArray) : Lib.strCells d = i8C (bytesI d) := by rw [Lib.strCells, i8C, bytesI, List.map_map]; rfl
/-- A number in two bytes. -/
theorem Try.u8T : ElemT Try.prog 50 5 1 1 := ElemT.mk' (z := .int .u8 0) Try.underlying50 (by kernel_rfl) rfl (by omega)
theorem grown_own {a b c : World} {row r' : Option Nat} (h : a.grownBy b row) (k : b.grownBy c r') (hr : ∀ g, r' = some g → row = some g ∨ a.heap.size ≤ g) : a.grownBy c row :=
  ⟨k.os.trans h.os, k.tape.trans h.tape, k.output.trans h.output, Nat.le_trans h.size k.size, fun i hi hne => (k.block i (Nat.lt_of_lt_of_le hi h.size) (fun e => (hr i e.symm).elim (fun e2 => hne e2.symm) (fun e2 => by omega))).trans (h.block i hi hne)⟩
theorem own_drew {w : World} {base e sz n c : Nat} {A : Option Addr} {L : List Value} (h : w.ownsRow base e sz (.slice A n c) n L) : w.drew.ownsRow base e sz (.slice A n c) n L := h
theorem own_lt2 {w : World} {base e sz g o n c : Nat} {s : _} {L : List Value} (h : w.ownsRow base e sz (.slice (some ⟨g, o, s⟩) n c) n L) : base ≤ g ∧ g < w.heap.size ∧ o = 0 := by
  rcases h.2 with ⟨h', _⟩ | ⟨g', cap, cur, hv, hg, hh, hnc, hcm, hcs, ht⟩
  · cases h'
  · injection hv with hA _ hC
    injection hA with hA
    injection hA with hA ho
    subst hA ho
    exact ⟨hg, (Array.getElem?_eq_some_iff.1 hh).1, rfl⟩
theorem Blk.ne_row {w : World} {nb base e sz n c : Nat} {t : TypeId} {cs : Array Value} {A : Option Addr} {L : List Value} (hN : Blk w nb t cs) (ho : w.ownsRow base e sz (.slice A n c) n L) (hne : t ≠ e) : ¬ some nb = blkOf A := fun h => by
  rcases A with _ | ⟨g', off, sp⟩
  · cases h
  · simp only [blkOf, Option.some.injEq] at h
    rcases ho.2 with ⟨h', _⟩ | ⟨g2, _, _, h', _, hh, _⟩
    · cases h'
    · injection h' with h'; injection h' with h'; injection h' with h' _ _
      have h3 : w.heap[nb]? = _ := hN
      rw [h, h'] at h3
      rw [h3] at hh
      injection hh with hh
      injection hh with _ hh
      exact hne hh
end Go.Proofs.Ythmeffpickejkaa
