/- Bytes as numbers, rows of bytes. shuntref6.Copy: a tree in memory of its own. -/
import Derived.Test.YtanaccoelifcpaaTreeD
import Derived.Test.YtanaccoelifcpaaKit
import Derived.Test.YtanaccoelifcpaaNamesR
import Derived.Lib.AppendStr

namespace Go.Proofs.Ytanaccoelifcpaa
open Go.RowKit

def i8C (xs : List Int) : List Value := xs.map (Value.int .u8)
theorem i8C_append (xs ys : List Int) : i8C (xs ++ ys) = i8C xs ++ i8C ys := by simp [i8C]
theorem i8C_one (xs : List Int) : ∀ u ∈ i8C xs, u.oneCell' = true := by
  intro u hu
  obtain ⟨b, _, rfl⟩ := List.mem_map.1 hu
  rfl
def bytesI (d : ByteArray) : List Int := d.data.toList.map fun b => (b.toNat : Int)
theorem bytesI_len (d : ByteArray) : (bytesI d).length = d.size := by simp [bytesI]
theorem bytesC_i8 (d : ByteArray) : bytesC d = i8C (bytesI d) := by rw [bytesC, i8C, bytesI, List.map_map]; rfl
theorem strCells_i8 (d : ByteArray) : Lib.strCells d = i8C (bytesI d) := by rw [Lib.strCells, i8C, bytesI, List.map_map]; rfl
/-- A number in two bytes. -/
theorem Try.u8T : ElemT Try.prog 47 5 1 1 := ElemT.mk' (z := .int .u8 0) Try.underlying47 (by kernel_rfl) rfl (by omega)
theorem grown_own {a b c : World} {row r' : Option Nat} (h : a.grownBy b row) (k : b.grownBy c r') (hr : ∀ g, r' = some g → row = some g ∨ a.heap.size ≤ g) : a.grownBy c row :=
  ⟨k.os.trans h.os, k.tape.trans h.tape, k.output.trans h.output, Nat.le_trans h.size k.size, fun i hi hne => (k.block i (Nat.lt_of_lt_of_le hi h.size) (fun e => (hr i e.symm).elim (fun e2 => hne e2.symm) (fun e2 => by omega))).trans (h.block i hi hne)⟩
theorem own_drew {w : World} {base e sz n c : Nat} {A : Option Addr} {L : List Value} (h : w.ownsRow base e sz (.slice A n c) n L) : w.drew.ownsRow base e sz (.slice A n c) n L := h
theorem own_lt2 {w : World} {base e sz g o n c : Nat} {s : _} {L : List Value} (h : w.ownsRow base e sz (.slice (some ⟨g, o, s⟩) n c) n L) : base ≤ g ∧ g < w.heap.size ∧ o = 0 := by
  rcases h.2 with ⟨h', _⟩ | ⟨g', cap, cur, hv, hg, hh, hnc, hcm, hcs, ht⟩
  · cases h'
  · injection hv with hA _ hC
    injection hA with hA
    injection hA with hA ho
    subst hA ho
    exact ⟨hg, (Array.getElem?_eq_some_iff.1 hh).1, rfl⟩
theorem Blk.ne_row {w : World} {nb base e sz n c : Nat} {t : TypeId} {cs : Array Value} {A : Option Addr} {L : List Value} (hN : Blk w nb t cs) (ho : w.ownsRow base e sz (.slice A n c) n L) (hne : t ≠ e) : ¬ some nb = blkOf A := fun h => by
  rcases A with _ | ⟨g', off, sp⟩
  · cases h
  · simp only [blkOf, Option.some.injEq] at h
    rcases ho.2 with ⟨h', _⟩ | ⟨g2, _, _, h', _, hh, _⟩
    · cases h'
    · injection h' with h'; injection h' with h'; injection h' with h' _ _
      have h3 : w.heap[nb]? = _ := hN
      rw [h, h'] at h3
      rw [h3] at hh
      injection hh with hh
      injection hh with _ hh
      exact hne hh
end Go.Proofs.Ytanaccoelifcpaa

namespace Go.Proofs.Ytanaccoelifcpaa
open Go.RowKit

theorem Try.nodeT : ElemT Try.prog 22 46 3 32 := ElemT.mk' (z := .agg #[.string ByteArray.empty, .int .i64 0, .int .i64 0]) Try.underlying22 (by kernel_rfl) rfl (by omega)
theorem Try.fileT : ElemT Try.prog 23 49 2 32 := ElemT.mk' (z := .agg #[.int .i64 0, .slice none 0 0]) Try.underlying23 (by kernel_rfl) rfl (by omega)
theorem node_one (l : List Node) : ∀ u ∈ l.flatMap Node.list, u.oneCell' = true := by
  intro u hu
  obtain ⟨x, _, hx⟩ := List.mem_flatMap.1 hu
  simp only [Node.list, List.mem_cons, List.not_mem_nil, or_false] at hx
  rcases hx with rfl | rfl | rfl <;> rfl
/-- The files' bytes in rows of the call's own, each in a block of its own. -/
structure FRows (w : World) (base : Nat) (fs : List FC) (ds : List ByteArray) : Prop where
  row : ∀ (k : Nat) (f : FC) (d : ByteArray), fs[k]? = some f → ds[k]? = some d → f.n = d.size ∧ w.ownsRow base 5 1 (.slice f.A f.n f.c) f.n (bytesC d)
  apart : ∀ (i j : Nat) (f g : FC), fs[i]? = some f → fs[j]? = some g → i ≠ j → ∀ b, blkOf f.A = some b → blkOf g.A ≠ some b
  low : ∀ (k : Nat) (f : FC) (b : Nat), fs[k]? = some f → blkOf f.A = some b → b < w.heap.size
theorem FRows.nil (w : World) (base : Nat) (ds : List ByteArray) : FRows w base [] ds := ⟨fun k f d h _ => (by simp at h), fun i j f g h _ => (by simp at h), fun k f b h => (by simp at h)⟩
theorem FRows.keep {w w' : World} {base : Nat} {fs : List FC} {ds : List ByteArray} (h : FRows w base fs ds) (hs : w.heap.size ≤ w'.heap.size) (hk : ∀ (k : Nat) (f : FC) (b : Nat), fs[k]? = some f → blkOf f.A = some b → w'.heap[b]? = w.heap[b]?) : FRows w' base fs ds :=
  ⟨fun k f d hf hd => ⟨(h.row k f d hf hd).1, own_keep (h.row k f d hf hd).2 fun g o e => hk k f g hf (by rw [e]; rfl)⟩, h.apart, fun k f b hf hb => Nat.lt_of_lt_of_le (h.low k f b hf hb) hs⟩
theorem FRows.grown {w w' : World} {base : Nat} {fs : List FC} {ds : List ByteArray} {row : Option Nat} (h : FRows w base fs ds) (hg : w.grownBy w' row) (hne : ∀ (k : Nat) (f : FC) (b : Nat), fs[k]? = some f → blkOf f.A = some b → some b ≠ row) : FRows w' base fs ds :=
  h.keep hg.size fun k f b hf hb => hg.block b (h.low k f b hf hb) (hne k f b hf hb)
theorem FRows.snoc {w : World} {base : Nat} {fs : List FC} {ds : List ByteArray} {f : FC} {d : ByteArray} (h : FRows w base fs ds) (hd : ds[fs.length]? = some d) (h1 : f.n = d.size) (h2 : w.ownsRow base 5 1 (.slice f.A f.n f.c) f.n (bytesC d)) (h3 : ∀ b, blkOf f.A = some b → b < w.heap.size ∧ ∀ (k : Nat) (g : FC), fs[k]? = some g → blkOf g.A ≠ some b) : FRows w base (fs ++ [f]) ds := by
  have split : ∀ (k : Nat) (g : FC), (fs ++ [f])[k]? = some g → (k < fs.length ∧ fs[k]? = some g) ∨ (k = fs.length ∧ g = f) := fun k g hk => by
    rcases Nat.lt_trichotomy k fs.length with h | h | h
    · left; rw [List.getElem?_append_left h] at hk; exact ⟨h, hk⟩
    · right; subst h; simp at hk; exact ⟨rfl, hk.symm⟩
    · rw [List.getElem?_eq_none (by simp; omega)] at hk; cases hk
  refine ⟨fun k g e hk he => ?_, fun i j g1 g2 hi hj hij b hb hb2 => ?_, fun k g b hk hb => ?_⟩
  · rcases split k g hk with ⟨_, hk⟩ | ⟨rfl, rfl⟩
    · exact h.row k g e hk he
    · rw [hd] at he; injection he with he; subst he; exact ⟨h1, h2⟩
  · rcases split i g1 hi with ⟨li, hi2⟩ | ⟨ei, eg⟩
    · rcases split j g2 hj with ⟨lj, hj2⟩ | ⟨ej, eg⟩
      · exact h.apart i j g1 g2 hi2 hj2 hij b hb hb2
      · rw [eg] at hb2; exact (h3 b hb2).2 i g1 hi2 hb
    · rcases split j g2 hj with ⟨lj, hj2⟩ | ⟨ej, eg2⟩
      · rw [eg] at hb; exact (h3 b hb).2 j g2 hj2 hb2
      · omega
  · rcases split k g hk with ⟨_, hk2⟩ | ⟨ek, eg⟩
    · exact h.low k g b hk2 hb
    · rw [eg] at hb; exact (h3 b hb).1
/-- A block of one element type is no row of another. -/
theorem row_ne_row {w : World} {base base' e e' sz sz' n n' c c' b : Nat} {A A' : Option Addr} {L L' : List Value} (h : w.ownsRow base e sz (.slice A n c) n L) (h' : w.ownsRow base' e' sz' (.slice A' n' c') n' L') (hne : e ≠ e') (hb : blkOf A = some b) : some b ≠ blkOf A' := fun hb' => by
  rcases h.2 with ⟨hv, _⟩ | ⟨g, _, _, hv, _, hh, _⟩
  · injection hv with hv; subst hv; cases hb
  · injection hv with hA; subst hA
    simp only [blkOf, Option.some.injEq] at hb
    subst hb
    rcases h'.2 with ⟨hv', _⟩ | ⟨g', _, _, hv', _, hh', _⟩
    · injection hv' with hv'; subst hv'; cases hb'
    · injection hv' with hA'; subst hA'
      simp only [blkOf, Option.some.injEq] at hb'
      subst hb'
      rw [hh] at hh'
      injection hh' with hh'
      injection hh' with _ hh'
      exact hne hh'
theorem file_one (m : Int) (A : Option Addr) (n c : Nat) : ∀ u ∈ (#[.int .i64 m, .slice A n c] : Array Value).toList, u.oneCell' = true := by
  intro u hu
  simp only [List.mem_cons, List.not_mem_nil, or_false] at hu
  rcases hu with rfl | rfl <;> rfl
theorem own_blkset {w : World} {base e sz n c ub : Nat} {A : Option Addr} {L : List Value} {t : TypeId} {cs : Array Value} (h : w.ownsRow base e sz (.slice A n c) n L) (hU : Blk w ub t cs) (hne : t ≠ e) (i : Nat) (v : Value) : (w.setCell ⟨ub, i, none⟩ v).ownsRow base e sz (.slice A n c) n L :=
  own_keep h fun g o e1 => heap_setCell_other w _ g v fun hg => hU.ne_row h hne (by rw [e1]; simp only [blkOf]; rw [hg])
theorem FRows.blkset {w : World} {base ub : Nat} {fs : List FC} {ds : List ByteArray} {t : TypeId} {cs : Array Value} (h : FRows w base fs ds) (hl : fs.length ≤ ds.length) (hU : Blk w ub t cs) (hne : t ≠ 5) (i : Nat) (v : Value) : FRows (w.setCell ⟨ub, i, none⟩ v) base fs ds :=
  h.keep (by simp [World.setCell]) fun k f b hf hb => heap_setCell_other w _ b v fun hg => by
    have hk : k < ds.length := by have := (List.getElem?_eq_some_iff.1 hf).1; omega
    exact hU.ne_row (h.row k f _ hf (List.getElem?_eq_getElem hk)).2 hne (by rw [hb, hg])
theorem FRows.not_row {w : World} {base base' e' sz' n' c' : Nat} {A' : Option Addr} {L' : List Value} {fs : List FC} {ds : List ByteArray} (h : FRows w base fs ds) (hl : fs.length ≤ ds.length) (h' : w.ownsRow base' e' sz' (.slice A' n' c') n' L') (hne : 5 ≠ e') : ∀ (k : Nat) (f : FC) (b : Nat), fs[k]? = some f → blkOf f.A = some b → some b ≠ blkOf A' := fun k f b hf hb => by
  have hk : k < ds.length := by have := (List.getElem?_eq_some_iff.1 hf).1; omega
  exact row_ne_row (h.row k f _ hf (List.getElem?_eq_getElem hk)).2 h' hne hb
/-- What the copy under way is. -/
def CopyAt (base : Nat) (w wr : World) (nodes : List Node) (files : List FC) (ds : List ByteArray) (tv : Array Value) (tb rb ub nn j : Nat) : Prop :=
  ∃ (NA FA : Option Addr) (nc fc : Nat) (fs : List FC), Blk wr ub 25 #[.slice NA nn nc, .slice FA j fc] ∧ wr.ownsRow base 46 3 (.slice NA nn nc) nn (nodes.flatMap Node.list) ∧ wr.ownsRow base 49 2 (.slice FA j fc) j (fs.flatMap FC.list) ∧
    fs.length = j ∧ fs.map (·.mode) = (files.take j).map (·.mode) ∧ FRows wr base fs ds ∧ Blk wr tb 25 tv ∧ Blk wr rb 25 #[.slice none 0 0, .slice none 0 0] ∧ base ≤ wr.heap.size ∧ Below w.heap.size w wr
def CopyRes (t : TV) (ds : List ByteArray) (w : World) (e : Ending) (w' : World) : Prop :=
  ∃ u : TV, e = .returned u.val ∧ u.nodes = t.nodes ∧ u.nn = t.nn ∧ u.fn = t.fn ∧ u.files.length = t.fn ∧ u.files.map (·.mode) = t.files.map (·.mode) ∧ w'.ownsRow w.heap.size 46 3 (.slice u.NA u.nn u.nc) u.nn (u.nodes.flatMap Node.list) ∧
    w'.ownsRow w.heap.size 49 2 (.slice u.FA u.fn u.fc) u.fn (u.files.flatMap FC.list) ∧ FRows w' w.heap.size u.files ds ∧ Below w.heap.size w w'
end Go.Proofs.Ytanaccoelifcpaa
