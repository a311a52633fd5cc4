/- api.Ins as Lean data: its cells, its equality as the program reckons it, a list of them in memory. -/
import Derived.Test.YtgeiegjpnnbloaaDoorKit
namespace Go.Proofs.YtgeiegjpnnbloaaDoor
open Go.RowKit

structure Ins where
  op : Int
  path : ByteArray
  dst : ByteArray
  mode : Int
  ref : Int

def Ins.cells (x : Ins) : Array Value := #[.int .i64 x.op, .string x.path, .string x.dst, .int .i64 x.mode, .int .i64 x.ref]
def Ins.list (x : Ins) : List Value := [.int .i64 x.op, .string x.path, .string x.dst, .int .i64 x.mode, .int .i64 x.ref]
/-- '==' of two, as the program reckons it. -/
def Ins.eqb (x y : Ins) : Bool := x.op == y.op && (x.path.toList == y.path.toList && (x.dst.toList == y.dst.toList && (x.mode == y.mode && x.ref == y.ref)))

theorem p18_toList_inj {a b : ByteArray} (h : a.toList = b.toList) : a = b := by
  rw [ByteArray.toList_eq, ByteArray.toList_eq] at h
  obtain ⟨⟨x⟩⟩ := a
  obtain ⟨⟨y⟩⟩ := b
  simp at h
  rw [h]
theorem p18_toList_iff {a b : ByteArray} : a.toList = b.toList ↔ a = b := ⟨p18_toList_inj, fun h => by rw [h]⟩
theorem Ins.eqb_iff {x y : Ins} : x.eqb y = true ↔ x = y := by
  obtain ⟨a, b, c, d, e⟩ := x
  obtain ⟨a', b', c', d', e'⟩ := y
  simp [Ins.eqb, p18_toList_iff]
theorem Ins.eqb_self (x : Ins) : x.eqb x = true := Ins.eqb_iff.2 rfl
theorem Ins.eqb_ne {x y : Ins} (h : x ≠ y) : x.eqb y = false := by
  cases hb : x.eqb y
  · rfl
  · exact absurd (Ins.eqb_iff.1 hb) h

theorem Tryd.insT : ElemT Tryd.prog 27 42 5 56 :=
  ElemT.mk' (z := .agg #[.int .i64 0, .string ByteArray.empty, .string ByteArray.empty, .int .i64 0, .int .i64 0]) Tryd.underlying27 (by kernel_rfl) rfl (by decide)

@[go_sem high] theorem eqIns (a0 a3 a4 b0 b3 b4 : Int) (a1 a2 b1 b2 : ByteArray) (w : World) :
    (Op.equalIn 10000 42 (.agg #[.int .i64 a0, .string a1, .string a2, .int .i64 a3, .int .i64 a4]) (.agg #[.int .i64 b0, .string b1, .string b2, .int .i64 b3, .int .i64 b4])).run Tryd.prog w = .ok (Ins.eqb ⟨a0, a1, a2, a3, a4⟩ ⟨b0, b1, b2, b3, b4⟩) w := by
  have u3 := Tryd.underlying3
  have u9 := Tryd.underlying9
  have hS : Tryd.prog.underlying 42 = some (.struct (Tryd.prog.fieldsOf 42)) := by kernel_rfl
  rw [show (10000 : Nat) = 9999 + 1 from rfl, run_equalIn_agg w 9999 42 _ _ hS Tryd.stoodInHeld42]
  simp only [Program.fieldsOf, Tryd.underlying42]
  go_simp
  unfold Ins.eqb
  by_cases h1 : a0 = b0 <;> by_cases h2 : a1.toList = b1.toList <;> by_cases h3 : a2.toList = b2.toList <;> by_cases h4 : a3 = b3 <;> by_cases h5 : a4 = b4 <;> simp [h1, h2, h3, h4, h5]

/-- A list of instructions as cells. -/
def insL (xs : List Ins) : List Value := xs.flatMap Ins.list
theorem insL_length (xs : List Ins) : (insL xs).length = xs.length * 5 := by
  unfold insL
  induction xs with
  | nil => rfl
  | cons x xs ih => simp [Ins.list, ih]; omega
theorem insL_append (xs ys : List Ins) : insL (xs ++ ys) = insL xs ++ insL ys := by simp [insL]
theorem insL_snoc (xs : List Ins) (x : Ins) : insL (xs ++ [x]) = insL xs ++ x.cells.toList := by simp [insL, Ins.list, Ins.cells]
theorem insL_take (xs : List Ins) (k : Nat) : (insL xs).take (k * 5) = insL (xs.take k) := by
  induction xs generalizing k with
  | nil => simp [insL]
  | cons x xs ih =>
    cases k with
    | zero => simp [insL]
    | succ k =>
      have : insL (x :: xs) = x.list ++ insL xs := rfl
      rw [this, List.take_succ_cons]
      have h2 : insL (x :: xs.take k) = x.list ++ insL (xs.take k) := rfl
      rw [h2, ← ih, show (k + 1) * 5 = 5 + k * 5 by omega, List.take_add, List.take_append_of_le_length (by simp [Ins.list]), List.drop_append_of_le_length (by simp [Ins.list])]
      simp [Ins.list]
theorem insL_drop (xs : List Ins) (k : Nat) : (insL xs).drop (k * 5) = insL (xs.drop k) := by
  induction xs generalizing k with
  | nil => simp [insL]
  | cons x xs ih =>
    cases k with
    | zero => simp
    | succ k =>
      have : insL (x :: xs) = x.list ++ insL xs := rfl
      rw [this, List.drop_succ_cons, ← ih, show (k + 1) * 5 = 5 + k * 5 by omega, ← List.drop_drop, List.drop_append_of_le_length (by simp [Ins.list])]
      simp [Ins.list]
theorem insL_one (xs : List Ins) : ∀ u ∈ (insL xs), u.oneCell' = true := by
  intro u hu
  obtain ⟨x, _, hx⟩ := List.mem_flatMap.1 hu
  simp [Ins.list] at hx
  rcases hx with rfl | rfl | rfl | rfl | rfl <;> rfl
theorem Ins.cells_one (x : Ins) : ∀ u ∈ x.cells.toList, u.oneCell' = true := by
  intro u hx
  simp [Ins.cells] at hx
  rcases hx with rfl | rfl | rfl | rfl | rfl <;> rfl

/-- The five cells of the k-th of a list in memory. -/
def Ins.at (x : Ins) (w : World) (b o : Nat) : Prop :=
  w.cell? ⟨b, o, none⟩ = some (.int .i64 x.op) ∧ w.cell? ⟨b, o + 1, none⟩ = some (.string x.path) ∧ w.cell? ⟨b, o + 2, none⟩ = some (.string x.dst) ∧ w.cell? ⟨b, o + 3, none⟩ = some (.int .i64 x.mode) ∧ w.cell? ⟨b, o + 4, none⟩ = some (.int .i64 x.ref)
theorem insL_get {xs : List Ins} {k : Nat} {x : Ins} (hk : xs[k]? = some x) (j : Nat) (hj : j < 5) : (insL xs)[k * 5 + j]? = x.list[j]? := by
  have h1 : ((insL xs).drop (k * 5))[j]? = (insL xs)[k * 5 + j]? := by rw [List.getElem?_drop]
  rw [← h1, insL_drop]
  have h2 : xs.drop k = x :: xs.drop (k + 1) := by
    obtain ⟨hlt, he⟩ := List.getElem?_eq_some_iff.1 hk
    rw [List.drop_eq_getElem_cons hlt, he]
  rw [h2]
  show (x.list ++ _)[j]? = _
  rw [List.getElem?_append_left (by simp [Ins.list]; omega)]
theorem RowAt.ins {w : World} {b o : Nat} {xs : List Ins} (h : RowAt w b o (insL xs)) {k : Nat} {x : Ins} (hk : xs[k]? = some x) : x.at w b (o + k * 5) := by
  refine ⟨?_, ?_, ?_, ?_, ?_⟩
  · exact h (k * 5) _ (insL_get hk 0 (by omega))
  · have := h (k * 5 + 1) _ (insL_get hk 1 (by omega)); rwa [← Nat.add_assoc] at this
  · have := h (k * 5 + 2) _ (insL_get hk 2 (by omega)); rwa [← Nat.add_assoc] at this
  · have := h (k * 5 + 3) _ (insL_get hk 3 (by omega)); rwa [← Nat.add_assoc] at this
  · have := h (k * 5 + 4) _ (insL_get hk 4 (by omega)); rwa [← Nat.add_assoc] at this
theorem Ins.at_keep {x : Ins} {w w' : World} {b o : Nat} (h : x.at w b o) (hk : w'.heap[b]? = w.heap[b]?) : x.at w' b o := by
  obtain ⟨a, b', c, d, e⟩ := h
  exact ⟨(World.cell?_of_block (w := w) hk).trans a, (World.cell?_of_block (w := w) hk).trans b', (World.cell?_of_block (w := w) hk).trans c, (World.cell?_of_block (w := w) hk).trans d, (World.cell?_of_block (w := w) hk).trans e⟩
theorem Blk.ins {w : World} {g : Nat} {t : TypeId} {x : Ins} (h : Blk w g t x.cells) :
    w.cell? ⟨g, 0, none⟩ = some (.int .i64 x.op) ∧ w.cell? ⟨g, 1, none⟩ = some (.string x.path) ∧ w.cell? ⟨g, 2, none⟩ = some (.string x.dst) ∧ w.cell? ⟨g, 3, none⟩ = some (.int .i64 x.mode) ∧ w.cell? ⟨g, 4, none⟩ = some (.int .i64 x.ref) :=
  ⟨h.cell 0, h.cell 1, h.cell 2, h.cell 3, h.cell 4⟩
end Go.Proofs.YtgeiegjpnnbloaaDoor
