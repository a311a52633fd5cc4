/- A list of things of sz cells each, as cells in memory. -/
import Derived.Test.YtdofehgoeppnmaaMem
namespace Go.Proofs.Ytdofehgoeppnmaa
open Go.RowKit

section
variable {α : Type} {f : α → List Value} {sz : Nat}
theorem flat_length (hf : ∀ x, (f x).length = sz) (xs : List α) : (xs.flatMap f).length = xs.length * sz := by
  induction xs with
  | nil => simp
  | cons x xs ih => rw [List.flatMap_cons, List.length_append, hf, ih, List.length_cons, Nat.succ_mul]; omega
theorem flat_drop (hf : ∀ x, (f x).length = sz) (xs : List α) (k : Nat) : (xs.flatMap f).drop (k * sz) = (xs.drop k).flatMap f := by
  induction xs generalizing k with
  | nil => simp
  | cons x xs ih =>
    cases k with
    | zero => simp
    | succ k => rw [List.flatMap_cons, List.drop_succ_cons, ← ih, show (k + 1) * sz = sz + k * sz by rw [Nat.succ_mul]; omega, ← List.drop_drop, show (f x ++ xs.flatMap f).drop sz = xs.flatMap f by rw [← hf x]; exact List.drop_left]
theorem flat_take (hf : ∀ x, (f x).length = sz) (xs : List α) (k : Nat) : (xs.flatMap f).take (k * sz) = (xs.take k).flatMap f := by
  induction xs generalizing k with
  | nil => simp
  | cons x xs ih =>
    cases k with
    | zero => simp
    | succ k => rw [List.take_succ_cons, List.flatMap_cons, List.flatMap_cons, ← ih, show (k + 1) * sz = (f x).length + k * sz by rw [Nat.succ_mul, hf]; omega, List.take_length_add_append]
theorem flat_get (hf : ∀ x, (f x).length = sz) {xs : List α} {k : Nat} {x : α} (hk : xs[k]? = some x) {j : Nat} (hj : j < sz) : (xs.flatMap f)[k * sz + j]? = (f x)[j]? := by
  have h1 : ((xs.flatMap f).drop (k * sz))[j]? = (xs.flatMap f)[k * sz + j]? := by rw [List.getElem?_drop]
  obtain ⟨hlt, he⟩ := List.getElem?_eq_some_iff.1 hk
  rw [← h1, flat_drop hf, List.drop_eq_getElem_cons hlt, he, List.flatMap_cons, List.getElem?_append_left (by rw [hf]; exact hj)]
theorem RowAt.get (hf : ∀ x, (f x).length = sz) {w : World} {b o : Nat} {xs : List α} (h : RowAt w b o (xs.flatMap f)) {k : Nat} {x : α} (hk : xs[k]? = some x) {j : Nat} {v : Value} (hv : (f x)[j]? = some v) : w.cell? ⟨b, o + k * sz + j, none⟩ = some v := by
  have hj : j < sz := by rw [← hf x]; exact (List.getElem?_eq_some_iff.1 hv).1
  have := h (k * sz + j) v ((flat_get hf hk hj).trans hv)
  rwa [← Nat.add_assoc] at this
/-- The k-th of a slice that reads as such a list. -/
theorem Sl.get (hf : ∀ x, (f x).length = sz) {w : World} {B n : Nat} {A : Option Addr} {xs : List α} (h : Sl w B sz A n (xs.flatMap f)) (hn : xs.length = n) {k : Nat} (hk : k < n) :
    ∃ b o x, A = some ⟨b, o, none⟩ ∧ b < B ∧ xs[k]? = some x ∧ ∀ j v, (f x)[j]? = some v → w.cell? ⟨b, o + k * sz + j, none⟩ = some v := by
  obtain ⟨b, o, rfl, hb, hrow⟩ := h.2 (by omega)
  obtain ⟨x, hx⟩ : ∃ x, xs[k]? = some x := ⟨xs[k]'(by omega), List.getElem?_eq_getElem _⟩
  exact ⟨b, o, x, rfl, hb, hx, fun j v hv => hrow.get hf hx hv⟩
end
theorem take_snoc' {α : Type} {l : List α} {k : Nat} {x : α} (h : l[k]? = some x) : l.take (k + 1) = l.take k ++ [x] := by
  rw [List.take_add_one, h]; rfl
theorem drop_at' {α : Type} {l : List α} {k : Nat} {x : α} (h : l[k]? = some x) : l.drop k = x :: l.drop (k + 1) := by
  obtain ⟨hlt, he⟩ := List.getElem?_eq_some_iff.1 h
  rw [List.drop_eq_getElem_cons hlt, he]
end Go.Proofs.Ytdofehgoeppnmaa
