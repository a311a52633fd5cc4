/- slices.Sort of a row of strings that the call owns. -/
import Derived.Test.YthmeffpickejkaaShelf
import Derived.Test.YthmeffpickejkaaRef5
import Derived.Sort.OwnSorted
namespace Go.Proofs.Ythmeffpickejkaa
open Go.RowKit Go.Sort

theorem strOf_enc (ps : List ByteArray) : ps.flatMap strOf = (datas ps).map encStr := by
  induction ps with
  | nil => rfl
  | cons p t ih =>
    rw [List.flatMap_cons, ih]
    rfl
def baOf (l : List UInt8) : ByteArray := ⟨l.toArray⟩
theorem datas_baOf (ls : List (List UInt8)) : datas (ls.map baOf) = ls := by
  induction ls with
  | nil => rfl
  | cons l t ih => simp only [datas, List.map_cons, List.map_map] at ih ⊢; rw [ih]; rfl
theorem baOf_datas (ps : List ByteArray) : (datas ps).map baOf = ps := by
  induction ps with
  | nil => rfl
  | cons l t ih => simp only [datas, List.map_cons] at ih ⊢; rw [ih]; rfl
def SortRes (base : Nat) (A : Option Addr) (n c : Nat) (ps : List ByteArray) (w : World) (e : Ending) (w' : World) : Prop :=
  e = .returned (.tuple #[]) ∧ ∃ qs : List ByteArray, qs.Perm ps ∧ qs.Pairwise (fun a b => a.data.toList ≤ b.data.toList) ∧ w'.ownsRow base 9 1 (.slice A n c) n (qs.flatMap strOf) ∧ w.grownBy w' (blkOf A)
theorem sort_own (base : Nat) (A : Option Addr) (n c : Nat) (ps : List ByteArray) (w : World) (hl : ps.length = n) (hn : n < 4611686018427387904) (ho : w.ownsRow base 9 1 (.slice A n c) n (ps.flatMap strOf)) :
    Calls Try.prog 64 #[.slice A n c] w (SortRes base A n c ps w) := by
  rcases ho.2 with ⟨hv, h0⟩ | ⟨g, cap, cur, hv, hg, hh, hnc, hcm, hcs, ht⟩
  · injection hv with hA hn2 hc2
    subst hA hc2 hn2
    have : ps = [] := List.eq_nil_of_length_eq_zero hl
    subst this
    exact (Try.slices_Sort_string_none none 0 w).mono fun e w' ⟨h1, h2⟩ => ⟨h1, [], List.Perm.refl _, List.Pairwise.nil, by rw [h2]; exact ho, by rw [h2]; exact ⟨rfl, rfl, rfl, Nat.le_refl _, fun _ _ _ => rfl⟩⟩
  · injection hv with hA _ hc2
    subst hA hc2
    have hlen : (datas ps).length = n := by rw [datas_length, hl]
    have ht2 : cur.toList.take (datas ps).length = (datas ps).map encStr := by rw [hlen]; rw [strOf_enc] at ht; rw [← ht, Nat.mul_one]
    have := Try.slices_Sort_string g 0 c (datas ps) w (holds_of_block hh ht2) (Array.getElem?_eq_some_iff.1 hh).1 (by rw [hlen]; exact hn)
    rw [hlen] at this
    refine this.mono fun e w' ⟨h1, m, os, h2⟩ => ⟨h1, ((datas ps).mergeSort fun x y => decide (x ≤ y)).map baOf, ?_, ?_, ?_, ?_⟩
    · have h3 : ((datas ps).mergeSort fun x y => decide (x ≤ y)).Perm (datas ps) := List.mergeSort_perm _ _
      have h4 := h3.map baOf
      rwa [baOf_datas] at h4
    · have h3 : ((datas ps).mergeSort fun x y => decide (x ≤ y)).Pairwise fun a b => decide (a ≤ b) = true :=
        List.pairwise_mergeSort (fun a b c h1 h2 => by simp only [decide_eq_true_eq] at *; exact List.le_trans h1 h2) (fun a b => by simp only [Bool.or_eq_true, decide_eq_true_eq]; exact List.le_total a b) _
      rw [List.pairwise_map]
      exact h3.imp fun {a b} h => by simpa [baOf] using h
    · subst h2
      have hml : ((datas ps).mergeSort fun x y => decide (x ≤ y)).length = (datas ps).length := List.length_mergeSort _
      have := ownsRow_sorted (w := w) (n := m) (os := os) (ts := (datas ps).mergeSort fun x y => decide (x ≤ y)) (ss := datas ps) hml hg hh (by rw [hlen]; exact hnc) hcm hcs
      rw [hlen] at this
      rw [strOf_enc, datas_baOf]
      exact this
    · subst h2
      exact grownBy_sorted _
end Go.Proofs.Ythmeffpickejkaa
