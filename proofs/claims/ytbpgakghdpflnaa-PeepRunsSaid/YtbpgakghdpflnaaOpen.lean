/- An argument of type []api.Ins, opened to a list of instructions. -/
import Derived.Test.YtbpgakghdpflnaaIns
import Derived.ProofKit
import Derived.OpenShut
import Derived.ShutString
import Derived.ChangeOld
import Derived.Below
import Derived.Deep.Slices
import Derived.Deep.Fields
import Derived.ChangeSame
namespace Go.Proofs.Ytbpgakghdpflnaa
open Go.ChangeShapes Go.WideShapes Go.ChangeAt Go.RowKit Go.Deep

theorem own : ownKnob Try.prog.godebug = none := by kernel_rfl
theorem laidOut : laidOutB Try.prog = true := by kernel_rfl

section
variable {H : Type} {enc : TypeId × Value → H} {w : World} {base : Nat} {spare : Nat → Bool} {held : Bool}
theorem Ins.of_cells {n : Nat} {cs : List Value} {x : DataW H × List MemPlace} (h : DataW.trod enc Try.prog w base spare held n 26 cs = some x) : ∃ i : Ins, cs = i.list := by
  obtain ⟨xs, m, _, _, hlen, hxl, hf⟩ := DataW.trod_struct Try.underlying26 h
  have h5 : Try.prog.cellsOf 26 = 5 := by kernel_rfl
  rw [h5] at hlen
  match cs, hlen with
  | [c0, c1, c2, c3, c4], _ =>
    match xs, hxl with
    | [y0, y1, y2, y3, y4], _ =>
      have c3' : Try.prog.cellsOf 3 = 1 := by kernel_rfl
      have c9' : Try.prog.cellsOf 9 = 1 := by kernel_rfl
      have f0 : DataW.trod enc Try.prog w base spare held m 3 (([c0, c1, c2, c3, c4].drop 0).take (Try.prog.cellsOf 3)) = some y0 := hf 0 _ rfl
      rw [c3'] at f0
      have f1 : DataW.trod enc Try.prog w base spare held m 9 (([c0, c1, c2, c3, c4].drop 1).take (Try.prog.cellsOf 9)) = some y1 := hf 1 _ rfl
      rw [c9'] at f1
      have f2 : DataW.trod enc Try.prog w base spare held m 9 (([c0, c1, c2, c3, c4].drop 2).take (Try.prog.cellsOf 9)) = some y2 := hf 2 _ rfl
      rw [c9'] at f2
      have f3 : DataW.trod enc Try.prog w base spare held m 3 (([c0, c1, c2, c3, c4].drop 3).take (Try.prog.cellsOf 3)) = some y3 := hf 3 _ rfl
      rw [c3'] at f3
      have f4 : DataW.trod enc Try.prog w base spare held m 3 (([c0, c1, c2, c3, c4].drop 4).take (Try.prog.cellsOf 3)) = some y4 := hf 4 _ rfl
      rw [c3'] at f4
      obtain ⟨a0, e0, _⟩ := DataW.trod_int Try.underlying3 f0
      obtain ⟨a1, e1, _⟩ := DataW.trod_string Try.underlying9 f1
      obtain ⟨a2, e2, _⟩ := DataW.trod_string Try.underlying9 f2
      obtain ⟨a3, e3, _⟩ := DataW.trod_int Try.underlying3 f3
      obtain ⟨a4, e4, _⟩ := DataW.trod_int Try.underlying3 f4
      cases e0
      cases e1
      cases e2
      cases e3
      cases e4
      exact ⟨⟨a0, a1, a2, a3, a4⟩, rfl⟩

/-- A list that reads as so many instructions. -/
theorem row_of_all {w : World} {b o n : Nat} (f : Nat → Ins) (h : ∀ k, k < n → ∀ j v, (f k).list[j]? = some v → w.cell? ⟨b, o + (k * 5 + j), none⟩ = some v) : RowAt w b o (insL ((List.range n).map f)) := by
  intro i v hv
  have hlt : i < (insL ((List.range n).map f)).length := (List.getElem?_eq_some_iff.1 hv).1
  rw [insL_length, List.length_map, List.length_range] at hlt
  have hk : i / 5 < n := by omega
  have hx : ((List.range n).map f)[i / 5]? = some (f (i / 5)) := by simp [hk]
  have hi : i = i / 5 * 5 + i % 5 := by omega
  rw [hi] at hv
  rw [insL_get hx (i % 5) (by omega)] at hv
  rw [hi]
  exact h _ hk _ _ hv

theorem open_ins {fuel : Nat} {a : Option Addr} {len cap : Nat} {x : DataW H × List MemPlace} (h : DataW.trod enc Try.prog w base (fun _ => true) held fuel 22 [.slice a len cap] = some x) (hlt : ∀ p ∈ x.2, p.block < w.heap.size) :
    ∃ xs : List Ins, xs.length = len ∧ Sl w w.heap.size 5 a len (insL xs) ∧ len ≤ maxLen := by
  rcases open_slice Try.underlying22 h with ⟨hc, _⟩ | ⟨ad, l, c, m, n, D, Pl, hc, _, hl, hm, hmm, hx, hall⟩
  · simp only [List.cons.injEq, and_true, Value.slice.injEq] at hc
    obtain ⟨rfl, rfl, rfl⟩ := hc
    exact ⟨[], rfl, Sl.nil _ _ _ _, Nat.zero_le _⟩
  · simp only [List.cons.injEq, and_true, Value.slice.injEq] at hc
    obtain ⟨rfl, rfl, rfl⟩ := hc
    simp only [if_true] at hmm
    have h5 : Try.prog.cellsOf 26 = 5 := by kernel_rfl
    rw [h5] at hall hx
    rcases Nat.eq_zero_or_pos len with h0 | h0
    · subst h0
      exact ⟨[], rfl, Sl.nil _ _ _ _, Nat.zero_le _⟩
    have hone : ∀ k, ∃ i : Ins, k < len → ∀ j v, i.list[j]? = some v → w.cell? (ad.add (k * 5 + j)) = some v := fun k => by
      by_cases hk : k < len
      · obtain ⟨cs', h1, h2⟩ := hall k (by omega)
        obtain ⟨_, hlen, hcell⟩ := World.cells?_some h1
        obtain ⟨i, rfl⟩ := Ins.of_cells h2
        refine ⟨i, fun _ j v hj => ?_⟩
        have hj5 : j < 5 := (List.getElem?_eq_some_iff.1 hj).1
        rw [← add_add, hcell j hj5, hj]
      · exact ⟨⟨0, ByteArray.empty, ByteArray.empty, 0, 0⟩, fun h => absurd h hk⟩
    obtain ⟨b, o, spot⟩ := ad
    have hs0 := (hone 0).choose_spec h0 0 _ rfl
    have hspot : spot = none := by simpa [Addr.add] using World.cell?_spot hs0
    subst hspot
    refine ⟨(List.range len).map fun k => (hone k).choose, by simp, ⟨by rw [insL_length]; simp, fun _ => ⟨b, o, rfl, ?_, row_of_all _ fun k hk j v hj => ?_⟩⟩, by omega⟩
    · have : MemPlace.cell b o ∈ x.2 := by
        rw [hx]
        refine List.mem_append_left _ ?_
        simp only [MemPlace.row, List.mem_map, List.mem_range]
        exact ⟨0, by omega, rfl⟩
      exact hlt _ this
    · have := (hone k).choose_spec hk j v hj
      rwa [add_at] at this
end
end Go.Proofs.Ytbpgakghdpflnaa
