/- An argument of type shuntlaw11.Pair, opened: two trees and a stock; their sizes are within what is read in bulk. -/
import Derived.Test.YtcnpncieibmngaaBulkS
import Derived.Deep.Strs
namespace Go.Proofs.Ytcnpncieibmngaa
open Go.ChangeShapes Go.WideShapes Go.ChangeAt Go.RowKit Go.Deep

def pairVal (s t : TV) (SA : Option Addr) (sn sc : Nat) : Value := .agg #[.slice s.NA s.nn s.nc, .slice s.FA s.fn s.fc, .slice t.NA t.nn t.nc, .slice t.FA t.fn t.fc, .slice SA sn sc]
section
variable {H : Type} {enc : TypeId × Value → H} {w : World} {base : Nat} {held : Bool}
theorem slice_form {n : Nat} {t e : TypeId} {v : Value} {y : DataW H × List MemPlace} (ht : Try.prog.underlying t = some (.slice e)) (h : DataW.trod enc Try.prog w base (fun _ => true) held n t [v] = some y) : ∃ a l c, v = .slice a l c := by
  rcases DataW.trod_slice ht h with ⟨e, _⟩ | ⟨a, l, c, _, _, _, _, e, _⟩
  · cases e; exact ⟨_, _, _, rfl⟩
  · cases e; exact ⟨_, _, _, rfl⟩
set_option maxRecDepth 100000 in
theorem tree_of_trod {n : Nat} {c0 c1 : Value} {y : DataW H × List MemPlace} (h : DataW.trod enc Try.prog w base (fun _ => true) held n 25 [c0, c1] = some y) (hlt : ∀ x ∈ y.2, x.block < w.heap.size) :
    ∃ (t : TV) (ds : List ByteArray), c0 = .slice t.NA t.nn t.nc ∧ c1 = .slice t.FA t.fn t.fc ∧ TreeD w t ds ∧ ∀ x ∈ t.files, x.n ≤ Rows.uptoBulk y.1 := by
  obtain ⟨y0, y1, m, rfl, _, h0, h1⟩ := trod_struct2 Try.underlying25 h
  have k0 : Try.prog.cellsOf 22 = 1 := by kernel_rfl
  have k1 : Try.prog.cellsOf 23 = 1 := by kernel_rfl
  have h0' : DataW.trod enc Try.prog w base (fun _ => true) held m 22 [c0] = some y0 := by
    have := h0; simp only [k0] at this; exact this
  have h1' : DataW.trod enc Try.prog w base (fun _ => true) held m 23 [c1] = some y1 := by
    have := h1; simp only [k1] at this; exact this
  clear h0 h1
  obtain ⟨NA, nn, nc, rfl⟩ := slice_form Try.underlying22 h0'
  obtain ⟨FA, fn, fc, rfl⟩ := slice_form Try.underlying23 h1'
  obtain ⟨ns, hl0, hS0, _, hc0, hm0⟩ := open_list (α := Node) (f := Node.list) (sz := 3) Node.len (by omega) (fun _ => True) Try.underlying22 (by kernel_rfl) (fun n cs x hx _ => by
    obtain ⟨i, hi⟩ := Node.of_cells hx
    exact ⟨i, hi, trivial⟩) h0' (fun p hp => hlt p (List.mem_append_left _ hp))
  obtain ⟨fs, hl1, hS1, hQ, hc1, hm1⟩ := open_list (α := FC) (f := FC.list) (sz := 2) FC.len (by omega) (FQ w) Try.underlying23 (by kernel_rfl) (fun n cs x hx hp => FC.of_cells hx hp) h1' (fun p hp => hlt p (List.mem_append_right _ hp))
  obtain ⟨ds, hds⟩ := dat_of fs hQ
  unfold maxLen at hm0 hm1
  refine ⟨⟨ns, fs, NA, nn, nc, FA, fn, fc⟩, ds, rfl, rfl, ⟨⟨hl0, hl1, hS0, hS1, by show nn ≤ _; omega, by show fn ≤ _; omega⟩, hds⟩, fun x hx => ?_⟩
  obtain ⟨k, hk⟩ := List.getElem?_of_mem hx
  obtain ⟨m, z, hz, hzb⟩ := bulk_elem FC.len Try.underlying23 (by kernel_rfl) h1' hS1 hl1 hk
  obtain ⟨z0, z1, m2, rfl, _, _, hz1⟩ := trod_struct2 Try.underlying47 hz
  have c9 : Try.prog.cellsOf 45 = 1 := by kernel_rfl
  have hz2 : DataW.trod enc Try.prog w base (fun _ => true) held m2 45 [.slice x.A x.n x.c] = some z1 := by
    have := hz1
    simp only [c9, FC.list] at this
    exact this
  have h2 := bulk_slice Try.underlying45 hz2
  simp only [Rows.uptoBulk, Rows.uptoBulkAll] at hzb ⊢
  omega
set_option maxRecDepth 100000 in
/-- Two trees and a stock that came in. -/
theorem open_pair {r : Reach} {b0 : Nat} {v : Value} {d : DataW H} {p : List MemPlace} (hv : Value.okWide Try.prog w r b0 38 v) (h : DataW.Trod enc Try.prog w base (fun _ => true) held 38 v d p) (hlt : ∀ x ∈ p, x.block < w.heap.size) :
    ∃ (s : TV) (ds : List ByteArray) (t : TV) (es : List ByteArray) (SA : Option Addr) (sn sc : Nat) (ss : List SC) (sd : List ByteArray), v = pairVal s t SA sn sc ∧ TreeD w s ds ∧ TreeD w t es ∧ StockAt w SA sn ss sd ∧
      (∀ x ∈ s.files, x.n ≤ Rows.uptoBulk d) ∧ (∀ x ∈ t.files, x.n ≤ Rows.uptoBulk d) ∧ sn ≤ Rows.uptoBulk d ∧ (∀ x ∈ ss, x.n ≤ Rows.uptoBulk d) := by
  obtain ⟨cs, rfl, hsz⟩ := okWide_struct Try.underlying38 hv
  have h5 : Try.prog.cellsOf 38 = 5 := by kernel_rfl
  rw [h5] at hsz
  obtain ⟨c0, c1, c2, c3, c4, rfl⟩ : ∃ a b c d e, cs = #[a, b, c, d, e] := by
    match cs, hsz with
    | ⟨[a, b, c, d, e]⟩, _ => exact ⟨a, b, c, d, e, rfl⟩
  obtain ⟨fuel, hf⟩ := h
  obtain ⟨y0, y1, y2, n, hx, _, h0, h1, h2⟩ := trod_struct3 Try.underlying38 hf
  have k0 : Try.prog.cellsOf 25 = 2 := by kernel_rfl
  have k1 : Try.prog.cellsOf 36 = 1 := by kernel_rfl
  have h0' : DataW.trod enc Try.prog w base (fun _ => true) held n 25 [c0, c1] = some y0 := by
    have := h0; simp only [k0] at this; exact this
  have h1' : DataW.trod enc Try.prog w base (fun _ => true) held n 25 [c2, c3] = some y1 := by
    have := h1; simp only [k0] at this; exact this
  have h2' : DataW.trod enc Try.prog w base (fun _ => true) held n 36 [c4] = some y2 := by
    have := h2; simp only [k1] at this; exact this
  clear h0 h1 h2 hf
  simp only [Prod.mk.injEq] at hx
  obtain ⟨rfl, rfl⟩ := hx
  obtain ⟨s, ds, rfl, rfl, hS, hb0⟩ := tree_of_trod h0' (fun p hp => hlt p (List.mem_append_left _ hp))
  obtain ⟨t, es, rfl, rfl, hT, hb1⟩ := tree_of_trod h1' (fun p hp => hlt p (List.mem_append_right _ (List.mem_append_left _ hp)))
  obtain ⟨SA, sn, sc, rfl⟩ := slice_form Try.underlying36 h2'
  obtain ⟨ss, sd, hK⟩ := open_stock h2' (fun p hp => hlt p (List.mem_append_right _ (List.mem_append_right _ hp)))
  have hsm := stock_small ⟨n, h2'⟩ hK
  refine ⟨s, ds, t, es, SA, sn, sc, ss, sd, rfl, hS, hT, hK, fun x hx => ?_, fun x hx => ?_, ?_, fun x hx => ?_⟩
  · have := hb0 x hx; simp only [Rows.uptoBulk, Rows.uptoBulkAll]; omega
  · have := hb1 x hx; simp only [Rows.uptoBulk, Rows.uptoBulkAll]; omega
  · have := hsm.1; simp only [Rows.uptoBulk, Rows.uptoBulkAll]; omega
  · have := hsm.2 x hx; simp only [Rows.uptoBulk, Rows.uptoBulkAll]; omega
end
end Go.Proofs.Ytcnpncieibmngaa
