/- Arguments of type api.Ins, []api.Ins and [][]byte, opened. -/
import Derived.Test.YtanaccoelifcpaaOpenT
import Derived.Test.YtanaccoelifcpaaFirst2
namespace Go.Proofs.Ytanaccoelifcpaa
open Go.ChangeShapes Go.WideShapes Go.ChangeAt Go.RowKit Go.Deep

instance : Inhabited Cmd := ⟨⟨0, ByteArray.empty, ByteArray.empty, 0, 0, by decide, by decide⟩⟩
def OpOk (c : Cmd) : Prop := -9223372036854775808 ≤ c.op ∧ c.op ≤ 9223372036854775807
section
variable {H : Type} {enc : TypeId × Value → H} {w : World} {base : Nat} {held : Bool}
theorem wf_op {v : Int} (h : (Lit.int .i64 v).wf = true) : -9223372036854775808 ≤ v ∧ v ≤ 9223372036854775807 := by
  have e1 : IntKind.i64.min = -9223372036854775808 := by decide
  have e2 : IntKind.i64.max = 9223372036854775807 := by decide
  simpa only [Lit.wf, e1, e2, Bool.and_eq_true, decide_eq_true_eq] using h
set_option maxRecDepth 100000 in
theorem Cmd.of_cells {n : Nat} {cs : List Value} {x : DataW H × List MemPlace} (h : DataW.trod enc Try.prog w base (fun _ => true) held n 44 cs = some x) : ∃ i : Cmd, cs = i.list ∧ OpOk i := by
  obtain ⟨xs, m, _, _, hlen, hxl, hf⟩ := DataW.trod_struct Try.underlying44 h
  have h5 : Try.prog.cellsOf 44 = 5 := by kernel_rfl
  rw [h5] at hlen
  match cs, hlen with
  | [c0, c1, c2, c3, c4], _ =>
    match xs, hxl with
    | [y0, y1, y2, y3, y4], _ =>
      have c3' : Try.prog.cellsOf 3 = 1 := by kernel_rfl
      have c9' : Try.prog.cellsOf 9 = 1 := by kernel_rfl
      have f0 : DataW.trod enc Try.prog w base (fun _ => true) held m 3 (([c0, c1, c2, c3, c4].drop 0).take (Try.prog.cellsOf 3)) = some y0 := hf 0 _ rfl
      rw [c3'] at f0
      have f1 : DataW.trod enc Try.prog w base (fun _ => true) held m 9 (([c0, c1, c2, c3, c4].drop 1).take (Try.prog.cellsOf 9)) = some y1 := hf 1 _ rfl
      rw [c9'] at f1
      have f2 : DataW.trod enc Try.prog w base (fun _ => true) held m 9 (([c0, c1, c2, c3, c4].drop 2).take (Try.prog.cellsOf 9)) = some y2 := hf 2 _ rfl
      rw [c9'] at f2
      have f3 : DataW.trod enc Try.prog w base (fun _ => true) held m 3 (([c0, c1, c2, c3, c4].drop 3).take (Try.prog.cellsOf 3)) = some y3 := hf 3 _ rfl
      rw [c3'] at f3
      have f4 : DataW.trod enc Try.prog w base (fun _ => true) held m 3 (([c0, c1, c2, c3, c4].drop 4).take (Try.prog.cellsOf 3)) = some y4 := hf 4 _ rfl
      rw [c3'] at f4
      obtain ⟨a0, e0, _, w0⟩ := DataW.trod_int Try.underlying3 f0
      obtain ⟨a1, e1, _, s1⟩ := DataW.trod_string Try.underlying9 f1
      obtain ⟨a2, e2, _, s2⟩ := DataW.trod_string Try.underlying9 f2
      obtain ⟨a3, e3, _⟩ := DataW.trod_int Try.underlying3 f3
      obtain ⟨a4, e4, _⟩ := DataW.trod_int Try.underlying3 f4
      cases e0
      cases e1
      cases e2
      cases e3
      cases e4
      unfold maxLen at s1 s2
      exact ⟨⟨a0, a1, a2, a3, a4, s1, s2⟩, rfl, wf_op w0⟩
set_option maxRecDepth 100000 in
/-- An instruction that came in. -/
theorem open_cmd {r : Reach} {b0 : Nat} {v : Value} {d : DataW H} {p : List MemPlace} (hv : Value.okWide Try.prog w r b0 44 v) (h : DataW.Trod enc Try.prog w base (fun _ => true) held 44 v d p) : ∃ c : Cmd, v = .agg c.cells ∧ OpOk c := by
  obtain ⟨cs, rfl, hsz⟩ := okWide_struct Try.underlying44 hv
  obtain ⟨fuel, hf⟩ := h
  obtain ⟨c, hc, ho⟩ := Cmd.of_cells hf
  refine ⟨c, ?_, ho⟩
  congr 1
  apply Array.toList_inj.1
  exact hc
/-- A list of instructions that came in. -/
theorem open_cmds {fuel : Nat} {a : Option Addr} {len cap : Nat} {x : DataW H × List MemPlace} (h : DataW.trod enc Try.prog w base (fun _ => true) held fuel 26 [.slice a len cap] = some x) (hlt : ∀ p ∈ x.2, p.block < w.heap.size) :
    ∃ cs : List Cmd, cs.length = len ∧ Sl w w.heap.size 5 a len (cs.flatMap Cmd.list) ∧ (∀ c ∈ cs, OpOk c) ∧ len ≤ cap ∧ cap ≤ maxLen :=
  open_list (α := Cmd) (f := Cmd.list) (sz := 5) (fun _ => rfl) (by omega) OpOk Try.underlying26 (by kernel_rfl) (fun n cs x hx _ => Cmd.of_cells hx) h hlt
end
end Go.Proofs.Ytanaccoelifcpaa
