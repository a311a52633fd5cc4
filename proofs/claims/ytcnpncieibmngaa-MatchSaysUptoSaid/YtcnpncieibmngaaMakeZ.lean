/- 'make([]T, n)' with all cells known. -/
import Derived.Test.YtcnpncieibmngaaKit
namespace Go.Proofs.Ytcnpncieibmngaa
open Go.RowKit

theorem made_flat {α : Type} (f : α → List Value) (x : α) (cs : Array Value) (hc : cs.toList = f x) (n : Nat) : (madeCells cs (n * cs.size)).toList = (List.replicate n x).flatMap f := by
  induction n with
  | zero => simp [madeCells]
  | succ n ih =>
    rw [List.replicate_succ', List.flatMap_append, ← ih, Nat.succ_mul]
    simp only [madeCells, Array.toList_map, Array.toList_range, List.range_add, List.map_append, List.map_map]
    congr 1
    rw [List.flatMap_cons, List.flatMap_nil, List.append_nil, ← hc]
    apply List.ext_getElem?
    intro i
    by_cases hi : i < cs.size
    · have e : (n * cs.size + i) % cs.size = i := by rw [Nat.add_comm, Nat.add_mul_mod_self_right, Nat.mod_eq_of_lt hi]
      simp [hi, e]
    · simp [hi]
section
variable {P : Program} {ops : Array Oper} {rest : List Oper} {o : Oper} {a : Act} {Q : Exit → Act → World → Prop} {w : World}
theorem wpList_make_zero (hgd : o.guard = none) {t e : TypeId} (x y : Operand) (ho : o.op = .makeSlice t x y) (ht : P.underlying t = some (.slice e)) {z : Value} {sz by_ : Nat} (hinfo : (P.info? e).map (fun i => (i.zero, i.size, i.bytes)) = some (some z, sz, by_)) (hz : z.cells.size = sz) (hp : 0 < sz)
    {α : Type} (f : α → List Value) (v : α) (hf : z.cells.toList = f v) {base n : Nat} (hx : a.eval x = .int .i64 n) (hy : a.eval y = .int .i64 n) (hb : by_ * n ≤ 281474976710656) (h63 : n ≤ maxLen) (hbase : base ≤ w.heap.size)
    (h : ∀ w', w'.ownsRow base e sz (.slice (some ⟨w.heap.size, 0, none⟩) n n) n ((List.replicate n v).flatMap f) → w.grownBy w' none → wpList P ops Q rest (a.put o.dst (.slice (some ⟨w.heap.size, 0, none⟩) n n)) w') : wpList P ops Q (o :: rest) a w := by
  subst hz
  obtain ⟨i, h2, h3, h4, h5⟩ := info_parts (P := P) (e := e) hinfo
  obtain ⟨w', hrun, h7, h8⟩ := run_make_full (P := P) w base t e i z _ ht h2 h3 h4 .i64 .i64 n (by rw [h5]; exact hb) h63 hbase
  rw [made_flat f v z.cells hf] at h7
  refine wpList_plain hgd fun K hK => ?_
  unfold Oper.wp execOp
  simp only [ho, hx, hy, Sem.run_bind, Sem.run_pure, Result.andThen_ok, hrun]
  exact hK _ _ (h w' h7 h8)
end
end Go.Proofs.Ytcnpncieibmngaa
