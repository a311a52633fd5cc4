/- Writing one element of a row that the call owns; a row that make has made. -/
import Derived.Test.YtdofehgoeppnmaaMem
import Derived.Laws.OwnMore
namespace Go.Proofs.Ytdofehgoeppnmaa
open Go.RowKit

section
variable {P : Program} {ops : Array Oper} {rest : List Oper} {o : Oper} {a : Act} {Q : Exit → Act → World → Prop} {w : World}

/-- 's[k] = x', x a struct, into a row of the call's own. -/
theorem run_store_own {ty e base g n c k : Nat} {sz : Nat} {L : List Value} (hown : w.ownsRow base e sz (.slice (some ⟨g, 0, none⟩) n c) n L) (hk : k < n)
    (cs : Array Value) (hl : cs.size = sz) (hi : (P.info? ty).map (·.size) = some sz) (h1 : ∀ u ∈ cs.toList, u.oneCell' = true) :
    ∃ w', (storeVar ty ⟨g, k * sz, none⟩ (.agg cs)).run P w = .ok () w' ∧
      w'.ownsRow base e sz (.slice (some ⟨g, 0, none⟩) n c) n (L.take (k * sz) ++ cs.toList ++ L.drop ((k + 1) * sz)) ∧ w.grownBy w' (some g) := by
  subst hl
  have hL := hown.1
  rcases hown.2 with ⟨h', _⟩ | ⟨g', cap, cur, hv, hg, hh, hnc, hcm, hcs, ht⟩
  · cases h'
  · injection hv with hA _ hC
    injection hA with hA
    injection hA with hA
    subst hA hC
    have hk1 : (k + 1) * cs.size ≤ n * cs.size := Nat.mul_le_mul_right _ hk
    have hk2 : n * cs.size ≤ c * cs.size := Nat.mul_le_mul_right _ hnc
    have hk3 : (k + 1) * cs.size = k * cs.size + cs.size := Nat.succ_mul _ _
    have hst := run_storeCells_at P g (k * cs.size) e cs.toList 0 cur w hh (by simp; omega) h1
    simp only [Nat.add_zero] at hst
    refine ⟨w.setRow g (cur.toList.take (k * cs.size) ++ cs.toList ++ cur.toList.drop (k * cs.size + cs.toList.length)).toArray, ?_, ⟨?_, .inr ⟨g, c, _, rfl, hg, setRow_heap w g cur _ e _ hh, hnc, hcm, ?_, ?_⟩⟩, ⟨rfl, rfl, rfl, by simp, fun q _ hq => setRow_other w g q _ (fun e => hq (by simp [e]))⟩⟩
    · cases hq : P.info? ty with
      | none => simp [hq] at hi
      | some i =>
        have hs : cs.size = i.size := by simp [hq] at hi; omega
        simp [storeVar, sizeOf, typeInfo, hq, Value.cells, hs]
        rw [← hs]
        simpa using hst
    · simp only [List.length_append, List.length_take, List.length_drop, hL, Array.length_toList]
      omega
    · simp only [List.size_toArray, List.length_append, List.length_take, List.length_drop, Array.length_toList]
      omega
    · have hlen : (cur.toList.take (k * cs.size) ++ cs.toList).length = (k + 1) * cs.size := by
        rw [List.length_append, List.length_take, Array.length_toList, Array.length_toList]; omega
      have e1 : n * cs.size = (k + 1) * cs.size + (n * cs.size - (k + 1) * cs.size) := by omega
      rw [e1, ← hlen, List.take_length_add_append, ← ht, List.take_take, Nat.min_eq_left (by omega), List.drop_take, hlen]
      congr 3
      rw [Array.length_toList, hk3]
theorem wpList_store_own (hgd : o.guard = none) (ty : TypeId) (x y : Operand) (ho : o.op = .store ty x y) {e base g n c k : Nat} {sz : Nat} {L : List Value}
    (hown : w.ownsRow base e sz (.slice (some ⟨g, 0, none⟩) n c) n L) (hk : k < n) {off : Nat} (hx : a.eval x = .pointer (some ⟨g, off, none⟩)) (hoff : off = k * sz) (cs : Array Value) (hy : a.eval y = .agg cs) (hl : cs.size = sz)
    (hi : (P.info? ty).map (·.size) = some sz) (h1 : ∀ u ∈ cs.toList, u.oneCell' = true)
    (h : ∀ w', w'.ownsRow base e sz (.slice (some ⟨g, 0, none⟩) n c) n (L.take (k * sz) ++ cs.toList ++ L.drop ((k + 1) * sz)) → w.grownBy w' (some g) → wpList P ops Q rest (a.put o.dst undef) w') :
    wpList P ops Q (o :: rest) a w := by
  subst hoff
  refine wpList_plain hgd fun K hK => ?_
  obtain ⟨w', hrun, h2, h3⟩ := run_store_own (P := P) (w := w) (ty := ty) hown hk cs hl hi h1
  unfold Oper.wp execOp
  simp only [ho, hx, hy, Instr.storeAt, Instr.sureAddr, Sem.run_bind, Sem.run_pure, Result.andThen_ok, hrun]
  exact hK _ _ (h w' h2 h3)
/-- 'make([]T, n)'. -/
theorem wpList_make_own (hgd : o.guard = none) {t e sz by_ : Nat} (x y : Operand) (ho : o.op = .makeSlice t x y) (T : ElemT P t e sz by_) {base n : Nat} (hx : a.eval x = .int .i64 n) (hy : a.eval y = .int .i64 n)
    (hb : by_ * n ≤ 281474976710656) (h63 : n ≤ maxLen) (hbase : base ≤ w.heap.size)
    (h : ∀ g w' L, w'.ownsRow base e sz (.slice (some ⟨g, 0, none⟩) n n) n L → w.grownBy w' none → wpList P ops Q rest (a.put o.dst (.slice (some ⟨g, 0, none⟩) n n)) w') : wpList P ops Q (o :: rest) a w := by
  obtain ⟨i, z, h2, h3, h4, h5, h6⟩ := T.hi
  subst h5
  obtain ⟨w', hrun, h7, h8⟩ := run_make_full (P := P) w base t e i z sz T.ht h2 h3 h4 .i64 .i64 n hb h63 hbase
  refine wpList_plain hgd fun K hK => ?_
  unfold Oper.wp execOp
  simp only [ho, hx, hy, Sem.run_bind, Sem.run_pure, Result.andThen_ok, hrun]
  exact hK _ _ (h _ w' _ h7 h8)
end
theorem take_set {L news : List Value} {k sz : Nat} (hn : news.length = sz) (hL : k * sz ≤ L.length) : (L.take (k * sz) ++ news ++ L.drop ((k + 1) * sz)).take ((k + 1) * sz) = L.take (k * sz) ++ news := by
  have h1 : (L.take (k * sz) ++ news).length = (k + 1) * sz := by simp [hn, Nat.succ_mul]; omega
  rw [← h1, List.take_left]
end Go.Proofs.Ytdofehgoeppnmaa
