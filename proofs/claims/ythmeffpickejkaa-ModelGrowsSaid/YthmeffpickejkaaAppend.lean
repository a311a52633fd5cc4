/- 'append(s, t...)': s a row of the call's own, t any slice that is known. -/
import Derived.Test.YthmeffpickejkaaMem
import Derived.Laws.AppendOwnNone
namespace Go.Proofs.Ythmeffpickejkaa
open Go.RowKit

theorem own_prefix {w : World} {base e sz g n c i : Nat} {L : List Value} (hown : w.ownsRow base e sz (.slice (some ⟨g, 0, none⟩) n c) n L) (hi : i ≤ n) : w.ownsRow base e sz (.slice (some ⟨g, 0, none⟩) i c) i (L.take (i * sz)) := by
  have hL := hown.1
  have hi' : i * sz ≤ n * sz := Nat.mul_le_mul_right _ hi
  refine ⟨by rw [List.length_take, hL]; exact Nat.min_eq_left hi', ?_⟩
  rcases hown.2 with ⟨h', _⟩ | ⟨g', cap, cur, hv, hg, hh, hnc', hcm', hcs, ht⟩
  · cases h'
  · injection hv with hA _ hC
    injection hA with hA
    injection hA with hA
    subst hA hC
    exact .inr ⟨g, c, cur, rfl, hg, hh, by omega, hcm', hcs, by rw [← ht, List.take_take, Nat.min_eq_left hi']⟩

section
variable {P : Program} {ops : Array Oper} {rest : List Oper} {o : Oper} {a : Act} {Q : Exit → Act → World → Prop} {w : World}

theorem run_append_sl {t ty e sz by_ : Nat} (T : ElemT P t e sz by_) {base n c m c2 B : Nat} {A A2 : Option Addr} {L L2 : List Value} (hown : w.ownsRow base e sz (.slice A n c) n L)
    (hs : Sl w B sz A2 m L2) (h1 : ∀ u ∈ L2, u.oneCell' = true) (h63 : n + m ≤ maxLen) (hb : (n + m) * by_ ≤ 140737488355328) (hbase : base ≤ w.heap.size) :
    ∃ A3 c3 w', (Builtin.append_ #[t, t] ty #[.slice A n c, .slice A2 m c2]).run P w = .ok (.slice A3 (n + m) c3) w' ∧
      w'.ownsRow base e sz (.slice A3 (n + m) c3) (n + m) (L ++ L2) ∧ w.grownBy w' (blkOf A) ∧ (∀ g, blkOf A3 = some g → blkOf A = some g ∨ w.heap.size ≤ g) := by
  obtain ⟨i, z, h2, h3, h4, h5, h6⟩ := T.hi
  have fin : ∀ ad : Addr, (∀ j u, L2[j]? = some u → w.cell? (ad.add j) = some u) → A2 = some ad → ∃ A3 c3 w', (Builtin.append_ #[t, t] ty #[.slice A n c, .slice A2 m c2]).run P w = .ok (.slice A3 (n + m) c3) w' ∧
      w'.ownsRow base e sz (.slice A3 (n + m) c3) (n + m) (L ++ L2) ∧ w.grownBy w' (blkOf A) ∧ (∀ g, blkOf A3 = some g → blkOf A = some g ∨ w.heap.size ≤ g) := by
    intro ad hc hA
    subst hA
    obtain ⟨v', w', hrun, ho, hg, hnil, hat⟩ := run_append_own_at (P := P) w base t ty e i z sz by_ T.ht h2 h3 h4 h5 h6 T.pos (.slice A n c) n L hown ad m c2 L2 hs.1 hc h1 h63 hb hbase
    have hbk : (Value.slice A n c).ownBlock = blkOf A := by cases A <;> rfl
    rw [hbk] at hg hat
    rcases ho.2 with ⟨hv, h0⟩ | ⟨g, cap, cur, hv, _⟩
    · subst hv
      obtain ⟨rfl, rfl⟩ : n = 0 ∧ m = 0 := by omega
      exact ⟨none, 0, w', hrun, ho, hg, fun g e => by cases e⟩
    · subst hv
      refine ⟨_, cap, w', hrun, ho, hg, fun g' e => ?_⟩
      have hg' : g = g' := by simpa [blkOf] using e
      subst hg'
      rcases hat with h | h
      · left; rw [← h]; rfl
      · right; simp [Value.ownBlock] at h; omega
  rcases A2 with _ | ad
  · have hm : m = 0 := by
      rcases Nat.eq_zero_or_pos m with h | h
      · exact h
      · obtain ⟨_, _, e, _⟩ := hs.2 h; cases e
    subst hm
    have hl : L2 = [] := List.eq_nil_of_length_eq_zero (by rw [hs.1]; simp)
    subst hl
    refine ⟨A, c, w, ?_, by simpa using hown, ⟨rfl, rfl, rfl, Nat.le_refl _, fun _ _ _ => rfl⟩, fun g h => .inl h⟩
    rcases hown.2 with ⟨hv, h0⟩ | ⟨g, cap, cur, hv, _, _, hnc, _⟩
    · injection hv with hA hn hc
      subst hA hn hc
      simp [Builtin.append_, run_underlying T.ht, sizeOf, typeInfo, h2, Builtin.lenOf, Builtin.firstCells]
    · injection hv with hA hn hc
      subst hA hc
      simp [Builtin.append_, run_underlying T.ht, sizeOf, typeInfo, h2, Builtin.lenOf, Builtin.firstCells, hnc, storeCells]
  · rcases Nat.eq_zero_or_pos m with h | h
    · have hl : L2 = [] := List.eq_nil_of_length_eq_zero (by rw [hs.1, h]; simp)
      exact fin ad (fun j u hj => by rw [hl] at hj; cases hj) rfl
    · obtain ⟨b, o, e, hbB, hr⟩ := hs.2 h
      refine fin ad (fun j u hj => ?_) rfl
      injection e with e
      rw [e, add_at]
      exact hr j u hj
theorem wpList_append_sl (hgd : o.guard = none) (s x : Operand) (t : TypeId) (ho : o.op = .call { callee := .builtin .append, args := #[s, x], argTypes := #[t, t] })
    {e sz by_ : Nat} (T : ElemT P t e sz by_) {base n c m c2 B : Nat} {A A2 : Option Addr} {L L2 : List Value} (hs : a.eval s = .slice A n c) (hown : w.ownsRow base e sz (.slice A n c) n L) (hx : a.eval x = .slice A2 m c2)
    (hsl : Sl w B sz A2 m L2) (h1 : ∀ u ∈ L2, u.oneCell' = true) (h63 : n + m ≤ maxLen) (hb : (n + m) * by_ ≤ 140737488355328) (hbase : base ≤ w.heap.size)
    (h : ∀ A3 c3 w', w'.ownsRow base e sz (.slice A3 (n + m) c3) (n + m) (L ++ L2) → w.grownBy w' (blkOf A) → (∀ g, blkOf A3 = some g → blkOf A = some g ∨ w.heap.size ≤ g) → wpList P ops Q rest (a.put o.dst (.slice A3 (n + m) c3)) w') :
    wpList P ops Q (o :: rest) a w := by
  refine wpList_plain hgd fun K hK => ?_
  obtain ⟨A3, c3, w', hrun, h2, h3, h4⟩ := run_append_sl (P := P) (w := w) (ty := o.type) (c2 := c2) T hown hsl h1 h63 hb hbase
  unfold Oper.wp execOp
  simp only [ho, resolve, invoke, builtin, Sem.run_bind, Sem.run_pure, Result.andThen_ok, List.map_toArray, List.map_cons, List.map_nil, hs, hx, hrun]
  exact hK _ _ (h A3 c3 w' h2 h3 h4)
end
end Go.Proofs.Ythmeffpickejkaa
