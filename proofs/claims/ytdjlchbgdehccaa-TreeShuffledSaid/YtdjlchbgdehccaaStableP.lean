/- A stable sort in plain words: what each step of it does to a list. -/
import Derived.Test.YtdjlchbgdehccaaFormP
namespace Go.Proofs.Ytdjlchbgdehccaa
open Go.RowKit

/-- The one path is not behind the other. -/
def leN (x y : Node) : Prop := ¬ pathL y < pathL x
theorem leN_refl (x : Node) : leN x x := List.lt_irrefl _
theorem leN_trans {x y z : Node} (h1 : leN x y) (h2 : leN y z) : leN x z := by
  unfold leN at *
  have a1 : pathL x ≤ pathL y := List.not_lt.1 h1
  have a2 : pathL y ≤ pathL z := List.not_lt.1 h2
  exact List.not_lt.2 (List.le_trans a1 a2)
theorem leN_of_lt {x y : Node} (h : pathL x < pathL y) : leN x y := fun h2 => List.lt_asymm h h2
theorem lt_of_not {x y : Node} (h : ¬ leN x y) : pathL y < pathL x := Classical.byContradiction fun h2 => h h2
abbrev SrtN (l : List Node) : Prop := l.Pairwise leN
theorem srt_app {l m : List Node} (h1 : SrtN l) (h2 : SrtN m) (h : ∀ x ∈ l, ∀ y ∈ m, leN x y) : SrtN (l ++ m) := List.pairwise_append.2 ⟨h1, h2, h⟩
theorem srt_l {l m : List Node} (h : SrtN (l ++ m)) : SrtN l := (List.pairwise_append.1 h).1
theorem srt_r {l m : List Node} (h : SrtN (l ++ m)) : SrtN m := (List.pairwise_append.1 h).2.1
theorem srt_lr {l m : List Node} (h : SrtN (l ++ m)) : ∀ x ∈ l, ∀ y ∈ m, leN x y := (List.pairwise_append.1 h).2.2
theorem srt_get {l : List Node} (h : SrtN l) {i j : Nat} {x y : Node} (hij : i ≤ j) (hx : l[i]? = some x) (hy : l[j]? = some y) : leN x y := by
  rcases Nat.eq_or_lt_of_le hij with rfl | hlt
  · rw [hx] at hy; injection hy with hy; rw [hy]; exact leN_refl _
  · obtain ⟨hi, rfl⟩ := List.getElem?_eq_some_iff.1 hx
    obtain ⟨hj, rfl⟩ := List.getElem?_eq_some_iff.1 hy
    exact List.pairwise_iff_getElem.1 h i j hi hj hlt
/-- An element is put in behind all that are not behind it, ahead of all that are. -/
theorem srt_insert {S1 S2 : List Node} {x : Node} (h : SrtN (S1 ++ S2)) (h1 : ∀ y ∈ S1, leN y x) (h2 : ∀ y ∈ S2, leN x y) : SrtN (S1 ++ x :: S2) := by
  refine srt_app (srt_l h) (List.pairwise_cons.2 ⟨h2, srt_r h⟩) fun a ha b hb => ?_
  rcases List.mem_cons.1 hb with rfl | hb
  · exact h1 a ha
  · exact srt_lr h a ha b hb
/-- Where the last of a sorted list is not behind an element, none is. -/
theorem srt_last {S : List Node} {y x : Node} (h : SrtN (S ++ [y])) (hyx : leN y x) : ∀ a ∈ S ++ [y], leN a x := fun a ha => by
  rcases List.mem_append.1 ha with ha | ha
  · exact leN_trans (srt_lr h a ha y (by simp)) hyx
  · rw [List.mem_singleton.1 ha]; exact hyx
/-- Two sorted lists, halved so that what comes left is nowhere behind what comes right. -/
theorem sym_halves {U V : List Node} (hU : SrtN U) (hV : SrtN V) {u v : Nat} (hu : u ≤ U.length) (hv : v ≤ V.length)
    (h1 : ∀ x y, 0 < u → U[u - 1]? = some x → V[v]? = some y → leN x y) (h2 : ∀ x y, 0 < v → V[v - 1]? = some x → U[u]? = some y → leN x y) :
    ∀ x ∈ U.take u ++ V.take v, ∀ y ∈ U.drop u ++ V.drop v, leN x y := by
  intro x hx y hy
  have hU' : SrtN (U.take u ++ U.drop u) := by rw [List.take_append_drop]; exact hU
  have hV' : SrtN (V.take v ++ V.drop v) := by rw [List.take_append_drop]; exact hV
  rcases List.mem_append.1 hx with hx | hx <;> rcases List.mem_append.1 hy with hy | hy
  · exact srt_lr hU' x hx y hy
  · obtain ⟨i, hi⟩ := List.getElem?_of_mem hx
    obtain ⟨j, hj⟩ := List.getElem?_of_mem hy
    have hil : i < u := by have := (List.getElem?_eq_some_iff.1 hi).1; rw [List.length_take] at this; omega
    rw [List.getElem?_take_of_lt hil] at hi
    rw [List.getElem?_drop] at hj
    have hjl := (List.getElem?_eq_some_iff.1 hj).1
    obtain ⟨a, ha⟩ : ∃ a, U[u - 1]? = some a := ⟨_, List.getElem?_eq_getElem (by omega)⟩
    obtain ⟨b, hb⟩ : ∃ b, V[v]? = some b := ⟨_, List.getElem?_eq_getElem (by omega)⟩
    exact leN_trans (srt_get hU (by omega) hi ha) (leN_trans (h1 a b (by omega) ha hb) (srt_get hV (by omega) hb hj))
  · obtain ⟨i, hi⟩ := List.getElem?_of_mem hx
    obtain ⟨j, hj⟩ := List.getElem?_of_mem hy
    have hil : i < v := by have := (List.getElem?_eq_some_iff.1 hi).1; rw [List.length_take] at this; omega
    rw [List.getElem?_take_of_lt hil] at hi
    rw [List.getElem?_drop] at hj
    have hjl := (List.getElem?_eq_some_iff.1 hj).1
    obtain ⟨a, ha⟩ : ∃ a, V[v - 1]? = some a := ⟨_, List.getElem?_eq_getElem (by omega)⟩
    obtain ⟨b, hb⟩ : ∃ b, U[u]? = some b := ⟨_, List.getElem?_eq_getElem (by omega)⟩
    exact leN_trans (srt_get hV (by omega) hi ha) (leN_trans (h2 a b (by omega) ha hb) (srt_get hU (by omega) hb hj))
  · exact srt_lr hV' x hx y hy
/-- From the halves, each put in order, the whole. -/
theorem sym_join {L R L' R' : List Node} (h : ∀ x ∈ L, ∀ y ∈ R, leN x y) (hL : L'.Perm L) (hR : R'.Perm R) (sL : SrtN L') (sR : SrtN R') : SrtN (L' ++ R') :=
  srt_app sL sR fun x hx y hy => h x (hL.mem_iff.1 hx) y (hR.mem_iff.1 hy)
/-- A swap of two that stand side by side, in a list that is written out. -/
theorem set_pair {A B : List Node} {x y : Node} {k : Nat} (hk : k = A.length) : ((A ++ x :: y :: B).set (k + 1) x).set k y = A ++ y :: x :: B := by
  subst hk
  rw [List.set_append_right _ _ (by omega), List.set_append_right _ _ (by omega)]
  simp
/-- A swap of two blocks of one length, so far. -/
def swapAt (A X M Y B : List Node) (i : Nat) : List Node := A ++ (Y.take i ++ X.drop i) ++ M ++ (X.take i ++ Y.drop i) ++ B
theorem swapAt_0 (A X M Y B : List Node) : swapAt A X M Y B 0 = A ++ X ++ M ++ Y ++ B := by simp [swapAt]
theorem swapAt_n (A X M Y B : List Node) {n : Nat} (hx : X.length = n) (hy : Y.length = n) : swapAt A X M Y B n = A ++ Y ++ M ++ X ++ B := by
  unfold swapAt
  rw [List.take_of_length_le (by omega), List.take_of_length_le (by omega), List.drop_of_length_le (by omega), List.drop_of_length_le (by omega), List.append_nil, List.append_nil]
theorem swapAt_get1 (A X M Y B : List Node) {n i : Nat} (hx : X.length = n) (hy : Y.length = n) (hi : i < n) : (swapAt A X M Y B i)[A.length + i]? = X[i]? := by
  unfold swapAt
  simp only [List.append_assoc]
  rw [List.getElem?_append_right (by omega), List.getElem?_append_right (by rw [List.length_take]; omega), List.getElem?_append_left (by rw [List.length_drop, List.length_take]; omega), List.getElem?_drop]
  congr 1
  rw [List.length_take]; omega
theorem swapAt_get2 (A X M Y B : List Node) {n i : Nat} (hx : X.length = n) (hy : Y.length = n) (hi : i < n) : (swapAt A X M Y B i)[A.length + n + M.length + i]? = Y[i]? := by
  unfold swapAt
  simp only [List.append_assoc]
  rw [List.getElem?_append_right (by omega), List.getElem?_append_right (by rw [List.length_take]; omega), List.getElem?_append_right (by rw [List.length_drop, List.length_take]; omega), List.getElem?_append_right (by rw [List.length_drop, List.length_take]; omega),
    List.getElem?_append_right (by rw [List.length_drop, List.length_take, List.length_take]; omega), List.getElem?_append_left (by rw [List.length_drop, List.length_drop, List.length_take, List.length_take]; omega), List.getElem?_drop]
  congr 1
  rw [List.length_drop, List.length_take, List.length_take]; omega
theorem take_set_drop {l : List Node} {i : Nat} {x : Node} (h : l[i]? = some x) : l.drop i = x :: l.drop (i + 1) := by
  obtain ⟨hi, rfl⟩ := List.getElem?_eq_some_iff.1 h
  exact List.drop_eq_getElem_cons hi
theorem set_at {P Q : List Node} {x y : Node} {k : Nat} (hk : k = P.length) : (P ++ x :: Q).set k y = P ++ y :: Q := by
  subst hk
  rw [List.set_append_right _ _ (Nat.le_refl _), Nat.sub_self]
  rfl
theorem swapAt_succ (A X M Y B : List Node) {n i : Nat} (hx : X.length = n) (hy : Y.length = n) {x y : Node} (hxi : X[i]? = some x) (hyi : Y[i]? = some y) :
    ((swapAt A X M Y B i).set (A.length + i) y).set (A.length + n + M.length + i) x = swapAt A X M Y B (i + 1) := by
  have hi : i < n := by rw [← hx]; exact (List.getElem?_eq_some_iff.1 hxi).1
  have t1 : Y.take (i + 1) = Y.take i ++ [y] := by rw [List.take_add_one, hyi]; rfl
  have t2 : X.take (i + 1) = X.take i ++ [x] := by rw [List.take_add_one, hxi]; rfl
  have e1 : swapAt A X M Y B i = (A ++ Y.take i) ++ x :: (X.drop (i + 1) ++ (M ++ (X.take i ++ (y :: (Y.drop (i + 1) ++ B))))) := by
    unfold swapAt
    rw [take_set_drop hxi, take_set_drop hyi]
    simp
  have e2 : (A ++ Y.take i) ++ y :: (X.drop (i + 1) ++ (M ++ (X.take i ++ (y :: (Y.drop (i + 1) ++ B))))) = (A ++ Y.take i ++ y :: (X.drop (i + 1) ++ (M ++ X.take i))) ++ y :: (Y.drop (i + 1) ++ B) := by simp
  rw [e1, set_at (by rw [List.length_append, List.length_take]; omega), e2, set_at (by simp only [List.length_append, List.length_cons, List.length_take, List.length_drop]; omega)]
  unfold swapAt
  rw [t1, t2]
  simp
/-! Blocks. -/
theorem low_same {A X Y : List Node} {i n : Nat} (h : i + n ≤ A.length) : ((A ++ X).drop i).take n = ((A ++ Y).drop i).take n := by
  rw [List.drop_append_of_le_length (by omega), List.drop_append_of_le_length (by omega), List.take_append_of_le_length (by rw [List.length_drop]; omega), List.take_append_of_le_length (by rw [List.length_drop]; omega)]
theorem high_same {A X Y B : List Node} {i : Nat} (hl : X.length = Y.length) (h : A.length + X.length ≤ i) : (A ++ X ++ B).drop i = (A ++ Y ++ B).drop i := by
  rw [List.drop_append (l₁ := A ++ X), List.drop_append (l₁ := A ++ Y), List.drop_of_length_le (show (A ++ X).length ≤ i by rw [List.length_append]; omega), List.drop_of_length_le (show (A ++ Y).length ≤ i by rw [List.length_append]; omega), List.length_append, List.length_append, hl]
theorem mid_take {A W B : List Node} {i n : Nat} (hi : i = A.length) (hn : W.length = n ∨ (W.length ≤ n ∧ B = [])) : ((A ++ W ++ B).drop i).take n = W := by
  subst hi
  rw [List.append_assoc, List.drop_left]
  rcases hn with rfl | ⟨h, rfl⟩
  · rw [List.take_left]
  · rw [List.append_nil, List.take_of_length_le h]
theorem srt_take {l : List Node} (h : SrtN l) (n : Nat) : SrtN (l.take n) := h.sublist (List.take_sublist n l)
/-- One more block is in order. -/
theorem blk_step {s t : Nat} {A U W B : List Node} (hW : W.Perm U) (hs : SrtN W) (hA : A.length = t * s) (hU : U.length = s ∨ (U.length ≤ s ∧ B = [])) (h : ∀ k, k < t → SrtN (((A ++ U ++ B).drop (k * s)).take s)) :
    ∀ k, k < t + 1 → SrtN (((A ++ W ++ B).drop (k * s)).take s) := fun k hk => by
  by_cases e : k = t
  · subst e
    rw [mid_take hA.symm (by rw [hW.length_eq]; exact hU)]
    exact hs
  · have hks : k * s + s ≤ A.length := by rw [hA, ← Nat.succ_mul]; exact Nat.mul_le_mul_right _ (by omega)
    have := h k (by omega)
    rw [List.append_assoc, low_same (Y := W ++ B) hks, ← List.append_assoc] at this
    exact this
def Blocks (s : Nat) (l : List Node) : Prop := ∀ k, SrtN ((l.drop (k * s)).take s)
theorem blocks_of {s t : Nat} {l : List Node} (h : ∀ k, k < t → SrtN ((l.drop (k * s)).take s)) (hl : l.length ≤ t * s) : Blocks s l := fun k => by
  by_cases e : k < t
  · exact h k e
  · have : t * s ≤ k * s := Nat.mul_le_mul_right _ (by omega)
    rw [List.drop_of_length_le (by omega)]
    simp
/-- While blocks are merged by pairs. -/
structure PairsP (s t : Nat) (l : List Node) : Prop where
  done : ∀ k, k < t → SrtN ((l.drop (k * (2 * s))).take (2 * s))
  rest : ∀ k, 2 * t ≤ k → SrtN ((l.drop (k * s)).take s)
theorem PairsP.begin {s : Nat} {l : List Node} (h : Blocks s l) : PairsP s 0 l := ⟨fun k h => by omega, fun k _ => h k⟩
theorem PairsP.step {s t : Nat} {A U W B : List Node} (h : PairsP s t (A ++ U ++ B)) (hW : W.Perm U) (hs : SrtN W) (hA : A.length = t * (2 * s)) (hU : U.length = 2 * s) : PairsP s (t + 1) (A ++ W ++ B) := by
  refine ⟨blk_step hW hs hA (.inl hU) h.done, fun k hk => ?_⟩
  have h1 : A.length + W.length ≤ k * s := by
    rw [hA, hW.length_eq, hU, show t * (2 * s) + 2 * s = (2 * (t + 1)) * s by rw [← Nat.succ_mul, Nat.mul_left_comm, Nat.mul_assoc]]
    exact Nat.mul_le_mul_right _ (by omega)
  rw [high_same (Y := U) hW.length_eq h1]
  exact h.rest k (by omega)
theorem PairsP.last {s t : Nat} {A U W : List Node} (h : PairsP s t (A ++ U)) (hW : W.Perm U) (hs : SrtN W) (hA : A.length = t * (2 * s)) (hU : U.length ≤ 2 * s) : Blocks (2 * s) (A ++ W) := by
  have h1 := blk_step (B := []) hW hs hA (.inr ⟨hU, rfl⟩) (by rw [List.append_nil]; exact h.done)
  rw [List.append_nil] at h1
  have e : (t + 1) * (2 * s) = t * (2 * s) + 2 * s := Nat.succ_mul _ _
  exact blocks_of h1 (by rw [List.length_append, hA, hW.length_eq, e]; omega)
theorem PairsP.none {s t : Nat} {l : List Node} (h : PairsP s t l) (h1 : t * (2 * s) ≤ l.length) (h2 : l.length ≤ t * (2 * s) + s) : Blocks (2 * s) l := by
  have hl : l = l.take (t * (2 * s)) ++ l.drop (t * (2 * s)) := (List.take_append_drop _ _).symm
  have hA : (l.take (t * (2 * s))).length = t * (2 * s) := by rw [List.length_take]; omega
  have hd : (l.drop (t * (2 * s))).length ≤ s := by rw [List.length_drop]; omega
  have hs : SrtN (l.drop (t * (2 * s))) := by
    have := h.rest (2 * t) (Nat.le_refl _)
    rw [show 2 * t * s = t * (2 * s) by rw [Nat.mul_comm 2 t, Nat.mul_assoc], List.take_of_length_le hd] at this
    exact this
  rw [hl]
  exact PairsP.last (hl ▸ h) (List.Perm.refl _) hs hA (by omega)
theorem blocks_all {s : Nat} {l : List Node} (h : Blocks s l) (hl : l.length ≤ s) : SrtN l := by
  have := h 0
  rw [Nat.zero_mul, List.drop_zero, List.take_of_length_le hl] at this
  exact this
/-- Two blocks that stand side by side, as a part of the list. -/
theorem pair_parts {s t : Nat} {l : List Node} (h : PairsP s t l) (hs : 0 < s) (hlt : t * (2 * s) + s < l.length) :
    ∃ A U V B, l = A ++ (U ++ V) ++ B ∧ A.length = t * (2 * s) ∧ U.length = s ∧ 0 < V.length ∧ SrtN U ∧ SrtN V ∧ ((t * (2 * s) + 2 * s ≤ l.length → V.length = s) ∧ (l.length < t * (2 * s) + 2 * s → B = [] ∧ U.length + V.length + A.length = l.length)) := by
  obtain ⟨a, ha⟩ : ∃ a, t * (2 * s) = a := ⟨_, rfl⟩
  have e1 : 2 * t * s = a := by rw [← ha, Nat.mul_comm 2 t, Nat.mul_assoc]
  have e2 : (2 * t + 1) * s = a + s := by rw [Nat.succ_mul, e1]
  have r1 := h.rest (2 * t) (Nat.le_refl _)
  have r2 := h.rest (2 * t + 1) (by omega)
  rw [e1] at r1
  rw [e2] at r2
  rw [ha] at hlt ⊢
  refine ⟨l.take a, (l.drop a).take s, (l.drop (a + s)).take s, l.drop (a + s + s), ?_, by rw [List.length_take]; omega, by rw [List.length_take, List.length_drop]; omega, by rw [List.length_take, List.length_drop]; omega, r1, r2, fun h => by rw [List.length_take, List.length_drop]; omega, fun h => ⟨List.drop_of_length_le (by omega), ?_⟩⟩
  · have h1 : (l.drop a).drop s = l.drop (a + s) := by rw [List.drop_drop]
    have h2 : (l.drop (a + s)).drop s = l.drop (a + s + s) := by rw [List.drop_drop]
    rw [List.append_assoc, List.append_assoc, ← h2, List.take_append_drop, ← h1, List.take_append_drop, List.take_append_drop]
  · rw [List.length_take, List.length_take, List.length_take, List.length_drop, List.length_drop]; omega
end Go.Proofs.Ytdjlchbgdehccaa
