/- tree.Find. -/
import Derived.Test.YtdjlchbgdehccaaCheck
import Derived.Test.YtdjlchbgdehccaaLooksR
namespace Go.Proofs.Ytdjlchbgdehccaa
open Go.RowKit Go.Shelf
attribute [local go_sem] Oper.semAt_some

theorem find_at (p : ByteArray) : ∀ (pre rest : List Node) (x : Node) (i : Int), (∀ y ∈ pre, (y.path.toList == p.toList) = false) → (x.path.toList == p.toList) = true → findFrom p (pre ++ x :: rest) i = i + pre.length
  | [], rest, x, i, _, hx => by rw [List.nil_append, findFrom, if_pos hx]; simp
  | y :: t, rest, x, i, h, hx => by
    rw [List.cons_append, findFrom, if_neg (by rw [h y (by simp)]; simp), find_at p t rest x (i + 1) (fun z hz => h z (List.mem_cons_of_mem _ hz)) hx]
    simp only [List.length_cons]
    omega
theorem find_none (p : ByteArray) : ∀ (l : List Node) (i : Int), (∀ y ∈ l, (y.path.toList == p.toList) = false) → findFrom p l i = -1
  | [], _, _ => rfl
  | y :: t, i, h => by rw [findFrom, if_neg (by rw [h y (by simp)]; simp), find_none p t (i + 1) (fun z hz => h z (List.mem_cons_of_mem _ hz))]
theorem toldN_len (t : TV) (h : t.nodes.length = t.nn) : (toldN t).length ≤ t.nn := by
  unfold toldN
  split
  · omega
  · simp
/-- Ahead of each round: no node told so far has the path; the counter. -/
def FindJ (p : ByteArray) (s : Nat) (pre : List Node) (W : World) : Prop :=
  (∀ y ∈ pre, (y.path.toList == p.toList) = false) ∧ W.cell? ⟨s + 1, 0, none⟩ = some (.string p) ∧ W.cell? ⟨s + 1 + 1, 0, none⟩ = some (.int .i64 0) ∧ W.frozen? ⟨s + 1 + 1, 0, none⟩ = false ∧ W.cell? ⟨s + 1 + 1 + 1, 0, none⟩ = some (.int .i64 pre.length) ∧ W.frozen? ⟨s + 1 + 1 + 1, 0, none⟩ = false
def FindX (p : ByteArray) (s : Nat) (pre : List Node) (W : World) : Prop :=
  ∃ pre' x, pre = pre' ++ [x] ∧ (∀ y ∈ pre', (y.path.toList == p.toList) = false) ∧ (x.path.toList == p.toList) = true ∧ W.cell? ⟨s + 1 + 1, 0, none⟩ = some (.int .i64 pre'.length)
set_option maxRecDepth 100000 in
set_option maxHeartbeats 4000000 in
theorem find_any (t : TV) (p : ByteArray) (w : World) (h : TreeAt w t) : Calls Try.prog 23 #[t.val, .string p] w (IntRes (findI (toldN t) p) w) := by
  have hns := h.ns
  have hnm := h.nm
  have hnl := toldN_len t h.nl
  obtain ⟨nodes, files, NA, nn, nc, FA, fn, fc⟩ := t
  simp only at hns hnm hnl
  have Hns := Lib.hid hns; clear hns
  have Ht := Lib.hid h; clear h
  have HW0 : Below w.heap.size w ((((w.alloc (.cells #[.slice NA nn nc, .slice FA fn fc] 26)).alloc (.cells #[.string p] 9)).alloc (.cells #[.int .i64 0] 3)).alloc (.cells #[.int .i64 0] 3)) :=
    ((((Below.refl _ _).alloc (Nat.le_refl _) _).alloc (by simp) _).alloc (by simp; omega) _).alloc (by simp; omega) _
  obtain ⟨R, hR⟩ : ∃ R, findI (toldN ⟨nodes, files, NA, nn, nc, FA, fn, fc⟩) p = R := ⟨_, rfl⟩
  rw [hR]
  have HR := Lib.hid hR; clear hR
  unfold TV.val
  have b0 := (((Blk.new w 26 #[.slice NA nn nc, .slice FA fn fc]).alloc (.cells #[.string p] 9)).alloc (.cells #[.int .i64 0] 3)).alloc (.cells #[.int .i64 0] 3)
  have b1 := ((Blk.new (w.alloc (.cells #[.slice NA nn nc, .slice FA fn fc] 26)) 9 #[.string p]).alloc (.cells #[.int .i64 0] 3)).alloc (.cells #[.int .i64 0] 3)
  have b2 := (Blk.new ((w.alloc (.cells #[.slice NA nn nc, .slice FA fn fc] 26)).alloc (.cells #[.string p] 9)) 3 #[.int .i64 0]).alloc (.cells #[.int .i64 0] 3)
  have b3 := Blk.new (((w.alloc (.cells #[.slice NA nn nc, .slice FA fn fc] 26)).alloc (.cells #[.string p] 9)).alloc (.cells #[.int .i64 0] 3)) 3 #[.int .i64 0]
  simp only [World.size_alloc] at b1 b2 b3
  refine (callsIn_wide (n := 5)).1 ?_
  refine callsIn_of_wp_marks Try.func23 rfl trivial ?_ rfl
  simp only [Try.ntmps23, List.size_toArray, List.length_cons, List.length_nil, Nat.reduceAdd, Nat.reduceSub, Array.replicate_succ, Array.replicate_zero, List.push_toArray, List.append_toArray, List.nil_append, List.cons_append]
  gi_wp2_with (refine ⟨trivial, ?_⟩; gi_at_call 44; refine (nodes_in _ ⟨nodes, files, NA, nn, nc, FA, fn, fc⟩ _).mono ?_; rintro e w' ⟨rfl, rfl⟩)
  have HW2 := HW0.alloc HW0.size (.cells (TV.cells ⟨nodes, files, NA, nn, nc, FA, fn, fc⟩) 26)
  have hBt := Blk.new ((((w.alloc (.cells #[.slice NA nn nc, .slice FA fn fc] 26)).alloc (.cells #[.string p] 9)).alloc (.cells #[.int .i64 0] 3)).alloc (.cells #[.int .i64 0] 3)) 26 (TV.cells ⟨nodes, files, NA, nn, nc, FA, fn, fc⟩)
  replace b1 := b1.alloc (.cells (TV.cells ⟨nodes, files, NA, nn, nc, FA, fn, fc⟩) 26)
  replace b2 := b2.alloc (.cells (TV.cells ⟨nodes, files, NA, nn, nc, FA, fn, fc⟩) 26)
  replace b3 := b3.alloc (.cells (TV.cells ⟨nodes, files, NA, nn, nc, FA, fn, fc⟩) 26)
  simp only [World.size_alloc] at hBt
  refine wpIn_rangeFunc_ownH rfl (by omega) (gf := 72) (lb := #[.pointer (some ⟨w.heap.size + 1 + 1 + 1 + 1, 0, none⟩)]) rfl trivial (enters_of Try.func72 (by kernel_rfl) rfl)
    (nodes_stops 4 (by omega) (w.heap.size + 1 + 1 + 1 + 1) w.heap.size ⟨nodes, files, NA, nn, nc, FA, fn, fc⟩ _ (Ht.out.keep HW2) (Hns.out.keep (Nat.le_refl _) (fun k hk => HW2.block k hk)) HW2.size hBt) belowK_t (belowK_b HW2.size) (Below.refl _ _) (fun _ => rfl)
    (fun pre W => FindJ p w.heap.size pre W ∧ Below w.heap.size w W)
    (fun c pre W => (c = .ret ∧ FindX p w.heap.size pre W) ∧ Below w.heap.size w W)
    (OwnFrom.and (Own.from (fun s A B row hs hg hr => ⟨hs.1, cell_kept hs.2.1 hg hr, cell_kept hs.2.2.1 hg hr, (frozen_kept hs.2.2.1 hg hr).trans hs.2.2.2.1, cell_kept hs.2.2.2.2.1 hg hr, (frozen_kept hs.2.2.2.2.1 hg hr).trans hs.2.2.2.2.2⟩) _) (ownFrom_below (Nat.le_refl _) HW2.size))
    (fun c => OwnFrom.and (Own.from (fun s A B row hs hg hr => ⟨hs.1, let ⟨pre', x, e1, e2, e3, e4⟩ := hs.2; ⟨pre', x, e1, e2, e3, cell_kept e4 hg hr⟩⟩) _) (ownFrom_below (Nat.le_refl _) HW2.size))
    ⟨⟨(fun y hy => (by cases hy)), b1.cell 0, b2.cell 0, b2.frozen 0, b3.cell 0, b3.frozen 0⟩, HW2⟩
    (fun x a' W => ∃ nb, w.heap.size + 1 + 1 + 1 < nb ∧ Blk W nb 29 #[.string x.path, .int .i64 x.file, .int .i64 x.mode] ∧ a' = { tmps := #[.agg #[.slice NA nn nc, .slice FA fn fc], .string p, .pointer (some ⟨w.heap.size, 0, none⟩), .pointer (some ⟨w.heap.size + 1, 0, none⟩), .pointer (some ⟨w.heap.size + 1 + 1, 0, none⟩), .pointer (some ⟨w.heap.size + 1 + 1 + 1, 0, none⟩), .pointer (some ⟨nb, 0, none⟩), .agg #[.slice NA nn nc, .slice FA fn fc], .func (.func 72) #[] #[.pointer (some ⟨w.heap.size + 1 + 1 + 1 + 1, 0, none⟩)], .agg #[.string x.path, .int .i64 x.file, .int .i64 x.mode], undef, undef, undef, undef, undef, undef, undef], defers := [] })
    (fun x a' u W W' row hs hg hr => by
      obtain ⟨nb, h1, h2, h3⟩ := hs
      refine ⟨nb, h1, h2.grown hg (fun e => ?_), h3⟩
      obtain ⟨_, o, ho, hoc⟩ := hr nb e.symm
      rw [show W.heap[nb]? = _ from h2] at ho
      cases ho
      cases hoc) ?assign ?body ?done ?stop
  case assign =>
    rintro l pre x W K ⟨⟨hp, hc1, hc2, hf2, hc3, hf3⟩, hB⟩ hK
    have Hp := Lib.hid hp; clear hp
    have HK := Lib.hid hK; clear hK
    have hsB := hB.size
    simp only [encN]
    gi_wp2
    have HWa : Below w.heap.size W (W.alloc (.cells #[.string x.path, .int .i64 x.file, .int .i64 x.mode] 29)) := (Below.refl _ W).alloc hsB _
    have hcl := cell_lt hc3
    exact HK.out _ _ ((KeepsOthers.alloc _ _).from _) HWa ⟨⟨Hp.out, cell_alloc_l _ hc1, cell_alloc_l _ hc2, frozen_alloc_l _ hc2 hf2, cell_alloc_l _ hc3, frozen_alloc_l _ hc3 hf3⟩, hB.trans HWa⟩ ⟨W.heap.size, hcl, Blk.new _ _ _, rfl⟩
  case body =>
    rintro l pre x a' W _ _ ⟨⟨hp, hc1, hc2, hf2, hc3, hf3⟩, hB⟩ ⟨nb, hnb, hN, rfl⟩ hlen
    have Hp := Lib.hid hp; clear hp
    have n0 := hN.cell 0
    have hlt1 := cell_lt hc3
    have hpl : pre.length < 9223372036854775807 := by omega
    cases hq : (x.path.toList == p.toList) with
    | true =>
      have Hq := Lib.hid hq
      gi_wp2
      exact ⟨(KeepsOthers.setCell _ _ _).from _, ⟨rfl, pre, x, rfl, Hp.out, Hq.out, World.cell?_setCell_same' _ _ _ (by rw [hc2]; rfl)⟩, hB.setCell (p := ⟨w.heap.size + 1 + 1, 0, none⟩) (by show w.heap.size ≤ w.heap.size + 1 + 1; omega) _⟩
    | false =>
      have Hq := Lib.hid hq
      gi_wp2
      have far : ∀ k, k < w.heap.size + 1 + 1 + 1 → (W.setCell ⟨w.heap.size + 1 + 1 + 1, 0, none⟩ (.int .i64 ((pre.length : Int) + 1))).cell? ⟨k, 0, none⟩ = W.cell? ⟨k, 0, none⟩ := fun k hk => World.cell?_setCell_far _ _ _ _ (by show w.heap.size + 1 + 1 + 1 ≠ k; omega)
      exact ⟨(KeepsOthers.setCell _ _ _).from _, (Below.refl _ W).setCell (p := ⟨w.heap.size + 1 + 1 + 1, 0, none⟩) (by show w.heap.size ≤ w.heap.size + 1 + 1 + 1; omega) _,
        ⟨fun y hy => (List.mem_append.1 hy).elim (Hp.out y) (fun e => by rw [List.mem_singleton.1 e]; exact Hq.out), (far _ (by omega)).trans hc1, (far _ (by omega)).trans hc2, (by rw [World.frozen?_setCell]; exact hf2), by rw [World.cell?_setCell_same' _ _ _ (by rw [hc3]; rfl), List.length_append]; rfl, (by rw [World.frozen?_setCell]; exact hf3)⟩,
        hB.setCell (p := ⟨w.heap.size + 1 + 1 + 1, 0, none⟩) (by show w.heap.size ≤ w.heap.size + 1 + 1 + 1; omega) _⟩
  case done =>
    rintro D ys W hD rfl ⟨⟨hne, hc1, hc2, hf2, hc3, hf3⟩, hB⟩ hK
    have Hne := Lib.hid hne; clear hne
    gi_wp2
    have hK' := (KeepsOthers.setCell W ⟨w.heap.size + 1 + 1, 0, none⟩ (.int .i64 (-1))).same D _ hK rfl
    refine ⟨by simp, .inl ⟨_, _, rfl, run_takeDeferred hK', ?_⟩⟩
    have hc5 := cell_kept (World.cell?_setCell_same' W ⟨w.heap.size + 1 + 1, 0, none⟩ (.int .i64 (-1)) (by rw [hc2]; rfl)) (grownBy_putObj' _ D (.deferred none)) (fun r e => by cases e; exact ⟨_, hK', rfl⟩)
    refine ⟨.int .i64 (-1), ?_, by rw [← HR.out, findI, find_none p _ 0 Hne.out], (hB.setCell (p := ⟨w.heap.size + 1 + 1, 0, none⟩) (by show w.heap.size ≤ w.heap.size + 1 + 1; omega) _).trans (belowK_b (w := w) (Nat.le_refl _) _ D _ _ (Nat.le_trans HW2.size hD) hK' rfl rfl)⟩
    simp [results, Try.f23, go_sem, hc5]
  case stop =>
    rintro D c pre W hD hpre ⟨⟨rfl, pre', x, rfl, hno, hyes, hcr⟩, hB⟩ hK
    obtain ⟨rest, hrest⟩ := hpre
    have hval : R = pre'.length := by
      rw [← HR.out, findI, ← hrest, List.append_assoc, List.singleton_append, find_at p pre' rest x 0 hno hyes]; omega
    have Hval := Lib.hid hval
    clear hno hyes hrest hval
    gi_wp2
    refine ⟨by simp, .inl ⟨_, _, rfl, run_takeDeferred hK, ?_⟩⟩
    have hc5 := cell_kept hcr (grownBy_putObj' _ D (.deferred none)) (fun r e => by cases e; exact ⟨_, hK, rfl⟩)
    refine ⟨.int .i64 pre'.length, ?_, by rw [Hval.out], hB.trans (belowK_b (w := w) (Nat.le_refl _) W D _ _ (Nat.le_trans HW2.size hD) hK rfl rfl)⟩
    simp [results, Try.f23, go_sem, hc5]
end Go.Proofs.Ytdjlchbgdehccaa
