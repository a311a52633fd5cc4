/- tree.Names and tree.Kids. -/
import Derived.Test.YtdjlchbgdehccaaCheck
import Derived.Test.YtdjlchbgdehccaaLooksR
import Derived.Test.YtdjlchbgdehccaaFind
import Derived.Test.YtdjlchbgdehccaaRounds
import Derived.Test.YtdjlchbgdehccaaKit
namespace Go.Proofs.Ytdjlchbgdehccaa
open Go.RowKit Go.Shelf
attribute [local go_sem] Oper.semAt_some

theorem wpListIn_append_one {F : Fence} {nF : Nat} {P : Program} {w : World} {ops : Array Oper} {rest : List Oper} {o : Oper} {a : Act} {Q : Exit → Act → World → Prop} (hgd : o.guard = none) (s x : Operand) (t : TypeId) (ho : o.op = .call { callee := .builtin .append, args := #[s, x], argTypes := #[t, t] })
    {e sz by_ : Nat} (T : ElemT P t e sz by_) {base : Nat} {A : Option Addr} {n c : Nat} {L : List Value} (hs : a.eval s = .slice A n c) (hown : w.ownsRow base e sz (.slice A n c) n L)
    (cs : Array Value) {N : Nat} (hx : a.eval x = .slice (some ⟨N, 0, none⟩) 1 1) (hN : N = w.heap.size) (hl : cs.size = sz) (h1 : ∀ u ∈ cs.toList, u.oneCell' = true) (h63 : n + 1 ≤ maxLen) (hb : (n + 1) * by_ ≤ 140737488355328) (hbase : base ≤ w.heap.size)
    (h : ∀ g c' w', w'.ownsRow base e sz (.slice (some ⟨g, 0, none⟩) (n + 1) c') (n + 1) (L ++ cs.toList) → w.grownBy w' (blkOf A) → (blkOf A = some g ∨ w.heap.size < g) → wpListIn F nF P ops Q rest (a.put o.dst (.slice (some ⟨g, 0, none⟩) (n + 1) c')) w') :
    wpListIn F nF P ops Q (o :: rest) a (w.alloc (.cells cs e)) := by
  subst hN
  refine wpListIn_plain hgd fun K hK' => ?_
  obtain ⟨g, c', w', hrun, h2, h3, h4⟩ := run_append_one (P := P) (w := w) (ty := o.type) T hown cs hl h1 h63 hb hbase
  unfold Oper.wpIn
  refine ⟨?_, ?_⟩
  · simp [Oper.about, ho, resolve, Target.leads, Sem.run_pure]
  · rw [Oper.semAt_plain F _ _ (by rw [ho]; intro c hc'; cases hc')]
    simp [execOp, ho, resolve, invoke, builtin, hs, hx, hrun, Result.andThen]
    exact hK' _ _ (h g c' w' h2 h3 h4)
theorem blk_kept {W W' : World} {row : Option Nat} {g : Nat} {t : TypeId} {cs : Array Value} (h : Blk W g t cs) (hg : W.grownBy W' row) (hr : ∀ r, row = some r → ∃ o, W.heap[r]? = some o ∧ o.isCells = false) : Blk W' g t cs :=
  h.grown hg fun e => by
    obtain ⟨o, ho, hoc⟩ := hr g e.symm
    rw [show W.heap[g]? = _ from h] at ho
    cases ho
    cases hoc
theorem own_cells {w : World} {base e sz n c : Nat} {A : Option Addr} {L : List Value} (h : w.ownsRow base e sz (.slice A n c) n L) : ∀ j o, blkOf A = some j → w.heap[j]? = some o → o.isCells = true := by
  intro j o hj ho
  rcases h.2 with ⟨h', _⟩ | ⟨g', cap, cur, hv, hg', hh, _⟩
  · injection h' with h'; subst h'; cases hj
  · injection hv with hA
    subst hA
    simp only [blkOf, Option.some.injEq] at hj
    subst hj
    rw [hh] at ho
    cases ho
    rfl
theorem own_kept {w w' : World} {base e sz n c : Nat} {A : Option Addr} {L : List Value} {row : Option Nat} (h : w.ownsRow base e sz (.slice A n c) n L) (hg : w.grownBy w' row) (hr : ∀ r, row = some r → ∃ o, w.heap[r]? = some o ∧ o.isCells = false) : w'.ownsRow base e sz (.slice A n c) n L :=
  own_keep h fun g o e1 => by
    subst e1
    have hl : g < w.heap.size := by
      rcases h.2 with ⟨h', _⟩ | ⟨g', cap, cur, hv, hg', hh, _⟩
      · cases h'
      · injection hv with hA
        injection hA with hA
        injection hA with hA _ _
        subst hA
        exact (Array.getElem?_eq_some_iff.1 hh).1
    refine hg.block g hl fun e2 => ?_
    obtain ⟨o2, ho2, hoc⟩ := hr g e2.symm
    rw [own_cells h g o2 rfl ho2] at hoc
    cases hoc
theorem told_small {t : TV} (h : t.nodes.length = t.nn) : (toldN t).length ≤ 256 := by
  unfold toldN
  split
  · rename_i hl
    rw [h]
    rcases Nat.lt_or_ge 256 t.nn with h1 | h1
    · exfalso
      rw [looseE, if_pos (by simp [boundB, h1])] at hl
      cases hl
    · exact h1
  · simp
/-- Ahead of each round: the texts picked so far lie in a row of the call's own, behind the cell s + 1 + 1. -/
def PicksJ (f : Node → Bool) (s base : Nat) (T : TypeId) (arg : Value) (pre : List Node) (W : World) : Prop :=
  ∃ (A : Option Addr) (n c : Nat), Blk W (s + 1 + 1) 44 #[.slice A n c] ∧ (picks f pre).length = n ∧ W.ownsRow base 9 1 (.slice A n c) n ((picks f pre).flatMap strOf) ∧ Blk W (s + 1) T #[arg] ∧ base ≤ W.heap.size
theorem PicksJ.own {f : Node → Bool} {s base : Nat} {T : TypeId} {arg : Value} : Own (fun (pre : List Node) W => PicksJ f s base T arg pre W) := fun _ _ _ _ h hg hr =>
  let ⟨A, n, c, h1, h2, h3, h4, h5⟩ := h
  ⟨A, n, c, blk_kept h1 hg hr, h2, own_kept h3 hg hr, blk_kept h4 hg hr, Nat.le_trans h5 hg.size⟩
theorem PicksJ.alloc {f : Node → Bool} {s base : Nat} {T : TypeId} {arg : Value} {pre : List Node} {W : World} (h : PicksJ f s base T arg pre W) (o : Obj) : PicksJ f s base T arg pre (W.alloc o) := PicksJ.own _ _ _ none h (World.grownBy_alloc _ _ none) (fun r e => by cases e)
theorem picks_snoc_yes {f : Node → Bool} {x : Node} (h : f x = true) (pre : List Node) : picks f (pre ++ [x]) = picks f pre ++ [x.path] := by simp [picks, h]
theorem picks_snoc_no {f : Node → Bool} {x : Node} (h : f x = false) (pre : List Node) : picks f (pre ++ [x]) = picks f pre := by simp [picks, h]

set_option maxRecDepth 100000 in
set_option maxHeartbeats 4000000 in
theorem names_any (t : TV) (file : Int) (w : World) (h : TreeAt w t) : Calls Try.prog 24 #[t.val, .int .i64 file] w (TextsRes w (picks (namesF file) (toldN t))) := by
  have hns := h.ns
  have hnm := h.nm
  have hts := told_small h.nl
  obtain ⟨nodes, files, NA, nn, nc, FA, fn, fc⟩ := t
  simp only at hns hnm
  have Hns := Lib.hid hns; clear hns
  have Ht := Lib.hid h; clear h
  have HW0 : Below w.heap.size w (((w.alloc (.cells #[.slice NA nn nc, .slice FA fn fc] 26)).alloc (.cells #[.int .i64 file] 3)).alloc (.cells #[.slice none 0 0] 44)) :=
    (((Below.refl _ _).alloc (Nat.le_refl _) _).alloc (by simp) _).alloc (by simp; omega) _
  unfold TV.val
  have b0 := ((Blk.new w 26 #[.slice NA nn nc, .slice FA fn fc]).alloc (.cells #[.int .i64 file] 3)).alloc (.cells #[.slice none 0 0] 44)
  have b1 := (Blk.new (w.alloc (.cells #[.slice NA nn nc, .slice FA fn fc] 26)) 3 #[.int .i64 file]).alloc (.cells #[.slice none 0 0] 44)
  have b2 := Blk.new ((w.alloc (.cells #[.slice NA nn nc, .slice FA fn fc] 26)).alloc (.cells #[.int .i64 file] 3)) 44 #[.slice none 0 0]
  simp only [World.size_alloc] at b1 b2
  refine (callsIn_wide (n := 5)).1 ?_
  refine callsIn_of_wp_marks Try.func24 rfl trivial ?_ rfl
  simp only [Try.ntmps24, List.size_toArray, List.length_cons, List.length_nil, Nat.reduceAdd, Nat.reduceSub, Array.replicate_succ, Array.replicate_zero, List.push_toArray, List.append_toArray, List.nil_append, List.cons_append]
  gi_wp2_with (refine ⟨trivial, ?_⟩; gi_at_call 44; refine (nodes_in _ ⟨nodes, files, NA, nn, nc, FA, fn, fc⟩ _).mono ?_; rintro e w' ⟨rfl, rfl⟩)
  have HW2 := HW0.alloc HW0.size (.cells (TV.cells ⟨nodes, files, NA, nn, nc, FA, fn, fc⟩) 26)
  have hBt := Blk.new (((w.alloc (.cells #[.slice NA nn nc, .slice FA fn fc] 26)).alloc (.cells #[.int .i64 file] 3)).alloc (.cells #[.slice none 0 0] 44)) 26 (TV.cells ⟨nodes, files, NA, nn, nc, FA, fn, fc⟩)
  replace b1 := b1.alloc (.cells (TV.cells ⟨nodes, files, NA, nn, nc, FA, fn, fc⟩) 26)
  replace b2 := b2.alloc (.cells (TV.cells ⟨nodes, files, NA, nn, nc, FA, fn, fc⟩) 26)
  simp only [World.size_alloc] at hBt
  obtain ⟨base, hbase⟩ : ∃ base, base = w.heap.size + 1 + 1 + 1 + 1 := ⟨_, rfl⟩
  have hW2s : base ≤ ((((w.alloc (.cells #[.slice NA nn nc, .slice FA fn fc] 26)).alloc (.cells #[.int .i64 file] 3)).alloc (.cells #[.slice none 0 0] 44)).alloc (.cells (TV.cells ⟨nodes, files, NA, nn, nc, FA, fn, fc⟩) 26)).heap.size := by simp; omega
  have hbs1 : w.heap.size + 1 + 1 < base := by omega
  clear hbase
  refine wpIn_rangeFunc_ownH rfl (by omega) (gf := 72) (lb := #[.pointer (some ⟨w.heap.size + 1 + 1 + 1, 0, none⟩)]) rfl trivial (enters_of Try.func72 (by kernel_rfl) rfl)
    (nodes_stops 4 (by omega) (w.heap.size + 1 + 1 + 1) w.heap.size ⟨nodes, files, NA, nn, nc, FA, fn, fc⟩ _ (Ht.out.keep HW2) (Hns.out.keep (Nat.le_refl _) (fun k hk => HW2.block k hk)) HW2.size hBt) belowK_t (belowK_b HW2.size) (Below.refl _ _) (fun _ => rfl)
    (fun pre W => PicksJ (namesF file) w.heap.size base 3 (.int .i64 file) pre W ∧ Below w.heap.size w W)
    (fun _ pre W => False ∧ Below w.heap.size w W)
    (OwnFrom.and (Own.from PicksJ.own _) (ownFrom_below (Nat.le_refl _) HW2.size))
    (fun c => OwnFrom.and (Own.from (fun s A B row hs hg hr => hs) _) (ownFrom_below (Nat.le_refl _) HW2.size))
    ⟨⟨none, 0, 0, b2, rfl, World.ownsRow_nil _ _ _ _, b1, hW2s⟩, HW2⟩
    (fun x a' W => ∃ nb, w.heap.size + 1 + 1 < nb ∧ Blk W nb 29 #[.string x.path, .int .i64 x.file, .int .i64 x.mode] ∧ a' = { tmps := #[.agg #[.slice NA nn nc, .slice FA fn fc], .int .i64 file, .pointer (some ⟨w.heap.size, 0, none⟩), .pointer (some ⟨w.heap.size + 1, 0, none⟩), .slice none 0 0, .pointer (some ⟨w.heap.size + 1 + 1, 0, none⟩), .pointer (some ⟨nb, 0, none⟩), .agg #[.slice NA nn nc, .slice FA fn fc], .func (.func 72) #[] #[.pointer (some ⟨w.heap.size + 1 + 1 + 1, 0, none⟩)], .agg #[.string x.path, .int .i64 x.file, .int .i64 x.mode], undef, undef, undef, undef, undef, undef, undef, undef, undef, undef, undef, undef, undef, undef], defers := [] })
    (fun x a' u W W' row hs hg hr => by
      obtain ⟨nb, h1, h2, h3⟩ := hs
      exact ⟨nb, h1, blk_kept h2 hg (fun r e => (hr r e).2), h3⟩) ?assign ?body ?done ?stop
  case assign =>
    rintro l pre x W K ⟨hJ, hB⟩ hK
    have HJ := Lib.hid (hJ.alloc (.cells #[.string x.path, .int .i64 x.file, .int .i64 x.mode] 29))
    obtain ⟨_, _, _, hL, _⟩ := hJ
    have hcl := hL.lt
    clear hL
    have HK := Lib.hid hK; clear hK
    have hsB := hB.size
    simp only [encN]
    gi_wp2
    have HWa : Below w.heap.size W (W.alloc (.cells #[.string x.path, .int .i64 x.file, .int .i64 x.mode] 29)) := (Below.refl _ W).alloc hsB _
    exact HK.out _ _ ((KeepsOthers.alloc _ _).from _) HWa ⟨HJ.out, hB.trans HWa⟩ ⟨W.heap.size, hcl, Blk.new _ _ _, rfl⟩
  case body =>
    rintro l pre x a' W _ _ ⟨⟨A, n, c, hL, hn, ho, hF, hbW⟩, hB⟩ ⟨nb, hnb, hN, rfl⟩ hlen
    have Ho := Lib.hid ho; clear ho
    have Hn := Lib.hid hn; clear hn
    have hn256 : n ≤ 256 := by
      have h1 := picks_len (namesF file) pre
      rw [Hn.out] at h1
      omega
    have n0 := hN.cell 0
    have n1 := hN.cell 1
    have l0 := hL.cell 0
    have f0 := hF.cell 0
    have hlL := hL.lt
    have hlN := hN.lt
    have hlF := hF.lt
    cases hq : (namesF file) x with
    | true =>
      have hq2 : (x.file == file) = true ∧ decide (0 ≤ file) = true := by rw [namesF, Bool.and_eq_true] at hq; exact hq
      obtain ⟨q1, q2⟩ := hq2
      have q3 := of_decide_eq_true q2
      clear q2
      have Hpk := Lib.hid (picks_snoc_yes hq pre)
      have Hst := Lib.hid (strs_snoc (picks (namesF file) pre) x.path)
      clear hq
      gi_wp2_with (gi_at_builtin; refine wpListIn_append_one rfl _ _ _ rfl Try.strT rfl Ho.out #[.string x.path] rfl (by simp) rfl (str_one _) (by unfold maxLen; omega) (by omega) hbW ?_; intro g1 c1 w4 ho4 hg4 hat4; have hL4 := hL.grown hg4 (ne_own1 Ho.out (by omega)); have l1 := hL4.cell 0; have l2 := hL4.frozen 0)
      have hs4 := hg4.size
      exact ⟨((KeepsOthers.of_grownBy hg4 fun j o ej hj => own_cells Ho.out j o ej hj).trans (KeepsOthers.setCell _ _ _)).from _, ((below_grown hg4 hB.size (fun g e => by have := own_blk1 Ho.out g e; omega)).setCell (p := ⟨w.heap.size + 1 + 1, 0, none⟩) (by show w.heap.size ≤ w.heap.size + 1 + 1; omega) _), ⟨some ⟨g1, 0, none⟩, n + 1, c1, hL4.set 0 _, by rw [Hpk.out, List.length_append, Hn.out]; rfl, by rw [Hpk.out, Hst.out]; exact own_set ho4 ⟨w.heap.size + 1 + 1, 0, none⟩ _ (by show w.heap.size + 1 + 1 < base; omega), (hF.grown hg4 (ne_own1 Ho.out (by omega))).set_ne _ _ (by show w.heap.size + 1 ≠ w.heap.size + 1 + 1; omega), by simp [World.setCell]; omega⟩, hB.trans ((below_grown hg4 hB.size (fun g e => by have := own_blk1 Ho.out g e; omega)).setCell (p := ⟨w.heap.size + 1 + 1, 0, none⟩) (by show w.heap.size ≤ w.heap.size + 1 + 1; omega) _)⟩
    | false =>
      have hq2 : (x.file == file) = false ∨ ((x.file == file) = true ∧ ¬ 0 ≤ file) := by
        rw [namesF] at hq
        cases h1 : (x.file == file)
        · exact .inl rfl
        · rw [h1, Bool.true_and] at hq; exact .inr ⟨rfl, of_decide_eq_false hq⟩
      have Hpk := Lib.hid (picks_snoc_no hq pre)
      clear hq
      rcases hq2 with q1 | ⟨q1, q2⟩
      all_goals
        gi_wp2
        exact ⟨(KeepsOthers.refl _).from _, Below.refl _ _, ⟨A, n, c, hL, by rw [Hpk.out]; exact Hn.out, by rw [Hpk.out]; exact Ho.out, hF, hbW⟩, hB⟩
  case done =>
    rintro D ys W hD rfl ⟨⟨A, n, c, hL, hn, ho, hF, hbW⟩, hB⟩ hK
    have Ho := Lib.hid ho; clear ho
    have Hn := Lib.hid hn; clear hn
    have l0 := hL.cell 0
    gi_wp2
    refine ⟨by simp, .inl ⟨_, _, rfl, run_takeDeferred hK, ?_⟩⟩
    refine ⟨_, (results_tmp rfl _ _ _).trans rfl, A, n, c, rfl, Hn.out, (Sl.of_own (own_kept Ho.out (grownBy_putObj' W D (.deferred none)) (fun r e => by cases e; exact ⟨_, hK, rfl⟩))), hB.trans (belowK_b (w := w) (Nat.le_refl _) W D _ _ (Nat.le_trans HW2.size hD) hK rfl rfl)⟩
  case stop =>
    rintro D c pre W hD hpre ⟨h, _⟩ hK
    exact h.elim

set_option maxRecDepth 100000 in
set_option maxHeartbeats 4000000 in
theorem kids_any (t : TV) (p : ByteArray) (w : World) (h : TreeAt w t) : Calls Try.prog 25 #[t.val, .string p] w (TextsRes w (picks (kidsF p) (toldN t))) := by
  have hns := h.ns
  have hnm := h.nm
  have hts := told_small h.nl
  obtain ⟨nodes, files, NA, nn, nc, FA, fn, fc⟩ := t
  simp only at hns hnm
  have Hns := Lib.hid hns; clear hns
  have Ht := Lib.hid h; clear h
  have HW0 : Below w.heap.size w (((w.alloc (.cells #[.slice NA nn nc, .slice FA fn fc] 26)).alloc (.cells #[.string p] 9)).alloc (.cells #[.slice none 0 0] 44)) :=
    (((Below.refl _ _).alloc (Nat.le_refl _) _).alloc (by simp) _).alloc (by simp; omega) _
  unfold TV.val
  have b0 := ((Blk.new w 26 #[.slice NA nn nc, .slice FA fn fc]).alloc (.cells #[.string p] 9)).alloc (.cells #[.slice none 0 0] 44)
  have b1 := (Blk.new (w.alloc (.cells #[.slice NA nn nc, .slice FA fn fc] 26)) 9 #[.string p]).alloc (.cells #[.slice none 0 0] 44)
  have b2 := Blk.new ((w.alloc (.cells #[.slice NA nn nc, .slice FA fn fc] 26)).alloc (.cells #[.string p] 9)) 44 #[.slice none 0 0]
  simp only [World.size_alloc] at b1 b2
  refine (callsIn_wide (n := 5)).1 ?_
  refine callsIn_of_wp_marks Try.func25 rfl trivial ?_ rfl
  simp only [Try.ntmps25, List.size_toArray, List.length_cons, List.length_nil, Nat.reduceAdd, Nat.reduceSub, Array.replicate_succ, Array.replicate_zero, List.push_toArray, List.append_toArray, List.nil_append, List.cons_append]
  gi_wp2_with (refine ⟨trivial, ?_⟩; gi_at_call 44; refine (nodes_in _ ⟨nodes, files, NA, nn, nc, FA, fn, fc⟩ _).mono ?_; rintro e w' ⟨rfl, rfl⟩)
  have HW2 := HW0.alloc HW0.size (.cells (TV.cells ⟨nodes, files, NA, nn, nc, FA, fn, fc⟩) 26)
  have hBt := Blk.new (((w.alloc (.cells #[.slice NA nn nc, .slice FA fn fc] 26)).alloc (.cells #[.string p] 9)).alloc (.cells #[.slice none 0 0] 44)) 26 (TV.cells ⟨nodes, files, NA, nn, nc, FA, fn, fc⟩)
  replace b1 := b1.alloc (.cells (TV.cells ⟨nodes, files, NA, nn, nc, FA, fn, fc⟩) 26)
  replace b2 := b2.alloc (.cells (TV.cells ⟨nodes, files, NA, nn, nc, FA, fn, fc⟩) 26)
  simp only [World.size_alloc] at hBt
  obtain ⟨base, hbase⟩ : ∃ base, base = w.heap.size + 1 + 1 + 1 + 1 := ⟨_, rfl⟩
  have hW2s : base ≤ ((((w.alloc (.cells #[.slice NA nn nc, .slice FA fn fc] 26)).alloc (.cells #[.string p] 9)).alloc (.cells #[.slice none 0 0] 44)).alloc (.cells (TV.cells ⟨nodes, files, NA, nn, nc, FA, fn, fc⟩) 26)).heap.size := by simp; omega
  have hbs1 : w.heap.size + 1 + 1 < base := by omega
  clear hbase
  refine wpIn_rangeFunc_ownH rfl (by omega) (gf := 72) (lb := #[.pointer (some ⟨w.heap.size + 1 + 1 + 1, 0, none⟩)]) rfl trivial (enters_of Try.func72 (by kernel_rfl) rfl)
    (nodes_stops 4 (by omega) (w.heap.size + 1 + 1 + 1) w.heap.size ⟨nodes, files, NA, nn, nc, FA, fn, fc⟩ _ (Ht.out.keep HW2) (Hns.out.keep (Nat.le_refl _) (fun k hk => HW2.block k hk)) HW2.size hBt) belowK_t (belowK_b HW2.size) (Below.refl _ _) (fun _ => rfl)
    (fun pre W => PicksJ (kidsF p) w.heap.size base 9 (.string p) pre W ∧ Below w.heap.size w W)
    (fun _ pre W => False ∧ Below w.heap.size w W)
    (OwnFrom.and (Own.from PicksJ.own _) (ownFrom_below (Nat.le_refl _) HW2.size))
    (fun c => OwnFrom.and (Own.from (fun s A B row hs hg hr => hs) _) (ownFrom_below (Nat.le_refl _) HW2.size))
    ⟨⟨none, 0, 0, b2, rfl, World.ownsRow_nil _ _ _ _, b1, hW2s⟩, HW2⟩
    (fun x a' W => ∃ nb, w.heap.size + 1 + 1 < nb ∧ Blk W nb 29 #[.string x.path, .int .i64 x.file, .int .i64 x.mode] ∧ a' = { tmps := #[.agg #[.slice NA nn nc, .slice FA fn fc], .string p, .pointer (some ⟨w.heap.size, 0, none⟩), .pointer (some ⟨w.heap.size + 1, 0, none⟩), .slice none 0 0, .pointer (some ⟨w.heap.size + 1 + 1, 0, none⟩), .pointer (some ⟨nb, 0, none⟩), .agg #[.slice NA nn nc, .slice FA fn fc], .func (.func 72) #[] #[.pointer (some ⟨w.heap.size + 1 + 1 + 1, 0, none⟩)], .agg #[.string x.path, .int .i64 x.file, .int .i64 x.mode], undef, undef, undef, undef, undef, undef, undef, undef, undef, undef, undef], defers := [] })
    (fun x a' u W W' row hs hg hr => by
      obtain ⟨nb, h1, h2, h3⟩ := hs
      exact ⟨nb, h1, blk_kept h2 hg (fun r e => (hr r e).2), h3⟩) ?assign ?body ?done ?stop
  case assign =>
    rintro l pre x W K ⟨hJ, hB⟩ hK
    have HJ := Lib.hid (hJ.alloc (.cells #[.string x.path, .int .i64 x.file, .int .i64 x.mode] 29))
    obtain ⟨_, _, _, hL, _⟩ := hJ
    have hcl := hL.lt
    clear hL
    have HK := Lib.hid hK; clear hK
    have hsB := hB.size
    simp only [encN]
    gi_wp2
    have HWa : Below w.heap.size W (W.alloc (.cells #[.string x.path, .int .i64 x.file, .int .i64 x.mode] 29)) := (Below.refl _ W).alloc hsB _
    exact HK.out _ _ ((KeepsOthers.alloc _ _).from _) HWa ⟨HJ.out, hB.trans HWa⟩ ⟨W.heap.size, hcl, Blk.new _ _ _, rfl⟩
  case body =>
    rintro l pre x a' W _ _ ⟨⟨A, n, c, hL, hn, ho, hF, hbW⟩, hB⟩ ⟨nb, hnb, hN, rfl⟩ hlen
    have Ho := Lib.hid ho; clear ho
    have Hn := Lib.hid hn; clear hn
    have hn256 : n ≤ 256 := by
      have h1 := picks_len (kidsF p) pre
      rw [Hn.out] at h1
      omega
    have n0 := hN.cell 0
    have n1 := hN.cell 1
    have l0 := hL.cell 0
    have f0 := hF.cell 0
    have hlL := hL.lt
    have hlN := hN.lt
    have hlF := hF.lt
    have hxp := x.hp
    have hsB := hB.size
    gi_wp2
    refine wpIn_round_ordB (none) [(0, true), (1, true), (3, true), (2, false), (4, true)] (by kernel_rfl) (by kernel_rfl) fun hG0 => ?_
    repeat (first
      | (refine ord_skipB rfl (by rfl) ?_; simp only [Act.put, List.setIfInBounds_toArray, List.set_cons_zero, List.set_cons_succ])
      | (refine ord_qE rfl (by rfl) ?_; apply Exists.intro; refine ⟨fun w' hc' => ?_, ?_⟩; (focus (go_simp; (try go_bits); (try simp only [↓IntWalk.iteOmega]); with_reducible rfl)); simp only [Act.put, List.setIfInBounds_toArray, List.set_cons_zero, List.set_cons_succ]))
    refine ord_eB rfl fun K hK => ?_
    go_wp2_with (go_at_call 48; refine (parent_any x.path _ hxp).mono ?_; rintro e wq ⟨rfl, hbq⟩)
    have hG1 := grown_trans hG0 (grown_below hbq (Nat.le_refl _))
    refine hK.out _ _ hG1 ?_
    clear hK K
    repeat (first
      | (refine ord_skipB rfl (by rfl) ?_; simp only [Act.put, List.setIfInBounds_toArray, List.set_cons_zero, List.set_cons_succ])
      | (refine ord_qE rfl (by rfl) ?_; apply Exists.intro; refine ⟨fun w' hc' => ?_, ?_⟩; (focus (go_simp; (try go_bits); (try simp only [↓IntWalk.iteOmega]); with_reducible rfl)); simp only [Act.put, List.setIfInBounds_toArray, List.set_cons_zero, List.set_cons_succ]))
    refine ord_endN ?_
    have hWq : Below W.heap.size W wq := (Below.drew (Below.refl _ W)).trans hbq
    have Ho2 := Lib.hid (own_keep1 Ho.out hWq (Nat.le_refl _))
    replace hL := hL.below hWq hlL
    replace hN := hN.below hWq hlN
    replace hF := hF.below hWq hlF
    replace hbW := Nat.le_trans hbW hWq.size
    have hKq : KeepsOthers W wq := (KeepsOthers.drew W).trans (KeepsOthers.of_grownBy (row := none) (grown_below hbq (Nat.le_refl _)) (fun j o e => by cases e))
    have hBq := hWq.mono hsB
    clear Ho n0 n1 l0 f0 hG0 hG1 hbq hWq hlL hlN hlF
    have Ho := Ho2; clear Ho2
    have n0 := hN.cell 0
    have l0 := hL.cell 0
    have f0 := hF.cell 0
    have hsq := hBq.size
    cases hq : (kidsF p) x with
    | true =>
      have q1 : ((parentB x.path).toList == p.toList) = true := hq
      rw [q1]
      have Hpk := Lib.hid (picks_snoc_yes hq pre)
      have Hst := Lib.hid (strs_snoc (picks (kidsF p) pre) x.path)
      clear hq
      gi_wp2_with (gi_at_builtin; refine wpListIn_append_one rfl _ _ _ rfl Try.strT rfl Ho.out #[.string x.path] rfl (by simp) rfl (str_one _) (by unfold maxLen; omega) (by omega) hbW ?_; intro g1 c1 w4 ho4 hg4 hat4; have hL4 := hL.grown hg4 (ne_own1 Ho.out (by omega)); have l1 := hL4.cell 0; have l2 := hL4.frozen 0)
      have hs4 := hg4.size
      exact ⟨(hKq.trans ((KeepsOthers.of_grownBy hg4 fun j o ej hj => own_cells Ho.out j o ej hj).trans (KeepsOthers.setCell _ _ _))).from _, (hBq.trans ((below_grown hg4 (Nat.le_trans hsB hsq) (fun g e => by have := own_blk1 Ho.out g e; omega)).setCell (p := ⟨w.heap.size + 1 + 1, 0, none⟩) (by show w.heap.size ≤ w.heap.size + 1 + 1; omega) _)), ⟨some ⟨g1, 0, none⟩, n + 1, c1, hL4.set 0 _, by rw [Hpk.out, List.length_append, Hn.out]; rfl, by rw [Hpk.out, Hst.out]; exact own_set ho4 ⟨w.heap.size + 1 + 1, 0, none⟩ _ (by show w.heap.size + 1 + 1 < base; omega), (hF.grown hg4 (ne_own1 Ho.out (by omega))).set_ne _ _ (by show w.heap.size + 1 ≠ w.heap.size + 1 + 1; omega), by simp [World.setCell]; omega⟩, hB.trans (hBq.trans ((below_grown hg4 (Nat.le_trans hsB hsq) (fun g e => by have := own_blk1 Ho.out g e; omega)).setCell (p := ⟨w.heap.size + 1 + 1, 0, none⟩) (by show w.heap.size ≤ w.heap.size + 1 + 1; omega) _))⟩
    | false =>
      have q1 : ((parentB x.path).toList == p.toList) = false := hq
      rw [q1]
      have Hpk := Lib.hid (picks_snoc_no hq pre)
      clear hq
      gi_wp2
      exact ⟨hKq.from _, hBq, ⟨A, n, c, hL, by rw [Hpk.out]; exact Hn.out, by rw [Hpk.out]; exact Ho.out, hF, hbW⟩, hB.trans hBq⟩
  case done =>
    rintro D ys W hD rfl ⟨⟨A, n, c, hL, hn, ho, hF, hbW⟩, hB⟩ hK
    have Ho := Lib.hid ho; clear ho
    have Hn := Lib.hid hn; clear hn
    have l0 := hL.cell 0
    gi_wp2
    refine ⟨by simp, .inl ⟨_, _, rfl, run_takeDeferred hK, ?_⟩⟩
    refine ⟨_, (results_tmp rfl _ _ _).trans rfl, A, n, c, rfl, Hn.out, (Sl.of_own (own_kept Ho.out (grownBy_putObj' W D (.deferred none)) (fun r e => by cases e; exact ⟨_, hK, rfl⟩))), hB.trans (belowK_b (w := w) (Nat.le_refl _) W D _ _ (Nat.le_trans HW2.size hD) hK rfl rfl)⟩
  case stop =>
    rintro D c pre W hD hpre ⟨h, _⟩ hK
    exact h.elim
end Go.Proofs.Ytdjlchbgdehccaa
