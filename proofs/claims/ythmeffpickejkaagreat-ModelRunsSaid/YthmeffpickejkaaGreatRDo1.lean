/- shuntref7.Do: an instruction, by its number. -/
import Derived.Test.YthmeffpickejkaaGreatLooksR
import Derived.Test.YthmeffpickejkaaGreatRDoM
import Derived.Test.YthmeffpickejkaaGreatRLooks
namespace Go.Proofs.YthmeffpickejkaaGreat
open Go.RowKit

theorem file_cells_one (l : List FC) : ∀ u ∈ l.flatMap FC.list, u.oneCell' = true := by
  intro u hu
  obtain ⟨x, _, hx⟩ := List.mem_flatMap.1 hu
  simp only [FC.list, List.mem_cons, List.not_mem_nil, or_false] at hx
  rcases hx with rfl | rfl <;> rfl
/-- Nodes and files in rows of the call's own, the files' bytes wherever they lie. -/
theorem own_treeD {w : World} {base : Nat} {nodes : List Node} {files : List FC} {ds : List ByteArray} {NA FA : Option Addr} {nn nc fn fc : Nat} (hN : w.ownsRow base 56 3 (.slice NA nn nc) nn (nodes.flatMap Node.list)) (hF : w.ownsRow base 59 2 (.slice FA fn fc) fn (files.flatMap FC.list))
    (hn : nodes.length = nn) (hf : files.length = fn) (hD : DatAt w files ds) : TreeD w ⟨nodes, files, NA, nn, nc, FA, fn, fc⟩ ds := by
  have hm : ∀ {e sz n c : Nat} {A : Option Addr} {L : List Value}, w.ownsRow base e sz (.slice A n c) n L → n ≤ 9223372036854775807 := fun {e sz n c A L} h => by
    rcases h.2 with ⟨_, h0⟩ | ⟨g, cap, cur, hv, hg, hh, hnc, hcm, hcs, ht⟩
    · omega
    · unfold maxLen at hcm; omega
  exact ⟨⟨hn, hf, Sl.of_own hN, Sl.of_own hF, hm hN, hm hF⟩, hD⟩
/-- What stands ahead of the tests of the tree. -/
structure DoPre (t : TV) (ds : List ByteArray) (w W : World) (ic : Array Value) (A1 : Option Addr) (c1 : Nat) (A2 : Option Addr) (c2 : Nat) : Prop where
  T : Blk W w.heap.size 25 #[.slice t.NA t.nn t.nc, .slice t.FA t.fn t.fc]
  I : Blk W (w.heap.size + 1) 32 ic
  R : Blk W (w.heap.size + 2) 25 #[.slice none 0 0, .slice none 0 0]
  N : W.ownsRow w.heap.size 56 3 (.slice A1 t.nn c1) t.nn (t.nodes.flatMap Node.list)
  F : W.ownsRow w.heap.size 59 2 (.slice A2 t.fn c2) t.fn (t.files.flatMap FC.list)
  b : Below w.heap.size w W
theorem DoPre.below {t : TV} {ds : List ByteArray} {w W W' : World} {ic : Array Value} {A1 A2 : Option Addr} {c1 c2 : Nat} (h : DoPre t ds w W ic A1 c1 A2 c2) (hb : Below W.heap.size W W') : DoPre t ds w W' ic A1 c1 A2 c2 :=
  ⟨h.T.below hb h.T.lt, h.I.below hb h.I.lt, h.R.below hb h.R.lt, own_keep1 h.N hb (Nat.le_refl _), own_keep1 h.F hb (Nat.le_refl _), h.b.trans (hb.mono h.b.size)⟩
theorem doE_of {M : PW} {c : Cmd} {sd : List ByteArray} (h1 : isOp c.op = true) (h2 : c.op ≠ 9) (h3 : firstE (toB c.op) (modeB c.op) c sd = 0) : doE M c sd = if growB c.op = true ∧ 256 ≤ M.nodes.length then fullE M c else opE M c := by
  unfold doE
  rw [if_neg (by rw [h1]; simp), if_neg h2, if_neg (by rw [h3]; simp)]
theorem open_inv {t : TV} {ds : List ByteArray} {w : World} (h : TreeD w t ds) (hl : looseE t = 0) : (openM t ds).Inv :=
  inv_open (good_of_loose hl) h.tree.fl h.dat.len fun k x d hx hd => by
    obtain ⟨d', hd', e, _⟩ := h.dat.get hx
    rw [hd] at hd'; injection hd' with hd'; rw [hd', e]
theorem DatAt.snoc {w : World} {fs : List FC} {ds : List ByteArray} (h : DatAt w fs ds) {f : FC} {d : ByteArray} (h1 : d.size = f.n) (h2 : Sl w w.heap.size 1 f.A f.n (bytesC d)) : DatAt w (fs ++ [f]) (ds ++ [d]) := by
  refine ⟨by rw [List.length_append, List.length_append, h.len]; rfl, fun k x e hx he => ?_⟩
  rcases Nat.lt_trichotomy k fs.length with hk | hk | hk
  · rw [List.getElem?_append_left hk] at hx
    rw [List.getElem?_append_left (by rw [h.len]; exact hk)] at he
    exact h.at_ k x e hx he
  · subst hk
    rw [List.getElem?_append_right (Nat.le_refl _), Nat.sub_self] at hx
    rw [List.getElem?_append_right (by rw [h.len]; exact Nat.le_refl _), h.len, Nat.sub_self] at he
    simp only [List.getElem?_cons_zero, Option.some.injEq] at hx he
    subst hx he
    exact ⟨h1, h2⟩
  · rw [List.getElem?_eq_none (by simp; omega)] at hx; cases hx
theorem files_le {t : TV} {ds : List ByteArray} {w : World} (hG : Good t) (hD : TreeD w t ds) : t.fn ≤ t.nn := by
  have h1 := names_all hG
  have h2 : ∀ j : Nat, j ≤ t.fn → j ≤ cntN t.nodes j := fun j => by
    induction j with
    | zero => intro _; exact Nat.zero_le _
    | succ j ih =>
      intro hj
      rw [cntN_succ]
      have := ih (by omega)
      have := names_some hG (f := (j : Int)) (by omega) (by omega)
      omega
  have h3 := h2 t.fn (Nat.le_refl _)
  have h4 := hD.tree.nl
  omega
theorem dataOf_F (M : PW) (i : Int) : dataOf M i = (M.F i).2 := by
  unfold dataOf PW.F
  cases fileOf M i <;> rfl
theorem takeAt_next (M : PW) (p : ByteArray) : (M.takeAt p).next = M.next := by
  unfold PW.takeAt
  split <;> rfl
theorem noPath_cut : ∀ {l : List Node} {k : Nat} {x : Node}, Apart l → l[k]? = some x → noPath l x.path = l.take k ++ l.drop (k + 1)
  | [], k, x, _, h => by simp at h
  | a :: t, 0, x, hA, h => by
    simp only [List.getElem?_cons_zero, Option.some.injEq] at h
    subst h
    have ⟨h1, _⟩ := List.nodup_cons.1 (show (a.path :: t.map (·.path)).Nodup from hA)
    rw [noPath, List.filter_cons, if_neg (by simp), List.take_zero, List.nil_append, List.drop_succ_cons, List.drop_zero, List.filter_eq_self]
    intro y hy
    have : y.path ≠ a.path := fun e => h1 (List.mem_map.2 ⟨y, hy, e⟩)
    simpa using this
  | a :: t, k + 1, x, hA, h => by
    have ⟨h1, h2⟩ := List.nodup_cons.1 (show (a.path :: t.map (·.path)).Nodup from hA)
    have hx : t[k]? = some x := by simpa using h
    have hne : a.path ≠ x.path := fun e => h1 (List.mem_map.2 ⟨x, List.mem_of_getElem? hx, e.symm⟩)
    have ih := noPath_cut (l := t) h2 hx
    rw [noPath, List.filter_cons, if_pos (by simpa using hne), List.take_succ_cons, List.drop_succ_cons, List.cons_append, ← ih, noPath]
theorem ren_world {M : PW} {p q : ByteArray} {x : Node} {k : Nat} (hA : Apart M.nodes) (hx : nodeAt M.nodes p = some x) (hk : M.nodes[k]? = some x) (hm : x.mode = 0) (hqn : nodeAt M.nodes q = none) (_ : 0 ≤ x.file) (hq : q.size ≤ 9223372036854775807) :
    (M.nodes.set k ⟨q, x.file, x.mode, hq⟩).Perm ((M.put ⟨q, x.file, 0, hq⟩).takeAt p).nodes ∧ ((M.put ⟨q, x.file, 0, hq⟩).takeAt p).files = M.files := by
  have hxp := (nodeAt_some hx).2
  have hqp : q ≠ p := fun e => by rw [e, hx] at hqn; cases hqn
  have hAt : nodeAt (M.put ⟨q, x.file, 0, hq⟩).nodes p = some x := by
    show nodeAt (M.nodes ++ [_]) p = _
    unfold nodeAt at hx ⊢
    rw [List.find?_append, hx]; rfl
  have hno : noPath (M.nodes ++ [⟨q, x.file, 0, hq⟩]) x.path = (M.nodes.take k ++ M.nodes.drop (k + 1)) ++ [⟨q, x.file, 0, hq⟩] := by
    rw [← noPath_cut hA hk, noPath, List.filter_append, ← noPath]
    congr 1
    rw [List.filter_cons, if_pos (by rw [hxp]; simpa using hqp)]; rfl
  have hT : (M.put ⟨q, x.file, 0, hq⟩).takeAt p = (M.put ⟨q, x.file, 0, hq⟩).take x := by unfold PW.takeAt; rw [hAt]
  rw [hT]
  constructor
  · show (M.nodes.set k _).Perm (noPath (M.nodes ++ [_]) x.path)
    rw [hno, hm]
    have hlt : k < M.nodes.length := (List.getElem?_eq_some_iff.1 hk).1
    rw [List.set_eq_take_append_cons_drop, if_pos hlt]
    exact List.perm_middle.trans (List.perm_append_singleton _ _).symm
  · show (if 0 ≤ x.file ∧ namesC (noPath (M.nodes ++ [_]) x.path) x.file = 0 then _ else M.files) = M.files
    rw [hno, if_neg]
    rintro ⟨_, h⟩
    rw [namesC_snoc] at h
    simp at h
section
variable {M : PW} {p q : ByteArray} {mode ref : Int} {hp : p.size ≤ 9223372036854775807} {hq : q.size ≤ 9223372036854775807}
theorem op2_pre (h : preE M.nodes p ≠ 0) : opE M ⟨2, p, q, mode, ref, hp, hq⟩ = preE M.nodes p := by
  unfold opE
  rw [if_neg (by simp), if_pos (by simp)]
  show rmE M p = _
  unfold rmE; rw [if_pos h]
theorem op5_pre (h : preE M.nodes p ≠ 0) : opE M ⟨5, p, q, mode, ref, hp, hq⟩ = preE M.nodes p := by
  unfold opE
  rw [if_neg (by simp), if_neg (by simp), if_pos (by simp)]
  show filE M.nodes p = _
  unfold filE; rw [if_neg (fun h2 => h h2.1)]
theorem op8_pre (_ : preE M.nodes p ≠ 0) : opE M ⟨8, p, q, mode, ref, hp, hq⟩ = preE M.nodes p := by
  unfold opE
  rw [if_neg (by simp), if_neg (by simp), if_neg (by simp), if_pos (by simp)]
end
theorem kids_count (l : List Node) (p : ByteArray) : (picks (kidsF p) l).length = kidsC l p := by
  rw [picks_count, kidsC]
  refine congrArg (fun f => List.countP f l) (funext fun y => ?_)
  unfold kidsF
  rw [Bool.eq_iff_iff, beq_iff_eq, toList_iff, decide_eq_true_eq]
theorem take_world {M : PW} {p : ByteArray} {x : Node} {k : Nat} (hA : Apart M.nodes) (hx : nodeAt M.nodes p = some x) (hk : M.nodes[k]? = some x) :
    (M.takeAt p).nodes = M.nodes.take k ++ M.nodes.drop (k + 1) ∧ ((M.takeAt p).files = M.files ∨ ((M.takeAt p).files = M.files.filter (fun f => !decide (f.id = x.file)) ∧ ∀ y ∈ (M.takeAt p).nodes, y.file ≠ x.file)) := by
  have hT : M.takeAt p = M.take x := by unfold PW.takeAt; rw [hx]
  rw [hT]
  refine ⟨noPath_cut hA hk, ?_⟩
  by_cases h : 0 ≤ x.file ∧ namesC (noPath M.nodes x.path) x.file = 0
  · refine .inr ⟨if_pos h, fun y hy e => ?_⟩
    have h2 := h.2
    unfold namesC at h2
    rw [List.countP_eq_zero] at h2
    exact h2 y hy (by simpa using e)
  · exact .inl (if_neg h)
theorem DatAt.set {w : World} {fs : List FC} {ds : List ByteArray} (h : DatAt w fs ds) {k : Nat} {f : FC} (hk : fs[k]? = some f) (mode : Int) : DatAt w (fs.set k ⟨mode, f.A, f.n, f.c⟩) ds := by
  refine ⟨by rw [List.length_set]; exact h.len, fun i x d hx hd => ?_⟩
  rw [List.getElem?_set] at hx
  by_cases e : k = i
  · subst e
    rw [if_pos rfl, if_pos (List.getElem?_eq_some_iff.1 hk).1] at hx
    simp only [Option.some.injEq] at hx
    subst hx
    exact h.at_ k f d hk hd
  · rw [if_neg e] at hx
    exact h.at_ i x d hx hd
theorem chmod_nodes : ∀ {l : List Node} {k : Nat} {x : Node} (mode : Int), Apart l → l[k]? = some x → chmodN l x.path mode = l.set k ⟨x.path, -1, mode, x.hp⟩
  | [], k, x, _, _, h => by simp at h
  | a :: t, 0, x, mode, hA, h => by
    simp only [List.getElem?_cons_zero, Option.some.injEq] at h
    subst h
    have ⟨h1, _⟩ := List.nodup_cons.1 (show (a.path :: t.map (·.path)).Nodup from hA)
    rw [chmodN, List.map_cons, if_pos rfl, List.set_cons_zero]
    congr 1
    refine (List.map_congr_left fun y hy => ?_).trans (List.map_id _)
    rw [if_neg (fun e => h1 (List.mem_map.2 ⟨y, hy, e⟩))]; rfl
  | a :: t, k + 1, x, mode, hA, h => by
    have ⟨h1, h2⟩ := List.nodup_cons.1 (show (a.path :: t.map (·.path)).Nodup from hA)
    have hx : t[k]? = some x := by simpa using h
    have hne : a.path ≠ x.path := fun e => h1 (List.mem_map.2 ⟨x, List.mem_of_getElem? hx, e.symm⟩)
    rw [chmodN, List.map_cons, if_neg hne, List.set_cons_succ, ← chmod_nodes mode h2 hx]; rfl
theorem big_nodes {nodes : List Node} {files : List FC} {NA FA : Option Addr} {nn nc fn fc : Nat} (h : 256 < nn) : boundB ⟨nodes, files, NA, nn, nc, FA, fn, fc⟩ = true := by simp [boundB, h]
theorem small_tree {t : TV} (h1 : t.nn ≤ 256) (h2 : t.fn ≤ 256) (h3 : ∀ x ∈ t.files, x.n ≤ 8192) : boundB t = false := by
  simp only [boundB, Bool.or_eq_false_iff, decide_eq_false_iff_not, anyLong, List.any_eq_false]
  exact ⟨⟨by omega, by omega⟩, fun x hx => by have := h3 x hx; simp; omega⟩

set_option maxRecDepth 100000 in
set_option maxHeartbeats 8000000 in
theorem rdo_1 (t : TV) (ds : List ByteArray) (p q : ByteArray) (mode ref : Int) (hp : p.size ≤ 9223372036854775807) (hq : q.size ≤ 9223372036854775807) (SA : Option Addr) (sn sc : Nat) (ss : List SC) (sd : List ByteArray) (w : World) (h : TreeD w t ds) (hS : StockAt w SA sn ss sd) (hl : looseE t = 0) (hF : firstE (toB 1) (modeB 1) ⟨1, p, q, mode, ref, hp, hq⟩ sd = 0) :
    Calls Tryz.prog 25 #[t.val, .agg #[.int .i64 1, .string p, .string q, .int .i64 mode, .int .i64 ref], .slice SA sn sc] w (DoRes (doE (openM t ds) ⟨1, p, q, mode, ref, hp, hq⟩ sd) (doM (openM t ds) ⟨1, p, q, mode, ref, hp, hq⟩ sd) w) := by
  have hloose := fun (W : World) (H : TreeAt W t) => rloose_any t W H
  have hfirst := fun (W : World) (H : StockAt W SA sn ss sd) => rfirst_any ⟨1, p, q, mode, ref, hp, hq⟩ SA sn sc ss sd W H
  have hE0 : rfirstE ⟨1, p, q, mode, ref, hp, hq⟩ sd = 0 := by unfold rfirstE; rw [if_neg (show ¬ isOp 1 = false by decide), if_neg (show ¬ (1 : Int) = 9 by decide)]; exact hF
  rw [hl] at hloose
  rw [hE0] at hfirst
  have hG := good_of_loose hl
  have hn1 := hG.nn
  have hf1 := hG.fn
  have HD := Lib.hid h; have HS := Lib.hid hS
  have hns := h.tree.ns
  have hfs := h.tree.fs
  obtain ⟨nodes, files, NA, nn, nc, FA, fn, fc⟩ := t
  simp only at hns hfs hn1 hf1
  unfold TV.val at hloose ⊢
  unfold Cmd.cells at hfirst
  have HLO := Lib.hid hloose; have HFI := Lib.hid hfirst; have HNs := Lib.hid hns; have HFs := Lib.hid hfs; have HG := Lib.hid hG; have HL := Lib.hid hl; have HF0 := Lib.hid hF
  clear hloose hfirst hE0 h hS hns hfs hG hl hF
  have hw3 : Below w.heap.size w (((w.alloc (.cells #[.slice NA nn nc, .slice FA fn fc] 25)).alloc (.cells #[.int .i64 1, .string p, .string q, .int .i64 mode, .int .i64 ref] 32)).alloc (.cells #[.slice none 0 0, .slice none 0 0] 25)) := (((Below.refl _ _).alloc (Nat.le_refl _) _).alloc (by simp) _).alloc (by simp; omega) _
  have hT := ((Blk.new w 25 #[.slice NA nn nc, .slice FA fn fc]).alloc (.cells #[.int .i64 1, .string p, .string q, .int .i64 mode, .int .i64 ref] 32)).alloc (.cells #[.slice none 0 0, .slice none 0 0] 25)
  have hI := (Blk.new (w.alloc (.cells #[.slice NA nn nc, .slice FA fn fc] 25)) 32 #[.int .i64 1, .string p, .string q, .int .i64 mode, .int .i64 ref]).alloc (.cells #[.slice none 0 0, .slice none 0 0] 25)
  have hR := Blk.new ((w.alloc (.cells #[.slice NA nn nc, .slice FA fn fc] 25)).alloc (.cells #[.int .i64 1, .string p, .string q, .int .i64 mode, .int .i64 ref] 32)) 25 #[.slice none 0 0, .slice none 0 0]
  simp only [World.size_alloc] at hI hR
  have t0 := hT.cell 0; have t1 := hT.cell 1
  go_enter Tryz.func25, Tryz.ntmps25
  go_upto_region 4 with (go_at_call 23; refine (HLO.out _ (HD.out.tree.keep hw3)).mono ?_; rintro e w1 ⟨rfl, hb1⟩)
  have hT1 := hT.below hb1 hT.lt; have hI1 := hI.below hb1 hI.lt; have hR1 := hR.below hb1 hR.lt
  have hw1 := hw3.trans (hb1.mono hw3.size)
  clear t0 t1 hT hI hR hw3 hb1
  have i0 := hI1.cell 0; have i1 := hI1.cell 1; have i2 := hI1.cell 2; have i3 := hI1.cell 3; have i4 := hI1.cell 4
  go_upto_region 7 with (go_at_call 41; refine (HFI.out _ (HS.out.keep hw1)).mono ?_; rintro e w2 ⟨rfl, hb2⟩)
  have hT2 := hT1.below hb2 hT1.lt; have hI2 := hI1.below hb2 hI1.lt; have hR2 := hR1.below hb2 hR1.lt
  have hw2 := hw1.trans (hb2.mono hw1.size)
  clear i0 i1 i2 i3 i4 hT1 hI1 hR1 hw1 hb2
  have i0 := hI2.cell 0
  have t0 := hT2.cell 0; have t1 := hT2.cell 1
  have hs2 := hw2.size
  go_upto_region 10 with (at_builtin; refine wpList_append_sl rfl _ _ _ rfl Tryz.nodeT rfl (World.ownsRow_nil w2 w.heap.size _ _) rfl (HNs.out.below hw2 (Nat.le_refl _)) (node_one nodes) (by unfold maxLen; omega) (by omega) hs2 ?_; intro A1 c1 w4 ho4 hg4 hat4)
  simp only [Nat.zero_add, List.nil_append] at ho4
  have hg4' : w2.grownBy w4 none := hg4
  have hT4 := hT2.grown hg4' (by simp); have hI4 := hI2.grown hg4' (by simp); have hR4 := hR2.grown hg4' (by simp)
  have hw4 := hw2.trans (below_grown hg4' hs2 (fun g e => by cases e))
  clear hg4 hg4' hat4 hT2 hI2 hR2 hw2 hs2 i0 t0 t1
  have t0 := hT4.cell 0; have t1 := hT4.cell 1; have i0 := hI4.cell 0
  have hs4 := hw4.size
  go_upto_region 11 with (at_builtin; refine wpList_append_sl rfl _ _ _ rfl Tryz.fileT rfl (World.ownsRow_nil w4 w.heap.size _ _) rfl (HFs.out.below hw4 (Nat.le_refl _)) (file_cells_one files) (by unfold maxLen; omega) (by omega) hs4 ?_; intro A2 c2 w5 ho5 hg5 hat5)
  simp only [Nat.zero_add, List.nil_append] at ho5
  have hg5' : w4.grownBy w5 none := hg5
  have HP := Lib.hid (show DoPre ⟨nodes, files, NA, nn, nc, FA, fn, fc⟩ ds w w5 #[.int .i64 1, .string p, .string q, .int .i64 mode, .int .i64 ref] A1 c1 A2 c2 from ⟨hT4.grown hg5' (by simp), hI4.grown hg5' (by simp), hR4.grown hg5' (by simp), own_keep1 ho4 (below_grown hg5' (Nat.le_refl _) (fun g e => by cases e)) (Nat.le_refl _), ho5, hw4.trans (below_grown hg5' hs4 (fun g e => by cases e))⟩)
  clear hg5 hg5' hat5 hT4 hI4 hR4 hw4 hs4 i0 t0 t1 ho4 ho5
  have t0 := HP.out.T.cell 0; have t1 := HP.out.T.cell 1
  have i0 := HP.out.I.cell 0; have i1 := HP.out.I.cell 1; have i2 := HP.out.I.cell 2; have i3 := HP.out.I.cell 3
  have hv := (first0 HF0.out).2.1
  have hvac := fun (W : World) (H : TreeAt W ⟨nodes, files, NA, nn, nc, FA, fn, fc⟩) => rvacant_any _ p W H (apart_of_rises HG.out.rises) (fun x hx => (HG.out.kind x hx).imp (·.1) (·.1)) hp hv
  have hdo := doE_of (M := openM ⟨nodes, files, NA, nn, nc, FA, fn, fc⟩ ds) (c := ⟨1, p, q, mode, ref, hp, hq⟩) (sd := sd) (by simp [isOp]) (by simp) HF0.out
  simp only at hvac
  unfold TV.val at hvac
  have hwo := inv_do (M := openM ⟨nodes, files, NA, nn, nc, FA, fn, fc⟩ ds) (open_inv HD.out HL.out) (by show nodes.length ≤ 256; have := HD.out.tree.nl; simp only at this; omega) ⟨1, p, q, mode, ref, hp, hq⟩ sd
  have Hwo := Lib.hid hwo
  clear hwo
  by_cases h0 : absE nodes p = 0
  · have HV := Lib.hid (h0 ▸ hvac)
    have hnl := HD.out.tree.nl
    simp only at hnl
    have hop : opE (openM ⟨nodes, files, NA, nn, nc, FA, fn, fc⟩ ds) ⟨1, p, q, mode, ref, hp, hq⟩ = 0 := by unfold opE; rw [if_pos (by simp)]; exact h0
    have hfu : fullE (openM ⟨nodes, files, NA, nn, nc, FA, fn, fc⟩ ds) ⟨1, p, q, mode, ref, hp, hq⟩ = 31 := by unfold fullE; rw [if_neg (by simp)]; exact if_pos h0
    rw [hop, hfu] at hdo
    have Hdo := Lib.hid hdo
    have Hnl := Lib.hid hnl
    clear hvac h0 hop hfu hdo hnl
    unfold NumRes at HV
    go_upto_region 26 with (first | (go_at_call 42; refine (hasTo7 _ _).mono ?_; rintro e w6 ⟨rfl, hw⟩; rw [hw]; clear hw; rw [show toB 1 = false from rfl]) | (go_at_call 44; refine (HV.out _ (HD.out.tree.keep HP.out.b)).mono ?_; rintro e w6 ⟨rfl, hb6⟩; have HP6 := Lib.hid (HP.out.below hb6); have j0 := HP6.out.I.cell 0))
    clear t0 t1 i0 i1 i2 i3 hb6 HP
    have i1 := HP6.out.I.cell 1; have i3 := HP6.out.I.cell 3
    have hbs := HP6.out.b.size
    have HN6 := Lib.hid (show w6.ownsRow w.heap.size 56 3 (.slice A1 nn c1) nn (nodes.flatMap Node.list) from HP6.out.N)
    have HF6 := Lib.hid (show w6.ownsRow w.heap.size 59 2 (.slice A2 fn c2) fn (files.flatMap FC.list) from HP6.out.F)
    go_upto_region 51 with (at_builtin; refine wpList_append_one rfl _ _ _ rfl Tryz.nodeT rfl HN6.out #[.string p, .int .i64 (-1), .int .i64 mode] rfl (by first | rfl | simp) rfl (node_cells_one _ _ _) (by unfold maxLen; omega) (by omega) hbs ?_; intro g6 c6 w7 ho7 hg7 hat7)
    have hR9 := HP6.out.R.grown hg7 (HP6.out.R.ne_row HN6.out (by decide))
    have hb9 := HP6.out.b.trans (below_grown hg7 hbs (fun g e => own_blk1 HN6.out g e))
    have hF9 := own_keep HF6.out fun g o e => hg7.block g (own_lt2 (by rw [← e]; exact HF6.out)).2.1 (row_ne_row HF6.out HN6.out (by decide) (by rw [e]; rfl))
    have HTD := Lib.hid (own_treeD (nodes := nodes ++ [⟨p, -1, mode, hp⟩]) (files := files) (ds := ds) (by rw [List.flatMap_append]; exact ho7) hF9 (by rw [List.length_append, Hnl.out]; rfl) HD.out.tree.fl (HD.out.dat.keep hb9))
    clear ho7 hg7 hat7 hF9 i1 i3 hbs j0
    by_cases hbg : 256 ≤ nn
    · have HE := Lib.hid (show doE (openM ⟨nodes, files, NA, nn, nc, FA, fn, fc⟩ ds) ⟨1, p, q, mode, ref, hp, hq⟩ sd = 31 by rw [Hdo.out, if_pos ⟨rfl, by show 256 ≤ nodes.length; rw [Hnl.out]; exact hbg⟩])
      have HBB := Lib.hid (big_nodes (nodes := nodes ++ [⟨p, -1, mode, hp⟩]) (files := files) (NA := some ⟨g6, 0, none⟩) (FA := A2) (nn := nn + 1) (nc := c6) (fn := fn) (fc := c2) (by omega))
      have HM := Lib.hid (rmade_any _ _ _ HTD.out)
      go_wp2_with (first | (go_at_call 47; refine HM.out.mono ?_; rintro e w8 hres; obtain ⟨hb8, rfl⟩ := made_big HBB.out hres; unfold TV.val; replace hR9 := hR9.below hb8 hR9.lt; replace hb9 := hb9.trans (hb8.mono hb9.size)) | (refine wpList_store_blk rfl 25 (.tmp 6) (.tmp 227) rfl hR9 #[.slice none 0 0, .slice none 0 0] rfl rfl (by kernel_rfl) rfl (by simp [Value.oneCell']) ?_; intro w9 hB9 hg9 hs9))
      exact ret_cell_t rfl rfl (load_blk hB9 Tryz.underlying25 rfl (by kernel_rfl)) rfl ⟨zeroTV, by rw [HE.out]; rfl, fun _ => rfl, fun h => by rw [HE.out] at h; exact absurd h (by decide), hb9.trans (below_grown hg9 hb9.size (fun g e => by injection e with e; omega))⟩
    · have hE := show doE (openM ⟨nodes, files, NA, nn, nc, FA, fn, fc⟩ ds) ⟨1, p, q, mode, ref, hp, hq⟩ sd = 0 by rw [Hdo.out, if_neg (fun h => hbg (by rw [← Hnl.out]; exact h.2))]
      have hdm : doM (openM ⟨nodes, files, NA, nn, nc, FA, fn, fc⟩ ds) ⟨1, p, q, mode, ref, hp, hq⟩ sd = (openM ⟨nodes, files, NA, nn, nc, FA, fn, fc⟩ ds).put ⟨p, -1, mode, hp⟩ := by
        unfold doM; rw [if_pos ⟨hE, by simp⟩]; unfold opM; rw [if_pos (by simp)]
      have hw := Hwo.out
      rw [hdm] at hw
      have HE := Lib.hid hE; have HDM := Lib.hid hdm
      have HINV := Lib.hid hw.1; have HLEN := Lib.hid hw.2.1
      have HAG := Lib.hid (agree_same (t' := ⟨nodes ++ [⟨p, -1, mode, hp⟩], files, some ⟨g6, 0, none⟩, nn + 1, c6, A2, fn, c2⟩) (ds := ds) hw.1 (List.Perm.refl _) rfl rfl rfl rfl)
      have HSM := Lib.hid (small_tree (t := ⟨nodes ++ [⟨p, -1, mode, hp⟩], files, some ⟨g6, 0, none⟩, nn + 1, c6, A2, fn, c2⟩) (by show nn + 1 ≤ 256; omega) hf1 HG.out.small)
      clear hE hdm hw
      have HM := Lib.hid (rmade_any _ _ _ HTD.out)
      go_wp2_with (first | (go_at_call 47; refine HM.out.mono ?_; rintro e w8 hres; obtain ⟨hb8, ⟨un, uf, uNA, unn, unc, uFA, ufn, ufc⟩, S, rfl, hTo⟩ := made_told HAG.out HINV.out HLEN.out HSM.out hres; unfold TV.val; have HTo := Lib.hid (hTo.base hb9.size); clear hTo hres; replace hR9 := hR9.below hb8 hR9.lt; replace hb9 := hb9.trans (hb8.mono hb9.size)) | (refine wpList_store_blk rfl 25 (.tmp 6) (.tmp 227) rfl hR9 #[.slice uNA unn unc, .slice uFA ufn ufc] rfl rfl (by kernel_rfl) rfl (by simp [Value.oneCell']) ?_; intro w9 hB9 hg9 hs9))
      exact ret_cell_t rfl rfl (load_blk hB9 Tryz.underlying25 rfl (by kernel_rfl)) rfl ⟨⟨un, uf, uNA, unn, unc, uFA, ufn, ufc⟩, by rw [HE.out]; rfl, fun h => absurd HE.out h, fun _ => ⟨S, by rw [HDM.out]; exact HTo.out.store hR9 hg9⟩, hb9.trans (below_grown hg9 hb9.size (fun g e => by injection e with e; omega))⟩
  · have hE : doE (openM ⟨nodes, files, NA, nn, nc, FA, fn, fc⟩ ds) ⟨1, p, q, mode, ref, hp, hq⟩ sd = absE nodes p := by
      rw [hdo]
      split
      · unfold fullE; rw [if_neg (by simp)]; exact if_neg h0
      · unfold opE; rw [if_pos (by simp)]; rfl
    obtain ⟨E, hEE⟩ : ∃ E, absE nodes p = E := ⟨_, rfl⟩
    unfold NumRes at hvac
    rw [hEE] at hE hvac h0
    have HE := Lib.hid hE; have HNE := Lib.hid h0; have HV := Lib.hid hvac
    have hne := ne_b h0
    have n1 := hne.1; have n2 := hne.2
    clear hne hE hEE hvac h0 hdo
    have hR := HP.out.R; have hb := HP.out.b
    go_wp2_with (first | (go_at_call 42; refine (hasTo7 _ _).mono ?_; rintro e w6 ⟨rfl, hw⟩; rw [hw]; clear hw; rw [show toB 1 = false from rfl]) | (go_at_call 44; refine (HV.out _ (HD.out.tree.keep hb)).mono ?_; rintro e w6 ⟨rfl, hb6⟩; replace hR := hR.below hb6 hR.lt; replace hb := hb.trans (hb6.mono hb.size)) | (refine wpList_store_blk rfl 25 (.tmp 6) (.tmp 81) rfl hR #[.slice none 0 0, .slice none 0 0] rfl rfl (by kernel_rfl) rfl (by simp [Value.oneCell']) ?_; intro w7 hB7 hg7 hs7))
    exact ret_cell_t rfl rfl (load_blk hB7 Tryz.underlying25 rfl (by kernel_rfl)) rfl ⟨zeroTV, by rw [HE.out]; rfl, fun _ => rfl, fun h => absurd (HE.out.symm.trans h) HNE.out, hb.trans (below_grown hg7 hb.size (fun g e => by injection e with e; omega))⟩
set_option maxRecDepth 100000 in
set_option maxHeartbeats 8000000 in
theorem rdo_6 (t : TV) (ds : List ByteArray) (p q : ByteArray) (mode ref : Int) (hp : p.size ≤ 9223372036854775807) (hq : q.size ≤ 9223372036854775807) (SA : Option Addr) (sn sc : Nat) (ss : List SC) (sd : List ByteArray) (w : World) (h : TreeD w t ds) (hS : StockAt w SA sn ss sd) (hl : looseE t = 0) (hF : firstE (toB 6) (modeB 6) ⟨6, p, q, mode, ref, hp, hq⟩ sd = 0) :
    Calls Tryz.prog 25 #[t.val, .agg #[.int .i64 6, .string p, .string q, .int .i64 mode, .int .i64 ref], .slice SA sn sc] w (DoRes (doE (openM t ds) ⟨6, p, q, mode, ref, hp, hq⟩ sd) (doM (openM t ds) ⟨6, p, q, mode, ref, hp, hq⟩ sd) w) := by
  have hloose := fun (W : World) (H : TreeAt W t) => rloose_any t W H
  have hfirst := fun (W : World) (H : StockAt W SA sn ss sd) => rfirst_any ⟨6, p, q, mode, ref, hp, hq⟩ SA sn sc ss sd W H
  have hE0 : rfirstE ⟨6, p, q, mode, ref, hp, hq⟩ sd = 0 := by unfold rfirstE; rw [if_neg (show ¬ isOp 6 = false by decide), if_neg (show ¬ (6 : Int) = 9 by decide)]; exact hF
  rw [hl] at hloose
  rw [hE0] at hfirst
  have hG := good_of_loose hl
  have hn1 := hG.nn
  have hf1 := hG.fn
  have HD := Lib.hid h; have HS := Lib.hid hS
  have hns := h.tree.ns
  have hfs := h.tree.fs
  obtain ⟨nodes, files, NA, nn, nc, FA, fn, fc⟩ := t
  simp only at hns hfs hn1 hf1
  unfold TV.val at hloose ⊢
  unfold Cmd.cells at hfirst
  have HLO := Lib.hid hloose; have HFI := Lib.hid hfirst; have HNs := Lib.hid hns; have HFs := Lib.hid hfs; have HG := Lib.hid hG; have HL := Lib.hid hl; have HF0 := Lib.hid hF
  clear hloose hfirst hE0 h hS hns hfs hG hl hF
  have hw3 : Below w.heap.size w (((w.alloc (.cells #[.slice NA nn nc, .slice FA fn fc] 25)).alloc (.cells #[.int .i64 6, .string p, .string q, .int .i64 mode, .int .i64 ref] 32)).alloc (.cells #[.slice none 0 0, .slice none 0 0] 25)) := (((Below.refl _ _).alloc (Nat.le_refl _) _).alloc (by simp) _).alloc (by simp; omega) _
  have hT := ((Blk.new w 25 #[.slice NA nn nc, .slice FA fn fc]).alloc (.cells #[.int .i64 6, .string p, .string q, .int .i64 mode, .int .i64 ref] 32)).alloc (.cells #[.slice none 0 0, .slice none 0 0] 25)
  have hI := (Blk.new (w.alloc (.cells #[.slice NA nn nc, .slice FA fn fc] 25)) 32 #[.int .i64 6, .string p, .string q, .int .i64 mode, .int .i64 ref]).alloc (.cells #[.slice none 0 0, .slice none 0 0] 25)
  have hR := Blk.new ((w.alloc (.cells #[.slice NA nn nc, .slice FA fn fc] 25)).alloc (.cells #[.int .i64 6, .string p, .string q, .int .i64 mode, .int .i64 ref] 32)) 25 #[.slice none 0 0, .slice none 0 0]
  simp only [World.size_alloc] at hI hR
  have t0 := hT.cell 0; have t1 := hT.cell 1
  go_enter Tryz.func25, Tryz.ntmps25
  go_upto_region 4 with (go_at_call 23; refine (HLO.out _ (HD.out.tree.keep hw3)).mono ?_; rintro e w1 ⟨rfl, hb1⟩)
  have hT1 := hT.below hb1 hT.lt; have hI1 := hI.below hb1 hI.lt; have hR1 := hR.below hb1 hR.lt
  have hw1 := hw3.trans (hb1.mono hw3.size)
  clear t0 t1 hT hI hR hw3 hb1
  have i0 := hI1.cell 0; have i1 := hI1.cell 1; have i2 := hI1.cell 2; have i3 := hI1.cell 3; have i4 := hI1.cell 4
  go_upto_region 7 with (go_at_call 41; refine (HFI.out _ (HS.out.keep hw1)).mono ?_; rintro e w2 ⟨rfl, hb2⟩)
  have hT2 := hT1.below hb2 hT1.lt; have hI2 := hI1.below hb2 hI1.lt; have hR2 := hR1.below hb2 hR1.lt
  have hw2 := hw1.trans (hb2.mono hw1.size)
  clear i0 i1 i2 i3 i4 hT1 hI1 hR1 hw1 hb2
  have i0 := hI2.cell 0
  have t0 := hT2.cell 0; have t1 := hT2.cell 1
  have hs2 := hw2.size
  go_upto_region 10 with (at_builtin; refine wpList_append_sl rfl _ _ _ rfl Tryz.nodeT rfl (World.ownsRow_nil w2 w.heap.size _ _) rfl (HNs.out.below hw2 (Nat.le_refl _)) (node_one nodes) (by unfold maxLen; omega) (by omega) hs2 ?_; intro A1 c1 w4 ho4 hg4 hat4)
  simp only [Nat.zero_add, List.nil_append] at ho4
  have hg4' : w2.grownBy w4 none := hg4
  have hT4 := hT2.grown hg4' (by simp); have hI4 := hI2.grown hg4' (by simp); have hR4 := hR2.grown hg4' (by simp)
  have hw4 := hw2.trans (below_grown hg4' hs2 (fun g e => by cases e))
  clear hg4 hg4' hat4 hT2 hI2 hR2 hw2 hs2 i0 t0 t1
  have t0 := hT4.cell 0; have t1 := hT4.cell 1; have i0 := hI4.cell 0
  have hs4 := hw4.size
  go_upto_region 11 with (at_builtin; refine wpList_append_sl rfl _ _ _ rfl Tryz.fileT rfl (World.ownsRow_nil w4 w.heap.size _ _) rfl (HFs.out.below hw4 (Nat.le_refl _)) (file_cells_one files) (by unfold maxLen; omega) (by omega) hs4 ?_; intro A2 c2 w5 ho5 hg5 hat5)
  simp only [Nat.zero_add, List.nil_append] at ho5
  have hg5' : w4.grownBy w5 none := hg5
  have HP := Lib.hid (show DoPre ⟨nodes, files, NA, nn, nc, FA, fn, fc⟩ ds w w5 #[.int .i64 6, .string p, .string q, .int .i64 mode, .int .i64 ref] A1 c1 A2 c2 from ⟨hT4.grown hg5' (by simp), hI4.grown hg5' (by simp), hR4.grown hg5' (by simp), own_keep1 ho4 (below_grown hg5' (Nat.le_refl _) (fun g e => by cases e)) (Nat.le_refl _), ho5, hw4.trans (below_grown hg5' hs4 (fun g e => by cases e))⟩)
  clear hg5 hg5' hat5 hT4 hI4 hR4 hw4 hs4 i0 t0 t1 ho4 ho5
  have t0 := HP.out.T.cell 0; have t1 := HP.out.T.cell 1
  have i0 := HP.out.I.cell 0; have i1 := HP.out.I.cell 1; have i2 := HP.out.I.cell 2; have i3 := HP.out.I.cell 3
  have href := (first0 HF0.out).2.2.2 rfl
  have Href := Lib.hid href
  clear href
  have hv := (first0 HF0.out).2.1
  have hvac := fun (W : World) (H : TreeAt W ⟨nodes, files, NA, nn, nc, FA, fn, fc⟩) => rvacant_any _ p W H (apart_of_rises HG.out.rises) (fun x hx => (HG.out.kind x hx).imp (·.1) (·.1)) hp hv
  have hdo := doE_of (M := openM ⟨nodes, files, NA, nn, nc, FA, fn, fc⟩ ds) (c := ⟨6, p, q, mode, ref, hp, hq⟩) (sd := sd) (by simp [isOp]) (by simp) HF0.out
  simp only at hvac
  unfold TV.val at hvac
  have hwo := inv_do (M := openM ⟨nodes, files, NA, nn, nc, FA, fn, fc⟩ ds) (open_inv HD.out HL.out) (by show nodes.length ≤ 256; have := HD.out.tree.nl; simp only at this; omega) ⟨6, p, q, mode, ref, hp, hq⟩ sd
  have Hwo := Lib.hid hwo
  clear hwo
  by_cases h0 : absE nodes p = 0
  · have HV := Lib.hid (h0 ▸ hvac)
    have hnl := HD.out.tree.nl
    simp only at hnl
    have hop : opE (openM ⟨nodes, files, NA, nn, nc, FA, fn, fc⟩ ds) ⟨6, p, q, mode, ref, hp, hq⟩ = 0 := by unfold opE; rw [if_pos (by simp)]; exact h0
    have hfu : fullE (openM ⟨nodes, files, NA, nn, nc, FA, fn, fc⟩ ds) ⟨6, p, q, mode, ref, hp, hq⟩ = 31 := by unfold fullE; rw [if_neg (by simp)]; exact if_pos h0
    rw [hop, hfu] at hdo
    have Hdo := Lib.hid hdo
    have Hnl := Lib.hid hnl
    clear hvac h0 hop hfu hdo hnl
    unfold NumRes at HV
    go_upto_region 42 with (first | (go_at_call 42; refine (hasTo7 _ _).mono ?_; rintro e w6 ⟨rfl, hw⟩; rw [hw]; clear hw; rw [show toB 6 = false from rfl]) | (go_at_call 44; refine (HV.out _ (HD.out.tree.keep HP.out.b)).mono ?_; rintro e w6 ⟨rfl, hb6⟩; have HP6 := Lib.hid (HP.out.below hb6); have j0 := HP6.out.I.cell 0))
    clear t0 t1 i0 i1 i2 i3 hb6 HP
    have i1 := HP6.out.I.cell 1
    have hbs := HP6.out.b.size
    have HN6 := Lib.hid (show w6.ownsRow w.heap.size 56 3 (.slice A1 nn c1) nn (nodes.flatMap Node.list) from HP6.out.N)
    have HF6 := Lib.hid (show w6.ownsRow w.heap.size 59 2 (.slice A2 fn c2) fn (files.flatMap FC.list) from HP6.out.F)
    go_upto_region 43 with (at_builtin; refine wpList_append_one rfl _ _ _ rfl Tryz.nodeT rfl HN6.out #[.string p, .int .i64 (fn : Int), .int .i64 0] rfl (by first | rfl | simp) rfl (node_cells_one _ _ _) (by unfold maxLen; omega) (by omega) hbs ?_; intro g6 c6 w7 ho7 hg7 hat7)
    have hI7 := HP6.out.I.grown hg7 (HP6.out.I.ne_row HN6.out (by decide))
    have hR7 := HP6.out.R.grown hg7 (HP6.out.R.ne_row HN6.out (by decide))
    have hb7 := HP6.out.b.trans (below_grown hg7 hbs (fun g e => own_blk1 HN6.out g e))
    have HF7 := Lib.hid (own_keep HF6.out fun g o e => hg7.block g (own_lt2 (by rw [← e]; exact HF6.out)).2.1 (row_ne_row HF6.out HN6.out (by decide) (by rw [e]; rfl)))
    have Ho7 := Lib.hid ho7
    clear hg7 hat7 i1 hbs j0 ho7
    obtain ⟨hr0, hr1, hr2⟩ := Href.out
    obtain ⟨r, hr⟩ := Int.eq_ofNat_of_zero_le hr0
    have hrn : r < sn := by have := HS.out.dlen; change ref < (sd.length : Int) at hr1; omega
    obtain ⟨xb, xo, x, rfl, hxb, hx, hc⟩ := (HS.out.sl.below hb7 (Nat.le_refl _)).get SC.len HS.out.len hrn
    have d0 := hc 0 _ rfl
    simp only [Nat.add_zero, Nat.mul_one] at d0
    obtain ⟨d, hd⟩ : ∃ d, sd[r]? = some d := ⟨_, List.getElem?_eq_getElem (by rw [HS.out.dlen]; exact hrn)⟩
    obtain ⟨hdn, hdS⟩ := HS.out.dat r x d hx hd
    have hrd : refData ⟨6, p, q, mode, ref, hp, hq⟩ sd = d := by unfold refData; show (sd[ref.toNat]?).getD _ = d; rw [hr, Int.toNat_natCast, hd]; rfl
    rw [hrd] at hr2
    have hx8 : x.n ≤ 8192 := by rw [← hdn]; exact hr2
    have Hrd := Lib.hid hrd; have Hdn := Lib.hid hdn; have HdS := Lib.hid hdS
    subst hr
    clear hrd hdn hdS hc hx hd hr0 hr1 hr2
    have i3 := hI7.cell 3; have i4 := hI7.cell 4
    have hri : (r : Int) < sn := by omega
    have hws := hb7.size
    have hIl := hI7.lt
    have hxw : xb < w7.heap.size := by omega
    have hneI : ¬ some (w.heap.size + 1) = blkOf A2 := hI7.ne_row HF7.out (by decide)
    have hneX : ¬ some xb = blkOf A2 := fun e => by have := own_blk1 HF7.out xb e.symm; omega
    refine wp_region_ordB (blkOf A2) [(0, true), (1, true), (2, true), (3, true), (4, true), (5, true), (6, true), (7, true), (8, true), (9, false), (10, false), (11, true)] (by kernel_rfl) (by kernel_rfl) fun hG0 => ?_
    repeat (first
      | (refine ord_skipB rfl (by rfl) ?_; simp only [Act.put, List.setIfInBounds_toArray, List.set_cons_zero, List.set_cons_succ])
      | (refine ord_qE rfl (by rfl) ?_; apply Exists.intro; refine ⟨fun w' hc' => ?_, ?_⟩; (focus (go_simp; (try go_bits); (try simp only [↓IntWalk.iteOmega]); with_reducible rfl)); simp only [Act.put, List.setIfInBounds_toArray, List.set_cons_zero, List.set_cons_succ]))
    refine ord_eB rfl fun K hK => ?_
    go_wp2_with (fail)
    have hG1 := grown_trans hG0 (World.grownBy_alloc w7.drew (.cells #[.int .i64 mode, .slice x.A x.n x.c] 59) (blkOf A2))
    refine hK.out _ _ hG1 ?_
    clear hK K
    repeat (first
      | (refine ord_skipB rfl (by rfl) ?_; simp only [Act.put, List.setIfInBounds_toArray, List.set_cons_zero, List.set_cons_succ])
      | (refine ord_qE rfl (by rfl) ?_; apply Exists.intro; refine ⟨fun w' hc' => ?_, ?_⟩; (focus (go_simp; (try go_bits); (try simp only [↓IntWalk.iteOmega]); with_reducible rfl)); simp only [Act.put, List.setIfInBounds_toArray, List.set_cons_zero, List.set_cons_succ]))
    refine ord_eB rfl fun K hK => ?_
    go_wp2_with (at_builtin; refine wpList_append_one (w := w7.drew) rfl _ _ _ rfl Tryz.fileT rfl (own_drew HF7.out) #[.int .i64 mode, .slice x.A x.n x.c] rfl (by simp) rfl (file_one _ _ _ _) (by unfold maxLen; omega) (by omega) hws ?_; intro g8 c8 w8 ho8 hg8 hat8)
    have hG2 := grown_trans hG0 hg8
    refine hK.out _ _ hG2 ?_
    clear hK K
    repeat (first
      | (refine ord_skipB rfl (by rfl) ?_; simp only [Act.put, List.setIfInBounds_toArray, List.set_cons_zero, List.set_cons_succ])
      | (refine ord_qE rfl (by rfl) ?_; apply Exists.intro; refine ⟨fun w' hc' => ?_, ?_⟩; (focus (go_simp; (try go_bits); (try simp only [↓IntWalk.iteOmega]); with_reducible rfl)); simp only [Act.put, List.setIfInBounds_toArray, List.set_cons_zero, List.set_cons_succ]))
    refine ord_end ?_
    have hR9 := hR7.grown hG2 (hR7.ne_row HF7.out (by decide))
    have hb9 := hb7.trans (below_grown hG2 hws (fun g e => own_blk1 HF7.out g e))
    have hN9 := own_keep Ho7.out fun g o e => hG2.block g (own_lt2 (by rw [← e]; exact Ho7.out)).2.1 (row_ne_row Ho7.out HF7.out (by decide) (by rw [e]; rfl))
    have hfl := HD.out.tree.fl
    have hdl := HD.out.dat.len
    simp only at hfl hdl
    have HTD := Lib.hid (own_treeD (nodes := nodes ++ [⟨p, fn, 0, hp⟩]) (files := files ++ [⟨mode, x.A, x.n, x.c⟩]) (ds := ds ++ [d]) (by rw [List.flatMap_append]; exact hN9) (by rw [List.flatMap_append]; exact ho8) (by rw [List.length_append, Hnl.out]; rfl) (by rw [List.length_append, hfl]; rfl) ((HD.out.dat.keep hb9).snoc Hdn.out ((HdS.out.below hb9 (Nat.le_refl _)).more hb9.size)))
    have Hfl := Lib.hid hfl; have Hdl := Lib.hid hdl
    clear ho8 hg8 hat8 hN9 i3 i4 d0 hneI hneX hxw hws hIl hG0 hG1 hG2 hfl hdl
    by_cases hbg : 256 ≤ nn
    · have HE := Lib.hid (show doE (openM ⟨nodes, files, NA, nn, nc, FA, fn, fc⟩ ds) ⟨6, p, q, mode, r, hp, hq⟩ sd = 31 by rw [Hdo.out, if_pos ⟨rfl, by show 256 ≤ nodes.length; rw [Hnl.out]; exact hbg⟩])
      have HBB := Lib.hid (big_nodes (nodes := nodes ++ [⟨p, fn, 0, hp⟩]) (files := files ++ [⟨mode, x.A, x.n, x.c⟩]) (NA := some ⟨g6, 0, none⟩) (FA := some ⟨g8, 0, none⟩) (nn := nn + 1) (nc := c6) (fn := fn + 1) (fc := c8) (by omega))
      have HM := Lib.hid (rmade_any _ _ _ HTD.out)
      go_wp2_with (first | (go_at_call 47; refine HM.out.mono ?_; rintro e w8 hres; obtain ⟨hb8, rfl⟩ := made_big HBB.out hres; unfold TV.val; replace hR9 := hR9.below hb8 hR9.lt; replace hb9 := hb9.trans (hb8.mono hb9.size)) | (refine wpList_store_blk rfl 25 (.tmp 6) (.tmp 227) rfl hR9 #[.slice none 0 0, .slice none 0 0] rfl rfl (by kernel_rfl) rfl (by simp [Value.oneCell']) ?_; intro w9 hB9 hg9 hs9))
      exact ret_cell_t rfl rfl (load_blk hB9 Tryz.underlying25 rfl (by kernel_rfl)) rfl ⟨zeroTV, by rw [HE.out]; rfl, fun _ => rfl, fun h => by rw [HE.out] at h; exact absurd h (by decide), hb9.trans (below_grown hg9 hb9.size (fun g e => by injection e with e; omega))⟩
    · have hE := show doE (openM ⟨nodes, files, NA, nn, nc, FA, fn, fc⟩ ds) ⟨6, p, q, mode, r, hp, hq⟩ sd = 0 by rw [Hdo.out, if_neg (fun h => hbg (by rw [← Hnl.out]; exact h.2))]
      have hdm : doM (openM ⟨nodes, files, NA, nn, nc, FA, fn, fc⟩ ds) ⟨6, p, q, mode, r, hp, hq⟩ sd = (openM ⟨nodes, files, NA, nn, nc, FA, fn, fc⟩ ds).made p hp mode d := by
        unfold doM; rw [if_pos ⟨hE, by simp⟩]; unfold opM; simp [Hrd.out]
      have hw := Hwo.out
      rw [hdm] at hw
      have HE := Lib.hid hE; have HDM := Lib.hid hdm
      have HINV := Lib.hid hw.1; have HLEN := Lib.hid hw.2.1
      have hfn : fn ≤ nn := files_le HG.out HD.out
      have HAG := Lib.hid (agree_made (t := ⟨nodes, files, NA, nn, nc, FA, fn, fc⟩) (t' := ⟨nodes ++ [⟨p, fn, 0, hp⟩], files ++ [⟨mode, x.A, x.n, x.c⟩], some ⟨g6, 0, none⟩, nn + 1, c6, some ⟨g8, 0, none⟩, fn + 1, c8⟩) (ds := ds) (ds' := ds ++ [d]) Hfl.out (Hdl.out.trans Hfl.out) hw.1 (List.Perm.refl _) rfl rfl rfl rfl rfl rfl)
      have HSM := Lib.hid (small_tree (t := ⟨nodes ++ [⟨p, fn, 0, hp⟩], files ++ [⟨mode, x.A, x.n, x.c⟩], some ⟨g6, 0, none⟩, nn + 1, c6, some ⟨g8, 0, none⟩, fn + 1, c8⟩) (by show nn + 1 ≤ 256; omega) (by show fn + 1 ≤ 256; omega) (fun y hy => (List.mem_append.1 hy).elim (HG.out.small y) (fun e => by rw [List.mem_singleton.1 e]; exact hx8)))
      clear hE hdm hw
      have HM := Lib.hid (rmade_any _ _ _ HTD.out)
      go_wp2_with (first | (go_at_call 47; refine HM.out.mono ?_; rintro e w8 hres; obtain ⟨hb8, ⟨un, uf, uNA, unn, unc, uFA, ufn, ufc⟩, S, rfl, hTo⟩ := made_told HAG.out HINV.out HLEN.out HSM.out hres; unfold TV.val; have HTo := Lib.hid (hTo.base hb9.size); clear hTo hres; replace hR9 := hR9.below hb8 hR9.lt; replace hb9 := hb9.trans (hb8.mono hb9.size)) | (refine wpList_store_blk rfl 25 (.tmp 6) (.tmp 227) rfl hR9 #[.slice uNA unn unc, .slice uFA ufn ufc] rfl rfl (by kernel_rfl) rfl (by simp [Value.oneCell']) ?_; intro w9 hB9 hg9 hs9))
      exact ret_cell_t rfl rfl (load_blk hB9 Tryz.underlying25 rfl (by kernel_rfl)) rfl ⟨⟨un, uf, uNA, unn, unc, uFA, ufn, ufc⟩, by rw [HE.out]; rfl, fun h => absurd HE.out h, fun _ => ⟨S, by rw [HDM.out]; exact HTo.out.store hR9 hg9⟩, hb9.trans (below_grown hg9 hb9.size (fun g e => by injection e with e; omega))⟩
  · have hE : doE (openM ⟨nodes, files, NA, nn, nc, FA, fn, fc⟩ ds) ⟨6, p, q, mode, ref, hp, hq⟩ sd = absE nodes p := by
      rw [hdo]
      split
      · unfold fullE; rw [if_neg (by simp)]; exact if_neg h0
      · unfold opE; rw [if_pos (by simp)]; rfl
    obtain ⟨E, hEE⟩ : ∃ E, absE nodes p = E := ⟨_, rfl⟩
    unfold NumRes at hvac
    rw [hEE] at hE hvac h0
    have HE := Lib.hid hE; have HNE := Lib.hid h0; have HV := Lib.hid hvac
    have hne := ne_b h0
    have n1 := hne.1; have n2 := hne.2
    clear hne hE hEE hvac h0 hdo
    have hR := HP.out.R; have hb := HP.out.b
    go_wp2_with (first | (go_at_call 42; refine (hasTo7 _ _).mono ?_; rintro e w6 ⟨rfl, hw⟩; rw [hw]; clear hw; rw [show toB 6 = false from rfl]) | (go_at_call 44; refine (HV.out _ (HD.out.tree.keep hb)).mono ?_; rintro e w6 ⟨rfl, hb6⟩; replace hR := hR.below hb6 hR.lt; replace hb := hb.trans (hb6.mono hb.size)) | (refine wpList_store_blk rfl 25 (.tmp 6) (.tmp 81) rfl hR #[.slice none 0 0, .slice none 0 0] rfl rfl (by kernel_rfl) rfl (by simp [Value.oneCell']) ?_; intro w7 hB7 hg7 hs7))
    exact ret_cell_t rfl rfl (load_blk hB7 Tryz.underlying25 rfl (by kernel_rfl)) rfl ⟨zeroTV, by rw [HE.out]; rfl, fun _ => rfl, fun h => absurd (HE.out.symm.trans h) HNE.out, hb.trans (below_grown hg7 hb.size (fun g e => by injection e with e; omega))⟩
set_option maxRecDepth 100000 in
set_option maxHeartbeats 8000000 in
theorem rdo_4 (t : TV) (ds : List ByteArray) (p q : ByteArray) (mode ref : Int) (hp : p.size ≤ 9223372036854775807) (hq : q.size ≤ 9223372036854775807) (SA : Option Addr) (sn sc : Nat) (ss : List SC) (sd : List ByteArray) (w : World) (h : TreeD w t ds) (hS : StockAt w SA sn ss sd) (hl : looseE t = 0) (hF : firstE (toB 4) (modeB 4) ⟨4, p, q, mode, ref, hp, hq⟩ sd = 0) :
    Calls Tryz.prog 25 #[t.val, .agg #[.int .i64 4, .string p, .string q, .int .i64 mode, .int .i64 ref], .slice SA sn sc] w (DoRes (doE (openM t ds) ⟨4, p, q, mode, ref, hp, hq⟩ sd) (doM (openM t ds) ⟨4, p, q, mode, ref, hp, hq⟩ sd) w) := by
  have hloose := fun (W : World) (H : TreeAt W t) => rloose_any t W H
  have hfirst := fun (W : World) (H : StockAt W SA sn ss sd) => rfirst_any ⟨4, p, q, mode, ref, hp, hq⟩ SA sn sc ss sd W H
  have hE0 : rfirstE ⟨4, p, q, mode, ref, hp, hq⟩ sd = 0 := by unfold rfirstE; rw [if_neg (show ¬ isOp 4 = false by decide), if_neg (show ¬ (4 : Int) = 9 by decide)]; exact hF
  rw [hl] at hloose
  rw [hE0] at hfirst
  have hG := good_of_loose hl
  have hn1 := hG.nn
  have hf1 := hG.fn
  have HD := Lib.hid h; have HS := Lib.hid hS
  have hns := h.tree.ns
  have hfs := h.tree.fs
  obtain ⟨nodes, files, NA, nn, nc, FA, fn, fc⟩ := t
  simp only at hns hfs hn1 hf1
  unfold TV.val at hloose ⊢
  unfold Cmd.cells at hfirst
  have HLO := Lib.hid hloose; have HFI := Lib.hid hfirst; have HNs := Lib.hid hns; have HFs := Lib.hid hfs; have HG := Lib.hid hG; have HL := Lib.hid hl; have HF0 := Lib.hid hF
  clear hloose hfirst hE0 h hS hns hfs hG hl hF
  have hw3 : Below w.heap.size w (((w.alloc (.cells #[.slice NA nn nc, .slice FA fn fc] 25)).alloc (.cells #[.int .i64 4, .string p, .string q, .int .i64 mode, .int .i64 ref] 32)).alloc (.cells #[.slice none 0 0, .slice none 0 0] 25)) := (((Below.refl _ _).alloc (Nat.le_refl _) _).alloc (by simp) _).alloc (by simp; omega) _
  have hT := ((Blk.new w 25 #[.slice NA nn nc, .slice FA fn fc]).alloc (.cells #[.int .i64 4, .string p, .string q, .int .i64 mode, .int .i64 ref] 32)).alloc (.cells #[.slice none 0 0, .slice none 0 0] 25)
  have hI := (Blk.new (w.alloc (.cells #[.slice NA nn nc, .slice FA fn fc] 25)) 32 #[.int .i64 4, .string p, .string q, .int .i64 mode, .int .i64 ref]).alloc (.cells #[.slice none 0 0, .slice none 0 0] 25)
  have hR := Blk.new ((w.alloc (.cells #[.slice NA nn nc, .slice FA fn fc] 25)).alloc (.cells #[.int .i64 4, .string p, .string q, .int .i64 mode, .int .i64 ref] 32)) 25 #[.slice none 0 0, .slice none 0 0]
  simp only [World.size_alloc] at hI hR
  have t0 := hT.cell 0; have t1 := hT.cell 1
  go_enter Tryz.func25, Tryz.ntmps25
  go_upto_region 4 with (go_at_call 23; refine (HLO.out _ (HD.out.tree.keep hw3)).mono ?_; rintro e w1 ⟨rfl, hb1⟩)
  have hT1 := hT.below hb1 hT.lt; have hI1 := hI.below hb1 hI.lt; have hR1 := hR.below hb1 hR.lt
  have hw1 := hw3.trans (hb1.mono hw3.size)
  clear t0 t1 hT hI hR hw3 hb1
  have i0 := hI1.cell 0; have i1 := hI1.cell 1; have i2 := hI1.cell 2; have i3 := hI1.cell 3; have i4 := hI1.cell 4
  go_upto_region 7 with (go_at_call 41; refine (HFI.out _ (HS.out.keep hw1)).mono ?_; rintro e w2 ⟨rfl, hb2⟩)
  have hT2 := hT1.below hb2 hT1.lt; have hI2 := hI1.below hb2 hI1.lt; have hR2 := hR1.below hb2 hR1.lt
  have hw2 := hw1.trans (hb2.mono hw1.size)
  clear i0 i1 i2 i3 i4 hT1 hI1 hR1 hw1 hb2
  have i0 := hI2.cell 0
  have t0 := hT2.cell 0; have t1 := hT2.cell 1
  have hs2 := hw2.size
  go_upto_region 10 with (at_builtin; refine wpList_append_sl rfl _ _ _ rfl Tryz.nodeT rfl (World.ownsRow_nil w2 w.heap.size _ _) rfl (HNs.out.below hw2 (Nat.le_refl _)) (node_one nodes) (by unfold maxLen; omega) (by omega) hs2 ?_; intro A1 c1 w4 ho4 hg4 hat4)
  simp only [Nat.zero_add, List.nil_append] at ho4
  have hg4' : w2.grownBy w4 none := hg4
  have hT4 := hT2.grown hg4' (by simp); have hI4 := hI2.grown hg4' (by simp); have hR4 := hR2.grown hg4' (by simp)
  have hw4 := hw2.trans (below_grown hg4' hs2 (fun g e => by cases e))
  clear hg4 hg4' hat4 hT2 hI2 hR2 hw2 hs2 i0 t0 t1
  have t0 := hT4.cell 0; have t1 := hT4.cell 1; have i0 := hI4.cell 0
  have hs4 := hw4.size
  go_upto_region 11 with (at_builtin; refine wpList_append_sl rfl _ _ _ rfl Tryz.fileT rfl (World.ownsRow_nil w4 w.heap.size _ _) rfl (HFs.out.below hw4 (Nat.le_refl _)) (file_cells_one files) (by unfold maxLen; omega) (by omega) hs4 ?_; intro A2 c2 w5 ho5 hg5 hat5)
  simp only [Nat.zero_add, List.nil_append] at ho5
  have hg5' : w4.grownBy w5 none := hg5
  have HP := Lib.hid (show DoPre ⟨nodes, files, NA, nn, nc, FA, fn, fc⟩ ds w w5 #[.int .i64 4, .string p, .string q, .int .i64 mode, .int .i64 ref] A1 c1 A2 c2 from ⟨hT4.grown hg5' (by simp), hI4.grown hg5' (by simp), hR4.grown hg5' (by simp), own_keep1 ho4 (below_grown hg5' (Nat.le_refl _) (fun g e => by cases e)) (Nat.le_refl _), ho5, hw4.trans (below_grown hg5' hs4 (fun g e => by cases e))⟩)
  clear hg5 hg5' hat5 hT4 hI4 hR4 hw4 hs4 i0 t0 t1 ho4 ho5
  have t0 := HP.out.T.cell 0; have t1 := HP.out.T.cell 1
  have i0 := HP.out.I.cell 0; have i1 := HP.out.I.cell 1; have i2 := HP.out.I.cell 2; have i3 := HP.out.I.cell 3
  have hv := (first0 HF0.out).2.1
  have hv2 := (first0 HF0.out).2.2.1 rfl
  have hfil := fun (W : World) (H : TreeAt W ⟨nodes, files, NA, nn, nc, FA, fn, fc⟩) => rfile_any _ p W H (apart_of_rises HG.out.rises) (fun x hx => (HG.out.kind x hx).imp (·.1) (·.1)) hp hv
  have hvac := fun (W : World) (H : TreeAt W ⟨nodes, files, NA, nn, nc, FA, fn, fc⟩) => rvacant_any _ q W H (apart_of_rises HG.out.rises) (fun x hx => (HG.out.kind x hx).imp (·.1) (·.1)) hq hv2
  have hdo := doE_of (M := openM ⟨nodes, files, NA, nn, nc, FA, fn, fc⟩ ds) (c := ⟨4, p, q, mode, ref, hp, hq⟩) (sd := sd) (by simp [isOp]) (by simp) HF0.out
  simp only at hfil hvac
  unfold TV.val at hfil hvac
  have hwo := inv_do (M := openM ⟨nodes, files, NA, nn, nc, FA, fn, fc⟩ ds) (open_inv HD.out HL.out) (by show nodes.length ≤ 256; have := HD.out.tree.nl; simp only at this; omega) ⟨4, p, q, mode, ref, hp, hq⟩ sd
  have Hwo := Lib.hid hwo
  have hnl := HD.out.tree.nl
  simp only at hnl
  have Hnl := Lib.hid hnl
  clear hwo hnl
  unfold FileR at hfil
  unfold NumRes at hvac
  by_cases h0 : filE nodes p = 0
  · by_cases h1 : absE nodes q = 0
    · have hfu : fullE (openM ⟨nodes, files, NA, nn, nc, FA, fn, fc⟩ ds) ⟨4, p, q, mode, ref, hp, hq⟩ = 31 := by
        unfold fullE
        rw [if_pos (by simp)]
        show (if filE nodes p = 0 then (if absE nodes q = 0 then (31 : Int) else absE nodes q) else filE nodes p) = 31
        rw [if_pos h0, if_pos h1]
      rw [hfu] at hdo
      have hop : opE (openM ⟨nodes, files, NA, nn, nc, FA, fn, fc⟩ ds) ⟨4, p, q, mode, ref, hp, hq⟩ = 0 := by
        unfold opE
        rw [if_neg (by simp), if_neg (by simp), if_neg (by simp), if_neg (by simp)]
        show bothE nodes p q = 0
        unfold bothE; rw [if_pos h0, h1]
      rw [hop] at hdo
      have Hdo := Lib.hid hdo
      have HV := Lib.hid (h1 ▸ hvac)
      obtain ⟨hpre, hlf⟩ := fil0 h0
      obtain ⟨x0, hx0, hlF, _⟩ := pre0 hpre
      rw [hlF] at hlf
      obtain ⟨k, x, hkx, hfi, hk0⟩ : ∃ (k : Nat) (x : Node), nodeAt nodes p = some x ∧ findI nodes p = k ∧ nodes[k]? = some x := by
        rcases find_at (apart_of_rises HG.out.rises) p with ⟨h, _⟩ | h
        · rw [h] at hx0; cases hx0
        · exact h
      obtain rfl : x = x0 := by rw [hkx] at hx0; exact Option.some.inj hx0
      rw [h0, if_pos rfl, hfi] at hfil
      have HFL := Lib.hid hfil
      have hxp := (nodeAt_some hkx).2
      have hxm : x.mode = 0 := by
        rcases HG.out.kind x (nodeAt_some hkx).1 with h | h
        · omega
        · exact h.2.2
      have hxf : x.file < fn := by
        rcases HG.out.kind x (nodeAt_some hkx).1 with h | h
        · omega
        · exact h.2.1
      have hqn := abs0 h1
      have hkn : k < nn := by have := (List.getElem?_eq_some_iff.1 hk0).1; rw [Hnl.out] at this; exact this
      have hki : (k : Int) < nn := by omega
      have Hkx := Lib.hid hkx; have Hk0 := Lib.hid hk0; have HlF := Lib.hid hlF; have Hxp := Lib.hid hxp; have Hxm := Lib.hid hxm; have Hqn := Lib.hid hqn
      clear hop hdo hvac hfil h0 h1 hpre hx0 hlF hkx hfi hk0 hxp hxm hqn
      go_upto_region 36 with (first | (go_at_call 42; refine (hasTo7 _ _).mono ?_; rintro e w6 ⟨rfl, hw⟩; rw [hw]; clear hw; rw [show toB 4 = true from rfl]) | (go_at_call 43; refine (HFL.out _ (HD.out.tree.keep HP.out.b)).mono ?_; rintro e w6 ⟨rfl, hb6⟩; have HP6 := Lib.hid (HP.out.below hb6); have s0 := HP6.out.T.cell 0; have s1 := HP6.out.T.cell 1; have s2 := HP6.out.I.cell 2) | (go_at_call 44; refine (HV.out _ (HD.out.tree.keep HP6.out.b)).mono ?_; rintro e w7 ⟨rfl, hb7⟩; have HP7 := Lib.hid (HP6.out.below hb7); have j0 := HP7.out.I.cell 0))
      clear t0 t1 i0 i1 i2 i3 hb6 hb7 HP HP6 s0 s1 s2
      have hbs := HP7.out.b.size
      have HN7 := Lib.hid (show w7.ownsRow w.heap.size 56 3 (.slice A1 nn c1) nn (nodes.flatMap Node.list) from HP7.out.N)
      have HF7 := Lib.hid (show w7.ownsRow w.heap.size 59 2 (.slice A2 fn c2) fn (files.flatMap FC.list) from HP7.out.F)
      obtain ⟨xb, xo, x', hNA, hxb, hx', hc⟩ := (HNs.out.below HP7.out.b (Nat.le_refl _)).get Node.len Hnl.out hkn
      obtain rfl : x = x' := by have := Hk0.out; rw [this] at hx'; exact Option.some.inj hx'
      have d1 := hc 1 _ rfl
      clear hc hx'
      subst hNA
      have i2 := HP7.out.I.cell 2
      have t0 := HP7.out.T.cell 0
      have hTl := HP7.out.T.lt; have hIl := HP7.out.I.lt
      have hxw : xb < w7.heap.size := by omega
      have hneT : ¬ some w.heap.size = blkOf A1 := HP7.out.T.ne_row HN7.out (by decide)
      have hneI : ¬ some (w.heap.size + 1) = blkOf A1 := HP7.out.I.ne_row HN7.out (by decide)
      have hneX : ¬ some xb = blkOf A1 := fun e => by have := own_blk1 HN7.out xb e.symm; omega
      refine wp_region_ordB (blkOf A1) [(0, true), (1, true), (2, true), (3, true), (4, true), (5, true), (6, true), (7, true), (8, true), (9, true), (10, false), (11, false), (12, true)] (by kernel_rfl) (by kernel_rfl) fun hG0 => ?_
      repeat (first
        | (refine ord_skipB rfl (by rfl) ?_; simp only [Act.put, List.setIfInBounds_toArray, List.set_cons_zero, List.set_cons_succ])
        | (refine ord_qE rfl (by rfl) ?_; apply Exists.intro; refine ⟨fun w' hc' => ?_, ?_⟩; (focus (go_simp; (try go_bits); (try simp only [↓IntWalk.iteOmega]); with_reducible rfl)); simp only [Act.put, List.setIfInBounds_toArray, List.set_cons_zero, List.set_cons_succ]))
      refine ord_eB rfl fun K hK => ?_
      go_wp2_with (fail)
      have hG1 := grown_trans hG0 (World.grownBy_alloc w7.drew (.cells #[.string q, .int .i64 x.file, .int .i64 0] 56) (blkOf A1))
      refine hK.out _ _ hG1 ?_
      clear hK K
      repeat (first
        | (refine ord_skipB rfl (by rfl) ?_; simp only [Act.put, List.setIfInBounds_toArray, List.set_cons_zero, List.set_cons_succ])
        | (refine ord_qE rfl (by rfl) ?_; apply Exists.intro; refine ⟨fun w' hc' => ?_, ?_⟩; (focus (go_simp; (try go_bits); (try simp only [↓IntWalk.iteOmega]); with_reducible rfl)); simp only [Act.put, List.setIfInBounds_toArray, List.set_cons_zero, List.set_cons_succ]))
      refine ord_eB rfl fun K hK => ?_
      go_wp2_with (at_builtin; refine wpList_append_one (w := w7.drew) rfl _ _ _ rfl Tryz.nodeT rfl (own_drew HN7.out) #[.string q, .int .i64 x.file, .int .i64 0] rfl (by simp) rfl (node_cells_one _ _ _) (by unfold maxLen; omega) (by omega) hbs ?_; intro g8 c8 w8 ho8 hg8 hat8)
      have hG2 := grown_trans hG0 hg8
      refine hK.out _ _ hG2 ?_
      clear hK K
      repeat (first
        | (refine ord_skipB rfl (by rfl) ?_; simp only [Act.put, List.setIfInBounds_toArray, List.set_cons_zero, List.set_cons_succ])
        | (refine ord_qE rfl (by rfl) ?_; apply Exists.intro; refine ⟨fun w' hc' => ?_, ?_⟩; (focus (go_simp; (try go_bits); (try simp only [↓IntWalk.iteOmega]); with_reducible rfl)); simp only [Act.put, List.setIfInBounds_toArray, List.set_cons_zero, List.set_cons_succ]))
      refine ord_end ?_
      have hR9 := HP7.out.R.grown hG2 (HP7.out.R.ne_row HN7.out (by decide))
      have hb9 := HP7.out.b.trans (below_grown hG2 hbs (fun g e => own_blk1 HN7.out g e))
      have hF9 := own_keep HF7.out fun g o e => hG2.block g (own_lt2 (by rw [← e]; exact HF7.out)).2.1 (row_ne_row HF7.out HN7.out (by decide) (by rw [e]; rfl))
      have HTD := Lib.hid (own_treeD (nodes := nodes ++ [⟨q, x.file, 0, hq⟩]) (files := files) (ds := ds) (by rw [List.flatMap_append]; exact ho8) hF9 (by rw [List.length_append, Hnl.out]; rfl) HD.out.tree.fl (HD.out.dat.keep hb9))
      clear ho8 hg8 hat8 hF9 i2 t0 d1 hneT hneI hneX hxw hTl hIl hG0 hG1 hG2
      by_cases hbg : 256 ≤ nn
      · have HE := Lib.hid (show doE (openM ⟨nodes, files, some ⟨xb, xo, none⟩, nn, nc, FA, fn, fc⟩ ds) ⟨4, p, q, mode, ref, hp, hq⟩ sd = 31 by rw [Hdo.out, if_pos ⟨rfl, by show 256 ≤ nodes.length; rw [Hnl.out]; exact hbg⟩])
        have HBB := Lib.hid (big_nodes (nodes := nodes ++ [⟨q, x.file, 0, hq⟩]) (files := files) (NA := some ⟨g8, 0, none⟩) (FA := A2) (nn := nn + 1) (nc := c8) (fn := fn) (fc := c2) (by omega))
        have HM := Lib.hid (rmade_any _ _ _ HTD.out)
        go_wp2_with (first | (go_at_call 47; refine HM.out.mono ?_; rintro e w8 hres; obtain ⟨hb8, rfl⟩ := made_big HBB.out hres; unfold TV.val; replace hR9 := hR9.below hb8 hR9.lt; replace hb9 := hb9.trans (hb8.mono hb9.size)) | (refine wpList_store_blk rfl 25 (.tmp 6) (.tmp 227) rfl hR9 #[.slice none 0 0, .slice none 0 0] rfl rfl (by kernel_rfl) rfl (by simp [Value.oneCell']) ?_; intro w9 hB9 hg9 hs9))
        exact ret_cell_t rfl rfl (load_blk hB9 Tryz.underlying25 rfl (by kernel_rfl)) rfl ⟨zeroTV, by rw [HE.out]; rfl, fun _ => rfl, fun h => by rw [HE.out] at h; exact absurd h (by decide), hb9.trans (below_grown hg9 hb9.size (fun g e => by injection e with e; omega))⟩
      · have hE := show doE (openM ⟨nodes, files, some ⟨xb, xo, none⟩, nn, nc, FA, fn, fc⟩ ds) ⟨4, p, q, mode, ref, hp, hq⟩ sd = 0 by rw [Hdo.out, if_neg (fun h => hbg (by rw [← Hnl.out]; exact h.2))]
        have hdm : doM (openM ⟨nodes, files, some ⟨xb, xo, none⟩, nn, nc, FA, fn, fc⟩ ds) ⟨4, p, q, mode, ref, hp, hq⟩ sd = (openM ⟨nodes, files, some ⟨xb, xo, none⟩, nn, nc, FA, fn, fc⟩ ds).put ⟨q, x.file, 0, hq⟩ := by
          unfold doM; rw [if_pos ⟨hE, by simp⟩]; unfold opM
          rw [if_neg (by simp), if_neg (by simp), if_neg (by simp), if_pos (by simp)]
          show (openM ⟨nodes, files, some ⟨xb, xo, none⟩, nn, nc, FA, fn, fc⟩ ds).put ⟨q, lookF nodes p, 0, hq⟩ = _
          rw [HlF.out]
        have hw := Hwo.out
        rw [hdm] at hw
        have HE := Lib.hid hE; have HDM := Lib.hid hdm
        have HINV := Lib.hid hw.1; have HLEN := Lib.hid hw.2.1
        have HAG := Lib.hid (agree_same (t' := ⟨nodes ++ [⟨q, x.file, 0, hq⟩], files, some ⟨g8, 0, none⟩, nn + 1, c8, A2, fn, c2⟩) (ds := ds) hw.1 (List.Perm.refl _) rfl rfl rfl rfl)
        have HSM := Lib.hid (small_tree (t := ⟨nodes ++ [⟨q, x.file, 0, hq⟩], files, some ⟨g8, 0, none⟩, nn + 1, c8, A2, fn, c2⟩) (by show nn + 1 ≤ 256; omega) hf1 HG.out.small)
        clear hE hdm hw
        have HM := Lib.hid (rmade_any _ _ _ HTD.out)
        go_wp2_with (first | (go_at_call 47; refine HM.out.mono ?_; rintro e w8 hres; obtain ⟨hb8, ⟨un, uf, uNA, unn, unc, uFA, ufn, ufc⟩, S, rfl, hTo⟩ := made_told HAG.out HINV.out HLEN.out HSM.out hres; unfold TV.val; have HTo := Lib.hid (hTo.base hb9.size); clear hTo hres; replace hR9 := hR9.below hb8 hR9.lt; replace hb9 := hb9.trans (hb8.mono hb9.size)) | (refine wpList_store_blk rfl 25 (.tmp 6) (.tmp 227) rfl hR9 #[.slice uNA unn unc, .slice uFA ufn ufc] rfl rfl (by kernel_rfl) rfl (by simp [Value.oneCell']) ?_; intro w9 hB9 hg9 hs9))
        exact ret_cell_t rfl rfl (load_blk hB9 Tryz.underlying25 rfl (by kernel_rfl)) rfl ⟨⟨un, uf, uNA, unn, unc, uFA, ufn, ufc⟩, by rw [HE.out]; rfl, fun h => absurd HE.out h, fun _ => ⟨S, by rw [HDM.out]; exact HTo.out.store hR9 hg9⟩, hb9.trans (below_grown hg9 hb9.size (fun g e => by injection e with e; omega))⟩
    · have hE : doE (openM ⟨nodes, files, NA, nn, nc, FA, fn, fc⟩ ds) ⟨4, p, q, mode, ref, hp, hq⟩ sd = absE nodes q := by
        rw [hdo]
        split
        · (unfold fullE; rw [if_pos (by simp)]; show (if filE nodes p = 0 then (if absE nodes q = 0 then (31 : Int) else absE nodes q) else filE nodes p) = _; rw [if_pos h0, if_neg h1])
        · unfold opE
          rw [if_neg (by simp), if_neg (by simp), if_neg (by simp), if_neg (by simp)]
          show bothE nodes p q = _
          unfold bothE; rw [if_pos h0]
      rw [h0, if_pos rfl] at hfil
      obtain ⟨kf, hkf⟩ : ∃ k, findI nodes p = k := ⟨_, rfl⟩
      rw [hkf] at hfil
      obtain ⟨E, hEE⟩ : ∃ E, absE nodes q = E := ⟨_, rfl⟩
      rw [hEE] at hE hvac h1
      have HE := Lib.hid hE; have HNE := Lib.hid h1; have HV := Lib.hid hvac; have HFL := Lib.hid hfil
      have hne := ne_b h1
      have n1 := hne.1; have n2 := hne.2
      clear hne hE hEE hvac h0 h1 hdo hkf hfil
      have hR := HP.out.R; have hb := HP.out.b
      go_wp2_with (first | (go_at_call 42; refine (hasTo7 _ _).mono ?_; rintro e w6 ⟨rfl, hw⟩; rw [hw]; clear hw; rw [show toB 4 = true from rfl]) | (go_at_call 43; refine (HFL.out _ (HD.out.tree.keep hb)).mono ?_; rintro e w6 ⟨rfl, hb6⟩; have HP6 := Lib.hid (HP.out.below hb6); have s0 := HP6.out.T.cell 0; have s1 := HP6.out.T.cell 1; have s2 := HP6.out.I.cell 2; replace hR := HP6.out.R; replace hb := HP6.out.b) | (go_at_call 44; refine (HV.out _ (HD.out.tree.keep hb)).mono ?_; rintro e w7 ⟨rfl, hb7⟩; replace hR := hR.below hb7 hR.lt; replace hb := hb.trans (hb7.mono hb.size)) | (refine wpList_store_blk rfl 25 (.tmp 6) (.tmp 81) rfl hR #[.slice none 0 0, .slice none 0 0] rfl rfl (by kernel_rfl) rfl (by simp [Value.oneCell']) ?_; intro w7 hB7 hg7 hs7))
      exact ret_cell_t rfl rfl (load_blk hB7 Tryz.underlying25 rfl (by kernel_rfl)) rfl ⟨zeroTV, by rw [HE.out]; rfl, fun _ => rfl, fun h => absurd (HE.out.symm.trans h) HNE.out, hb.trans (below_grown hg7 hb.size (fun g e => by injection e with e; omega))⟩
  · have hE : doE (openM ⟨nodes, files, NA, nn, nc, FA, fn, fc⟩ ds) ⟨4, p, q, mode, ref, hp, hq⟩ sd = filE nodes p := by
      rw [hdo]
      split
      · (unfold fullE; rw [if_pos (by simp)]; show (if filE nodes p = 0 then (if absE nodes q = 0 then (31 : Int) else absE nodes q) else filE nodes p) = _; rw [if_neg h0])
      · unfold opE
        rw [if_neg (by simp), if_neg (by simp), if_neg (by simp), if_neg (by simp)]
        show bothE nodes p q = _
        unfold bothE; rw [if_neg h0]
    rw [if_neg h0] at hfil
    obtain ⟨E, hEE⟩ : ∃ E, filE nodes p = E := ⟨_, rfl⟩
    rw [hEE] at hE hfil h0
    have HE := Lib.hid hE; have HNE := Lib.hid h0; have HFL := Lib.hid hfil
    have hne := ne_b h0
    have n1 := hne.1; have n2 := hne.2
    clear hne hE hEE hvac h0 hdo hfil
    have hR := HP.out.R; have hb := HP.out.b
    go_wp2_with (first | (go_at_call 42; refine (hasTo7 _ _).mono ?_; rintro e w6 ⟨rfl, hw⟩; rw [hw]; clear hw; rw [show toB 4 = true from rfl]) | (go_at_call 43; refine (HFL.out _ (HD.out.tree.keep hb)).mono ?_; rintro e w6 ⟨rfl, hb6⟩; replace hR := hR.below hb6 hR.lt; replace hb := hb.trans (hb6.mono hb.size)) | (refine wpList_store_blk rfl 25 (.tmp 6) (.tmp 81) rfl hR #[.slice none 0 0, .slice none 0 0] rfl rfl (by kernel_rfl) rfl (by simp [Value.oneCell']) ?_; intro w7 hB7 hg7 hs7))
    exact ret_cell_t rfl rfl (load_blk hB7 Tryz.underlying25 rfl (by kernel_rfl)) rfl ⟨zeroTV, by rw [HE.out]; rfl, fun _ => rfl, fun h => absurd (HE.out.symm.trans h) HNE.out, hb.trans (below_grown hg7 hb.size (fun g e => by injection e with e; omega))⟩
end Go.Proofs.YthmeffpickejkaaGreat
