/- ModelGrows. -/
import Derived.Test.YthmeffpickejkaaGrowP
import Derived.Test.YthmeffpickejkaaOrdT
import Derived.ChangeMaps5
import Derived.Deep.DeepCutAuto
namespace Go.Proofs.Ythmeffpickejkaa.modelGrowsDone
open Go.ChangeShapes Go.WideShapes Go.ChangeAt Go.ChangeMaps Go.RowKit Go.Deep

def TollCut (b i : Int) (w : World) (p : Value) (wx : World) : Prop := ∃ g, p = .pointer (some ⟨g, 0, none⟩) ∧ Blk wx g 57 #[.int .i64 b, .int .i64 i] ∧ w.heap.size ≤ g ∧ Below w.heap.size w wx
theorem wgt_le {t : TV} {ds : List ByteArray} {w : World} (hT : TreeD w t ds) (hG : Good t) : wgtB t ≤ 30000000 ∧ wgtI t ≤ 1000 := by
  have hnl : t.nodes.length = t.nn := hT.tree.nl
  have hfl : t.files.length = t.fn := hT.tree.fl
  have h1 := dirsB_le t.nodes (by rw [hnl]; have := hG.nn; omega) t.nodes
  have h2 := filesB_le t.files fun x hx => by have := hG.small x hx; omega
  have h3 : dW (kidN t.nodes ByteArray.empty) ≤ 1000 := dW_le (Nat.le_trans (kidN_le _ _) (by rw [hnl]; have := hG.nn; omega)) (by omega)
  have a := hG.nn; have b := hG.fn
  have m1 : t.nodes.length * 1000 ≤ 256 * 1000 := Nat.mul_le_mul_right _ (by omega)
  have m2 : t.files.length * 100001 ≤ 256 * 100001 := Nat.mul_le_mul_right _ (by omega)
  unfold wgtB wgtI
  omega
set_option maxRecDepth 100000 in
set_option maxHeartbeats 16000000 in
theorem walk (t : TV) (ds : List ByteArray) (c : Cmd) (SA : Option Addr) (sn sc : Nat) (ss : List SC) (sd : List ByteArray) (w : World) (hT : TreeD w t ds) (hC : OpOk c) (hS : StockAt w SA sn ss sd) :
    Calls Try.prog 6 #[t.val, .agg c.cells, .slice SA sn sc] w fun e w' => e = .returned (.bool true) ∧ Below w.heap.size w w' := by
  have HT := Lib.hid hT; have HS := Lib.hid hS; have HC := Lib.hid hC
  clear hT hS hC
  obtain ⟨nodes, files, NA, nn, nc, FA, fn, fc⟩ := t
  unfold TV.val Cmd.cells
  have hB := (Blk.new w 25 #[.slice NA nn nc, .slice FA fn fc]).alloc (.cells #[.int .i64 c.op, .string c.path, .string c.dst, .int .i64 c.mode, .int .i64 c.ref] 27)
  have hI := Blk.new (w.alloc (.cells #[.slice NA nn nc, .slice FA fn fc] 25)) 27 #[.int .i64 c.op, .string c.path, .string c.dst, .int .i64 c.mode, .int .i64 c.ref]
  have hb := ((Below.refl w.heap.size w).alloc (Nat.le_refl _) (.cells #[.slice NA nn nc, .slice FA fn fc] 25)).alloc (by simp) (.cells #[.int .i64 c.op, .string c.path, .string c.dst, .int .i64 c.mode, .int .i64 c.ref] 27)
  simp only [World.size_alloc] at hI
  go_enter Try.func6, Try.ntmps6
  go_upto_region 2 with (go_at_call 13; refine (alive7 _).mono ?_; rintro e w1 ⟨rfl, hb1⟩; replace hB := hB.below hb1 hB.lt; replace hI := hI.below hb1 hI.lt; replace hb := hb.trans (hb1.mono hb.size); have b0 := hB.cell 0; have b1 := hB.cell 1)
  go_upto_region 4 with (go_at_call 27; refine (heavy7 ⟨nodes, files, NA, nn, nc, FA, fn, fc⟩ none 0 0 SA sn sc ss sd _ (HT.out.tree.keep hb) (HS.out.keep hb)).mono ?_; rintro e w2 ⟨x, rfl, _, hb2⟩; replace hB := hB.below hb2 hB.lt; replace hI := hI.below hb2 hI.lt; replace hb := hb.trans (hb2.mono hb.size); cases x)
  rotate_left
  · go_ret
    exact ⟨rfl, hb⟩
  obtain ⟨W0, hW0⟩ : ∃ W, W = w2 := ⟨_, rfl⟩
  rw [← hW0] at hB hI hb ⊢
  clear hW0 b0 b1 hb1 hb2
  obtain ⟨gI, hgI⟩ : ∃ g, w.heap.size + 1 = g := ⟨_, rfl⟩
  rw [hgI] at hI ⊢
  clear hgI
  obtain ⟨E, hE⟩ : ∃ E, DoE ⟨nodes, files, NA, nn, nc, FA, fn, fc⟩ ds c sd = E := ⟨_, rfl⟩
  have HE := Lib.hid hE
  have c1 := Do_told ⟨nodes, files, NA, nn, nc, FA, fn, fc⟩ ds c HC.out SA sn sc ss sd W0 (HT.out.keep hb) (HS.out.keep hb)
  rw [hE] at c1
  have C1 : Hid (Calls Try.prog 18 #[.agg #[.slice NA nn nc, .slice FA fn fc], .agg #[.int .i64 c.op, .string c.path, .string c.dst, .int .i64 c.mode, .int .i64 c.ref], .slice SA sn sc] W0 fun e w' => ∃ u S, e = .returned (.tuple #[u.val, .int .i64 E]) ∧ ToldAs (doW ⟨nodes, files, NA, nn, nc, FA, fn, fc⟩ ds c sd) W0.heap.size w' S u ∧ Below W0.heap.size W0 w') := Lib.hid c1
  clear c1 hE
  have b0 := hB.cell 0; have b1 := hB.cell 1; have i0 := hI.cell 0; have i1 := hI.cell 1; have i2 := hI.cell 2; have i3 := hI.cell 3; have i4 := hI.cell 4
  go_upto_region 5 with (go_at_call 18; refine C1.out.mono ?_; rintro e w5 ⟨u, S, rfl, hT5, hb5⟩; replace hB := hB.below hb5 hB.lt; replace hI := hI.below hb5 hI.lt; replace hb := hb.trans (hb5.mono hb.size); unfold TV.val)
  clear C1 b0 b1 i0 i1 i2 i3 i4
  have hU := Blk.new w5 25 #[.slice u.NA u.nn u.nc, .slice u.FA u.fn u.fc]
  replace hB := hB.alloc (.cells #[.slice u.NA u.nn u.nc, .slice u.FA u.fn u.fc] 25)
  replace hI := hI.alloc (.cells #[.slice u.NA u.nn u.nc, .slice u.FA u.fn u.fc] 25)
  replace hb := hb.alloc hb.size (.cells #[.slice u.NA u.nn u.nc, .slice u.FA u.fn u.fc] 25)
  have hTu := hT5.tree.keep ((Below.refl w5.heap.size w5).alloc (Nat.le_refl _) (.cells #[.slice u.NA u.nn u.nc, .slice u.FA u.fn u.fc] 25))
  have HTell := Lib.hid hT5.tells
  obtain ⟨es, hes⟩ : ∃ es, dsOf (doW ⟨nodes, files, NA, nn, nc, FA, fn, fc⟩ ds c sd) S = es := ⟨_, rfl⟩
  rw [hes] at HTell hTu
  obtain ⟨gU, hgU⟩ : ∃ g, w5.heap.size = g := ⟨_, rfl⟩
  obtain ⟨Wu, hWu⟩ : ∃ W, w5.alloc (.cells #[.slice u.NA u.nn u.nc, .slice u.FA u.fn u.fc] 25) = W := ⟨_, rfl⟩
  rw [hWu] at hU hB hI hb hTu ⊢
  rw [hgU] at hU ⊢
  have HTu := Lib.hid hTu
  have HTt := Lib.hid (HT.out.keep hb)
  clear hes hgU hWu hT5 hb5 hTu
  by_cases h0 : E = 0
  rotate_left
  · have h0b := bne_iff_ne.2 h0
    have H0 := Lib.hid h0; clear h0
    go_wp2_with (go_at_call 20; refine (num7 _ _).mono ?_; rintro e w7 ⟨rfl, hw⟩; rw [hw]; clear hw)
    go_ret
    exact ⟨rfl, hb⟩
  subst h0
  have hlaw := grow_law HT.out HE.out HTell.out
  have hlo := (doE_loose HE.out).1
  have hGt := good_of_loose hlo
  have hGu : Good u := by
    have hM := (doW_ok HT.out c sd)
    obtain ⟨_, _, _, hS, _⟩ := HTell.out
    exact (told_loose hM.inv hM.len hS).good
  have hwt := wgt_le HTt.out hGt
  have hwu := wgt_le HTu.out hGu
  have hct := fun W (h : TreeAt W ⟨nodes, files, NA, nn, nc, FA, fn, fc⟩) => rweight_any ⟨nodes, files, NA, nn, nc, FA, fn, fc⟩ W h (Nat.le_trans hGt.nn (by decide)) (Nat.le_trans hGt.fn (by decide)) (fun x hx => Nat.le_trans (hGt.small x hx) (by decide))
  have hcu := fun W (h : TreeAt W u) => rweight_any u W h (Nat.le_trans hGu.nn (by decide)) (Nat.le_trans hGu.fn (by decide)) (fun x hx => Nat.le_trans (hGu.small x hx) (by decide))
  have hsm : ∀ x ∈ files, x.n ≤ 8192 := hGt.small
  have hn256 : nn ≤ 256 := hGt.nn
  have hlist : (picks (namesF 0) nodes).length ≤ 256 := by
    have := picks_len (namesF 0) nodes
    have h2 : nodes.length = nn := HTt.out.tree.nl
    omega
  obtain ⟨Bt, hBt⟩ : ∃ b, wgtB ⟨nodes, files, NA, nn, nc, FA, fn, fc⟩ = b := ⟨_, rfl⟩
  obtain ⟨It, hIt⟩ : ∃ b, wgtI ⟨nodes, files, NA, nn, nc, FA, fn, fc⟩ = b := ⟨_, rfl⟩
  obtain ⟨Bu, hBu⟩ : ∃ b, wgtB u = b := ⟨_, rfl⟩
  obtain ⟨Iu, hIu⟩ : ∃ b, wgtI u = b := ⟨_, rfl⟩
  rw [hBt, hIt] at hwt
  rw [hBu, hIu] at hwu
  rw [hBt, hIt, hBu, hIu] at hlaw
  simp only [hBt, hIt] at hct
  simp only [hBu, hIu] at hcu
  have HCT := Lib.hid hct; have HCU := Lib.hid hcu; have HLAW := Lib.hid hlaw; have HSMALL := Lib.hid hsm
  clear hlaw hlo hGt hGu hct hcu hsm hlist hBt hIt hBu hIu
  obtain ⟨hwt1, hwt2⟩ := hwt
  obtain ⟨hwu1, hwu2⟩ := hwu
  have b0 := hB.cell 0; have b1 := hB.cell 1; have u0 := hU.cell 0; have u1 := hU.cell 1
  have hBl := hB.lt; have hIl := hI.lt; have hUl := hU.lt
  have hbs := hb.size
  go_upto_region 7 with (go_at_call 20; refine (num7 _ _).mono ?_; rintro e w7 ⟨rfl, hw⟩; rw [hw]; clear hw)
  go_cut [10] from 36 to 40 (fun p wx => TollCut ((Bu : Int) - (Bt : Int)) ((Iu : Int) - (It : Int)) Wu p wx)
  case first =>
    refine wp_region_T none (.q 0 (.q 2 (.e2 1 5 (.e2 3 5 (.e2 4 5 (.e1 5 (.e1 6 .done)) (.e1 4 (.e1 6 .done))) (.e1 3 (.e1 4 (.e1 6 .done)))) (.e1 1 (.e1 3 (.e1 4 (.e1 6 .done))))))) (by kernel_rfl) (by kernel_rfl) fun hG0 => ?_
    repeat (first
      | (refine tree_skip rfl (by rfl) ?_; simp only [Act.put, List.setIfInBounds_toArray, List.set_cons_zero, List.set_cons_succ])
      | (refine tree_qE rfl (by rfl) ?_; apply Exists.intro; refine ⟨fun w' hc' => ?_, ?_⟩; (focus (go_simp; (try go_bits); (try simp only [↓IntWalk.iteOmega]); with_reducible rfl)); simp only [Act.put, List.setIfInBounds_toArray, List.set_cons_zero, List.set_cons_succ]))
    refine tree_e2 (tree_step rfl fun K hK => ?_) (tree_step rfl fun K hK => ?_)
    · have hBc := below_grown hG0 (Nat.le_refl _) (fun g e => by cases e)
      go_wp2_with (go_at_call 29; refine (HCU.out _ (HTu.out.tree.keep hBc)).mono ?_; rintro e w1 ⟨rfl, hb1⟩)
      have hG1 := grown_trans hG0 (grown_below hb1 (Nat.le_refl _))
      refine hK.out _ _ hG1 ?_
      clear hK K hBc
      refine tree_e2 (tree_step rfl fun K hK => ?_) (tree_step rfl fun K hK => ?_)
      · have hBc := below_grown hG1 (Nat.le_refl _) (fun g e => by cases e)
        go_wp2_with (go_at_call 29; refine (HCT.out _ (HTt.out.tree.keep hBc)).mono ?_; rintro e w3 ⟨rfl, hb3⟩)
        have hG2 := grown_trans hG1 (grown_below hb3 (Nat.le_refl _))
        refine hK.out _ _ hG2 ?_
        clear hK K hBc
        refine tree_e2 (tree_step rfl fun K hK => ?_) (tree_step rfl fun K hK => ?_)
        · have hBc := below_grown hG2 (Nat.le_refl _) (fun g e => by cases e)
          go_wp2_with (go_at_call 28; refine (rminus_any (Bu : Int) (Iu : Int) (Bt : Int) (It : Int) (by omega) _).mono ?_; rintro e w4 ⟨rfl, hb4⟩; unfold tollV)
          have hG3 := grown_trans hG2 (grown_below hb4 (Nat.le_refl _))
          refine hK.out _ _ hG3 ?_
          clear hK K hBc
          refine tree_e1 (tree_step rfl fun K hK => ?_)
          have hZ : Blk (World.alloc (w4) (.cells #[.int .i64 0, .int .i64 0] 57)) (w4.heap.size) 57 #[.int .i64 0, .int .i64 0] := Blk.new (w4) 57 #[.int .i64 0, .int .i64 0]
          have hzs : Wu.heap.size ≤ w4.heap.size := by first | exact Nat.le_refl _ | exact hG3.size
          go_wp2_with (fail)
          have hG4 := grown_trans hG3 (World.grownBy_alloc (w4) (.cells #[.int .i64 0, .int .i64 0] 57) none)
          refine hK.out _ _ hG4 ?_
          clear hK K
          refine tree_e1 (tree_step rfl fun K hK => ?_)
          go_wp2_with (fail)
          have hG5 := grown_trans hG3 (World.grownBy_alloc (w4) (.cells #[.int .i64 ((Bu : Int) - (Bt : Int)), .int .i64 ((Iu : Int) - (It : Int))] 57) none)
          have hB9 := Blk.new (w4) 57 #[.int .i64 ((Bu : Int) - (Bt : Int)), .int .i64 ((Iu : Int) - (It : Int))]
          refine hK.out _ _ hG5 ?_
          clear hK K
          refine tree_end ?_
          have hGL := hG5
          go_wp2_with (fail)
          go_meet
          exact ⟨_, rfl, hB9, by first | exact hzs | omega, below_grown hGL (Nat.le_refl _) (fun g e => by cases e)⟩
        · have hZ : Blk (World.alloc (w3) (.cells #[.int .i64 0, .int .i64 0] 57)) (w3.heap.size) 57 #[.int .i64 0, .int .i64 0] := Blk.new (w3) 57 #[.int .i64 0, .int .i64 0]
          have hzs : Wu.heap.size ≤ w3.heap.size := by first | exact Nat.le_refl _ | exact hG2.size
          go_wp2_with (fail)
          have hG3 := grown_trans hG2 (World.grownBy_alloc (w3) (.cells #[.int .i64 0, .int .i64 0] 57) none)
          refine hK.out _ _ hG3 ?_
          clear hK K
          refine tree_e1 (tree_step rfl fun K hK => ?_)
          have hBc := below_grown hG3 (Nat.le_refl _) (fun g e => by cases e)
          go_wp2_with (go_at_call 28; refine (rminus_any (Bu : Int) (Iu : Int) (Bt : Int) (It : Int) (by omega) _).mono ?_; rintro e w4 ⟨rfl, hb4⟩; unfold tollV)
          have hG4 := grown_trans hG3 (grown_below hb4 (Nat.le_refl _))
          refine hK.out _ _ hG4 ?_
          clear hK K hBc
          replace hZ := hZ.below hb4 hZ.lt
          refine tree_e1 (tree_step rfl fun K hK => ?_)
          go_wp2_with (refine wpList_store_blk rfl 57 (.tmp 10) (.tmp 40) rfl hZ #[.int .i64 ((Bu : Int) - (Bt : Int)), .int .i64 ((Iu : Int) - (It : Int))] rfl rfl (tollT) rfl (by simp [Value.oneCell']) ?_; intro w9 hB9 hg9 hs9)
          have hG5 : Wu.grownBy w9 none := grown_below ((below_grown hG4 (Nat.le_refl _) (fun g e => by cases e)).trans (below_grown hg9 hG4.size (fun g e => by injection e with e; omega))) (Nat.le_refl _)
          refine hK.out _ _ hG5 ?_
          clear hK K
          refine tree_end ?_
          have hGL := hG5
          go_wp2_with (fail)
          go_meet
          exact ⟨_, rfl, hB9, by first | exact hzs | omega, below_grown hGL (Nat.le_refl _) (fun g e => by cases e)⟩
      · have hZ : Blk (World.alloc (w1) (.cells #[.int .i64 0, .int .i64 0] 57)) (w1.heap.size) 57 #[.int .i64 0, .int .i64 0] := Blk.new (w1) 57 #[.int .i64 0, .int .i64 0]
        have hzs : Wu.heap.size ≤ w1.heap.size := by first | exact Nat.le_refl _ | exact hG1.size
        go_wp2_with (fail)
        have hG2 := grown_trans hG1 (World.grownBy_alloc (w1) (.cells #[.int .i64 0, .int .i64 0] 57) none)
        refine hK.out _ _ hG2 ?_
        clear hK K
        refine tree_e1 (tree_step rfl fun K hK => ?_)
        have hBc := below_grown hG2 (Nat.le_refl _) (fun g e => by cases e)
        go_wp2_with (go_at_call 29; refine (HCT.out _ (HTt.out.tree.keep hBc)).mono ?_; rintro e w3 ⟨rfl, hb3⟩)
        have hG3 := grown_trans hG2 (grown_below hb3 (Nat.le_refl _))
        refine hK.out _ _ hG3 ?_
        clear hK K hBc
        replace hZ := hZ.below hb3 hZ.lt
        refine tree_e1 (tree_step rfl fun K hK => ?_)
        have hBc := below_grown hG3 (Nat.le_refl _) (fun g e => by cases e)
        go_wp2_with (go_at_call 28; refine (rminus_any (Bu : Int) (Iu : Int) (Bt : Int) (It : Int) (by omega) _).mono ?_; rintro e w4 ⟨rfl, hb4⟩; unfold tollV)
        have hG4 := grown_trans hG3 (grown_below hb4 (Nat.le_refl _))
        refine hK.out _ _ hG4 ?_
        clear hK K hBc
        replace hZ := hZ.below hb4 hZ.lt
        refine tree_e1 (tree_step rfl fun K hK => ?_)
        go_wp2_with (refine wpList_store_blk rfl 57 (.tmp 10) (.tmp 40) rfl hZ #[.int .i64 ((Bu : Int) - (Bt : Int)), .int .i64 ((Iu : Int) - (It : Int))] rfl rfl (tollT) rfl (by simp [Value.oneCell']) ?_; intro w9 hB9 hg9 hs9)
        have hG5 : Wu.grownBy w9 none := grown_below ((below_grown hG4 (Nat.le_refl _) (fun g e => by cases e)).trans (below_grown hg9 hG4.size (fun g e => by injection e with e; omega))) (Nat.le_refl _)
        refine hK.out _ _ hG5 ?_
        clear hK K
        refine tree_end ?_
        have hGL := hG5
        go_wp2_with (fail)
        go_meet
        exact ⟨_, rfl, hB9, by first | exact hzs | omega, below_grown hGL (Nat.le_refl _) (fun g e => by cases e)⟩
    · have hZ : Blk (World.alloc (Wu.drew) (.cells #[.int .i64 0, .int .i64 0] 57)) (Wu.heap.size) 57 #[.int .i64 0, .int .i64 0] := Blk.new (Wu.drew) 57 #[.int .i64 0, .int .i64 0]
      have hzs : Wu.heap.size ≤ Wu.heap.size := by first | exact Nat.le_refl _ | exact hG0.size
      go_wp2_with (fail)
      have hG1 := grown_trans hG0 (World.grownBy_alloc (Wu.drew) (.cells #[.int .i64 0, .int .i64 0] 57) none)
      refine hK.out _ _ hG1 ?_
      clear hK K
      refine tree_e1 (tree_step rfl fun K hK => ?_)
      have hBc := below_grown hG1 (Nat.le_refl _) (fun g e => by cases e)
      go_wp2_with (go_at_call 29; refine (HCU.out _ (HTu.out.tree.keep hBc)).mono ?_; rintro e w1 ⟨rfl, hb1⟩)
      have hG2 := grown_trans hG1 (grown_below hb1 (Nat.le_refl _))
      refine hK.out _ _ hG2 ?_
      clear hK K hBc
      replace hZ := hZ.below hb1 hZ.lt
      refine tree_e1 (tree_step rfl fun K hK => ?_)
      have hBc := below_grown hG2 (Nat.le_refl _) (fun g e => by cases e)
      go_wp2_with (go_at_call 29; refine (HCT.out _ (HTt.out.tree.keep hBc)).mono ?_; rintro e w3 ⟨rfl, hb3⟩)
      have hG3 := grown_trans hG2 (grown_below hb3 (Nat.le_refl _))
      refine hK.out _ _ hG3 ?_
      clear hK K hBc
      replace hZ := hZ.below hb3 hZ.lt
      refine tree_e1 (tree_step rfl fun K hK => ?_)
      have hBc := below_grown hG3 (Nat.le_refl _) (fun g e => by cases e)
      go_wp2_with (go_at_call 28; refine (rminus_any (Bu : Int) (Iu : Int) (Bt : Int) (It : Int) (by omega) _).mono ?_; rintro e w4 ⟨rfl, hb4⟩; unfold tollV)
      have hG4 := grown_trans hG3 (grown_below hb4 (Nat.le_refl _))
      refine hK.out _ _ hG4 ?_
      clear hK K hBc
      replace hZ := hZ.below hb4 hZ.lt
      refine tree_e1 (tree_step rfl fun K hK => ?_)
      go_wp2_with (refine wpList_store_blk rfl 57 (.tmp 10) (.tmp 40) rfl hZ #[.int .i64 ((Bu : Int) - (Bt : Int)), .int .i64 ((Iu : Int) - (It : Int))] rfl rfl (tollT) rfl (by simp [Value.oneCell']) ?_; intro w9 hB9 hg9 hs9)
      have hG5 : Wu.grownBy w9 none := grown_below ((below_grown hG4 (Nat.le_refl _) (fun g e => by cases e)).trans (below_grown hg9 hG4.size (fun g e => by injection e with e; omega))) (Nat.le_refl _)
      refine hK.out _ _ hG5 ?_
      clear hK K
      refine tree_end ?_
      have hGL := hG5
      go_wp2_with (fail)
      go_meet
      exact ⟨_, rfl, hB9, by first | exact hzs | omega, below_grown hGL (Nat.le_refl _) (fun g e => by cases e)⟩
  case rest =>
    obtain ⟨g10, rfl, hD, hgd, hb7⟩ := hcut
    obtain ⟨W7, hW7⟩ : ∃ W, W = wc := ⟨_, rfl⟩
    rw [← hW7] at hD hb7 ⊢
    replace hB := hB.below hb7 hBl
    replace hI := hI.below hb7 hIl
    replace hb := hb.trans (hb7.mono hbs)
    have HT7 := Lib.hid (HTt.out.keep hb7)
    have HS7 := Lib.hid (HS.out.keep hb)
    clear hW7 b0 b1 u0 u1 hBl hIl hUl hbs hb7 HTt HTu HCT HCU hU
    obtain ⟨hrange, g89, g3, g4, g1, g2, g6, g7, g5⟩ := HLAW.out
    obtain ⟨op, hop⟩ : ∃ op, c.op = op := ⟨_, rfl⟩
    rw [hop] at hI hrange g89 g3 g4 g1 g2 g6 g7 g5
    have HOP := Lib.hid hop
    clear hop HLAW
    have HG89 := Lib.hid g89; have HG3 := Lib.hid g3; have HG4 := Lib.hid g4; have HG1 := Lib.hid g1; have HG2 := Lib.hid g2; have HG6 := Lib.hid g6; have HG7 := Lib.hid g7; have HG5 := Lib.hid g5
    clear g89 g3 g4 g1 g2 g6 g7 g5
    have h9 : op = 1 ∨ op = 2 ∨ op = 3 ∨ op = 4 ∨ op = 5 ∨ op = 6 ∨ op = 7 ∨ op = 8 ∨ op = 9 := by omega
    clear hrange
    rcases h9 with rfl | rfl | rfl | rfl | rfl | rfl | rfl | rfl | rfl
    · obtain ⟨e1, e2⟩ := HG1.out rfl
      have q2 : (Iu : Int) - (It : Int) = 1 := by omega
      have q1 : (Bu : Int) - (Bt : Int) = 1 ∨ (Bu : Int) - (Bt : Int) = 2 := by omega
      rw [q2] at hD
      clear e1 e2 q2
      have i0 := hI.cell 0
      rcases q1 with q1 | q1
      · rw [q1] at hD
        clear q1
        have d0 := hD.cell 0; have d1 := hD.cell 1
        go_wp2
        go_ret
        exact ⟨rfl, hb⟩
      · rw [q1] at hD
        clear q1
        have d0 := hD.cell 0; have d1 := hD.cell 1
        go_wp2
        go_ret
        exact ⟨rfl, hb⟩
    · obtain ⟨e1, e2⟩ := HG2.out rfl
      have q2 : (Iu : Int) - (It : Int) = -1 := by omega
      have q1 : (Bu : Int) - (Bt : Int) = -1 ∨ (Bu : Int) - (Bt : Int) = -2 := by omega
      rw [q2] at hD
      clear e1 e2 q2
      have i0 := hI.cell 0
      rcases q1 with q1 | q1
      · rw [q1] at hD
        clear q1
        have d0 := hD.cell 0; have d1 := hD.cell 1
        go_wp2
        go_ret
        exact ⟨rfl, hb⟩
      · rw [q1] at hD
        clear q1
        have d0 := hD.cell 0; have d1 := hD.cell 1
        go_wp2
        go_ret
        exact ⟨rfl, hb⟩
    · obtain ⟨e1, e2⟩ := HG3.out rfl
      have q2 : (Iu : Int) - (It : Int) = 0 := by omega
      have q1 : (Bu : Int) - (Bt : Int) = -1 ∨ (Bu : Int) - (Bt : Int) = 0 ∨ (Bu : Int) - (Bt : Int) = 1 := by omega
      rw [q2] at hD
      clear e1 e2 q2
      have i0 := hI.cell 0
      rcases q1 with q1 | q1 | q1
      · rw [q1] at hD
        clear q1
        have d0 := hD.cell 0; have d1 := hD.cell 1
        go_wp2
        go_ret
        exact ⟨rfl, hb⟩
      · rw [q1] at hD
        clear q1
        have d0 := hD.cell 0; have d1 := hD.cell 1
        go_wp2
        go_ret
        exact ⟨rfl, hb⟩
      · rw [q1] at hD
        clear q1
        have d0 := hD.cell 0; have d1 := hD.cell 1
        go_wp2
        go_ret
        exact ⟨rfl, hb⟩
    · obtain ⟨e1, e2⟩ := HG4.out rfl
      have q2 : (Iu : Int) - (It : Int) = 0 := by omega
      have q1 : (Bu : Int) - (Bt : Int) = 0 ∨ (Bu : Int) - (Bt : Int) = 1 := by omega
      rw [q2] at hD
      clear e1 e2 q2
      have i0 := hI.cell 0
      rcases q1 with q1 | q1
      · rw [q1] at hD
        clear q1
        have d0 := hD.cell 0; have d1 := hD.cell 1
        go_wp2
        go_ret
        exact ⟨rfl, hb⟩
      · rw [q1] at hD
        clear q1
        have d0 := hD.cell 0; have d1 := hD.cell 1
        go_wp2
        go_ret
        exact ⟨rfl, hb⟩
    · obtain ⟨k, x, fx, f, hFA, hrest⟩ := HG5.out rfl
      have HR := Lib.hid hrest; have HFA := Lib.hid hFA
      have hkf := hFA.find
      have HKF := Lib.hid hkf
      have hnl : nodes.length = nn := HT7.out.tree.nl
      have hfl : files.length = fn := HT7.out.tree.fl
      have hkn : k < nn := by rw [← hnl]; exact (List.getElem?_eq_some_iff.1 hFA.at_).1
      have hfn : fx < fn := by rw [← hfl]; exact (List.getElem?_eq_some_iff.1 hFA.fat).1
      have hf8 : f.n ≤ 8192 := HSMALL.out f (List.mem_of_getElem? hFA.fat)
      have hki : (k : Int) < nn := by omega
      have hfi : (fx : Int) < fn := by omega
      have HNL := Lib.hid hnl; have HFL := Lib.hid hfl
      clear hkf hrest hFA hnl hfl
      have b0 := hB.cell 0; have b1 := hB.cell 1; have i0 := hI.cell 0; have i1 := hI.cell 1
      have hBl := hB.lt; have hIl := hI.lt; have hDl := hD.lt
      have hbs := hb.size
      go_upto_region 28 with (go_at_call 25; refine (rfind_any ⟨nodes, files, NA, nn, nc, FA, fn, fc⟩ c.path _ HT7.out.tree).mono ?_; rintro e w8 ⟨rfl, hb8⟩; rw [HKF.out])
      obtain ⟨W8, hW8⟩ : ∃ W, W = w8 := ⟨_, rfl⟩
      rw [← hW8] at hb8 ⊢
      replace hB := hB.below hb8 hBl
      replace hI := hI.below hb8 hIl
      replace hD := hD.below hb8 hDl
      replace hb := hb.trans (hb8.mono hbs)
      have HT8 := Lib.hid (HT7.out.keep hb8)
      clear hW8 hb8 b0 b1 i0 i1 hBl hIl hDl hbs HT7
      have b0 := hB.cell 0; have b1 := hB.cell 1
      obtain ⟨xb, xo, x', hxA, hxb, hx', hc⟩ := (HT8.out.tree.ns).get Node.len HNL.out hkn
      obtain rfl : x = x' := by have := HFA.out.at_; rw [hx'] at this; injection this with this; exact this.symm
      have n1 := hc 1 _ rfl
      rw [HFA.out.file] at n1
      simp only at hxA
      rw [hxA] at b0
      obtain ⟨fb, fo, f', hfA, hfb, hf', hd⟩ := (HT8.out.tree.fs).get FC.len HFL.out hfn
      obtain rfl : f = f' := by have := HFA.out.fat; rw [hf'] at this; injection this with this; exact this.symm
      have m1 := hd 1 _ rfl
      simp only at hfA
      rw [hfA] at b1
      clear hc hd hx' hf' hxA hfA
      go_upto_region 29 with (fail)
      clear b0 b1
      have b0 := hB.cell 0; have b1 := hB.cell 1
      have hBl := hB.lt; have hIl := hI.lt; have hDl := hD.lt
      have hbs := hb.size
      obtain ⟨nm, hnm⟩ : ∃ n, (picks (namesF x.file) nodes).length = n := ⟨_, rfl⟩
      have hr5 := HR.out
      rw [hnm] at hr5
      rw [HFA.out.file] at hnm
      have HNM := Lib.hid hnm; have HR5 := Lib.hid hr5
      clear hnm hr5 HR
      by_cases hm1 : 1 < nm
      · have hm1i : (1 : Int) < nm := by omega
        obtain ⟨e1, e2⟩ := HR5.out.1 hm1
        have q2 : (Iu : Int) - (It : Int) = 0 := by omega
        have q1 : (Bu : Int) - (Bt : Int) = 0 ∨ (Bu : Int) - (Bt : Int) = -1 := by omega
        rw [q2] at hD
        clear e1 e2 q2 hm1
        rcases q1 with q1 | q1
        all_goals
          rw [q1] at hD
          clear q1
          go_upto_region 30 with (go_at_call 31; refine (rnames6_any ⟨nodes, files, NA, nn, nc, FA, fn, fc⟩ (fx : Int) _ HT8.out.tree (Nat.le_trans hn256 (by decide))).mono ?_; rintro e w9 ⟨KA, kn, kc, rfl, hkn9, _, hb9⟩; obtain rfl : nm = kn := HNM.out.symm.trans hkn9)
          have hD9 := hD.below hb9 hDl
          have d0 := hD9.cell 0; have d1 := hD9.cell 1
          go_wp2
          go_ret
          exact ⟨rfl, hb.trans (hb9.mono hbs)⟩
      · have hm1i : ¬ (1 : Int) < nm := by omega
        obtain ⟨e1, e2⟩ := HR5.out.2 hm1
        obtain ⟨fw, hfw⟩ : ∃ q, fW f.n = q := ⟨_, rfl⟩
        have hfr := rfile_any f.n (by omega)
        rw [hfw] at e2 hfr
        have hfwb : fw ≤ 8193 := by rw [← hfw]; have := fW_le f.n; omega
        have HFR := Lib.hid hfr; have HFW := Lib.hid hfw
        have q2 : (Iu : Int) - (It : Int) = -1 := by omega
        have q1 : (Bu : Int) - (Bt : Int) = -(fw : Int) ∨ (Bu : Int) - (Bt : Int) = -(fw : Int) - 1 := by omega
        have q3 : (-(fw : Int) - 1 == -(fw : Int)) = false := beq_eq_false_iff_ne.2 (by omega)
        rw [q2] at hD
        clear e1 e2 q2 hm1 hfr hfw
        rcases q1 with q1 | q1
        all_goals
          rw [q1] at hD
          clear q1
          go_upto_region 31 with (go_at_call 31; refine (rnames6_any ⟨nodes, files, NA, nn, nc, FA, fn, fc⟩ (fx : Int) _ HT8.out.tree (Nat.le_trans hn256 (by decide))).mono ?_; rintro e w9 ⟨KA, kn, kc, rfl, hkn9, _, hb9⟩; obtain rfl : nm = kn := HNM.out.symm.trans hkn9)
          have hD9 := hD.below hb9 hDl
          have hB9 := hB.below hb9 hBl
          have hbw := hb.trans (hb9.mono hbs)
          have b1' := hB9.cell 1
          obtain ⟨fb, fo, f', hfA, hfb, hf', hd⟩ := ((HT8.out.keep hb9).tree.fs).get FC.len HFL.out hfn
          obtain rfl : f = f' := by have := HFA.out.fat; rw [hf'] at this; injection this with this; exact this.symm
          have m1' := hd 1 _ rfl
          simp only at hfA
          rw [hfA] at b1'
          clear hd hf' hfA b0 b1
          go_upto_region 32 with (go_at_call 30; refine (HFR.out _).mono ?_; rintro e w10 ⟨rfl, hb10⟩; unfold tollV)
          have hF := Blk.new w10 57 #[.int .i64 (fw : Int), .int .i64 1]
          have hD10 := (hD9.below hb10 hD9.lt).alloc (.cells #[.int .i64 (fw : Int), .int .i64 1] 57)
          have hbx := hbw.trans (hb10.mono hbw.size)
          replace hbx := hbx.alloc hbx.size (.cells #[.int .i64 (fw : Int), .int .i64 1] 57)
          have d0 := hD10.cell 0; have d1 := hD10.cell 1; have f0 := hF.cell 0; have f1 := hF.cell 1
          go_wp2
          go_ret
          exact ⟨rfl, hbx⟩
    · obtain ⟨⟨r0, r1, r2⟩, e1, e2⟩ := HG6.out rfl
      obtain ⟨r, hr⟩ := Int.eq_ofNat_of_zero_le r0
      have hrs : r < sn := by have := HS7.out.dlen; omega
      have hri : (r : Int) < sn := by omega
      rw [hr] at hI
      obtain ⟨sb, so, s, hsA, hsb, hs', hc⟩ := (HS7.out.sl).get SC.len HS7.out.len hrs
      have s0 := hc 0 _ rfl
      simp only [Nat.add_zero, Nat.mul_one] at s0
      obtain ⟨d, hdd⟩ : ∃ d, sd[r]? = some d := ⟨_, List.getElem?_eq_getElem (by have := HS7.out.dlen; omega)⟩
      have hsz := (HS7.out.dat r s d hs' hdd).1
      have hrd : refData c sd = d := by unfold refData; rw [hr, Int.toNat_natCast, hdd]; rfl
      rw [hrd, hsz] at e2
      rw [hrd, hsz] at r2
      obtain ⟨fw, hfw⟩ : ∃ q, fW s.n = q := ⟨_, rfl⟩
      have hfr := rfile_any s.n (by omega)
      rw [hfw] at e2 hfr
      have hfwb : fw ≤ 8193 := by rw [← hfw]; have := fW_le s.n; omega
      have HFR := Lib.hid hfr; have HFW := Lib.hid hfw
      have q2 : (Iu : Int) - (It : Int) = 1 := by omega
      have q1 : (Bu : Int) - (Bt : Int) = (fw : Int) ∨ (Bu : Int) - (Bt : Int) = (fw : Int) + 1 := by omega
      have q3 : ((fw : Int) + 1 == (fw : Int)) = false := beq_eq_false_iff_ne.2 (by omega)
      rw [q2] at hD
      have HRR := Lib.hid hr
      subst hsA
      clear r0 r1 e1 e2 q2 hfr hfw hr hc hs' hdd hsz hrd
      have i0 := hI.cell 0; have i4 := hI.cell 4
      rcases q1 with q1 | q1
      all_goals
        rw [q1] at hD
        clear q1
        go_upto_region 22 with (go_at_call 30; refine (HFR.out _).mono ?_; rintro e w10 ⟨rfl, hb10⟩; unfold tollV)
        have hF := Blk.new w10 57 #[.int .i64 (fw : Int), .int .i64 1]
        have hD10 := (hD.below hb10 hD.lt).alloc (.cells #[.int .i64 (fw : Int), .int .i64 1] 57)
        have hbx := hb.trans (hb10.mono hb.size)
        replace hbx := hbx.alloc hbx.size (.cells #[.int .i64 (fw : Int), .int .i64 1] 57)
        have d0 := hD10.cell 0; have d1 := hD10.cell 1; have f0 := hF.cell 0; have f1 := hF.cell 1
        go_wp2
        go_ret
        exact ⟨rfl, hbx⟩
    · obtain ⟨k, x, fx, f, hFA, hrest⟩ := HG7.out rfl
      have HR := Lib.hid hrest; have HFA := Lib.hid hFA
      have hkf := hFA.find
      have HKF := Lib.hid hkf
      have hnl : nodes.length = nn := HT7.out.tree.nl
      have hfl : files.length = fn := HT7.out.tree.fl
      have hkn : k < nn := by rw [← hnl]; exact (List.getElem?_eq_some_iff.1 hFA.at_).1
      have hfn : fx < fn := by rw [← hfl]; exact (List.getElem?_eq_some_iff.1 hFA.fat).1
      have hf8 : f.n ≤ 8192 := HSMALL.out f (List.mem_of_getElem? hFA.fat)
      have hki : (k : Int) < nn := by omega
      have hfi : (fx : Int) < fn := by omega
      have HNL := Lib.hid hnl; have HFL := Lib.hid hfl
      clear hkf hrest hFA hnl hfl
      have b0 := hB.cell 0; have b1 := hB.cell 1; have i0 := hI.cell 0; have i1 := hI.cell 1
      have hBl := hB.lt; have hIl := hI.lt; have hDl := hD.lt
      have hbs := hb.size
      go_upto_region 25 with (go_at_call 25; refine (rfind_any ⟨nodes, files, NA, nn, nc, FA, fn, fc⟩ c.path _ HT7.out.tree).mono ?_; rintro e w8 ⟨rfl, hb8⟩; rw [HKF.out])
      obtain ⟨W8, hW8⟩ : ∃ W, W = w8 := ⟨_, rfl⟩
      rw [← hW8] at hb8 ⊢
      replace hB := hB.below hb8 hBl
      replace hI := hI.below hb8 hIl
      replace hD := hD.below hb8 hDl
      replace hb := hb.trans (hb8.mono hbs)
      have HT8 := Lib.hid (HT7.out.keep hb8)
      clear hW8 hb8 b0 b1 i0 i1 hBl hIl hDl hbs HT7
      have b0 := hB.cell 0; have b1 := hB.cell 1
      obtain ⟨xb, xo, x', hxA, hxb, hx', hc⟩ := (HT8.out.tree.ns).get Node.len HNL.out hkn
      obtain rfl : x = x' := by have := HFA.out.at_; rw [hx'] at this; injection this with this; exact this.symm
      have n1 := hc 1 _ rfl
      rw [HFA.out.file] at n1
      simp only at hxA
      rw [hxA] at b0
      obtain ⟨fb, fo, f', hfA, hfb, hf', hd⟩ := (HT8.out.tree.fs).get FC.len HFL.out hfn
      obtain rfl : f = f' := by have := HFA.out.fat; rw [hf'] at this; injection this with this; exact this.symm
      have m1 := hd 1 _ rfl
      simp only at hfA
      rw [hfA] at b1
      clear hc hd hx' hf' hxA hfA
      have hBl := hB.lt; have hDl := hD.lt
      have hbs := hb.size
      obtain ⟨e1, e2⟩ := HR.out
      obtain ⟨fw, hfw⟩ : ∃ q, fW f.n = q := ⟨_, rfl⟩
      have hfr := rfile_any f.n (by omega)
      rw [hfw] at e2 hfr
      have hfwb : fw ≤ 8193 := by rw [← hfw]; have := fW_le f.n; omega
      have HFR := Lib.hid hfr; have HFW := Lib.hid hfw
      have q2 : (Iu : Int) - (It : Int) = 1 := by omega
      have q1 : (Bu : Int) - (Bt : Int) = (fw : Int) ∨ (Bu : Int) - (Bt : Int) = (fw : Int) + 1 := by omega
      have q3 : ((fw : Int) + 1 == (fw : Int)) = false := beq_eq_false_iff_ne.2 (by omega)
      rw [q2] at hD
      clear e1 e2 q2 hfr hfw
      go_cut [13] from 142 to 154 (fun p wx => TollCut (fw : Int) 1 W8 p wx)
      case first =>
        refine wp_region_T none (.q 0 (.q 1 (.q 2 (.q 3 (.q 4 (.q 5 (.q 6 (.q 7 (.q 8 (.q 9 (.q 10 (.q 11 (.e2 12 13 (.e1 13 (.e1 14 .done)) (.e1 12 (.e1 14 .done))))))))))))))) (by kernel_rfl) (by kernel_rfl) fun hG0 => ?_
        repeat (first
          | (refine tree_skip rfl (by rfl) ?_; simp only [Act.put, List.setIfInBounds_toArray, List.set_cons_zero, List.set_cons_succ])
          | (refine tree_qE rfl (by rfl) ?_; apply Exists.intro; refine ⟨fun w' hc' => ?_, ?_⟩; (focus (go_simp; (try go_bits); (try simp only [↓IntWalk.iteOmega]); with_reducible rfl)); simp only [Act.put, List.setIfInBounds_toArray, List.set_cons_zero, List.set_cons_succ]))
        refine tree_e2 (tree_step rfl fun K hK => ?_) (tree_step rfl fun K hK => ?_)
        · have hBc := below_grown hG0 (Nat.le_refl _) (fun g e => by cases e)
          go_wp2_with (go_at_call 30; refine (HFR.out _).mono ?_; rintro e w12 ⟨rfl, hb12⟩; unfold tollV)
          have hG1 := grown_trans hG0 (grown_below hb12 (Nat.le_refl _))
          refine hK.out _ _ hG1 ?_
          clear hK K hBc
          refine tree_e1 (tree_step rfl fun K hK => ?_)
          have hZ : Blk (World.alloc (w12) (.cells #[.int .i64 0, .int .i64 0] 57)) (w12.heap.size) 57 #[.int .i64 0, .int .i64 0] := Blk.new (w12) 57 #[.int .i64 0, .int .i64 0]
          have hzs : W8.heap.size ≤ w12.heap.size := by first | exact Nat.le_refl _ | exact hG1.size
          go_wp2_with (fail)
          have hG2 := grown_trans hG1 (World.grownBy_alloc (w12) (.cells #[.int .i64 0, .int .i64 0] 57) none)
          refine hK.out _ _ hG2 ?_
          clear hK K
          refine tree_e1 (tree_step rfl fun K hK => ?_)
          go_wp2_with (fail)
          have hG3 := grown_trans hG1 (World.grownBy_alloc (w12) (.cells #[.int .i64 (fw : Int), .int .i64 1] 57) none)
          have hB9 := Blk.new (w12) 57 #[.int .i64 (fw : Int), .int .i64 1]
          refine hK.out _ _ hG3 ?_
          clear hK K
          refine tree_end ?_
          have hGL := hG3
          go_wp2_with (fail)
          go_meet
          exact ⟨_, rfl, hB9, by first | exact hzs | omega, below_grown hGL (Nat.le_refl _) (fun g e => by cases e)⟩
        · have hZ : Blk (World.alloc (W8.drew) (.cells #[.int .i64 0, .int .i64 0] 57)) (W8.heap.size) 57 #[.int .i64 0, .int .i64 0] := Blk.new (W8.drew) 57 #[.int .i64 0, .int .i64 0]
          have hzs : W8.heap.size ≤ W8.heap.size := by first | exact Nat.le_refl _ | exact hG0.size
          go_wp2_with (fail)
          have hG1 := grown_trans hG0 (World.grownBy_alloc (W8.drew) (.cells #[.int .i64 0, .int .i64 0] 57) none)
          refine hK.out _ _ hG1 ?_
          clear hK K
          refine tree_e1 (tree_step rfl fun K hK => ?_)
          have hBc := below_grown hG1 (Nat.le_refl _) (fun g e => by cases e)
          go_wp2_with (go_at_call 30; refine (HFR.out _).mono ?_; rintro e w12 ⟨rfl, hb12⟩; unfold tollV)
          have hG2 := grown_trans hG1 (grown_below hb12 (Nat.le_refl _))
          refine hK.out _ _ hG2 ?_
          clear hK K hBc
          replace hZ := hZ.below hb12 hZ.lt
          refine tree_e1 (tree_step rfl fun K hK => ?_)
          go_wp2_with (refine wpList_store_blk rfl 57 (.tmp 13) (.tmp 154) rfl hZ #[.int .i64 (fw : Int), .int .i64 1] rfl rfl (tollT) rfl (by simp [Value.oneCell']) ?_; intro w9 hB9 hg9 hs9)
          have hG3 : W8.grownBy w9 none := grown_below ((below_grown hG2 (Nat.le_refl _) (fun g e => by cases e)).trans (below_grown hg9 hG2.size (fun g e => by injection e with e; omega))) (Nat.le_refl _)
          refine hK.out _ _ hG3 ?_
          clear hK K
          refine tree_end ?_
          have hGL := hG3
          go_wp2_with (fail)
          go_meet
          exact ⟨_, rfl, hB9, by first | exact hzs | omega, below_grown hGL (Nat.le_refl _) (fun g e => by cases e)⟩
      case rest =>
        obtain ⟨g13, rfl, hF, hgf, hb9⟩ := hcut
        replace hD := hD.below hb9 hDl
        replace hb := hb.trans (hb9.mono hbs)
        have f0 := hF.cell 0; have f1 := hF.cell 1
        rcases q1 with q1 | q1
        all_goals
          rw [q1] at hD
          clear q1
          have d0 := hD.cell 0; have d1 := hD.cell 1
          go_wp2
          go_ret
          exact ⟨rfl, hb⟩
    · obtain ⟨e1, e2⟩ := HG89.out (.inl rfl)
      have q2 : (Iu : Int) - (It : Int) = 0 := by omega
      have q1 : (Bu : Int) - (Bt : Int) = 0 := by omega
      rw [q2] at hD
      clear e1 e2 q2
      have i0 := hI.cell 0
      rw [q1] at hD
      clear q1
      have d0 := hD.cell 0; have d1 := hD.cell 1
      go_wp2
      go_ret
      exact ⟨rfl, hb⟩
    · obtain ⟨e1, e2⟩ := HG89.out (.inr rfl)
      have q2 : (Iu : Int) - (It : Int) = 0 := by omega
      have q1 : (Bu : Int) - (Bt : Int) = 0 := by omega
      rw [q2] at hD
      clear e1 e2 q2
      have i0 := hI.cell 0
      rw [q1] at hD
      clear q1
      have d0 := hD.cell 0; have d1 := hD.cell 1
      go_wp2
      go_ret
      exact ⟨rfl, hb⟩

set_option maxRecDepth 100000 in
theorem lifted (os : Os) (started : os.Started) (H : Type) (enc : TypeId × Value → H) :
    ReturnsInHanded {} Try.checked os 6 .any (Rows.modelGrowsSpec.pre6 enc Try.prog Try.f6 Rows.modelGrowsRow.domain false) (Rows.modelGrowsSpec.post enc Try.prog Try.f6 false true false false) := by
  refine returnsInHanded_of_change (C := Try.checked) own started (by kernel_rfl) Try.func6
    (ChangeSpec.witness6 (enc := enc) (C := Try.checked) false ⟨#[], #[.agg #[.slice none 0 0, .slice none 0 0], .agg #[.int .i64 0, .string ByteArray.empty, .string ByteArray.empty, .int .i64 0, .int .i64 0], .slice none 0 0], []⟩ 8 (by kernel_rfl) (by kernel_rfl) (by kernel_rfl) (by kernel_rfl)) ?_
  intro W base args ds gs before hval0 hW hcnd _
  have hval : ∀ (j : Nat) t v, Try.f6.params[j]? = some t → args[j]? = some v → Value.okWide Try.prog W .any base t v := hval0
  have hW' := hW
  obtain ⟨p, q, hA0, hV, rfl, hfz, hnd⟩ := hW
  have hA : DataW.TrodAll enc Try.prog W 0 (fun _ => true) true Try.f6.params.toList args.toList ds p := hA0
  rw [Try.params6] at hA hval
  obtain ⟨v0, vs0, d0, ds0, p0, q0, hargs, rfl, rfl, h0, r0⟩ := trodAll_cons hA
  obtain ⟨v1, vs1, d1, ds1, p1, q1, rfl, rfl, rfl, h1, r1⟩ := trodAll_cons r0
  obtain ⟨v2, vs2, d2, ds2, p2, q2, rfl, rfl, rfl, h2, r2⟩ := trodAll_cons r1
  obtain ⟨rfl, rfl, rfl⟩ := trodAll_nil r2
  obtain rfl : args = #[v0, v1, v2] := by cases args; simp_all
  obtain ⟨rfl, rfl⟩ := trodVars_none hV
  have k0 := h0
  have lt0 : ∀ x ∈ p0, x.block < W.heap.size := by obtain ⟨m, hm⟩ := k0; exact DataW.trod_lt m _ _ _ hm
  obtain ⟨t0, ds0', rfl, hT0⟩ := open_tree (hval 0 25 v0 rfl rfl) h0 lt0
  have k1 := h1
  have lt1 : ∀ x ∈ p1, x.block < W.heap.size := by obtain ⟨m, hm⟩ := k1; exact DataW.trod_lt m _ _ _ hm
  obtain ⟨c1, rfl, ho1⟩ := open_cmd (hval 1 27 v1 rfl rfl) h1
  obtain ⟨a2, len2, cap2, rfl⟩ := okWide_slice Try.underlying28 (hval 2 28 v2 rfl rfl)
  have k2 := h2
  have lt2 : ∀ x ∈ p2, x.block < W.heap.size := by obtain ⟨m, hm⟩ := k2; exact DataW.trod_lt m _ _ _ hm
  obtain ⟨ss2, sd2, hK2⟩ : ∃ (ss : List SC) (sd : List ByteArray), StockAt W a2 len2 ss sd := by
    obtain ⟨fuel, hf⟩ := h2
    exact open_stock hf lt2
  clear hA0 hval0
  refine (walk t0 ds0' c1 a2 len2 cap2 ss2 sd2 W hT0 ho1 hK2).mono fun e W' ⟨he, bel⟩ => ?_
  subst he
  exact ⟨_, rfl, _, _, _, [], _, [], hW', trodAll_mk1 (shut_bool Try.underlying4 _), (trodAll_cons_mk (Below.trod laidOut (by kernel_rfl) (of_decide_eq_true (by kernel_rfl)) k0 bel lt0) (trodAll_cons_mk (Below.trod laidOut (by kernel_rfl) (of_decide_eq_true (by kernel_rfl)) k1 bel lt1) (trodAll_cons_mk (Below.trod laidOut (by kernel_rfl) (of_decide_eq_true (by kernel_rfl)) k2 bel lt2) trodAll_mk0))), rfl, bel.frame _, fun h => by cases h⟩

theorem over : Rows.modelGrowsRow.holds Try.pinned (OpenSpec.ofChange Rows.modelGrowsSpec) :=
  OpenClaim.holds_of_wide 6 Try.f6 rfl rfl rfl rfl rfl rfl rfl ⟨rfl, rfl, rfl, rfl, rfl⟩ rfl rfl rfl rfl rfl (by kernel_rfl) Try.func6 (by kernel_rfl)
    (of_decide_eq_true (by kernel_rfl)) (by unfold Func.isWrapper; first | (rw [if_pos (by decide +kernel)]; kernel_rfl) | (rw [if_neg (by decide +kernel)]; exact ⟨rfl, rfl⟩))
    (fun os started H enc _ => lifted os started H enc)

theorem proved : Rows.ModelGrowsSaid := over
#print axioms proved

end Go.Proofs.Ythmeffpickejkaa.modelGrowsDone
