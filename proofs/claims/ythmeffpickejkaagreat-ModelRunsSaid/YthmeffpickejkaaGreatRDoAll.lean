/- shuntref7.Do: instructions by their numbers: 7, 3. shuntref7.Do: instructions by their numbers: 2, 5, 8. shuntref7.Do is model.Do. -/
import Derived.Test.YthmeffpickejkaaGreatRDo1

namespace Go.Proofs.YthmeffpickejkaaGreat
open Go.RowKit


set_option maxRecDepth 100000 in
set_option maxHeartbeats 8000000 in
theorem rdo_7 (t : TV) (ds : List ByteArray) (p q : ByteArray) (mode ref : Int) (hp : p.size ≤ 9223372036854775807) (hq : q.size ≤ 9223372036854775807) (SA : Option Addr) (sn sc : Nat) (ss : List SC) (sd : List ByteArray) (w : World) (h : TreeD w t ds) (hS : StockAt w SA sn ss sd) (hl : looseE t = 0) (hF : firstE (toB 7) (modeB 7) ⟨7, p, q, mode, ref, hp, hq⟩ sd = 0) :
    Calls Tryz.prog 25 #[t.val, .agg #[.int .i64 7, .string p, .string q, .int .i64 mode, .int .i64 ref], .slice SA sn sc] w (DoRes (doE (openM t ds) ⟨7, p, q, mode, ref, hp, hq⟩ sd) (doM (openM t ds) ⟨7, p, q, mode, ref, hp, hq⟩ sd) w) := by
  have hloose := fun (W : World) (H : TreeAt W t) => rloose_any t W H
  have hfirst := fun (W : World) (H : StockAt W SA sn ss sd) => rfirst_any ⟨7, p, q, mode, ref, hp, hq⟩ SA sn sc ss sd W H
  have hE0 : rfirstE ⟨7, p, q, mode, ref, hp, hq⟩ sd = 0 := by unfold rfirstE; rw [if_neg (show ¬ isOp 7 = false by decide), if_neg (show ¬ (7 : Int) = 9 by decide)]; exact hF
  rw [hl] at hloose
  rw [hE0] at hfirst
  have hG := good_of_loose hl
  have hn1 := hG.nn
  have hf1 := hG.fn
  have HD := Lib.hid h; have HS := Lib.hid hS
  have hns := h.tree.ns
  have hfs := h.tree.fs
  obtain ⟨nodes, files, NA, nn, nc, FA, fn, fc⟩ := t
  simp only at hns hfs hn1 hf1
  unfold TV.val at hloose ⊢
  unfold Cmd.cells at hfirst
  have HLO := Lib.hid hloose; have HFI := Lib.hid hfirst; have HNs := Lib.hid hns; have HFs := Lib.hid hfs; have HG := Lib.hid hG; have HL := Lib.hid hl; have HF0 := Lib.hid hF
  clear hloose hfirst hE0 h hS hns hfs hG hl hF
  have hw3 : Below w.heap.size w (((w.alloc (.cells #[.slice NA nn nc, .slice FA fn fc] 25)).alloc (.cells #[.int .i64 7, .string p, .string q, .int .i64 mode, .int .i64 ref] 32)).alloc (.cells #[.slice none 0 0, .slice none 0 0] 25)) := (((Below.refl _ _).alloc (Nat.le_refl _) _).alloc (by simp) _).alloc (by simp; omega) _
  have hT := ((Blk.new w 25 #[.slice NA nn nc, .slice FA fn fc]).alloc (.cells #[.int .i64 7, .string p, .string q, .int .i64 mode, .int .i64 ref] 32)).alloc (.cells #[.slice none 0 0, .slice none 0 0] 25)
  have hI := (Blk.new (w.alloc (.cells #[.slice NA nn nc, .slice FA fn fc] 25)) 32 #[.int .i64 7, .string p, .string q, .int .i64 mode, .int .i64 ref]).alloc (.cells #[.slice none 0 0, .slice none 0 0] 25)
  have hR := Blk.new ((w.alloc (.cells #[.slice NA nn nc, .slice FA fn fc] 25)).alloc (.cells #[.int .i64 7, .string p, .string q, .int .i64 mode, .int .i64 ref] 32)) 25 #[.slice none 0 0, .slice none 0 0]
  simp only [World.size_alloc] at hI hR
  have t0 := hT.cell 0; have t1 := hT.cell 1
  go_enter Tryz.func25, Tryz.ntmps25
  go_upto_region 4 with (go_at_call 23; refine (HLO.out _ (HD.out.tree.keep hw3)).mono ?_; rintro e w1 ⟨rfl, hb1⟩)
  have hT1 := hT.below hb1 hT.lt; have hI1 := hI.below hb1 hI.lt; have hR1 := hR.below hb1 hR.lt
  have hw1 := hw3.trans (hb1.mono hw3.size)
  clear t0 t1 hT hI hR hw3 hb1
  have i0 := hI1.cell 0; have i1 := hI1.cell 1; have i2 := hI1.cell 2; have i3 := hI1.cell 3; have i4 := hI1.cell 4
  go_upto_region 7 with (go_at_call 41; refine (HFI.out _ (HS.out.keep hw1)).mono ?_; rintro e w2 ⟨rfl, hb2⟩)
  have hT2 := hT1.below hb2 hT1.lt; have hI2 := hI1.below hb2 hI1.lt; have hR2 := hR1.below hb2 hR1.lt
  have hw2 := hw1.trans (hb2.mono hw1.size)
  clear i0 i1 i2 i3 i4 hT1 hI1 hR1 hw1 hb2
  have i0 := hI2.cell 0
  have t0 := hT2.cell 0; have t1 := hT2.cell 1
  have hs2 := hw2.size
  go_upto_region 10 with (at_builtin; refine wpList_append_sl rfl _ _ _ rfl Tryz.nodeT rfl (World.ownsRow_nil w2 w.heap.size _ _) rfl (HNs.out.below hw2 (Nat.le_refl _)) (node_one nodes) (by unfold maxLen; omega) (by omega) hs2 ?_; intro A1 c1 w4 ho4 hg4 hat4)
  simp only [Nat.zero_add, List.nil_append] at ho4
  have hg4' : w2.grownBy w4 none := hg4
  have hT4 := hT2.grown hg4' (by simp); have hI4 := hI2.grown hg4' (by simp); have hR4 := hR2.grown hg4' (by simp)
  have hw4 := hw2.trans (below_grown hg4' hs2 (fun g e => by cases e))
  clear hg4 hg4' hat4 hT2 hI2 hR2 hw2 hs2 i0 t0 t1
  have t0 := hT4.cell 0; have t1 := hT4.cell 1; have i0 := hI4.cell 0
  have hs4 := hw4.size
  go_upto_region 11 with (at_builtin; refine wpList_append_sl rfl _ _ _ rfl Tryz.fileT rfl (World.ownsRow_nil w4 w.heap.size _ _) rfl (HFs.out.below hw4 (Nat.le_refl _)) (file_cells_one files) (by unfold maxLen; omega) (by omega) hs4 ?_; intro A2 c2 w5 ho5 hg5 hat5)
  simp only [Nat.zero_add, List.nil_append] at ho5
  have hg5' : w4.grownBy w5 none := hg5
  have HP := Lib.hid (show DoPre ⟨nodes, files, NA, nn, nc, FA, fn, fc⟩ ds w w5 #[.int .i64 7, .string p, .string q, .int .i64 mode, .int .i64 ref] A1 c1 A2 c2 from ⟨hT4.grown hg5' (by simp), hI4.grown hg5' (by simp), hR4.grown hg5' (by simp), own_keep1 ho4 (below_grown hg5' (Nat.le_refl _) (fun g e => by cases e)) (Nat.le_refl _), ho5, hw4.trans (below_grown hg5' hs4 (fun g e => by cases e))⟩)
  clear hg5 hg5' hat5 hT4 hI4 hR4 hw4 hs4 i0 t0 t1 ho4 ho5
  have t0 := HP.out.T.cell 0; have t1 := HP.out.T.cell 1
  have i0 := HP.out.I.cell 0; have i1 := HP.out.I.cell 1; have i2 := HP.out.I.cell 2; have i3 := HP.out.I.cell 3
  have hv := (first0 HF0.out).2.1
  have hv2 := (first0 HF0.out).2.2.1 rfl
  have hfil := fun (W : World) (H : TreeAt W ⟨nodes, files, NA, nn, nc, FA, fn, fc⟩) => rfile_any _ p W H (apart_of_rises HG.out.rises) (fun x hx => (HG.out.kind x hx).imp (·.1) (·.1)) hp hv
  have hvac := fun (W : World) (H : TreeAt W ⟨nodes, files, NA, nn, nc, FA, fn, fc⟩) => rvacant_any _ q W H (apart_of_rises HG.out.rises) (fun x hx => (HG.out.kind x hx).imp (·.1) (·.1)) hq hv2
  have hdo := doE_of (M := openM ⟨nodes, files, NA, nn, nc, FA, fn, fc⟩ ds) (c := ⟨7, p, q, mode, ref, hp, hq⟩) (sd := sd) (by simp [isOp]) (by simp) HF0.out
  simp only at hfil hvac
  unfold TV.val at hfil hvac
  have hwo := inv_do (M := openM ⟨nodes, files, NA, nn, nc, FA, fn, fc⟩ ds) (open_inv HD.out HL.out) (by show nodes.length ≤ 256; have := HD.out.tree.nl; simp only at this; omega) ⟨7, p, q, mode, ref, hp, hq⟩ sd
  have Hwo := Lib.hid hwo
  have hnl := HD.out.tree.nl
  simp only at hnl
  have Hnl := Lib.hid hnl
  clear hwo hnl
  unfold FileR at hfil
  unfold NumRes at hvac
  by_cases h0 : filE nodes p = 0
  · by_cases h1 : absE nodes q = 0
    · have hfu : fullE (openM ⟨nodes, files, NA, nn, nc, FA, fn, fc⟩ ds) ⟨7, p, q, mode, ref, hp, hq⟩ = 31 := by
        unfold fullE
        rw [if_pos (by simp)]
        show (if filE nodes p = 0 then (if absE nodes q = 0 then (31 : Int) else absE nodes q) else filE nodes p) = 31
        rw [if_pos h0, if_pos h1]
      rw [hfu] at hdo
      have hop : opE (openM ⟨nodes, files, NA, nn, nc, FA, fn, fc⟩ ds) ⟨7, p, q, mode, ref, hp, hq⟩ = 0 := by
        unfold opE
        rw [if_neg (by simp), if_neg (by simp), if_neg (by simp), if_neg (by simp)]
        show bothE nodes p q = 0
        unfold bothE; rw [if_pos h0, h1]
      rw [hop] at hdo
      have Hdo := Lib.hid hdo
      have HV := Lib.hid (h1 ▸ hvac)
      obtain ⟨hpre, hlf⟩ := fil0 h0
      obtain ⟨x0, hx0, hlF, _⟩ := pre0 hpre
      rw [hlF] at hlf
      obtain ⟨k, x, hkx, hfi, hk0⟩ : ∃ (k : Nat) (x : Node), nodeAt nodes p = some x ∧ findI nodes p = k ∧ nodes[k]? = some x := by
        rcases find_at (apart_of_rises HG.out.rises) p with ⟨h, _⟩ | h
        · rw [h] at hx0; cases hx0
        · exact h
      obtain rfl : x = x0 := by rw [hkx] at hx0; exact Option.some.inj hx0
      rw [h0, if_pos rfl, hfi] at hfil
      have HFL := Lib.hid hfil
      have hxp := (nodeAt_some hkx).2
      have hxm : x.mode = 0 := by
        rcases HG.out.kind x (nodeAt_some hkx).1 with h | h
        · omega
        · exact h.2.2
      have hxf : x.file < fn := by
        rcases HG.out.kind x (nodeAt_some hkx).1 with h | h
        · omega
        · exact h.2.1
      have hqn := abs0 h1
      have hkn : k < nn := by have := (List.getElem?_eq_some_iff.1 hk0).1; rw [Hnl.out] at this; exact this
      have hki : (k : Int) < nn := by omega
      have Hkx := Lib.hid hkx; have Hk0 := Lib.hid hk0; have HlF := Lib.hid hlF; have Hxp := Lib.hid hxp; have Hxm := Lib.hid hxm; have Hqn := Lib.hid hqn
      clear hop hdo hvac hfil h0 h1 hpre hx0 hlF hkx hfi hk0 hxp hxm hqn
      go_upto_region 45 with (first | (go_at_call 42; refine (hasTo7 _ _).mono ?_; rintro e w6 ⟨rfl, hw⟩; rw [hw]; clear hw; rw [show toB 7 = true from rfl]) | (go_at_call 43; refine (HFL.out _ (HD.out.tree.keep HP.out.b)).mono ?_; rintro e w6 ⟨rfl, hb6⟩; have HP6 := Lib.hid (HP.out.below hb6); have s0 := HP6.out.T.cell 0; have s1 := HP6.out.T.cell 1; have s2 := HP6.out.I.cell 2) | (go_at_call 44; refine (HV.out _ (HD.out.tree.keep HP6.out.b)).mono ?_; rintro e w7 ⟨rfl, hb7⟩; have HP7 := Lib.hid (HP6.out.below hb7); have j0 := HP7.out.I.cell 0))
      clear t0 t1 i0 i1 i2 i3 hb6 hb7 HP HP6 s0 s1 s2
      have hbs := HP7.out.b.size
      have HN7 := Lib.hid (show w7.ownsRow w.heap.size 56 3 (.slice A1 nn c1) nn (nodes.flatMap Node.list) from HP7.out.N)
      have HF7 := Lib.hid (show w7.ownsRow w.heap.size 59 2 (.slice A2 fn c2) fn (files.flatMap FC.list) from HP7.out.F)
      obtain ⟨xb, xo, x', hNA, hxb, hx', hc⟩ := (HNs.out.below HP7.out.b (Nat.le_refl _)).get Node.len Hnl.out hkn
      obtain rfl : x = x' := by have := Hk0.out; rw [this] at hx'; exact Option.some.inj hx'
      have d1 := hc 1 _ rfl
      clear hc hx'
      subst hNA
      have i2 := HP7.out.I.cell 2
      go_upto_region 46 with (at_builtin; refine wpList_append_one rfl _ _ _ rfl Tryz.nodeT rfl HN7.out #[.string q, .int .i64 (fn : Int), .int .i64 0] rfl (by first | rfl | simp) rfl (node_cells_one _ _ _) (by unfold maxLen; omega) (by omega) hbs ?_; intro g6 c6 w8 ho8 hg8 hat8)
      have hT8 := HP7.out.T.grown hg8 (HP7.out.T.ne_row HN7.out (by decide))
      have hI8 := HP7.out.I.grown hg8 (HP7.out.I.ne_row HN7.out (by decide))
      have hR8 := HP7.out.R.grown hg8 (HP7.out.R.ne_row HN7.out (by decide))
      have hb8 := HP7.out.b.trans (below_grown hg8 hbs (fun g e => own_blk1 HN7.out g e))
      have HF8 := Lib.hid (own_keep HF7.out fun g o e => hg8.block g (own_lt2 (by rw [← e]; exact HF7.out)).2.1 (row_ne_row HF7.out HN7.out (by decide) (by rw [e]; rfl)))
      have e1 := (World.cell?_of_block (w := w7) (w' := w8) (a := ⟨xb, xo + k * 3 + 1, none⟩) (hg8.block xb (by omega) (fun e => by have := own_blk1 HN7.out xb e.symm; omega))).trans d1
      have Ho8 := Lib.hid ho8
      clear hg8 hat8 i2 hbs j0 ho8 d1
      obtain ⟨f, hf⟩ := Int.eq_ofNat_of_zero_le hlf
      have hff : f < fn := by omega
      have hffi : (f : Int) < fn := by omega
      have hfl := HD.out.tree.fl
      have hdl := HD.out.dat.len
      simp only at hfl hdl
      obtain ⟨yb, yo, y, hFA, hyb, hy, hc⟩ := (HFs.out.below hb8 (Nat.le_refl _)).get FC.len hfl hff
      obtain ⟨d, hd, hdn, hdS⟩ := HD.out.dat.get hy
      have hdt : dataOf (openM ⟨nodes, files, some ⟨xb, xo, none⟩, nn, nc, FA, fn, fc⟩ ds) x.file = d := by
        rw [dataOf_F, open_F _ _ hlf (by show x.file < (fn : Int); omega), hf]
        simp only [treeF, Int.toNat_natCast, hy, hd, Option.map_some, Option.getD_some]
      have hy8 : y.n ≤ 8192 := HG.out.small y (List.mem_of_getElem? hy)
      have y1 := hc 1 _ rfl
      rw [hf] at e1
      subst hFA
      have Hdt := Lib.hid hdt; have Hdn := Lib.hid hdn; have HdS := Lib.hid hdS; have Hfl := Lib.hid hfl; have Hdl := Lib.hid hdl
      clear hdt hdn hdS hd hy hc hfl hdl hf hlf hxf
      have t0 := hT8.cell 0; have t1 := hT8.cell 1; have i3 := hI8.cell 3
      have hws := hb8.size
      have hTl := hT8.lt; have hIl := hI8.lt
      have hxw : xb < w8.heap.size := by omega
      have hyw : yb < w8.heap.size := by omega
      have hneT : ¬ some w.heap.size = blkOf A2 := hT8.ne_row HF8.out (by decide)
      have hneI : ¬ some (w.heap.size + 1) = blkOf A2 := hI8.ne_row HF8.out (by decide)
      have hneX : ¬ some xb = blkOf A2 := fun e => by have := own_blk1 HF8.out xb e.symm; omega
      have hneY : ¬ some yb = blkOf A2 := fun e => by have := own_blk1 HF8.out yb e.symm; omega
      refine wp_region_ordB (blkOf A2) [(0, true), (1, true), (2, true), (3, true), (4, true), (5, true), (6, true), (7, true), (8, true), (9, true), (10, true), (11, true), (12, true), (13, true), (14, true), (15, false), (16, false), (17, true)] (by kernel_rfl) (by kernel_rfl) fun hG0 => ?_
      repeat (first
        | (refine ord_skipB rfl (by rfl) ?_; simp only [Act.put, List.setIfInBounds_toArray, List.set_cons_zero, List.set_cons_succ])
        | (refine ord_qE rfl (by rfl) ?_; apply Exists.intro; refine ⟨fun w' hc' => ?_, ?_⟩; (focus (go_simp; (try go_bits); (try simp only [↓IntWalk.iteOmega]); with_reducible rfl)); simp only [Act.put, List.setIfInBounds_toArray, List.set_cons_zero, List.set_cons_succ]))
      refine ord_eB rfl fun K hK => ?_
      go_wp2_with (fail)
      have hG1 := grown_trans hG0 (World.grownBy_alloc w8.drew (.cells #[.int .i64 mode, .slice y.A y.n y.c] 59) (blkOf A2))
      refine hK.out _ _ hG1 ?_
      clear hK K
      repeat (first
        | (refine ord_skipB rfl (by rfl) ?_; simp only [Act.put, List.setIfInBounds_toArray, List.set_cons_zero, List.set_cons_succ])
        | (refine ord_qE rfl (by rfl) ?_; apply Exists.intro; refine ⟨fun w' hc' => ?_, ?_⟩; (focus (go_simp; (try go_bits); (try simp only [↓IntWalk.iteOmega]); with_reducible rfl)); simp only [Act.put, List.setIfInBounds_toArray, List.set_cons_zero, List.set_cons_succ]))
      refine ord_eB rfl fun K hK => ?_
      go_wp2_with (at_builtin; refine wpList_append_one (w := w8.drew) rfl _ _ _ rfl Tryz.fileT rfl (own_drew HF8.out) #[.int .i64 mode, .slice y.A y.n y.c] rfl (by simp) rfl (file_one _ _ _ _) (by unfold maxLen; omega) (by omega) hws ?_; intro g9 c9 w9 ho9 hg9 hat9)
      have hG2 := grown_trans hG0 hg9
      refine hK.out _ _ hG2 ?_
      clear hK K
      repeat (first
        | (refine ord_skipB rfl (by rfl) ?_; simp only [Act.put, List.setIfInBounds_toArray, List.set_cons_zero, List.set_cons_succ])
        | (refine ord_qE rfl (by rfl) ?_; apply Exists.intro; refine ⟨fun w' hc' => ?_, ?_⟩; (focus (go_simp; (try go_bits); (try simp only [↓IntWalk.iteOmega]); with_reducible rfl)); simp only [Act.put, List.setIfInBounds_toArray, List.set_cons_zero, List.set_cons_succ]))
      refine ord_end ?_
      have hR9 := hR8.grown hG2 (hR8.ne_row HF8.out (by decide))
      have hb9 := hb8.trans (below_grown hG2 hws (fun g e => own_blk1 HF8.out g e))
      have hN9 := own_keep Ho8.out fun g o e => hG2.block g (own_lt2 (by rw [← e]; exact Ho8.out)).2.1 (row_ne_row Ho8.out HF8.out (by decide) (by rw [e]; rfl))
      have HTD := Lib.hid (own_treeD (nodes := nodes ++ [⟨q, fn, 0, hq⟩]) (files := files ++ [⟨mode, y.A, y.n, y.c⟩]) (ds := ds ++ [d]) (by rw [List.flatMap_append]; exact hN9) (by rw [List.flatMap_append]; exact ho9) (by rw [List.length_append, Hnl.out]; rfl) (by rw [List.length_append, Hfl.out]; rfl) ((HD.out.dat.keep hb9).snoc Hdn.out ((HdS.out.below hb9 (Nat.le_refl _)).more hb9.size)))
      clear ho9 hg9 hat9 hN9 i3 t0 t1 e1 y1 hneT hneI hneX hneY hxw hyw hws hTl hIl hG0 hG1 hG2
      by_cases hbg : 256 ≤ nn
      · have HE := Lib.hid (show doE (openM ⟨nodes, files, some ⟨xb, xo, none⟩, nn, nc, some ⟨yb, yo, none⟩, fn, fc⟩ ds) ⟨7, p, q, mode, ref, hp, hq⟩ sd = 31 by rw [Hdo.out, if_pos ⟨rfl, by show 256 ≤ nodes.length; rw [Hnl.out]; exact hbg⟩])
        have HBB := Lib.hid (big_nodes (nodes := nodes ++ [⟨q, fn, 0, hq⟩]) (files := files ++ [⟨mode, y.A, y.n, y.c⟩]) (NA := some ⟨g6, 0, none⟩) (FA := some ⟨g9, 0, none⟩) (nn := nn + 1) (nc := c6) (fn := fn + 1) (fc := c9) (by omega))
        have HM := Lib.hid (rmade_any _ _ _ HTD.out)
        go_wp2_with (first | (go_at_call 47; refine HM.out.mono ?_; rintro e w8 hres; obtain ⟨hb8, rfl⟩ := made_big HBB.out hres; unfold TV.val; replace hR9 := hR9.below hb8 hR9.lt; replace hb9 := hb9.trans (hb8.mono hb9.size)) | (refine wpList_store_blk rfl 25 (.tmp 6) (.tmp 227) rfl hR9 #[.slice none 0 0, .slice none 0 0] rfl rfl (by kernel_rfl) rfl (by simp [Value.oneCell']) ?_; intro w9 hB9 hg9 hs9))
        exact ret_cell_t rfl rfl (load_blk hB9 Tryz.underlying25 rfl (by kernel_rfl)) rfl ⟨zeroTV, by rw [HE.out]; rfl, fun _ => rfl, fun h => by rw [HE.out] at h; exact absurd h (by decide), hb9.trans (below_grown hg9 hb9.size (fun g e => by injection e with e; omega))⟩
      · have hE := show doE (openM ⟨nodes, files, some ⟨xb, xo, none⟩, nn, nc, some ⟨yb, yo, none⟩, fn, fc⟩ ds) ⟨7, p, q, mode, ref, hp, hq⟩ sd = 0 by rw [Hdo.out, if_neg (fun h => hbg (by rw [← Hnl.out]; exact h.2))]
        have hdm : doM (openM ⟨nodes, files, some ⟨xb, xo, none⟩, nn, nc, some ⟨yb, yo, none⟩, fn, fc⟩ ds) ⟨7, p, q, mode, ref, hp, hq⟩ sd = (openM ⟨nodes, files, some ⟨xb, xo, none⟩, nn, nc, some ⟨yb, yo, none⟩, fn, fc⟩ ds).made q hq mode d := by
          unfold doM; rw [if_pos ⟨hE, by simp⟩]; unfold opM
          rw [if_neg (by simp), if_neg (by simp), if_neg (by simp), if_neg (by simp), if_neg (by simp), if_pos (by simp)]
          show (openM ⟨nodes, files, some ⟨xb, xo, none⟩, nn, nc, some ⟨yb, yo, none⟩, fn, fc⟩ ds).made q hq mode (dataOf (openM ⟨nodes, files, some ⟨xb, xo, none⟩, nn, nc, some ⟨yb, yo, none⟩, fn, fc⟩ ds) (lookF nodes p)) = _
          rw [HlF.out, Hdt.out]
        have hw := Hwo.out
        rw [hdm] at hw
        have HE := Lib.hid hE; have HDM := Lib.hid hdm
        have HINV := Lib.hid hw.1; have HLEN := Lib.hid hw.2.1
        have hfn : fn ≤ nn := files_le HG.out HD.out
        have HAG := Lib.hid (agree_made (t := ⟨nodes, files, some ⟨xb, xo, none⟩, nn, nc, some ⟨yb, yo, none⟩, fn, fc⟩) (t' := ⟨nodes ++ [⟨q, fn, 0, hq⟩], files ++ [⟨mode, y.A, y.n, y.c⟩], some ⟨g6, 0, none⟩, nn + 1, c6, some ⟨g9, 0, none⟩, fn + 1, c9⟩) (ds := ds) (ds' := ds ++ [d]) Hfl.out (Hdl.out.trans Hfl.out) hw.1 (List.Perm.refl _) rfl rfl rfl rfl rfl rfl)
        have HSM := Lib.hid (small_tree (t := ⟨nodes ++ [⟨q, fn, 0, hq⟩], files ++ [⟨mode, y.A, y.n, y.c⟩], some ⟨g6, 0, none⟩, nn + 1, c6, some ⟨g9, 0, none⟩, fn + 1, c9⟩) (by show nn + 1 ≤ 256; omega) (by show fn + 1 ≤ 256; omega) (fun z hz => (List.mem_append.1 hz).elim (HG.out.small z) (fun e => by rw [List.mem_singleton.1 e]; exact hy8)))
        clear hE hdm hw
        have HM := Lib.hid (rmade_any _ _ _ HTD.out)
        go_wp2_with (first | (go_at_call 47; refine HM.out.mono ?_; rintro e w8 hres; obtain ⟨hb8, ⟨un, uf, uNA, unn, unc, uFA, ufn, ufc⟩, S, rfl, hTo⟩ := made_told HAG.out HINV.out HLEN.out HSM.out hres; unfold TV.val; have HTo := Lib.hid (hTo.base hb9.size); clear hTo hres; replace hR9 := hR9.below hb8 hR9.lt; replace hb9 := hb9.trans (hb8.mono hb9.size)) | (refine wpList_store_blk rfl 25 (.tmp 6) (.tmp 227) rfl hR9 #[.slice uNA unn unc, .slice uFA ufn ufc] rfl rfl (by kernel_rfl) rfl (by simp [Value.oneCell']) ?_; intro w9 hB9 hg9 hs9))
        exact ret_cell_t rfl rfl (load_blk hB9 Tryz.underlying25 rfl (by kernel_rfl)) rfl ⟨⟨un, uf, uNA, unn, unc, uFA, ufn, ufc⟩, by rw [HE.out]; rfl, fun h => absurd HE.out h, fun _ => ⟨S, by rw [HDM.out]; exact HTo.out.store hR9 hg9⟩, hb9.trans (below_grown hg9 hb9.size (fun g e => by injection e with e; omega))⟩
    · have hE : doE (openM ⟨nodes, files, NA, nn, nc, FA, fn, fc⟩ ds) ⟨7, p, q, mode, ref, hp, hq⟩ sd = absE nodes q := by
        rw [hdo]
        split
        · (unfold fullE; rw [if_pos (by simp)]; show (if filE nodes p = 0 then (if absE nodes q = 0 then (31 : Int) else absE nodes q) else filE nodes p) = _; rw [if_pos h0, if_neg h1])
        · unfold opE
          rw [if_neg (by simp), if_neg (by simp), if_neg (by simp), if_neg (by simp)]
          show bothE nodes p q = _
          unfold bothE; rw [if_pos h0]
      rw [h0, if_pos rfl] at hfil
      obtain ⟨kf, hkf⟩ : ∃ k, findI nodes p = k := ⟨_, rfl⟩
      rw [hkf] at hfil
      obtain ⟨E, hEE⟩ : ∃ E, absE nodes q = E := ⟨_, rfl⟩
      rw [hEE] at hE hvac h1
      have HE := Lib.hid hE; have HNE := Lib.hid h1; have HV := Lib.hid hvac; have HFL := Lib.hid hfil
      have hne := ne_b h1
      have n1 := hne.1; have n2 := hne.2
      clear hne hE hEE hvac h0 h1 hdo hkf hfil
      have hR := HP.out.R; have hb := HP.out.b
      go_wp2_with (first | (go_at_call 42; refine (hasTo7 _ _).mono ?_; rintro e w6 ⟨rfl, hw⟩; rw [hw]; clear hw; rw [show toB 7 = true from rfl]) | (go_at_call 43; refine (HFL.out _ (HD.out.tree.keep hb)).mono ?_; rintro e w6 ⟨rfl, hb6⟩; have HP6 := Lib.hid (HP.out.below hb6); have s0 := HP6.out.T.cell 0; have s1 := HP6.out.T.cell 1; have s2 := HP6.out.I.cell 2; replace hR := HP6.out.R; replace hb := HP6.out.b) | (go_at_call 44; refine (HV.out _ (HD.out.tree.keep hb)).mono ?_; rintro e w7 ⟨rfl, hb7⟩; replace hR := hR.below hb7 hR.lt; replace hb := hb.trans (hb7.mono hb.size)) | (refine wpList_store_blk rfl 25 (.tmp 6) (.tmp 81) rfl hR #[.slice none 0 0, .slice none 0 0] rfl rfl (by kernel_rfl) rfl (by simp [Value.oneCell']) ?_; intro w7 hB7 hg7 hs7))
      exact ret_cell_t rfl rfl (load_blk hB7 Tryz.underlying25 rfl (by kernel_rfl)) rfl ⟨zeroTV, by rw [HE.out]; rfl, fun _ => rfl, fun h => absurd (HE.out.symm.trans h) HNE.out, hb.trans (below_grown hg7 hb.size (fun g e => by injection e with e; omega))⟩
  · have hE : doE (openM ⟨nodes, files, NA, nn, nc, FA, fn, fc⟩ ds) ⟨7, p, q, mode, ref, hp, hq⟩ sd = filE nodes p := by
      rw [hdo]
      split
      · (unfold fullE; rw [if_pos (by simp)]; show (if filE nodes p = 0 then (if absE nodes q = 0 then (31 : Int) else absE nodes q) else filE nodes p) = _; rw [if_neg h0])
      · unfold opE
        rw [if_neg (by simp), if_neg (by simp), if_neg (by simp), if_neg (by simp)]
        show bothE nodes p q = _
        unfold bothE; rw [if_neg h0]
    rw [if_neg h0] at hfil
    obtain ⟨E, hEE⟩ : ∃ E, filE nodes p = E := ⟨_, rfl⟩
    rw [hEE] at hE hfil h0
    have HE := Lib.hid hE; have HNE := Lib.hid h0; have HFL := Lib.hid hfil
    have hne := ne_b h0
    have n1 := hne.1; have n2 := hne.2
    clear hne hE hEE hvac h0 hdo hfil
    have hR := HP.out.R; have hb := HP.out.b
    go_wp2_with (first | (go_at_call 42; refine (hasTo7 _ _).mono ?_; rintro e w6 ⟨rfl, hw⟩; rw [hw]; clear hw; rw [show toB 7 = true from rfl]) | (go_at_call 43; refine (HFL.out _ (HD.out.tree.keep hb)).mono ?_; rintro e w6 ⟨rfl, hb6⟩; replace hR := hR.below hb6 hR.lt; replace hb := hb.trans (hb6.mono hb.size)) | (refine wpList_store_blk rfl 25 (.tmp 6) (.tmp 81) rfl hR #[.slice none 0 0, .slice none 0 0] rfl rfl (by kernel_rfl) rfl (by simp [Value.oneCell']) ?_; intro w7 hB7 hg7 hs7))
    exact ret_cell_t rfl rfl (load_blk hB7 Tryz.underlying25 rfl (by kernel_rfl)) rfl ⟨zeroTV, by rw [HE.out]; rfl, fun _ => rfl, fun h => absurd (HE.out.symm.trans h) HNE.out, hb.trans (below_grown hg7 hb.size (fun g e => by injection e with e; omega))⟩
set_option maxRecDepth 100000 in
set_option maxHeartbeats 8000000 in
theorem rdo_3 (t : TV) (ds : List ByteArray) (p q : ByteArray) (mode ref : Int) (hp : p.size ≤ 9223372036854775807) (hq : q.size ≤ 9223372036854775807) (SA : Option Addr) (sn sc : Nat) (ss : List SC) (sd : List ByteArray) (w : World) (h : TreeD w t ds) (hS : StockAt w SA sn ss sd) (hl : looseE t = 0) (hF : firstE (toB 3) (modeB 3) ⟨3, p, q, mode, ref, hp, hq⟩ sd = 0) :
    Calls Tryz.prog 25 #[t.val, .agg #[.int .i64 3, .string p, .string q, .int .i64 mode, .int .i64 ref], .slice SA sn sc] w (DoRes (doE (openM t ds) ⟨3, p, q, mode, ref, hp, hq⟩ sd) (doM (openM t ds) ⟨3, p, q, mode, ref, hp, hq⟩ sd) w) := by
  have hloose := fun (W : World) (H : TreeAt W t) => rloose_any t W H
  have hfirst := fun (W : World) (H : StockAt W SA sn ss sd) => rfirst_any ⟨3, p, q, mode, ref, hp, hq⟩ SA sn sc ss sd W H
  have hE0 : rfirstE ⟨3, p, q, mode, ref, hp, hq⟩ sd = 0 := by unfold rfirstE; rw [if_neg (show ¬ isOp 3 = false by decide), if_neg (show ¬ (3 : Int) = 9 by decide)]; exact hF
  rw [hl] at hloose
  rw [hE0] at hfirst
  have hG := good_of_loose hl
  have hn1 := hG.nn
  have hf1 := hG.fn
  have HD := Lib.hid h; have HS := Lib.hid hS
  have hns := h.tree.ns
  have hfs := h.tree.fs
  obtain ⟨nodes, files, NA, nn, nc, FA, fn, fc⟩ := t
  simp only at hns hfs hn1 hf1
  unfold TV.val at hloose ⊢
  unfold Cmd.cells at hfirst
  have HLO := Lib.hid hloose; have HFI := Lib.hid hfirst; have HNs := Lib.hid hns; have HFs := Lib.hid hfs; have HG := Lib.hid hG; have HL := Lib.hid hl; have HF0 := Lib.hid hF
  clear hloose hfirst hE0 h hS hns hfs hG hl hF
  have hw3 : Below w.heap.size w (((w.alloc (.cells #[.slice NA nn nc, .slice FA fn fc] 25)).alloc (.cells #[.int .i64 3, .string p, .string q, .int .i64 mode, .int .i64 ref] 32)).alloc (.cells #[.slice none 0 0, .slice none 0 0] 25)) := (((Below.refl _ _).alloc (Nat.le_refl _) _).alloc (by simp) _).alloc (by simp; omega) _
  have hT := ((Blk.new w 25 #[.slice NA nn nc, .slice FA fn fc]).alloc (.cells #[.int .i64 3, .string p, .string q, .int .i64 mode, .int .i64 ref] 32)).alloc (.cells #[.slice none 0 0, .slice none 0 0] 25)
  have hI := (Blk.new (w.alloc (.cells #[.slice NA nn nc, .slice FA fn fc] 25)) 32 #[.int .i64 3, .string p, .string q, .int .i64 mode, .int .i64 ref]).alloc (.cells #[.slice none 0 0, .slice none 0 0] 25)
  have hR := Blk.new ((w.alloc (.cells #[.slice NA nn nc, .slice FA fn fc] 25)).alloc (.cells #[.int .i64 3, .string p, .string q, .int .i64 mode, .int .i64 ref] 32)) 25 #[.slice none 0 0, .slice none 0 0]
  simp only [World.size_alloc] at hI hR
  have t0 := hT.cell 0; have t1 := hT.cell 1
  go_enter Tryz.func25, Tryz.ntmps25
  go_upto_region 4 with (go_at_call 23; refine (HLO.out _ (HD.out.tree.keep hw3)).mono ?_; rintro e w1 ⟨rfl, hb1⟩)
  have hT1 := hT.below hb1 hT.lt; have hI1 := hI.below hb1 hI.lt; have hR1 := hR.below hb1 hR.lt
  have hw1 := hw3.trans (hb1.mono hw3.size)
  clear t0 t1 hT hI hR hw3 hb1
  have i0 := hI1.cell 0; have i1 := hI1.cell 1; have i2 := hI1.cell 2; have i3 := hI1.cell 3; have i4 := hI1.cell 4
  go_upto_region 7 with (go_at_call 41; refine (HFI.out _ (HS.out.keep hw1)).mono ?_; rintro e w2 ⟨rfl, hb2⟩)
  have hT2 := hT1.below hb2 hT1.lt; have hI2 := hI1.below hb2 hI1.lt; have hR2 := hR1.below hb2 hR1.lt
  have hw2 := hw1.trans (hb2.mono hw1.size)
  clear i0 i1 i2 i3 i4 hT1 hI1 hR1 hw1 hb2
  have i0 := hI2.cell 0
  have t0 := hT2.cell 0; have t1 := hT2.cell 1
  have hs2 := hw2.size
  go_upto_region 10 with (at_builtin; refine wpList_append_sl rfl _ _ _ rfl Tryz.nodeT rfl (World.ownsRow_nil w2 w.heap.size _ _) rfl (HNs.out.below hw2 (Nat.le_refl _)) (node_one nodes) (by unfold maxLen; omega) (by omega) hs2 ?_; intro A1 c1 w4 ho4 hg4 hat4)
  simp only [Nat.zero_add, List.nil_append] at ho4
  have hg4' : w2.grownBy w4 none := hg4
  have hT4 := hT2.grown hg4' (by simp); have hI4 := hI2.grown hg4' (by simp); have hR4 := hR2.grown hg4' (by simp)
  have hw4 := hw2.trans (below_grown hg4' hs2 (fun g e => by cases e))
  clear hg4 hg4' hat4 hT2 hI2 hR2 hw2 hs2 i0 t0 t1
  have t0 := hT4.cell 0; have t1 := hT4.cell 1; have i0 := hI4.cell 0
  have hs4 := hw4.size
  go_upto_region 11 with (at_builtin; refine wpList_append_sl rfl _ _ _ rfl Tryz.fileT rfl (World.ownsRow_nil w4 w.heap.size _ _) rfl (HFs.out.below hw4 (Nat.le_refl _)) (file_cells_one files) (by unfold maxLen; omega) (by omega) hs4 ?_; intro A2 c2 w5 ho5 hg5 hat5)
  simp only [Nat.zero_add, List.nil_append] at ho5
  have hg5' : w4.grownBy w5 none := hg5
  have HP := Lib.hid (show DoPre ⟨nodes, files, NA, nn, nc, FA, fn, fc⟩ ds w w5 #[.int .i64 3, .string p, .string q, .int .i64 mode, .int .i64 ref] A1 c1 A2 c2 from ⟨hT4.grown hg5' (by simp), hI4.grown hg5' (by simp), hR4.grown hg5' (by simp), own_keep1 ho4 (below_grown hg5' (Nat.le_refl _) (fun g e => by cases e)) (Nat.le_refl _), ho5, hw4.trans (below_grown hg5' hs4 (fun g e => by cases e))⟩)
  clear hg5 hg5' hat5 hT4 hI4 hR4 hw4 hs4 i0 t0 t1 ho4 ho5
  have t0 := HP.out.T.cell 0; have t1 := HP.out.T.cell 1
  have i0 := HP.out.I.cell 0; have i1 := HP.out.I.cell 1; have i2 := HP.out.I.cell 2; have i3 := HP.out.I.cell 3
  have hv := (first0 HF0.out).2.1
  have hv2 := (first0 HF0.out).2.2.1 rfl
  have hfil := fun (W : World) (H : TreeAt W ⟨nodes, files, NA, nn, nc, FA, fn, fc⟩) => rfile_any _ p W H (apart_of_rises HG.out.rises) (fun x hx => (HG.out.kind x hx).imp (·.1) (·.1)) hp hv
  have hvac := fun (W : World) (H : TreeAt W ⟨nodes, files, NA, nn, nc, FA, fn, fc⟩) => rvacant_any _ q W H (apart_of_rises HG.out.rises) (fun x hx => (HG.out.kind x hx).imp (·.1) (·.1)) hq hv2
  have hdo := doE_of (M := openM ⟨nodes, files, NA, nn, nc, FA, fn, fc⟩ ds) (c := ⟨3, p, q, mode, ref, hp, hq⟩) (sd := sd) (by simp [isOp]) (by simp) HF0.out
  simp only at hfil hvac
  unfold TV.val at hfil hvac
  have hwo := inv_do (M := openM ⟨nodes, files, NA, nn, nc, FA, fn, fc⟩ ds) (open_inv HD.out HL.out) (by show nodes.length ≤ 256; have := HD.out.tree.nl; simp only at this; omega) ⟨3, p, q, mode, ref, hp, hq⟩ sd
  have Hwo := Lib.hid hwo
  have hnl := HD.out.tree.nl
  simp only at hnl
  have Hnl := Lib.hid hnl
  clear hwo hnl
  unfold FileR at hfil
  unfold NumRes at hvac
  by_cases h0 : filE nodes p = 0
  · by_cases h1 : absE nodes q = 0
    · rw [if_neg (by simp [growB])] at hdo
      have hop : opE (openM ⟨nodes, files, NA, nn, nc, FA, fn, fc⟩ ds) ⟨3, p, q, mode, ref, hp, hq⟩ = 0 := by
        unfold opE
        rw [if_neg (by simp), if_neg (by simp), if_neg (by simp), if_neg (by simp)]
        show bothE nodes p q = 0
        unfold bothE; rw [if_pos h0, h1]
      rw [hop] at hdo
      have Hdo := Lib.hid hdo
      have HV := Lib.hid (h1 ▸ hvac)
      obtain ⟨hpre, hlf⟩ := fil0 h0
      obtain ⟨x0, hx0, hlF, _⟩ := pre0 hpre
      rw [hlF] at hlf
      obtain ⟨k, x, hkx, hfi, hk0⟩ : ∃ (k : Nat) (x : Node), nodeAt nodes p = some x ∧ findI nodes p = k ∧ nodes[k]? = some x := by
        rcases find_at (apart_of_rises HG.out.rises) p with ⟨h, _⟩ | h
        · rw [h] at hx0; cases hx0
        · exact h
      obtain rfl : x = x0 := by rw [hkx] at hx0; exact Option.some.inj hx0
      rw [h0, if_pos rfl, hfi] at hfil
      have HFL := Lib.hid hfil
      have hxp := (nodeAt_some hkx).2
      have hxm : x.mode = 0 := by
        rcases HG.out.kind x (nodeAt_some hkx).1 with h | h
        · omega
        · exact h.2.2
      have hxf : x.file < fn := by
        rcases HG.out.kind x (nodeAt_some hkx).1 with h | h
        · omega
        · exact h.2.1
      have hqn := abs0 h1
      have hkn : k < nn := by have := (List.getElem?_eq_some_iff.1 hk0).1; rw [Hnl.out] at this; exact this
      have hki : (k : Int) < nn := by omega
      have Hkx := Lib.hid hkx; have Hk0 := Lib.hid hk0; have HlF := Lib.hid hlF; have Hxp := Lib.hid hxp; have Hxm := Lib.hid hxm; have Hqn := Lib.hid hqn
      clear hop hdo hvac hfil h0 h1 hpre hx0 hlF hkx hfi hk0 hxp hxm hqn
      go_upto_region 34 with (first | (go_at_call 42; refine (hasTo7 _ _).mono ?_; rintro e w6 ⟨rfl, hw⟩; rw [hw]; clear hw; rw [show toB 3 = true from rfl]) | (go_at_call 43; refine (HFL.out _ (HD.out.tree.keep HP.out.b)).mono ?_; rintro e w6 ⟨rfl, hb6⟩; have HP6 := Lib.hid (HP.out.below hb6); have s0 := HP6.out.T.cell 0; have s1 := HP6.out.T.cell 1; have s2 := HP6.out.I.cell 2) | (go_at_call 44; refine (HV.out _ (HD.out.tree.keep HP6.out.b)).mono ?_; rintro e w7 ⟨rfl, hb7⟩; have HP7 := Lib.hid (HP6.out.below hb7); have j0 := HP7.out.I.cell 0))
      clear t0 t1 i0 i1 i2 i3 hb6 hb7 HP HP6 s0 s1 s2
      have hbs := HP7.out.b.size
      have HN7 := Lib.hid (show w7.ownsRow w.heap.size 56 3 (.slice A1 nn c1) nn (nodes.flatMap Node.list) from HP7.out.N)
      have HF7 := Lib.hid (show w7.ownsRow w.heap.size 59 2 (.slice A2 fn c2) fn (files.flatMap FC.list) from HP7.out.F)
      obtain ⟨xb, xo, x', hNA, hxb, hx', hc⟩ := (HNs.out.below HP7.out.b (Nat.le_refl _)).get Node.len Hnl.out hkn
      obtain rfl : x = x' := by have := Hk0.out; rw [this] at hx'; exact Option.some.inj hx'
      have d1 := hc 1 _ rfl
      clear hc hx'
      subst hNA
      obtain ⟨g1, rfl⟩ := own_some HN7.out (by omega)
      obtain ⟨cur, hNc⟩ := own_cur HN7.out
      have i2 := HP7.out.I.cell 2
      have f9 := hNc.frozen (k * 3)
      have e0 := (own_row HN7.out).1 (k * 3 + 0) _ (flat_get Node.len Hk0.out (j := 0) (by omega))
      simp only [Nat.zero_add, Nat.add_zero] at e0
      have hgl := hNc.lt
      go_upto_region 51 with (fail)
      have hR9 := HP7.out.R.set_ne ⟨g1, k * 3, none⟩ (.string q) (fun e => by have e : w.heap.size + 2 = g1 := e; exact HP7.out.R.ne_row HN7.out (by decide) (by rw [e]; rfl))
      have hb9 := HP7.out.b.setCell (p := ⟨g1, k * 3, none⟩) (own_row HN7.out).2.1 (.string q)
      have hF9 := own_blkset HF7.out hNc (by decide) (k * 3) (.string q)
      have hN9 := setc_own (i := k * 3) HN7.out (.string q)
      rw [show k * 3 = k * 3 + 0 from rfl, flat_setj Node.len Hk0.out (j := 0) (by omega) (x' := ⟨q, x.file, x.mode, hq⟩) (v := .string q) rfl] at hN9
      have HTD := Lib.hid (own_treeD (nodes := nodes.set k ⟨q, x.file, x.mode, hq⟩) (files := files) (ds := ds) hN9 hF9 (by rw [List.length_set]; exact Hnl.out) HD.out.tree.fl (HD.out.dat.keep hb9))
      clear hF9 hN9 i2 d1 f9 e0
      have hE : doE (openM ⟨nodes, files, some ⟨xb, xo, none⟩, nn, nc, FA, fn, fc⟩ ds) ⟨3, p, q, mode, ref, hp, hq⟩ sd = 0 := Hdo.out
      have hdm : doM (openM ⟨nodes, files, some ⟨xb, xo, none⟩, nn, nc, FA, fn, fc⟩ ds) ⟨3, p, q, mode, ref, hp, hq⟩ sd = ((openM ⟨nodes, files, some ⟨xb, xo, none⟩, nn, nc, FA, fn, fc⟩ ds).put ⟨q, x.file, 0, hq⟩).takeAt p := by
        unfold doM; rw [if_pos ⟨hE, by simp⟩]; unfold opM
        rw [if_neg (by simp), if_neg (by simp), if_pos (by simp)]
        show ((openM ⟨nodes, files, some ⟨xb, xo, none⟩, nn, nc, FA, fn, fc⟩ ds).put ⟨q, lookF nodes p, 0, hq⟩).takeAt p = _
        rw [HlF.out]
      obtain ⟨hpm, hfiles⟩ := ren_world (M := openM ⟨nodes, files, some ⟨xb, xo, none⟩, nn, nc, FA, fn, fc⟩ ds) (apart_of_rises HG.out.rises) Hkx.out Hk0.out Hxm.out Hqn.out hlf hq
      have hw := Hwo.out
      rw [hdm] at hw
      have HE := Lib.hid hE; have HDM := Lib.hid hdm
      have HINV := Lib.hid hw.1; have HLEN := Lib.hid hw.2.1
      have hnx : (((openM ⟨nodes, files, some ⟨xb, xo, none⟩, nn, nc, FA, fn, fc⟩ ds).put ⟨q, x.file, 0, hq⟩).takeAt p).next = fn := by rw [takeAt_next]; rfl
      have HAG := Lib.hid (agree_same (t' := ⟨nodes.set k ⟨q, x.file, x.mode, hq⟩, files, some ⟨g1, 0, none⟩, nn, c1, A2, fn, c2⟩) (ds := ds) hw.1 hpm rfl rfl hfiles hnx)
      have HSM := Lib.hid (small_tree (t := ⟨nodes.set k ⟨q, x.file, x.mode, hq⟩, files, some ⟨g1, 0, none⟩, nn, c1, A2, fn, c2⟩) hn1 hf1 HG.out.small)
      clear hE hdm hw hpm hfiles hnx
      have HM := Lib.hid (rmade_any _ _ _ HTD.out)
      go_wp2_with (first | (go_at_call 47; refine HM.out.mono ?_; rintro e w8 hres; obtain ⟨hb8, ⟨un, uf, uNA, unn, unc, uFA, ufn, ufc⟩, S, rfl, hTo⟩ := made_told HAG.out HINV.out HLEN.out HSM.out hres; unfold TV.val; have HTo := Lib.hid (hTo.base hb9.size); clear hTo hres; replace hR9 := hR9.below hb8 hR9.lt; replace hb9 := hb9.trans (hb8.mono hb9.size)) | (refine wpList_store_blk rfl 25 (.tmp 6) (.tmp 227) rfl hR9 #[.slice uNA unn unc, .slice uFA ufn ufc] rfl rfl (by kernel_rfl) rfl (by simp [Value.oneCell']) ?_; intro w9 hB9 hg9 hs9))
      exact ret_cell_t rfl rfl (load_blk hB9 Tryz.underlying25 rfl (by kernel_rfl)) rfl ⟨⟨un, uf, uNA, unn, unc, uFA, ufn, ufc⟩, by rw [HE.out]; rfl, fun h => absurd HE.out h, fun _ => ⟨S, by rw [HDM.out]; exact HTo.out.store hR9 hg9⟩, hb9.trans (below_grown hg9 hb9.size (fun g e => by injection e with e; omega))⟩
    · have hE : doE (openM ⟨nodes, files, NA, nn, nc, FA, fn, fc⟩ ds) ⟨3, p, q, mode, ref, hp, hq⟩ sd = absE nodes q := by
        rw [hdo]
        split
        · (rename_i hg; exact absurd hg.1 (by simp [growB]))
        · unfold opE
          rw [if_neg (by simp), if_neg (by simp), if_neg (by simp), if_neg (by simp)]
          show bothE nodes p q = _
          unfold bothE; rw [if_pos h0]
      rw [h0, if_pos rfl] at hfil
      obtain ⟨kf, hkf⟩ : ∃ k, findI nodes p = k := ⟨_, rfl⟩
      rw [hkf] at hfil
      obtain ⟨E, hEE⟩ : ∃ E, absE nodes q = E := ⟨_, rfl⟩
      rw [hEE] at hE hvac h1
      have HE := Lib.hid hE; have HNE := Lib.hid h1; have HV := Lib.hid hvac; have HFL := Lib.hid hfil
      have hne := ne_b h1
      have n1 := hne.1; have n2 := hne.2
      clear hne hE hEE hvac h0 h1 hdo hkf hfil
      have hR := HP.out.R; have hb := HP.out.b
      go_wp2_with (first | (go_at_call 42; refine (hasTo7 _ _).mono ?_; rintro e w6 ⟨rfl, hw⟩; rw [hw]; clear hw; rw [show toB 3 = true from rfl]) | (go_at_call 43; refine (HFL.out _ (HD.out.tree.keep hb)).mono ?_; rintro e w6 ⟨rfl, hb6⟩; have HP6 := Lib.hid (HP.out.below hb6); have s0 := HP6.out.T.cell 0; have s1 := HP6.out.T.cell 1; have s2 := HP6.out.I.cell 2; replace hR := HP6.out.R; replace hb := HP6.out.b) | (go_at_call 44; refine (HV.out _ (HD.out.tree.keep hb)).mono ?_; rintro e w7 ⟨rfl, hb7⟩; replace hR := hR.below hb7 hR.lt; replace hb := hb.trans (hb7.mono hb.size)) | (refine wpList_store_blk rfl 25 (.tmp 6) (.tmp 81) rfl hR #[.slice none 0 0, .slice none 0 0] rfl rfl (by kernel_rfl) rfl (by simp [Value.oneCell']) ?_; intro w7 hB7 hg7 hs7))
      exact ret_cell_t rfl rfl (load_blk hB7 Tryz.underlying25 rfl (by kernel_rfl)) rfl ⟨zeroTV, by rw [HE.out]; rfl, fun _ => rfl, fun h => absurd (HE.out.symm.trans h) HNE.out, hb.trans (below_grown hg7 hb.size (fun g e => by injection e with e; omega))⟩
  · have hE : doE (openM ⟨nodes, files, NA, nn, nc, FA, fn, fc⟩ ds) ⟨3, p, q, mode, ref, hp, hq⟩ sd = filE nodes p := by
      rw [hdo]
      split
      · (rename_i hg; exact absurd hg.1 (by simp [growB]))
      · unfold opE
        rw [if_neg (by simp), if_neg (by simp), if_neg (by simp), if_neg (by simp)]
        show bothE nodes p q = _
        unfold bothE; rw [if_neg h0]
    rw [if_neg h0] at hfil
    obtain ⟨E, hEE⟩ : ∃ E, filE nodes p = E := ⟨_, rfl⟩
    rw [hEE] at hE hfil h0
    have HE := Lib.hid hE; have HNE := Lib.hid h0; have HFL := Lib.hid hfil
    have hne := ne_b h0
    have n1 := hne.1; have n2 := hne.2
    clear hne hE hEE hvac h0 hdo hfil
    have hR := HP.out.R; have hb := HP.out.b
    go_wp2_with (first | (go_at_call 42; refine (hasTo7 _ _).mono ?_; rintro e w6 ⟨rfl, hw⟩; rw [hw]; clear hw; rw [show toB 3 = true from rfl]) | (go_at_call 43; refine (HFL.out _ (HD.out.tree.keep hb)).mono ?_; rintro e w6 ⟨rfl, hb6⟩; replace hR := hR.below hb6 hR.lt; replace hb := hb.trans (hb6.mono hb.size)) | (refine wpList_store_blk rfl 25 (.tmp 6) (.tmp 81) rfl hR #[.slice none 0 0, .slice none 0 0] rfl rfl (by kernel_rfl) rfl (by simp [Value.oneCell']) ?_; intro w7 hB7 hg7 hs7))
    exact ret_cell_t rfl rfl (load_blk hB7 Tryz.underlying25 rfl (by kernel_rfl)) rfl ⟨zeroTV, by rw [HE.out]; rfl, fun _ => rfl, fun h => absurd (HE.out.symm.trans h) HNE.out, hb.trans (below_grown hg7 hb.size (fun g e => by injection e with e; omega))⟩
end Go.Proofs.YthmeffpickejkaaGreat

namespace Go.Proofs.YthmeffpickejkaaGreat
open Go.RowKit


set_option maxRecDepth 100000 in
set_option maxHeartbeats 8000000 in
theorem rdo_2 (t : TV) (ds : List ByteArray) (p q : ByteArray) (mode ref : Int) (hp : p.size ≤ 9223372036854775807) (hq : q.size ≤ 9223372036854775807) (SA : Option Addr) (sn sc : Nat) (ss : List SC) (sd : List ByteArray) (w : World) (h : TreeD w t ds) (hS : StockAt w SA sn ss sd) (hl : looseE t = 0) (hF : firstE (toB 2) (modeB 2) ⟨2, p, q, mode, ref, hp, hq⟩ sd = 0) :
    Calls Tryz.prog 25 #[t.val, .agg #[.int .i64 2, .string p, .string q, .int .i64 mode, .int .i64 ref], .slice SA sn sc] w (DoRes (doE (openM t ds) ⟨2, p, q, mode, ref, hp, hq⟩ sd) (doM (openM t ds) ⟨2, p, q, mode, ref, hp, hq⟩ sd) w) := by
  have hloose := fun (W : World) (H : TreeAt W t) => rloose_any t W H
  have hfirst := fun (W : World) (H : StockAt W SA sn ss sd) => rfirst_any ⟨2, p, q, mode, ref, hp, hq⟩ SA sn sc ss sd W H
  have hE0 : rfirstE ⟨2, p, q, mode, ref, hp, hq⟩ sd = 0 := by unfold rfirstE; rw [if_neg (show ¬ isOp 2 = false by decide), if_neg (show ¬ (2 : Int) = 9 by decide)]; exact hF
  rw [hl] at hloose
  rw [hE0] at hfirst
  have hG := good_of_loose hl
  have hn1 := hG.nn
  have hf1 := hG.fn
  have HD := Lib.hid h; have HS := Lib.hid hS
  have hns := h.tree.ns
  have hfs := h.tree.fs
  obtain ⟨nodes, files, NA, nn, nc, FA, fn, fc⟩ := t
  simp only at hns hfs hn1 hf1
  unfold TV.val at hloose ⊢
  unfold Cmd.cells at hfirst
  have HLO := Lib.hid hloose; have HFI := Lib.hid hfirst; have HNs := Lib.hid hns; have HFs := Lib.hid hfs; have HG := Lib.hid hG; have HL := Lib.hid hl; have HF0 := Lib.hid hF
  clear hloose hfirst hE0 h hS hns hfs hG hl hF
  have hw3 : Below w.heap.size w (((w.alloc (.cells #[.slice NA nn nc, .slice FA fn fc] 25)).alloc (.cells #[.int .i64 2, .string p, .string q, .int .i64 mode, .int .i64 ref] 32)).alloc (.cells #[.slice none 0 0, .slice none 0 0] 25)) := (((Below.refl _ _).alloc (Nat.le_refl _) _).alloc (by simp) _).alloc (by simp; omega) _
  have hT := ((Blk.new w 25 #[.slice NA nn nc, .slice FA fn fc]).alloc (.cells #[.int .i64 2, .string p, .string q, .int .i64 mode, .int .i64 ref] 32)).alloc (.cells #[.slice none 0 0, .slice none 0 0] 25)
  have hI := (Blk.new (w.alloc (.cells #[.slice NA nn nc, .slice FA fn fc] 25)) 32 #[.int .i64 2, .string p, .string q, .int .i64 mode, .int .i64 ref]).alloc (.cells #[.slice none 0 0, .slice none 0 0] 25)
  have hR := Blk.new ((w.alloc (.cells #[.slice NA nn nc, .slice FA fn fc] 25)).alloc (.cells #[.int .i64 2, .string p, .string q, .int .i64 mode, .int .i64 ref] 32)) 25 #[.slice none 0 0, .slice none 0 0]
  simp only [World.size_alloc] at hI hR
  have t0 := hT.cell 0; have t1 := hT.cell 1
  go_enter Tryz.func25, Tryz.ntmps25
  go_upto_region 4 with (go_at_call 23; refine (HLO.out _ (HD.out.tree.keep hw3)).mono ?_; rintro e w1 ⟨rfl, hb1⟩)
  have hT1 := hT.below hb1 hT.lt; have hI1 := hI.below hb1 hI.lt; have hR1 := hR.below hb1 hR.lt
  have hw1 := hw3.trans (hb1.mono hw3.size)
  clear t0 t1 hT hI hR hw3 hb1
  have i0 := hI1.cell 0; have i1 := hI1.cell 1; have i2 := hI1.cell 2; have i3 := hI1.cell 3; have i4 := hI1.cell 4
  go_upto_region 7 with (go_at_call 41; refine (HFI.out _ (HS.out.keep hw1)).mono ?_; rintro e w2 ⟨rfl, hb2⟩)
  have hT2 := hT1.below hb2 hT1.lt; have hI2 := hI1.below hb2 hI1.lt; have hR2 := hR1.below hb2 hR1.lt
  have hw2 := hw1.trans (hb2.mono hw1.size)
  clear i0 i1 i2 i3 i4 hT1 hI1 hR1 hw1 hb2
  have i0 := hI2.cell 0
  have t0 := hT2.cell 0; have t1 := hT2.cell 1
  have hs2 := hw2.size
  go_upto_region 10 with (at_builtin; refine wpList_append_sl rfl _ _ _ rfl Tryz.nodeT rfl (World.ownsRow_nil w2 w.heap.size _ _) rfl (HNs.out.below hw2 (Nat.le_refl _)) (node_one nodes) (by unfold maxLen; omega) (by omega) hs2 ?_; intro A1 c1 w4 ho4 hg4 hat4)
  simp only [Nat.zero_add, List.nil_append] at ho4
  have hg4' : w2.grownBy w4 none := hg4
  have hT4 := hT2.grown hg4' (by simp); have hI4 := hI2.grown hg4' (by simp); have hR4 := hR2.grown hg4' (by simp)
  have hw4 := hw2.trans (below_grown hg4' hs2 (fun g e => by cases e))
  clear hg4 hg4' hat4 hT2 hI2 hR2 hw2 hs2 i0 t0 t1
  have t0 := hT4.cell 0; have t1 := hT4.cell 1; have i0 := hI4.cell 0
  have hs4 := hw4.size
  go_upto_region 11 with (at_builtin; refine wpList_append_sl rfl _ _ _ rfl Tryz.fileT rfl (World.ownsRow_nil w4 w.heap.size _ _) rfl (HFs.out.below hw4 (Nat.le_refl _)) (file_cells_one files) (by unfold maxLen; omega) (by omega) hs4 ?_; intro A2 c2 w5 ho5 hg5 hat5)
  simp only [Nat.zero_add, List.nil_append] at ho5
  have hg5' : w4.grownBy w5 none := hg5
  have HP := Lib.hid (show DoPre ⟨nodes, files, NA, nn, nc, FA, fn, fc⟩ ds w w5 #[.int .i64 2, .string p, .string q, .int .i64 mode, .int .i64 ref] A1 c1 A2 c2 from ⟨hT4.grown hg5' (by simp), hI4.grown hg5' (by simp), hR4.grown hg5' (by simp), own_keep1 ho4 (below_grown hg5' (Nat.le_refl _) (fun g e => by cases e)) (Nat.le_refl _), ho5, hw4.trans (below_grown hg5' hs4 (fun g e => by cases e))⟩)
  clear hg5 hg5' hat5 hT4 hI4 hR4 hw4 hs4 i0 t0 t1 ho4 ho5
  have t0 := HP.out.T.cell 0; have t1 := HP.out.T.cell 1
  have i0 := HP.out.I.cell 0; have i1 := HP.out.I.cell 1; have i2 := HP.out.I.cell 2; have i3 := HP.out.I.cell 3
  have hv := (first0 HF0.out).2.1
  have hlk := fun (W : World) (H : TreeAt W ⟨nodes, files, NA, nn, nc, FA, fn, fc⟩) => rlook_any _ p W H (apart_of_rises HG.out.rises) (fun x hx => (HG.out.kind x hx).imp (·.1) (·.1)) hp hv
  have hdo := doE_of (M := openM ⟨nodes, files, NA, nn, nc, FA, fn, fc⟩ ds) (c := ⟨2, p, q, mode, ref, hp, hq⟩) (sd := sd) (by simp [isOp]) (by simp) HF0.out
  rw [if_neg (by simp [growB])] at hdo
  simp only at hlk
  unfold TV.val at hlk
  have hwo := inv_do (M := openM ⟨nodes, files, NA, nn, nc, FA, fn, fc⟩ ds) (open_inv HD.out HL.out) (by show nodes.length ≤ 256; have := HD.out.tree.nl; simp only at this; omega) ⟨2, p, q, mode, ref, hp, hq⟩ sd
  have Hwo := Lib.hid hwo
  have hnl := HD.out.tree.nl
  simp only at hnl
  have Hnl := Lib.hid hnl
  clear hwo hnl
  unfold LookR at hlk
  by_cases h0 : lookE nodes p = 0
  · rcases find_at (apart_of_rises HG.out.rises) p with ⟨hno, hfi⟩ | ⟨k, x, hkx, hfi, hk0⟩
    · have hT : lookT nodes p = false := by rw [lookT, hno]; simp
      have hpre : preE nodes p = 21 := by rw [preE, if_pos ⟨h0, hT⟩]
      have hE : doE (openM ⟨nodes, files, NA, nn, nc, FA, fn, fc⟩ ds) ⟨2, p, q, mode, ref, hp, hq⟩ sd = 21 := by
        rw [hdo, ← hpre]
        exact op2_pre (M := openM ⟨nodes, files, NA, nn, nc, FA, fn, fc⟩ ds) (by show preE nodes p ≠ 0; rw [hpre]; simp)
      rw [h0, if_pos rfl, hfi] at hlk
      have HE := Lib.hid hE; have HNE := Lib.hid (show ¬ (21 : Int) = 0 by decide); have HLK := Lib.hid hlk
      clear hE h0 hdo hlk hpre hT hno hfi
      have hR := HP.out.R; have hb := HP.out.b
      go_wp2_with (first | (go_at_call 42; refine (hasTo7 _ _).mono ?_; rintro e w6 ⟨rfl, hw⟩; rw [hw]; clear hw; rw [show toB 2 = false from rfl]) | (go_at_call 45; refine (HLK.out _ (HD.out.tree.keep hb)).mono ?_; rintro e w6 ⟨rfl, hb6⟩; replace hR := hR.below hb6 hR.lt; replace hb := hb.trans (hb6.mono hb.size)) | (refine wpList_store_blk rfl 25 (.tmp 6) (.tmp 81) rfl hR #[.slice none 0 0, .slice none 0 0] rfl rfl (by kernel_rfl) rfl (by simp [Value.oneCell']) ?_; intro w7 hB7 hg7 hs7))
      exact ret_cell_t rfl rfl (load_blk hB7 Tryz.underlying25 rfl (by kernel_rfl)) rfl ⟨zeroTV, by rw [HE.out]; rfl, fun _ => rfl, fun h => absurd (HE.out.symm.trans h) HNE.out, hb.trans (below_grown hg7 hb.size (fun g e => by injection e with e; omega))⟩
    · have hT : lookT nodes p = true := by rw [lookT, hkx, h0]; simp
      have hpre : preE nodes p = 0 := by rw [preE, if_neg (by rw [hT]; simp), h0]
      have hlF : lookF nodes p = x.file := by rw [lookF, if_pos h0, hkx]; rfl
      rw [h0, if_pos rfl, hfi] at hlk
      have HLK := Lib.hid hlk
      have hxp := (nodeAt_some hkx).2
      have hkn : k < nn := by have := (List.getElem?_eq_some_iff.1 hk0).1; rw [Hnl.out] at this; exact this
      have hki : (k : Int) < nn := by omega
      have hk00 : ¬ (k : Int) < 0 := by omega
      have Hkx := Lib.hid hkx; have Hk0 := Lib.hid hk0; have HlF := Lib.hid hlF; have Hxp := Lib.hid hxp; have Hpre := Lib.hid hpre; have Hdo := Lib.hid hdo
      have hkind := HG.out.kind x (nodeAt_some hkx).1
      clear hdo hlk h0 hpre hlF hkx hfi hk0 hxp hT
      go_upto_region 28 with (first | (go_at_call 42; refine (hasTo7 _ _).mono ?_; rintro e w6 ⟨rfl, hw⟩; rw [hw]; clear hw; rw [show toB 2 = false from rfl]) | (go_at_call 45; refine (HLK.out _ (HD.out.tree.keep HP.out.b)).mono ?_; rintro e w7 ⟨rfl, hb7⟩; have HP7 := Lib.hid (HP.out.below hb7); have j0 := HP7.out.I.cell 0))
      clear t0 t1 i0 i1 i2 i3 hb7 HP
      have hbs := HP7.out.b.size
      have HN7 := Lib.hid (show w7.ownsRow w.heap.size 56 3 (.slice A1 nn c1) nn (nodes.flatMap Node.list) from HP7.out.N)
      have HF7 := Lib.hid (show w7.ownsRow w.heap.size 59 2 (.slice A2 fn c2) fn (files.flatMap FC.list) from HP7.out.F)
      obtain ⟨xb, xo, x', hNA, hxb, hx', hc⟩ := (HNs.out.below HP7.out.b (Nat.le_refl _)).get Node.len Hnl.out hkn
      obtain rfl : x = x' := by have := Hk0.out; rw [this] at hx'; exact Option.some.inj hx'
      have d1 := hc 1 _ rfl
      clear hc hx'
      subst hNA
      have t0 := HP7.out.T.cell 0; have t1 := HP7.out.T.cell 1
      obtain ⟨g1, rfl⟩ := own_some HN7.out (by omega)
      have hopv : opE (openM ⟨nodes, files, some ⟨xb, xo, none⟩, nn, nc, FA, fn, fc⟩ ds) ⟨2, p, q, mode, ref, hp, hq⟩ = if 0 ≤ x.file then 22 else if 0 < kidsC nodes p then 25 else 0 := by
        unfold opE
        rw [if_neg (by simp), if_pos (by simp)]
        show rmE (openM ⟨nodes, files, some ⟨xb, xo, none⟩, nn, nc, FA, fn, fc⟩ ds) p = _
        unfold rmE
        show (if preE nodes p ≠ 0 then preE nodes p else if 0 ≤ lookF nodes p then (22 : Int) else if 0 < kidsC nodes p then 25 else 0) = _
        rw [if_neg (fun h => h Hpre.out), HlF.out]
      by_cases hxf : x.file = -1
      · rw [hxf] at d1
        rw [if_neg (by rw [hxf]; decide)] at hopv
        have Hxf := Lib.hid hxf
        have i1 := HP7.out.I.cell 1
        have hkd := fun (W : World) (H : TreeAt W ⟨nodes, files, some ⟨xb, xo, none⟩, nn, nc, FA, fn, fc⟩) => rkids6_any _ p W H (by show nn ≤ 1000000; omega)
        unfold TV.val at hkd
        unfold TextsRes at hkd
        simp only at hkd
        have HKD := Lib.hid hkd
        have hkc := kids_count nodes p
        clear hkd hxf
        by_cases hks : 0 < kidsC nodes p
        · have HE := Lib.hid (show doE (openM ⟨nodes, files, some ⟨xb, xo, none⟩, nn, nc, FA, fn, fc⟩ ds) ⟨2, p, q, mode, ref, hp, hq⟩ sd = 25 by rw [Hdo.out, hopv, if_pos hks])
          have HNE := Lib.hid (show ¬ (25 : Int) = 0 by decide)
          have hR := HP7.out.R; have hb := HP7.out.b
          have Hkc := Lib.hid hkc; have Hks := Lib.hid hks
          have hksi : (0 : Int) < (picks (kidsF p) nodes).length := by rw [hkc]; omega
          clear hopv hkc hks
          go_wp2_with (first | (go_at_call 28; refine (HKD.out _ (HD.out.tree.keep hb)).mono ?_; rintro e w8 ⟨A8, _, c8, rfl, rfl, ho8, hb8⟩; replace hR := hR.below hb8 hR.lt; replace hb := hb.trans (hb8.mono hb.size)) | (refine wpList_store_blk rfl 25 (.tmp 6) (.tmp 111) rfl hR #[.slice none 0 0, .slice none 0 0] rfl rfl (by kernel_rfl) rfl (by simp [Value.oneCell']) ?_; intro w7 hB7 hg7 hs7))
          exact ret_cell_t rfl rfl (load_blk hB7 Tryz.underlying25 rfl (by kernel_rfl)) rfl ⟨zeroTV, by rw [HE.out]; rfl, fun _ => rfl, fun h => absurd (HE.out.symm.trans h) HNE.out, hb.trans (below_grown hg7 hb.size (fun g e => by injection e with e; omega))⟩
        · have hE : doE (openM ⟨nodes, files, some ⟨xb, xo, none⟩, nn, nc, FA, fn, fc⟩ ds) ⟨2, p, q, mode, ref, hp, hq⟩ sd = 0 := by rw [Hdo.out, hopv, if_neg hks]
          have hksi : ¬ (0 : Int) < (picks (kidsF p) nodes).length := by rw [hkc]; omega
          have HE0 := Lib.hid hE
          clear hopv hkc hks hE
          go_upto_region 32 with (go_at_call 28; refine (HKD.out _ (HD.out.tree.keep HP7.out.b)).mono ?_; rintro e w8 ⟨A8, _, c8, rfl, rfl, ho8, hb8⟩; have HP8 := Lib.hid (HP7.out.below hb8))
          have HN8 := Lib.hid (own_keep1 HN7.out hb8 (Nat.le_refl _)); have HF8 := Lib.hid (own_keep1 HF7.out hb8 (Nat.le_refl _))
          clear ho8 hb8 i1 d1 t0 t1 hksi
          have HW := Lib.hid (rwithout_any nodes g1 nn c1 k w.heap.size w8 HN8.out Hnl.out hkn (by omega))
          go_upto_region 51 with (go_at_call 46; refine HW.out.mono ?_; rintro e w9 ⟨A9, c9, rfl, ho9, hb9'⟩; rw [Hnl.out] at ho9 ⊢)
          have hR9 := HP8.out.R.below hb9' HP8.out.R.lt
          have hb9 := HP8.out.b.trans (hb9'.mono HP8.out.b.size)
          have hF9 := own_keep1 HF8.out hb9' (Nat.le_refl _)
          have HTD := Lib.hid (own_treeD (nodes := nodes.take k ++ nodes.drop (k + 1)) (files := files) (ds := ds) (own_low ho9 HP8.out.b.size) hF9 (by rw [List.length_append, List.length_take, List.length_drop, Hnl.out]; omega) HD.out.tree.fl (HD.out.dat.keep hb9))
          clear ho9 hF9
          have hE := HE0.out
          have hdm : doM (openM ⟨nodes, files, some ⟨xb, xo, none⟩, nn, nc, FA, fn, fc⟩ ds) ⟨2, p, q, mode, ref, hp, hq⟩ sd = (openM ⟨nodes, files, some ⟨xb, xo, none⟩, nn, nc, FA, fn, fc⟩ ds).takeAt p := by
            unfold doM; rw [if_pos ⟨hE, by simp⟩]; unfold opM
            rw [if_neg (by simp), if_pos (by simp)]
          have hw := Hwo.out
          rw [hdm] at hw
          have HE := Lib.hid hE; have HDM := Lib.hid hdm
          have HINV := Lib.hid hw.1; have HLEN := Lib.hid hw.2.1
          obtain ⟨hwn, hwf⟩ := take_world (M := openM ⟨nodes, files, some ⟨xb, xo, none⟩, nn, nc, FA, fn, fc⟩ ds) (apart_of_rises HG.out.rises) Hkx.out Hk0.out
          have hnx : ((openM ⟨nodes, files, some ⟨xb, xo, none⟩, nn, nc, FA, fn, fc⟩ ds).takeAt p).next = fn := by rw [takeAt_next]; rfl
          have HAG := Lib.hid (agree_take (t' := ⟨nodes.take k ++ nodes.drop (k + 1), files, A9, nn - 1, c9, A2, fn, c2⟩) (ds := ds) (j := x.file) hw.1 (by rw [hwn]; exact List.Perm.refl _) rfl rfl hwf hnx)
          have HSM := Lib.hid (small_tree (t := ⟨nodes.take k ++ nodes.drop (k + 1), files, A9, nn - 1, c9, A2, fn, c2⟩) (by show nn - 1 ≤ 256; omega) hf1 HG.out.small)
          clear hE hdm hw hwn hwf hnx
          have HM := Lib.hid (rmade_any _ _ _ HTD.out)
          go_wp2_with (first | (go_at_call 47; refine HM.out.mono ?_; rintro e w8 hres; obtain ⟨hb8, ⟨un, uf, uNA, unn, unc, uFA, ufn, ufc⟩, S, rfl, hTo⟩ := made_told HAG.out HINV.out HLEN.out HSM.out hres; unfold TV.val; have HTo := Lib.hid (hTo.base hb9.size); clear hTo hres; replace hR9 := hR9.below hb8 hR9.lt; replace hb9 := hb9.trans (hb8.mono hb9.size)) | (refine wpList_store_blk rfl 25 (.tmp 6) (.tmp 227) rfl hR9 #[.slice uNA unn unc, .slice uFA ufn ufc] rfl rfl (by kernel_rfl) rfl (by simp [Value.oneCell']) ?_; intro w9 hB9 hg9 hs9))
          exact ret_cell_t rfl rfl (load_blk hB9 Tryz.underlying25 rfl (by kernel_rfl)) rfl ⟨⟨un, uf, uNA, unn, unc, uFA, ufn, ufc⟩, by rw [HE.out]; rfl, fun h => absurd HE.out h, fun _ => ⟨S, by rw [HDM.out]; exact HTo.out.store hR9 hg9⟩, hb9.trans (below_grown hg9 hb9.size (fun g e => by injection e with e; omega))⟩
      · have hx0 : 0 ≤ x.file := by rcases hkind with h | h; exact absurd h.1 hxf; exact h.1
        rw [if_pos hx0] at hopv
        have HE := Lib.hid (show doE (openM ⟨nodes, files, some ⟨xb, xo, none⟩, nn, nc, FA, fn, fc⟩ ds) ⟨2, p, q, mode, ref, hp, hq⟩ sd = 22 by rw [Hdo.out, hopv])
        have HNE := Lib.hid (show ¬ (22 : Int) = 0 by decide)
        have hxn := (ne_b hxf).2
        have hR := HP7.out.R; have hb := HP7.out.b
        clear hopv hkind hxf
        go_wp2_with (first | (fail) | (refine wpList_store_blk rfl 25 (.tmp 6) (.tmp 104) rfl hR #[.slice none 0 0, .slice none 0 0] rfl rfl (by kernel_rfl) rfl (by simp [Value.oneCell']) ?_; intro w7 hB7 hg7 hs7))
        exact ret_cell_t rfl rfl (load_blk hB7 Tryz.underlying25 rfl (by kernel_rfl)) rfl ⟨zeroTV, by rw [HE.out]; rfl, fun _ => rfl, fun h => absurd (HE.out.symm.trans h) HNE.out, hb.trans (below_grown hg7 hb.size (fun g e => by injection e with e; omega))⟩
  · have hpre : preE nodes p = lookE nodes p := by rw [preE, if_neg (fun h => h0 h.1)]
    have hE : doE (openM ⟨nodes, files, NA, nn, nc, FA, fn, fc⟩ ds) ⟨2, p, q, mode, ref, hp, hq⟩ sd = lookE nodes p := by
      rw [hdo, ← hpre]
      exact op2_pre (M := openM ⟨nodes, files, NA, nn, nc, FA, fn, fc⟩ ds) (by show preE nodes p ≠ 0; rw [hpre]; exact h0)
    rw [if_neg h0] at hlk
    obtain ⟨E, hEE⟩ : ∃ E, lookE nodes p = E := ⟨_, rfl⟩
    rw [hEE] at hE hlk h0
    have HE := Lib.hid hE; have HNE := Lib.hid h0; have HLK := Lib.hid hlk
    have hne := ne_b h0
    have n1 := hne.1; have n2 := hne.2
    clear hne hE hEE h0 hdo hlk hpre
    have hR := HP.out.R; have hb := HP.out.b
    go_wp2_with (first | (go_at_call 42; refine (hasTo7 _ _).mono ?_; rintro e w6 ⟨rfl, hw⟩; rw [hw]; clear hw; rw [show toB 2 = false from rfl]) | (go_at_call 45; refine (HLK.out _ (HD.out.tree.keep hb)).mono ?_; rintro e w6 ⟨rfl, hb6⟩; replace hR := hR.below hb6 hR.lt; replace hb := hb.trans (hb6.mono hb.size)) | (refine wpList_store_blk rfl 25 (.tmp 6) (.tmp 81) rfl hR #[.slice none 0 0, .slice none 0 0] rfl rfl (by kernel_rfl) rfl (by simp [Value.oneCell']) ?_; intro w7 hB7 hg7 hs7))
    exact ret_cell_t rfl rfl (load_blk hB7 Tryz.underlying25 rfl (by kernel_rfl)) rfl ⟨zeroTV, by rw [HE.out]; rfl, fun _ => rfl, fun h => absurd (HE.out.symm.trans h) HNE.out, hb.trans (below_grown hg7 hb.size (fun g e => by injection e with e; omega))⟩
set_option maxRecDepth 100000 in
set_option maxHeartbeats 8000000 in
theorem rdo_5 (t : TV) (ds : List ByteArray) (p q : ByteArray) (mode ref : Int) (hp : p.size ≤ 9223372036854775807) (hq : q.size ≤ 9223372036854775807) (SA : Option Addr) (sn sc : Nat) (ss : List SC) (sd : List ByteArray) (w : World) (h : TreeD w t ds) (hS : StockAt w SA sn ss sd) (hl : looseE t = 0) (hF : firstE (toB 5) (modeB 5) ⟨5, p, q, mode, ref, hp, hq⟩ sd = 0) :
    Calls Tryz.prog 25 #[t.val, .agg #[.int .i64 5, .string p, .string q, .int .i64 mode, .int .i64 ref], .slice SA sn sc] w (DoRes (doE (openM t ds) ⟨5, p, q, mode, ref, hp, hq⟩ sd) (doM (openM t ds) ⟨5, p, q, mode, ref, hp, hq⟩ sd) w) := by
  have hloose := fun (W : World) (H : TreeAt W t) => rloose_any t W H
  have hfirst := fun (W : World) (H : StockAt W SA sn ss sd) => rfirst_any ⟨5, p, q, mode, ref, hp, hq⟩ SA sn sc ss sd W H
  have hE0 : rfirstE ⟨5, p, q, mode, ref, hp, hq⟩ sd = 0 := by unfold rfirstE; rw [if_neg (show ¬ isOp 5 = false by decide), if_neg (show ¬ (5 : Int) = 9 by decide)]; exact hF
  rw [hl] at hloose
  rw [hE0] at hfirst
  have hG := good_of_loose hl
  have hn1 := hG.nn
  have hf1 := hG.fn
  have HD := Lib.hid h; have HS := Lib.hid hS
  have hns := h.tree.ns
  have hfs := h.tree.fs
  obtain ⟨nodes, files, NA, nn, nc, FA, fn, fc⟩ := t
  simp only at hns hfs hn1 hf1
  unfold TV.val at hloose ⊢
  unfold Cmd.cells at hfirst
  have HLO := Lib.hid hloose; have HFI := Lib.hid hfirst; have HNs := Lib.hid hns; have HFs := Lib.hid hfs; have HG := Lib.hid hG; have HL := Lib.hid hl; have HF0 := Lib.hid hF
  clear hloose hfirst hE0 h hS hns hfs hG hl hF
  have hw3 : Below w.heap.size w (((w.alloc (.cells #[.slice NA nn nc, .slice FA fn fc] 25)).alloc (.cells #[.int .i64 5, .string p, .string q, .int .i64 mode, .int .i64 ref] 32)).alloc (.cells #[.slice none 0 0, .slice none 0 0] 25)) := (((Below.refl _ _).alloc (Nat.le_refl _) _).alloc (by simp) _).alloc (by simp; omega) _
  have hT := ((Blk.new w 25 #[.slice NA nn nc, .slice FA fn fc]).alloc (.cells #[.int .i64 5, .string p, .string q, .int .i64 mode, .int .i64 ref] 32)).alloc (.cells #[.slice none 0 0, .slice none 0 0] 25)
  have hI := (Blk.new (w.alloc (.cells #[.slice NA nn nc, .slice FA fn fc] 25)) 32 #[.int .i64 5, .string p, .string q, .int .i64 mode, .int .i64 ref]).alloc (.cells #[.slice none 0 0, .slice none 0 0] 25)
  have hR := Blk.new ((w.alloc (.cells #[.slice NA nn nc, .slice FA fn fc] 25)).alloc (.cells #[.int .i64 5, .string p, .string q, .int .i64 mode, .int .i64 ref] 32)) 25 #[.slice none 0 0, .slice none 0 0]
  simp only [World.size_alloc] at hI hR
  have t0 := hT.cell 0; have t1 := hT.cell 1
  go_enter Tryz.func25, Tryz.ntmps25
  go_upto_region 4 with (go_at_call 23; refine (HLO.out _ (HD.out.tree.keep hw3)).mono ?_; rintro e w1 ⟨rfl, hb1⟩)
  have hT1 := hT.below hb1 hT.lt; have hI1 := hI.below hb1 hI.lt; have hR1 := hR.below hb1 hR.lt
  have hw1 := hw3.trans (hb1.mono hw3.size)
  clear t0 t1 hT hI hR hw3 hb1
  have i0 := hI1.cell 0; have i1 := hI1.cell 1; have i2 := hI1.cell 2; have i3 := hI1.cell 3; have i4 := hI1.cell 4
  go_upto_region 7 with (go_at_call 41; refine (HFI.out _ (HS.out.keep hw1)).mono ?_; rintro e w2 ⟨rfl, hb2⟩)
  have hT2 := hT1.below hb2 hT1.lt; have hI2 := hI1.below hb2 hI1.lt; have hR2 := hR1.below hb2 hR1.lt
  have hw2 := hw1.trans (hb2.mono hw1.size)
  clear i0 i1 i2 i3 i4 hT1 hI1 hR1 hw1 hb2
  have i0 := hI2.cell 0
  have t0 := hT2.cell 0; have t1 := hT2.cell 1
  have hs2 := hw2.size
  go_upto_region 10 with (at_builtin; refine wpList_append_sl rfl _ _ _ rfl Tryz.nodeT rfl (World.ownsRow_nil w2 w.heap.size _ _) rfl (HNs.out.below hw2 (Nat.le_refl _)) (node_one nodes) (by unfold maxLen; omega) (by omega) hs2 ?_; intro A1 c1 w4 ho4 hg4 hat4)
  simp only [Nat.zero_add, List.nil_append] at ho4
  have hg4' : w2.grownBy w4 none := hg4
  have hT4 := hT2.grown hg4' (by simp); have hI4 := hI2.grown hg4' (by simp); have hR4 := hR2.grown hg4' (by simp)
  have hw4 := hw2.trans (below_grown hg4' hs2 (fun g e => by cases e))
  clear hg4 hg4' hat4 hT2 hI2 hR2 hw2 hs2 i0 t0 t1
  have t0 := hT4.cell 0; have t1 := hT4.cell 1; have i0 := hI4.cell 0
  have hs4 := hw4.size
  go_upto_region 11 with (at_builtin; refine wpList_append_sl rfl _ _ _ rfl Tryz.fileT rfl (World.ownsRow_nil w4 w.heap.size _ _) rfl (HFs.out.below hw4 (Nat.le_refl _)) (file_cells_one files) (by unfold maxLen; omega) (by omega) hs4 ?_; intro A2 c2 w5 ho5 hg5 hat5)
  simp only [Nat.zero_add, List.nil_append] at ho5
  have hg5' : w4.grownBy w5 none := hg5
  have HP := Lib.hid (show DoPre ⟨nodes, files, NA, nn, nc, FA, fn, fc⟩ ds w w5 #[.int .i64 5, .string p, .string q, .int .i64 mode, .int .i64 ref] A1 c1 A2 c2 from ⟨hT4.grown hg5' (by simp), hI4.grown hg5' (by simp), hR4.grown hg5' (by simp), own_keep1 ho4 (below_grown hg5' (Nat.le_refl _) (fun g e => by cases e)) (Nat.le_refl _), ho5, hw4.trans (below_grown hg5' hs4 (fun g e => by cases e))⟩)
  clear hg5 hg5' hat5 hT4 hI4 hR4 hw4 hs4 i0 t0 t1 ho4 ho5
  have t0 := HP.out.T.cell 0; have t1 := HP.out.T.cell 1
  have i0 := HP.out.I.cell 0; have i1 := HP.out.I.cell 1; have i2 := HP.out.I.cell 2; have i3 := HP.out.I.cell 3
  have hv := (first0 HF0.out).2.1
  have hlk := fun (W : World) (H : TreeAt W ⟨nodes, files, NA, nn, nc, FA, fn, fc⟩) => rlook_any _ p W H (apart_of_rises HG.out.rises) (fun x hx => (HG.out.kind x hx).imp (·.1) (·.1)) hp hv
  have hdo := doE_of (M := openM ⟨nodes, files, NA, nn, nc, FA, fn, fc⟩ ds) (c := ⟨5, p, q, mode, ref, hp, hq⟩) (sd := sd) (by simp [isOp]) (by simp) HF0.out
  rw [if_neg (by simp [growB])] at hdo
  simp only at hlk
  unfold TV.val at hlk
  have hwo := inv_do (M := openM ⟨nodes, files, NA, nn, nc, FA, fn, fc⟩ ds) (open_inv HD.out HL.out) (by show nodes.length ≤ 256; have := HD.out.tree.nl; simp only at this; omega) ⟨5, p, q, mode, ref, hp, hq⟩ sd
  have Hwo := Lib.hid hwo
  have hnl := HD.out.tree.nl
  simp only at hnl
  have Hnl := Lib.hid hnl
  clear hwo hnl
  unfold LookR at hlk
  by_cases h0 : lookE nodes p = 0
  · rcases find_at (apart_of_rises HG.out.rises) p with ⟨hno, hfi⟩ | ⟨k, x, hkx, hfi, hk0⟩
    · have hT : lookT nodes p = false := by rw [lookT, hno]; simp
      have hpre : preE nodes p = 21 := by rw [preE, if_pos ⟨h0, hT⟩]
      have hE : doE (openM ⟨nodes, files, NA, nn, nc, FA, fn, fc⟩ ds) ⟨5, p, q, mode, ref, hp, hq⟩ sd = 21 := by
        rw [hdo, ← hpre]
        exact op5_pre (M := openM ⟨nodes, files, NA, nn, nc, FA, fn, fc⟩ ds) (by show preE nodes p ≠ 0; rw [hpre]; simp)
      rw [h0, if_pos rfl, hfi] at hlk
      have HE := Lib.hid hE; have HNE := Lib.hid (show ¬ (21 : Int) = 0 by decide); have HLK := Lib.hid hlk
      clear hE h0 hdo hlk hpre hT hno hfi
      have hR := HP.out.R; have hb := HP.out.b
      go_wp2_with (first | (go_at_call 42; refine (hasTo7 _ _).mono ?_; rintro e w6 ⟨rfl, hw⟩; rw [hw]; clear hw; rw [show toB 5 = false from rfl]) | (go_at_call 45; refine (HLK.out _ (HD.out.tree.keep hb)).mono ?_; rintro e w6 ⟨rfl, hb6⟩; replace hR := hR.below hb6 hR.lt; replace hb := hb.trans (hb6.mono hb.size)) | (refine wpList_store_blk rfl 25 (.tmp 6) (.tmp 81) rfl hR #[.slice none 0 0, .slice none 0 0] rfl rfl (by kernel_rfl) rfl (by simp [Value.oneCell']) ?_; intro w7 hB7 hg7 hs7))
      exact ret_cell_t rfl rfl (load_blk hB7 Tryz.underlying25 rfl (by kernel_rfl)) rfl ⟨zeroTV, by rw [HE.out]; rfl, fun _ => rfl, fun h => absurd (HE.out.symm.trans h) HNE.out, hb.trans (below_grown hg7 hb.size (fun g e => by injection e with e; omega))⟩
    · have hT : lookT nodes p = true := by rw [lookT, hkx, h0]; simp
      have hpre : preE nodes p = 0 := by rw [preE, if_neg (by rw [hT]; simp), h0]
      have hlF : lookF nodes p = x.file := by rw [lookF, if_pos h0, hkx]; rfl
      rw [h0, if_pos rfl, hfi] at hlk
      have HLK := Lib.hid hlk
      have hxp := (nodeAt_some hkx).2
      have hkn : k < nn := by have := (List.getElem?_eq_some_iff.1 hk0).1; rw [Hnl.out] at this; exact this
      have hki : (k : Int) < nn := by omega
      have hk00 : ¬ (k : Int) < 0 := by omega
      have Hkx := Lib.hid hkx; have Hk0 := Lib.hid hk0; have HlF := Lib.hid hlF; have Hxp := Lib.hid hxp; have Hpre := Lib.hid hpre; have Hdo := Lib.hid hdo
      have hkind := HG.out.kind x (nodeAt_some hkx).1
      clear hdo hlk h0 hpre hlF hkx hfi hk0 hxp hT
      go_upto_region 38 with (first | (go_at_call 42; refine (hasTo7 _ _).mono ?_; rintro e w6 ⟨rfl, hw⟩; rw [hw]; clear hw; rw [show toB 5 = false from rfl]) | (go_at_call 45; refine (HLK.out _ (HD.out.tree.keep HP.out.b)).mono ?_; rintro e w7 ⟨rfl, hb7⟩; have HP7 := Lib.hid (HP.out.below hb7); have j0 := HP7.out.I.cell 0))
      clear t0 t1 i0 i1 i2 i3 hb7 HP
      have hbs := HP7.out.b.size
      have HN7 := Lib.hid (show w7.ownsRow w.heap.size 56 3 (.slice A1 nn c1) nn (nodes.flatMap Node.list) from HP7.out.N)
      have HF7 := Lib.hid (show w7.ownsRow w.heap.size 59 2 (.slice A2 fn c2) fn (files.flatMap FC.list) from HP7.out.F)
      obtain ⟨xb, xo, x', hNA, hxb, hx', hc⟩ := (HNs.out.below HP7.out.b (Nat.le_refl _)).get Node.len Hnl.out hkn
      obtain rfl : x = x' := by have := Hk0.out; rw [this] at hx'; exact Option.some.inj hx'
      have d1 := hc 1 _ rfl
      clear hc hx'
      subst hNA
      have t0 := HP7.out.T.cell 0; have t1 := HP7.out.T.cell 1
      obtain ⟨g1, rfl⟩ := own_some HN7.out (by omega)
      have hopv : opE (openM ⟨nodes, files, some ⟨xb, xo, none⟩, nn, nc, FA, fn, fc⟩ ds) ⟨5, p, q, mode, ref, hp, hq⟩ = if x.file < 0 then 24 else 0 := by
        unfold opE
        rw [if_neg (by simp), if_neg (by simp), if_pos (by simp)]
        show filE nodes p = _
        unfold filE
        rw [Hpre.out, HlF.out]
        by_cases h : x.file < 0
        · rw [if_pos ⟨rfl, h⟩, if_pos h]
        · rw [if_neg (fun h2 => h h2.2), if_neg h]
      by_cases hxf : x.file = -1
      · rw [if_pos (by rw [hxf]; decide)] at hopv
        have HE := Lib.hid (show doE (openM ⟨nodes, files, some ⟨xb, xo, none⟩, nn, nc, FA, fn, fc⟩ ds) ⟨5, p, q, mode, ref, hp, hq⟩ sd = 24 by rw [Hdo.out, hopv])
        have HNE := Lib.hid (show ¬ (24 : Int) = 0 by decide)
        rw [hxf] at d1
        have hR := HP7.out.R; have hb := HP7.out.b
        clear hopv hkind hxf
        go_wp2_with (first | (fail) | (refine wpList_store_blk rfl 25 (.tmp 6) (.tmp 146) rfl hR #[.slice none 0 0, .slice none 0 0] rfl rfl (by kernel_rfl) rfl (by simp [Value.oneCell']) ?_; intro w7 hB7 hg7 hs7))
        exact ret_cell_t rfl rfl (load_blk hB7 Tryz.underlying25 rfl (by kernel_rfl)) rfl ⟨zeroTV, by rw [HE.out]; rfl, fun _ => rfl, fun h => absurd (HE.out.symm.trans h) HNE.out, hb.trans (below_grown hg7 hb.size (fun g e => by injection e with e; omega))⟩
      · have hx0 : ¬ x.file < 0 := by rcases hkind with h | h; exact absurd h.1 hxf; omega
        rw [if_neg hx0] at hopv
        have HE0 := Lib.hid (show doE (openM ⟨nodes, files, some ⟨xb, xo, none⟩, nn, nc, FA, fn, fc⟩ ds) ⟨5, p, q, mode, ref, hp, hq⟩ sd = 0 by rw [Hdo.out, hopv])
        have hxn := (ne_b hxf).1
        clear hopv hkind hxf
        go_upto_region 40 with (fail)
        have HW := Lib.hid (rwithout_any nodes g1 nn c1 k w.heap.size w7 HN7.out Hnl.out hkn (by omega))
        go_upto_region 51 with (go_at_call 46; refine HW.out.mono ?_; rintro e w9 ⟨A9, c9, rfl, ho9, hb9'⟩; rw [Hnl.out] at ho9 ⊢)
        have hR9 := HP7.out.R.below hb9' HP7.out.R.lt
        have hb9 := HP7.out.b.trans (hb9'.mono HP7.out.b.size)
        have hF9 := own_keep1 HF7.out hb9' (Nat.le_refl _)
        have HTD := Lib.hid (own_treeD (nodes := nodes.take k ++ nodes.drop (k + 1)) (files := files) (ds := ds) (own_low ho9 HP7.out.b.size) hF9 (by rw [List.length_append, List.length_take, List.length_drop, Hnl.out]; omega) HD.out.tree.fl (HD.out.dat.keep hb9))
        clear ho9 hF9
        have hE := HE0.out
        have hdm : doM (openM ⟨nodes, files, some ⟨xb, xo, none⟩, nn, nc, FA, fn, fc⟩ ds) ⟨5, p, q, mode, ref, hp, hq⟩ sd = (openM ⟨nodes, files, some ⟨xb, xo, none⟩, nn, nc, FA, fn, fc⟩ ds).takeAt p := by
          unfold doM; rw [if_pos ⟨hE, by simp⟩]; unfold opM
          rw [if_neg (by simp), if_pos (by simp)]
        have hw := Hwo.out
        rw [hdm] at hw
        have HE := Lib.hid hE; have HDM := Lib.hid hdm
        have HINV := Lib.hid hw.1; have HLEN := Lib.hid hw.2.1
        obtain ⟨hwn, hwf⟩ := take_world (M := openM ⟨nodes, files, some ⟨xb, xo, none⟩, nn, nc, FA, fn, fc⟩ ds) (apart_of_rises HG.out.rises) Hkx.out Hk0.out
        have hnx : ((openM ⟨nodes, files, some ⟨xb, xo, none⟩, nn, nc, FA, fn, fc⟩ ds).takeAt p).next = fn := by rw [takeAt_next]; rfl
        have HAG := Lib.hid (agree_take (t' := ⟨nodes.take k ++ nodes.drop (k + 1), files, A9, nn - 1, c9, A2, fn, c2⟩) (ds := ds) (j := x.file) hw.1 (by rw [hwn]; exact List.Perm.refl _) rfl rfl hwf hnx)
        have HSM := Lib.hid (small_tree (t := ⟨nodes.take k ++ nodes.drop (k + 1), files, A9, nn - 1, c9, A2, fn, c2⟩) (by show nn - 1 ≤ 256; omega) hf1 HG.out.small)
        clear hE hdm hw hwn hwf hnx
        have HM := Lib.hid (rmade_any _ _ _ HTD.out)
        go_wp2_with (first | (go_at_call 47; refine HM.out.mono ?_; rintro e w8 hres; obtain ⟨hb8, ⟨un, uf, uNA, unn, unc, uFA, ufn, ufc⟩, S, rfl, hTo⟩ := made_told HAG.out HINV.out HLEN.out HSM.out hres; unfold TV.val; have HTo := Lib.hid (hTo.base hb9.size); clear hTo hres; replace hR9 := hR9.below hb8 hR9.lt; replace hb9 := hb9.trans (hb8.mono hb9.size)) | (refine wpList_store_blk rfl 25 (.tmp 6) (.tmp 227) rfl hR9 #[.slice uNA unn unc, .slice uFA ufn ufc] rfl rfl (by kernel_rfl) rfl (by simp [Value.oneCell']) ?_; intro w9 hB9 hg9 hs9))
        exact ret_cell_t rfl rfl (load_blk hB9 Tryz.underlying25 rfl (by kernel_rfl)) rfl ⟨⟨un, uf, uNA, unn, unc, uFA, ufn, ufc⟩, by rw [HE.out]; rfl, fun h => absurd HE.out h, fun _ => ⟨S, by rw [HDM.out]; exact HTo.out.store hR9 hg9⟩, hb9.trans (below_grown hg9 hb9.size (fun g e => by injection e with e; omega))⟩
  · have hpre : preE nodes p = lookE nodes p := by rw [preE, if_neg (fun h => h0 h.1)]
    have hE : doE (openM ⟨nodes, files, NA, nn, nc, FA, fn, fc⟩ ds) ⟨5, p, q, mode, ref, hp, hq⟩ sd = lookE nodes p := by
      rw [hdo, ← hpre]
      exact op5_pre (M := openM ⟨nodes, files, NA, nn, nc, FA, fn, fc⟩ ds) (by show preE nodes p ≠ 0; rw [hpre]; exact h0)
    rw [if_neg h0] at hlk
    obtain ⟨E, hEE⟩ : ∃ E, lookE nodes p = E := ⟨_, rfl⟩
    rw [hEE] at hE hlk h0
    have HE := Lib.hid hE; have HNE := Lib.hid h0; have HLK := Lib.hid hlk
    have hne := ne_b h0
    have n1 := hne.1; have n2 := hne.2
    clear hne hE hEE h0 hdo hlk hpre
    have hR := HP.out.R; have hb := HP.out.b
    go_wp2_with (first | (go_at_call 42; refine (hasTo7 _ _).mono ?_; rintro e w6 ⟨rfl, hw⟩; rw [hw]; clear hw; rw [show toB 5 = false from rfl]) | (go_at_call 45; refine (HLK.out _ (HD.out.tree.keep hb)).mono ?_; rintro e w6 ⟨rfl, hb6⟩; replace hR := hR.below hb6 hR.lt; replace hb := hb.trans (hb6.mono hb.size)) | (refine wpList_store_blk rfl 25 (.tmp 6) (.tmp 81) rfl hR #[.slice none 0 0, .slice none 0 0] rfl rfl (by kernel_rfl) rfl (by simp [Value.oneCell']) ?_; intro w7 hB7 hg7 hs7))
    exact ret_cell_t rfl rfl (load_blk hB7 Tryz.underlying25 rfl (by kernel_rfl)) rfl ⟨zeroTV, by rw [HE.out]; rfl, fun _ => rfl, fun h => absurd (HE.out.symm.trans h) HNE.out, hb.trans (below_grown hg7 hb.size (fun g e => by injection e with e; omega))⟩
set_option maxRecDepth 100000 in
set_option maxHeartbeats 8000000 in
theorem rdo_8 (t : TV) (ds : List ByteArray) (p q : ByteArray) (mode ref : Int) (hp : p.size ≤ 9223372036854775807) (hq : q.size ≤ 9223372036854775807) (SA : Option Addr) (sn sc : Nat) (ss : List SC) (sd : List ByteArray) (w : World) (h : TreeD w t ds) (hS : StockAt w SA sn ss sd) (hl : looseE t = 0) (hF : firstE (toB 8) (modeB 8) ⟨8, p, q, mode, ref, hp, hq⟩ sd = 0) :
    Calls Tryz.prog 25 #[t.val, .agg #[.int .i64 8, .string p, .string q, .int .i64 mode, .int .i64 ref], .slice SA sn sc] w (DoRes (doE (openM t ds) ⟨8, p, q, mode, ref, hp, hq⟩ sd) (doM (openM t ds) ⟨8, p, q, mode, ref, hp, hq⟩ sd) w) := by
  have hloose := fun (W : World) (H : TreeAt W t) => rloose_any t W H
  have hfirst := fun (W : World) (H : StockAt W SA sn ss sd) => rfirst_any ⟨8, p, q, mode, ref, hp, hq⟩ SA sn sc ss sd W H
  have hE0 : rfirstE ⟨8, p, q, mode, ref, hp, hq⟩ sd = 0 := by unfold rfirstE; rw [if_neg (show ¬ isOp 8 = false by decide), if_neg (show ¬ (8 : Int) = 9 by decide)]; exact hF
  rw [hl] at hloose
  rw [hE0] at hfirst
  have hG := good_of_loose hl
  have hn1 := hG.nn
  have hf1 := hG.fn
  have HD := Lib.hid h; have HS := Lib.hid hS
  have hns := h.tree.ns
  have hfs := h.tree.fs
  obtain ⟨nodes, files, NA, nn, nc, FA, fn, fc⟩ := t
  simp only at hns hfs hn1 hf1
  unfold TV.val at hloose ⊢
  unfold Cmd.cells at hfirst
  have HLO := Lib.hid hloose; have HFI := Lib.hid hfirst; have HNs := Lib.hid hns; have HFs := Lib.hid hfs; have HG := Lib.hid hG; have HL := Lib.hid hl; have HF0 := Lib.hid hF
  clear hloose hfirst hE0 h hS hns hfs hG hl hF
  have hw3 : Below w.heap.size w (((w.alloc (.cells #[.slice NA nn nc, .slice FA fn fc] 25)).alloc (.cells #[.int .i64 8, .string p, .string q, .int .i64 mode, .int .i64 ref] 32)).alloc (.cells #[.slice none 0 0, .slice none 0 0] 25)) := (((Below.refl _ _).alloc (Nat.le_refl _) _).alloc (by simp) _).alloc (by simp; omega) _
  have hT := ((Blk.new w 25 #[.slice NA nn nc, .slice FA fn fc]).alloc (.cells #[.int .i64 8, .string p, .string q, .int .i64 mode, .int .i64 ref] 32)).alloc (.cells #[.slice none 0 0, .slice none 0 0] 25)
  have hI := (Blk.new (w.alloc (.cells #[.slice NA nn nc, .slice FA fn fc] 25)) 32 #[.int .i64 8, .string p, .string q, .int .i64 mode, .int .i64 ref]).alloc (.cells #[.slice none 0 0, .slice none 0 0] 25)
  have hR := Blk.new ((w.alloc (.cells #[.slice NA nn nc, .slice FA fn fc] 25)).alloc (.cells #[.int .i64 8, .string p, .string q, .int .i64 mode, .int .i64 ref] 32)) 25 #[.slice none 0 0, .slice none 0 0]
  simp only [World.size_alloc] at hI hR
  have t0 := hT.cell 0; have t1 := hT.cell 1
  go_enter Tryz.func25, Tryz.ntmps25
  go_upto_region 4 with (go_at_call 23; refine (HLO.out _ (HD.out.tree.keep hw3)).mono ?_; rintro e w1 ⟨rfl, hb1⟩)
  have hT1 := hT.below hb1 hT.lt; have hI1 := hI.below hb1 hI.lt; have hR1 := hR.below hb1 hR.lt
  have hw1 := hw3.trans (hb1.mono hw3.size)
  clear t0 t1 hT hI hR hw3 hb1
  have i0 := hI1.cell 0; have i1 := hI1.cell 1; have i2 := hI1.cell 2; have i3 := hI1.cell 3; have i4 := hI1.cell 4
  go_upto_region 7 with (go_at_call 41; refine (HFI.out _ (HS.out.keep hw1)).mono ?_; rintro e w2 ⟨rfl, hb2⟩)
  have hT2 := hT1.below hb2 hT1.lt; have hI2 := hI1.below hb2 hI1.lt; have hR2 := hR1.below hb2 hR1.lt
  have hw2 := hw1.trans (hb2.mono hw1.size)
  clear i0 i1 i2 i3 i4 hT1 hI1 hR1 hw1 hb2
  have i0 := hI2.cell 0
  have t0 := hT2.cell 0; have t1 := hT2.cell 1
  have hs2 := hw2.size
  go_upto_region 10 with (at_builtin; refine wpList_append_sl rfl _ _ _ rfl Tryz.nodeT rfl (World.ownsRow_nil w2 w.heap.size _ _) rfl (HNs.out.below hw2 (Nat.le_refl _)) (node_one nodes) (by unfold maxLen; omega) (by omega) hs2 ?_; intro A1 c1 w4 ho4 hg4 hat4)
  simp only [Nat.zero_add, List.nil_append] at ho4
  have hg4' : w2.grownBy w4 none := hg4
  have hT4 := hT2.grown hg4' (by simp); have hI4 := hI2.grown hg4' (by simp); have hR4 := hR2.grown hg4' (by simp)
  have hw4 := hw2.trans (below_grown hg4' hs2 (fun g e => by cases e))
  clear hg4 hg4' hat4 hT2 hI2 hR2 hw2 hs2 i0 t0 t1
  have t0 := hT4.cell 0; have t1 := hT4.cell 1; have i0 := hI4.cell 0
  have hs4 := hw4.size
  go_upto_region 11 with (at_builtin; refine wpList_append_sl rfl _ _ _ rfl Tryz.fileT rfl (World.ownsRow_nil w4 w.heap.size _ _) rfl (HFs.out.below hw4 (Nat.le_refl _)) (file_cells_one files) (by unfold maxLen; omega) (by omega) hs4 ?_; intro A2 c2 w5 ho5 hg5 hat5)
  simp only [Nat.zero_add, List.nil_append] at ho5
  have hg5' : w4.grownBy w5 none := hg5
  have HP := Lib.hid (show DoPre ⟨nodes, files, NA, nn, nc, FA, fn, fc⟩ ds w w5 #[.int .i64 8, .string p, .string q, .int .i64 mode, .int .i64 ref] A1 c1 A2 c2 from ⟨hT4.grown hg5' (by simp), hI4.grown hg5' (by simp), hR4.grown hg5' (by simp), own_keep1 ho4 (below_grown hg5' (Nat.le_refl _) (fun g e => by cases e)) (Nat.le_refl _), ho5, hw4.trans (below_grown hg5' hs4 (fun g e => by cases e))⟩)
  clear hg5 hg5' hat5 hT4 hI4 hR4 hw4 hs4 i0 t0 t1 ho4 ho5
  have t0 := HP.out.T.cell 0; have t1 := HP.out.T.cell 1
  have i0 := HP.out.I.cell 0; have i1 := HP.out.I.cell 1; have i2 := HP.out.I.cell 2; have i3 := HP.out.I.cell 3
  have hv := (first0 HF0.out).2.1
  have hlk := fun (W : World) (H : TreeAt W ⟨nodes, files, NA, nn, nc, FA, fn, fc⟩) => rlook_any _ p W H (apart_of_rises HG.out.rises) (fun x hx => (HG.out.kind x hx).imp (·.1) (·.1)) hp hv
  have hdo := doE_of (M := openM ⟨nodes, files, NA, nn, nc, FA, fn, fc⟩ ds) (c := ⟨8, p, q, mode, ref, hp, hq⟩) (sd := sd) (by simp [isOp]) (by simp) HF0.out
  rw [if_neg (by simp [growB])] at hdo
  simp only at hlk
  unfold TV.val at hlk
  have hwo := inv_do (M := openM ⟨nodes, files, NA, nn, nc, FA, fn, fc⟩ ds) (open_inv HD.out HL.out) (by show nodes.length ≤ 256; have := HD.out.tree.nl; simp only at this; omega) ⟨8, p, q, mode, ref, hp, hq⟩ sd
  have Hwo := Lib.hid hwo
  have hnl := HD.out.tree.nl
  simp only at hnl
  have Hnl := Lib.hid hnl
  clear hwo hnl
  unfold LookR at hlk
  by_cases h0 : lookE nodes p = 0
  · rcases find_at (apart_of_rises HG.out.rises) p with ⟨hno, hfi⟩ | ⟨k, x, hkx, hfi, hk0⟩
    · have hT : lookT nodes p = false := by rw [lookT, hno]; simp
      have hpre : preE nodes p = 21 := by rw [preE, if_pos ⟨h0, hT⟩]
      have hE : doE (openM ⟨nodes, files, NA, nn, nc, FA, fn, fc⟩ ds) ⟨8, p, q, mode, ref, hp, hq⟩ sd = 21 := by
        rw [hdo, ← hpre]
        exact op8_pre (M := openM ⟨nodes, files, NA, nn, nc, FA, fn, fc⟩ ds) (by show preE nodes p ≠ 0; rw [hpre]; simp)
      rw [h0, if_pos rfl, hfi] at hlk
      have HE := Lib.hid hE; have HNE := Lib.hid (show ¬ (21 : Int) = 0 by decide); have HLK := Lib.hid hlk
      clear hE h0 hdo hlk hpre hT hno hfi
      have hR := HP.out.R; have hb := HP.out.b
      go_wp2_with (first | (go_at_call 42; refine (hasTo7 _ _).mono ?_; rintro e w6 ⟨rfl, hw⟩; rw [hw]; clear hw; rw [show toB 8 = false from rfl]) | (go_at_call 45; refine (HLK.out _ (HD.out.tree.keep hb)).mono ?_; rintro e w6 ⟨rfl, hb6⟩; replace hR := hR.below hb6 hR.lt; replace hb := hb.trans (hb6.mono hb.size)) | (refine wpList_store_blk rfl 25 (.tmp 6) (.tmp 81) rfl hR #[.slice none 0 0, .slice none 0 0] rfl rfl (by kernel_rfl) rfl (by simp [Value.oneCell']) ?_; intro w7 hB7 hg7 hs7))
      exact ret_cell_t rfl rfl (load_blk hB7 Tryz.underlying25 rfl (by kernel_rfl)) rfl ⟨zeroTV, by rw [HE.out]; rfl, fun _ => rfl, fun h => absurd (HE.out.symm.trans h) HNE.out, hb.trans (below_grown hg7 hb.size (fun g e => by injection e with e; omega))⟩
    · have hT : lookT nodes p = true := by rw [lookT, hkx, h0]; simp
      have hpre : preE nodes p = 0 := by rw [preE, if_neg (by rw [hT]; simp), h0]
      have hlF : lookF nodes p = x.file := by rw [lookF, if_pos h0, hkx]; rfl
      rw [h0, if_pos rfl, hfi] at hlk
      have HLK := Lib.hid hlk
      have hxp := (nodeAt_some hkx).2
      have hkn : k < nn := by have := (List.getElem?_eq_some_iff.1 hk0).1; rw [Hnl.out] at this; exact this
      have hki : (k : Int) < nn := by omega
      have hk00 : ¬ (k : Int) < 0 := by omega
      have Hkx := Lib.hid hkx; have Hk0 := Lib.hid hk0; have HlF := Lib.hid hlF; have Hxp := Lib.hid hxp; have Hpre := Lib.hid hpre; have Hdo := Lib.hid hdo
      have hkind := HG.out.kind x (nodeAt_some hkx).1
      clear hdo hlk h0 hpre hlF hkx hfi hk0 hxp hT
      go_upto_region 48 with (first | (go_at_call 42; refine (hasTo7 _ _).mono ?_; rintro e w6 ⟨rfl, hw⟩; rw [hw]; clear hw; rw [show toB 8 = false from rfl]) | (go_at_call 45; refine (HLK.out _ (HD.out.tree.keep HP.out.b)).mono ?_; rintro e w7 ⟨rfl, hb7⟩; have HP7 := Lib.hid (HP.out.below hb7); have j0 := HP7.out.I.cell 0))
      clear t0 t1 i0 i1 i2 i3 hb7 HP
      have hbs := HP7.out.b.size
      have HN7 := Lib.hid (show w7.ownsRow w.heap.size 56 3 (.slice A1 nn c1) nn (nodes.flatMap Node.list) from HP7.out.N)
      have HF7 := Lib.hid (show w7.ownsRow w.heap.size 59 2 (.slice A2 fn c2) fn (files.flatMap FC.list) from HP7.out.F)
      obtain ⟨xb, xo, x', hNA, hxb, hx', hc⟩ := (HNs.out.below HP7.out.b (Nat.le_refl _)).get Node.len Hnl.out hkn
      obtain rfl : x = x' := by have := Hk0.out; rw [this] at hx'; exact Option.some.inj hx'
      have d1 := hc 1 _ rfl
      clear hc hx'
      subst hNA
      have t0 := HP7.out.T.cell 0; have t1 := HP7.out.T.cell 1
      obtain ⟨g1, rfl⟩ := own_some HN7.out (by omega)
      have hopv : opE (openM ⟨nodes, files, some ⟨xb, xo, none⟩, nn, nc, FA, fn, fc⟩ ds) ⟨8, p, q, mode, ref, hp, hq⟩ = 0 := by
        unfold opE
        rw [if_neg (by simp), if_neg (by simp), if_neg (by simp), if_pos (by simp)]
        exact Hpre.out
      have HE := Lib.hid (show doE (openM ⟨nodes, files, some ⟨xb, xo, none⟩, nn, nc, FA, fn, fc⟩ ds) ⟨8, p, q, mode, ref, hp, hq⟩ sd = 0 by rw [Hdo.out, hopv])
      have hdm0 : doM (openM ⟨nodes, files, some ⟨xb, xo, none⟩, nn, nc, FA, fn, fc⟩ ds) ⟨8, p, q, mode, ref, hp, hq⟩ sd = (openM ⟨nodes, files, some ⟨xb, xo, none⟩, nn, nc, FA, fn, fc⟩ ds).chmod p mode := by
        unfold doM; rw [if_pos ⟨HE.out, by simp⟩]; unfold opM
        rw [if_neg (by simp), if_neg (by simp), if_neg (by simp), if_neg (by simp), if_neg (by simp), if_neg (by simp)]
      have hch : (openM ⟨nodes, files, some ⟨xb, xo, none⟩, nn, nc, FA, fn, fc⟩ ds).chmod p mode = if x.file < 0 then { openM ⟨nodes, files, some ⟨xb, xo, none⟩, nn, nc, FA, fn, fc⟩ ds with nodes := chmodN nodes p mode } else { openM ⟨nodes, files, some ⟨xb, xo, none⟩, nn, nc, FA, fn, fc⟩ ds with files := chmodF (openM ⟨nodes, files, some ⟨xb, xo, none⟩, nn, nc, FA, fn, fc⟩ ds).files x.file mode } := by
        unfold PW.chmod
        show (match nodeAt nodes p with | some x => _ | none => _) = _
        rw [Hkx.out]; rfl
      have i3 := HP7.out.I.cell 3
      by_cases hxf : x.file = -1
      · have hcn : chmodN nodes p mode = nodes.set k ⟨x.path, -1, mode, x.hp⟩ := by rw [← Hxp.out]; exact chmod_nodes mode (apart_of_rises HG.out.rises) Hk0.out
        rw [if_pos (by rw [hxf]; decide), hcn] at hch
        rw [hch] at hdm0
        have hw := Hwo.out
        rw [hdm0] at hw
        have HDM := Lib.hid hdm0
        have HINV := Lib.hid hw.1; have HLEN := Lib.hid hw.2.1
        obtain ⟨cur, hNc⟩ := own_cur HN7.out
        have f9 := hNc.frozen (k * 3 + 2)
        have e0 := (own_row HN7.out).1 (k * 3 + 2) _ (flat_get Node.len Hk0.out (j := 2) (by omega))
        simp only [Nat.zero_add] at e0
        have hgl := hNc.lt
        rw [hxf] at d1
        have HX1 := Lib.hid hxf
        clear hopv hkind hxf hch hdm0 hw hcn
        go_upto_region 51 with (fail)
        have hR9 := HP7.out.R.set_ne ⟨g1, k * 3 + 2, none⟩ (.int .i64 mode) (fun e => by have e : w.heap.size + 2 = g1 := e; exact HP7.out.R.ne_row HN7.out (by decide) (by rw [e]; rfl))
        have hb9 := HP7.out.b.setCell (p := ⟨g1, k * 3 + 2, none⟩) (own_row HN7.out).2.1 (.int .i64 mode)
        have hF9 := own_blkset HF7.out hNc (by decide) (k * 3 + 2) (.int .i64 mode)
        have hN9 := setc_own (i := k * 3 + 2) HN7.out (.int .i64 mode)
        rw [flat_setj Node.len Hk0.out (j := 2) (by omega) (x' := ⟨x.path, -1, mode, x.hp⟩) (v := .int .i64 mode) (by unfold Node.list; rw [HX1.out]; rfl)] at hN9
        have HTD := Lib.hid (own_treeD (nodes := nodes.set k ⟨x.path, -1, mode, x.hp⟩) (files := files) (ds := ds) hN9 hF9 (by rw [List.length_set]; exact Hnl.out) HD.out.tree.fl (HD.out.dat.keep hb9))
        clear hF9 hN9 i3 d1 f9 e0
        have HAG := Lib.hid (agree_same (t' := ⟨nodes.set k ⟨x.path, -1, mode, x.hp⟩, files, some ⟨g1, 0, none⟩, nn, c1, A2, fn, c2⟩) (ds := ds) HINV.out (List.Perm.refl _) rfl rfl rfl rfl)
        have HSM := Lib.hid (small_tree (t := ⟨nodes.set k ⟨x.path, -1, mode, x.hp⟩, files, some ⟨g1, 0, none⟩, nn, c1, A2, fn, c2⟩) hn1 hf1 HG.out.small)
        have HM := Lib.hid (rmade_any _ _ _ HTD.out)
        go_wp2_with (first | (go_at_call 47; refine HM.out.mono ?_; rintro e w8 hres; obtain ⟨hb8, ⟨un, uf, uNA, unn, unc, uFA, ufn, ufc⟩, S, rfl, hTo⟩ := made_told HAG.out HINV.out HLEN.out HSM.out hres; unfold TV.val; have HTo := Lib.hid (hTo.base hb9.size); clear hTo hres; replace hR9 := hR9.below hb8 hR9.lt; replace hb9 := hb9.trans (hb8.mono hb9.size)) | (refine wpList_store_blk rfl 25 (.tmp 6) (.tmp 227) rfl hR9 #[.slice uNA unn unc, .slice uFA ufn ufc] rfl rfl (by kernel_rfl) rfl (by simp [Value.oneCell']) ?_; intro w9 hB9 hg9 hs9))
        exact ret_cell_t rfl rfl (load_blk hB9 Tryz.underlying25 rfl (by kernel_rfl)) rfl ⟨⟨un, uf, uNA, unn, unc, uFA, ufn, ufc⟩, by rw [HE.out]; rfl, fun h => absurd HE.out h, fun _ => ⟨S, by rw [HDM.out]; exact HTo.out.store hR9 hg9⟩, hb9.trans (below_grown hg9 hb9.size (fun g e => by injection e with e; omega))⟩
      · have hx0 : 0 ≤ x.file := by rcases hkind with h | h; exact absurd h.1 hxf; exact h.1
        have hxl : x.file < fn := by rcases hkind with h | h; exact absurd h.1 hxf; exact h.2.1
        rw [if_neg (by omega)] at hch
        rw [hch] at hdm0
        have hw := Hwo.out
        rw [hdm0] at hw
        obtain ⟨f, hf⟩ := Int.eq_ofNat_of_zero_le hx0
        rw [hf] at hdm0 hw d1 hxl
        have hxn := (ne_b hxf).1
        rw [hf] at hxn
        have hfn : f < fn := by omega
        obtain ⟨g2, rfl⟩ := own_some HF7.out (by omega)
        obtain ⟨y, hy⟩ : ∃ y, files[f]? = some y := ⟨_, List.getElem?_eq_getElem (by have := HD.out.tree.fl; simp only at this; omega)⟩
        have HDM := Lib.hid hdm0
        have HINV := Lib.hid hw.1; have HLEN := Lib.hid hw.2.1
        obtain ⟨cur, hFc⟩ := own_cur HF7.out
        have f9 := hFc.frozen (f * 2)
        have e0 := (own_row HF7.out).1 (f * 2 + 0) _ (flat_get FC.len hy (j := 0) (by omega))
        simp only [Nat.zero_add, Nat.add_zero] at e0
        have hgl := hFc.lt
        have hxw : xb < w7.heap.size := by omega
        have Hy := Lib.hid hy
        have hf1m : ¬ (f : Int) = -1 := by omega
        clear hopv hkind hxf hch hdm0 hw hy
        go_upto_region 50 with (fail)
        have hTl := HP7.out.T.lt; have hIl := HP7.out.I.lt
        refine wp_region_ordG (none) [(0, true), (1, true), (2, true), (3, true), (4, true), (5, true), (6, true), (7, true), (8, true), (9, true), (10, true)] 11 (by kernel_rfl) (by kernel_rfl) fun hG0 => ?_
        repeat (first
          | (refine ord_skipB rfl (by rfl) ?_; simp only [Act.put, List.setIfInBounds_toArray, List.set_cons_zero, List.set_cons_succ])
          | (refine ord_qE rfl (by rfl) ?_; apply Exists.intro; refine ⟨fun w' hc' => ?_, ?_⟩; (focus (go_simp; (try go_bits); (try simp only [↓IntWalk.iteOmega]); with_reducible rfl)); simp only [Act.put, List.setIfInBounds_toArray, List.set_cons_zero, List.set_cons_succ]))
        refine ord_tail rfl fun K hK => ?_
        go_wp2_with (fail)
        refine hK.out _ _ ?_
        clear hK K
        have hR9 : Blk (w7.setCell ⟨g2, f * 2, none⟩ (.int .i64 mode)).drew (w.heap.size + 2) 25 #[.slice none 0 0, .slice none 0 0] := HP7.out.R.set_ne ⟨g2, f * 2, none⟩ (.int .i64 mode) (fun e => by have e : w.heap.size + 2 = g2 := e; exact HP7.out.R.ne_row HF7.out (by decide) (by rw [e]; rfl))
        have hb9 : Below w.heap.size w (w7.setCell ⟨g2, f * 2, none⟩ (.int .i64 mode)).drew := (HP7.out.b.setCell (p := ⟨g2, f * 2, none⟩) (own_row HF7.out).2.1 (.int .i64 mode)).drew
        have hN9 : (w7.setCell ⟨g2, f * 2, none⟩ (.int .i64 mode)).drew.ownsRow w.heap.size 56 3 (.slice (some ⟨g1, 0, none⟩) nn c1) nn (nodes.flatMap Node.list) := own_drew (own_blkset HN7.out hFc (by decide) (f * 2) (.int .i64 mode))
        have hF9 := own_drew (setc_own (i := f * 2) HF7.out (.int .i64 mode))
        rw [show (((files.flatMap FC.list).set (f * 2) (.int .i64 mode)) : List Value) = (files.set f ⟨mode, y.A, y.n, y.c⟩).flatMap FC.list from flat_setj FC.len Hy.out (j := 0) (by omega) (x' := ⟨mode, y.A, y.n, y.c⟩) (v := .int .i64 mode) rfl] at hF9
        obtain ⟨V, hV⟩ : ∃ V, (w7.setCell ⟨g2, f * 2, none⟩ (.int .i64 mode)).drew = V := ⟨_, rfl⟩
        rw [hV] at hR9 hb9 hN9 hF9 ⊢
        have HTD := Lib.hid (own_treeD (nodes := nodes) (files := files.set f ⟨mode, y.A, y.n, y.c⟩) (ds := ds) hN9 hF9 Hnl.out (by rw [List.length_set]; exact HD.out.tree.fl) ((HD.out.dat.keep hb9).set Hy.out mode))
        clear hF9 hN9 i3 d1 f9 e0 hV
        have HAG := Lib.hid (agree_chmod (t := ⟨nodes, files, some ⟨xb, xo, none⟩, nn, nc, FA, fn, fc⟩) (t' := ⟨nodes, files.set f ⟨mode, y.A, y.n, y.c⟩, some ⟨g1, 0, none⟩, nn, c1, some ⟨g2, 0, none⟩, fn, c2⟩) (ds := ds) Hy.out HD.out.tree.fl HINV.out (List.Perm.refl _) rfl rfl rfl rfl)
        have HSM := Lib.hid (small_tree (t := ⟨nodes, files.set f ⟨mode, y.A, y.n, y.c⟩, some ⟨g1, 0, none⟩, nn, c1, some ⟨g2, 0, none⟩, fn, c2⟩) hn1 hf1 (fun z hz => (List.mem_or_eq_of_mem_set hz).elim (HG.out.small z) (fun e => by rw [e]; exact HG.out.small y (List.mem_of_getElem? Hy.out))))
        have HM := Lib.hid (rmade_any _ _ _ HTD.out)
        go_wp2_with (first | (go_at_call 47; refine HM.out.mono ?_; rintro e w8 hres; obtain ⟨hb8, ⟨un, uf, uNA, unn, unc, uFA, ufn, ufc⟩, S, rfl, hTo⟩ := made_told HAG.out HINV.out HLEN.out HSM.out hres; unfold TV.val; have HTo := Lib.hid (hTo.base hb9.size); clear hTo hres; replace hR9 := hR9.below hb8 hR9.lt; replace hb9 := hb9.trans (hb8.mono hb9.size)) | (refine wpList_store_blk rfl 25 (.tmp 6) (.tmp 227) rfl hR9 #[.slice uNA unn unc, .slice uFA ufn ufc] rfl rfl (by kernel_rfl) rfl (by simp [Value.oneCell']) ?_; intro w9 hB9 hg9 hs9))
        exact ret_cell_t rfl rfl (load_blk hB9 Tryz.underlying25 rfl (by kernel_rfl)) rfl ⟨⟨un, uf, uNA, unn, unc, uFA, ufn, ufc⟩, by rw [HE.out]; rfl, fun h => absurd HE.out h, fun _ => ⟨S, by rw [HDM.out]; exact HTo.out.store hR9 hg9⟩, hb9.trans (below_grown hg9 hb9.size (fun g e => by injection e with e; omega))⟩
  · have hpre : preE nodes p = lookE nodes p := by rw [preE, if_neg (fun h => h0 h.1)]
    have hE : doE (openM ⟨nodes, files, NA, nn, nc, FA, fn, fc⟩ ds) ⟨8, p, q, mode, ref, hp, hq⟩ sd = lookE nodes p := by
      rw [hdo, ← hpre]
      exact op8_pre (M := openM ⟨nodes, files, NA, nn, nc, FA, fn, fc⟩ ds) (by show preE nodes p ≠ 0; rw [hpre]; exact h0)
    rw [if_neg h0] at hlk
    obtain ⟨E, hEE⟩ : ∃ E, lookE nodes p = E := ⟨_, rfl⟩
    rw [hEE] at hE hlk h0
    have HE := Lib.hid hE; have HNE := Lib.hid h0; have HLK := Lib.hid hlk
    have hne := ne_b h0
    have n1 := hne.1; have n2 := hne.2
    clear hne hE hEE h0 hdo hlk hpre
    have hR := HP.out.R; have hb := HP.out.b
    go_wp2_with (first | (go_at_call 42; refine (hasTo7 _ _).mono ?_; rintro e w6 ⟨rfl, hw⟩; rw [hw]; clear hw; rw [show toB 8 = false from rfl]) | (go_at_call 45; refine (HLK.out _ (HD.out.tree.keep hb)).mono ?_; rintro e w6 ⟨rfl, hb6⟩; replace hR := hR.below hb6 hR.lt; replace hb := hb.trans (hb6.mono hb.size)) | (refine wpList_store_blk rfl 25 (.tmp 6) (.tmp 81) rfl hR #[.slice none 0 0, .slice none 0 0] rfl rfl (by kernel_rfl) rfl (by simp [Value.oneCell']) ?_; intro w7 hB7 hg7 hs7))
    exact ret_cell_t rfl rfl (load_blk hB7 Tryz.underlying25 rfl (by kernel_rfl)) rfl ⟨zeroTV, by rw [HE.out]; rfl, fun _ => rfl, fun h => absurd (HE.out.symm.trans h) HNE.out, hb.trans (below_grown hg7 hb.size (fun g e => by injection e with e; omega))⟩
end Go.Proofs.YthmeffpickejkaaGreat

namespace Go.Proofs.YthmeffpickejkaaGreat
open Go.RowKit

def rangeI (n : Nat) : List Int := (List.range n).map fun (i : Nat) => (i : Int)
theorem rangeI_succ (n : Nat) : rangeI (n + 1) = rangeI n ++ [(n : Int)] := by simp [rangeI, List.range_succ]
theorem rangeI_mem {n : Nat} {i : Int} : i ∈ rangeI n ↔ 0 ≤ i ∧ i < n := by
  simp only [rangeI, List.mem_map, List.mem_range]
  constructor
  · rintro ⟨k, h, rfl⟩; omega
  · rintro ⟨h, h2⟩; exact ⟨i.toNat, by omega, by omega⟩
theorem rangeI_idx : ∀ {n i : Nat}, i < n → (rangeI n).idxOf (i : Int) = i
  | 0, i, h => by omega
  | n + 1, i, h => by
    rw [rangeI_succ, List.idxOf_append]
    by_cases e : i < n
    · rw [if_pos (rangeI_mem.2 ⟨by omega, by omega⟩), rangeI_idx e]
    · obtain rfl : i = n := by omega
      rw [if_neg (fun h => by have := (rangeI_mem.1 h).2; omega)]
      simp [rangeI]
theorem num_ids : ∀ (rest : List Node) (n : Nat) (r : Int), numRun rest n = some r → (∀ x ∈ rest, x.file = -1 ∨ 0 ≤ x.file) → ∃ m : Nat, r = m ∧ rest.foldl idStep (rangeI n) = rangeI m
  | [], n, r, h, _ => by
    rw [numRun] at h
    injection h with h
    exact ⟨n, h.symm, rfl⟩
  | x :: t, n, r, h, hk => by
    rw [numRun] at h
    rw [List.foldl_cons]
    have hk2 : ∀ y ∈ t, y.file = -1 ∨ 0 ≤ y.file := fun y hy => hk y (List.mem_cons_of_mem _ hy)
    rcases hk x (by simp) with hx | hx
    · rw [if_pos hx] at h
      rw [idStep, if_pos (.inl (by omega))]
      exact num_ids t n r h hk2
    · rw [if_neg (by omega)] at h
      split at h
      · cases h
      · rename_i h2
        by_cases e : x.file = n
        · rw [if_pos e, show (n : Int) + 1 = ((n + 1 : Nat) : Int) by omega] at h
          rw [idStep, if_neg (fun h3 => h3.elim (by omega) (fun h4 => by have := (rangeI_mem.1 h4).2; omega)), e, ← rangeI_succ]
          exact num_ids t (n + 1) r h hk2
        · rw [if_neg e] at h
          rw [idStep, if_pos (.inr (rangeI_mem.2 ⟨hx, by omega⟩))]
          exact num_ids t n r h hk2
theorem loose_ids {t : TV} (h : LooseP t) : idsL t.nodes = rangeI t.fn := by
  obtain ⟨m, h1, h2⟩ := num_ids t.nodes 0 t.fn (by exact_mod_cast h.num) (fun x hx => (h.good.kind x hx).imp (·.1) (·.1))
  have : m = t.fn := by omega
  subst this
  exact h2
theorem loose_re {t : TV} (h : LooseP t) : t.nodes.map (reN (idsL t.nodes)) = t.nodes := by
  rw [loose_ids h]
  refine (List.map_congr_left fun x hx => ?_).trans (List.map_id _)
  show _ = x
  unfold reN
  split
  · rfl
  · rename_i h0
    rcases h.good.kind x hx with h1 | ⟨h1, h2, _⟩
    · omega
    · obtain ⟨i, hi⟩ := Int.eq_ofNat_of_zero_le h1
      obtain ⟨a, b, c, d⟩ := x
      simp only at hi h2
      subst hi
      simp only [rangeI_idx (show i < t.fn by omega)]
/-- A copy of a loose tree is its world, told. -/
theorem copy_told {t u : TV} {ds : List ByteArray} {base : Nat} {w w' : World} (hD : TreeD w t ds) (h : LooseP t) (h1 : u.nodes = t.nodes) (h2 : u.nn = t.nn) (h3 : u.fn = t.fn) (h4 : u.files.length = t.fn) (h5 : u.files.map (·.mode) = t.files.map (·.mode))
    (h6 : w'.ownsRow base 56 3 (.slice u.NA u.nn u.nc) u.nn (u.nodes.flatMap Node.list)) (h7 : w'.ownsRow base 59 2 (.slice u.FA u.fn u.fc) u.fn (u.files.flatMap FC.list)) (h8 : FRows w' base u.files ds) : ToldAs (openM t ds) base w' t.nodes u := by
  have hF : ∀ i ∈ rangeI t.fn, (openM t ds).F i = treeF t ds i := fun i hi => open_F t ds (rangeI_mem.1 hi).1 (rangeI_mem.1 hi).2
  have hfl := hD.tree.fl
  have hdl := hD.dat.len
  have e1 : (rangeI t.fn).map (fun i => ((openM t ds).F i).1) = t.files.map (·.mode) := by
    apply List.ext_getElem?
    intro i
    by_cases hi : i < t.fn
    · have hr : (rangeI t.fn)[i]? = some (i : Int) := by simp [rangeI, hi]
      rw [List.getElem?_map, hr, Option.map_some, hF _ (rangeI_mem.2 ⟨by omega, by omega⟩), List.getElem?_map]
      have : t.files[i]? = some t.files[i] := List.getElem?_eq_getElem (by omega)
      simp only [treeF, Int.toNat_natCast, this, Option.map_some, Option.getD_some]
    · rw [List.getElem?_eq_none (by simp [rangeI]; omega), List.getElem?_eq_none (by simp; omega)]
  have e2 : (rangeI t.fn).map (fun i => ((openM t ds).F i).2) = ds := by
    apply List.ext_getElem?
    intro i
    by_cases hi : i < t.fn
    · have hr : (rangeI t.fn)[i]? = some (i : Int) := by simp [rangeI, hi]
      rw [List.getElem?_map, hr, Option.map_some, hF _ (rangeI_mem.2 ⟨by omega, by omega⟩)]
      have : ds[i]? = some ds[i] := List.getElem?_eq_getElem (by omega)
      simp only [treeF, Int.toNat_natCast, this, Option.getD_some]
    · rw [List.getElem?_eq_none (by simp [rangeI]; omega), List.getElem?_eq_none (by omega)]
  exact { perm := List.Perm.refl _, rises := h.good.rises, nodes := by rw [loose_re h]; exact h1, nn := by rw [h2]; exact hD.tree.nl.symm, fn := by rw [loose_ids h, h3]; simp [rangeI], fl := by rw [h4, h3], modes := by rw [loose_ids h, e1]; exact h5, own := h6, ownF := h7, rows := by rw [loose_ids h, e2]; exact h8 }
set_option maxRecDepth 100000 in
set_option maxHeartbeats 8000000 in
theorem rdo_any (t : TV) (ds : List ByteArray) (c : Cmd) (SA : Option Addr) (sn sc : Nat) (ss : List SC) (sd : List ByteArray) (w : World) (h : TreeD w t ds) (hS : StockAt w SA sn ss sd) :
    Calls Tryz.prog 25 #[t.val, .agg c.cells, .slice SA sn sc] w (DoRes (DoE t ds c sd) (doM (openM t ds) c sd) w) := by
  by_cases hk : looseE t = 0 ∧ rfirstE c sd = 0 ∧ c.op ≠ 9
  · obtain ⟨hl, hF, h9⟩ := hk
    have hop : isOp c.op = true := by
      cases hq : isOp c.op
      · rw [rfirstE, if_pos hq] at hF; cases hF
      · rfl
    rw [rfirstE, if_neg (by rw [hop]; simp), if_neg h9] at hF
    have hD : DoE t ds c sd = doE (openM t ds) c sd := if_pos hl
    rw [hD]
    obtain ⟨op, p, q, mode, ref, hp, hq⟩ := c
    simp only [isOp, decide_eq_true_eq] at hop
    simp only at h9 hF
    unfold Cmd.cells
    rcases (show op = 1 ∨ op = 2 ∨ op = 3 ∨ op = 4 ∨ op = 5 ∨ op = 6 ∨ op = 7 ∨ op = 8 by omega) with rfl | rfl | rfl | rfl | rfl | rfl | rfl | rfl
    · exact rdo_1 t ds p q mode ref hp hq SA sn sc ss sd w h hS hl hF
    · exact rdo_2 t ds p q mode ref hp hq SA sn sc ss sd w h hS hl hF
    · exact rdo_3 t ds p q mode ref hp hq SA sn sc ss sd w h hS hl hF
    · exact rdo_4 t ds p q mode ref hp hq SA sn sc ss sd w h hS hl hF
    · exact rdo_5 t ds p q mode ref hp hq SA sn sc ss sd w h hS hl hF
    · exact rdo_6 t ds p q mode ref hp hq SA sn sc ss sd w h hS hl hF
    · exact rdo_7 t ds p q mode ref hp hq SA sn sc ss sd w h hS hl hF
    · exact rdo_8 t ds p q mode ref hp hq SA sn sc ss sd w h hS hl hF
  · have hloose := fun (W : World) (H : TreeAt W t) => rloose_any t W H
    have hfirst := fun (W : World) (H : StockAt W SA sn ss sd) => rfirst_any c SA sn sc ss sd W H
    have hcopy := fun (hl : looseE t = 0) (W : World) (H : TreeD W t ds) => copy_any t ds W H (by have := (good_of_loose hl).nn; omega) (by have := (good_of_loose hl).fn; omega) (fun x hx => by have := (good_of_loose hl).small x hx; omega)
    obtain ⟨N, hN⟩ : ∃ N, doM (openM t ds) c sd = N := ⟨_, rfl⟩
    obtain ⟨E, hE⟩ : ∃ E, DoE t ds c sd = E := ⟨_, rfl⟩
    rw [hN, hE]
    have HD := Lib.hid h; have HS := Lib.hid hS; have HN := Lib.hid hN; have HE := Lib.hid hE; have HK := Lib.hid hk
    unfold TV.val at hloose ⊢
    unfold Cmd.cells at hfirst ⊢
    clear h hS hN hE hk
    have hw3 : Below w.heap.size w (((w.alloc (.cells #[.slice t.NA t.nn t.nc, .slice t.FA t.fn t.fc] 25)).alloc (.cells #[.int .i64 c.op, .string c.path, .string c.dst, .int .i64 c.mode, .int .i64 c.ref] 32)).alloc (.cells #[.slice none 0 0, .slice none 0 0] 25)) := (((Below.refl _ _).alloc (Nat.le_refl _) _).alloc (by simp) _).alloc (by simp; omega) _
    have hT := ((Blk.new w 25 #[.slice t.NA t.nn t.nc, .slice t.FA t.fn t.fc]).alloc (.cells #[.int .i64 c.op, .string c.path, .string c.dst, .int .i64 c.mode, .int .i64 c.ref] 32)).alloc (.cells #[.slice none 0 0, .slice none 0 0] 25)
    have hI := (Blk.new (w.alloc (.cells #[.slice t.NA t.nn t.nc, .slice t.FA t.fn t.fc] 25)) 32 #[.int .i64 c.op, .string c.path, .string c.dst, .int .i64 c.mode, .int .i64 c.ref]).alloc (.cells #[.slice none 0 0, .slice none 0 0] 25)
    have hR := Blk.new ((w.alloc (.cells #[.slice t.NA t.nn t.nc, .slice t.FA t.fn t.fc] 25)).alloc (.cells #[.int .i64 c.op, .string c.path, .string c.dst, .int .i64 c.mode, .int .i64 c.ref] 32)) 25 #[.slice none 0 0, .slice none 0 0]
    simp only [World.size_alloc] at hI hR
    have t0 := hT.cell 0; have t1 := hT.cell 1
    by_cases hl : looseE t = 0
    · rw [hl] at hloose
      have HLO := Lib.hid hloose; have HL := Lib.hid hl
      have hcp := hcopy hl
      clear hloose hcopy hl
      by_cases hf : rfirstE c sd = 0
      · have h9 : c.op = 9 := by
          rcases Classical.em (c.op = 9) with e | e
          · exact e
          · exact absurd ⟨HL.out, hf, e⟩ HK.out
        have hEv : E = 0 := by
          rw [← HE.out, DoE, if_pos HL.out, doE, if_neg (by rw [h9]; decide), if_pos h9]
        have hNv : N = openM t ds := by rw [← HN.out, doM, if_neg (fun h => h.2 h9)]
        rw [hf] at hfirst
        have HFI := Lib.hid hfirst; have HCP := Lib.hid hcp; have HEV := Lib.hid hEv; have HNV := Lib.hid hNv
        have h9b : (c.op == 9) = true := by simp [h9]
        clear hfirst hcp hEv hNv h9 hf
        unfold CopyRes at HCP
        unfold TV.val at HCP
        have HLP := Lib.hid (looseP_of HL.out)
        go_enter Tryz.func25, Tryz.ntmps25
        go_upto_region 8 with (first | (go_at_call 23; refine (HLO.out _ (HD.out.tree.keep hw3)).mono ?_; rintro e w1 ⟨rfl, hb1⟩; have hT1 := hT.below hb1 hT.lt; have hI1 := hI.below hb1 hI.lt; have hR1 := hR.below hb1 hR.lt; have hw1 := hw3.trans (hb1.mono hw3.size); have i0 := hI1.cell 0; have i1 := hI1.cell 1; have i2 := hI1.cell 2; have i3 := hI1.cell 3; have i4 := hI1.cell 4) | (go_at_call 41; refine (HFI.out _ (HS.out.keep hw1)).mono ?_; rintro e w2 ⟨rfl, hb2⟩; have hT2 := hT1.below hb2 hT1.lt; have hI2 := hI1.below hb2 hI1.lt; have hR2 := hR1.below hb2 hR1.lt; have hw2 := hw1.trans (hb2.mono hw1.size); have j0 := hI2.cell 0))
        have s0 := hT2.cell 0; have s1 := hT2.cell 1
        clear t0 t1 i0 i1 i2 i3 i4 hT1 hI1 hR1 hw1 hb1 hb2 hT hI hR hw3
        go_wp2_with (first | (go_at_call 24; refine (HCP.out _ (HD.out.keep hw2)).mono ?_; rintro e w5 ⟨⟨un, uf, uNA, unn, unc, uFA, ufn, ufc⟩, rfl, c1, c2, c3, c4, c5, c6, c7, c8, hb5⟩; have HTo := Lib.hid ((copy_told HD.out HLP.out c1 c2 c3 c4 c5 c6 c7 c8).base hw2.size); clear c1 c2 c3 c4 c5 c6 c7 c8; have hR5 := hR2.below hb5 hR2.lt; have hw5 := hw2.trans (hb5.mono hw2.size)) | (refine wpList_store_blk rfl 25 (.tmp 6) (.tmp 30) rfl hR5 #[.slice uNA unn unc, .slice uFA ufn ufc] rfl rfl (by kernel_rfl) rfl (by simp [Value.oneCell']) ?_; intro w7 hB7 hg7 hs7))
        exact ret_cell_t rfl rfl (load_blk hB7 Tryz.underlying25 rfl (by kernel_rfl)) rfl ⟨⟨un, uf, uNA, unn, unc, uFA, ufn, ufc⟩, by rw [HEV.out]; rfl, fun h => absurd HEV.out h, fun _ => ⟨_, by rw [HNV.out]; exact HTo.out.store hR5 hg7⟩, hw5.trans (below_grown hg7 hw5.size (fun g e => by injection e with e; omega))⟩
      · have hEv : E = rfirstE c sd := by
          rw [← HE.out, DoE, if_pos HL.out, doE]
          unfold rfirstE at hf ⊢
          by_cases h1 : isOp c.op = false
          · rw [if_pos h1, if_pos h1]
          · rw [if_neg h1] at hf ⊢
            by_cases h2 : c.op = 9
            · rw [if_pos h2] at hf; exact absurd rfl hf
            · rw [if_neg h2] at hf ⊢
              rw [if_neg h1, if_neg h2, if_pos hf]
        rw [← hEv] at hfirst hf
        have HFI := Lib.hid hfirst; have HF := Lib.hid hf
        have hne := ne_b hf
        have n1 := hne.1; have n2 := hne.2
        clear hfirst hEv hf hne hcp
        go_enter Tryz.func25, Tryz.ntmps25
        go_wp2_with (first | (go_at_call 23; refine (HLO.out _ (HD.out.tree.keep hw3)).mono ?_; rintro e w1 ⟨rfl, hb1⟩; have hI1 := hI.below hb1 hI.lt; have hR1 := hR.below hb1 hR.lt; have hw1 := hw3.trans (hb1.mono hw3.size); have i0 := hI1.cell 0; have i1 := hI1.cell 1; have i2 := hI1.cell 2; have i3 := hI1.cell 3; have i4 := hI1.cell 4) | (go_at_call 41; refine (HFI.out _ (HS.out.keep hw1)).mono ?_; rintro e w2 ⟨rfl, hb2⟩; have hR2 := hR1.below hb2 hR1.lt; have hw2 := hw1.trans (hb2.mono hw1.size)) | (refine wpList_store_blk rfl 25 (.tmp 6) (.tmp 24) rfl hR2 #[.slice none 0 0, .slice none 0 0] rfl rfl (by kernel_rfl) rfl (by simp [Value.oneCell']) ?_; intro w7 hB7 hg7 hs7))
        exact ret_cell_t rfl rfl (load_blk hB7 Tryz.underlying25 rfl (by kernel_rfl)) rfl ⟨zeroTV, rfl, fun _ => rfl, fun h => absurd h HF.out, hw2.trans (below_grown hg7 hw2.size (fun g e => by injection e with e; omega))⟩
    · have hEv : E = looseE t := by rw [← HE.out, DoE, if_neg hl]
      rw [← hEv] at hloose hl
      have HLO := Lib.hid hloose; have HL := Lib.hid hl
      have hne := ne_b hl
      have n1 := hne.1; have n2 := hne.2
      clear hloose hEv hl hne hcopy hfirst
      go_enter Tryz.func25, Tryz.ntmps25
      go_wp2_with (first | (go_at_call 23; refine (HLO.out _ (HD.out.tree.keep hw3)).mono ?_; rintro e w1 ⟨rfl, hb1⟩; have hR1 := hR.below hb1 hR.lt; have hw1 := hw3.trans (hb1.mono hw3.size)) | (refine wpList_store_blk rfl 25 (.tmp 6) (.tmp 17) rfl hR1 #[.slice none 0 0, .slice none 0 0] rfl rfl (by kernel_rfl) rfl (by simp [Value.oneCell']) ?_; intro w7 hB7 hg7 hs7))
      exact ret_cell_t rfl rfl (load_blk hB7 Tryz.underlying25 rfl (by kernel_rfl)) rfl ⟨zeroTV, rfl, fun _ => rfl, fun h => absurd h HL.out, hw1.trans (below_grown hg7 hw1.size (fun g e => by injection e with e; omega))⟩
end Go.Proofs.YthmeffpickejkaaGreat
