/- ModelRest. -/
import Derived.Test.YthmeffpickejkaaRestP
import Derived.ChangeMaps5
namespace Go.Proofs.Ythmeffpickejkaa.modelRestDone
open Go.ChangeShapes Go.WideShapes Go.ChangeAt Go.ChangeMaps Go.RowKit Go.Deep

set_option maxRecDepth 100000 in
set_option maxHeartbeats 16000000 in
theorem walk (t : TV) (ds : List ByteArray) (c : Cmd) (SA : Option Addr) (sn sc : Nat) (ss : List SC) (sd : List ByteArray) (w : World) (hT : TreeD w t ds) (hC : OpOk c) (hS : StockAt w SA sn ss sd) :
    Calls Try.prog 5 #[t.val, .agg c.cells, .slice SA sn sc] w fun e w' => e = .returned (.bool true) ∧ Below w.heap.size w w' := by
  have HT := Lib.hid hT; have HS := Lib.hid hS; have HC := Lib.hid hC
  clear hT hS hC
  obtain ⟨nodes, files, NA, nn, nc, FA, fn, fc⟩ := t
  have hCp := c.hp
  unfold TV.val Cmd.cells
  have hB := (Blk.new w 25 #[.slice NA nn nc, .slice FA fn fc]).alloc (.cells #[.int .i64 c.op, .string c.path, .string c.dst, .int .i64 c.mode, .int .i64 c.ref] 27)
  have hI := Blk.new (w.alloc (.cells #[.slice NA nn nc, .slice FA fn fc] 25)) 27 #[.int .i64 c.op, .string c.path, .string c.dst, .int .i64 c.mode, .int .i64 c.ref]
  have hb := ((Below.refl w.heap.size w).alloc (Nat.le_refl _) (.cells #[.slice NA nn nc, .slice FA fn fc] 25)).alloc (by simp) (.cells #[.int .i64 c.op, .string c.path, .string c.dst, .int .i64 c.mode, .int .i64 c.ref] 27)
  simp only [World.size_alloc] at hI
  go_enter Try.func5, Try.ntmps5
  go_upto_region 4 with (first | (go_at_call 13; refine (alive7 _).mono ?_; rintro e w1 ⟨rfl, hb1⟩; replace hB := hB.below hb1 hB.lt; replace hI := hI.below hb1 hI.lt; replace hb := hb.trans (hb1.mono hb.size); have b0 := hB.cell 0; have b1 := hB.cell 1) | (go_at_call 14; refine (lbig_any ⟨nodes, files, NA, nn, nc, FA, fn, fc⟩ _ (HT.out.tree.keep hb)).mono ?_; rintro e w2 ⟨x, rfl, _, hb2⟩; replace hB := hB.below hb2 hB.lt; replace hI := hI.below hb2 hI.lt; replace hb := hb.trans (hb2.mono hb.size)) | (go_at_call 15; refine (much7 SA sn sc ss sd _ (HS.out.keep hb)).mono ?_; rintro e w3 ⟨y, rfl, hb3⟩; replace hB := hB.below hb3 hB.lt; replace hI := hI.below hb3 hI.lt; replace hb := hb.trans (hb3.mono hb.size)))
  cases x
  rotate_left
  · cases y
    all_goals go_wp2
    all_goals go_ret
    all_goals exact ⟨rfl, hb⟩
  cases y
  rotate_left
  · go_wp2
    go_ret
    exact ⟨rfl, hb⟩
  obtain ⟨W0, hW0⟩ : ∃ W, W = w3 := ⟨_, rfl⟩
  rw [← hW0] at hB hI hb ⊢
  clear hW0 b0 b1 hb1 hb2 hb3
  obtain ⟨gI, hgI⟩ : ∃ g, w.heap.size + 1 = g := ⟨_, rfl⟩
  rw [hgI] at hI ⊢
  clear hgI
  obtain ⟨E, hE⟩ : ∃ E, DoE ⟨nodes, files, NA, nn, nc, FA, fn, fc⟩ ds c sd = E := ⟨_, rfl⟩
  have HE := Lib.hid hE
  have c1 := Do_told ⟨nodes, files, NA, nn, nc, FA, fn, fc⟩ ds c HC.out SA sn sc ss sd W0 (HT.out.keep hb) (HS.out.keep hb)
  rw [hE] at c1
  have C1 : Hid (Calls Try.prog 18 #[.agg #[.slice NA nn nc, .slice FA fn fc], .agg #[.int .i64 c.op, .string c.path, .string c.dst, .int .i64 c.mode, .int .i64 c.ref], .slice SA sn sc] W0 fun e w' => ∃ u S, e = .returned (.tuple #[u.val, .int .i64 E]) ∧ ToldAs (doW ⟨nodes, files, NA, nn, nc, FA, fn, fc⟩ ds c sd) W0.heap.size w' S u ∧ Below W0.heap.size W0 w') := Lib.hid c1
  clear c1 hE
  have b0 := hB.cell 0; have b1 := hB.cell 1; have i0 := hI.cell 0; have i1 := hI.cell 1; have i2 := hI.cell 2; have i3 := hI.cell 3; have i4 := hI.cell 4
  go_upto_region 7 with (go_at_call 18; refine C1.out.mono ?_; rintro e w5 ⟨u, S, rfl, hT5, hb5⟩; replace hB := hB.below hb5 hB.lt; replace hI := hI.below hb5 hI.lt; replace hb := hb.trans (hb5.mono hb.size); unfold TV.val)
  clear C1 b0 b1 i0 i1 i2 i3 i4
  have hcut := TreeCut.alloc hT5 hb5
  have hU := Blk.new w5 25 #[.slice u.NA u.nn u.nc, .slice u.FA u.fn u.fc]
  replace hB := hB.alloc (.cells #[.slice u.NA u.nn u.nc, .slice u.FA u.fn u.fc] 25)
  replace hI := hI.alloc (.cells #[.slice u.NA u.nn u.nc, .slice u.FA u.fn u.fc] 25)
  replace hb := hb.alloc hb.size (.cells #[.slice u.NA u.nn u.nc, .slice u.FA u.fn u.fc] 25)
  have hTu := hT5.tree.keep ((Below.refl w5.heap.size w5).alloc (Nat.le_refl _) (.cells #[.slice u.NA u.nn u.nc, .slice u.FA u.fn u.fc] 25))
  have HTell := Lib.hid hT5.tells
  obtain ⟨es, hes⟩ : ∃ es, dsOf (doW ⟨nodes, files, NA, nn, nc, FA, fn, fc⟩ ds c sd) S = es := ⟨_, rfl⟩
  rw [hes] at HTell hTu
  obtain ⟨gU, hgU⟩ : ∃ g, w5.heap.size = g := ⟨_, rfl⟩
  obtain ⟨Wu, hWu⟩ : ∃ W, w5.alloc (.cells #[.slice u.NA u.nn u.nc, .slice u.FA u.fn u.fc] 25) = W := ⟨_, rfl⟩
  rw [hWu] at hU hB hI hb hTu ⊢
  rw [hgU] at hU ⊢
  have HTu := Lib.hid hTu
  have HTt := Lib.hid (HT.out.keep hb)
  clear hes hgU hWu hT5 hb5 hcut hTu
  by_cases h0 : E = 0
  rotate_left
  · have h0b := bne_iff_ne.2 h0
    have H0 := Lib.hid h0; clear h0
    go_wp2_with (go_at_call 20; refine (num7 _ _).mono ?_; rintro e w7 ⟨rfl, hw⟩; rw [hw]; clear hw)
    go_ret
    exact ⟨rfl, hb⟩
  subst h0
  have HNode := Lib.hid (fun (x : Node) (hx : x ∈ nodes) (hc : ¬ c.at x.path) => rest_node HT.out HE.out HTell.out hx hc)
  have HSame := Lib.hid (fun (x m : Node) (hx : x ∈ nodes) (hm : m ∈ nodes) (hcx : ¬ c.at x.path) (hcm : ¬ c.at m.path) (k l : Nat) (y z : Node) hy hz => rest_same (k := k) (l := l) (y := y) (z := z) HT.out HE.out HTell.out hx hm hcx hcm hy hz)
  have hlen := rest_len HT.out HE.out HTell.out
  have hn256 : nn ≤ 256 := (good_of_loose (doE_loose HE.out).1).nn
  simp only at hlen
  have HNL := Lib.hid (show nodes.length = nn from HT.out.tree.nl)
  have HFL := Lib.hid (show files.length = fn from HT.out.tree.fl)
  have HUL := Lib.hid HTu.out.tree.nl
  have HVL := Lib.hid HTu.out.tree.fl
  have hnm : nn ≤ 9223372036854775807 := HT.out.tree.nm
  have hum : u.nn ≤ 9223372036854775807 := HTu.out.tree.nm
  go_upto_region 9 with (go_at_call 20; refine (num7 _ _).mono ?_; rintro e w7 ⟨rfl, hw⟩; rw [hw]; clear hw)
  go_wp2
  have hBl := hB.lt; have hIl := hI.lt; have hUl := hU.lt
  have hbs := hb.size
  go_loopw [12] (fun i wr => ∃ k : Nat, k ≤ nn ∧ i = .int .i64 k ∧ Below Wu.heap.size Wu wr) (fun i _ => nn - (intOf i).toNat)
  case atStart => exact ⟨0, Nat.zero_le _, rfl, Below.refl _ _⟩
  case round =>
    obtain ⟨i, hi, rfl, hv⟩ := hrel
    have hB1 := hB.below hv hBl
    have hI1 := hI.below hv hIl
    have hU1 := hU.below hv hUl
    have b0 := hB1.cell 0; have b1 := hB1.cell 1; have u0 := hU1.cell 0; have u1 := hU1.cell 1; have i0 := hI1.cell 0; have i1 := hI1.cell 1; have i2 := hI1.cell 2
    have hvs := hv.size
    by_cases hlt : i < nn
    rotate_left
    · obtain rfl : i = nn := by omega
      have hle : (u.nn : Int) ≤ (i : Int) + 1 := by omega
      have hCp2 := hCp
      cases hvl : validL c.path.data.toList with
      | true =>
        have HF := Lib.hid (names_few hvl)
        go_wp2_with (go_at_call 26; refine (rnames_ok c.path _ hCp2 hvl).mono ?_; rintro e w7 ⟨ps, A, m, cc, rfl, hm, hd, _, hb7⟩; have hm7 : (m : Int) < 7 := by (have h1 := congrArg List.length hd; have h2 := HF.out; simp only [datas, List.length_map] at h1; omega))
        go_ret
        exact ⟨rfl, hb.trans ((hv.trans (hb7.mono hvs)).mono hbs)⟩
      | false =>
        go_wp2_with (go_at_call 26; refine (rnames_no c.path _ hCp2 hvl).mono ?_; rintro e w7 ⟨ps, A, m, cc, rfl, hm, hd, _, hb7⟩; have hm7 : (m : Int) < 7 := by (have h1 := congrArg List.length hd; simp only [datas, List.length_map, List.length_nil] at h1; omega))
        go_ret
        exact ⟨rfl, hb.trans ((hv.trans (hb7.mono hvs)).mono hbs)⟩
    have hki : (i : Int) < nn := by omega
    obtain ⟨xb, xo, x, rfl, hxb, hx, hc⟩ := (HTt.out.tree.ns.keep (Nat.le_refl _) hv.block).get Node.len HNL.out hlt
    have c0 := hc 0 _ rfl
    have c1 := hc 1 _ rfl
    have c2 := hc 2 _ rfl
    simp only [Nat.add_zero] at c0 c1 c2
    have hxm := List.mem_of_getElem? hx
    have HX := Lib.hid hxm
    clear hc hx hxm
    go_upto_region 13 with (fail)
    have hN := Blk.new wr 48 #[.string x.path, .int .i64 x.file, .int .i64 x.mode]
    have hv2 := hv.alloc hvs (.cells #[.string x.path, .int .i64 x.file, .int .i64 x.mode] 48)
    obtain ⟨gN, hgN⟩ : ∃ g, wr.heap.size = g := ⟨_, rfl⟩
    obtain ⟨W2, hW2⟩ : ∃ W, wr.alloc (.cells #[.string x.path, .int .i64 x.file, .int .i64 x.mode] 48) = W := ⟨_, rfl⟩
    rw [hW2] at hN hv2 ⊢
    rw [hgN] at hN ⊢
    clear b0 b1 u0 u1 i0 i1 i2 c0 c1 c2 hB1 hI1 hU1 hvs hv hgN hW2
    have hI1 := hI.below hv2 hIl
    have hU1 := hU.below hv2 hUl
    have n0 := hN.cell 0; have n1 := hN.cell 1; have n2 := hN.cell 2; have i1 := hI1.cell 1; have i2 := hI1.cell 2; have u0 := hU1.cell 0; have u1 := hU1.cell 1
    by_cases q1 : x.path = c.path
    · have q1c : (x.path.toList == c.path.toList) = true := by rw [q1]; exact beq_self_eq_true _
      have Q1 := Lib.hid q1; clear q1
      go_wp2
      go_roundw
      case rel => exact ⟨i + 1, by omega, by go_num, hv2⟩
      case measure => simp [intOf]; omega
    have q1c : (x.path.toList == c.path.toList) = false := beq_eq_false_iff_ne.2 (fun e => q1 (toList_inj e))
    have Q1 := Lib.hid q1; clear q1
    by_cases q2 : x.path = c.dst
    · have q2c : (x.path.toList == c.dst.toList) = true := by rw [q2]; exact beq_self_eq_true _
      have Q2 := Lib.hid q2; clear q2
      go_wp2
      go_roundw
      case rel => exact ⟨i + 1, by omega, by go_num, hv2⟩
      case measure => simp [intOf]; omega
    have q2c : (x.path.toList == c.dst.toList) = false := beq_eq_false_iff_ne.2 (fun e => q2 (toList_inj e))
    have HCX := Lib.hid (show ¬ c.at x.path from fun h => h.elim Q1.out q2)
    clear q2
    obtain ⟨k, y, hK⟩ := HNode.out x HX.out HCX.out
    have HK := Lib.hid hK
    have hkf := hK.find
    have hkm := hK.mode
    have hkd := hK.dir
    have hkn : k < u.nn := by rw [← HUL.out]; exact (List.getElem?_eq_some_iff.1 hK.at_).1
    have HKF := Lib.hid hkf; have HKM := Lib.hid hkm; have HKD := Lib.hid hkd
    clear hK hkf hkm hkd
    go_upto_region 15 with (go_at_call 25; refine (rfind_any u x.path _ (HTu.out.tree.keep hv2)).mono ?_; rintro e w6 ⟨rfl, hb6⟩; rw [HKF.out]; replace hN := hN.below hb6 hN.lt; replace hv2 := hv2.trans (hb6.mono hv2.size))
    clear hb6
    obtain ⟨W3, hW3⟩ : ∃ W, W = w6 := ⟨_, rfl⟩
    rw [← hW3] at hN hv2 ⊢
    clear hW3 n0 n1 n2 i1 i2 u0 u1 hI1 hU1
    have hU1 := hU.below hv2 hUl
    have n0 := hN.cell 0; have n1 := hN.cell 1; have n2 := hN.cell 2; have u0 := hU1.cell 0; have u1 := hU1.cell 1
    have hkk : (k : Int) < u.nn := by omega
    obtain ⟨yb, yo, y', hyA, hyb, hy', hd⟩ := (HTu.out.tree.ns.keep (Nat.le_refl _) hv2.block).get Node.len HUL.out hkn
    obtain rfl : y = y' := by have := HK.out.at_; rw [hy'] at this; injection this with this; exact this.symm
    have d1 := hd 1 _ rfl
    have d2 := hd 2 _ rfl
    rw [HKM.out] at d2
    rw [hyA] at u0
    clear hd hy' hyA
    have hUl1 := hU1.lt
    have hNl1 := hN.lt
    have hyw : yb < W3.heap.size := Nat.lt_of_lt_of_le hyb hv2.size
    by_cases a5 : x.file = -1
    · have a6 : y.file = -1 := HKD.out.2 a5
      rw [a6] at d1
      rw [a5] at n1
      have A5 := Lib.hid a5; have A6 := Lib.hid a6; clear a5 a6
      go_upto_region 15 with (fail)
      refine wp_region_ordB (none) [(0, true), (1, true), (2, true), (3, true), (4, true), (5, true), (6, true), (7, true), (8, true), (9, true), (10, true), (11, true), (12, true), (13, true), (14, true), (15, true), (16, true), (17, true), (18, true), (19, true), (20, true), (21, true), (22, true), (23, true), (24, true), (25, true)] (by kernel_rfl) (by kernel_rfl) fun hG0 => ?_
      repeat (first
        | (refine ord_skipB rfl (by rfl) ?_; simp only [Act.put, List.setIfInBounds_toArray, List.set_cons_zero, List.set_cons_succ])
        | (refine ord_qE rfl (by rfl) ?_; apply Exists.intro; refine ⟨fun w' hc' => ?_, ?_⟩; (focus (go_simp; (try go_bits); (try simp only [↓IntWalk.iteOmega]); with_reducible rfl)); simp only [Act.put, List.setIfInBounds_toArray, List.set_cons_zero, List.set_cons_succ]))
      refine ord_end ?_
      replace hN := hN.grown hG0 (by simp)
      replace hv2 := hv2.trans (below_grown hG0 hv2.size (fun g e => by cases e))
      clear hG0 n0 n1 n2 u0 u1 d1 d2
      have n1 := hN.cell 1
      rw [A5.out] at n1
      go_wp2
      go_roundw
      case rel => exact ⟨i + 1, by omega, by go_num, hv2⟩
      case measure => simp [intOf]; omega
    have a6 : ¬ y.file = -1 := fun e => a5 (HKD.out.1 e)
    have a5b : (x.file == -1) = false := beq_eq_false_iff_ne.2 a5
    have a6b : (y.file == -1) = false := beq_eq_false_iff_ne.2 a6
    obtain ⟨rx0, rx1⟩ := HK.out.rx a5
    obtain ⟨ry0, ry1⟩ := HK.out.ry a5
    have HDat := Lib.hid (HK.out.data a5)
    have HMod := Lib.hid (HK.out.fmode a5)
    have A5 := Lib.hid a5
    clear a5 a6
    obtain ⟨fx, hfx⟩ := Int.eq_ofNat_of_zero_le rx0
    obtain ⟨fy, hfy⟩ := Int.eq_ofNat_of_zero_le ry0
    have HFX := Lib.hid hfx; have HFY := Lib.hid hfy
    simp only at rx1
    have hfx1 : fx < fn := by omega
    have hfy1 : fy < u.fn := by omega
    have hfxi : (fx : Int) < fn := by omega
    have hfyi : (fy : Int) < u.fn := by omega
    clear rx0 rx1 ry0 ry1 hfx hfy
    rw [HFX.out] at n1 a5b
    rw [HFY.out] at d1 a6b
    go_upto_region 15 with (fail)
    refine wp_region_ordB (none) [(0, true), (1, true), (2, true), (3, true), (4, true), (5, true), (6, true), (7, true), (8, true), (9, true), (10, true), (11, true), (12, true), (13, true), (14, true), (15, true), (16, true), (17, true), (18, true), (19, true), (20, true), (21, true), (22, true), (23, true), (24, true), (25, true)] (by kernel_rfl) (by kernel_rfl) fun hG0 => ?_
    repeat (first
      | (refine ord_skipB rfl (by rfl) ?_; simp only [Act.put, List.setIfInBounds_toArray, List.set_cons_zero, List.set_cons_succ])
      | (refine ord_qE rfl (by rfl) ?_; apply Exists.intro; refine ⟨fun w' hc' => ?_, ?_⟩; (focus (go_simp; (try go_bits); (try simp only [↓IntWalk.iteOmega]); with_reducible rfl)); simp only [Act.put, List.setIfInBounds_toArray, List.set_cons_zero, List.set_cons_succ]))
    refine ord_end ?_
    replace hN := hN.grown hG0 (by simp)
    replace hv2 := hv2.trans (below_grown hG0 hv2.size (fun g e => by cases e))
    clear hG0 n0 n1 n2 u0 u1 d1 d2 hU1 hUl1 hNl1 hyw
    obtain ⟨W4, hW4⟩ : ∃ W, W = W3.drew := ⟨_, rfl⟩
    rw [← hW4] at hN hv2 ⊢
    clear hW4
    have hB1 := hB.below hv2 hBl
    have n1 := hN.cell 1
    rw [HFX.out] at n1
    have b1 := hB1.cell 1
    obtain ⟨fb, fo, fx', hfA, hfb, hfx', hf⟩ := (HTt.out.tree.fs.keep (Nat.le_refl _) hv2.block).get FC.len HFL.out hfx1
    have f0 := hf 0 _ rfl
    have f1 := hf 1 _ rfl
    simp only [Nat.add_zero] at f0 f1
    simp only at hfA
    rw [hfA] at b1
    clear hfA
    obtain ⟨dx, hdx, hdxn, hdxs⟩ := HTt.out.dat.get hfx'
    have HDX := Lib.hid (treeF_at (t := ⟨nodes, files, some ⟨xb, xo, none⟩, nn, nc, FA, fn, fc⟩) hfx' hdx)
    clear hf hfx' hdx
    go_upto_region 19 with (fail)
    have hA := Blk.new W4 52 #[.int .i64 fx'.mode, .slice fx'.A fx'.n fx'.c]
    replace hN := hN.alloc (.cells #[.int .i64 fx'.mode, .slice fx'.A fx'.n fx'.c] 52)
    replace hv2 := hv2.alloc hv2.size (.cells #[.int .i64 fx'.mode, .slice fx'.A fx'.n fx'.c] 52)
    obtain ⟨gA, hgA⟩ : ∃ g, W4.heap.size = g := ⟨_, rfl⟩
    obtain ⟨W5, hW5⟩ : ∃ W, W4.alloc (.cells #[.int .i64 fx'.mode, .slice fx'.A fx'.n fx'.c] 52) = W := ⟨_, rfl⟩
    rw [hW5] at hA hN hv2 ⊢
    rw [hgA] at hA ⊢
    clear hW5 hgA n1 b1 f0 f1 hB1
    have hU1 := hU.below hv2 hUl
    have u0 := hU1.cell 0; have u1 := hU1.cell 1
    obtain ⟨yb2, yo2, y2, hyA2, hyb2, hy2, hd⟩ := (HTu.out.tree.ns.keep (Nat.le_refl _) hv2.block).get Node.len HUL.out hkn
    obtain rfl : y = y2 := by have := HK.out.at_; rw [hy2] at this; injection this with this; exact this.symm
    have d1 := hd 1 _ rfl
    rw [HFY.out] at d1
    rw [hyA2] at u0
    clear hd hy2 hyA2
    obtain ⟨hb2, ho2, fy', hfA2, hfb2, hfy', hf⟩ := (HTu.out.tree.fs.keep (Nat.le_refl _) hv2.block).get FC.len HVL.out hfy1
    have f0 := hf 0 _ rfl
    have f1 := hf 1 _ rfl
    simp only [Nat.add_zero] at f0 f1
    rw [hfA2] at u1
    clear hfA2
    obtain ⟨dy, hdy, hdyn, hdys⟩ := HTu.out.dat.get hfy'
    have HDY := Lib.hid (treeF_at (t := u) hfy' hdy)
    clear hf hfy' hdy
    have hde : dy = dx := by
      have h := HDat.out
      rw [HFX.out, HFY.out, HDX.out, HDY.out] at h
      exact h
    have hmo : c.op ≠ 8 → fy'.mode = fx'.mode := fun h8 => by
      have h := HMod.out h8
      rw [HFX.out, HFY.out, HDX.out, HDY.out] at h
      exact h
    subst hde
    have HMO := Lib.hid hmo
    clear hmo HDat HMod HDX HDY
    have hUl1 := hU1.lt
    have hyw : yb2 < W5.heap.size := Nat.lt_of_lt_of_le hyb2 hv2.size
    have hfw : hb2 < W5.heap.size := Nat.lt_of_lt_of_le hfb2 hv2.size
    refine wp_region_ordB (none) [(0, true), (1, true), (2, true), (3, true), (4, true), (5, true), (6, true), (7, true), (8, true), (9, true), (10, false), (11, false)] (by kernel_rfl) (by kernel_rfl) fun hG0 => ?_
    repeat (first
      | (refine ord_skipB rfl (by rfl) ?_; simp only [Act.put, List.setIfInBounds_toArray, List.set_cons_zero, List.set_cons_succ])
      | (refine ord_qE rfl (by rfl) ?_; apply Exists.intro; refine ⟨fun w' hc' => ?_, ?_⟩; (focus (go_simp; (try go_bits); (try simp only [↓IntWalk.iteOmega]); with_reducible rfl)); simp only [Act.put, List.setIfInBounds_toArray, List.set_cons_zero, List.set_cons_succ]))
    refine ord_eB rfl fun K hK => ?_
    go_wp2_with (fail)
    have hG1 := grown_trans hG0 (World.grownBy_alloc W5.drew (.cells #[.int .i64 0, .slice none 0 0] 52) none)
    refine hK.out _ _ hG1 ?_
    clear hK K
    repeat (first
      | (refine ord_skipB rfl (by rfl) ?_; simp only [Act.put, List.setIfInBounds_toArray, List.set_cons_zero, List.set_cons_succ])
      | (refine ord_qE rfl (by rfl) ?_; apply Exists.intro; refine ⟨fun w' hc' => ?_, ?_⟩; (focus (go_simp; (try go_bits); (try simp only [↓IntWalk.iteOmega]); with_reducible rfl)); simp only [Act.put, List.setIfInBounds_toArray, List.set_cons_zero, List.set_cons_succ]))
    refine ord_eB rfl fun K hK => ?_
    go_wp2_with (fail)
    have hG2 := grown_trans hG0 (World.grownBy_alloc W5.drew (.cells #[.int .i64 fy'.mode, .slice fy'.A fy'.n fy'.c] 52) none)
    refine hK.out _ _ hG2 ?_
    clear hK K
    repeat (first
      | (refine ord_skipB rfl (by rfl) ?_; simp only [Act.put, List.setIfInBounds_toArray, List.set_cons_zero, List.set_cons_succ])
      | (refine ord_qE rfl (by rfl) ?_; apply Exists.intro; refine ⟨fun w' hc' => ?_, ?_⟩; (focus (go_simp; (try go_bits); (try simp only [↓IntWalk.iteOmega]); with_reducible rfl)); simp only [Act.put, List.setIfInBounds_toArray, List.set_cons_zero, List.set_cons_succ]))
    refine ord_end ?_
    have hF : Blk (W5.drew.alloc (.cells #[.int .i64 fy'.mode, .slice fy'.A fy'.n fy'.c] 52)) W5.heap.size 52 #[.int .i64 fy'.mode, .slice fy'.A fy'.n fy'.c] := Blk.new W5.drew 52 #[.int .i64 fy'.mode, .slice fy'.A fy'.n fy'.c]
    replace hA := hA.grown hG2 (by simp)
    replace hN := hN.grown hG2 (by simp)
    replace hv2 := hv2.trans (below_grown hG2 hv2.size (fun g e => by cases e))
    clear hG0 hG1 hG2 u0 u1 d1 f0 f1 hU1 hUl1 hyw hfw
    obtain ⟨gF, hgF⟩ : ∃ g, W5.heap.size = g := ⟨_, rfl⟩
    obtain ⟨W6, hW6⟩ : ∃ W, (W5.alloc (.cells #[.int .i64 fy'.mode, .slice fy'.A fy'.n fy'.c] 52)).drew = W := ⟨_, rfl⟩
    have hW7 : W5.drew.alloc (.cells #[.int .i64 fy'.mode, .slice fy'.A fy'.n fy'.c] 52) = W6 := hW6
    rw [hW7] at hF hA hN hv2
    rw [hW6]
    rw [hgF] at hF ⊢
    clear hW6 hW7 hgF
    have SA' := Lib.hid (hdxs.below hv2 (Nat.le_refl _)); have SB' := Lib.hid (hdys.below hv2 (Nat.le_refl _))
    have NA' := Lib.hid hdxn; have NB' := Lib.hid hdyn
    clear hdxs hdys hdxn hdyn
    have hvs := hv2.size
    go_upto_region 20 with (fail)
    go_cut [135] from 117 to 134 (fun cc wx => cc = .bool false ∧ wx = W6)
    case first =>
      have hI1 := hI.below hv2 hIl
      have i0 := hI1.cell 0
      have a0 := hA.cell 0; have a1 := hA.cell 1; have f0 := hF.cell 0; have f1 := hF.cell 1
      have hIl1 := hI1.lt; have hAl1 := hA.lt; have hFl1 := hF.lt
      by_cases h8 : c.op = 8
      · have h8b : (c.op != 8) = false := by rw [h8]; rfl
        have H8 := Lib.hid h8; clear h8
        cases hm : (fx'.mode != fy'.mode)
        all_goals
          refine wp_region_textB (none) [(0, true), (1, true), (2, true), (3, true), (4, true), (5, true), (6, true), (7, true), (8, true), (9, true), (10, true), (11, true), (12, true), (13, true), (14, true), (15, true), (16, true), (17, true), (18, true)] (by kernel_rfl) fun hG0 => ?_
          repeat (first
            | (refine ord_skipB rfl (by rfl) ?_; simp only [Act.put, List.setIfInBounds_toArray, List.set_cons_zero, List.set_cons_succ])
            | (first | (refine ord_qH rfl (by rfl) (fun w' hh => exec_conv rfl rfl (SA'.out.held hvs rfl hh) NA'.out) ?_; simp only [Act.put, List.setIfInBounds_toArray, List.set_cons_zero, List.set_cons_succ]) | (refine ord_qH rfl (by rfl) (fun w' hh => exec_conv rfl rfl (SB'.out.held hvs rfl hh) NB'.out) ?_; simp only [Act.put, List.setIfInBounds_toArray, List.set_cons_zero, List.set_cons_succ]))
            | (refine ord_qE rfl (by rfl) ?_; apply Exists.intro; refine ⟨fun w' hc' => ?_, ?_⟩; (focus (go_simp; (try go_bits); (try simp only [↓IntWalk.iteOmega]); with_reducible rfl)); simp only [Act.put, List.setIfInBounds_toArray, List.set_cons_zero, List.set_cons_succ]))
          refine ord_end ?_
          go_wp2_with (fail)
          go_meet
          exact ⟨rfl, rfl⟩
      · rw [HMO.out h8] at f0
        have H8 := Lib.hid h8; clear h8
        refine wp_region_textB (none) [(0, true), (1, true), (2, true), (3, true), (4, true), (5, true), (6, true), (7, true), (8, true), (9, true), (10, true), (11, true), (12, true), (13, true), (14, true), (15, true), (16, true), (17, true), (18, true)] (by kernel_rfl) fun hG0 => ?_
        repeat (first
          | (refine ord_skipB rfl (by rfl) ?_; simp only [Act.put, List.setIfInBounds_toArray, List.set_cons_zero, List.set_cons_succ])
          | (first | (refine ord_qH rfl (by rfl) (fun w' hh => exec_conv rfl rfl (SA'.out.held hvs rfl hh) NA'.out) ?_; simp only [Act.put, List.setIfInBounds_toArray, List.set_cons_zero, List.set_cons_succ]) | (refine ord_qH rfl (by rfl) (fun w' hh => exec_conv rfl rfl (SB'.out.held hvs rfl hh) NB'.out) ?_; simp only [Act.put, List.setIfInBounds_toArray, List.set_cons_zero, List.set_cons_succ]))
          | (refine ord_qE rfl (by rfl) ?_; apply Exists.intro; refine ⟨fun w' hc' => ?_, ?_⟩; (focus (go_simp; (try go_bits); (try simp only [↓IntWalk.iteOmega]); with_reducible rfl)); simp only [Act.put, List.setIfInBounds_toArray, List.set_cons_zero, List.set_cons_succ]))
        refine ord_end ?_
        go_wp2_with (fail)
        go_meet
        exact ⟨rfl, rfl⟩
    case rest =>
      obtain ⟨rfl, hwc⟩ := hcut
      rw [hwc]
      clear hwc SA' SB' NA' NB' hA hF HMO
      go_wp2
      have hNl := hN.lt
      go_loopw [17] (fun v wv => ∃ j : Nat, j ≤ i ∧ v = .int .i64 j ∧ Below W6.heap.size W6 wv) (fun v _ => i - (intOf v).toNat)
      case atStart => exact ⟨0, Nat.zero_le _, rfl, Below.refl _ _⟩
      case round =>
        obtain ⟨j, hj, rfl, hv3⟩ := hrel
        by_cases hlt2 : j < i
        rotate_left
        · obtain rfl : j = i := by omega
          go_wp2
          go_roundw
          case rel => exact ⟨j + 1, by omega, by go_num, hv2.trans (hv3.mono hvs)⟩
          case measure => simp [intOf]; omega
        have hji : (j : Int) < i := by omega
        have hvv := hv2.trans (hv3.mono hvs)
        have hB1 := hB.below hvv hBl
        have b0 := hB1.cell 0
        obtain ⟨mb, mo, m, hmA, hmb, hmx, hc⟩ := (HTt.out.tree.ns.keep (Nat.le_refl _) hvv.block).get Node.len HNL.out (show j < nn by omega)
        have c0 := hc 0 _ rfl
        have c1 := hc 1 _ rfl
        have c2 := hc 2 _ rfl
        simp only [Nat.add_zero] at c0 c1 c2
        have hjn : (j : Int) < nn := by omega
        have hmm := List.mem_of_getElem? hmx
        have HM := Lib.hid hmm
        injection hmA with hmA
        injection hmA with e1 e2
        subst e1 e2
        clear hc hmx hmm
        go_upto_region 26 with (fail)
        have hM := Blk.new wr 48 #[.string m.path, .int .i64 m.file, .int .i64 m.mode]
        have hv4 := hv3.alloc hv3.size (.cells #[.string m.path, .int .i64 m.file, .int .i64 m.mode] 48)
        obtain ⟨gM, hgM⟩ : ∃ g, wr.heap.size = g := ⟨_, rfl⟩
        obtain ⟨V2, hV2⟩ : ∃ W, wr.alloc (.cells #[.string m.path, .int .i64 m.file, .int .i64 m.mode] 48) = W := ⟨_, rfl⟩
        rw [hV2] at hM hv4 ⊢
        rw [hgM] at hM ⊢
        clear b0 c0 c1 c2 hB1 hvv hv3 hgM hV2
        have hvv := hv2.trans (hv4.mono hvs)
        have hI1 := hI.below hvv hIl
        have hU1 := hU.below hvv hUl
        have m0 := hM.cell 0; have i1 := hI1.cell 1; have i2 := hI1.cell 2; have u0 := hU1.cell 0; have u1 := hU1.cell 1
        by_cases q1 : m.path = c.path
        · have q1c : (m.path.toList == c.path.toList) = true := by rw [q1]; exact beq_self_eq_true _
          have Q1m := Lib.hid q1; clear q1
          go_wp2
          go_roundw
          case rel => exact ⟨j + 1, by omega, by go_num, hv4⟩
          case measure => simp [intOf]; omega
        have q1c : (m.path.toList == c.path.toList) = false := beq_eq_false_iff_ne.2 (fun e => q1 (toList_inj e))
        have Q1m := Lib.hid q1; clear q1
        by_cases q2 : m.path = c.dst
        · have q2c : (m.path.toList == c.dst.toList) = true := by rw [q2]; exact beq_self_eq_true _
          have Q2m := Lib.hid q2; clear q2
          go_wp2
          go_roundw
          case rel => exact ⟨j + 1, by omega, by go_num, hv4⟩
          case measure => simp [intOf]; omega
        have q2c : (m.path.toList == c.dst.toList) = false := beq_eq_false_iff_ne.2 (fun e => q2 (toList_inj e))
        have HCM := Lib.hid (show ¬ c.at m.path from fun h => h.elim Q1m.out q2)
        clear q2
        obtain ⟨l, z, hL⟩ := HNode.out m HM.out HCM.out
        have hsame := HSame.out x m HX.out HM.out HCX.out HCM.out k l y z HK.out hL A5.out
        have HL := Lib.hid hL
        have hln : l < u.nn := by rw [← HUL.out]; exact (List.getElem?_eq_some_iff.1 hL.at_).1
        have HLF := Lib.hid hL.find; have HSM := Lib.hid hsame
        clear hL hsame
        go_upto_region 28 with (go_at_call 25; refine (rfind_any u m.path _ (HTu.out.tree.keep hvv)).mono ?_; rintro e w7 ⟨rfl, hb7⟩; rw [HLF.out]; replace hM := hM.below hb7 hM.lt; replace hv4 := hv4.trans (hb7.mono hv4.size))
        clear hb7
        obtain ⟨V3, hV3⟩ : ∃ W, W = w7 := ⟨_, rfl⟩
        rw [← hV3] at hM hv4 ⊢
        clear hV3 m0 i1 i2 u0 u1 hI1 hU1 hvv
        have hvv := hv2.trans (hv4.mono hvs)
        have hU1 := hU.below hvv hUl
        have hN1 := hN.below hv4 hNl
        have n1 := hN1.cell 1; have m1 := hM.cell 1; have u0 := hU1.cell 0
        have hkk : (k : Int) < u.nn := by omega
        have hll : (l : Int) < u.nn := by omega
        obtain ⟨yb3, yo3, y3, hyA3, hyb3, hy3, hd⟩ := (HTu.out.tree.ns.keep (Nat.le_refl _) hvv.block).get Node.len HUL.out hkn
        obtain rfl : y = y3 := by have := HK.out.at_; rw [hy3] at this; injection this with this; exact this.symm
        obtain ⟨zb3, zo3, z3, hzA3, hzb3, hz3, hd3⟩ := (HTu.out.tree.ns.keep (Nat.le_refl _) hvv.block).get Node.len HUL.out hln
        obtain rfl : z = z3 := by have := HL.out.at_; rw [hz3] at this; injection this with this; exact this.symm
        rw [hyA3] at hzA3
        injection hzA3 with hzA3
        injection hzA3 with e1 e2
        subst e1 e2
        have d1 := hd 1 _ rfl
        have z1 := hd3 1 _ rfl
        rw [hyA3] at u0
        clear hd hy3 hd3 hz3 hyA3
        have hUl1 := hU1.lt; have hNl1 := hN1.lt; have hMl1 := hM.lt
        have hyw : yb3 < V3.heap.size := Nat.lt_of_lt_of_le hyb3 hvv.size
        by_cases hmf : m.file = x.file
        · have e1 : (m.file == x.file) = true := by rw [hmf]; exact beq_self_eq_true _
          have e2 : (z.file == y.file) = true := by rw [HSM.out.1 hmf]; exact beq_self_eq_true _
          have HMF := Lib.hid hmf; clear hmf
          go_upto_region 28 with (fail)
          refine wp_region_ordB (none) [(0, true), (1, true), (2, true), (3, true), (4, true), (5, true), (6, true), (7, true), (8, true), (9, true), (10, true), (11, true), (12, true), (13, true), (14, true), (15, true), (16, true), (17, true), (18, true), (19, true), (20, true), (21, true), (22, true)] (by kernel_rfl) (by kernel_rfl) fun hG0 => ?_
          repeat (first
            | (refine ord_skipB rfl (by rfl) ?_; simp only [Act.put, List.setIfInBounds_toArray, List.set_cons_zero, List.set_cons_succ])
            | (first | (refine ord_qH rfl (by rfl) (fun w' hh => exec_conv rfl rfl (SA'.out.held hvs rfl hh) NA'.out) ?_; simp only [Act.put, List.setIfInBounds_toArray, List.set_cons_zero, List.set_cons_succ]) | (refine ord_qH rfl (by rfl) (fun w' hh => exec_conv rfl rfl (SB'.out.held hvs rfl hh) NB'.out) ?_; simp only [Act.put, List.setIfInBounds_toArray, List.set_cons_zero, List.set_cons_succ]))
            | (refine ord_qE rfl (by rfl) ?_; apply Exists.intro; refine ⟨fun w' hc' => ?_, ?_⟩; (focus (go_simp; (try go_bits); (try simp only [↓IntWalk.iteOmega]); with_reducible rfl)); simp only [Act.put, List.setIfInBounds_toArray, List.set_cons_zero, List.set_cons_succ]))
          refine ord_end ?_
          go_wp2
          go_roundw
          case rel => exact ⟨j + 1, by omega, by go_num, hv4.trans (below_grown hG0 hv4.size (fun g e => by cases e))⟩
          case measure => simp [intOf]; omega
        · have e1 : (m.file == x.file) = false := beq_eq_false_iff_ne.2 hmf
          have e2 : (z.file == y.file) = false := beq_eq_false_iff_ne.2 (fun e => hmf (HSM.out.2 e))
          have HMF := Lib.hid hmf; clear hmf
          go_upto_region 28 with (fail)
          refine wp_region_ordB (none) [(0, true), (1, true), (2, true), (3, true), (4, true), (5, true), (6, true), (7, true), (8, true), (9, true), (10, true), (11, true), (12, true), (13, true), (14, true), (15, true), (16, true), (17, true), (18, true), (19, true), (20, true), (21, true), (22, true)] (by kernel_rfl) (by kernel_rfl) fun hG0 => ?_
          repeat (first
            | (refine ord_skipB rfl (by rfl) ?_; simp only [Act.put, List.setIfInBounds_toArray, List.set_cons_zero, List.set_cons_succ])
            | (first | (refine ord_qH rfl (by rfl) (fun w' hh => exec_conv rfl rfl (SA'.out.held hvs rfl hh) NA'.out) ?_; simp only [Act.put, List.setIfInBounds_toArray, List.set_cons_zero, List.set_cons_succ]) | (refine ord_qH rfl (by rfl) (fun w' hh => exec_conv rfl rfl (SB'.out.held hvs rfl hh) NB'.out) ?_; simp only [Act.put, List.setIfInBounds_toArray, List.set_cons_zero, List.set_cons_succ]))
            | (refine ord_qE rfl (by rfl) ?_; apply Exists.intro; refine ⟨fun w' hc' => ?_, ?_⟩; (focus (go_simp; (try go_bits); (try simp only [↓IntWalk.iteOmega]); with_reducible rfl)); simp only [Act.put, List.setIfInBounds_toArray, List.set_cons_zero, List.set_cons_succ]))
          refine ord_end ?_
          go_wp2
          go_roundw
          case rel => exact ⟨j + 1, by omega, by go_num, hv4.trans (below_grown hG0 hv4.size (fun g e => by cases e))⟩
          case measure => simp [intOf]; omega

set_option maxRecDepth 100000 in
theorem lifted (os : Os) (started : os.Started) (H : Type) (enc : TypeId × Value → H) :
    ReturnsInHanded {} Try.checked os 5 .any (Rows.modelRestSpec.pre6 enc Try.prog Try.f5 Rows.modelRestRow.domain false) (Rows.modelRestSpec.post enc Try.prog Try.f5 false true false false) := by
  refine returnsInHanded_of_change (C := Try.checked) own started (by kernel_rfl) Try.func5
    (ChangeSpec.witness6 (enc := enc) (C := Try.checked) false ⟨#[], #[.agg #[.slice none 0 0, .slice none 0 0], .agg #[.int .i64 0, .string ByteArray.empty, .string ByteArray.empty, .int .i64 0, .int .i64 0], .slice none 0 0], []⟩ 8 (by kernel_rfl) (by kernel_rfl) (by kernel_rfl) (by kernel_rfl)) ?_
  intro W base args ds gs before hval0 hW hcnd _
  have hval : ∀ (j : Nat) t v, Try.f5.params[j]? = some t → args[j]? = some v → Value.okWide Try.prog W .any base t v := hval0
  have hW' := hW
  obtain ⟨p, q, hA0, hV, rfl, hfz, hnd⟩ := hW
  have hA : DataW.TrodAll enc Try.prog W 0 (fun _ => true) true Try.f5.params.toList args.toList ds p := hA0
  rw [Try.params5] at hA hval
  obtain ⟨v0, vs0, d0, ds0, p0, q0, hargs, rfl, rfl, h0, r0⟩ := trodAll_cons hA
  obtain ⟨v1, vs1, d1, ds1, p1, q1, rfl, rfl, rfl, h1, r1⟩ := trodAll_cons r0
  obtain ⟨v2, vs2, d2, ds2, p2, q2, rfl, rfl, rfl, h2, r2⟩ := trodAll_cons r1
  obtain ⟨rfl, rfl, rfl⟩ := trodAll_nil r2
  obtain rfl : args = #[v0, v1, v2] := by cases args; simp_all
  obtain ⟨rfl, rfl⟩ := trodVars_none hV
  have k0 := h0
  have lt0 : ∀ x ∈ p0, x.block < W.heap.size := by obtain ⟨m, hm⟩ := k0; exact DataW.trod_lt m _ _ _ hm
  obtain ⟨t0, ds0', rfl, hT0⟩ := open_tree (hval 0 25 v0 rfl rfl) h0 lt0
  have k1 := h1
  have lt1 : ∀ x ∈ p1, x.block < W.heap.size := by obtain ⟨m, hm⟩ := k1; exact DataW.trod_lt m _ _ _ hm
  obtain ⟨c1, rfl, ho1⟩ := open_cmd (hval 1 27 v1 rfl rfl) h1
  obtain ⟨a2, len2, cap2, rfl⟩ := okWide_slice Try.underlying28 (hval 2 28 v2 rfl rfl)
  have k2 := h2
  have lt2 : ∀ x ∈ p2, x.block < W.heap.size := by obtain ⟨m, hm⟩ := k2; exact DataW.trod_lt m _ _ _ hm
  obtain ⟨ss2, sd2, hK2⟩ : ∃ (ss : List SC) (sd : List ByteArray), StockAt W a2 len2 ss sd := by
    obtain ⟨fuel, hf⟩ := h2
    exact open_stock hf lt2
  clear hA0 hval0
  refine (walk t0 ds0' c1 a2 len2 cap2 ss2 sd2 W hT0 ho1 hK2).mono fun e W' ⟨he, bel⟩ => ?_
  subst he
  exact ⟨_, rfl, _, _, _, [], _, [], hW', trodAll_mk1 (shut_bool Try.underlying4 _), (trodAll_cons_mk (Below.trod laidOut (by kernel_rfl) (of_decide_eq_true (by kernel_rfl)) k0 bel lt0) (trodAll_cons_mk (Below.trod laidOut (by kernel_rfl) (of_decide_eq_true (by kernel_rfl)) k1 bel lt1) (trodAll_cons_mk (Below.trod laidOut (by kernel_rfl) (of_decide_eq_true (by kernel_rfl)) k2 bel lt2) trodAll_mk0))), rfl, bel.frame _, fun h => by cases h⟩

theorem over : Rows.modelRestRow.holds Try.pinned (OpenSpec.ofChange Rows.modelRestSpec) :=
  OpenClaim.holds_of_wide 5 Try.f5 rfl rfl rfl rfl rfl rfl rfl ⟨rfl, rfl, rfl, rfl, rfl⟩ rfl rfl rfl rfl rfl (by kernel_rfl) Try.func5 (by kernel_rfl)
    (of_decide_eq_true (by kernel_rfl)) (by unfold Func.isWrapper; first | (rw [if_pos (by decide +kernel)]; kernel_rfl) | (rw [if_neg (by decide +kernel)]; exact ⟨rfl, rfl⟩))
    (fun os started H enc _ => lifted os started H enc)

theorem proved : Rows.ModelRestSaid := over
#print axioms proved
end Go.Proofs.Ythmeffpickejkaa.modelRestDone
