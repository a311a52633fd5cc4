/- TreeChecks: a tree's form, weight, bytes and fingerprint are what the document says; what is handed in stays. -/
import Derived.Test.YtdjlchbgdehccaaChk
import Derived.Test.YtdjlchbgdehccaaRCheck
import Derived.Test.YtdjlchbgdehccaaLent
import Derived.Test.YtdjlchbgdehccaaBigR
import Derived.Test.YtdjlchbgdehccaaAliveT
import Derived.Test.YtdjlchbgdehccaaReach
import Derived.Test.YtdjlchbgdehccaaOpenT
import Derived.ChangeMaps5
import Derived.Deep.DeepCutAuto
namespace Go.Proofs.Ytdjlchbgdehccaa.treeChecksDone
open Go.ChangeShapes Go.WideShapes Go.ChangeAt Go.ChangeMaps Go.RowKit Go.Deep

set_option maxRecDepth 100000 in
set_option maxHeartbeats 8000000 in
theorem walk (t : TV) (ds : List ByteArray) (w : World) (hT : TreeD w t ds) (hR : ReachT t) :
    Calls Try.prog 9 #[t.val] w fun e w' => e = .returned (.bool true) ∧ Below w.heap.size w w' := by
  have HT := Lib.hid hT; have HR := Lib.hid hR
  clear hT hR
  obtain ⟨nodes, files, NA, nn, nc, FA, fn, fc⟩ := t
  unfold TV.val
  have hB := Blk.new w 26 #[.slice NA nn nc, .slice FA fn fc]
  have hb := (Below.refl w.heap.size w).alloc (Nat.le_refl _) (.cells #[.slice NA nn nc, .slice FA fn fc] 26)
  go_enter Try.func9, Try.ntmps9
  go_upto_region 3 with (first | (go_at_call 14; refine (alive_t _).mono ?_; rintro e w1 ⟨rfl, hb1⟩; replace hB := hB.below hb1 hB.lt; replace hb := hb.trans (hb1.mono hb.size); have b0 := hB.cell 0; have b1 := hB.cell 1) | (go_at_call 19; refine (lbig_reach ⟨nodes, files, NA, nn, nc, FA, fn, fc⟩ _ (HT.out.tree.keep hb) HR.out.1 HR.out.2).mono ?_; rintro e w2 ⟨x, rfl, hx, hb2⟩; replace hb := hb.trans (hb2.mono hb.size); replace hB := hB.below hb2 hB.lt))
  cases x
  rotate_left
  · go_wp2
    go_ret
    exact ⟨rfl, hb⟩
  obtain ⟨hnn, hfn, hsp, hsm⟩ := hx rfl
  have HSM := Lib.hid (show ∀ x ∈ files, x.n ≤ 2000000 from fun x hx => Nat.le_trans (hsm x hx) (by omega))
  clear hsp hsm
  change nn ≤ 300 at hnn
  change fn ≤ 300 at hfn
  clear hx b0 b1 hb1 hb2
  have b0 := hB.cell 0; have b1 := hB.cell 1
  go_upto_region 5 with (fail)
  go_upto_region 6 with (go_at_call 33; refine (lent_any ⟨nodes, files, NA, nn, nc, FA, fn, fc⟩ ds _ (HT.out.keep hb) (by show nn ≤ 100000; omega) (by show fn ≤ 100000; omega) HSM.out).mono ?_; rintro e w4 ⟨⟨un, uf, uNA, unn, unc, uFA, ufn, ufc⟩, rfl, hLt, hFull, hX, hb4⟩; unfold TV.val)
  obtain ⟨s1, s2, s3, s4, s5⟩ := lent_all hFull HT.out hX
  have c1 := fun W hW => check_any ⟨un, uf, uNA, unn, unc, uFA, ufn, ufc⟩ W hW
  have c2 := fun W hW => loose_any ⟨un, uf, uNA, unn, unc, uFA, ufn, ufc⟩ W hW
  have c3 := fun W hW => weight_any ⟨un, uf, uNA, unn, unc, uFA, ufn, ufc⟩ W hW
  have c4 := fun W hW => bytes_any ⟨un, uf, uNA, unn, unc, uFA, ufn, ufc⟩ ds W hW
  have c5 := fun W hW => print_any ⟨un, uf, uNA, unn, unc, uFA, ufn, ufc⟩ ds W hW
  have c6 := fun W hW => rloose_any ⟨nodes, files, NA, nn, nc, FA, fn, fc⟩ W hW
  have c7 := fun W hW => rcheck_any ⟨nodes, files, NA, nn, nc, FA, fn, fc⟩ W hW
  unfold WgtRes at c3
  unfold BytesAny at c4
  unfold PrintRes prF at c5
  rw [s1] at c2 c3 c4 c5
  rw [s2] at c1
  rw [s3, s4] at c3
  rw [s5] at c4 c5
  unfold IntRes at c1 c7
  have hwB : looseE ⟨nodes, files, NA, nn, nc, FA, fn, fc⟩ = 0 → wB ⟨nodes, files, NA, nn, nc, FA, fn, fc⟩ = N (wgtB ⟨nodes, files, NA, nn, nc, FA, fn, fc⟩) := fun h => if_pos h
  have hwI : looseE ⟨nodes, files, NA, nn, nc, FA, fn, fc⟩ = 0 → wI ⟨nodes, files, NA, nn, nc, FA, fn, fc⟩ = N (wgtI ⟨nodes, files, NA, nn, nc, FA, fn, fc⟩) := fun h => if_pos h
  have hwB0 : looseE ⟨nodes, files, NA, nn, nc, FA, fn, fc⟩ ≠ 0 → wB ⟨nodes, files, NA, nn, nc, FA, fn, fc⟩ = 0 := fun h => if_neg h
  have hwI0 : looseE ⟨nodes, files, NA, nn, nc, FA, fn, fc⟩ ≠ 0 → wI ⟨nodes, files, NA, nn, nc, FA, fn, fc⟩ = 0 := fun h => if_neg h
  obtain ⟨E, hE⟩ : ∃ x, checkE ⟨nodes, files, NA, nn, nc, FA, fn, fc⟩ = x := ⟨_, rfl⟩
  obtain ⟨F, hF⟩ : ∃ x, looseE ⟨nodes, files, NA, nn, nc, FA, fn, fc⟩ = x := ⟨_, rfl⟩
  obtain ⟨cb, hcb⟩ : ∃ x, wB ⟨nodes, files, NA, nn, nc, FA, fn, fc⟩ = x := ⟨_, rfl⟩
  obtain ⟨ci, hci⟩ : ∃ x, wI ⟨nodes, files, NA, nn, nc, FA, fn, fc⟩ = x := ⟨_, rfl⟩
  obtain ⟨L, hL⟩ : ∃ x, treeI ⟨nodes, files, NA, nn, nc, FA, fn, fc⟩ ds = x := ⟨_, rfl⟩
  rw [hE] at c1 c7
  rw [hF] at c2 c3 c4 c5 c6 hwB hwI hwB0 hwI0
  rw [hcb] at c3 hwB hwB0
  rw [hci] at c3 hwI hwI0
  rw [hL] at c4 c5
  obtain ⟨D, hD⟩ : ∃ x, (if F = 0 then outF (shaF L) else fun _ => 0) = x := ⟨_, rfl⟩
  rw [hD] at c5
  have HE := Lib.hid hE; have HF := Lib.hid hF; have HL := Lib.hid hL; have HD := Lib.hid hD
  have HwB := Lib.hid hwB; have HwI := Lib.hid hwI; have HwB0 := Lib.hid hwB0; have HwI0 := Lib.hid hwI0
  have C1 := Lib.hid c1; have C2 := Lib.hid c2; have C3 := Lib.hid c3; have C4 := Lib.hid c4; have C5 := Lib.hid c5; have C6 := Lib.hid c6; have C7 := Lib.hid c7
  clear hE hF hcb hci hL hD c1 c2 c3 c4 c5 c6 c7 s1 s2 s3 s4 s5 hwB hwI hwB0 hwI0
  unfold TV.val at C1 C2 C3 C4 C5 C6 C7
  have hG := Blk.new w4 26 #[.slice uNA unn unc, .slice uFA ufn ufc]
  have hg4 := (Below.refl w4.heap.size w4).alloc (Nat.le_refl _) (.cells #[.slice uNA unn unc, .slice uFA ufn ufc] 26)
  replace hB := (hB.below hb4 hB.lt).alloc (.cells #[.slice uNA unn unc, .slice uFA ufn ufc] 26)
  have hs4 := hb.size
  replace hb := (hb.trans (hb4.mono hs4)).trans (hg4.mono (by have := hb4.size; omega))
  replace hLt := hLt.keep hg4
  replace hFull := hFull.keep hg4
  obtain ⟨W4, hW4⟩ : ∃ W, w4.alloc (.cells #[.slice uNA unn unc, .slice uFA ufn ufc] 26) = W := ⟨_, rfl⟩
  obtain ⟨g, hg⟩ : ∃ g, w4.heap.size = g := ⟨_, rfl⟩
  rw [hW4] at hG hB hb hLt hFull ⊢
  rw [hg] at hG ⊢
  have HLt := Lib.hid hLt; have HFull := Lib.hid hFull; have HX := Lib.hid hX
  have HT4 := Lib.hid (HT.out.keep hb)
  have hBl := hB.lt; have hGl := hG.lt
  clear hW4 hg hg4 hs4 hb4 b0 b1 hLt hFull hX
  have f0 := hG.cell 0; have f1 := hG.cell 1; have b0 := hB.cell 0; have b1 := hB.cell 1
  have hz := Nat.le_refl W4.heap.size
  have he := Below.refl W4.heap.size W4
  go_upto_region 8 with (first | (go_at_call 15; refine (C1.out _ (HFull.out.tree.keep he)).mono ?_; rintro e w5 ⟨rfl, hb5⟩; replace he := he.trans (hb5.mono he.size); have hG5 := hG.below he hGl; have f0 := hG5.cell 0; have f1 := hG5.cell 1) | (go_at_call 16; refine (C2.out _ (HFull.out.tree.keep he)).mono ?_; rintro e w6 ⟨rfl, hb6⟩; replace he := he.trans (hb6.mono he.size)))
  have hG6 := hG.below he hGl
  have f0 := hG6.cell 0; have f1 := hG6.cell 1
  clear hb5 hb6 hG5
  go_upto_region 9 with (go_at_call 17; refine (C3.out _ (HFull.out.tree.keep he)).mono ?_; rintro e w7 ⟨rfl, hb7⟩)
  replace he := he.trans (hb7.mono he.size)
  have hG7 := hG.below he hGl
  clear hb7 hG6 f0 f1
  have f0 := hG7.cell 0; have f1 := hG7.cell 1
  go_upto_region 10 with (go_at_call 32; refine (C4.out _ (HFull.out.keep he)).mono ?_; rintro e w8 ⟨A, n, c, xs, rfl, hn, ho, hx, hy, hb8⟩)
  replace he := he.trans (hb8.mono he.size)
  have hG8 := hG.below he hGl
  have HS8 := Lib.hid (Sl.of_own ho); have Hn := Lib.hid hn; have Hx := Lib.hid hx; have Hy := Lib.hid hy
  clear hb8 hG7 ho hn hx hy f0 f1
  have f0 := hG8.cell 0; have f1 := hG8.cell 1
  go_upto_region 11 with (first | (go_at_call 34; refine (C5.out _ (HFull.out.keep he)).mono ?_; rintro e w9 ⟨rfl, hb9⟩) | (refine wpList_store_blk rfl 55 (.tmp 12) (.tmp 44) rfl (Blk.new w9 55 _) (arrB 32 D) rfl rfl (by kernel_rfl) (by kernel_rfl) (by kernel_rfl) ?_; intro wa hPa hga hsa))
  have hz9 := hb9.size
  have hga' : w9.grownBy wa none := grown_below (((Below.refl w9.heap.size w9).alloc (Nat.le_refl _) _).trans (below_grown hga (by simp) (fun g e => by injection e with e; omega))) (Nat.le_refl _)
  have hb9a : Below w8.heap.size w8 wa := hb9.trans (below_grown hga' hb9.size (fun g e => by cases e))
  have hw8 : W4.heap.size ≤ w8.heap.size := he.size
  replace he := he.trans (hb9a.mono he.size)
  have hGa := hG.below he hGl
  have hBa := hB.below he hBl
  have hwa : w8.heap.size ≤ wa.heap.size := hb9a.size
  have HSa := Lib.hid (HS8.out.below hb9a (Nat.le_refl _))
  have HPa := Lib.hid hPa
  have hPl := hPa.lt
  obtain ⟨pg, hpg⟩ : ∃ g, w9.heap.size = g := ⟨_, rfl⟩
  rw [hpg] at HPa hPl ⊢
  clear hpg hG8 HS8 hPa hga hsa hga' hb9 hb9a f0 f1 b0 b1 hz9
  have f0 := hGa.cell 0; have f1 := hGa.cell 1; have b0 := hBa.cell 0; have b1 := hBa.cell 1
  have hBal := hBa.lt
  go_upto_region 12 with (go_at_call 35; refine (stays_yes ⟨un, uf, uNA, unn, unc, uFA, ufn, ufc⟩ ⟨nodes, files, NA, nn, nc, FA, fn, fc⟩ ds ds _ (HLt.out.keep he) (HFull.out.keep he) (HT4.out.keep he) HX.out (by show nn ≤ 1000000; omega) (by show fn ≤ 1000000; omega) (fun x hx => Nat.le_trans (HSM.out x hx) (by omega))).mono ?_; rintro e wb ⟨rfl, hbb⟩)
  replace he := he.trans (hbb.mono he.size)
  have hBb := hBa.below hbb hBal
  have HSb := Lib.hid (HSa.out.below hbb hwa)
  have hwb := Nat.le_trans hwa hbb.size
  have HPb := Lib.hid (HPa.out.below hbb hPl)
  have hPbl := HPb.out.lt
  clear hbb hBa HSa HPa f0 f1 b0 b1 hPl hGa hBal
  have b0 := hBb.cell 0; have b1 := hBb.cell 1; have hBbl := hBb.lt
  go_upto_region 13 with (go_at_call 20; refine (C6.out _ (HT4.out.tree.keep he)).mono ?_; rintro e wc ⟨rfl, hbc⟩)
  replace he := he.trans (hbc.mono he.size)
  have hBc := hBb.below hbc hBbl
  have HSc := Lib.hid (HSb.out.below hbc hwb)
  have hwc := Nat.le_trans hwb hbc.size
  have HPc := Lib.hid (HPb.out.below hbc hPbl)
  clear hbc hBb HSb HPb b0 b1 hPbl hBbl
  have b0 := hBc.cell 0; have b1 := hBc.cell 1; have hBcl := hBc.lt; have hPcl := HPc.out.lt
  have hEE : (E != E) = false := by simp
  have hFF : (F != F) = false := by simp
  refine wp_region_ordB (none) [(0, true), (1, true), (2, true), (3, true), (5, true), (4, false), (6, false), (7, true), (8, true), (9, true), (10, true), (12, true), (11, false), (13, true), (14, true), (15, true), (16, true), (18, true), (17, false), (19, true), (20, true), (21, true), (22, true), (24, true), (23, false), (25, true), (26, true), (27, true), (28, true), (30, true), (29, false), (31, true), (32, true)] (by kernel_rfl) (by kernel_rfl) fun hG0 => ?_
  repeat (first
    | (refine ord_skipB rfl (by rfl) ?_; simp only [Act.put, List.setIfInBounds_toArray, List.set_cons_zero, List.set_cons_succ])
    | (refine ord_qE rfl (by rfl) ?_; apply Exists.intro; refine ⟨fun w' hc' => ?_, ?_⟩; (focus (go_simp; (try go_bits); (try simp only [↓IntWalk.iteOmega]); with_reducible rfl)); simp only [Act.put, List.setIfInBounds_toArray, List.set_cons_zero, List.set_cons_succ]))
  refine ord_eB rfl fun K hK => ?_
  go_wp2_with (go_at_call 18; refine (numT _ _).mono ?_; rintro e wd ⟨rfl, hw⟩; rw [hw]; clear hw)
  have hG1 := grown_trans hG0 (World.grownBy.refl _ _)
  refine hK.out _ _ hG1 ?_
  clear hK K
  repeat (first
    | (refine ord_skipB rfl (by rfl) ?_; simp only [Act.put, List.setIfInBounds_toArray, List.set_cons_zero, List.set_cons_succ])
    | (refine ord_qE rfl (by rfl) ?_; apply Exists.intro; refine ⟨fun w' hc' => ?_, ?_⟩; (focus (go_simp; (try go_bits); (try simp only [↓IntWalk.iteOmega]); with_reducible rfl)); simp only [Act.put, List.setIfInBounds_toArray, List.set_cons_zero, List.set_cons_succ]))
  refine ord_eB rfl fun K hK => ?_
  go_wp2_with (go_at_call 36; refine (C7.out _ (HT4.out.tree.keep (he.trans (below_grown hG1 he.size (fun g e => by cases e))))).mono ?_; rintro e wd ⟨rfl, hbd⟩)
  have hG2 := grown_trans hG1 (grown_below hbd (Nat.le_refl _))
  refine hK.out _ _ hG2 ?_
  clear hK K
  repeat (first
    | (refine ord_skipB rfl (by rfl) ?_; simp only [Act.put, List.setIfInBounds_toArray, List.set_cons_zero, List.set_cons_succ])
    | (refine ord_qE rfl (by rfl) ?_; apply Exists.intro; refine ⟨fun w' hc' => ?_, ?_⟩; (focus (go_simp; (try go_bits); (try simp only [↓IntWalk.iteOmega]); with_reducible rfl)); simp only [Act.put, List.setIfInBounds_toArray, List.set_cons_zero, List.set_cons_succ]))
  refine ord_eB rfl fun K hK => ?_
  go_wp2_with (go_at_call 18; refine (numT _ _).mono ?_; rintro e we ⟨rfl, hw⟩; rw [hw]; clear hw)
  have hG3 := grown_trans hG2 (World.grownBy.refl _ _)
  refine hK.out _ _ hG3 ?_
  clear hK K
  repeat (first
    | (refine ord_skipB rfl (by rfl) ?_; simp only [Act.put, List.setIfInBounds_toArray, List.set_cons_zero, List.set_cons_succ])
    | (refine ord_qE rfl (by rfl) ?_; apply Exists.intro; refine ⟨fun w' hc' => ?_, ?_⟩; (focus (go_simp; (try go_bits); (try simp only [↓IntWalk.iteOmega]); with_reducible rfl)); simp only [Act.put, List.setIfInBounds_toArray, List.set_cons_zero, List.set_cons_succ]))
  refine ord_eB rfl fun K hK => ?_
  go_wp2_with (go_at_call 18; refine (numT _ _).mono ?_; rintro e we ⟨rfl, hw⟩; rw [hw]; clear hw)
  have hG4 := grown_trans hG3 (World.grownBy.refl _ _)
  refine hK.out _ _ hG4 ?_
  clear hK K
  repeat (first
    | (refine ord_skipB rfl (by rfl) ?_; simp only [Act.put, List.setIfInBounds_toArray, List.set_cons_zero, List.set_cons_succ])
    | (refine ord_qE rfl (by rfl) ?_; apply Exists.intro; refine ⟨fun w' hc' => ?_, ?_⟩; (focus (go_simp; (try go_bits); (try simp only [↓IntWalk.iteOmega]); with_reducible rfl)); simp only [Act.put, List.setIfInBounds_toArray, List.set_cons_zero, List.set_cons_succ]))
  refine ord_eB rfl fun K hK => ?_
  go_wp2_with (go_at_call 18; refine (numT _ _).mono ?_; rintro e we ⟨rfl, hw⟩; rw [hw]; clear hw)
  have hG5 := grown_trans hG4 (World.grownBy.refl _ _)
  refine hK.out _ _ hG5 ?_
  clear hK K
  repeat (first
    | (refine ord_skipB rfl (by rfl) ?_; simp only [Act.put, List.setIfInBounds_toArray, List.set_cons_zero, List.set_cons_succ])
    | (refine ord_qE rfl (by rfl) ?_; apply Exists.intro; refine ⟨fun w' hc' => ?_, ?_⟩; (focus (go_simp; (try go_bits); (try simp only [↓IntWalk.iteOmega]); with_reducible rfl)); simp only [Act.put, List.setIfInBounds_toArray, List.set_cons_zero, List.set_cons_succ]))
  refine ord_eB rfl fun K hK => ?_
  go_wp2_with (go_at_call 18; refine (numT _ _).mono ?_; rintro e we ⟨rfl, hw⟩; rw [hw]; clear hw)
  have hG6 := grown_trans hG5 (World.grownBy.refl _ _)
  refine hK.out _ _ hG6 ?_
  clear hK K
  repeat (first
    | (refine ord_skipB rfl (by rfl) ?_; simp only [Act.put, List.setIfInBounds_toArray, List.set_cons_zero, List.set_cons_succ])
    | (refine ord_qE rfl (by rfl) ?_; apply Exists.intro; refine ⟨fun w' hc' => ?_, ?_⟩; (focus (go_simp; (try go_bits); (try simp only [↓IntWalk.iteOmega]); with_reducible rfl)); simp only [Act.put, List.setIfInBounds_toArray, List.set_cons_zero, List.set_cons_succ]))
  refine ord_end ?_
  have hcd := below_grown hG6 (Nat.le_refl _) (fun g e => by cases e)
  replace he := he.trans (hcd.mono he.size)
  have hBd := hBc.below hcd hBcl
  have HSd := Lib.hid (HSc.out.below hcd hwc)
  have HPd := Lib.hid (HPc.out.below hcd hPcl)
  have hwd := Nat.le_trans hwc hcd.size
  obtain ⟨Wd, hWd⟩ : ∃ W, W = wd := ⟨_, rfl⟩
  rw [← hWd] at he hBd HSd HPd hwd ⊢
  clear hWd hcd hG0 hG1 hG2 hG3 hG4 hG5 hG6 hBc HSc HPc hwc b0 b1 hBcl hPcl hEE hFF
  have b0 := hBd.cell 0; have b1 := hBd.cell 1; have hBdl := hBd.lt; have hPdl := HPd.out.lt
  have hbe := hb.trans (he.mono hb.size)
  by_cases h0 : F = 0
  · have e2 : (F != 0) = false := by simp [h0]
    have hL0 : looseE ⟨nodes, files, NA, nn, nc, FA, fn, fc⟩ = 0 := HF.out.trans h0
    have hw := HwB.out h0; have hi := HwI.out h0; have hx := Hx.out h0
    have hDl := HD.out
    rw [if_pos h0] at hDl
    obtain ⟨q1, q2, q3⟩ := loose0 hL0
    obtain ⟨p1, p2⟩ := wgt_pos ⟨nodes, files, NA, nn, nc, FA, fn, fc⟩
    obtain ⟨r1, r2⟩ := wgt_small hL0 (by rw [HT.out.tree.nl]; exact q1) (by rw [HT.out.tree.fl]; exact q2)
    obtain ⟨B, hBq⟩ : ∃ x, wgtB ⟨nodes, files, NA, nn, nc, FA, fn, fc⟩ = x := ⟨_, rfl⟩
    obtain ⟨I, hIq⟩ : ∃ x, wgtI ⟨nodes, files, NA, nn, nc, FA, fn, fc⟩ = x := ⟨_, rfl⟩
    have d1 := fun W hW => rweight_any ⟨nodes, files, NA, nn, nc, FA, fn, fc⟩ W hW (Nat.le_trans q1 (by omega)) (Nat.le_trans q2 (by omega)) (fun x hx => Nat.le_trans (q3 x hx) (by omega))
    have d2 := fun W hW => rbytes_any ⟨nodes, files, NA, nn, nc, FA, fn, fc⟩ ds W hW hL0
    have d3 := fun W hW => rprint_any ⟨nodes, files, NA, nn, nc, FA, fn, fc⟩ ds W hW hL0
    have hxp := tree_pos ⟨nodes, files, NA, nn, nc, FA, fn, fc⟩ ds
    unfold RBytesRes at d2
    unfold RPrintRes at d3
    rw [HL.out] at d2 d3 hxp
    rw [hDl] at d3
    rw [hBq] at d1 hw p1 r1
    rw [hIq] at d1 hi p2 r2
    unfold TV.val at d1 d2 d3
    have D1 := Lib.hid d1; have D2 := Lib.hid d2; have D3 := Lib.hid d3
    obtain rfl := hw
    obtain rfl := hi
    obtain rfl := hx
    have hxn := Hn.out
    have HXp := Lib.hid hxp; have HXn := Lib.hid hxn
    have HXq := Lib.hid (show 0 < n by rw [← hxn]; exact hxp)
    have heq := dig_same D
    clear d1 d2 d3 q1 q2 q3 hBq hIq hxn hxp hDl h0 hL0
    have hs := Nat.le_refl Wd.heap.size
    go_upto_region 17 with (fail)
    refine wp_region_ordB (none) [(0, true), (1, true), (2, false), (3, false), (4, true), (5, true), (6, true), (7, true), (8, false), (9, false), (10, true), (11, true), (12, true), (13, true), (14, true), (15, false), (16, true), (17, true), (18, true)] (by kernel_rfl) (by kernel_rfl) fun hG0 => ?_
    repeat (first
      | (refine ord_skipB rfl (by rfl) ?_; simp only [Act.put, List.setIfInBounds_toArray, List.set_cons_zero, List.set_cons_succ])
      | (first | (refine ord_qH rfl (by rfl) (fun w' hh => exec_convI rfl rfl (HSd.out.held hwd rfl hh) HXn.out HXq.out) ?_; simp only [Act.put, List.setIfInBounds_toArray, List.set_cons_zero, List.set_cons_succ]) | (refine ord_qH rfl (by rfl) (fun w' hh => exec_load_blk rfl rfl (HPd.out.keep (hh _ hPdl (by simp))) Try.underlying55 rfl (by kernel_rfl)) ?_; simp only [Act.put, List.setIfInBounds_toArray, List.set_cons_zero, List.set_cons_succ]))
      | (refine ord_qE rfl (by rfl) ?_; apply Exists.intro; refine ⟨fun w' hc' => ?_, ?_⟩; (focus (go_simp; (try go_bits); (try simp only [↓IntWalk.iteOmega]); with_reducible rfl)); simp only [Act.put, List.setIfInBounds_toArray, List.set_cons_zero, List.set_cons_succ]))
    refine ord_eB rfl fun K hK => ?_
    go_wp2_with (go_at_call 38; refine (D1.out _ (HT4.out.tree.keep (he.trans (below_grown hG0 he.size (fun g e => by cases e))))).mono ?_; rintro e x1 ⟨rfl, hx1⟩)
    have hG1 := grown_trans hG0 (grown_below hx1 (Nat.le_refl _))
    refine hK.out _ _ hG1 ?_
    clear hK K
    repeat (first
      | (refine ord_skipB rfl (by rfl) ?_; simp only [Act.put, List.setIfInBounds_toArray, List.set_cons_zero, List.set_cons_succ])
      | (first | (refine ord_qH rfl (by rfl) (fun w' hh => exec_convI rfl rfl (HSd.out.held hwd rfl hh) HXn.out HXq.out) ?_; simp only [Act.put, List.setIfInBounds_toArray, List.set_cons_zero, List.set_cons_succ]) | (refine ord_qH rfl (by rfl) (fun w' hh => exec_load_blk rfl rfl (HPd.out.keep (hh _ hPdl (by simp))) Try.underlying55 rfl (by kernel_rfl)) ?_; simp only [Act.put, List.setIfInBounds_toArray, List.set_cons_zero, List.set_cons_succ]))
      | (refine ord_qE rfl (by rfl) ?_; apply Exists.intro; refine ⟨fun w' hc' => ?_, ?_⟩; (focus (go_simp; (try go_bits); (try simp only [↓IntWalk.iteOmega]); with_reducible rfl)); simp only [Act.put, List.setIfInBounds_toArray, List.set_cons_zero, List.set_cons_succ]))
    refine ord_eB rfl fun K hK => ?_
    go_wp2_with (go_at_call 37; refine (isT_any B I r1 r2 p1 p2 _).mono ?_; rintro e x2 ⟨rfl, hx2⟩)
    have hG2 := grown_trans hG1 (grown_below hx2 (Nat.le_refl _))
    refine hK.out _ _ hG2 ?_
    clear hK K
    repeat (first
      | (refine ord_skipB rfl (by rfl) ?_; simp only [Act.put, List.setIfInBounds_toArray, List.set_cons_zero, List.set_cons_succ])
      | (first | (refine ord_qH rfl (by rfl) (fun w' hh => exec_convI rfl rfl (HSd.out.held hwd rfl hh) HXn.out HXq.out) ?_; simp only [Act.put, List.setIfInBounds_toArray, List.set_cons_zero, List.set_cons_succ]) | (refine ord_qH rfl (by rfl) (fun w' hh => exec_load_blk rfl rfl (HPd.out.keep (hh _ hPdl (by simp))) Try.underlying55 rfl (by kernel_rfl)) ?_; simp only [Act.put, List.setIfInBounds_toArray, List.set_cons_zero, List.set_cons_succ]))
      | (refine ord_qE rfl (by rfl) ?_; apply Exists.intro; refine ⟨fun w' hc' => ?_, ?_⟩; (focus (go_simp; (try go_bits); (try simp only [↓IntWalk.iteOmega]); with_reducible rfl)); simp only [Act.put, List.setIfInBounds_toArray, List.set_cons_zero, List.set_cons_succ]))
    refine ord_eB rfl fun K hK => ?_
    go_wp2_with (go_at_call 39; refine (D2.out _ (HT4.out.keep (he.trans (below_grown hG2 he.size (fun g e => by cases e))))).mono ?_; rintro e x3 ⟨rA, rn, rc, rfl, hrl, hro, hx3⟩; have k5 := run_convI (c := rc) (Sl.of_own hro) hrl (by rw [← hrl]; exact HXp.out))
    have hG3 := grown_trans hG2 (grown_below hx3 (Nat.le_refl _))
    refine hK.out _ _ hG3 ?_
    clear hK K
    repeat (first
      | (refine ord_skipB rfl (by rfl) ?_; simp only [Act.put, List.setIfInBounds_toArray, List.set_cons_zero, List.set_cons_succ])
      | (first | (refine ord_qH rfl (by rfl) (fun w' hh => exec_convI rfl rfl (HSd.out.held hwd rfl hh) HXn.out HXq.out) ?_; simp only [Act.put, List.setIfInBounds_toArray, List.set_cons_zero, List.set_cons_succ]) | (refine ord_qH rfl (by rfl) (fun w' hh => exec_load_blk rfl rfl (HPd.out.keep (hh _ hPdl (by simp))) Try.underlying55 rfl (by kernel_rfl)) ?_; simp only [Act.put, List.setIfInBounds_toArray, List.set_cons_zero, List.set_cons_succ]))
      | (refine ord_qE rfl (by rfl) ?_; apply Exists.intro; refine ⟨fun w' hc' => ?_, ?_⟩; (focus (go_simp; (try go_bits); (try simp only [↓IntWalk.iteOmega]); with_reducible rfl)); simp only [Act.put, List.setIfInBounds_toArray, List.set_cons_zero, List.set_cons_succ]))
    refine ord_eB rfl fun K hK => ?_
    go_wp2_with (fail)
    have hG4 := grown_trans hG3 (World.grownBy.refl _ _)
    refine hK.out _ _ hG4 ?_
    clear hK K
    repeat (first
      | (refine ord_skipB rfl (by rfl) ?_; simp only [Act.put, List.setIfInBounds_toArray, List.set_cons_zero, List.set_cons_succ])
      | (first | (refine ord_qH rfl (by rfl) (fun w' hh => exec_convI rfl rfl (HSd.out.held hwd rfl hh) HXn.out HXq.out) ?_; simp only [Act.put, List.setIfInBounds_toArray, List.set_cons_zero, List.set_cons_succ]) | (refine ord_qH rfl (by rfl) (fun w' hh => exec_load_blk rfl rfl (HPd.out.keep (hh _ hPdl (by simp))) Try.underlying55 rfl (by kernel_rfl)) ?_; simp only [Act.put, List.setIfInBounds_toArray, List.set_cons_zero, List.set_cons_succ]))
      | (refine ord_qE rfl (by rfl) ?_; apply Exists.intro; refine ⟨fun w' hc' => ?_, ?_⟩; (focus (go_simp; (try go_bits); (try simp only [↓IntWalk.iteOmega]); with_reducible rfl)); simp only [Act.put, List.setIfInBounds_toArray, List.set_cons_zero, List.set_cons_succ]))
    refine ord_eB rfl fun K hK => ?_
    go_wp2_with (go_at_call 40; refine (D3.out _ (HT4.out.keep (he.trans (below_grown hG4 he.size (fun g e => by cases e))))).mono ?_; rintro e x4 ⟨rfl, hx4⟩)
    have hG5 := grown_trans hG4 (grown_below hx4 (Nat.le_refl _))
    refine hK.out _ _ hG5 ?_
    clear hK K
    repeat (first
      | (refine ord_skipB rfl (by rfl) ?_; simp only [Act.put, List.setIfInBounds_toArray, List.set_cons_zero, List.set_cons_succ])
      | (first | (refine ord_qH rfl (by rfl) (fun w' hh => exec_convI rfl rfl (HSd.out.held hwd rfl hh) HXn.out HXq.out) ?_; simp only [Act.put, List.setIfInBounds_toArray, List.set_cons_zero, List.set_cons_succ]) | (refine ord_qH rfl (by rfl) (fun w' hh => exec_load_blk rfl rfl (HPd.out.keep (hh _ hPdl (by simp))) Try.underlying55 rfl (by kernel_rfl)) ?_; simp only [Act.put, List.setIfInBounds_toArray, List.set_cons_zero, List.set_cons_succ]))
      | (refine ord_qE rfl (by rfl) ?_; apply Exists.intro; refine ⟨fun w' hc' => ?_, ?_⟩; (focus (go_simp; (try go_bits); (try simp only [↓IntWalk.iteOmega]); with_reducible rfl)); simp only [Act.put, List.setIfInBounds_toArray, List.set_cons_zero, List.set_cons_succ]))
    refine ord_end ?_
    go_wp2
    go_ret
    exact ⟨rfl, hbe.trans ((below_grown hG5 (Nat.le_refl _) (fun g e => by cases e)).mono hbe.size)⟩
  · have e2 : (F != 0) = true := bne_iff_ne.2 h0
    obtain rfl : n = 0 := Hy.out h0
    obtain rfl : cb = 0 := HwB0.out h0
    obtain rfl : ci = 0 := HwI0.out h0
    have hDl := HD.out
    rw [if_neg h0] at hDl
    subst hDl
    have heq : ∀ W, (Op.equalIn 10000 55 (.agg (arrB 32 fun _ => 0)) (.agg #[.int .u8 0, .int .u8 0, .int .u8 0, .int .u8 0, .int .u8 0, .int .u8 0, .int .u8 0, .int .u8 0, .int .u8 0, .int .u8 0, .int .u8 0, .int .u8 0, .int .u8 0, .int .u8 0, .int .u8 0, .int .u8 0, .int .u8 0, .int .u8 0, .int .u8 0, .int .u8 0, .int .u8 0, .int .u8 0, .int .u8 0, .int .u8 0, .int .u8 0, .int .u8 0, .int .u8 0, .int .u8 0, .int .u8 0, .int .u8 0, .int .u8 0, .int .u8 0])).run Try.prog W = .ok true W := fun W => (congrArg (fun x => (Op.equalIn 10000 55 (.agg (arrB 32 fun _ => 0)) (.agg x)).run Try.prog W) arrB_zero).symm.trans (dig_same (fun _ => 0) W)
    have h00 : (FloatKind.f64.format.order 0 0 == some .eq) = true := by decide
    clear h0
    go_upto_region 16 with (fail)
    refine wp_region_textB (none) [(0, true), (1, true), (2, true), (3, true), (4, true), (5, true), (6, true), (7, true), (8, true), (9, true), (10, true), (11, true), (12, true)] (by kernel_rfl) fun hG0 => ?_
    repeat (first
      | (refine ord_skipB rfl (by rfl) ?_; simp only [Act.put, List.setIfInBounds_toArray, List.set_cons_zero, List.set_cons_succ])
      | (refine ord_qH rfl (by rfl) (fun w' hh => exec_load_blk rfl rfl (HPd.out.keep (hh _ hPdl (by simp))) Try.underlying55 rfl (by kernel_rfl)) ?_; simp only [Act.put, List.setIfInBounds_toArray, List.set_cons_zero, List.set_cons_succ])
      | (refine ord_qE rfl (by rfl) ?_; apply Exists.intro; refine ⟨fun w' hc' => ?_, ?_⟩; (focus (go_simp; (try go_bits); (try simp only [↓IntWalk.iteOmega]); with_reducible rfl)); simp only [Act.put, List.setIfInBounds_toArray, List.set_cons_zero, List.set_cons_succ]))
    refine ord_end ?_
    go_wp2
    go_ret
    exact ⟨rfl, hbe⟩


set_option maxRecDepth 100000 in
theorem lifted (os : Os) (started : os.Started) (H : Type) (enc : TypeId × Value → H) :
    ReturnsInHanded {} Try.checked os 9 .any (Rows.treeChecksSpec.pre6 enc Try.prog Try.f9 Rows.treeChecksRow.domain false) (Rows.treeChecksSpec.post enc Try.prog Try.f9 false true false false) := by
  refine returnsInHanded_of_change_sized (C := Try.checked) own started (by kernel_rfl) Try.func9
    (ChangeSpec.witness6 (enc := enc) (C := Try.checked) false ⟨#[], #[.agg #[.slice none 0 0, .slice none 0 0]], []⟩ 8 (by kernel_rfl) (by kernel_rfl) (by kernel_rfl) (by kernel_rfl)) ?_
  intro W base args ds gs before hval0 hW hcnd hsz0 _
  have hval : ∀ (j : Nat) t v, Try.f9.params[j]? = some t → args[j]? = some v → Value.okWide Try.prog W .any base t v := hval0
  have hW' := hW
  obtain ⟨p, q, hA0, hV, rfl, hfz, hnd⟩ := hW
  have hA : DataW.TrodAll enc Try.prog W 0 (fun _ => true) true Try.f9.params.toList args.toList ds p := hA0
  have hsz : (DataW.weightsEach Try.prog (Try.f9.params.toList ++ Rows.treeChecksSpec.plain.varTypes Try.prog) (ds ++ gs)).all (· ≤ reachBytes) = true := hsz0
  rw [Try.params9] at hA hval hsz
  obtain ⟨v0, vs0, d0, ds0, p0, q0, hargs, rfl, rfl, h0, r0⟩ := trodAll_cons hA
  obtain ⟨rfl, rfl, rfl⟩ := trodAll_nil r0
  obtain rfl : args = #[v0] := by cases args; simp_all
  obtain ⟨rfl, rfl⟩ := trodVars_none hV
  have k0 := h0
  have lt0 : ∀ x ∈ p0, x.block < W.heap.size := by obtain ⟨m, hm⟩ := k0; exact DataW.trod_lt m _ _ _ hm
  obtain ⟨t0, ds0', rfl, hT0⟩ := open_tree (hval 0 26 v0 rfl rfl) h0 lt0
  clear hA0 hval0
  refine (walk t0 ds0' W hT0 (reachT (hval 0 26 _ rfl rfl) k0 hT0 (fun m hm => of_decide_eq_true (List.all_eq_true.1 hsz m (DataW.weights_mem_each (j := 0) (t := 26) (d := d0) rfl rfl m hm))))).mono fun e W' ⟨he, bel⟩ => ?_
  subst he
  exact ⟨_, rfl, _, _, _, [], _, [], hW', trodAll_mk1 (shut_bool Try.underlying4 _), (trodAll_cons_mk (Below.trod laidOut (by kernel_rfl) (of_decide_eq_true (by kernel_rfl)) k0 bel lt0) trodAll_mk0), rfl, bel.frame _, fun h => by cases h⟩

theorem over : Rows.treeChecksRow.holds Try.pinned (OpenSpec.ofChange Rows.treeChecksSpec) :=
  OpenClaim.holds_of_wide 9 Try.f9 rfl rfl rfl rfl rfl rfl rfl ⟨rfl, rfl, rfl, rfl, rfl⟩ rfl rfl rfl rfl rfl (by kernel_rfl) Try.func9 (by kernel_rfl)
    (of_decide_eq_true (by kernel_rfl)) (by unfold Func.isWrapper; first | (rw [if_pos (by decide +kernel)]; kernel_rfl) | (rw [if_neg (by decide +kernel)]; exact ⟨rfl, rfl⟩))
    (fun os started H enc _ => lifted os started H enc)

theorem proved : Rows.TreeChecksSaid := over
#print axioms proved
end Go.Proofs.Ytdjlchbgdehccaa.treeChecksDone
