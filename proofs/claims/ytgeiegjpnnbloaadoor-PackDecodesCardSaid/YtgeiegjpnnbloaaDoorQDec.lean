/- shuntref19.Decode. -/
import Derived.Test.YtgeiegjpnnbloaaDoorQRead
import Derived.Test.YtgeiegjpnnbloaaDoorQEnc
import Derived.Test.YtgeiegjpnnbloaaDoorDecP
import Derived.Test.YtgeiegjpnnbloaaDoorDecode
namespace Go.Proofs.YtgeiegjpnnbloaaDoor
open Go.ChangeShapes Go.WideShapes Go.ChangeAt Go.ChangeMaps Go.RowKit Go.Deep

set_option maxRecDepth 100000 in
set_option maxHeartbeats 8000000 in
theorem rdec_any (l : List UInt8) (A : Option Addr) (n c : Nat) (w : World) (hA : Sl w w.heap.size 1 A n (l.flatMap u8L)) (hn : l.length = n) (hm : n ≤ 1000000) (hnc : n ≤ c) (hcm : c ≤ maxLen) :
    Calls Tryd.prog 8 #[.slice A n c] w (DecOf l w) := by
  obtain ⟨W0, hW0⟩ : ∃ W, W = w.alloc (.cells Tryd.zeroCells30 30) := ⟨_, rfl⟩
  have hb0 : Below w.heap.size w W0 := by rw [hW0]; exact (Below.refl _ _).alloc (Nat.le_refl _) _
  have hZ0 : Blk W0 w.heap.size 30 Tryd.zeroCells30 := by rw [hW0]; exact Blk.new w _ _
  have HW := Lib.hid hW0
  have HA0 := Lib.hid ((hA.below hb0 (Nat.le_refl _)).more hb0.size)
  have HN := Lib.hid hn
  have hzs : Tryd.zeroCells30.size = 67 := by rw [zero_cells]; exact zsize
  have HZs := Lib.hid hzs
  have hZl := hZ0.lt
  have hs0 := hb0.size
  have HZ0 := Lib.hid hZ0; have Hb0 := Lib.hid hb0
  have hnx := hnc
  unfold maxLen at hcm
  clear hW0 hA hn hzs hZ0 hb0
  by_cases h85 : n < 85
  · have hni : (n : Int) < 85 := by omega
    go_enter Tryd.func8, Tryd.ntmps8
    go_upto_region 1 with (fail)
    rw [← HW.out]
    go_wp2_with (refine wpList_store_blk rfl 30 (.tmp 2) (.tmp 11) rfl HZ0.out Tryd.zeroCells30 rfl rfl (by rw [HZs.out]; kernel_rfl) rfl (by rw [zero_cells]; exact Scr.one _) ?_; intro w3 hB3 hg3 hs3)
    exact ret_cell_t rfl rfl (load_blk hB3 Tryd.underlying30 rfl (by rw [HZs.out]; kernel_rfl)) rfl ⟨zeroScr, 40, by rw [zero_cells]; rfl, zero_at _, Hb0.out.trans (below_grown (B := w.heap.size) hg3 Hb0.out.size (fun q e => by injection e with e; omega)), .short (by rw [HN.out]; exact h85) rfl⟩
  obtain ⟨k, rfl⟩ : ∃ k, n = k + 4 := ⟨n - 4, by omega⟩
  have hni : ¬ (k : Int) + 4 < 85 := by omega
  obtain ⟨x, hx⟩ : ∃ x, deN ((l.drop k).take 4) = x := ⟨_, rfl⟩
  obtain ⟨y, hy⟩ : ∃ y, (crcF (l.take k)).toNat = y := ⟨_, rfl⟩
  have hgood : crcGood l ↔ x = y := by
    unfold crcGood
    rw [HN.out, Nat.add_sub_cancel, hx, hy]
  have HX := Lib.hid hx; have HY := Lib.hid hy; have HGood := Lib.hid hgood
  have hsl : Sl W0 W0.heap.size 1 A k ((l.take k).flatMap u8L) := by
    have := HA0.out.first (k := k) (by omega)
    rwa [Nat.mul_one, u8_take] at this
  have HSl := Lib.hid hsl
  have hkc : (k : Int) ≤ c := by omega
  clear hx hy hsl hgood
  have hend : ∀ (e : Ending) (wa wb : World) (E : Int), Below W0.heap.size W0 wa → wa.grownBy wb (some w.heap.size) → e = .returned (.tuple #[.agg Tryd.zeroCells30, .int .i64 E]) → DecE l zeroScr E → DecOf l w e wb := fun e wa wb E h1 h2 h3 h4 =>
    ⟨zeroScr, E, by rw [h3, zero_cells], zero_at _, (Hb0.out.trans (h1.mono Hb0.out.size)).trans (below_grown (B := w.heap.size) h2 (by have := h1.size; omega) (fun q e => by injection e with e; omega)), h4⟩
  have HEnd := Lib.hid hend
  clear hend
  go_enter Tryd.func8, Tryd.ntmps8
  go_upto_region 1 with (fail)
  rw [← HW.out]
  by_cases hxy : x = y
  · have hxi : ((x : Int) != (y : Int)) = false := by simp [hxy]
    have HCrc := Lib.hid (HGood.out.2 hxy)
    clear hxy
    go_upto_region 3 with (fail)
    refine wp_region_ordB (none) [(0, true), (1, true), (2, true), (3, true), (5, true), (6, true), (7, true), (8, true), (9, true), (4, false), (10, false), (11, true)] (by kernel_rfl) (by kernel_rfl) fun hG0 => ?_
    repeat (first
      | (refine ord_skipB rfl (by rfl) ?_; simp only [Act.put, List.setIfInBounds_toArray, List.set_cons_zero, List.set_cons_succ])
      | (refine ord_qE rfl (by rfl) ?_; apply Exists.intro; refine ⟨fun w' hc' => ?_, ?_⟩; (focus (go_simp; (try go_bits); (try simp only [↓IntWalk.iteOmega]); with_reducible rfl)); simp only [Act.put, List.setIfInBounds_toArray, List.set_cons_zero, List.set_cons_succ]))
    refine ord_eB rfl fun K hK => ?_
    go_wp2_with (go_at_call 14; refine (rget_c l A (k + 4) c k 4 W0.drew HA0.out HN.out hm (by omega) (by omega) HX.out).mono ?_; rintro e w1 ⟨rfl, hw⟩; rw [hw]; clear hw)
    have hG1 := hG0
    refine hK.out _ _ hG1 ?_
    clear hK K
    repeat (first
      | (refine ord_skipB rfl (by rfl) ?_; simp only [Act.put, List.setIfInBounds_toArray, List.set_cons_zero, List.set_cons_succ])
      | (refine ord_qE rfl (by rfl) ?_; apply Exists.intro; refine ⟨fun w' hc' => ?_, ?_⟩; (focus (go_simp; (try go_bits); (try simp only [↓IntWalk.iteOmega]); with_reducible rfl)); simp only [Act.put, List.setIfInBounds_toArray, List.set_cons_zero, List.set_cons_succ]))
    refine ord_eB rfl fun K hK => ?_
    go_wp2_with (go_at_call 15; refine (rcrc_any (l.take k) A k _ W0.drew HSl.out (by rw [List.length_take, HN.out]; omega) (by unfold maxLen; omega)).mono ?_; rintro e w2 ⟨rfl, hw⟩; rw [hw, HY.out]; clear hw)
    have hG2 := hG0
    refine hK.out _ _ hG2 ?_
    clear hK K
    repeat (first
      | (refine ord_skipB rfl (by rfl) ?_; simp only [Act.put, List.setIfInBounds_toArray, List.set_cons_zero, List.set_cons_succ])
      | (refine ord_qE rfl (by rfl) ?_; apply Exists.intro; refine ⟨fun w' hc' => ?_, ?_⟩; (focus (go_simp; (try go_bits); (try simp only [↓IntWalk.iteOmega]); with_reducible rfl)); simp only [Act.put, List.setIfInBounds_toArray, List.set_cons_zero, List.set_cons_succ]))
    refine ord_end ?_
    obtain ⟨V, hV⟩ : ∃ V, W0.drew = V := ⟨_, rfl⟩
    have hbV : Below W0.heap.size W0 V := below_grown (by rw [← hV]; exact hG0) (Nat.le_refl _) (fun q e => by cases e)
    rw [hV]
    have HAV := Lib.hid ((HA0.out.below hbV (Nat.le_refl _)).more hbV.size)
    have HbV := Lib.hid hbV
    clear hG0 hV hxi hG1 hG2 hbV
    go_upto_region 6 with (first
      | (go_at_call 16; refine (rread_any l A (k + 4) c V HAV.out HN.out (by omega) hm hnx (by unfold maxLen; omega)).mono ?_; rintro e w1 ⟨s, ok, rfl, hsc, hb1, hft, hwf, hinv, hown⟩; have HZ67 := Lib.hid (Scr.size hwf.fl hwf.gl))
      | (refine wpList_store_new rfl 30 (.tmp 4) (.tmp 28) rfl _ _ s.C (by kernel_rfl) (by kernel_rfl) (by rw [HZ67.out]; kernel_rfl) (by rw [HZs.out, HZ67.out]) (Scr.one _) ?_; simp only [Act.put, List.setIfInBounds_toArray, List.set_cons_zero, List.set_cons_succ]))
    obtain ⟨q, hq⟩ : ∃ q, w1.heap.size = q := ⟨_, rfl⟩
    obtain ⟨V6, hV6⟩ : ∃ W', W' = w1.alloc (.cells s.C 30) := ⟨_, rfl⟩
    have hB6 : Blk V6 q 30 s.C := by rw [hV6, ← hq]; exact Blk.new _ _ _
    have hb6 : Below V.heap.size V V6 := by rw [hV6]; exact hb1.alloc hb1.size _
    have hsc6 : ScrAt V6 s := by rw [hV6]; exact hsc.keep ((Below.refl _ _).alloc (Nat.le_refl _) _)
    have hown6 : OwnS V.heap.size V6 s := by rw [hV6]; exact hown.keep ((Below.refl _ _).alloc (Nat.le_refl _) _)
    have hbw6 : Below W0.heap.size W0 V6 := HbV.out.trans (hb6.mono HbV.out.size)
    have hZ6 := HZ0.out.below hbw6 hZl
    rw [hq, ← hV6]
    have HB6 := Lib.hid hB6; have Hbw6 := Lib.hid hbw6; have HSc6 := Lib.hid hsc6; have HOwn6 := Lib.hid hown6
    have HInv := Lib.hid hinv; have HFt := Lib.hid hft; have HWf := Lib.hid hwf
    have hVs : W0.heap.size ≤ V.heap.size := HbV.out.size
    have hZl6 := hZ6.lt
    clear hV6 hq hb1 hsc hft hwf hinv hown hb6 hB6 hbw6 hsc6 hown6
    cases ok with
    | false =>
      go_wp2_with (refine wpList_store_blk rfl 30 (.tmp 2) (.tmp 47) rfl hZ6 Tryd.zeroCells30 (by kernel_rfl) (by kernel_rfl) (by rw [HZs.out]; kernel_rfl) rfl (by rw [zero_cells]; exact Scr.one _) ?_; intro w9 hB9 hg9 hs9; simp only [Act.put, List.setIfInBounds_toArray, List.set_cons_zero, List.set_cons_succ])
      exact ret_cell_t rfl rfl (load_blk hB9 Tryd.underlying30 rfl (by rw [HZs.out]; kernel_rfl)) rfl (HEnd.out _ _ _ _ Hbw6.out hg9 rfl (.no (by rw [HN.out]; omega) HCrc.out (fun t ht => by have := (HInv.out t ht).1; simp at this) rfl))
    | true =>
      have hBq := HB6.out.lt
      go_upto_region 8 with (first
        | (refine wpList_load_scr rfl (.tmp 4) rfl q (by kernel_rfl) s.C HZ67.out HB6.out ?_; simp only [Act.put, List.setIfInBounds_toArray, List.set_cons_zero, List.set_cons_succ])
        | (go_at_call 17; refine (renc_any s V6 HSc6.out HFt.out).mono ?_; rintro e w7 ⟨E, ⟨EA, em, ec, rfl, _, henc, hb7⟩, hE⟩))
      have HEnc := Lib.hid henc; have HE := Lib.hid hE
      have hZ7 := hZ6.below hb7 hZl6
      have hZl7 := hZ7.lt
      have hbw7 : Below W0.heap.size W0 w7 := Hbw6.out.trans (hb7.mono Hbw6.out.size)
      have Hbw7 := Lib.hid hbw7
      have HB7 := Lib.hid (HB6.out.below hb7 hBq)
      have HOwn7 := Lib.hid (HOwn6.out.keep hb7)
      have HSc7 := Lib.hid (HSc6.out.keep hb7)
      have HZ7 := Lib.hid hZ7
      have hBq7 := HB7.out.lt
      clear henc hE hZ6 hZl6 hb7 hbw7 hZ7
      by_cases hE0 : E = 0
      rotate_left
      · have e0 : (E == 0) = false := by simpa using hE0
        have HE0 := Lib.hid hE0
        clear hE0
        have hZ6 := HZ7.out
        go_wp2_with (refine wpList_store_blk rfl 30 (.tmp 2) (.tmp 47) rfl hZ6 Tryd.zeroCells30 (by kernel_rfl) (by kernel_rfl) (by rw [HZs.out]; kernel_rfl) rfl (by rw [zero_cells]; exact Scr.one _) ?_; intro w9 hB9 hg9 hs9; simp only [Act.put, List.setIfInBounds_toArray, List.set_cons_zero, List.set_cons_succ])
        exact ret_cell_t rfl rfl (load_blk hB9 Tryd.underlying30 rfl (by rw [HZs.out]; kernel_rfl)) rfl (HEnd.out _ _ _ _ Hbw7.out hg9 rfl (.no (by rw [HN.out]; omega) HCrc.out (fun t ht => HE0.out (HE.out.2 ((HInv.out t ht).2.ok HWf.out ht.wf ht.ok))) rfl))
      subst hE0
      obtain ⟨hem, hrow⟩ := HEnc.out rfl
      have hemm : (encL s).length = em := hem.symm
      have hcv1 := conv_any (Sl.of_own hrow) hemm ec
      have hcv2 := conv_any ((HA0.out.below Hbw7.out (Nat.le_refl _)).more Hbw7.out.size) HN.out c
      have hval := HE.out.1 rfl
      have HVal := Lib.hid hval
      obtain ⟨S1, hS1⟩ : ∃ S : ByteArray, ⟨(encL s).toArray⟩ = S := ⟨_, rfl⟩
      obtain ⟨S2, hS2⟩ : ∃ S : ByteArray, ⟨l.toArray⟩ = S := ⟨_, rfl⟩
      have hseq : (S1.toList == S2.toList) = decide (encL s = l) := by
        rw [← hS1, ← hS2, ByteArray.toList_eq, ByteArray.toList_eq]
        show (encL s == l) = _
        by_cases h : encL s = l
        · simp [h]
        · simp [h]
      rw [hS1] at hcv1
      rw [hS2] at hcv2
      have HS := Lib.hid hseq
      clear hem hrow hemm hval hS1 hS2 hseq
      by_cases heq : encL s = l
      · have hs12 : (S1.toList == S2.toList) = true := by rw [HS.out]; exact decide_eq_true heq
        have HEq := Lib.hid heq
        clear heq
        have hZ6 := HZ7.out
        go_wp2_with (first
          | (refine wpList_load_scr rfl (.tmp 4) rfl q (by kernel_rfl) s.C HZ67.out HB7.out ?_; simp only [Act.put, List.setIfInBounds_toArray, List.set_cons_zero, List.set_cons_succ])
          | (refine wpList_store_blk rfl 30 (.tmp 2) (.tmp 48) rfl hZ6 s.C (by kernel_rfl) (by kernel_rfl) (by rw [HZ67.out]; kernel_rfl) (by rw [HZs.out, HZ67.out]) (Scr.one _) ?_; intro w9 hB9 hg9 hs9; simp only [Act.put, List.setIfInBounds_toArray, List.set_cons_zero, List.set_cons_succ]))
        have hown9 := HOwn7.out.put hg9 (show w.heap.size < V.heap.size by omega)
        exact ret_cell_t rfl rfl (load_blk hB9 Tryd.underlying30 rfl (by rw [HZ67.out]; kernel_rfl)) rfl ⟨s, 0, rfl, hown9.scr HSc7.out, (Hb0.out.trans (Hbw7.out.mono hs0)).trans (below_grown (B := w.heap.size) hg9 (by have := Hbw7.out.size; omega) (fun q e => by injection e with e; omega)), .ok ⟨HWf.out, HVal.out, HEq.out⟩ HFt.out⟩
      · have hs12 : (S1.toList == S2.toList) = false := by rw [HS.out]; exact decide_eq_false heq
        have HEq := Lib.hid heq
        clear heq
        have hZ6 := HZ7.out
        go_wp2_with (refine wpList_store_blk rfl 30 (.tmp 2) (.tmp 47) rfl hZ6 Tryd.zeroCells30 (by kernel_rfl) (by kernel_rfl) (by rw [HZs.out]; kernel_rfl) rfl (by rw [zero_cells]; exact Scr.one _) ?_; intro w9 hB9 hg9 hs9; simp only [Act.put, List.setIfInBounds_toArray, List.set_cons_zero, List.set_cons_succ])
        exact ret_cell_t rfl rfl (load_blk hB9 Tryd.underlying30 rfl (by rw [HZs.out]; kernel_rfl)) rfl (HEnd.out _ _ _ _ Hbw7.out hg9 rfl (.no (by rw [HN.out]; omega) HCrc.out (fun t ht => HEq.out (((HInv.out t ht).2.enc HWf.out ht.wf).trans ht.enc)) rfl))
  · have hxi : ((x : Int) != (y : Int)) = true := by simp; omega
    have HXy := Lib.hid hxy
    clear hxy
    go_upto_region 3 with (fail)
    refine wp_region_ordB (none) [(0, true), (1, true), (2, true), (3, true), (5, true), (6, true), (7, true), (8, true), (9, true), (4, false), (10, false), (11, true)] (by kernel_rfl) (by kernel_rfl) fun hG0 => ?_
    repeat (first
      | (refine ord_skipB rfl (by rfl) ?_; simp only [Act.put, List.setIfInBounds_toArray, List.set_cons_zero, List.set_cons_succ])
      | (refine ord_qE rfl (by rfl) ?_; apply Exists.intro; refine ⟨fun w' hc' => ?_, ?_⟩; (focus (go_simp; (try go_bits); (try simp only [↓IntWalk.iteOmega]); with_reducible rfl)); simp only [Act.put, List.setIfInBounds_toArray, List.set_cons_zero, List.set_cons_succ]))
    refine ord_eB rfl fun K hK => ?_
    go_wp2_with (go_at_call 14; refine (rget_c l A (k + 4) c k 4 W0.drew HA0.out HN.out hm (by omega) (by omega) HX.out).mono ?_; rintro e w1 ⟨rfl, hw⟩; rw [hw]; clear hw)
    have hG1 := hG0
    refine hK.out _ _ hG1 ?_
    clear hK K
    repeat (first
      | (refine ord_skipB rfl (by rfl) ?_; simp only [Act.put, List.setIfInBounds_toArray, List.set_cons_zero, List.set_cons_succ])
      | (refine ord_qE rfl (by rfl) ?_; apply Exists.intro; refine ⟨fun w' hc' => ?_, ?_⟩; (focus (go_simp; (try go_bits); (try simp only [↓IntWalk.iteOmega]); with_reducible rfl)); simp only [Act.put, List.setIfInBounds_toArray, List.set_cons_zero, List.set_cons_succ]))
    refine ord_eB rfl fun K hK => ?_
    go_wp2_with (go_at_call 15; refine (rcrc_any (l.take k) A k _ W0.drew HSl.out (by rw [List.length_take, HN.out]; omega) (by unfold maxLen; omega)).mono ?_; rintro e w2 ⟨rfl, hw⟩; rw [hw, HY.out]; clear hw)
    have hG2 := hG0
    refine hK.out _ _ hG2 ?_
    clear hK K
    repeat (first
      | (refine ord_skipB rfl (by rfl) ?_; simp only [Act.put, List.setIfInBounds_toArray, List.set_cons_zero, List.set_cons_succ])
      | (refine ord_qE rfl (by rfl) ?_; apply Exists.intro; refine ⟨fun w' hc' => ?_, ?_⟩; (focus (go_simp; (try go_bits); (try simp only [↓IntWalk.iteOmega]); with_reducible rfl)); simp only [Act.put, List.setIfInBounds_toArray, List.set_cons_zero, List.set_cons_succ]))
    refine ord_end ?_
    go_wp2_with (refine wpList_store_blk rfl 30 (.tmp 2) (.tmp 24) rfl HZ0.out Tryd.zeroCells30 rfl rfl (by rw [HZs.out]; kernel_rfl) rfl (by rw [zero_cells]; exact Scr.one _) ?_; intro w3 hB3 hg3 hs3)
    exact ret_cell_t rfl rfl (load_blk hB3 Tryd.underlying30 rfl (by rw [HZs.out]; kernel_rfl)) rfl (HEnd.out _ _ _ _ (below_grown hG0 (Nat.le_refl _) (fun q e => by cases e)) hg3 rfl (.sum (by rw [HN.out]; omega) (fun h => HXy.out (HGood.out.1 h)) rfl))
end Go.Proofs.YtgeiegjpnnbloaaDoor
