/- ModelSplit. -/
import Derived.Test.YthmeffpickejkaaViewR
import Derived.Test.YthmeffpickejkaaOrdT
import Derived.ChangeMaps5
import Derived.Deep.DeepCutAuto
namespace Go.Proofs.Ythmeffpickejkaa.modelSplitDone
open Go.ChangeShapes Go.WideShapes Go.ChangeAt Go.ChangeMaps Go.RowKit Go.Deep

set_option maxRecDepth 100000 in
set_option maxHeartbeats 8000000 in
theorem walk (t : TV) (ds : List ByteArray) (cs : List Cmd) (A : Option Addr) (n c : Nat) (SA : Option Addr) (sn sc : Nat) (ss : List SC) (sd : List ByteArray) (k : Int) (w : World) (hT : TreeD w t ds) (hn : cs.length = n) (hA : Sl w w.heap.size 5 A n (cs.flatMap Cmd.list)) (hC : ∀ c ∈ cs, OpOk c) (hnc : n ≤ c) (_ : c ≤ maxLen) (hS : StockAt w SA sn ss sd) (hk : (Lit.int .i64 k).wf = true) :
    Calls Try.prog 10 #[t.val, .slice A n c, .slice SA sn sc, .int .i64 k] w fun e w' => e = .returned (.bool true) ∧ Below w.heap.size w w' := by
  have HT := Lib.hid hT; have HS := Lib.hid hS; have HC := Lib.hid hC; have HA := Lib.hid hA; have HN := Lib.hid hn
  have hkb := wf_op hk
  clear hT hS hC hA hn hk
  obtain ⟨nodes, files, NA, nn, nc, FA, fn, fc⟩ := t
  unfold TV.val
  have hB := Blk.new w 25 #[.slice NA nn nc, .slice FA fn fc]
  have hb := (Below.refl w.heap.size w).alloc (Nat.le_refl _) (.cells #[.slice NA nn nc, .slice FA fn fc] 25)
  by_cases hk0 : k < 0
  · go_enter Try.func10, Try.ntmps10
    go_upto_region 2 with (go_at_call 13; refine (alive7 _).mono ?_; rintro e w1 ⟨rfl, hb1⟩; replace hB := hB.below hb1 hB.lt; replace hb := hb.trans (hb1.mono hb.size); have b0 := hB.cell 0; have b1 := hB.cell 1)
    go_wp2_with (go_at_call 27; refine (heavy7 ⟨nodes, files, NA, nn, nc, FA, fn, fc⟩ A n c SA sn sc ss sd _ (HT.out.tree.keep hb) (HS.out.keep hb)).mono ?_; rintro e w2 ⟨x, rfl, _, hb2⟩; replace hb := hb.trans (hb2.mono hb.size); cases x)
    all_goals go_ret
    all_goals exact ⟨rfl, hb⟩
  by_cases hkn : (n : Int) < k
  · go_enter Try.func10, Try.ntmps10
    go_upto_region 2 with (go_at_call 13; refine (alive7 _).mono ?_; rintro e w1 ⟨rfl, hb1⟩; replace hB := hB.below hb1 hB.lt; replace hb := hb.trans (hb1.mono hb.size); have b0 := hB.cell 0; have b1 := hB.cell 1)
    go_wp2_with (go_at_call 27; refine (heavy7 ⟨nodes, files, NA, nn, nc, FA, fn, fc⟩ A n c SA sn sc ss sd _ (HT.out.tree.keep hb) (HS.out.keep hb)).mono ?_; rintro e w2 ⟨x, rfl, _, hb2⟩; replace hb := hb.trans (hb2.mono hb.size); cases x)
    all_goals go_ret
    all_goals exact ⟨rfl, hb⟩
  obtain ⟨k, rfl⟩ := Int.eq_ofNat_of_zero_le (show 0 ≤ k by omega)
  have hkn' : k ≤ n := by omega
  have hsplit := runR_split HT.out cs sd k (by rw [HN.out]; exact hkn')
  obtain ⟨R, hR⟩ : ∃ R, runR ⟨nodes, files, NA, nn, nc, FA, fn, fc⟩ ds cs sd = R := ⟨_, rfl⟩
  obtain ⟨R1, hR1⟩ : ∃ R, runR ⟨nodes, files, NA, nn, nc, FA, fn, fc⟩ ds (cs.take k) sd = R := ⟨_, rfl⟩
  have hok := runR_ok HT.out cs sd
  have hok1 := runR_ok HT.out (cs.take k) sd
  rw [hR] at hsplit hok
  rw [hR1] at hsplit hok1
  have HR := Lib.hid hR; have HR1 := Lib.hid hR1; have HSP := Lib.hid hsplit; have HK := Lib.hid hok; have HK1 := Lib.hid hok1
  clear hR hR1 hsplit hok hok1
  obtain ⟨M, r, E⟩ := R
  obtain ⟨M1, r1, E1⟩ := R1
  go_enter Try.func10, Try.ntmps10
  go_upto_region 2 with (go_at_call 13; refine (alive7 _).mono ?_; rintro e w1 ⟨rfl, hb1⟩; replace hB := hB.below hb1 hB.lt; replace hb := hb.trans (hb1.mono hb.size); have b0 := hB.cell 0; have b1 := hB.cell 1)
  go_upto_region 4 with (go_at_call 27; refine (heavy7 ⟨nodes, files, NA, nn, nc, FA, fn, fc⟩ A n c SA sn sc ss sd _ (HT.out.tree.keep hb) (HS.out.keep hb)).mono ?_; rintro e w2 ⟨x, rfl, hx, hb2⟩; have HX := Lib.hid hx; clear hx; replace hB := hB.below hb2 hB.lt; replace hb := hb.trans (hb2.mono hb.size); have b0 := hB.cell 0; have b1 := hB.cell 1; cases x)
  rotate_left
  · (go_ret; exact ⟨rfl, hb⟩)
  have hn60 : n ≤ 60 := (HX.out (by simp)).2.2
  clear HX
  have hA2 : Sl w2 w2.heap.size 5 A n (cs.flatMap Cmd.list) := (HA.out.below hb (Nat.le_refl _)).more hb.size
  have c1 := Run_any ⟨nodes, files, NA, nn, nc, FA, fn, fc⟩ ds cs HC.out A n c SA sn sc ss sd w2 (HT.out.keep hb) hA2 HN.out (by omega) (HS.out.keep hb)
  rw [HR.out] at c1
  have C1 : Hid (Calls Try.prog 34 #[.agg #[.slice NA nn nc, .slice FA fn fc], .slice A n c, .slice SA sn sc] w2 fun e w' => ∃ u S, e = .returned (.tuple #[u.val, .int .i64 r, .int .i64 E]) ∧ ToldAs M w2.heap.size w' S u ∧ Below w2.heap.size w2 w') := Lib.hid c1
  clear c1 hA2
  go_upto_region 5 with (go_at_call 34; refine C1.out.mono ?_; rintro e w3 ⟨u, S, rfl, hT3, hb3⟩; replace hB := hB.below hb3 hB.lt; replace hb := hb.trans (hb3.mono hb.size); unfold TV.val)
  clear C1
  have hcut := TreeCut.alloc hT3 hb3
  obtain ⟨W3, hW3⟩ : ∃ W, w3.alloc (.cells #[.slice u.NA u.nn u.nc, .slice u.FA u.fn u.fc] 25) = W := ⟨_, rfl⟩
  have hU := Blk.new w3 25 #[.slice u.NA u.nn u.nc, .slice u.FA u.fn u.fc]
  replace hB := hB.alloc (.cells #[.slice u.NA u.nn u.nc, .slice u.FA u.fn u.fc] 25)
  replace hb := hb.alloc hb.size (.cells #[.slice u.NA u.nn u.nc, .slice u.FA u.fn u.fc] 25)
  have hTu := hT3.tree.keep ((Below.refl w3.heap.size w3).alloc (Nat.le_refl _) (.cells #[.slice u.NA u.nn u.nc, .slice u.FA u.fn u.fc] 25))
  have HTell := Lib.hid hT3.tells
  obtain ⟨g, hg⟩ : ∃ g, w3.heap.size = g := ⟨_, rfl⟩
  rw [hW3] at hB hU hb hTu ⊢
  rw [hg] at hU ⊢
  have HTu := Lib.hid hTu
  clear hW3 hg hT3 hb3 hb2 b0 b1 hcut hTu
  obtain ⟨es, hes⟩ : ∃ es, dsOf M S = es := ⟨_, rfl⟩
  rw [hes] at HTell HTu
  clear hes
  have hA3 : Sl W3 W3.heap.size 5 A n (cs.flatMap Cmd.list) := (HA.out.below hb (Nat.le_refl _)).more hb.size
  have HA3 := Lib.hid hA3; clear hA3
  have b0 := hB.cell 0; have b1 := hB.cell 1
  have hBl := hB.lt
  have hUl := hU.lt
  have hbs := hb.size
  have c2f : ∀ W, Below w.heap.size w W → Calls Try.prog 34 #[.agg #[.slice NA nn nc, .slice FA fn fc], .slice A k c, .slice SA sn sc] W fun e w' => ∃ u S, e = .returned (.tuple #[u.val, .int .i64 r1, .int .i64 E1]) ∧ ToldAs M1 W.heap.size w' S u ∧ Below W.heap.size W w' := fun W hW => by
    have hA4 : Sl W W.heap.size 5 A k ((cs.take k).flatMap Cmd.list) := by
      have h := (((HA.out.below hW (Nat.le_refl _)).more hW.size).first hkn')
      rw [flat_take (f := Cmd.list) (fun _ => rfl)] at h
      exact h
    have h := Run_any ⟨nodes, files, NA, nn, nc, FA, fn, fc⟩ ds (cs.take k) (fun x hx => HC.out x (List.mem_of_mem_take hx)) A k c SA sn sc ss sd W (HT.out.keep hW) hA4 (by rw [List.length_take, HN.out]; omega) (by omega) (HS.out.keep hW)
    rw [HR1.out] at h
    exact h
  have C2 := Lib.hid c2f; clear c2f
  go_upto_region 5 with (fail)
  go_cut [13, 14, 15] from 47 to 56 (fun p v e wx => v = .int .i64 r1 ∧ e = .int .i64 E1 ∧ TreeCut M1 W3 p wx)
  case first =>
    refine wp_region_T none (.q 0 (.q 1 (.q 2 (.q 3 (.q 4 (.e2 5 10 (.q 6 (.q 7 (.q 8 (.q 9 (.e1 10 (.e1 11 (.q 12 (.q 13 .done)))))))) (.e1 5 (.q 6 (.q 7 (.q 8 (.q 9 (.e1 11 (.q 12 (.q 13 .done)))))))))))))) (by kernel_rfl) (by kernel_rfl) fun hG0 => ?_
    repeat (first
      | (refine tree_skip rfl (by rfl) ?_; simp only [Act.put, List.setIfInBounds_toArray, List.set_cons_zero, List.set_cons_succ])
      | (refine tree_qE rfl (by rfl) ?_; apply Exists.intro; refine ⟨fun w' hc' => ?_, ?_⟩; (focus (go_simp; (try go_bits); (try simp only [↓IntWalk.iteOmega]); with_reducible rfl)); simp only [Act.put, List.setIfInBounds_toArray, List.set_cons_zero, List.set_cons_succ]))
    refine tree_e2 (tree_step rfl fun K hK => ?_) (tree_step rfl fun K hK => ?_)
    · have hBc := below_grown hG0 (Nat.le_refl _) (fun g e => by cases e)
      go_wp2_with (go_at_call 34; refine (C2.out _ (hb.trans (hBc.mono hbs))).mono ?_; rintro e w5 ⟨x, T, rfl, hT5, hb5⟩; unfold TV.val)
      have hG1 := grown_trans hG0 (grown_below hb5 (Nat.le_refl _))
      refine hK.out _ _ hG1 ?_
      clear hK K
      repeat (first
        | (refine tree_skip rfl (by rfl) ?_; simp only [Act.put, List.setIfInBounds_toArray, List.set_cons_zero, List.set_cons_succ])
        | (refine tree_qE rfl (by rfl) ?_; apply Exists.intro; refine ⟨fun w' hc' => ?_, ?_⟩; (focus (go_simp; (try go_bits); (try simp only [↓IntWalk.iteOmega]); with_reducible rfl)); simp only [Act.put, List.setIfInBounds_toArray, List.set_cons_zero, List.set_cons_succ]))
      refine tree_e1 (tree_step rfl fun K hK => ?_)
      go_wp2_with (fail)
      have hG2 := grown_trans hG1 (World.grownBy_alloc w5 (.cells #[.slice none 0 0, .slice none 0 0] 25) none)
      refine hK.out _ _ hG2 ?_
      clear hK K
      repeat (first
        | (refine tree_skip rfl (by rfl) ?_; simp only [Act.put, List.setIfInBounds_toArray, List.set_cons_zero, List.set_cons_succ])
        | (refine tree_qE rfl (by rfl) ?_; apply Exists.intro; refine ⟨fun w' hc' => ?_, ?_⟩; (focus (go_simp; (try go_bits); (try simp only [↓IntWalk.iteOmega]); with_reducible rfl)); simp only [Act.put, List.setIfInBounds_toArray, List.set_cons_zero, List.set_cons_succ]))
      refine tree_e1 (tree_step rfl fun K hK => ?_)
      go_wp2_with (fail)
      have hG3 := grown_trans hG1 (World.grownBy_alloc w5 (.cells #[.slice x.NA x.nn x.nc, .slice x.FA x.fn x.fc] 25) none)
      refine hK.out _ _ hG3 ?_
      clear hK K
      repeat (first
        | (refine tree_skip rfl (by rfl) ?_; simp only [Act.put, List.setIfInBounds_toArray, List.set_cons_zero, List.set_cons_succ])
        | (refine tree_qE rfl (by rfl) ?_; apply Exists.intro; refine ⟨fun w' hc' => ?_, ?_⟩; (focus (go_simp; (try go_bits); (try simp only [↓IntWalk.iteOmega]); with_reducible rfl)); simp only [Act.put, List.setIfInBounds_toArray, List.set_cons_zero, List.set_cons_succ]))
      refine tree_end ?_
      go_wp2_with (fail)
      go_meet
      exact ⟨rfl, rfl, TreeCut.alloc hT5 (below_grown hG1 (Nat.le_refl _) (fun g e => by cases e))⟩
    · have hZ := Blk.new W3.drew 25 #[.slice none 0 0, .slice none 0 0]
      go_wp2_with (fail)
      have hG1 := grown_trans hG0 (World.grownBy_alloc W3.drew (.cells #[.slice none 0 0, .slice none 0 0] 25) none)
      refine hK.out _ _ hG1 ?_
      clear hK K
      repeat (first
        | (refine tree_skip rfl (by rfl) ?_; simp only [Act.put, List.setIfInBounds_toArray, List.set_cons_zero, List.set_cons_succ])
        | (refine tree_qE rfl (by rfl) ?_; apply Exists.intro; refine ⟨fun w' hc' => ?_, ?_⟩; (focus (go_simp; (try go_bits); (try simp only [↓IntWalk.iteOmega]); with_reducible rfl)); simp only [Act.put, List.setIfInBounds_toArray, List.set_cons_zero, List.set_cons_succ]))
      refine tree_e1 (tree_step rfl fun K hK => ?_)
      have hBc := below_grown hG1 (Nat.le_refl _) (fun g e => by cases e)
      go_wp2_with (go_at_call 34; refine (C2.out _ (hb.trans (hBc.mono hbs))).mono ?_; rintro e w5 ⟨x, T, rfl, hT5, hb5⟩; unfold TV.val)
      have hG2 := grown_trans hG1 (grown_below hb5 (Nat.le_refl _))
      refine hK.out _ _ hG2 ?_
      clear hK K
      repeat (first
        | (refine tree_skip rfl (by rfl) ?_; simp only [Act.put, List.setIfInBounds_toArray, List.set_cons_zero, List.set_cons_succ])
        | (refine tree_qE rfl (by rfl) ?_; apply Exists.intro; refine ⟨fun w' hc' => ?_, ?_⟩; (focus (go_simp; (try go_bits); (try simp only [↓IntWalk.iteOmega]); with_reducible rfl)); simp only [Act.put, List.setIfInBounds_toArray, List.set_cons_zero, List.set_cons_succ]))
      have hZ5 : Blk w5 W3.heap.size 25 #[.slice none 0 0, .slice none 0 0] := hZ.below hb5 hZ.lt
      refine tree_e1 (tree_step rfl fun K hK => ?_)
      go_wp2_with (refine wpList_store_blk rfl 25 (.tmp 13) (.tmp 54) rfl hZ5 #[.slice x.NA x.nn x.nc, .slice x.FA x.fn x.fc] rfl rfl (show (Try.prog.info? 25).map (·.size) = some 2 by kernel_rfl) rfl (by simp [Value.oneCell']) ?_; intro w6 hB6 hg6 hs6)
      have hG3 : W3.grownBy w6 none := grown_below ((below_grown hG2 (Nat.le_refl _) (fun g e => by cases e)).trans (below_grown hg6 hG2.size (fun g e => by injection e with e; omega))) (Nat.le_refl _)
      refine hK.out _ _ hG3 ?_
      clear hK K
      repeat (first
        | (refine tree_skip rfl (by rfl) ?_; simp only [Act.put, List.setIfInBounds_toArray, List.set_cons_zero, List.set_cons_succ])
        | (refine tree_qE rfl (by rfl) ?_; apply Exists.intro; refine ⟨fun w' hc' => ?_, ?_⟩; (focus (go_simp; (try go_bits); (try simp only [↓IntWalk.iteOmega]); with_reducible rfl)); simp only [Act.put, List.setIfInBounds_toArray, List.set_cons_zero, List.set_cons_succ]))
      refine tree_end ?_
      go_wp2_with (fail)
      go_meet
      exact ⟨rfl, rfl, TreeCut.store hT5 (below_grown hG2 (Nat.le_refl _) (fun g e => by cases e)) hZ5 hB6 hg6 (by simp)⟩
  case rest =>
    obtain ⟨rfl, rfl, x, es1, g1, rfl, hX, hgl, hTx, hTell1, hb5⟩ := hcut
    replace hB := hB.below hb5 hBl
    replace hU := hU.below hb5 hUl
    replace hb := hb.trans (hb5.mono hbs)
    have HTu2 := Lib.hid (HTu.out.keep hb5)
    have HTx := Lib.hid hTx; have HTell1 := Lib.hid hTell1
    clear b0 b1 hBl hUl hbs C2 HTu HA3 hTx hTell1
    have b0 := hB.cell 0; have b1 := hB.cell 1; have u0 := hU.cell 0; have u1 := hU.cell 1; have x0 := hX.cell 0; have x1 := hX.cell 1
    by_cases hE1 : E1 = 0
    · have hS := HSP.out.2 hE1 x es1 HTell1.out
      obtain ⟨R2, hR2⟩ : ∃ R, runR x es1 (cs.drop k) sd = R := ⟨_, rfl⟩
      have hok2 := runR_ok HTx.out (cs.drop k) sd
      rw [hR2] at hS hok2
      obtain ⟨M2, r2, E2⟩ := R2
      obtain ⟨hs1, hs2, hs3⟩ := hS
      simp only at hs1 hs2 hs3 hok2
      have hr2 : r2 ≤ n := by
        have h1 := runG_le sd (cs.drop k) (openM x es1) 0
        have h2 : r2 = (runR x es1 (cs.drop k) sd).2.1 := by rw [hR2]
        rw [List.length_drop, HN.out] at h1
        unfold runR at h2
        split at h2
        · omega
        · simp only at h2; omega
      have HV := Lib.hid (hs3 _ HTx.out); have HK2 := Lib.hid hok2; have HR2 := Lib.hid hR2
      clear hs3 hok2 hR2
      subst hs1 hs2 hE1
      go_upto_region 8 with (go_at_call 20; refine (num7 _ _).mono ?_; rintro e w7 ⟨rfl, hw⟩; rw [hw]; clear hw)
      obtain ⟨W4, hW4⟩ : ∃ W, W = wc := ⟨_, rfl⟩
      rw [← hW4] at hX hb5 hB hU hb HTu2 HTx b0 b1 u0 u1 x0 x1 ⊢
      clear hW4
      obtain ⟨Ak, hAk⟩ : ∃ Ak, (if c = k then A else A.map (fun a => a.add (k * 5))) = Ak := ⟨_, rfl⟩
      have c3f : ∀ W, Below W4.heap.size W4 W → Calls Try.prog 34 #[.agg #[.slice x.NA x.nn x.nc, .slice x.FA x.fn x.fc], .slice Ak (n - k) (c - k), .slice SA sn sc] W fun e w' => ∃ u S, e = .returned (.tuple #[u.val, .int .i64 r2, .int .i64 E]) ∧ ToldAs M2 W.heap.size w' S u ∧ Below W.heap.size W w' := fun W hW => by
        have hW2 := hb.trans (hW.mono hb.size)
        have hA4 : Sl W W.heap.size 5 Ak (n - k) ((cs.drop k).flatMap Cmd.list) := by
          have h := (((HA.out.below hW2 (Nat.le_refl _)).more hW2.size).rest hkn' hnc)
          rw [flat_drop (f := Cmd.list) (fun _ => rfl), hAk] at h
          exact h
        have h := Run_any x es1 (cs.drop k) (fun x hx => HC.out x (List.mem_of_mem_drop hx)) Ak (n - k) (c - k) SA sn sc ss sd W (HTx.out.keep hW) hA4 (by rw [List.length_drop, HN.out]) (by omega) (HS.out.keep hW2)
        rw [HR2.out] at h
        exact h
      have C3 := Lib.hid c3f; clear c3f
      have hbs := hb.size
      have hxl := hX.lt
      have hul := hU.lt
      go_cut [16, 17, 18] from 75 to 84 (fun p v e wx => v = .int .i64 r2 ∧ e = .int .i64 E ∧ TreeCut M2 W4 p wx)
      case first =>
        refine wp_region_T none (.q 0 (.q 1 (.q 2 (.q 3 (.q 4 (.e2 5 10 (.q 6 (.q 7 (.q 8 (.q 9 (.e1 10 (.e1 11 (.q 12 (.q 13 .done)))))))) (.e1 5 (.q 6 (.q 7 (.q 8 (.q 9 (.e1 11 (.q 12 (.q 13 .done)))))))))))))) (by kernel_rfl) (by kernel_rfl) fun hG0 => ?_
        repeat (first
          | (refine tree_skip rfl (by rfl) ?_; simp only [Act.put, List.setIfInBounds_toArray, List.set_cons_zero, List.set_cons_succ])
          | (refine tree_qE rfl (by rfl) ?_; apply Exists.intro; refine ⟨fun w' hc' => ?_, ?_⟩; (focus (go_simp; (try go_bits); (try simp only [↓IntWalk.iteOmega]); with_reducible rfl)); simp only [Act.put, List.setIfInBounds_toArray, List.set_cons_zero, List.set_cons_succ]))
        refine tree_e2 (tree_step rfl fun K hK => ?_) (tree_step rfl fun K hK => ?_)
        · have hBc := below_grown hG0 (Nat.le_refl _) (fun g e => by cases e)
          go_wp2_with (go_at_call 34; refine (C3.out _ hBc).mono ?_; rintro e w5 ⟨y, T, rfl, hT5, hb6⟩; unfold TV.val; have hb5 := hb6)
          have hG1 := grown_trans hG0 (grown_below hb5 (Nat.le_refl _))
          refine hK.out _ _ hG1 ?_
          clear hK K
          repeat (first
            | (refine tree_skip rfl (by rfl) ?_; simp only [Act.put, List.setIfInBounds_toArray, List.set_cons_zero, List.set_cons_succ])
            | (refine tree_qE rfl (by rfl) ?_; apply Exists.intro; refine ⟨fun w' hc' => ?_, ?_⟩; (focus (go_simp; (try go_bits); (try simp only [↓IntWalk.iteOmega]); with_reducible rfl)); simp only [Act.put, List.setIfInBounds_toArray, List.set_cons_zero, List.set_cons_succ]))
          refine tree_e1 (tree_step rfl fun K hK => ?_)
          go_wp2_with (fail)
          have hG2 := grown_trans hG1 (World.grownBy_alloc w5 (.cells #[.slice none 0 0, .slice none 0 0] 25) none)
          refine hK.out _ _ hG2 ?_
          clear hK K
          repeat (first
            | (refine tree_skip rfl (by rfl) ?_; simp only [Act.put, List.setIfInBounds_toArray, List.set_cons_zero, List.set_cons_succ])
            | (refine tree_qE rfl (by rfl) ?_; apply Exists.intro; refine ⟨fun w' hc' => ?_, ?_⟩; (focus (go_simp; (try go_bits); (try simp only [↓IntWalk.iteOmega]); with_reducible rfl)); simp only [Act.put, List.setIfInBounds_toArray, List.set_cons_zero, List.set_cons_succ]))
          refine tree_e1 (tree_step rfl fun K hK => ?_)
          go_wp2_with (fail)
          have hG3 := grown_trans hG1 (World.grownBy_alloc w5 (.cells #[.slice y.NA y.nn y.nc, .slice y.FA y.fn y.fc] 25) none)
          refine hK.out _ _ hG3 ?_
          clear hK K
          repeat (first
            | (refine tree_skip rfl (by rfl) ?_; simp only [Act.put, List.setIfInBounds_toArray, List.set_cons_zero, List.set_cons_succ])
            | (refine tree_qE rfl (by rfl) ?_; apply Exists.intro; refine ⟨fun w' hc' => ?_, ?_⟩; (focus (go_simp; (try go_bits); (try simp only [↓IntWalk.iteOmega]); with_reducible rfl)); simp only [Act.put, List.setIfInBounds_toArray, List.set_cons_zero, List.set_cons_succ]))
          refine tree_end ?_
          go_wp2_with (fail)
          go_meet
          exact ⟨rfl, rfl, TreeCut.alloc hT5 (below_grown hG1 (Nat.le_refl _) (fun g e => by cases e))⟩
        · have hZ := Blk.new W4.drew 25 #[.slice none 0 0, .slice none 0 0]
          go_wp2_with (fail)
          have hG1 := grown_trans hG0 (World.grownBy_alloc W4.drew (.cells #[.slice none 0 0, .slice none 0 0] 25) none)
          refine hK.out _ _ hG1 ?_
          clear hK K
          repeat (first
            | (refine tree_skip rfl (by rfl) ?_; simp only [Act.put, List.setIfInBounds_toArray, List.set_cons_zero, List.set_cons_succ])
            | (refine tree_qE rfl (by rfl) ?_; apply Exists.intro; refine ⟨fun w' hc' => ?_, ?_⟩; (focus (go_simp; (try go_bits); (try simp only [↓IntWalk.iteOmega]); with_reducible rfl)); simp only [Act.put, List.setIfInBounds_toArray, List.set_cons_zero, List.set_cons_succ]))
          refine tree_e1 (tree_step rfl fun K hK => ?_)
          have hBc := below_grown hG1 (Nat.le_refl _) (fun g e => by cases e)
          go_wp2_with (go_at_call 34; refine (C3.out _ hBc).mono ?_; rintro e w5 ⟨y, T, rfl, hT5, hb6⟩; unfold TV.val; have hb5 := hb6)
          have hG2 := grown_trans hG1 (grown_below hb5 (Nat.le_refl _))
          refine hK.out _ _ hG2 ?_
          clear hK K
          repeat (first
            | (refine tree_skip rfl (by rfl) ?_; simp only [Act.put, List.setIfInBounds_toArray, List.set_cons_zero, List.set_cons_succ])
            | (refine tree_qE rfl (by rfl) ?_; apply Exists.intro; refine ⟨fun w' hc' => ?_, ?_⟩; (focus (go_simp; (try go_bits); (try simp only [↓IntWalk.iteOmega]); with_reducible rfl)); simp only [Act.put, List.setIfInBounds_toArray, List.set_cons_zero, List.set_cons_succ]))
          have hZ5 : Blk w5 W4.heap.size 25 #[.slice none 0 0, .slice none 0 0] := hZ.below hb5 hZ.lt
          refine tree_e1 (tree_step rfl fun K hK => ?_)
          go_wp2_with (refine wpList_store_blk rfl 25 (.tmp 16) (.tmp 82) rfl hZ5 #[.slice y.NA y.nn y.nc, .slice y.FA y.fn y.fc] rfl rfl (show (Try.prog.info? 25).map (·.size) = some 2 by kernel_rfl) rfl (by simp [Value.oneCell']) ?_; intro w6 hB6 hg6 hs6)
          have hG3 : W4.grownBy w6 none := grown_below ((below_grown hG2 (Nat.le_refl _) (fun g e => by cases e)).trans (below_grown hg6 hG2.size (fun g e => by injection e with e; omega))) (Nat.le_refl _)
          refine hK.out _ _ hG3 ?_
          clear hK K
          repeat (first
            | (refine tree_skip rfl (by rfl) ?_; simp only [Act.put, List.setIfInBounds_toArray, List.set_cons_zero, List.set_cons_succ])
            | (refine tree_qE rfl (by rfl) ?_; apply Exists.intro; refine ⟨fun w' hc' => ?_, ?_⟩; (focus (go_simp; (try go_bits); (try simp only [↓IntWalk.iteOmega]); with_reducible rfl)); simp only [Act.put, List.setIfInBounds_toArray, List.set_cons_zero, List.set_cons_succ]))
          refine tree_end ?_
          go_wp2_with (fail)
          go_meet
          exact ⟨rfl, rfl, TreeCut.store hT5 (below_grown hG2 (Nat.le_refl _) (fun g e => by cases e)) hZ5 hB6 hg6 (by simp)⟩
      case rest =>
        obtain ⟨rfl, rfl, y, es2, g2, rfl, hY, hgl2, hTy, hTell2, hb6⟩ := hcut
        replace hU := hU.below hb6 hul
        replace hb := hb.trans (hb6.mono hbs)
        have HTu3 := Lib.hid (HTu2.out.keep hb6)
        have HTy := Lib.hid hTy
        clear b0 b1 u0 u1 x0 x1 hxl hul hbs C3 HTu2 hTy
        have u0 := hU.cell 0; have u1 := hU.cell 1; have y0 := hY.cell 0; have y1 := hY.cell 1
        have HXX := Lib.hid (told_exactB HK.out HK2.out HV.out HTell.out hTell2)
        have hEE : (E == E) = true := beq_self_eq_true E
        go_wp2_with (first | (go_at_call 20; refine (num7 _ _).mono ?_; rintro e w7 ⟨rfl, hw⟩; rw [hw]; clear hw) | (go_at_call 21; refine (exact_any u y es es2 _ HTu3.out HTy.out).mono ?_; rintro e w8 ⟨rfl, hb8⟩; rw [HXX.out]; replace hb := hb.trans (hb8.mono hb.size)))
        go_ret
        exact ⟨rfl, hb⟩
    · have hE1b := bne_iff_ne.2 hE1
      have hS := HSP.out.1 hE1
      injection hS with q1 hS
      injection hS with q2 q3
      subst q1 q2 q3
      have HXX := Lib.hid (told_exactB HK.out HK.out (SameV.refl M) HTell.out HTell1.out)
      have hEE : (E == E) = true := beq_self_eq_true E
      have hrr : (r == r) = true := beq_self_eq_true r
      have hrr2 : ((r : Int) == r) = true := beq_self_eq_true _
      have HE1 := Lib.hid hE1; clear hE1
      go_wp2_with (first | (go_at_call 20; refine (num7 _ _).mono ?_; rintro e w7 ⟨rfl, hw⟩; rw [hw]; clear hw) | (go_at_call 21; refine (exact_any u x es es1 _ HTu2.out HTx.out).mono ?_; rintro e w8 ⟨rfl, hb8⟩; rw [HXX.out]; replace hb := hb.trans (hb8.mono hb.size)))
      go_ret
      exact ⟨rfl, hb⟩

set_option maxRecDepth 100000 in
theorem lifted (os : Os) (started : os.Started) (H : Type) (enc : TypeId × Value → H) :
    ReturnsInHanded {} Try.checked os 10 .any (Rows.modelSplitSpec.pre6 enc Try.prog Try.f10 Rows.modelSplitRow.domain false) (Rows.modelSplitSpec.post enc Try.prog Try.f10 false true false false) := by
  refine returnsInHanded_of_change (C := Try.checked) own started (by kernel_rfl) Try.func10
    (ChangeSpec.witness6 (enc := enc) (C := Try.checked) false ⟨#[], #[.agg #[.slice none 0 0, .slice none 0 0], .slice none 0 0, .slice none 0 0, .int .i64 0], []⟩ 8 (by kernel_rfl) (by kernel_rfl) (by kernel_rfl) (by kernel_rfl)) ?_
  intro W base args ds gs before hval0 hW hcnd _
  have hval : ∀ (j : Nat) t v, Try.f10.params[j]? = some t → args[j]? = some v → Value.okWide Try.prog W .any base t v := hval0
  have hW' := hW
  obtain ⟨p, q, hA0, hV, rfl, hfz, hnd⟩ := hW
  have hA : DataW.TrodAll enc Try.prog W 0 (fun _ => true) true Try.f10.params.toList args.toList ds p := hA0
  rw [Try.params10] at hA hval
  obtain ⟨v0, vs0, d0, ds0, p0, q0, hargs, rfl, rfl, h0, r0⟩ := trodAll_cons hA
  obtain ⟨v1, vs1, d1, ds1, p1, q1, rfl, rfl, rfl, h1, r1⟩ := trodAll_cons r0
  obtain ⟨v2, vs2, d2, ds2, p2, q2, rfl, rfl, rfl, h2, r2⟩ := trodAll_cons r1
  obtain ⟨v3, vs3, d3, ds3, p3, q3, rfl, rfl, rfl, h3, r3⟩ := trodAll_cons r2
  obtain ⟨rfl, rfl, rfl⟩ := trodAll_nil r3
  obtain rfl : args = #[v0, v1, v2, v3] := by cases args; simp_all
  obtain ⟨rfl, rfl⟩ := trodVars_none hV
  have k0 := h0
  have lt0 : ∀ x ∈ p0, x.block < W.heap.size := by obtain ⟨m, hm⟩ := k0; exact DataW.trod_lt m _ _ _ hm
  obtain ⟨t0, ds0', rfl, hT0⟩ := open_tree (hval 0 25 v0 rfl rfl) h0 lt0
  obtain ⟨a1, len1, cap1, rfl⟩ := okWide_slice Try.underlying62 (hval 1 62 v1 rfl rfl)
  have k1 := h1
  have lt1 : ∀ x ∈ p1, x.block < W.heap.size := by obtain ⟨m, hm⟩ := k1; exact DataW.trod_lt m _ _ _ hm
  obtain ⟨xs1, hlen1, hS1, ho1, hcap1, hmax1⟩ : ∃ cs : List Cmd, cs.length = len1 ∧ Sl W W.heap.size 5 a1 len1 (cs.flatMap Cmd.list) ∧ (∀ c ∈ cs, OpOk c) ∧ len1 ≤ cap1 ∧ cap1 ≤ maxLen := by
    obtain ⟨fuel, hf⟩ := h1
    exact open_cmds hf lt1
  obtain ⟨a2, len2, cap2, rfl⟩ := okWide_slice Try.underlying28 (hval 2 28 v2 rfl rfl)
  have k2 := h2
  have lt2 : ∀ x ∈ p2, x.block < W.heap.size := by obtain ⟨m, hm⟩ := k2; exact DataW.trod_lt m _ _ _ hm
  obtain ⟨ss2, sd2, hK2⟩ : ∃ (ss : List SC) (sd : List ByteArray), StockAt W a2 len2 ss sd := by
    obtain ⟨fuel, hf⟩ := h2
    exact open_stock hf lt2
  obtain ⟨a3, rfl, rfl, rfl, w3⟩ := open_int Try.underlying3 (hval 3 3 v3 rfl rfl) h3
  clear hA0 hval0
  refine (walk t0 ds0' xs1 a1 len1 cap1 a2 len2 cap2 ss2 sd2 a3 W hT0 hlen1 hS1 ho1 hcap1 hmax1 hK2 w3).mono fun e W' ⟨he, bel⟩ => ?_
  subst he
  exact ⟨_, rfl, _, _, _, [], _, [], hW', trodAll_mk1 (shut_bool Try.underlying4 _), (trodAll_cons_mk (Below.trod laidOut (by kernel_rfl) (of_decide_eq_true (by kernel_rfl)) k0 bel lt0) (trodAll_cons_mk (Below.trod laidOut (by kernel_rfl) (of_decide_eq_true (by kernel_rfl)) k1 bel lt1) (trodAll_cons_mk (Below.trod laidOut (by kernel_rfl) (of_decide_eq_true (by kernel_rfl)) k2 bel lt2) (trodAll_cons_mk (shut_int Try.underlying3 w3) trodAll_mk0)))), rfl, bel.frame _, fun h => by cases h⟩

theorem over : Rows.modelSplitRow.holds Try.pinned (OpenSpec.ofChange Rows.modelSplitSpec) :=
  OpenClaim.holds_of_wide 10 Try.f10 rfl rfl rfl rfl rfl rfl rfl ⟨rfl, rfl, rfl, rfl, rfl⟩ rfl rfl rfl rfl rfl (by kernel_rfl) Try.func10 (by kernel_rfl)
    (of_decide_eq_true (by kernel_rfl)) (by unfold Func.isWrapper; first | (rw [if_pos (by decide +kernel)]; kernel_rfl) | (rw [if_neg (by decide +kernel)]; exact ⟨rfl, rfl⟩))
    (fun os started H enc _ => lifted os started H enc)

theorem proved : Rows.ModelSplitSaid := over
#print axioms proved
end Go.Proofs.Ythmeffpickejkaa.modelSplitDone
