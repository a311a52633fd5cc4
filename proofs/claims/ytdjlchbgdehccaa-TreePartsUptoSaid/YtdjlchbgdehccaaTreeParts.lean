/- TreeParts. -/
import Derived.Test.YtdjlchbgdehccaaAliveT
import Derived.Test.YtdjlchbgdehccaaBig
import Derived.Test.YtdjlchbgdehccaaOpenT
import Derived.Test.YtdjlchbgdehccaaPicks
import Derived.Test.YtdjlchbgdehccaaGood
import Derived.JoinedCond
import Derived.IntWalk
namespace Go.Proofs.Ytdjlchbgdehccaa.treePartsDone
open Go.ChangeShapes Go.WideShapes Go.ChangeAt Go.RowKit Go.Deep

theorem cntK_le (all l m : List Node) : cntK all l ≤ cntK all (l ++ m) := by simp [cntK]
theorem cntK_take (all : List Node) (k : Nat) : cntK all (all.take k) ≤ cntK all all := by
  have := cntK_le all (all.take k) (all.drop k)
  rwa [List.take_append_drop] at this
theorem cntN_mono (all : List Node) {j : Nat} : ∀ d, cntN all j ≤ cntN all (j + d)
  | 0 => Nat.le_refl _
  | d + 1 => by rw [← Nat.add_assoc, cntN_succ]; have := cntN_mono all (j := j) d; omega
theorem cntD_take (l : List Node) (k : Nat) : cntD (l.take k) ≤ cntD l := by
  unfold cntD
  conv => rhs; rw [← List.take_append_drop k l, List.countP_append]
  omega
set_option maxRecDepth 100000 in
set_option maxHeartbeats 8000000 in
theorem walk (t : TV) (ds : List ByteArray) (w : World) (ht : TreeD w t ds) : Calls Try.prog 7 #[t.val] w fun e w' => e = .returned (.bool true) ∧ Below w.heap.size w w' := by
  have HT := Lib.hid ht.tree
  have hns := ht.tree.ns
  have hnl := ht.tree.nl
  clear ht
  obtain ⟨E, hE⟩ : ∃ E, looseE t = E := ⟨_, rfl⟩
  have HE := Lib.hid hE
  have HG := Lib.hid (show E = 0 → Good t from fun h => good_of_loose (hE.trans h))
  have HTD0 := Lib.hid (show E = 0 → toldN t = t.nodes from fun h => by rw [toldN, if_pos (hE.trans h)])
  clear hE
  obtain ⟨nodes, files, NA, nn, nc, FA, fn, fc⟩ := t
  simp only at hns hnl
  have HS := Lib.hid hns; clear hns
  have Hn := Lib.hid hnl; clear hnl
  unfold TV.val
  have hB := Blk.new w 26 #[.slice NA nn nc, .slice FA fn fc]
  have hb := (Below.refl w.heap.size w).alloc (Nat.le_refl _) (.cells #[.slice NA nn nc, .slice FA fn fc] 26)
  have b0 := hB.cell 0
  have b1 := hB.cell 1
  go_enter Try.func7, Try.ntmps7
  go_upto_region 3 with (first | (go_at_call 14; refine (alive_t _).mono ?_; rintro e w1 ⟨rfl, hb1⟩; replace hB := hB.below hb1 hB.lt; replace hb := hb.trans (hb1.mono hb.size); have b0 := hB.cell 0; have b1 := hB.cell 1) | (go_at_call 19; refine (lbig_any ⟨nodes, files, NA, nn, nc, FA, fn, fc⟩ _ (HT.out.keep hb)).mono ?_; rintro e w2 ⟨x, rfl, hx, hb2⟩; replace hB := hB.below hb2 hB.lt; replace hb := hb.trans (hb2.mono hb.size); have b0 := hB.cell 0; have b1 := hB.cell 1))
  cases x with
  | true =>
    go_wp2
    go_ret
    exact ⟨rfl, hb⟩
  | false =>
    clear hx
    by_cases e1 : E = 0
    case neg =>
      have e2 : (E == 0) = false := beq_eq_false_iff_ne.2 e1
      have e3 : (E != 0) = true := bne_iff_ne.2 e1
      clear HG HTD0
      go_wp2_with (first | (go_at_call 16; refine (loose_any ⟨nodes, files, NA, nn, nc, FA, fn, fc⟩ _ (HT.out.keep hb)).mono ?_; rintro e w3 ⟨rfl, hb3⟩; rw [HE.out]) | (go_at_call 18; refine (numT _ _).mono ?_; rintro e w6 ⟨rfl, rfl⟩))
      go_ret
      exact ⟨rfl, hb.trans (hb3.mono hb.size)⟩
    case pos =>
      have G := HG.out e1
      have HTD := Lib.hid (show toldN ⟨nodes, files, NA, nn, nc, FA, fn, fc⟩ = nodes from HTD0.out e1)
      have hn256 : nn ≤ 256 := G.nn
      have hf256 : fn ≤ 256 := G.fn
      have hKA := kids_all G
      have hNA := names_all G
      simp only at hKA hNA
      rw [Hn.out] at hKA hNA
      have e2 : (E == 0) = true := beq_iff_eq.2 e1
      have e3 : (E != 0) = false := by rw [bne, e2]; rfl
      replace HG := Lib.hid G
      clear G HTD0
      replace e1 := Lib.hid e1
      go_upto_region 5 with (first | (go_at_call 16; refine (loose_any ⟨nodes, files, NA, nn, nc, FA, fn, fc⟩ _ (HT.out.keep hb)).mono ?_; rintro e w3 ⟨rfl, hb3⟩; rw [HE.out]; replace hB := hB.below hb3 hB.lt; replace hb := hb.trans (hb3.mono hb.size); have b0 := hB.cell 0; have b1 := hB.cell 1) | (go_at_call 18; refine (numT _ _).mono ?_; rintro e w6 ⟨rfl, rfl⟩))
      go_upto_region 6 with (go_at_call 25; refine (kids_any ⟨nodes, files, NA, nn, nc, FA, fn, fc⟩ ByteArray.empty _ (HT.out.keep hb)).mono ?_; rintro e w4 ⟨B0, K0, d0, rfl, hm0, _, hb4⟩; rw [HTD.out] at hm0; replace hB := hB.below hb4 hB.lt; replace hb := hb.trans (hb4.mono hb.size); have b0 := hB.cell 0)
      rw [hm0] at hKA
      have HKA := Lib.hid hKA; have HNA := Lib.hid hNA
      clear hKA hNA hm0
      go_wp2
      clear b0
      go_loopw [5, 6] (fun v i wr => ∃ k : Nat, k ≤ nn ∧ i = .int .i64 k ∧ ∃ KK : Nat, KK = K0 + cntK nodes (nodes.take k) ∧ v = .int .i64 KK ∧ Blk wr w.heap.size 26 #[.slice NA nn nc, .slice FA fn fc] ∧ Below w.heap.size w wr) (fun _ i _ => nn - (intOf i).toNat)
      case atStart => exact ⟨0, Nat.zero_le _, rfl, K0, rfl, rfl, hB, hb⟩
      case round =>
        clear hB hb
        obtain ⟨k, hk, rfl, KK, hKK, rfl, hB, hb⟩ := hrel
        have HKK := Lib.hid hKK; clear hKK
        have b0 := hB.cell 0
        have b1 := hB.cell 1
        by_cases hlt : k < nn
        · have hki : (k : Int) < nn := by omega
          have hbs := hb.size
          have hBl := hB.lt
          obtain ⟨xb, xo, x, rfl, hxb, hx, hc⟩ := (HS.out.keep (Nat.le_refl _) hb.block).get Node.len Hn.out hlt
          have c0 := hc 0 _ rfl
          simp only [Nat.add_zero] at c0
          clear hc
          have hxw : xb < wr.heap.size := by omega
          have HX := Lib.hid hx
          have HF := Lib.hid (show findI nodes x.path = k from find_here HG.out.rises hx)
          have HKS := Lib.hid (show cntK nodes (nodes.take (k + 1)) = cntK nodes (nodes.take k) + (picks (kidsF x.path) nodes).length by rw [take_snoc' hx, cntK_snoc])
          clear hx
          go_upto_region 9 with (fail)
          refine wp_region_ordB (none) [(0, true), (1, true), (2, true), (3, true), (4, true), (5, true), (6, true), (7, false), (8, true)] (by kernel_rfl) (by kernel_rfl) fun hG0 => ?_
          repeat (first
            | (refine ord_skipB rfl (by rfl) ?_; simp only [Act.put, List.setIfInBounds_toArray, List.set_cons_zero, List.set_cons_succ])
            | (refine ord_qE rfl (by rfl) ?_; apply Exists.intro; refine ⟨fun w' hc' => ?_, ?_⟩; (focus (go_simp; (try go_bits); (try simp only [↓IntWalk.iteOmega]); with_reducible rfl)); simp only [Act.put, List.setIfInBounds_toArray, List.set_cons_zero, List.set_cons_succ]))
          refine ord_eB rfl fun K hK => ?_
          go_wp2_with (go_at_call 25; refine (kids_any ⟨nodes, files, some ⟨xb, xo, none⟩, nn, nc, FA, fn, fc⟩ x.path _ (HT.out.keep (hb.trans (below_grown hG0 hb.size (fun g e => by cases e))))).mono ?_; rintro e w4 ⟨B, m, d, rfl, hm, _, hb4⟩)
          have hG1 := grown_trans hG0 (grown_below hb4 (Nat.le_refl _))
          refine hK.out _ _ hG1 ?_
          clear hK K
          repeat (first
            | (refine ord_skipB rfl (by rfl) ?_; simp only [Act.put, List.setIfInBounds_toArray, List.set_cons_zero, List.set_cons_succ])
            | (refine ord_qE rfl (by rfl) ?_; apply Exists.intro; refine ⟨fun w' hc' => ?_, ?_⟩; (focus (go_simp; (try go_bits); (try simp only [↓IntWalk.iteOmega]); with_reducible rfl)); simp only [Act.put, List.setIfInBounds_toArray, List.set_cons_zero, List.set_cons_succ]))
          refine ord_end ?_
          rw [HTD.out] at hm
          clear c0 b0 b1 hxw hBl hbs
          replace hB := hB.grown hG1 (by simp)
          replace hb := hb.trans (below_grown hG1 hb.size (fun g e => by cases e))
          clear hG1 hG0 hb4
          have hbd : KK + m ≤ 256 := by
            have h1 := cntK_take nodes (k + 1)
            have h2 := HKS.out; have h3 := HKK.out; have h4 := HKA.out
            omega
          have HKN := Lib.hid (show KK + m = K0 + cntK nodes (nodes.take (k + 1)) by rw [HKS.out, hm, HKK.out]; omega)
          have hmz : x.file ≠ -1 → m = 0 := fun h => by rw [← hm, show picks (kidsF x.path) nodes = [] from file_no_kids HG.out (List.mem_of_getElem? HX.out) h]; rfl
          clear hm HKS HKK
          obtain ⟨xb', xo', x', hxe, hxb', hx', hc⟩ := (HS.out.keep (Nat.le_refl _) hb.block).get Node.len Hn.out hlt
          obtain rfl : x = x' := by have := HX.out; rw [hx'] at this; injection this with this; exact this.symm
          injection hxe with hxe; injection hxe with q1 q2 q3; subst q1 q2
          have c0 := hc 0 _ rfl
          have c1 := hc 1 _ rfl
          simp only [Nat.add_zero] at c0 c1
          clear hc hx' q3
          have b0 := hB.cell 0
          have b1 := hB.cell 1
          by_cases a5 : x.file = -1
          · have a6 : (x.file != -1) = false := by rw [a5]; rfl
            have A5 := Lib.hid a5; clear a5 hmz
            have hl1 := hB.lt
            have hxw : xb < _ := Nat.lt_of_lt_of_le hxb hb.size
            go_upto_region 10 with (fail)
            refine wp_region_ordB (none) [(0, true), (1, true), (2, true), (3, true), (4, true), (5, true), (6, true), (7, true), (8, true), (9, true), (10, true), (11, true), (12, true), (13, true), (14, true), (15, true), (16, true), (17, true), (18, true), (19, true), (21, true), (20, false), (22, true), (23, true)] (by kernel_rfl) (by kernel_rfl) fun hG0 => ?_
            repeat (first
              | (refine ord_skipB rfl (by rfl) ?_; simp only [Act.put, List.setIfInBounds_toArray, List.set_cons_zero, List.set_cons_succ])
              | (refine ord_qE rfl (by rfl) ?_; apply Exists.intro; refine ⟨fun w' hc' => ?_, ?_⟩; (focus (go_simp; (try go_bits); (try simp only [↓IntWalk.iteOmega]); with_reducible rfl)); simp only [Act.put, List.setIfInBounds_toArray, List.set_cons_zero, List.set_cons_succ]))
            refine ord_eB rfl fun K hK => ?_
            go_wp2_with (go_at_call 23; refine (find_any ⟨nodes, files, some ⟨xb, xo, none⟩, nn, nc, FA, fn, fc⟩ x.path _ (HT.out.keep (hb.trans (below_grown hG0 hb.size (fun g e => by cases e))))).mono ?_; rintro e w5 ⟨rfl, hb5⟩; rw [HTD.out, HF.out])
            have hG1 := grown_trans hG0 (grown_below hb5 (Nat.le_refl _))
            refine hK.out _ _ hG1 ?_
            clear hK K
            repeat (first
              | (refine ord_skipB rfl (by rfl) ?_; simp only [Act.put, List.setIfInBounds_toArray, List.set_cons_zero, List.set_cons_succ])
              | (refine ord_qE rfl (by rfl) ?_; apply Exists.intro; refine ⟨fun w' hc' => ?_, ?_⟩; (focus (go_simp; (try go_bits); (try simp only [↓IntWalk.iteOmega]); with_reducible rfl)); simp only [Act.put, List.setIfInBounds_toArray, List.set_cons_zero, List.set_cons_succ]))
            refine ord_end ?_
            clear b0 b1 c0 c1 hl1 hxw
            replace hB := hB.grown hG1 (by simp)
            replace hb := hb.trans (below_grown hG1 hb.size (fun g e => by cases e))
            clear hG1 hG0
            go_wp2
            go_roundw
            case rel => exact ⟨k + 1, by omega, by go_num, KK + m, HKN.out, rfl, hB, hb⟩
            case measure => simp [intOf]; omega
          · have a6 : (x.file != -1) = true := bne_iff_ne.2 a5
            obtain rfl := hmz a5
            have A5 := Lib.hid a5; clear a5 hmz
            have hl1 := hB.lt
            have hxw : xb < _ := Nat.lt_of_lt_of_le hxb hb.size
            go_upto_region 10 with (fail)
            refine wp_region_ordB (none) [(0, true), (1, true), (2, true), (3, true), (4, true), (5, true), (6, true), (7, true), (8, true), (9, true), (10, true), (11, true), (12, true), (13, true), (14, true), (15, true), (16, true), (17, true), (18, true), (19, true), (21, true), (20, false), (22, true), (23, true)] (by kernel_rfl) (by kernel_rfl) fun hG0 => ?_
            repeat (first
              | (refine ord_skipB rfl (by rfl) ?_; simp only [Act.put, List.setIfInBounds_toArray, List.set_cons_zero, List.set_cons_succ])
              | (refine ord_qE rfl (by rfl) ?_; apply Exists.intro; refine ⟨fun w' hc' => ?_, ?_⟩; (focus (go_simp; (try go_bits); (try simp only [↓IntWalk.iteOmega]); with_reducible rfl)); simp only [Act.put, List.setIfInBounds_toArray, List.set_cons_zero, List.set_cons_succ]))
            refine ord_eB rfl fun K hK => ?_
            go_wp2_with (go_at_call 23; refine (find_any ⟨nodes, files, some ⟨xb, xo, none⟩, nn, nc, FA, fn, fc⟩ x.path _ (HT.out.keep (hb.trans (below_grown hG0 hb.size (fun g e => by cases e))))).mono ?_; rintro e w5 ⟨rfl, hb5⟩; rw [HTD.out, HF.out])
            have hG1 := grown_trans hG0 (grown_below hb5 (Nat.le_refl _))
            refine hK.out _ _ hG1 ?_
            clear hK K
            repeat (first
              | (refine ord_skipB rfl (by rfl) ?_; simp only [Act.put, List.setIfInBounds_toArray, List.set_cons_zero, List.set_cons_succ])
              | (refine ord_qE rfl (by rfl) ?_; apply Exists.intro; refine ⟨fun w' hc' => ?_, ?_⟩; (focus (go_simp; (try go_bits); (try simp only [↓IntWalk.iteOmega]); with_reducible rfl)); simp only [Act.put, List.setIfInBounds_toArray, List.set_cons_zero, List.set_cons_succ]))
            refine ord_end ?_
            clear b0 b1 c0 c1 hl1 hxw
            replace hB := hB.grown hG1 (by simp)
            replace hb := hb.trans (below_grown hG1 hb.size (fun g e => by cases e))
            clear hG1 hG0
            go_wp2
            go_roundw
            case rel => exact ⟨k + 1, by omega, by go_num, KK, HKN.out, rfl, hB, hb⟩
            case measure => simp [intOf]; omega
        · obtain rfl : k = nn := by omega
          have hki : ¬ (k : Int) < k := by omega
          have hfin : KK = k := by
            have h1 := HKK.out; have h2 := HKA.out
            rw [List.take_of_length_le (by rw [Hn.out]; exact Nat.le_refl _)] at h1
            omega
          subst hfin
          clear HKK HKA
          go_wp2
          clear b0 b1
          go_loopw [8, 9] (fun v i wr => ∃ j : Nat, j ≤ fn ∧ i = .int .i64 j ∧ ∃ MM : Nat, MM = cntN nodes j ∧ v = .int .i64 MM ∧ Blk wr w.heap.size 26 #[.slice NA KK nc, .slice FA fn fc] ∧ Below w.heap.size w wr) (fun _ i _ => fn - (intOf i).toNat)
          case atStart => exact ⟨0, Nat.zero_le _, rfl, 0, rfl, rfl, hB, hb⟩
          case round =>
            clear hB hb
            obtain ⟨j, hj, rfl, MM, hMM, rfl, hB, hb⟩ := hrel
            have HMM := Lib.hid hMM; clear hMM
            have b0 := hB.cell 0
            have b1 := hB.cell 1
            by_cases hlt : j < fn
            · have hki : (j : Int) < fn := by omega
              go_upto_region 18 with (go_at_call 24; refine (names_any ⟨nodes, files, NA, KK, nc, FA, fn, fc⟩ j _ (HT.out.keep hb)).mono ?_; rintro e w4 ⟨A, n, c, rfl, hn, hS, hb4⟩; rw [HTD.out] at hn hS; replace hB := hB.below hb4 hB.lt; replace hb := hb.trans (hb4.mono hb.size))
              have hpos : 0 < n := by rw [← hn]; exact names_some HG.out (by omega) hki
              have hbd : MM + n ≤ 256 := by
                have h1 := cntN_succ nodes j; have h2 := HMM.out; have h3 := HNA.out
                have h4 := cntN_mono nodes (j := j + 1) (fn - (j + 1))
                rw [show j + 1 + (fn - (j + 1)) = fn by omega] at h4
                omega
              have HMN := Lib.hid (show MM + n = cntN nodes (j + 1) by rw [cntN_succ, HMM.out, hn])
              have HPN := Lib.hid hn; have HPS := Lib.hid hS
              clear hn hS b0 b1 HMM
              have hpi : (0 : Int) < n := by omega
              go_wp2
              go_loopw [11] (fun i wr => ∃ q : Nat, q ≤ n ∧ i = .int .i64 q ∧ Below w4.heap.size w4 wr) (fun i _ => n - (intOf i).toNat)
              case atStart => exact ⟨0, Nat.zero_le _, rfl, Below.refl _ _⟩
              case round =>
                obtain ⟨q, hq, rfl, hb5⟩ := hrel
                have hB5 := hB.below hb5 hB.lt
                have hbw := hb.trans (hb5.mono hb.size)
                have b0 := hB5.cell 0
                have b1 := hB5.cell 1
                by_cases hlq : q < n
                · have hqi : (q : Int) < n := by omega
                  obtain ⟨yb, yo, y, rfl, hyb, hy, hc⟩ := (HPS.out.keep (Nat.le_refl _) hb5.block).get strOf_len HPN.out hlq
                  have c0 := hc 0 _ rfl
                  simp only [Nat.add_zero, Nat.mul_one] at c0
                  clear hc
                  obtain ⟨kk, z, hF, hz, hzf⟩ := names_at HG.out (List.mem_of_getElem? hy)
                  have HF := Lib.hid hF; have HZ := Lib.hid hz; have HY := Lib.hid hy
                  clear hF hz hy
                  have hkk : kk < KK := by rw [← Hn.out]; exact (List.getElem?_eq_some_iff.1 HZ.out).1
                  have hs5 := hb5.size
                  have hyw : yb < wr.heap.size := by omega
                  have hBl := hB5.lt
                  go_upto_region 21 with (fail)
                  refine wp_region_ordB (none) [(0, true), (1, true), (2, true), (3, true), (4, true), (5, false), (6, true)] (by kernel_rfl) (by kernel_rfl) fun hG0 => ?_
                  repeat (first
                    | (refine ord_skipB rfl (by rfl) ?_; simp only [Act.put, List.setIfInBounds_toArray, List.set_cons_zero, List.set_cons_succ])
                    | (refine ord_qE rfl (by rfl) ?_; apply Exists.intro; refine ⟨fun w' hc' => ?_, ?_⟩; (focus (go_simp; (try go_bits); (try simp only [↓IntWalk.iteOmega]); with_reducible rfl)); simp only [Act.put, List.setIfInBounds_toArray, List.set_cons_zero, List.set_cons_succ]))
                  refine ord_eB rfl fun K hK => ?_
                  go_wp2_with (go_at_call 23; refine (find_any ⟨nodes, files, NA, KK, nc, FA, fn, fc⟩ y _ (HT.out.keep (hbw.trans (below_grown hG0 hbw.size (fun g e => by cases e))))).mono ?_; rintro e w6 ⟨rfl, hb6⟩; rw [HTD.out, HF.out])
                  have hG1 := grown_trans hG0 (grown_below hb6 (Nat.le_refl _))
                  refine hK.out _ _ hG1 ?_
                  clear hK K
                  repeat (first
                    | (refine ord_skipB rfl (by rfl) ?_; simp only [Act.put, List.setIfInBounds_toArray, List.set_cons_zero, List.set_cons_succ])
                    | (refine ord_qE rfl (by rfl) ?_; apply Exists.intro; refine ⟨fun w' hc' => ?_, ?_⟩; (focus (go_simp; (try go_bits); (try simp only [↓IntWalk.iteOmega]); with_reducible rfl)); simp only [Act.put, List.setIfInBounds_toArray, List.set_cons_zero, List.set_cons_succ]))
                  refine ord_end ?_
                  clear c0 b0 b1 hyw hBl hs5 hB5 hbw
                  replace hb5 := hb5.trans (below_grown hG1 hb5.size (fun g e => by cases e))
                  clear hG1 hG0 hb6
                  have hB5 := hB.below hb5 hB.lt
                  have hbw := hb.trans (hb5.mono hb.size)
                  have hs5 := hb5.size
                  have hsw := hbw.size
                  have hBl := hB5.lt
                  have b0 := hB5.cell 0
                  have b1 := hB5.cell 1
                  obtain ⟨zb, zo, z', rfl, hzb, hz', hc⟩ := (HS.out.keep (Nat.le_refl _) hbw.block).get Node.len Hn.out hkk
                  obtain rfl : z = z' := by have := HZ.out; rw [hz'] at this; injection this with this; exact this.symm
                  have z1 := hc 1 _ rfl
                  clear hc hz'
                  have hzw : zb < w6.heap.size := by omega
                  have a6 : (z.file != j) = false := by rw [hzf]; simp
                  have hk0 : ¬ (kk : Int) < 0 := by omega
                  have hk1 : (kk : Int) < KK := by omega
                  have hk2 : decide ((kk : Int) < 0) = false := decide_eq_false hk0
                  have HZF := Lib.hid hzf; clear hzf
                  by_cases hq0 : q = 0
                  · subst hq0
                    go_upto_region 22 with (fail)
                    refine wp_region_ordB (none) [(0, true), (1, true), (2, true), (3, true), (4, true), (5, true), (6, true), (7, true), (8, true), (9, true), (10, true), (11, true), (12, true), (13, true), (14, true), (15, true), (16, true), (17, true), (18, true), (19, true), (20, true), (21, true), (22, true), (23, true), (24, true), (25, true), (26, true), (27, true)] (by kernel_rfl) (by kernel_rfl) fun hG0 => ?_
                    repeat (first
                      | (refine ord_skipB rfl (by rfl) ?_; simp only [Act.put, List.setIfInBounds_toArray, List.set_cons_zero, List.set_cons_succ])
                      | (refine ord_qE rfl (by rfl) ?_; apply Exists.intro; refine ⟨fun w' hc' => ?_, ?_⟩; (focus (go_simp; (try go_bits); (try simp only [↓IntWalk.iteOmega]); with_reducible rfl)); simp only [Act.put, List.setIfInBounds_toArray, List.set_cons_zero, List.set_cons_succ]))
                    refine ord_end ?_
                    clear b0 b1 z1 hzw
                    replace hb5 := hb5.trans (below_grown hG0 hb5.size (fun g e => by cases e))
                    clear hG0
                    go_wp2
                    go_roundw
                    case rel => exact ⟨0 + 1, by omega, by go_num, hb5⟩
                    case measure => simp [intOf]; omega
                  · obtain ⟨xb, xo, x, hxe, hxb, hx, hc⟩ := (HPS.out.keep (Nat.le_refl _) hb5.block).get strOf_len HPN.out (show q - 1 < n by omega)
                    injection hxe with hxe; injection hxe with q1 q2 q3; subst q1 q2
                    have c0 := hc 0 _ rfl
                    obtain ⟨yb', yo', y', hye, hyb', hy', hd⟩ := (HPS.out.keep (Nat.le_refl _) hb5.block).get strOf_len HPN.out hlq
                    obtain rfl : y = y' := by have := HY.out; rw [hy'] at this; injection this with this; exact this.symm
                    injection hye with hye; injection hye with q1 q2 q4; subst q1 q2
                    have d0 := hd 0 _ rfl
                    simp only [Nat.add_zero, Nat.mul_one] at c0 d0
                    have hless : Op.bytesLess x.toList y.toList = true := by
                      rw [less_lt, decide_eq_true_eq]
                      have hp := names_rise HG.out (j : Int)
                      obtain ⟨hi, ei⟩ := List.getElem?_eq_some_iff.1 hx
                      obtain ⟨hi2, ei2⟩ := List.getElem?_eq_some_iff.1 hy'
                      have := List.pairwise_iff_getElem.1 hp (q - 1) q hi hi2 (by omega)
                      rw [ei, ei2] at this
                      exact this
                    clear hc hd hx hy' q3 q4
                    have hyw : yb < w6.heap.size := by omega
                    have hk3 : 0 < q := by omega
                    have hk4 : decide (0 < q) = true := decide_eq_true hk3
                    have hk5 : (0 : Int) < q := by omega
                    have hw1 : IntKind.i64.wrap ((q : Int) - 1) = (q : Int) - 1 := IntWalk.i64_in _ (by omega)
                    have hw2 : (0 : Int) ≤ (q : Int) - 1 := by omega
                    have hw3 : (q : Int) - 1 < n := by omega
                    have hw4 : ((q : Int) - 1).toNat = q - 1 := by omega
                    go_upto_region 22 with (fail)
                    refine wp_region_ordB (none) [(0, true), (1, true), (2, true), (3, true), (4, true), (5, true), (6, true), (7, true), (8, true), (9, true), (10, true), (11, true), (12, true), (13, true), (14, true), (15, true), (16, true), (17, true), (18, true), (19, true), (20, true), (21, true), (22, true), (23, true), (24, true), (25, true), (26, true), (27, true)] (by kernel_rfl) (by kernel_rfl) fun hG0 => ?_
                    repeat (first
                      | (refine ord_skipB rfl (by rfl) ?_; simp only [Act.put, List.setIfInBounds_toArray, List.set_cons_zero, List.set_cons_succ])
                      | (refine ord_qE rfl (by rfl) ?_; apply Exists.intro; refine ⟨fun w' hc' => ?_, ?_⟩; (focus (go_simp; (try go_bits); (try simp only [↓IntWalk.iteOmega]); with_reducible rfl)); simp only [Act.put, List.setIfInBounds_toArray, List.set_cons_zero, List.set_cons_succ]))
                    refine ord_end ?_
                    clear b0 b1 z1 hzw c0 d0 hyw hw1 hw2 hw3 hw4
                    replace hb5 := hb5.trans (below_grown hG0 hb5.size (fun g e => by cases e))
                    clear hG0
                    go_wp2
                    go_roundw
                    case rel => exact ⟨q + 1, by omega, by go_num, hb5⟩
                    case measure => simp [intOf]; omega
                · obtain rfl : q = n := by omega
                  have hqi : ¬ (q : Int) < q := by omega
                  have hq1 : ¬ (q : Int) < 1 := by omega
                  go_wp2
                  go_roundw
                  case rel => exact ⟨j + 1, by omega, by go_num, MM + q, HMN.out, rfl, hB5, hbw⟩
                  case measure => simp [intOf]; omega
            · obtain rfl : j = fn := by omega
              have hki : ¬ (j : Int) < j := by omega
              go_wp2
              clear b0 b1
              go_loopw [8, 13] (fun v i wr => ∃ k : Nat, k ≤ KK ∧ i = .int .i64 k ∧ ∃ DD : Nat, DD = MM + cntD (nodes.take k) ∧ v = .int .i64 DD ∧ Blk wr w.heap.size 26 #[.slice NA KK nc, .slice FA j fc] ∧ Below w.heap.size w wr) (fun _ i _ => KK - (intOf i).toNat)
              case atStart => exact ⟨0, Nat.zero_le _, rfl, MM, rfl, rfl, hB, hb⟩
              case round =>
                clear hB hb
                obtain ⟨k, hk, rfl, DD, hDD, rfl, hB, hb⟩ := hrel
                have b0 := hB.cell 0
                by_cases hlt : k < KK
                · have hki : (k : Int) < KK := by omega
                  obtain ⟨xb, xo, x, rfl, hxb, hx, hc⟩ := (HS.out.keep (Nat.le_refl _) hb.block).get Node.len Hn.out hlt
                  have c1 := hc 1 _ rfl
                  clear hc
                  have hds := cntD_snoc (nodes.take k) x
                  rw [← take_snoc' hx] at hds
                  have hbd : DD ≤ 256 := by
                    have h1 := cntD_take nodes k; have h2 := HMM.out; have h3 := HNA.out; omega
                  clear hx
                  by_cases a5 : x.file = -1
                  · have a6 : (x.file == -1) = true := beq_iff_eq.2 a5
                    rw [if_pos a5] at hds
                    have HDN := Lib.hid (show DD + 1 = MM + cntD (nodes.take (k + 1)) by omega)
                    have A5 := Lib.hid a5; clear a5 hds hDD
                    go_wp2
                    go_roundw
                    case rel => exact ⟨k + 1, by omega, by go_num, DD + 1, HDN.out, by go_num, hB, hb⟩
                    case measure => simp [intOf]; omega
                  · have a6 : (x.file == -1) = false := beq_eq_false_iff_ne.2 a5
                    rw [if_neg a5] at hds
                    have HDN := Lib.hid (show DD = MM + cntD (nodes.take (k + 1)) by omega)
                    have A5 := Lib.hid a5; clear a5 hds hDD
                    go_wp2
                    go_roundw
                    case rel => exact ⟨k + 1, by omega, by go_num, DD, HDN.out, rfl, hB, hb⟩
                    case measure => simp [intOf]; omega
                · obtain rfl : k = KK := by omega
                  have hki : ¬ (k : Int) < k := by omega
                  have hfin : DD = k := by
                    have h1 := hDD; have h2 := HMM.out; have h3 := HNA.out
                    rw [List.take_of_length_le (by rw [Hn.out]; exact Nat.le_refl _)] at h1
                    omega
                  subst hfin
                  clear hDD
                  go_wp2
                  go_ret
                  exact ⟨rfl, hb⟩


set_option maxRecDepth 100000 in
theorem lifted (os : Os) (started : os.Started) (H : Type) (enc : TypeId × Value → H) (F : Stop.Interp) :
    ReturnsInHanded {} Try.checked os 7 .any ((Rows.OpenSpec.upto Rows.treePartsSpec).pre6 enc Try.prog Try.f7 Rows.treePartsUptoRow.domain false) (((Rows.OpenSpec.upto Rows.treePartsSpec).at F).post enc Try.prog Try.f7 false true false false) := by
  refine returnsInHanded_of_cond (C := Try.checked) (s := Rows.OpenSpec.upto Rows.treePartsSpec) (k := Rows.uptoSmall) rfl own started (by kernel_rfl) Try.func7
    (OpenSpec.witness (enc := enc) (C := Try.checked) (s := Rows.OpenSpec.upto Rows.treePartsSpec) (k := Rows.uptoSmall) rfl false ⟨#[], #[.agg #[.slice none 0 0, .slice none 0 0]], []⟩ 8 (by kernel_rfl) (by kernel_rfl) (by kernel_rfl)
      (x := ([.agg [.nil, .nil]], [], [])) (by kernel_rfl) rfl (by kernel_rfl)) ?_
  intro W base args ds gs before hval0 hW hcnd hk _
  have hval : ∀ (j : Nat) t v, Try.f7.params[j]? = some t → args[j]? = some v → Value.okWide Try.prog W .any base t v := hval0
  have hW' := hW
  obtain ⟨p, q, hA0, hV, rfl, hfz, hnd⟩ := hW
  have hA : DataW.TrodAll enc Try.prog W 0 (fun _ => true) true Try.f7.params.toList args.toList ds p := hA0
  rw [Try.params7] at hA hval
  obtain ⟨v0, vs0, d0, ds0, p0, q0, hargs, rfl, rfl, h0, r0⟩ := trodAll_cons hA
  obtain ⟨rfl, rfl, rfl⟩ := trodAll_nil r0
  obtain rfl : args = #[v0] := by cases args; simp_all
  obtain ⟨rfl, rfl⟩ := trodVars_none hV
  have k0 := h0
  have lt0 : ∀ x ∈ p0, x.block < W.heap.size := by obtain ⟨m, hm⟩ := k0; exact DataW.trod_lt m _ _ _ hm
  obtain ⟨t0, ds0', rfl, hT0⟩ := open_tree (hval 0 26 v0 rfl rfl) h0 lt0
  clear hA0 hval0
  refine (walk t0 ds0' W hT0).mono fun e W' ⟨he, bel⟩ => ?_
  subst he
  exact ⟨_, rfl, _, _, _, [], _, [], hW', trodAll_mk1 (shut_bool Try.underlying4 _), (trodAll_cons_mk (Below.trod laidOut (by kernel_rfl) (of_decide_eq_true (by kernel_rfl)) k0 bel lt0) trodAll_mk0), rfl, bel.frame _, fun h => by cases h⟩

theorem over : Rows.treePartsUptoRow.holds Try.pinned (Rows.OpenSpec.upto Rows.treePartsSpec) :=
  OpenClaim.holds_of_cond 7 Try.f7 rfl rfl rfl rfl rfl rfl rfl ⟨rfl, rfl, rfl, rfl, rfl⟩ rfl rfl rfl rfl rfl (by kernel_rfl) Try.func7 (by kernel_rfl)
    (of_decide_eq_true (by kernel_rfl)) (by unfold Func.isWrapper; first | (rw [if_pos (by decide +kernel)]; kernel_rfl) | (rw [if_neg (by decide +kernel)]; exact ⟨rfl, rfl⟩))
    (fun os started H enc _ F => lifted os started H enc F)

theorem proved : Rows.TreePartsUptoSaid := over
#print axioms proved
end Go.Proofs.Ytdjlchbgdehccaa.treePartsDone
