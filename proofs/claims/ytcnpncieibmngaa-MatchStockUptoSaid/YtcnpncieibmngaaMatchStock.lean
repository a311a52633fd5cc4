/- MatchStock: contents behind the stock's own turn nothing. For inputs whose bulk is at most 1048576. -/
import Derived.Test.YtcnpncieibmngaaPairM
import Derived.Test.YtcnpncieibmngaaMatchL
import Derived.ChangeMaps5
import Derived.Deep.DeepCutAuto
namespace Go.Proofs.Ytcnpncieibmngaa.matchStockDone
open Go.ChangeShapes Go.WideShapes Go.ChangeAt Go.ChangeMaps Go.RowKit Go.Deep

theorem Try.stockT1 : ElemT Try.prog 36 45 1 24 := ElemT.mk' (z := .slice none 0 0) Try.underlying36 (by kernel_rfl) rfl (by decide)
theorem sc_one (ss : List SC) : ∀ u ∈ ss.flatMap SC.list, u.oneCell' = true := by
  intro u hu
  obtain ⟨x, _, hx⟩ := List.mem_flatMap.1 hu
  simp only [SC.list, List.mem_cons, List.not_mem_nil, or_false] at hx
  subst hx
  rfl
theorem stock_more {s t : TV} {ds es sd more : List ByteArray} (h0 : matchE s t ds es sd = 0) (hl : (sd ++ more).length ≤ 65535) (hm : ∀ d ∈ more, d.size ≤ 1000) (hsz : ((sd ++ more).map (·.size)).sum ≤ 65536) :
    matchE s t ds es (sd ++ more) = 0 ∧ matchL s t ds es (sd ++ more) = matchL s t ds es sd := by
  unfold matchE at h0
  by_cases c1 : checkE s = 0
  case neg => rw [if_pos c1] at h0; exact absurd h0 c1
  by_cases c2 : checkE t = 0
  case neg => rw [if_neg (by simp [c1]), if_pos c2] at h0; exact absurd h0 c2
  by_cases c3 : stockE sd = 0
  case neg => rw [if_neg (by simp [c1]), if_neg (by simp [c2]), if_pos c3] at h0; exact absurd h0 c3
  rw [if_neg (by simp [c1]), if_neg (by simp [c2]), if_neg (by simp [c3])] at h0
  have h3 : stockE (sd ++ more) = 0 := (stockE_iff _).2 ⟨hl, fun d hd => by
    rcases List.mem_append.1 hd with hd | hd
    · exact ((stockE_iff sd).1 c3).2.1 d hd
    · have := hm d hd; omega, hsz⟩
  cases hu : upto3 s.nodes t.nodes ds es sd es.length with
  | none => rw [hu] at h0; cases h0
  | some o =>
    have h4 := upto3_app s.nodes t.nodes ds es sd more _ _ hu
    unfold matchE matchL
    rw [if_neg (by simp [c1]), if_neg (by simp [c2]), if_neg (by simp [h3]), if_neg (by simp [c1]), if_neg (by simp [c2]), if_neg (by simp [h3]), if_neg (by simp [c1]), if_neg (by simp [c2]), if_neg (by simp [c3]), h4, hu]
    exact ⟨rfl, rfl⟩
theorem sum_take {l : List ByteArray} {k : Nat} {d : ByteArray} (h : l[k]? = some d) : ((l.take (k + 1)).map (·.size)).sum = ((l.take k).map (·.size)).sum + d.size := by
  rw [List.take_add_one, h]; simp
theorem stock_zero {s t : TV} {ds es sd : List ByteArray} (h0 : matchE s t ds es sd = 0) : stockE sd = 0 := by
  unfold matchE at h0
  by_cases c1 : checkE s = 0
  case neg => rw [if_pos c1] at h0; exact absurd h0 c1
  by_cases c2 : checkE t = 0
  case neg => rw [if_neg (by simp [c1]), if_pos c2] at h0; exact absurd h0 c2
  by_cases c3 : stockE sd = 0
  · exact c3
  · rw [if_neg (by simp [c1]), if_neg (by simp [c2]), if_pos c3] at h0; exact absurd h0 c3
theorem match_len {s t : TV} {ds es sd : List ByteArray} (h0 : matchE s t ds es sd = 0) : (matchL s t ds es sd).length = es.length := by
  have c3 := stock_zero h0
  unfold matchE at h0
  by_cases c1 : checkE s = 0
  case neg => rw [if_pos c1] at h0; exact absurd h0 c1
  by_cases c2 : checkE t = 0
  case neg => rw [if_neg (by simp [c1]), if_pos c2] at h0; exact absurd h0 c2
  rw [if_neg (by simp [c1]), if_neg (by simp [c2]), if_neg (by simp [c3])] at h0
  unfold matchL
  rw [if_neg (by simp [c1]), if_neg (by simp [c2]), if_neg (by simp [c3])]
  cases hu : upto3 s.nodes t.nodes ds es sd es.length with
  | none => rw [hu] at h0; cases h0
  | some o => exact upto3_len _ _ _ _ _ _ _ hu
theorem sum_part (l : List ByteArray) (k : Nat) : ((l.take k).map (·.size)).sum ≤ (l.map (·.size)).sum := by
  conv => rhs; rw [← List.take_append_drop k l]
  rw [List.map_append, List.sum_append]
  omega
theorem stock_join {w W : World} {SA MA A : Option Addr} {sn mn c base : Nat} {ss ms : List SC} {sd md : List ByteArray} (hK : StockAt w SA sn ss sd) (hM : StockAt w MA mn ms md) (hb : Below w.heap.size w W) (ho : W.ownsRow base 45 1 (.slice A (sn + mn) c) (sn + mn) (ss.flatMap SC.list ++ ms.flatMap SC.list)) (hn : sn + mn ≤ 1000000) : StockAt W A (sn + mn) (ss ++ ms) (sd ++ md) := by
  refine ⟨by rw [List.length_append, hK.len, hM.len], by rw [List.flatMap_append]; exact Sl.of_own ho, by rw [List.length_append, hK.dlen, hM.dlen], fun k x d hx hd => ?_, by omega⟩
  by_cases hk : k < sn
  · rw [List.getElem?_append_left (by rw [hK.len]; exact hk)] at hx
    rw [List.getElem?_append_left (by rw [hK.dlen]; exact hk)] at hd
    exact (hK.keep hb).dat k x d hx hd
  · rw [List.getElem?_append_right (by rw [hK.len]; omega), hK.len] at hx
    rw [List.getElem?_append_right (by rw [hK.dlen]; omega), hK.dlen] at hd
    exact (hM.keep hb).dat _ x d hx hd
set_option maxRecDepth 100000 in
set_option maxHeartbeats 8000000 in
theorem walk (s : TV) (ds : List ByteArray) (t : TV) (es : List ByteArray) (SA : Option Addr) (sn sc : Nat) (ss : List SC) (sd : List ByteArray) (MA : Option Addr) (mn mc : Nat) (ms : List SC) (md : List ByteArray) (w : World) (hs : TreeD w s ds) (ht : TreeD w t es) (hS : StockAt w SA sn ss sd) (hM : StockAt w MA mn ms md) :
    Calls Try.prog 6 #[pairVal s t SA sn sc, .slice MA mn mc] w fun e w' => e = .returned (.bool true) ∧ Below w.heap.size w w' := by
  have hmat := fun W (h1 : TreeD W s ds) (h2 : TreeD W t es) (h3 : StockAt W SA sn ss sd) => match_any s t ds es SA sn sc ss sd W h1 h2 h3
  have hmuch := fun W (h1 : TreeAt W s) (h2 : TreeAt W t) (h3 : StockAt W SA sn ss sd) => much11_any s t SA sn sc ss sd W h1 h2 h3
  have hmore := @stock_more s t ds es sd md
  have hzero := @stock_zero s t ds es sd
  have hT := ht
  have hlen := @match_len s t ds es sd
  have hmat2 := fun W A c (sx : List SC) (h1 : TreeD W s ds) (h2 : TreeD W t es) (h3 : StockAt W A (sn + mn) sx (sd ++ md)) => match_any s t ds es A (sn + mn) c sx (sd ++ md) W h1 h2 h3
  obtain ⟨M, hMe⟩ : ∃ M, matchE s t ds es sd = M := ⟨_, rfl⟩
  obtain ⟨L, hL⟩ : ∃ L, matchL s t ds es sd = L := ⟨_, rfl⟩
  obtain ⟨M2, hM2⟩ : ∃ M, matchE s t ds es (sd ++ md) = M := ⟨_, rfl⟩
  obtain ⟨L2, hL2⟩ : ∃ L, matchL s t ds es (sd ++ md) = L := ⟨_, rfl⟩
  rw [hMe, hL] at hmat
  rw [hM2, hL2] at hmat2
  rw [hMe, hM2, hL, hL2] at hmore
  rw [hMe] at hzero
  rw [hMe, hL] at hlen
  have HMore := Lib.hid hmore; have HZero := Lib.hid hzero; have HLen := Lib.hid (fun h => (hlen h).trans (hT.dat.len.trans hT.tree.fl))
  clear hMe hL hM2 hL2 hmore hzero hlen hT
  have HMat := Lib.hid hmat; have HMat2 := Lib.hid hmat2; have HMuch := Lib.hid hmuch
  have hsnm := hS.nm; have hmnm := hM.nm
  have HS := Lib.hid hs; have HT := Lib.hid ht; have HK := Lib.hid hS; have HM := Lib.hid hM
  clear hmat hmat2 hmuch hs ht hS hM
  unfold pairVal at HMuch ⊢
  have hB := Blk.new w 38 #[.slice s.NA s.nn s.nc, .slice s.FA s.fn s.fc, .slice t.NA t.nn t.nc, .slice t.FA t.fn t.fc, .slice SA sn sc]
  have hb := (Below.refl w.heap.size w).alloc (Nat.le_refl _) (.cells #[.slice s.NA s.nn s.nc, .slice s.FA s.fn s.fc, .slice t.NA t.nn t.nc, .slice t.FA t.fn t.fc, .slice SA sn sc] 38)
  unfold TV.val at HMat HMat2
  go_enter Try.func6, Try.ntmps6
  go_upto_region 3 with (first | (go_at_call 9; refine (alive11 _).mono ?_; rintro e w1 ⟨rfl, hb1⟩; replace hB := hB.below hb1 hB.lt; replace hb := hb.trans (hb1.mono hb.size); have b0 := hB.cell 0; have b1 := hB.cell 1; have b2 := hB.cell 2; have b3 := hB.cell 3; have b4 := hB.cell 4) | (go_at_call 14; refine (HMuch.out _ (HS.out.tree.keep hb) (HT.out.tree.keep hb) (HK.out.keep hb)).mono ?_; rintro e w2 ⟨x, rfl, hx, hb2⟩; replace hB := hB.below hb2 hB.lt; replace hb := hb.trans (hb2.mono hb.size); clear b0 b1 b2 b3 b4; have b0 := hB.cell 0; have b1 := hB.cell 1; have b2 := hB.cell 2; have b3 := hB.cell 3; have b4 := hB.cell 4))
  cases x with
  | true =>
    go_wp2
    go_ret
    exact ⟨rfl, hb⟩
  | false =>
    clear hx hb1 hb2
    by_cases h20 : (20 : Int) < mn
    · go_wp2
      go_ret
      exact ⟨rfl, hb⟩
    have hmn20 : mn ≤ 20 := by omega
    have Hb := Lib.hid hb
    go_wp2
    go_loop [7, 8] (fun v i => ∃ k : Nat, k ≤ mn ∧ i = .int .i64 k ∧ v = .int .i64 (((md.take k).map (·.size)).sum : Nat) ∧ (∀ d ∈ md.take k, d.size ≤ 1000) ∧ ((md.take k).map (·.size)).sum ≤ 1000 * k) (fun _ i => mn - (intOf i).toNat)
    case atStart => exact ⟨0, Nat.zero_le _, rfl, by simp, fun d h => by simp at h, by simp⟩
    case round =>
      obtain ⟨k, hk, rfl, rfl, hall, hsum⟩ := hrel
      have Hall := Lib.hid hall; clear hall
      obtain ⟨q, hq⟩ : ∃ q, ((md.take k).map (·.size)).sum = q := ⟨_, rfl⟩
      rw [hq] at hsum ⊢
      have Hq := Lib.hid hq; clear hq
      by_cases hlt : k < mn
      · have hki : (k : Int) < mn := by omega
        obtain ⟨xb, xo, x, rfl, hbl, hx, hc⟩ := (HM.out.sl.below Hb.out (Nat.le_refl _)).get SC.len HM.out.len hlt
        have c0 := hc 0 _ rfl
        simp only [Nat.add_zero, Nat.mul_one] at c0
        obtain ⟨d, hd⟩ : ∃ d, md[k]? = some d := ⟨_, List.getElem?_eq_getElem (by rw [HM.out.dlen]; exact hlt)⟩
        have hdn := (HM.out.dat k x d hx hd).1
        have Hd := Lib.hid hd; have Hdn := Lib.hid hdn
        clear hc hx hd hdn
        by_cases g1 : (1000 : Int) < x.n
        · go_wp2
          go_ret
          exact ⟨rfl, hb⟩
        · go_wp2
          go_round
          case rel => exact ⟨k + 1, by omega, by go_num, by rw [sum_take Hd.out, Hq.out, Hdn.out]; go_num, fun e he => by
            rw [List.take_add_one, Hd.out] at he
            rcases List.mem_append.1 he with he | he
            · exact Hall.out e he
            · simp at he; subst he; rw [Hdn.out]; omega, by rw [sum_take Hd.out, Hq.out, Hdn.out]; omega⟩
          case measure => simp [intOf]; omega
      · obtain rfl : k = mn := by omega
        have hki : ¬ (k : Int) < k := by omega
        have hfull : md.take k = md := List.take_of_length_le (by rw [HM.out.dlen]; exact Nat.le_refl _)
        rw [hfull] at Hall Hq
        clear hfull
        go_upto_region 13 with (go_at_call 12; refine (HMat.out _ (HS.out.keep hb) (HT.out.keep hb) (HK.out.keep hb)).mono ?_; rintro e w4 ⟨A, n, c, rfl, hn, hR, hb4⟩; replace hB := hB.below hb4 hB.lt; replace hb := hb.trans (hb4.mono hb.size))
        clear b0 b1 b2 b3 b4 Hb
        have b0 := hB.cell 0; have b1 := hB.cell 1; have b2 := hB.cell 2; have b3 := hB.cell 3; have b4 := hB.cell 4
        have HR := Lib.hid hR; have Hn := Lib.hid hn; have Hb := Lib.hid hb
        clear hR hn
        by_cases hM0 : M = 0
        case neg =>
          have hne := bne_iff_ne.2 hM0
          have H0 := Lib.hid hM0; clear hM0
          go_wp2_with (go_at_call 13; refine (num11 _ _).mono ?_; rintro e w8 ⟨rfl, hw⟩; rw [hw]; clear hw)
          go_ret
          exact ⟨rfl, hb⟩
        have HZ := Lib.hid ((stockE_iff sd).1 (HZero.out hM0))
        have HMo := Lib.hid (fun h1 h2 h3 => HMore.out hM0 h1 h2 h3)
        have Hfn := Lib.hid (show n ≤ t.fn by have h1 := HLen.out hM0; have h2 := Hn.out; omega)
        subst hM0
        by_cases h100 : (100 : Int) < sn
        · go_wp2_with (go_at_call 13; refine (num11 _ _).mono ?_; rintro e w8 ⟨rfl, hw⟩; rw [hw]; clear hw)
          go_ret
          exact ⟨rfl, hb⟩
        have hsn100 : sn ≤ 100 := by omega
        have hq20 : q ≤ 20000 := by omega
        go_wp2_with (go_at_call 13; refine (num11 _ _).mono ?_; rintro e w8 ⟨rfl, hw⟩; rw [hw]; clear hw)
        go_loop [11, 12] (fun v i => ∃ j : Nat, j ≤ sn ∧ i = .int .i64 j ∧ v = .int .i64 ((q + ((sd.take j).map (·.size)).sum : Nat) : Int)) (fun _ i => sn - (intOf i).toNat)
        case atStart => exact ⟨0, Nat.zero_le _, rfl, by simp⟩
        case round =>
          obtain ⟨j, hj, rfl, rfl⟩ := hrel
          have hp := sum_part sd j
          have hp2 := HZ.out.2.2
          obtain ⟨r, hr⟩ : ∃ r, ((sd.take j).map (·.size)).sum = r := ⟨_, rfl⟩
          rw [hr] at hp ⊢
          have hr6 : r ≤ 65536 := by omega
          have Hr := Lib.hid hr
          clear hr hp hp2
          by_cases hlt2 : j < sn
          · have hki2 : (j : Int) < sn := by omega
            obtain ⟨xb, xo, x, rfl, hbl, hx, hc⟩ := (HK.out.sl.below Hb.out (Nat.le_refl _)).get SC.len HK.out.len hlt2
            have c0 := hc 0 _ rfl
            simp only [Nat.add_zero, Nat.mul_one] at c0
            obtain ⟨d, hd⟩ : ∃ d, sd[j]? = some d := ⟨_, List.getElem?_eq_getElem (by rw [HK.out.dlen]; exact hlt2)⟩
            have hdn := (HK.out.dat j x d hx hd).1
            have hd8 := HZ.out.2.1 d (List.mem_of_getElem? hd)
            rw [hdn] at hd8
            have Hd := Lib.hid hd; have Hdn := Lib.hid hdn
            clear hc hx hd hdn
            go_wp2
            go_round
            case rel => exact ⟨j + 1, by omega, by go_num, by rw [sum_take Hd.out, Hr.out, Hdn.out]; go_num⟩
            case measure => simp [intOf]; omega
          · obtain rfl : j = sn := by omega
            have hki2 : ¬ (j : Int) < j := by omega
            rw [List.take_of_length_le (by rw [HK.out.dlen]; exact Nat.le_refl _)] at Hr
            by_cases h6 : (65536 : Int) < ((q + r : Nat) : Int)
            · go_wp2
              go_ret
              exact ⟨rfl, hb⟩
            have hqr : q + r ≤ 65536 := by omega
            obtain ⟨e1, e2⟩ := HMo.out (by rw [List.length_append, HK.out.dlen, HM.out.dlen]; omega) Hall.out (by rw [List.map_append, List.sum_append, Hr.out, Hq.out]; omega)
            subst e1 e2
            have hws := hb.size
            have hsS := HK.out.sl.below hb (Nat.le_refl _); have hsM := HM.out.sl.below hb (Nat.le_refl _)
            have HsS := Lib.hid hsS; have HsM := Lib.hid hsM
            have hBl := hB.lt
            clear hsS hsM HMo HZ HMore HZero HMat HMuch
            go_upto_region 22 with (fail)
            refine wp_region_ordB (none) [(0, true), (1, true), (2, true), (3, true), (4, true), (5, true), (7, true), (6, false), (8, false), (9, false), (10, true), (11, true), (12, true), (13, true), (14, true)] (by kernel_rfl) (by kernel_rfl) fun hG0 => ?_
            repeat (first
              | (refine ord_skipB rfl (by rfl) ?_; simp only [Act.put, List.setIfInBounds_toArray, List.set_cons_zero, List.set_cons_succ])
              | (refine ord_qE rfl (by rfl) ?_; apply Exists.intro; refine ⟨fun w' hc' => ?_, ?_⟩; (focus (go_simp; (try go_bits); (try simp only [↓IntWalk.iteOmega]); with_reducible rfl)); simp only [Act.put, List.setIfInBounds_toArray, List.set_cons_zero, List.set_cons_succ]))
            refine ord_eB rfl fun K hK => ?_
            go_wp2_with (at_builtin; (refine wpList_append_sl rfl _ _ _ rfl Try.stockT1 rfl (World.ownsRow_nil w4.drew w.heap.size _ _) rfl (HK.out.sl.below hb.drew (Nat.le_refl _)) (sc_one _) (by unfold maxLen; omega) (by omega) hws ?_); intro A5 c5 w5 ho5 hg5 hat5)
            have hG1 := grown_trans hG0 (grown_any hg5)
            refine hK.out _ _ hG1 ?_
            clear hK K
            repeat (first
              | (refine ord_skipB rfl (by rfl) ?_; simp only [Act.put, List.setIfInBounds_toArray, List.set_cons_zero, List.set_cons_succ])
              | (refine ord_qE rfl (by rfl) ?_; apply Exists.intro; refine ⟨fun w' hc' => ?_, ?_⟩; (focus (go_simp; (try go_bits); (try simp only [↓IntWalk.iteOmega]); with_reducible rfl)); simp only [Act.put, List.setIfInBounds_toArray, List.set_cons_zero, List.set_cons_succ]))
            simp only [Nat.zero_add, List.nil_append] at ho5 ⊢
            repeat (first
              | (refine ord_skipB rfl (by rfl) ?_; simp only [Act.put, List.setIfInBounds_toArray, List.set_cons_zero, List.set_cons_succ])
              | (refine ord_qE rfl (by rfl) ?_; apply Exists.intro; refine ⟨fun w' hc' => ?_, ?_⟩; (focus (go_simp; (try go_bits); (try simp only [↓IntWalk.iteOmega]); with_reducible rfl)); simp only [Act.put, List.setIfInBounds_toArray, List.set_cons_zero, List.set_cons_succ]))
            refine ord_eB rfl fun K hK => ?_
            go_wp2_with (at_builtin; (refine wpList_append_sl rfl _ _ _ rfl Try.stockT1 rfl ho5 rfl (HM.out.sl.below (hb.trans (below_grown hG1 hb.size (fun g e => by cases e))) (Nat.le_refl _)) (sc_one _) (by unfold maxLen; omega) (by omega) (Nat.le_trans hws hG1.size) ?_); intro A6 c6 w6 ho6 hg6 hat6)
            have hG2 := grown_own hG1 hg6 (fun g e => (hat5 g e).elim (fun h => by cases h) .inr)
            refine hK.out _ _ hG2 ?_
            clear hK K
            repeat (first
              | (refine ord_skipB rfl (by rfl) ?_; simp only [Act.put, List.setIfInBounds_toArray, List.set_cons_zero, List.set_cons_succ])
              | (refine ord_qE rfl (by rfl) ?_; apply Exists.intro; refine ⟨fun w' hc' => ?_, ?_⟩; (focus (go_simp; (try go_bits); (try simp only [↓IntWalk.iteOmega]); with_reducible rfl)); simp only [Act.put, List.setIfInBounds_toArray, List.set_cons_zero, List.set_cons_succ]))
            have hb6 := hb.trans (below_grown hG2 hb.size (fun g e => by cases e))
            refine ord_eB rfl fun K hK => ?_
            go_wp2_with (go_at_call 12; refine (HMat2.out _ A6 c6 (ss ++ ms) (HS.out.keep hb6) (HT.out.keep hb6) (stock_join HK.out HM.out hb6 ho6 (by omega))).mono ?_; rintro e w7 ⟨A7, n7, c7, rfl, hn7, hR7, hb7⟩)
            have hG3 := grown_trans hG2 (grown_below hb7 (Nat.le_refl _))
            refine hK.out _ _ hG3 ?_
            clear hK K
            repeat (first
              | (refine ord_skipB rfl (by rfl) ?_; simp only [Act.put, List.setIfInBounds_toArray, List.set_cons_zero, List.set_cons_succ])
              | (refine ord_qE rfl (by rfl) ?_; apply Exists.intro; refine ⟨fun w' hc' => ?_, ?_⟩; (focus (go_simp; (try go_bits); (try simp only [↓IntWalk.iteOmega]); with_reducible rfl)); simp only [Act.put, List.setIfInBounds_toArray, List.set_cons_zero, List.set_cons_succ]))
            refine ord_end ?_
            obtain rfl : n7 = n := by rw [← hn7, Hn.out]
            have hb7' := hb6.trans (hb7.mono hb6.size)
            have hR8 := HR.out.below (below_grown hG3 (Nat.le_refl _) (fun g e => by cases e)) (Nat.le_refl _)
            have hnm : n7 ≤ 9223372036854775807 := by
              rcases Nat.eq_zero_or_pos n7 with h | h
              · omega
              · have h1 := HT.out.tree.fm
                have h2 := Hfn.out
                omega
            have hss := sameSrc_yes A A7 n7 c c7 L2 w7 Hn.out ⟨hR8.1, fun h => by obtain ⟨b, o, e, hl, hr⟩ := hR8.2 h; exact ⟨b, o, e, Nat.lt_of_lt_of_le hl hG3.size, hr⟩⟩ hR7 hnm
            have HSS := Lib.hid hss
            clear hss hR8 hR7 hb7 hG0 hG1 hG2 hG3 b0 b1 b2 b3 b4 ho5 ho6
            go_wp2_with (first | (go_at_call 13; refine (num11 _ _).mono ?_; rintro e w8 ⟨rfl, hw⟩; rw [hw]; clear hw) | (go_at_call 18; refine HSS.out.mono ?_; rintro e w9 ⟨rfl, hb9⟩))
            go_ret
            exact ⟨rfl, hb7'.trans (hb9.mono hb7'.size)⟩


set_option maxRecDepth 100000 in
theorem lifted (os : Os) (started : os.Started) (H : Type) (enc : TypeId × Value → H) (F : Stop.Interp) :
    ReturnsInHanded {} Try.checked os 6 .any ((Rows.OpenSpec.upto Rows.matchStockSpec).pre6 enc Try.prog Try.f6 Rows.matchStockUptoRow.domain false) (((Rows.OpenSpec.upto Rows.matchStockSpec).at F).post enc Try.prog Try.f6 false true false false) := by
  refine returnsInHanded_of_cond (C := Try.checked) (s := Rows.OpenSpec.upto Rows.matchStockSpec) (k := Rows.uptoSmall) rfl own started (by kernel_rfl) Try.func6
    (OpenSpec.witness (enc := enc) (C := Try.checked) (s := Rows.OpenSpec.upto Rows.matchStockSpec) (k := Rows.uptoSmall) rfl false ⟨#[], #[.agg #[.slice none 0 0, .slice none 0 0, .slice none 0 0, .slice none 0 0, .slice none 0 0], .slice none 0 0], []⟩ 8 (by kernel_rfl) (by kernel_rfl) (by kernel_rfl)
      (x := ([.agg [.agg [.nil, .nil], .agg [.nil, .nil], .nil], .nil], [], [])) (by kernel_rfl) rfl (by kernel_rfl)) ?_
  intro W base args ds gs before hval0 hW hcnd hk _
  have hval : ∀ (j : Nat) t v, Try.f6.params[j]? = some t → args[j]? = some v → Value.okWide Try.prog W .any base t v := hval0
  have hW' := hW
  obtain ⟨p, q, hA0, hV, rfl, hfz, hnd⟩ := hW
  have hA : DataW.TrodAll enc Try.prog W 0 (fun _ => true) true Try.f6.params.toList args.toList ds p := hA0
  rw [Try.params6] at hA hval
  obtain ⟨v0, vs0, d0, ds0, p0, q0, hargs, rfl, rfl, h0, r0⟩ := trodAll_cons hA
  obtain ⟨v1, vs1, d1, ds1, p1, q1, rfl, rfl, rfl, h1, r1⟩ := trodAll_cons r0
  obtain ⟨rfl, rfl, rfl⟩ := trodAll_nil r1
  obtain rfl : args = #[v0, v1] := by cases args; simp_all
  obtain ⟨rfl, rfl⟩ := trodVars_none hV
  have k0 := h0
  have lt0 : ∀ x ∈ p0, x.block < W.heap.size := by obtain ⟨m, hm⟩ := k0; exact DataW.trod_lt m _ _ _ hm
  obtain ⟨s0, dS0, t0, eT0, SA0, sn0, sc0, ss0, sd0, rfl, hS0, hT0, hK0, hb0, hbt0, hbn0, hbs0⟩ := open_pair (hval 0 38 v0 rfl rfl) h0 lt0
  obtain ⟨a1, len1, cap1, rfl⟩ := okWide_slice Try.underlying36 (hval 1 36 v1 rfl rfl)
  have k1 := h1
  have lt1 : ∀ x ∈ p1, x.block < W.heap.size := by obtain ⟨m, hm⟩ := k1; exact DataW.trod_lt m _ _ _ hm
  obtain ⟨ss1, sd1, hK1⟩ : ∃ (ss : List SC) (sd : List ByteArray), StockAt W a1 len1 ss sd := by
    obtain ⟨fuel, hf⟩ := h1
    exact open_stock hf lt1
  clear hA0 hval0
  refine (walk s0 dS0 t0 eT0 SA0 sn0 sc0 ss0 sd0 a1 len1 cap1 ss1 sd1 W hS0 hT0 hK0 hK1).mono fun e W' ⟨he, bel⟩ => ?_
  subst he
  exact ⟨_, rfl, _, _, _, [], _, [], hW', trodAll_mk1 (shut_bool Try.underlying4 _), (trodAll_cons_mk (Below.trod laidOut (by kernel_rfl) (of_decide_eq_true (by kernel_rfl)) k0 bel lt0) (trodAll_cons_mk (Below.trod laidOut (by kernel_rfl) (of_decide_eq_true (by kernel_rfl)) k1 bel lt1) trodAll_mk0)), rfl, bel.frame _, fun h => by cases h⟩

theorem over : Rows.matchStockUptoRow.holds Try.pinned (Rows.OpenSpec.upto Rows.matchStockSpec) :=
  OpenClaim.holds_of_cond 6 Try.f6 rfl rfl rfl rfl rfl rfl rfl ⟨rfl, rfl, rfl, rfl, rfl⟩ rfl rfl rfl rfl rfl (by kernel_rfl) Try.func6 (by kernel_rfl)
    (of_decide_eq_true (by kernel_rfl)) (by unfold Func.isWrapper; first | (rw [if_pos (by decide +kernel)]; kernel_rfl) | (rw [if_neg (by decide +kernel)]; exact ⟨rfl, rfl⟩))
    (fun os started H enc _ F => lifted os started H enc F)

theorem proved : Rows.MatchStockUptoSaid := over
#print axioms proved
end Go.Proofs.Ytcnpncieibmngaa.matchStockDone
