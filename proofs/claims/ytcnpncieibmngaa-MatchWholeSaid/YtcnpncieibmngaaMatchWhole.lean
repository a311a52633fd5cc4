/- MatchWhole: files that are kept have the same bytes, each is kept once; copies are of files with the same bytes; what is new stands in the stock; a content lacks just where Fresh tells one that the stock has not. For every two trees and stock. -/
import Derived.Test.YtcnpncieibmngaaPairM
import Derived.Test.YtcnpncieibmngaaWholeP
import Derived.Test.YtcnpncieibmngaaFresh
import Derived.ChangeMaps5
import Derived.Deep.DeepCutAuto
namespace Go.Proofs.Ytcnpncieibmngaa.matchWholeDone
open Go.ChangeShapes Go.WideShapes Go.ChangeAt Go.ChangeMaps Go.RowKit Go.Deep

theorem own_nm' {w : World} {base e sz n c : Nat} {A : Option Addr} {L : List Value} (h : w.ownsRow base e sz (.slice A n c) n L) : n ≤ 9223372036854775807 := by
  rcases h.2 with ⟨_, h0⟩ | ⟨g, cap, cur, hv, hg, hh, hnc, hcm, hcs, ht⟩
  · omega
  · unfold maxLen at hcm; omega
theorem ba_b (a b : ByteArray) : (a.toList == b.toList) = true ↔ a = b := by
  rw [beq_iff_eq, ByteArray.toList_eq, ByteArray.toList_eq]
  exact ⟨fun h => ba_ext h, fun h => by rw [h]⟩
theorem ba_nb {a b : ByteArray} (h : ¬ a = b) : (a.toList == b.toList) = false := by
  cases hq : (a.toList == b.toList) with
  | false => rfl
  | true => exact absurd ((ba_b a b).1 hq) h
set_option maxRecDepth 100000 in
set_option maxHeartbeats 8000000 in
theorem walk (s : TV) (ds : List ByteArray) (t : TV) (es : List ByteArray) (SA : Option Addr) (sn sc : Nat) (ss : List SC) (sd : List ByteArray) (w : World) (hs : TreeD w s ds) (ht : TreeD w t es) (hS : StockAt w SA sn ss sd) :
    Calls Try.prog 8 #[pairVal s t SA sn sc] w fun e w' => e = .returned (.bool true) ∧ Below w.heap.size w w' := by
  have hmat := fun W (h1 : TreeD W s ds) (h2 : TreeD W t es) (h3 : StockAt W SA sn ss sd) => match_any s t ds es SA sn sc ss sd W h1 h2 h3
  have hfre := fun W (h1 : TreeD W s ds) (h2 : TreeD W t es) => fresh_any s t ds es W h1 h2
  have hmuch := fun W (h1 : TreeAt W s) (h2 : TreeAt W t) (h3 : StockAt W SA sn ss sd) => much11_any s t SA sn sc ss sd W h1 h2 h3
  have hok := @whole_case s t ds es sd
  have hds : ds.length = s.fn := hs.dat.len.trans hs.tree.fl
  have hes : es.length = t.fn := ht.dat.len.trans ht.tree.fl
  have hfm := ht.tree.fm
  obtain ⟨M, hMe⟩ : ∃ M, matchE s t ds es sd = M := ⟨_, rfl⟩
  obtain ⟨L, hL⟩ : ∃ L, matchL s t ds es sd = L := ⟨_, rfl⟩
  obtain ⟨C, hC⟩ : ∃ C, checksE s t = C := ⟨_, rfl⟩
  obtain ⟨K, hK⟩ : ∃ K, stockE sd = K := ⟨_, rfl⟩
  rw [hMe, hL] at hmat
  rw [hMe, hL, hC, hK] at hok
  rw [hC] at hfre
  have HOk := Lib.hid hok; have HDs := Lib.hid hds; have HEs := Lib.hid hes; have HCk := Lib.hid hK
  have HGs := Lib.hid (show C = 0 → Good s ∧ Good t from fun e => by
    rw [e] at hC
    unfold checksE at hC
    by_cases c : checkE s = 0
    · rw [if_neg (by simp [c])] at hC
      exact ⟨good_of_loose (check_loose c), good_of_loose (check_loose hC)⟩
    · rw [if_pos c] at hC; exact absurd hC c)
  clear hMe hL hok hds hes hC hK
  have HMat := Lib.hid hmat; have HMuch := Lib.hid hmuch; have HFre := Lib.hid hfre
  have HS := Lib.hid hs; have HT := Lib.hid ht; have HK := Lib.hid hS
  clear hmat hmuch hfre hs ht hS
  unfold pairVal at HMuch ⊢
  have hB := Blk.new w 38 #[.slice s.NA s.nn s.nc, .slice s.FA s.fn s.fc, .slice t.NA t.nn t.nc, .slice t.FA t.fn t.fc, .slice SA sn sc]
  have hb := (Below.refl w.heap.size w).alloc (Nat.le_refl _) (.cells #[.slice s.NA s.nn s.nc, .slice s.FA s.fn s.fc, .slice t.NA t.nn t.nc, .slice t.FA t.fn t.fc, .slice SA sn sc] 38)
  unfold TV.val at HMat HFre
  go_enter Try.func8, Try.ntmps8
  go_upto_region 3 with (first | (go_at_call 9; refine (alive11 _).mono ?_; rintro e w1 ⟨rfl, hb1⟩; replace hB := hB.below hb1 hB.lt; replace hb := hb.trans (hb1.mono hb.size); have b0 := hB.cell 0; have b1 := hB.cell 1; have b2 := hB.cell 2; have b3 := hB.cell 3; have b4 := hB.cell 4) | (go_at_call 14; refine (HMuch.out _ (HS.out.tree.keep hb) (HT.out.tree.keep hb) (HK.out.keep hb)).mono ?_; rintro e w2 ⟨x, rfl, hx, hb2⟩; replace hB := hB.below hb2 hB.lt; replace hb := hb.trans (hb2.mono hb.size); clear b0 b1 b2 b3 b4; have b0 := hB.cell 0; have b1 := hB.cell 1; have b2 := hB.cell 2; have b3 := hB.cell 3; have b4 := hB.cell 4))
  cases x with
  | true =>
    go_wp2
    go_ret
    exact ⟨rfl, hb⟩
  | false =>
    clear hx hb1 hb2
    have hBl2 := hB.lt
    go_upto_region 6 with (go_at_call 21; refine (HFre.out _ (HS.out.keep hb) (HT.out.keep hb)).mono ?_; rintro e w3 ⟨fA, fln, fcp, fss, rfl, hFR, hb3⟩)
    have HFR := Lib.hid hFR
    replace hB := hB.below hb3 hBl2
    replace hb := hb.trans (hb3.mono hb.size)
    clear hFR hb3 b0 b1 b2 b3 b4 hBl2
    have hBl3 := hB.lt
    have b0 := hB.cell 0; have b1 := hB.cell 1; have b2 := hB.cell 2; have b3 := hB.cell 3; have b4 := hB.cell 4
    go_upto_region 7 with (go_at_call 12; refine (HMat.out _ (HS.out.keep hb) (HT.out.keep hb) (HK.out.keep hb)).mono ?_; rintro e w4 ⟨A, n, c, rfl, hn, hR, hb4⟩)
    have HFR4 := Lib.hid (HFR.out.below hb4)
    replace hB := hB.below hb4 hBl3
    replace hb := hb.trans (hb4.mono hb.size)
    have HR := Lib.hid hR; have Hn := Lib.hid hn
    clear hb4 hR hn b0 b1 b2 b3 b4 HFR hBl3
    have b0 := hB.cell 0; have b1 := hB.cell 1; have b2 := hB.cell 2; have b3 := hB.cell 3; have b4 := hB.cell 4
    have hBl4 := hB.lt
    by_cases hC0 : C = 0
    case neg =>
      have hne := bne_iff_ne.2 hC0
      have H0 := Lib.hid hC0; clear hC0
      go_wp2_with (go_at_call 13; refine (num11 _ _).mono ?_; rintro e w8 ⟨rfl, hw⟩; rw [hw]; clear hw)
      go_ret
      exact ⟨rfl, hb⟩
    by_cases hK0 : K = 0
    case neg =>
      have hne := bne_iff_ne.2 hK0
      have H0 := Lib.hid hK0; clear hK0
      subst hC0
      go_wp2_with (first | (go_at_call 13; refine (num11 _ _).mono ?_; rintro e w8 ⟨rfl, hw⟩; rw [hw]; clear hw) | (go_at_call 26; refine (rstock_any SA sn sc ss sd _ (HK.out.keep hb)).mono ?_; rintro e w9 ⟨rfl, hb9⟩; rw [HCk.out]))
      go_ret
      exact ⟨rfl, hb.trans (hb9.mono hb.size)⟩
    subst hC0 hK0
    obtain ⟨gs, gt⟩ := HGs.out rfl
    have hsfn := gs.fn; have htfn := gt.fn
    rw [if_pos rfl] at HFR4
    have Gs := Lib.hid gs; have Gt := Lib.hid gt; have HCase := Lib.hid (HOk.out rfl rfl)
    clear gs gt HOk HGs
    obtain ⟨fr, hfr⟩ : ∃ fr, freshL ds es = fr := ⟨_, rfl⟩
    have HFr := Lib.hid hfr
    rw [hfr] at HCase HFR4
    clear hfr
    go_upto_region 9 with (first | (go_at_call 13; refine (num11 _ _).mono ?_; rintro e w8 ⟨rfl, hw⟩; rw [hw]; clear hw) | (go_at_call 26; refine (rstock_any SA sn sc ss sd _ (HK.out.keep hb)).mono ?_; rintro e w9 ⟨rfl, hb9⟩; rw [HCk.out]))
    have HFR9 := Lib.hid (HFR4.out.below hb9)
    have HR9 := Lib.hid (HR.out.below hb9 (Nat.le_refl _))
    have hw49 := hb9.size
    replace hB := hB.below hb9 hBl4
    replace hb := hb.trans (hb9.mono hb.size)
    clear hb9 b0 b1 b2 b3 b4 HFR4 HR hBl4
    have hfln : fln ≤ 9223372036854775807 := own_nm' HFR9.out.own
    have HB := Lib.hid hB; have Hb := Lib.hid hb
    clear hB hb
    go_wp2
    go_loopw [9, 10] (fun v i wr => ∃ k : Nat, k ≤ fln ∧ i = .int .i64 k ∧ v = .bool ((fr.take k).any (lackB sd)) ∧ Below w9.heap.size w9 wr) (fun _ i _ => fln - (intOf i).toNat)
    case atStart => exact ⟨0, Nat.zero_le _, rfl, rfl, Below.refl _ _⟩
    case round =>
      obtain ⟨k, hk, rfl, rfl, hbr⟩ := hrel
      have hB := HB.out.below hbr HB.out.lt
      have hb := Hb.out.trans (hbr.mono Hb.out.size)
      have hBl := hB.lt
      have b4 := hB.cell 4
      by_cases hlt : k < fln
      · have hki : (k : Int) < fln := by omega
        obtain ⟨xb, xo, x, rfl, hxb, hx, hc⟩ := ((Sl.of_own HFR9.out.own).below hbr (Nat.le_refl _)).get SC.len HFR9.out.len hlt
        have c0 := hc 0 _ rfl
        simp only [Nat.add_zero, Nat.mul_one] at c0
        obtain ⟨d, hd⟩ : ∃ d, fr[k]? = some d := ⟨_, List.getElem?_eq_getElem (by rw [HFR9.out.dlen]; exact hlt)⟩
        obtain ⟨g, cap, rfl, _, hcv⟩ := HFR9.out.row k x d hx hd
        have HCv := Lib.hid ((hcv.keep (hbr.block g hcv.lt)).sl)
        have hxw : xb < wr.heap.size := Nat.lt_of_lt_of_le hxb hbr.size
        have HSn := Lib.hid (show (fr.take (k + 1)).any (lackB sd) = ((fr.take k).any (lackB sd) || lackB sd d) by rw [take_snoc' hd, List.any_append]; simp)
        have hld : lackB sd d = decide (findE sd d < 0) := rfl
        obtain ⟨fd, hfd⟩ : ∃ fd, findE sd d = fd := ⟨_, rfl⟩
        rw [hfd] at hld
        have HFd := Lib.hid hfd; have HLd := Lib.hid hld; have Hbr := Lib.hid hbr
        obtain ⟨lk, hlk⟩ : ∃ lk, (fr.take k).any (lackB sd) = lk := ⟨_, rfl⟩
        rw [hlk] at HSn ⊢
        clear hc hx hd hcv hfd hld hlk hbr
        go_upto_region 13 with (fail)
        cases lk
        · refine wp_region_ordB (none) [(0, true), (1, true), (2, true), (3, true), (4, true), (5, true), (6, true), (7, true), (8, false), (9, true), (10, true), (11, true)] (by kernel_rfl) (by kernel_rfl) fun hG0 => ?_
          repeat (first
            | (refine ord_skipB rfl (by rfl) ?_; simp only [Act.put, List.setIfInBounds_toArray, List.set_cons_zero, List.set_cons_succ])
            | (refine ord_qE rfl (by rfl) ?_; apply Exists.intro; refine ⟨fun w' hc' => ?_, ?_⟩; (focus (go_simp; (try go_bits); (try simp only [↓IntWalk.iteOmega]); with_reducible rfl)); simp only [Act.put, List.setIfInBounds_toArray, List.set_cons_zero, List.set_cons_succ]))
          refine ord_eB rfl fun K hK => ?_
          go_wp2_with (go_at_call 27; refine (rfind10_any SA sn sc ss sd _ _ _ d _ (HK.out.keep (hb.trans ((below_grown hG0 (Nat.le_refl _) (fun g e => by cases e)).mono hb.size))) (HCv.out.below (below_grown hG0 (Nat.le_refl _) (fun g e => by cases e)) (Nat.le_refl _)) rfl).mono ?_; rintro e w5 ⟨rfl, hb5⟩; rw [HFd.out])
          have hG1 := grown_trans hG0 (grown_below hb5 (Nat.le_refl _))
          refine hK.out _ _ hG1 ?_
          clear hK K
          repeat (first
            | (refine ord_skipB rfl (by rfl) ?_; simp only [Act.put, List.setIfInBounds_toArray, List.set_cons_zero, List.set_cons_succ])
            | (refine ord_qE rfl (by rfl) ?_; apply Exists.intro; refine ⟨fun w' hc' => ?_, ?_⟩; (focus (go_simp; (try go_bits); (try simp only [↓IntWalk.iteOmega]); with_reducible rfl)); simp only [Act.put, List.setIfInBounds_toArray, List.set_cons_zero, List.set_cons_succ]))
          refine ord_end ?_
          have hb6 := Hbr.out.trans ((below_grown hG1 (Nat.le_refl _) (fun g e => by cases e)).mono Hbr.out.size)
          clear hG0 hG1 hb5 b4 c0
          go_wp2
          go_roundw
          case rel => exact ⟨k + 1, by omega, by go_num, by rw [HSn.out, HLd.out]; rfl, hb6⟩
          case measure => simp [intOf]; omega
        · refine wp_region_ordB (none) [(0, true), (1, true), (2, true), (3, true), (4, true), (5, true), (6, true), (7, true), (8, false), (9, true), (10, true), (11, true)] (by kernel_rfl) (by kernel_rfl) fun hG0 => ?_
          repeat (first
            | (refine ord_skipB rfl (by rfl) ?_; simp only [Act.put, List.setIfInBounds_toArray, List.set_cons_zero, List.set_cons_succ])
            | (refine ord_qE rfl (by rfl) ?_; apply Exists.intro; refine ⟨fun w' hc' => ?_, ?_⟩; (focus (go_simp; (try go_bits); (try simp only [↓IntWalk.iteOmega]); with_reducible rfl)); simp only [Act.put, List.setIfInBounds_toArray, List.set_cons_zero, List.set_cons_succ]))
          refine ord_eB rfl fun K hK => ?_
          go_wp2_with (fail)
          have hG1 := grown_trans hG0 (World.grownBy.refl _ _)
          refine hK.out _ _ hG1 ?_
          clear hK K
          repeat (first
            | (refine ord_skipB rfl (by rfl) ?_; simp only [Act.put, List.setIfInBounds_toArray, List.set_cons_zero, List.set_cons_succ])
            | (refine ord_qE rfl (by rfl) ?_; apply Exists.intro; refine ⟨fun w' hc' => ?_, ?_⟩; (focus (go_simp; (try go_bits); (try simp only [↓IntWalk.iteOmega]); with_reducible rfl)); simp only [Act.put, List.setIfInBounds_toArray, List.set_cons_zero, List.set_cons_succ]))
          refine ord_end ?_
          have hb6 := Hbr.out.drew
          clear hG0 b4 c0
          go_wp2
          go_roundw
          case rel => exact ⟨k + 1, by omega, by go_num, by rw [HSn.out]; rfl, hb6⟩
          case measure => simp [intOf]; omega
      · obtain rfl : k = fln := by omega
        have hki : ¬ (k : Int) < k := by omega
        rw [List.take_of_length_le (by rw [HFR9.out.dlen]; exact Nat.le_refl _)]
        rcases HCase.out with ⟨h1, h2⟩ | ⟨h1, h2, h3⟩
        · rw [h1]
          subst h2
          clear h1
          go_wp2_with (go_at_call 13; refine (num11 _ _).mono ?_; rintro e w8 ⟨rfl, hw⟩; rw [hw]; clear hw)
          go_ret
          exact ⟨rfl, hb⟩
        rw [h1]
        subst h2
        have HD := Lib.hid h3
        clear h1 h3 HCase
        have hol := HD.out.len
        obtain rfl : n = t.fn := by rw [← Hn.out, hol, HEs.out]
        have b1 := hB.cell 1; have b3 := hB.cell 3
        have hbs := hb.size
        have HRr := Lib.hid (HR9.out.below hbr hw49)
        have hw9r := hbr.size
        clear hol hbr
        go_upto_region 17 with (first | (go_at_call 13; refine (num11 _ _).mono ?_; rintro e w8 ⟨rfl, hw⟩; rw [hw]; clear hw) | (refine wpList_make_zero rfl _ _ rfl Try.underlying62 (z := .bool false) (sz := 1) (by_ := 1) (by kernel_rfl) rfl (by omega) boolL false rfl (n := s.fn) rfl rfl (by omega) (by unfold maxLen; omega) (Nat.le_refl _) ?_; intro w5 ho5 hg5))
        obtain ⟨W0, rfl⟩ : ∃ W0 : World, W0 = wr := ⟨_, rfl⟩
        have hub : Below W0.heap.size W0 w5 := below_grown hg5 (Nat.le_refl _) (fun g e => by cases e)
        have hur : w5.ownsRow W0.heap.size 4 1 (.slice (some ⟨W0.heap.size, 0, none⟩) s.fn s.fn) s.fn ((usedL L 0 s.fn).flatMap boolL) := by
          have e : usedL L 0 s.fn = List.replicate s.fn false := by
            unfold usedL
            apply List.ext_getElem?
            intro j
            by_cases h : j < s.fn
            · simp [h, usedB_0]
            · simp [h]
          rw [e]; exact ho5
        have HU := Lib.hid hur; have HUb := Lib.hid hub
        obtain ⟨ug, hug⟩ : ∃ ug, W0.heap.size = ug := ⟨_, rfl⟩
        rw [hug] at HU HUb hbs hBl ⊢
        have HUg := Lib.hid hug
        have HB0 := Lib.hid hB; have Hb0 := Lib.hid hb
        clear hur hub ho5 hg5 hug hB hb b1 b3 b4
        go_wp2
        go_loopw [12, 13] (fun nv v wr => ∃ i : Nat, i ≤ t.fn ∧ v = .int .i64 i ∧ nv = .int .i64 (newN L i : Nat) ∧ wr.ownsRow ug 4 1 (.slice (some ⟨ug, 0, none⟩) s.fn s.fn) s.fn ((usedL L i s.fn).flatMap boolL) ∧ Below ug W0 wr) (fun _ v _ => t.fn - (intOf v).toNat)
        case atStart => exact ⟨0, Nat.zero_le _, rfl, rfl, HU.out, HUb.out⟩
        case round =>
          clear HU HUb
          obtain ⟨i, hi, rfl, rfl, hu, hbr⟩ := hrel
          have hnw := newN_le L i
          have hbr' : Below W0.heap.size W0 wr := by rw [HUg.out]; exact hbr
          have hb := Hb0.out.trans (hbr'.mono Hb0.out.size)
          have hB := HB0.out.below hbr' HB0.out.lt
          have HU := Lib.hid hu; have Hbr := Lib.hid hbr; have Hbr' := Lib.hid hbr'
          have b0 := hB.cell 0; have b1 := hB.cell 1; have b2 := hB.cell 2; have b3 := hB.cell 3; have b4 := hB.cell 4
          clear hu hbr
          by_cases hlt : i < t.fn
          case neg =>
            obtain rfl : i = t.fn := by omega
            have hki : ¬ ((t.fn : Nat) : Int) < t.fn := by omega
            have HF := Lib.hid (show newN L t.fn = k by rw [← HEs.out, newN_all HD.out, HFr.out, HFR9.out.dlen])
            rw [HF.out]
            clear b0 b1 b2 b3 b4
            go_wp2
            go_ret
            exact ⟨rfl, hb⟩
          have hki : (i : Int) < t.fn := by omega
          have hil : i < es.length := by rw [HEs.out]; exact hlt
          have hLl : L.length = t.fn := HD.out.len.trans HEs.out
          obtain ⟨rb, ro, x, rfl, hrb, hx, hrc⟩ := (HRr.out.below hbr' (Nat.le_trans hw49 hw9r)).get Src.len hLl hlt
          have hrw : rb < wr.heap.size := Nat.lt_of_lt_of_le hrb (Nat.le_trans (Nat.le_trans hw49 hw9r) hbr'.size)
          have hTr := HT.out.keep hb
          obtain ⟨tb, to_, fx, htA, htb, hfx, htc⟩ := hTr.tree.fs.get FC.len hTr.tree.fl hlt
          have hSr := HS.out.keep hb
          rw [htA] at b3
          obtain ⟨d, hd, hdn, hds⟩ := hTr.dat.get hfx
          have t1 := htc 1 _ rfl
          have kd := run_conv (c := fx.c) hds hdn
          have hne : (d.toList != d.toList) = false := by simp
          have htw : tb < wr.heap.size := htb
          have HX := Lib.hid hx; have HDd := Lib.hid hd
          have HtA := Lib.hid htA; have HdS := Lib.hid hds; have HdN := Lib.hid hdn
          clear hfx htc hd hdn hds htA
          rcases HD.out.done i hil hil with ⟨g, e1, e2⟩ | ⟨q, e1, e2, e3, e4⟩ | ⟨q, b', e1, e2, e3, e4⟩
          · obtain rfl : x = keepS g := by rw [HX.out] at e1; injection e1
            rw [HDd.out] at e2
            have hgs : g < s.fn := by rw [← HDs.out]; exact (List.getElem?_eq_some_iff.1 e2).1
            have hg1 : (g : Int) < s.fn := by omega
            have hg2 : ¬ (s.fn : Int) ≤ g := by omega
            have hg3 : ¬ (g : Int) < 0 := by omega
            have hg4 : (0 : Int) ≤ g := by omega
            have r0 : wr.cell? ⟨rb, ro + i * 3, none⟩ = some (.int .i64 1) := hrc 0 (.int .i64 1) rfl
            have r1 : wr.cell? ⟨rb, ro + i * 3 + 1, none⟩ = some (.int .i64 g) := hrc 1 (.int .i64 g) rfl
            have r2 : wr.cell? ⟨rb, ro + i * 3 + 2, none⟩ = some (.int .i64 0) := hrc 2 (.int .i64 0) rfl
            obtain ⟨sb, so, fy, hsA, hsb, hfy, hsc⟩ := hSr.tree.fs.get FC.len hSr.tree.fl hgs
            rw [hsA] at b1
            obtain ⟨d2, hd2, hdn2, hds2⟩ := hSr.dat.get hfy
            obtain rfl : d2 = d := by rw [e2] at hd2; injection hd2 with h; exact h.symm
            have s1 := hsc 1 _ rfl
            have k2 := run_conv (c := fy.c) hds2 hdn2
            have u0 := (own_row HU.out).1 (g * 1 + 0) _ (flat_get (f := boolL) (sz := 1) (fun _ => rfl) (usedL_get (o := L) (i := i) hgs) (j := 0) (by omega))
            rw [used_no HD.out e1] at u0
            simp only [Nat.zero_add, Nat.mul_one, Nat.add_zero] at u0
            obtain ⟨cur, hBc⟩ := own_cur HU.out
            have uf := hBc.frozen g
            have hul := hBc.lt
            have HSet := Lib.hid (usedL_set (m := s.fn) e1)
            have hka : ¬ kindAt L i = 3 := by rw [kind_some e1]; show ¬ (1 : Int) = 3; decide
            have HNn := Lib.hid (show newN L (i + 1) = newN L i by rw [newN_succ, if_neg hka]; rfl)
            have HG := Lib.hid hgs
            clear e1 e2 hrc hfy hsc hd2 hdn2 hds2 hsA hgs hka hBc
            go_wp2
            go_roundw
            case rel =>
              refine ⟨i + 1, by omega, by go_num, by rw [HNn.out], ?_, Hbr.out.setCell (p := ⟨ug, g, none⟩) (Nat.le_refl _) _⟩
              have h := setc_own (i := g * 1 + 0) HU.out (.bool true)
              rw [flat_setj (f := boolL) (sz := 1) (fun _ => rfl) (usedL_get (o := L) (i := i) HG.out) (j := 0) (x' := true) (by omega) rfl, HSet.out] at h
              simp only [Nat.mul_one, Nat.add_zero] at h
              exact h
            case measure => simp [intOf]; omega
          · obtain rfl : x = copyS q := by rw [HX.out] at e1; injection e1
            rw [HDd.out] at e2
            have hqe : q < es.length := (List.getElem?_eq_some_iff.1 e2).1
            have hqt : q < t.fn := by rw [← HEs.out]; exact hqe
            have hg1 : (q : Int) < t.fn := by omega
            have hg2 : ¬ (t.fn : Int) ≤ q := by omega
            have hg3 : ¬ (q : Int) < 0 := by omega
            have hg4 : (0 : Int) ≤ q := by omega
            have hg5 : ((q : Int) == (i : Int)) = false := beq_eq_false_iff_ne.2 (by omega)
            have hg6 : (q == i) = false := beq_eq_false_iff_ne.2 e3
            have r0 : wr.cell? ⟨rb, ro + i * 3, none⟩ = some (.int .i64 2) := hrc 0 (.int .i64 2) rfl
            have r1 : wr.cell? ⟨rb, ro + i * 3 + 1, none⟩ = some (.int .i64 q) := hrc 1 (.int .i64 q) rfl
            have r2 : wr.cell? ⟨rb, ro + i * 3 + 2, none⟩ = some (.int .i64 0) := hrc 2 (.int .i64 0) rfl
            obtain ⟨rb2, ro2, y, he2, _, hy, hyc⟩ := (HRr.out.below hbr' (Nat.le_trans hw49 hw9r)).get Src.len hLl hqt
            injection he2 with he2
            injection he2 with hr1 hr2
            subst hr1 hr2
            have q0 : wr.cell? ⟨rb, ro + q * 3, none⟩ = some (.int .i64 y.kind) := hyc 0 (.int .i64 y.kind) rfl
            have hyk : (y.kind == 2) = false := by
              rw [kind_some hy] at e4
              rw [beq_eq_false_iff_ne]
              rcases e4 with h | ⟨h, _⟩ <;> rw [h] <;> decide
            obtain ⟨tb2, to2, fy, htA2, _, hfy, hsc⟩ := hTr.tree.fs.get FC.len hTr.tree.fl hqt
            rw [HtA.out] at htA2
            injection htA2 with htA2
            injection htA2 with ht1 ht2
            subst ht1 ht2
            obtain ⟨d2, hd2, hdn2, hds2⟩ := hTr.dat.get hfy
            obtain rfl : d2 = d := by rw [e2] at hd2; injection hd2 with h; exact h.symm
            have s1 := hsc 1 _ rfl
            have k2 := run_conv (c := fy.c) hds2 hdn2
            have hka : ¬ kindAt L i = 3 := by rw [kind_some e1]; show ¬ (2 : Int) = 3; decide
            have HNn := Lib.hid (show newN L (i + 1) = newN L i by rw [newN_succ, if_neg hka]; rfl)
            have HUs := Lib.hid (usedL_same (m := s.fn) e1 (by show ¬ (2 : Int) = 1; decide))
            clear e1 e2 e3 e4 hrc hfy hsc hd2 hdn2 hds2 hka hy hyc hqe
            go_wp2
            go_roundw
            case rel => exact ⟨i + 1, by omega, by go_num, by rw [HNn.out], by rw [HUs.out]; exact HU.out, Hbr.out⟩
            case measure => simp [intOf]; omega
          · obtain rfl : x = newS q := by rw [HX.out] at e1; injection e1
            obtain rfl : d = b' := by rw [HDd.out] at e2; injection e2
            obtain ⟨hq1, hq2, _⟩ := find_range_some e3
            have hq2' := of_decide_eq_true hq2
            have hKr := HK.out.keep hb
            have hqs : q < sn := by rw [← hKr.dlen]; exact hq1
            have hg1 : (q : Int) < sn := by omega
            have hg2 : ¬ (sn : Int) ≤ q := by omega
            have hg3 : ¬ (q : Int) < 0 := by omega
            have hg4 : (0 : Int) ≤ q := by omega
            have r0 : wr.cell? ⟨rb, ro + i * 3, none⟩ = some (.int .i64 3) := hrc 0 (.int .i64 3) rfl
            have r1 : wr.cell? ⟨rb, ro + i * 3 + 1, none⟩ = some (.int .i64 0) := hrc 1 (.int .i64 0) rfl
            have r2 : wr.cell? ⟨rb, ro + i * 3 + 2, none⟩ = some (.int .i64 q) := hrc 2 (.int .i64 q) rfl
            obtain ⟨kb, ko, z, hSA, hkb, hz, hzc⟩ := hKr.sl.get SC.len hKr.len hqs
            have z0 := hzc 0 _ rfl
            simp only [Nat.add_zero, Nat.mul_one] at z0
            obtain ⟨hzn, hzs⟩ := hKr.dat q z d hz hq2'
            rw [hSA] at b4
            obtain ⟨b0', hb0', hno, _⟩ := e4
            rw [HDd.out] at hb0'
            injection hb0' with hb0'
            subst hb0'
            have hka : kindAt L i = 3 := by rw [kind_some e1]; rfl
            have HNn := Lib.hid (show newN L (i + 1) = newN L i + 1 by rw [newN_succ, if_pos hka])
            have HUs := Lib.hid (usedL_same (m := s.fn) e1 (by show ¬ (3 : Int) = 1; decide))
            have HNo := Lib.hid hno; have SZ := Lib.hid hzs; have NZ := Lib.hid hzn
            have hsw := Nat.le_refl wr.heap.size
            have hBlr := hB.lt
            clear e1 e2 e3 hrc hz hzc hzn hzs hq1 hq2 hq2' hka hno hKr hSA
            go_upto_region 34 with (fail)
            refine wp_region_ordB (none) [(0, true), (1, true), (2, true), (3, true), (4, true), (5, true), (6, true), (7, true), (8, true), (9, true), (10, true), (11, true), (12, true), (13, true), (14, true), (15, true), (16, true), (17, true), (18, true), (19, true), (20, true), (21, true), (22, true), (23, true), (24, true), (25, true), (26, true), (27, true), (28, true), (29, true), (30, true), (31, true), (32, true), (33, true), (34, true), (35, true), (36, true), (37, true), (38, true)] (by kernel_rfl) (by kernel_rfl) fun hG0 => ?_
            repeat (first
              | (refine ord_skipB rfl (by rfl) ?_; simp only [Act.put, List.setIfInBounds_toArray, List.set_cons_zero, List.set_cons_succ])
              | (refine ord_qH rfl (by rfl) (fun w' hh => exec_conv rfl rfl (SZ.out.held hsw rfl hh) NZ.out) ?_; simp only [Act.put, List.setIfInBounds_toArray, List.set_cons_zero, List.set_cons_succ])
              | (refine ord_qE rfl (by rfl) ?_; apply Exists.intro; refine ⟨fun w' hc' => ?_, ?_⟩; (focus (go_simp; (try go_bits); (try simp only [↓IntWalk.iteOmega]); with_reducible rfl)); simp only [Act.put, List.setIfInBounds_toArray, List.set_cons_zero, List.set_cons_succ]))
            refine ord_end ?_
            clear z0 r0 r1 r2 t1 kd b0 b1 b2 b3 b4 hG0 hg1 hg2 hg3 hg4 hne
            obtain ⟨W, hW⟩ : ∃ W : World, wr.drew = W := ⟨_, rfl⟩
            have hbw : Below ug W0 W := by rw [← hW]; exact Hbr.out.drew
            have huw : W.ownsRow ug 4 1 (.slice (some ⟨ug, 0, none⟩) s.fn s.fn) s.fn ((usedL L i s.fn).flatMap boolL) := by rw [← hW]; exact own_drew HU.out
            have hbW := hb.trans ((show Below wr.heap.size wr W by rw [← hW]; exact (Below.refl _ _).drew).mono hb.size)
            have hBW := HB0.out.below (show Below W0.heap.size W0 W by rw [HUg.out]; exact hbw) HB0.out.lt
            rw [hW]
            have HUW := Lib.hid huw; have HbW := Lib.hid hbw
            clear hW hbw huw HU Hbr hB hbr' Hbr'
            have b1 := hBW.cell 1
            go_wp2
            go_loop [17] (fun v => ∃ g : Nat, g ≤ s.fn ∧ v = .int .i64 g) (fun v => s.fn - (intOf v).toNat)
            case atStart => exact ⟨0, Nat.zero_le _, rfl⟩
            case round =>
              clear b1
              obtain ⟨g, hg, rfl⟩ := hrel
              have b1 := hBW.cell 1
              by_cases hgs : g < s.fn
              · have hgi : (g : Int) < s.fn := by omega
                have hSr2 := HS.out.keep hbW
                obtain ⟨sb, so, fy, hsA, hsb, hfy, hsc⟩ := hSr2.tree.fs.get FC.len hSr2.tree.fl hgs
                rw [hsA] at b1
                obtain ⟨d2, hd2, hdn2, hds2⟩ := hSr2.dat.get hfy
                have s1 := hsc 1 _ rfl
                have k2 := run_conv (c := fy.c) hds2 hdn2
                have hnd := ba_nb (fun e : d2 = d => HNo.out (by rw [← e]; exact List.mem_of_getElem? hd2))
                clear hfy hsc hd2 hdn2 hds2 hsA hSr2
                go_wp2
                go_round
                case rel => exact ⟨g + 1, by omega, by go_num⟩
                case measure => simp [intOf]; omega
              · have hgi : ¬ (g : Int) < s.fn := by omega
                go_wp2
                go_roundw
                case rel => exact ⟨i + 1, by omega, by go_num, by rw [HNn.out]; go_num, by rw [HUs.out]; exact HUW.out, HbW.out⟩
                case measure => simp [intOf]; omega

set_option maxRecDepth 100000 in
theorem lifted (os : Os) (started : os.Started) (H : Type) (enc : TypeId × Value → H) :
    ReturnsInHanded {} Try.checked os 8 .any (Rows.matchWholeSpec.pre6 enc Try.prog Try.f8 Rows.matchWholeRow.domain false) (Rows.matchWholeSpec.post enc Try.prog Try.f8 false true false false) := by
  refine returnsInHanded_of_change (C := Try.checked) own started (by kernel_rfl) Try.func8
    (ChangeSpec.witness6 (enc := enc) (C := Try.checked) false ⟨#[], #[.agg #[.slice none 0 0, .slice none 0 0, .slice none 0 0, .slice none 0 0, .slice none 0 0]], []⟩ 8 (by kernel_rfl) (by kernel_rfl) (by kernel_rfl) (by kernel_rfl)) ?_
  intro W base args ds gs before hval0 hW hcnd _
  have hval : ∀ (j : Nat) t v, Try.f8.params[j]? = some t → args[j]? = some v → Value.okWide Try.prog W .any base t v := hval0
  have hW' := hW
  obtain ⟨p, q, hA0, hV, rfl, hfz, hnd⟩ := hW
  have hA : DataW.TrodAll enc Try.prog W 0 (fun _ => true) true Try.f8.params.toList args.toList ds p := hA0
  rw [Try.params8] at hA hval
  obtain ⟨v0, vs0, d0, ds0, p0, q0, hargs, rfl, rfl, h0, r0⟩ := trodAll_cons hA
  obtain ⟨rfl, rfl, rfl⟩ := trodAll_nil r0
  obtain rfl : args = #[v0] := by cases args; simp_all
  obtain ⟨rfl, rfl⟩ := trodVars_none hV
  have k0 := h0
  have lt0 : ∀ x ∈ p0, x.block < W.heap.size := by obtain ⟨m, hm⟩ := k0; exact DataW.trod_lt m _ _ _ hm
  obtain ⟨s0, dS0, t0, eT0, SA0, sn0, sc0, ss0, sd0, rfl, hS0, hT0, hK0, hb0, hbt0, hbn0, hbs0⟩ := open_pair (hval 0 38 v0 rfl rfl) h0 lt0
  clear hA0 hval0
  refine (walk s0 dS0 t0 eT0 SA0 sn0 sc0 ss0 sd0 W hS0 hT0 hK0).mono fun e W' ⟨he, bel⟩ => ?_
  subst he
  exact ⟨_, rfl, _, _, _, [], _, [], hW', trodAll_mk1 (shut_bool Try.underlying4 _), (trodAll_cons_mk (Below.trod laidOut (by kernel_rfl) (of_decide_eq_true (by kernel_rfl)) k0 bel lt0) trodAll_mk0), rfl, bel.frame _, fun h => by cases h⟩

theorem over : Rows.matchWholeRow.holds Try.pinned (OpenSpec.ofChange Rows.matchWholeSpec) :=
  OpenClaim.holds_of_wide 8 Try.f8 rfl rfl rfl rfl rfl rfl rfl ⟨rfl, rfl, rfl, rfl, rfl⟩ rfl rfl rfl rfl rfl (by kernel_rfl) Try.func8 (by kernel_rfl)
    (of_decide_eq_true (by kernel_rfl)) (by unfold Func.isWrapper; first | (rw [if_pos (by decide +kernel)]; kernel_rfl) | (rw [if_neg (by decide +kernel)]; exact ⟨rfl, rfl⟩))
    (fun os started H enc _ => lifted os started H enc)

theorem proved : Rows.MatchWholeSaid := over
#print axioms proved
end Go.Proofs.Ytcnpncieibmngaa.matchWholeDone
