/- MatchStays: a file whose names and bytes are the same in both trees is kept as itself. For every two trees and stock. -/
import Derived.Test.YtcnpncieibmngaaPairM
import Derived.Test.YtcnpncieibmngaaMatchL
import Derived.Test.YtcnpncieibmngaaNamesR
import Derived.BigRegion
import Derived.ChangeMaps5
import Derived.Deep.DeepCutAuto
namespace Go.Proofs.Ytcnpncieibmngaa.matchStaysDone
open Go.ChangeShapes Go.WideShapes Go.ChangeAt Go.ChangeMaps Go.RowKit Go.Deep

/-- What a match that was not refused says. -/
theorem match_ok {s t : TV} {ds es sd : List ByteArray} (h0 : matchE s t ds es sd = 0) : checkE s = 0 ∧ checkE t = 0 ∧ stockE sd = 0 ∧ ∃ o, upto3 s.nodes t.nodes ds es sd es.length = some o ∧ matchL s t ds es sd = o := by
  unfold matchE at h0
  by_cases c1 : checkE s = 0
  case neg => rw [if_pos c1] at h0; exact absurd h0 c1
  by_cases c2 : checkE t = 0
  case neg => rw [if_neg (by simp [c1]), if_pos c2] at h0; exact absurd h0 c2
  by_cases c3 : stockE sd = 0
  case neg => rw [if_neg (by simp [c1]), if_neg (by simp [c2]), if_pos c3] at h0; exact absurd h0 c3
  rw [if_neg (by simp [c1]), if_neg (by simp [c2]), if_neg (by simp [c3])] at h0
  unfold matchL
  rw [if_neg (by simp [c1]), if_neg (by simp [c2]), if_neg (by simp [c3])]
  cases hu : upto3 s.nodes t.nodes ds es sd es.length with
  | none => rw [hu] at h0; cases h0
  | some o => exact ⟨c1, c2, c3, o, rfl, rfl⟩
theorem ba_b (a b : ByteArray) : (a.toList == b.toList) = true ↔ a = b := by
  rw [beq_iff_eq, ByteArray.toList_eq, ByteArray.toList_eq]
  exact ⟨fun h => ba_ext h, fun h => by rw [h]⟩
theorem ba_nb {a b : ByteArray} (h : ¬ a = b) : (a.toList == b.toList) = false := by
  cases hq : (a.toList == b.toList) with
  | false => rfl
  | true => exact absurd ((ba_b a b).1 hq) h
theorem picks_names (l : List Node) (f : Nat) : picks (namesF f) l = namesP l f := rfl
set_option maxRecDepth 100000 in
set_option maxHeartbeats 8000000 in
theorem walk (s : TV) (ds : List ByteArray) (t : TV) (es : List ByteArray) (SA : Option Addr) (sn sc : Nat) (ss : List SC) (sd : List ByteArray) (w : World) (hs : TreeD w s ds) (ht : TreeD w t es) (hS : StockAt w SA sn ss sd) :
    Calls Try.prog 4 #[pairVal s t SA sn sc] w fun e w' => e = .returned (.bool true) ∧ Below w.heap.size w w' := by
  have hmat := fun W (h1 : TreeD W s ds) (h2 : TreeD W t es) (h3 : StockAt W SA sn ss sd) => match_any s t ds es SA sn sc ss sd W h1 h2 h3
  have hmuch := fun W (h1 : TreeAt W s) (h2 : TreeAt W t) (h3 : StockAt W SA sn ss sd) => much11_any s t SA sn sc ss sd W h1 h2 h3
  have hok := @match_ok s t ds es sd
  have hds : ds.length = s.fn := hs.dat.len.trans hs.tree.fl
  have hes : es.length = t.fn := ht.dat.len.trans ht.tree.fl
  have hfm := ht.tree.fm
  obtain ⟨M, hMe⟩ : ∃ M, matchE s t ds es sd = M := ⟨_, rfl⟩
  obtain ⟨L, hL⟩ : ∃ L, matchL s t ds es sd = L := ⟨_, rfl⟩
  rw [hMe, hL] at hmat
  rw [hMe, hL] at hok
  have HOk := Lib.hid hok; have HDs := Lib.hid hds; have HEs := Lib.hid hes
  clear hMe hL hok hds hes
  have HMat := Lib.hid hmat; have HMuch := Lib.hid hmuch
  have HS := Lib.hid hs; have HT := Lib.hid ht; have HK := Lib.hid hS
  clear hmat hmuch hs ht hS
  unfold pairVal at HMuch ⊢
  have hB := Blk.new w 38 #[.slice s.NA s.nn s.nc, .slice s.FA s.fn s.fc, .slice t.NA t.nn t.nc, .slice t.FA t.fn t.fc, .slice SA sn sc]
  have hb := (Below.refl w.heap.size w).alloc (Nat.le_refl _) (.cells #[.slice s.NA s.nn s.nc, .slice s.FA s.fn s.fc, .slice t.NA t.nn t.nc, .slice t.FA t.fn t.fc, .slice SA sn sc] 38)
  unfold TV.val at HMat
  go_enter Try.func4, Try.ntmps4
  go_upto_region 3 with (first | (go_at_call 9; refine (alive11 _).mono ?_; rintro e w1 ⟨rfl, hb1⟩; replace hB := hB.below hb1 hB.lt; replace hb := hb.trans (hb1.mono hb.size); have b0 := hB.cell 0; have b1 := hB.cell 1; have b2 := hB.cell 2; have b3 := hB.cell 3; have b4 := hB.cell 4) | (go_at_call 14; refine (HMuch.out _ (HS.out.tree.keep hb) (HT.out.tree.keep hb) (HK.out.keep hb)).mono ?_; rintro e w2 ⟨x, rfl, hx, hb2⟩; replace hB := hB.below hb2 hB.lt; replace hb := hb.trans (hb2.mono hb.size); clear b0 b1 b2 b3 b4; have b0 := hB.cell 0; have b1 := hB.cell 1; have b2 := hB.cell 2; have b3 := hB.cell 3; have b4 := hB.cell 4))
  cases x with
  | true =>
    go_wp2
    go_ret
    exact ⟨rfl, hb⟩
  | false =>
    clear hx hb1 hb2
    go_upto_region 6 with (go_at_call 12; refine (HMat.out _ (HS.out.keep hb) (HT.out.keep hb) (HK.out.keep hb)).mono ?_; rintro e w4 ⟨A, n, c, rfl, hn, hR, hb4⟩; replace hB := hB.below hb4 hB.lt; replace hb := hb.trans (hb4.mono hb.size))
    clear b0 b1 b2 b3 b4
    by_cases hM0 : M = 0
    case neg =>
      have hne := bne_iff_ne.2 hM0
      have H0 := Lib.hid hM0; clear hM0
      go_wp2_with (go_at_call 13; refine (num11 _ _).mono ?_; rintro e w8 ⟨rfl, hw⟩; rw [hw]; clear hw)
      go_ret
      exact ⟨rfl, hb⟩
    obtain ⟨c1, c2, c3, o, hup, hLo⟩ := HOk.out hM0
    subst hM0
    have gs := good_of_loose (check_loose c1)
    have gt := good_of_loose (check_loose c2)
    have hfn := gs.fn; have htn := gt.fn; have hnn := gs.nn; have htnn := gt.nn
    have hol := upto3_len _ _ _ _ _ _ _ hup
    rw [hLo] at hn hR
    obtain rfl : n = t.fn := by rw [← hn, hol, HEs.out]
    have hlaw := fun (f g : Nat) (hf : f < t.fn) (h1 : namesP s.nodes g = namesP t.nodes f) (h2 : ds[g]? = es[f]?) => stays_law gs.rises gt.rises (by rw [HEs.out]; exact hf) (names_ne gt hf) h1 h2 hup
    have Hlaw := Lib.hid hlaw; have Gs := Lib.hid gs; have Gt := Lib.hid gt; have HR := Lib.hid hR; have Hn := Lib.hid hn
    have hw4 : w4.heap.size ≤ w4.heap.size := Nat.le_refl _
    have HB := Lib.hid hB; have Hb := Lib.hid hb
    clear hlaw gs gt hR hn c1 c2 c3 hup hLo hol HOk HMat HMuch hB hb hb4
    go_wp2_with (go_at_call 13; refine (num11 _ _).mono ?_; rintro e w8 ⟨rfl, hw⟩; rw [hw]; clear hw)
    go_loopw [7] (fun v wr => ∃ k : Nat, k ≤ t.fn ∧ v = .int .i64 k ∧ Below w4.heap.size w4 wr) (fun v _ => t.fn - (intOf v).toNat)
    case atStart => exact ⟨0, Nat.zero_le _, rfl, Below.refl _ _⟩
    case round =>
      obtain ⟨k, hk, rfl, hbr⟩ := hrel
      have hB := HB.out.below hbr HB.out.lt
      have hb := Hb.out.trans (hbr.mono Hb.out.size)
      have b0 := hB.cell 0; have b1 := hB.cell 1; have b2 := hB.cell 2; have b3 := hB.cell 3
      by_cases hlt : k < t.fn
      case neg =>
        obtain rfl : k = t.fn := by omega
        have hki : ¬ ((t.fn : Nat) : Int) < t.fn := by omega
        go_wp2
        go_ret
        exact ⟨rfl, hb⟩
      have hki : (k : Int) < t.fn := by omega
      have hN1 := fun W (h : TreeAt W t) => rnames6_any t k W h (by omega)
      rw [picks_names] at hN1
      have hN1ne := names_ne Gt.out hlt
      obtain ⟨ps, hps⟩ : ∃ ps, namesP t.nodes k = ps := ⟨_, rfl⟩
      rw [hps] at hN1 hN1ne
      obtain ⟨p, pr, rfl⟩ := List.exists_cons_of_ne_nil hN1ne
      have HN1 := Lib.hid hN1; have Hps := Lib.hid hps; have Hbr := Lib.hid hbr
      unfold TV.val at HN1
      clear hN1 hps hN1ne hbr
      go_upto_region 12 with (go_at_call 15; refine (HN1.out _ (HT.out.tree.keep hb)).mono ?_; rintro e w5 ⟨A5, n5, c5, rfl, hn5, hS5, hb5⟩)
      have hB5 := hB.below hb5 hB.lt
      have hb5' := hb.trans (hb5.mono hb.size)
      clear b0 b1 b2 b3
      have b0 := hB5.cell 0; have b1 := hB5.cell 1; have b2 := hB5.cell 2; have b3 := hB5.cell 3
      have hn5p : 0 < n5 := by rw [← hn5]; simp
      have HS5 := Lib.hid hS5; have Hn5 := Lib.hid hn5
      obtain ⟨q, qo, x, rfl, hql, hx, hc⟩ := hS5.get strOf_len hn5 hn5p
      simp only [List.getElem?_cons_zero, Option.some.injEq] at hx
      subst hx
      have p0 := hc 0 _ rfl
      simp only [Nat.add_zero, Nat.zero_mul] at p0
      have hn5i : (0 : Int) < n5 := by omega
      have hf := fun W (h : TreeAt W s) => rfind_any s p W h
      unfold TV.val at hf
      have hspec := findFrom_spec p s.nodes 0
      obtain ⟨K, hK⟩ : ∃ K, findI s.nodes p = K := ⟨_, rfl⟩
      rw [hK] at hf
      rw [show findFrom p s.nodes 0 = K from hK] at hspec
      have HF := Lib.hid hf; have Hspec := Lib.hid hspec
      have hBl := hB5.lt
      have HB5 := Lib.hid hB5; have Hb5 := Lib.hid hb5'
      have Hb5b := Lib.hid hb5
      clear hf hspec hK hc hS5 hn5 hB5 hb5' hB hb hb5
      go_upto_region 12 with (fail)
      refine wp_region_ordB (none) [(0, true), (1, true), (2, true), (3, true), (4, true), (5, false), (6, true)] (by kernel_rfl) (by kernel_rfl) fun hG0 => ?_
      repeat (first
        | (refine ord_skipB rfl (by rfl) ?_; simp only [Act.put, List.setIfInBounds_toArray, List.set_cons_zero, List.set_cons_succ])
        | (refine ord_qE rfl (by rfl) ?_; apply Exists.intro; refine ⟨fun w' hc' => ?_, ?_⟩; (focus (go_simp; (try go_bits); (try simp only [↓IntWalk.iteOmega]); with_reducible rfl)); simp only [Act.put, List.setIfInBounds_toArray, List.set_cons_zero, List.set_cons_succ]))
      refine ord_eB rfl fun K hK => ?_
      go_wp2_with (go_at_call 16; refine (HF.out _ (HS.out.tree.keep (Hb5.out.trans (below_grown hG0 Hb5.out.size (fun g e => by cases e))))).mono ?_; rintro e w6 ⟨rfl, hb6⟩)
      have hG1 := grown_trans hG0 (grown_below hb6 (Nat.le_refl _))
      refine hK.out _ _ hG1 ?_
      clear hK K
      repeat (first
        | (refine ord_skipB rfl (by rfl) ?_; simp only [Act.put, List.setIfInBounds_toArray, List.set_cons_zero, List.set_cons_succ])
        | (refine ord_qE rfl (by rfl) ?_; apply Exists.intro; refine ⟨fun w' hc' => ?_, ?_⟩; (focus (go_simp; (try go_bits); (try simp only [↓IntWalk.iteOmega]); with_reducible rfl)); simp only [Act.put, List.setIfInBounds_toArray, List.set_cons_zero, List.set_cons_succ]))
      refine ord_end ?_
      have h45 : Below w4.heap.size w4 w6 := (Hbr.out.trans (Hb5b.out.mono Hbr.out.size)).trans (below_grown hG1 (Nat.le_trans Hbr.out.size Hb5b.out.size) (fun g e => by cases e))
      have hb6' := Hb5.out.trans (below_grown hG1 Hb5.out.size (fun g e => by cases e))
      have hB6 := HB5.out.grown hG1 (by simp)
      have hS56 := HS5.out.below (below_grown hG1 (Nat.le_refl _) (fun g e => by cases e)) (Nat.le_refl _)
      have H45 := Lib.hid h45; have Hb6 := Lib.hid hb6'; have HB6 := Lib.hid hB6; have HS56 := Lib.hid hS56; have HG6 := Lib.hid hG1.size
      clear b0 b1 b2 b3 p0 hG0 hG1 h45 hb6' hB6 hS56 hb6
      rcases Hspec.out with ⟨rfl, _⟩ | ⟨j, y, hKj, hy, hpath⟩
      · go_wp2
        go_roundw
        case rel => exact ⟨k + 1, by omega, by go_num, H45.out⟩
        case measure => simp [intOf]; omega
      have hjl : j < s.nn := by have := (List.getElem?_eq_some_iff.1 hy).1; rw [HS.out.tree.nl] at this; exact this
      obtain rfl : K = (j : Int) := by omega
      have hji : (j : Int) < s.nn := by omega
      have hj0 : ¬ (j : Int) < 0 := by omega
      obtain ⟨nb, no, y', hNA, hnb, hy2, hyc⟩ := (HS.out.tree.ns.below Hb6.out (Nat.le_refl _)).get Node.len HS.out.tree.nl hjl
      obtain rfl : y' = y := by rw [hy] at hy2; injection hy2 with e; exact e.symm
      have y1 := hyc 1 _ rfl
      have b0 := HB6.out.cell 0; have b1 := HB6.out.cell 1; have b2 := HB6.out.cell 2; have b3 := HB6.out.cell 3
      rw [hNA] at b0
      have hkind := Gs.out.kind y' (List.mem_of_getElem? hy)
      have HNA := Lib.hid hNA
      clear hKj hyc hy2 hNA
      by_cases hfe : y'.file = -1
      · go_wp2
        go_roundw
        case rel => exact ⟨k + 1, by omega, by go_num, H45.out⟩
        case measure => simp [intOf]; omega
      obtain ⟨g, hg⟩ : ∃ g : Nat, y'.file = (g : Int) := ⟨y'.file.toNat, by rcases hkind with h | h <;> omega⟩
      have hgl : g < s.fn := by rcases hkind with h | h <;> omega
      rw [hg] at y1
      have hgne : ((g : Int) == -1) = false := beq_eq_false_iff_ne.2 (by omega)
      have hgne2 : ¬ (g : Int) = -1 := by omega
      clear hkind hfe hpath hy hg
      have hN2 := fun W (h : TreeAt W s) => rnames6_any s g W h (by omega)
      rw [picks_names] at hN2
      obtain ⟨qs, hqs⟩ : ∃ qs, namesP s.nodes g = qs := ⟨_, rfl⟩
      rw [hqs] at hN2
      unfold TV.val at hN2
      rw [HNA.out] at hN2
      have HN2 := Lib.hid hN2; have Hqs := Lib.hid hqs
      clear hN2 hqs
      have hbs6 := Hb6.out.size
      go_wp2_with (go_at_call 15; refine (HN2.out _ (HS.out.tree.keep Hb6.out)).mono ?_; rintro e w7 ⟨A7, n7, c7, rfl, hn7, hS7, hb7⟩)
      have hn7b : n7 ≤ 256 := by
        have h1 : qs.length ≤ s.nodes.length := by rw [← Hqs.out]; unfold namesP picks; rw [List.length_map]; exact List.length_filter_le _ _
        rw [HS.out.tree.nl] at h1
        omega
      have hb7' := Hb6.out.trans (hb7.mono hbs6)
      have h47 : Below w4.heap.size w4 w7 := H45.out.trans (hb7.mono H45.out.size)
      have hB7 := HB6.out.below hb7 HB6.out.lt
      have hS57 := HS56.out.below hb7 HG6.out
      have HS7 := Lib.hid hS7; have Hn7 := Lib.hid hn7; have HB7 := Lib.hid hB7; have Hb7 := Lib.hid hb7'; have H47 := Lib.hid h47; have HS57 := Lib.hid hS57; have HG7 := Lib.hid (Nat.le_trans HG6.out hb7.size)
      clear b0 b1 b2 b3 y1 hS7 hn7 hb7' h47 hB7 hS57 hb7
      -- the bytes of both files
      obtain ⟨fb, fo, fx, hFA, hfbl, hfx, hfc⟩ := (HS.out.tree.fs.below Hb7.out (Nat.le_refl _)).get FC.len HS.out.tree.fl hgl
      obtain ⟨eb, eo, ex, hEA, hebl, hex, hec⟩ := (HT.out.tree.fs.below Hb7.out (Nat.le_refl _)).get FC.len HT.out.tree.fl hlt
      obtain ⟨d, hd, hdn, hdS⟩ := HS.out.dat.get hfx
      obtain ⟨e, he, hen, heS⟩ := HT.out.dat.get hex
      have f1 := hfc 1 _ rfl; have e1 := hec 1 _ rfl
      have SD := Lib.hid (hdS.below Hb7.out (Nat.le_refl _)); have SE := Lib.hid (heS.below Hb7.out (Nat.le_refl _))
      have ND := Lib.hid hdn; have NE := Lib.hid hen; have HD := Lib.hid hd; have HE := Lib.hid he
      have hB7 := HB7.out
      have b0 := hB7.cell 0; have b1 := hB7.cell 1; have b2 := hB7.cell 2; have b3 := hB7.cell 3
      rw [hFA] at b1
      rw [hEA] at b3
      have hs7 := Hb7.out.size
      have hfw : fb < w7.heap.size := Nat.lt_of_lt_of_le hfbl hs7
      have hew : eb < w7.heap.size := Nat.lt_of_lt_of_le hebl hs7
      have hpw := hB7.lt
      have hgi : (g : Int) < s.fn := by omega
      clear hfc hec hfx hex hd he hdS heS hdn hen hB7 hFA hEA
      go_cut [12] from 77 to 100 (fun v wx => ∃ B : Bool, v = .bool B ∧ (B = true → n7 = n5 ∧ ds[g]? = es[k]?) ∧ wx = w7.drew)
      case first =>
        by_cases hln : n7 = n5
        · have hle1 : ((n7 : Int) == n5) = true := by rw [hln]; simp
          by_cases hde : d = e
          · have hdb : (d.toList == e.toList) = true := (ba_b _ _).2 hde
            refine wp_region_ordB (none) [(0, true), (1, true), (2, true), (3, true), (4, true), (5, true), (6, true), (7, true), (8, true), (9, true), (10, true), (11, true), (12, true), (13, true), (14, true), (15, true), (16, true), (17, true), (18, true), (19, true), (20, true), (21, true), (22, true), (23, true), (24, true)] (by kernel_rfl) (by kernel_rfl) fun hG0 => ?_
            repeat (first
              | (refine ord_skipB rfl (by rfl) ?_; simp only [Act.put, List.setIfInBounds_toArray, List.set_cons_zero, List.set_cons_succ])
              | (first | (refine ord_qH rfl (by rfl) (fun w' hh => exec_conv rfl rfl (SD.out.held hs7 rfl hh) ND.out) ?_; simp only [Act.put, List.setIfInBounds_toArray, List.set_cons_zero, List.set_cons_succ]) | (refine ord_qH rfl (by rfl) (fun w' hh => exec_conv rfl rfl (SE.out.held hs7 rfl hh) NE.out) ?_; simp only [Act.put, List.setIfInBounds_toArray, List.set_cons_zero, List.set_cons_succ]))
              | (refine ord_qE rfl (by rfl) ?_; apply Exists.intro; refine ⟨fun w' hc' => ?_, ?_⟩; (focus (go_simp; (try go_bits); (try simp only [↓IntWalk.iteOmega]); with_reducible rfl)); simp only [Act.put, List.setIfInBounds_toArray, List.set_cons_zero, List.set_cons_succ]))
            refine ord_end ?_
            go_wp2_with (fail)
            go_meet
            exact ⟨true, rfl, fun _ => ⟨hln, by rw [HD.out, HE.out, hde]⟩, rfl⟩
          · have hdb : (d.toList == e.toList) = false := ba_nb hde
            refine wp_region_ordB (none) [(0, true), (1, true), (2, true), (3, true), (4, true), (5, true), (6, true), (7, true), (8, true), (9, true), (10, true), (11, true), (12, true), (13, true), (14, true), (15, true), (16, true), (17, true), (18, true), (19, true), (20, true), (21, true), (22, true), (23, true), (24, true)] (by kernel_rfl) (by kernel_rfl) fun hG0 => ?_
            repeat (first
              | (refine ord_skipB rfl (by rfl) ?_; simp only [Act.put, List.setIfInBounds_toArray, List.set_cons_zero, List.set_cons_succ])
              | (first | (refine ord_qH rfl (by rfl) (fun w' hh => exec_conv rfl rfl (SD.out.held hs7 rfl hh) ND.out) ?_; simp only [Act.put, List.setIfInBounds_toArray, List.set_cons_zero, List.set_cons_succ]) | (refine ord_qH rfl (by rfl) (fun w' hh => exec_conv rfl rfl (SE.out.held hs7 rfl hh) NE.out) ?_; simp only [Act.put, List.setIfInBounds_toArray, List.set_cons_zero, List.set_cons_succ]))
              | (refine ord_qE rfl (by rfl) ?_; apply Exists.intro; refine ⟨fun w' hc' => ?_, ?_⟩; (focus (go_simp; (try go_bits); (try simp only [↓IntWalk.iteOmega]); with_reducible rfl)); simp only [Act.put, List.setIfInBounds_toArray, List.set_cons_zero, List.set_cons_succ]))
            refine ord_end ?_
            go_wp2_with (fail)
            go_meet
            exact ⟨false, rfl, (fun h => nomatch h), rfl⟩
        · have hle1 : ((n7 : Int) == n5) = false := beq_eq_false_iff_ne.2 (by omega)
          go_big_region
          go_wp2_with (fail)
          go_meet
          exact ⟨false, rfl, (fun h => nomatch h), rfl⟩
      case rest =>
        obtain ⟨B, rfl, hcutB, rfl⟩ := hcut
        have HI := Lib.hid hcutB
        clear hcutB
        have h7 : Below w7.heap.size w7 w7.drew := below_grown (grown_drew w7 none) (Nat.le_refl _) (fun g e => by cases e)
        have H7 := Lib.hid h7
        clear h7 b0 b1 b2 b3 f1 e1
        go_wp2
        go_loopw [12, 13] (fun v12 v13 wr => ∃ (i : Nat) (b : Bool), i ≤ n7 ∧ v12 = .bool b ∧ v13 = .int .i64 i ∧ (b = true → n7 = n5 ∧ ds[g]? = es[k]? ∧ qs.take i = (p :: pr).take i) ∧ Below w7.heap.size w7 wr) (fun _ v13 _ => n7 - (intOf v13).toNat)
        case atStart => exact ⟨0, B, Nat.zero_le _, rfl, rfl, fun h => ⟨(HI.out h).1, (HI.out h).2, by simp⟩, H7.out⟩
        case round =>
          obtain ⟨i, b, hi, rfl, rfl, hbb, hbl⟩ := hrel
          have hall : Below w4.heap.size w4 wr := H47.out.trans (hbl.mono H47.out.size)
          have HAll := Lib.hid hall; have Hbb := Lib.hid hbb; have Hbl := Lib.hid hbl
          clear hall hbb hbl
          by_cases hlt2 : i < n7
          · have hii : (i : Int) < n7 := by omega
            cases b with
            | false =>
              go_wp2
              go_roundw
              case rel => exact ⟨k + 1, by omega, by go_num, HAll.out⟩
              case measure => simp [intOf]; omega
            | true =>
              obtain ⟨h75, hde, htk⟩ := Hbb.out rfl
              have hi5 : (i : Int) < n5 := by omega
              obtain ⟨ob, oo, ox, hOA, hobl, hox, hoc⟩ := (HS7.out.below Hbl.out (Nat.le_refl _)).get strOf_len Hn7.out hlt2
              obtain ⟨tb, to', tx, hTA, htbl, htx, htc⟩ := (HS57.out.below Hbl.out HG7.out).get strOf_len Hn5.out (show i < n5 by omega)
              have o0 := hoc 0 _ rfl; have t0 := htc 0 _ rfl
              injection hTA with hTA
              injection hTA with hTA1 hTA2
              subst hTA1 hTA2
              subst hOA
              simp only [Nat.add_zero, Nat.mul_one] at o0 t0
              have how : ob < wr.heap.size := Nat.lt_of_lt_of_le hobl Hbl.out.size
              have htw : q < wr.heap.size := Nat.lt_of_lt_of_le htbl (Nat.le_trans HG7.out Hbl.out.size)
              have hnext : ∀ b' : Bool, (b' = true → ox = tx) → (b' = true → n7 = n5 ∧ ds[g]? = es[k]? ∧ qs.take (i + 1) = (p :: pr).take (i + 1)) := fun b' hq hb' => ⟨h75, hde, by rw [List.take_add_one, List.take_add_one, htk, hox, htx, hq hb']⟩
              have HNext := Lib.hid hnext
              clear hoc htc hox htx hnext htk hde
              by_cases hoe : ox = tx
              · have hob2 : (ox.toList == tx.toList) = true := (ba_b _ _).2 hoe
                go_upto_region 20 with (fail)
                refine wp_region_ordB (none) [(0, true), (1, true), (2, true), (3, true), (4, true), (5, true), (6, true), (7, true), (8, true), (9, true)] (by kernel_rfl) (by kernel_rfl) fun hG0 => ?_
                repeat (first
                  | (refine ord_skipB rfl (by rfl) ?_; simp only [Act.put, List.setIfInBounds_toArray, List.set_cons_zero, List.set_cons_succ])
                  | (first | (refine ord_qH rfl (by rfl) (fun w' hh => exec_conv rfl rfl (SD.out.held hs7 rfl hh) ND.out) ?_; simp only [Act.put, List.setIfInBounds_toArray, List.set_cons_zero, List.set_cons_succ]) | (refine ord_qH rfl (by rfl) (fun w' hh => exec_conv rfl rfl (SE.out.held hs7 rfl hh) NE.out) ?_; simp only [Act.put, List.setIfInBounds_toArray, List.set_cons_zero, List.set_cons_succ]))
                  | (refine ord_qE rfl (by rfl) ?_; apply Exists.intro; refine ⟨fun w' hc' => ?_, ?_⟩; (focus (go_simp; (try go_bits); (try simp only [↓IntWalk.iteOmega]); with_reducible rfl)); simp only [Act.put, List.setIfInBounds_toArray, List.set_cons_zero, List.set_cons_succ]))
                refine ord_end ?_
                have hbn := Hbl.out.trans (below_grown hG0 Hbl.out.size (fun g e => by cases e))
                have Hbn := Lib.hid hbn
                clear o0 t0 hbn hG0
                go_wp2
                go_roundw
                case rel => exact ⟨i + 1, true, by omega, rfl, by go_num, HNext.out true (fun _ => hoe), Hbn.out⟩
                case measure => simp [intOf]; omega
              · have hob2 : (ox.toList == tx.toList) = false := ba_nb hoe
                go_upto_region 20 with (fail)
                refine wp_region_ordB (none) [(0, true), (1, true), (2, true), (3, true), (4, true), (5, true), (6, true), (7, true), (8, true), (9, true)] (by kernel_rfl) (by kernel_rfl) fun hG0 => ?_
                repeat (first
                  | (refine ord_skipB rfl (by rfl) ?_; simp only [Act.put, List.setIfInBounds_toArray, List.set_cons_zero, List.set_cons_succ])
                  | (first | (refine ord_qH rfl (by rfl) (fun w' hh => exec_conv rfl rfl (SD.out.held hs7 rfl hh) ND.out) ?_; simp only [Act.put, List.setIfInBounds_toArray, List.set_cons_zero, List.set_cons_succ]) | (refine ord_qH rfl (by rfl) (fun w' hh => exec_conv rfl rfl (SE.out.held hs7 rfl hh) NE.out) ?_; simp only [Act.put, List.setIfInBounds_toArray, List.set_cons_zero, List.set_cons_succ]))
                  | (refine ord_qE rfl (by rfl) ?_; apply Exists.intro; refine ⟨fun w' hc' => ?_, ?_⟩; (focus (go_simp; (try go_bits); (try simp only [↓IntWalk.iteOmega]); with_reducible rfl)); simp only [Act.put, List.setIfInBounds_toArray, List.set_cons_zero, List.set_cons_succ]))
                refine ord_end ?_
                have hbn := Hbl.out.trans (below_grown hG0 Hbl.out.size (fun g e => by cases e))
                have Hbn := Lib.hid hbn
                clear o0 t0 hbn hG0
                go_wp2
                go_roundw
                case rel => exact ⟨i + 1, false, by omega, rfl, by go_num, HNext.out false (fun h => by cases h), Hbn.out⟩
                case measure => simp [intOf]; omega
          · obtain rfl : i = n7 := by omega
            have hii : ¬ (i : Int) < i := by omega
            cases b with
            | false =>
              go_wp2
              go_roundw
              case rel => exact ⟨k + 1, by omega, by go_num, HAll.out⟩
              case measure => simp [intOf]; omega
            | true =>
              obtain ⟨h75, hde, htk⟩ := Hbb.out rfl
              have heq : qs = p :: pr := by
                rw [List.take_of_length_le (by rw [Hn7.out]; exact Nat.le_refl _), List.take_of_length_le (by rw [Hn5.out]; omega)] at htk
                exact htk
              have hkeep := Hlaw.out k g hlt (by rw [Hqs.out, Hps.out]; exact heq) hde
              obtain ⟨lb, lo, lx, hLA, hlbl, hlx, hlc⟩ := (HR.out.below HAll.out (Nat.le_refl _)).get Src.len Hn.out hlt
              obtain rfl : lx = keepS g := by rw [hkeep] at hlx; injection hlx with h; exact h.symm
              have l0 := hlc 0 _ rfl; have l1 := hlc 1 _ rfl; have l2 := hlc 2 _ rfl
              subst hLA
              simp only [Nat.add_zero, keepS] at l0 l1 l2
              clear hlc hkeep htk heq hlx hde
              go_wp2
              go_roundw
              case rel => exact ⟨k + 1, by omega, by go_num, HAll.out⟩
              case measure => simp [intOf]; omega


set_option maxRecDepth 100000 in
theorem lifted (os : Os) (started : os.Started) (H : Type) (enc : TypeId × Value → H) :
    ReturnsInHanded {} Try.checked os 4 .any (Rows.matchStaysSpec.pre6 enc Try.prog Try.f4 Rows.matchStaysRow.domain false) (Rows.matchStaysSpec.post enc Try.prog Try.f4 false true false false) := by
  refine returnsInHanded_of_change (C := Try.checked) own started (by kernel_rfl) Try.func4
    (ChangeSpec.witness6 (enc := enc) (C := Try.checked) false ⟨#[], #[.agg #[.slice none 0 0, .slice none 0 0, .slice none 0 0, .slice none 0 0, .slice none 0 0]], []⟩ 8 (by kernel_rfl) (by kernel_rfl) (by kernel_rfl) (by kernel_rfl)) ?_
  intro W base args ds gs before hval0 hW hcnd _
  have hval : ∀ (j : Nat) t v, Try.f4.params[j]? = some t → args[j]? = some v → Value.okWide Try.prog W .any base t v := hval0
  have hW' := hW
  obtain ⟨p, q, hA0, hV, rfl, hfz, hnd⟩ := hW
  have hA : DataW.TrodAll enc Try.prog W 0 (fun _ => true) true Try.f4.params.toList args.toList ds p := hA0
  rw [Try.params4] at hA hval
  obtain ⟨v0, vs0, d0, ds0, p0, q0, hargs, rfl, rfl, h0, r0⟩ := trodAll_cons hA
  obtain ⟨rfl, rfl, rfl⟩ := trodAll_nil r0
  obtain rfl : args = #[v0] := by cases args; simp_all
  obtain ⟨rfl, rfl⟩ := trodVars_none hV
  have k0 := h0
  have lt0 : ∀ x ∈ p0, x.block < W.heap.size := by obtain ⟨m, hm⟩ := k0; exact DataW.trod_lt m _ _ _ hm
  obtain ⟨s0, dS0, t0, eT0, SA0, sn0, sc0, ss0, sd0, rfl, hS0, hT0, hK0, hb0, hbt0, hbn0, hbs0⟩ := open_pair (hval 0 38 v0 rfl rfl) h0 lt0
  clear hA0 hval0
  refine (walk s0 dS0 t0 eT0 SA0 sn0 sc0 ss0 sd0 W hS0 hT0 hK0).mono fun e W' ⟨he, bel⟩ => ?_
  subst he
  exact ⟨_, rfl, _, _, _, [], _, [], hW', trodAll_mk1 (shut_bool Try.underlying4 _), (trodAll_cons_mk (Below.trod laidOut (by kernel_rfl) (of_decide_eq_true (by kernel_rfl)) k0 bel lt0) trodAll_mk0), rfl, bel.frame _, fun h => by cases h⟩

theorem over : Rows.matchStaysRow.holds Try.pinned (OpenSpec.ofChange Rows.matchStaysSpec) :=
  OpenClaim.holds_of_wide 4 Try.f4 rfl rfl rfl rfl rfl rfl rfl ⟨rfl, rfl, rfl, rfl, rfl⟩ rfl rfl rfl rfl rfl (by kernel_rfl) Try.func4 (by kernel_rfl)
    (of_decide_eq_true (by kernel_rfl)) (by unfold Func.isWrapper; first | (rw [if_pos (by decide +kernel)]; kernel_rfl) | (rw [if_neg (by decide +kernel)]; exact ⟨rfl, rfl⟩))
    (fun os started H enc _ => lifted os started H enc)

theorem proved : Rows.MatchStaysSaid := over
#print axioms proved
end Go.Proofs.Ytcnpncieibmngaa.matchStaysDone
