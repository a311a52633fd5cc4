/- slices.symMergeCmpFunc at nodes: one element on the right. -/
import Derived.Test.YtdjlchbgdehccaaStable4
namespace Go.Proofs.Ytdjlchbgdehccaa
open Go.RowKit


set_option maxRecDepth 100000 in
set_option maxHeartbeats 8000000 in
/-- One element on the right. -/
theorem merge_right (w0 : World) (base n c : Nat) (A : Option Addr) (A0 U B : List Node) (y : Node) (a m b : Nat) (W : World) (ha : A0.length = a) (hm : m = a + U.length) (hb : b = m + 1) (hu : 2 ≤ U.length) (hn : n ≤ 1000000) (hU : SrtN U) (h : SortSt w0 base A n c (A0 ++ U ++ y :: B) W) :
    Calls Try.prog 101 #[.slice A n c, .int .i64 a, .int .i64 m, .int .i64 b, cmpV] W (MergeRes w0 base A n c A0 (U ++ [y]) B) := by
  have hlen := h.len
  simp only [List.length_append, List.length_cons] at hlen
  have hbn : b ≤ n := by omega
  have ham : a ≤ m := by omega
  have hmn : m < n := by omega
  have hmi : (m : Int) < n := by omega
  have H := Lib.hid h; have HL := Lib.hid hlen; have HA := Lib.hid ha; have Hb := Lib.hid hb; have HU := Lib.hid hU; have Hm := Lib.hid hm
  have wma : IntKind.i64.wrap ((m : Int) - a) = (m : Int) - a := by rw [IntKind.wrap_i64]; omega
  have hma : ((m : Int) - a == 1) = false := beq_eq_false_iff_ne.2 (by omega)
  have hma2 : ¬ (m : Int) - a = 1 := by omega
  have wbm : IntKind.i64.wrap ((b : Int) - m) = 1 := by rw [IntKind.wrap_i64]; omega
  clear h hlen ha hb hU hm hu
  unfold cmpV
  go_enter Try.func101, Try.ntmps101
  go_wp2
  go_loopw [14, 15] (fun vi vj wr => ∃ i j : Nat, vi = .int .i64 i ∧ vj = .int .i64 j ∧ a ≤ i ∧ i ≤ j ∧ j ≤ m ∧ SortSt w0 base A n c (A0 ++ U ++ y :: B) wr ∧ (∀ t z, t < i - a → U[t]? = some z → leN z y) ∧ (∀ t z, j - a ≤ t → U[t]? = some z → pathL y < pathL z)) (fun vi vj _ => (intOf vj).toNat - (intOf vi).toNat)
  case atStart => exact ⟨a, m, rfl, rfl, Nat.le_refl _, ham, Nat.le_refl _, H.out, fun t z ht => by omega, fun t z ht hz => by have := (List.getElem?_eq_some_iff.1 hz).1; have := Hm.out; omega⟩
  case round =>
    obtain ⟨i, j, rfl, rfl, hai, hij, hjm, hst, h1, h2⟩ := hrel
    by_cases hlt : i < j
    · have hki : (i : Int) < j := by omega
      obtain ⟨hh, hhe⟩ : ∃ hh, (i + j) / 2 = hh := ⟨_, rfl⟩
      have hih : i ≤ hh := by omega
      have hhj : hh < j := by omega
      have hhn : hh < n := by omega
      obtain ⟨z, hz⟩ : ∃ z, U[hh - a]? = some z := ⟨_, List.getElem?_eq_getElem (by have := Hm.out; omega)⟩
      have g1 : (A0 ++ U ++ y :: B)[hh]? = some z := by
        rw [List.append_assoc, List.getElem?_append_right (by rw [HA.out]; omega), List.getElem?_append_left (by rw [HA.out]; have := Hm.out; omega), HA.out]
        exact hz
      have g2 : (A0 ++ U ++ y :: B)[m]? = some y := mid_get (by rw [List.length_append, HA.out]; exact Hm.out)
      obtain ⟨g, rfl⟩ : ∃ g, A = some ⟨g, 0, none⟩ := own_some hst.own (by omega)
      obtain ⟨x0, x1, x2⟩ := hst.cells g1
      obtain ⟨y0, y1, y2⟩ := hst.cells g2
      have hgl : g < wr.heap.size := (own_lt2 hst.own).2.1
      obtain ⟨d, hd⟩ : ∃ d, cmpN y z = d := ⟨_, rfl⟩
      have hc := cmp_any y z
      rw [hd] at hc
      have HC := Lib.hid hc; have HD := Lib.hid hd; have Hst := Lib.hid hst; have H1 := Lib.hid h1; have H2 := Lib.hid h2; have Hz := Lib.hid hz
      have wij := half_sum i j (by omega)
      have hq : ((i : Int) + j) / 2 = (hh : Int) := by omega
      have hhin : (hh : Int) < n := by omega
      clear hc hd hst h1 h2 hz g1 g2
      by_cases hlv : d < 0
      · have hdd : (!decide (d < 0)) = false := by simp [hlv]
        go_upto_region 17 with (fail)
        refine wp_region_ordB (none) [(0, true), (1, true), (2, true), (3, true), (4, true), (5, true), (6, true), (7, true), (8, true), (9, false), (10, true), (11, true)] (by kernel_rfl) (by kernel_rfl) fun hG0 => ?_
        repeat (first
          | (refine ord_skipB rfl (by rfl) ?_; simp only [Act.put, List.setIfInBounds_toArray, List.set_cons_zero, List.set_cons_succ])
          | (refine ord_qE rfl (by rfl) ?_; apply Exists.intro; refine ⟨fun w' hc' => ?_, ?_⟩; (focus (go_simp; (try go_bits); (try simp only [↓IntWalk.iteOmega]); with_reducible rfl)); simp only [Act.put, List.setIfInBounds_toArray, List.set_cons_zero, List.set_cons_succ]))
        refine ord_eB rfl fun K hK => ?_
        go_wp2_with (go_at_call 69; refine (HC.out _).mono ?_; rintro e w5 ⟨rfl, hg5⟩)
        have hG1 := grown_trans hG0 (hg5)
        refine hK.out _ _ hG1 ?_
        clear hK K
        repeat (first
          | (refine ord_skipB rfl (by rfl) ?_; simp only [Act.put, List.setIfInBounds_toArray, List.set_cons_zero, List.set_cons_succ])
          | (refine ord_qE rfl (by rfl) ?_; apply Exists.intro; refine ⟨fun w' hc' => ?_, ?_⟩; (focus (go_simp; (try go_bits); (try simp only [↓IntWalk.iteOmega]); with_reducible rfl)); simp only [Act.put, List.setIfInBounds_toArray, List.set_cons_zero, List.set_cons_succ]))
        refine ord_end ?_
        have hs5 := Hst.out.quiet hG1
        have HS5 := Lib.hid hs5
        clear hs5 x0 x1 x2 y0 y1 y2 hgl hG0 hG1
        go_wp2
        go_roundw
        case rel => exact ⟨i, hh, rfl, by go_num, hai, hih, by omega, HS5.out, H1.out, fun t z' ht hz' => lt_of_lt_le (lt_of_cmp HD.out hlv) (srt_get HU.out ht Hz.out hz')⟩
        case measure => simp [intOf] <;> omega
      · have hdd : (!decide (d < 0)) = true := by simp; omega
        go_upto_region 17 with (fail)
        refine wp_region_ordB (none) [(0, true), (1, true), (2, true), (3, true), (4, true), (5, true), (6, true), (7, true), (8, true), (9, false), (10, true), (11, true)] (by kernel_rfl) (by kernel_rfl) fun hG0 => ?_
        repeat (first
          | (refine ord_skipB rfl (by rfl) ?_; simp only [Act.put, List.setIfInBounds_toArray, List.set_cons_zero, List.set_cons_succ])
          | (refine ord_qE rfl (by rfl) ?_; apply Exists.intro; refine ⟨fun w' hc' => ?_, ?_⟩; (focus (go_simp; (try go_bits); (try simp only [↓IntWalk.iteOmega]); with_reducible rfl)); simp only [Act.put, List.setIfInBounds_toArray, List.set_cons_zero, List.set_cons_succ]))
        refine ord_eB rfl fun K hK => ?_
        go_wp2_with (go_at_call 69; refine (HC.out _).mono ?_; rintro e w5 ⟨rfl, hg5⟩)
        have hG1 := grown_trans hG0 (hg5)
        refine hK.out _ _ hG1 ?_
        clear hK K
        repeat (first
          | (refine ord_skipB rfl (by rfl) ?_; simp only [Act.put, List.setIfInBounds_toArray, List.set_cons_zero, List.set_cons_succ])
          | (refine ord_qE rfl (by rfl) ?_; apply Exists.intro; refine ⟨fun w' hc' => ?_, ?_⟩; (focus (go_simp; (try go_bits); (try simp only [↓IntWalk.iteOmega]); with_reducible rfl)); simp only [Act.put, List.setIfInBounds_toArray, List.set_cons_zero, List.set_cons_succ]))
        refine ord_end ?_
        have hs5 := Hst.out.quiet hG1
        have HS5 := Lib.hid hs5
        clear hs5 x0 x1 x2 y0 y1 y2 hgl hG0 hG1
        go_wp2
        go_roundw
        case rel => exact ⟨hh + 1, j, by go_num, rfl, by omega, by omega, hjm, HS5.out, fun t z' ht hz' => leN_trans (srt_get HU.out (by omega) hz' Hz.out) (le_of_cmp HD.out (by omega)), H2.out⟩
        case measure => simp [intOf] <;> omega
    · obtain rfl : i = j := by omega
      have hki : ¬ (i : Int) < i := by omega
      have hfin : SrtN (U.take (i - a) ++ y :: U.drop (i - a)) := one_right HU.out h1 h2
      have hperm : (U.take (i - a) ++ y :: U.drop (i - a)).Perm (U ++ [y]) := by
        refine List.perm_middle.trans ?_
        rw [List.take_append_drop]
        exact (List.perm_append_singleton y U).symm
      have hst' : SortSt w0 base A n c (A0 ++ U.take (m - a) ++ y :: U.drop (m - a) ++ B) wr := by
        have e : m - a = U.length := by have := Hm.out; omega
        rw [e, List.take_length, List.drop_length]; simpa using hst
      have Hst := Lib.hid hst'; have HFin := Lib.hid hfin; have HPerm := Lib.hid hperm
      clear h1 h2 hst hst' hfin hperm
      go_wp2
      go_loopw [17] (fun v wr => ∃ k : Nat, v = .int .i64 k ∧ i ≤ k ∧ k ≤ m ∧ SortSt w0 base A n c (A0 ++ U.take (k - a) ++ y :: U.drop (k - a) ++ B) wr) (fun v _ => (intOf v).toNat)
      case atStart => exact ⟨m, rfl, hjm, Nat.le_refl _, Hst.out⟩
      case round =>
        clear Hst
        obtain ⟨k, rfl, hik, hkm, hst⟩ := hrel
        by_cases hlt2 : i < k
        · obtain ⟨kp, rfl⟩ : ∃ kp, k = kp + 1 := ⟨k - 1, by omega⟩
          have hkk : (i : Int) < (kp : Int) + 1 := by omega
          obtain ⟨z, hz⟩ : ∃ z, U[kp - a]? = some z := ⟨_, List.getElem?_eq_getElem (by have := Hm.out; omega)⟩
          have hka : kp + 1 - a = kp - a + 1 := by omega
          have htk : U.take (kp + 1 - a) = U.take (kp - a) ++ [z] := by rw [hka, List.take_add_one, hz]; rfl
          have hdr := take_set_drop hz
          have htl : (U.take (kp - a)).length = kp - a := by rw [List.length_take]; have := (List.getElem?_eq_some_iff.1 hz).1; omega
          have hAl : kp = (A0 ++ U.take (kp - a)).length := by rw [List.length_append, htl, HA.out]; omega
          have hL : A0 ++ U.take (kp + 1 - a) ++ y :: U.drop (kp + 1 - a) ++ B = (A0 ++ U.take (kp - a)) ++ z :: (y :: (U.drop (kp - a + 1) ++ B)) := by rw [htk, hka]; simp
          have hL2 : A0 ++ U.take (kp + 1 - a) ++ y :: U.drop (kp + 1 - a) ++ B = (A0 ++ U.take (kp - a) ++ [z]) ++ y :: (U.drop (kp - a + 1) ++ B) := by rw [htk, hka]; simp
          have g2 : (A0 ++ U.take (kp + 1 - a) ++ y :: U.drop (kp + 1 - a) ++ B)[kp]? = some z := by rw [hL]; exact mid_get hAl
          have g1 : (A0 ++ U.take (kp + 1 - a) ++ y :: U.drop (kp + 1 - a) ++ B)[kp + 1]? = some y := by rw [hL2]; exact mid_get (by rw [List.length_append, ← hAl]; rfl)
          have hkn : kp + 1 < n := by have := (List.getElem?_eq_some_iff.1 g1).1; rw [hst.len] at this; exact this
          obtain ⟨g, rfl⟩ : ∃ g, A = some ⟨g, 0, none⟩ := own_some hst.own (by omega)
          have hnext : ((A0 ++ U.take (kp + 1 - a) ++ y :: U.drop (kp + 1 - a) ++ B).set (kp + 1) z).set kp y = A0 ++ U.take (kp - a) ++ y :: U.drop (kp - a) ++ B := by
            rw [hL, set_pair hAl, hdr]
            simp
          have hwp : IntKind.i64.wrap (kp : Int) = (kp : Int) := by rw [IntKind.wrap_i64]; omega
          have jz : (kp : Int) + 1 < (n : Int) := by omega
          have jz1 : (kp : Int) < (n : Int) := by omega
          have p0 : (0 : Int) ≤ (kp : Int) + 1 := by omega
          have e0 : ((kp : Int) + 1).toNat = kp + 1 := by omega
          obtain ⟨W1, W2, s1, s2, hs2⟩ := hst.swap g1 g2
          have lx := (hst.quiet (grown_drew wr none)).load g1
          have ly := (hst.quiet (grown_drew wr none)).load g2
          obtain ⟨cx, hcx⟩ : ∃ zq, Node.list y = zq := ⟨_, rfl⟩
          obtain ⟨cy, hcy⟩ : ∃ zq, Node.list z = zq := ⟨_, rfl⟩
          have lcx : cx.length = 3 := by rw [← hcx]; rfl
          have lcy : cy.length = 3 := by rw [← hcy]; rfl
          rw [hcx] at lx s2
          rw [hcy] at ly s1
          rw [hnext] at hs2
          have HS2 := Lib.hid hs2
          clear hcx hcy hs2 hst hnext g1 g2 hL hL2 hAl htl hdr hz htk hka
          go_wp2
          have mixed : Try.prog.follows .mixedOrders = true := by kernel_rfl
          have t23 := Try.underlying23
          have t3 := Try.intU
          have u23 := run_underlying Try.underlying23
          have u3 := run_underlying Try.intU
          have aE := Try.nodeAgg; have a23 := Try.nodesAgg; have z23 := Try.nodesSize
          obtain ⟨q, hq⟩ : ∃ q, 3 = q := ⟨3, rfl⟩
          rw [hq] at lx ly s1 s2 lcx lcy
          have zE : ∀ w, (Go.sizeOf 29).run Try.prog w = .ok q w := fun w => by rw [← hq]; exact Try.nodeSize w
          clear hq
          generalize hP : Try.prog = P at mixed t23 t3 u23 u3 aE zE a23 z23 lx ly s1 s2 ⊢
          go_big_region_o
          subst hP
          clear mixed t23 t3 u23 u3 aE zE a23 z23 lx ly s1 s2 lcx lcy
          all_goals go_wp2
          go_roundw
          case rel => exact ⟨kp, by first | rfl | go_num | (congr 1; omega), by omega, by omega, HS2.out⟩
          case measure => simp [intOf] <;> omega
        · obtain rfl : i = k := by omega
          have hkk : ¬ (i : Int) < i := by omega
          have Hst := Lib.hid hst
          clear hst
          go_wp2
          refine bodyPost_ret (results_none rfl _ _ _) rfl ?_
          exact ⟨rfl, U.take (i - a) ++ y :: U.drop (i - a), HPerm.out, HFin.out, by have h := Hst.out; simp only [List.append_assoc, List.cons_append] at h ⊢; exact h⟩
end Go.Proofs.Ytdjlchbgdehccaa
