/- slices.symMergeCmpFunc at nodes: two sorted parts that stand side by side become one. -/
import Derived.Test.YtdjlchbgdehccaaStable3
namespace Go.Proofs.Ytdjlchbgdehccaa
open Go.RowKit


/-- What a merge brings about. -/
def MergeRes (w0 : World) (base : Nat) (A : Option Addr) (n c : Nat) (A0 Q B : List Node) (e : Ending) (W' : World) : Prop :=
  e = .returned (.tuple #[]) ∧ ∃ V : List Node, V.Perm Q ∧ SrtN V ∧ SortSt w0 base A n c (A0 ++ V ++ B) W'
theorem lt_of_cmp {x y : Node} {d : Int} (h : cmpN x y = d) (h0 : d < 0) : pathL x < pathL y := (cmpN_lt x y).1 (by omega)
theorem le_of_cmp {x y : Node} {d : Int} (h : cmpN x y = d) (h0 : ¬ d < 0) : leN y x := fun h2 => h0 (by have := (cmpN_lt x y).2 h2; omega)
/-- Where an element belongs: all ahead are less, all behind are not. -/
theorem one_left {V : List Node} {x : Node} {i : Nat} (hV : SrtN V) (h1 : ∀ t z, t < i → V[t]? = some z → pathL z < pathL x) (h2 : ∀ t z, i ≤ t → V[t]? = some z → leN x z) : SrtN (V.take i ++ x :: V.drop i) := by
  refine srt_insert (by rw [List.take_append_drop]; exact hV) (fun y hy => ?_) (fun y hy => ?_)
  · obtain ⟨t, ht⟩ := List.getElem?_of_mem hy
    have hl : t < i := by have := (List.getElem?_eq_some_iff.1 ht).1; rw [List.length_take] at this; omega
    rw [List.getElem?_take_of_lt hl] at ht
    exact leN_of_lt (h1 t y hl ht)
  · obtain ⟨t, ht⟩ := List.getElem?_of_mem hy
    rw [List.getElem?_drop] at ht
    exact h2 _ y (by omega) ht
theorem one_right {U : List Node} {y : Node} {i : Nat} (hU : SrtN U) (h1 : ∀ t z, t < i → U[t]? = some z → leN z y) (h2 : ∀ t z, i ≤ t → U[t]? = some z → pathL y < pathL z) : SrtN (U.take i ++ y :: U.drop i) := by
  refine srt_insert (by rw [List.take_append_drop]; exact hU) (fun z hz => ?_) (fun z hz => ?_)
  · obtain ⟨t, ht⟩ := List.getElem?_of_mem hz
    have hl : t < i := by have := (List.getElem?_eq_some_iff.1 ht).1; rw [List.length_take] at this; omega
    rw [List.getElem?_take_of_lt hl] at ht
    exact h1 t z hl ht
  · obtain ⟨t, ht⟩ := List.getElem?_of_mem hz
    rw [List.getElem?_drop] at ht
    exact leN_of_lt (h2 _ z (by omega) ht)
theorem lt_of_le_lt {x y z : Node} (h : leN x y) (k : pathL y < pathL z) : pathL x < pathL z := Classical.byContradiction fun h2 => by
  have h3 : leN z x := h2
  exact leN_trans h3 h k
theorem lt_of_lt_le {x y z : Node} (h : pathL x < pathL y) (k : leN y z) : pathL x < pathL z := Classical.byContradiction fun h2 => by
  have h3 : leN z x := h2
  exact leN_trans k h3 h
theorem half_sum (i j : Nat) (h : i + j ≤ 4000000) : IntKind.i64.wrap ((i : Int) + (j : Int)) = ((i + j : Nat) : Int) := by rw [IntKind.wrap_i64]; omega
set_option maxRecDepth 100000 in
set_option maxHeartbeats 8000000 in
/-- One element on the left. -/
theorem merge_left (w0 : World) (base n c : Nat) (A : Option Addr) (A0 V B : List Node) (x : Node) (a m b : Nat) (W : World) (ha : A0.length = a) (hm : m = a + 1) (hb : b = m + V.length) (hn : n ≤ 1000000) (hV : SrtN V) (h : SortSt w0 base A n c (A0 ++ x :: V ++ B) W) :
    Calls Try.prog 101 #[.slice A n c, .int .i64 a, .int .i64 m, .int .i64 b, cmpV] W (MergeRes w0 base A n c A0 (x :: V) B) := by
  have hlen := h.len
  simp only [List.length_append, List.length_cons] at hlen
  have hbn : b ≤ n := by omega
  have hmb : m ≤ b := by omega
  have hmn : m ≤ n := by omega
  have H := Lib.hid h; have HL := Lib.hid hlen; have HA := Lib.hid ha; have Hb := Lib.hid hb; have HV := Lib.hid hV; have Hm := Lib.hid hm
  have wma : IntKind.i64.wrap ((m : Int) - a) = 1 := by rw [IntKind.wrap_i64]; omega
  have hma : (m : Int) - a = 1 := by omega
  clear h hlen ha hb hV hm
  unfold cmpV
  go_enter Try.func101, Try.ntmps101
  go_wp2
  go_loopw [10, 11] (fun vi vj wr => ∃ i j : Nat, vi = .int .i64 i ∧ vj = .int .i64 j ∧ m ≤ i ∧ i ≤ j ∧ j ≤ b ∧ SortSt w0 base A n c (A0 ++ x :: V ++ B) wr ∧ (∀ t z, t < i - m → V[t]? = some z → pathL z < pathL x) ∧ (∀ t z, j - m ≤ t → V[t]? = some z → leN x z)) (fun vi vj _ => (intOf vj).toNat - (intOf vi).toNat)
  case atStart => exact ⟨m, b, rfl, rfl, Nat.le_refl _, hmb, Nat.le_refl _, H.out, fun t z ht => by omega, fun t z ht hz => by have := (List.getElem?_eq_some_iff.1 hz).1; have := Hb.out; omega⟩
  case round =>
    obtain ⟨i, j, rfl, rfl, hmi, hij, hjb, hst, h1, h2⟩ := hrel
    by_cases hlt : i < j
    · have hki : (i : Int) < j := by omega
      obtain ⟨hh, hhe⟩ : ∃ hh, (i + j) / 2 = hh := ⟨_, rfl⟩
      have hih : i ≤ hh := by omega
      have hhj : hh < j := by omega
      have hhn : hh < n := by omega
      obtain ⟨z, hz⟩ : ∃ z, V[hh - m]? = some z := ⟨_, List.getElem?_eq_getElem (by have := Hb.out; omega)⟩
      have g1 : (A0 ++ x :: V ++ B)[hh]? = some z := by
        rw [show A0 ++ x :: V ++ B = (A0 ++ [x]) ++ (V ++ B) by simp, List.getElem?_append_right (by rw [List.length_append, HA.out]; have := Hm.out; simp; omega), List.getElem?_append_left (by rw [List.length_append, HA.out]; have := Hm.out; have := Hb.out; simp; omega)]
        rw [← hz]; congr 1
        rw [List.length_append, HA.out]; have := Hm.out; simp; omega
      have g2 : (A0 ++ x :: V ++ B)[a]? = some x := by
        rw [show A0 ++ x :: V ++ B = A0 ++ x :: (V ++ B) by simp]
        exact mid_get HA.out.symm
      obtain ⟨g, rfl⟩ : ∃ g, A = some ⟨g, 0, none⟩ := own_some hst.own (by omega)
      obtain ⟨x0, x1, x2⟩ := hst.cells g1
      obtain ⟨y0, y1, y2⟩ := hst.cells g2
      have hgl : g < wr.heap.size := (own_lt2 hst.own).2.1
      obtain ⟨d, hd⟩ : ∃ d, cmpN z x = d := ⟨_, rfl⟩
      have hc := cmp_any z x
      rw [hd] at hc
      have HC := Lib.hid hc; have HD := Lib.hid hd; have Hst := Lib.hid hst; have H1 := Lib.hid h1; have H2 := Lib.hid h2; have Hz := Lib.hid hz
      have wij := half_sum i j (by omega)
      have hq : ((i : Int) + j) / 2 = (hh : Int) := by omega
      have hain : (a : Int) < n := by omega
      have hhin : (hh : Int) < n := by omega
      clear hc hd hst h1 h2 hz g1 g2
      by_cases hlv : d < 0
      · go_upto_region 5 with (fail)
        refine wp_region_ordB (none) [(0, true), (1, true), (2, true), (3, true), (4, true), (5, true), (6, true), (7, true), (8, true), (9, false), (10, true)] (by kernel_rfl) (by kernel_rfl) fun hG0 => ?_
        repeat (first
          | (refine ord_skipB rfl (by rfl) ?_; simp only [Act.put, List.setIfInBounds_toArray, List.set_cons_zero, List.set_cons_succ])
          | (refine ord_qE rfl (by rfl) ?_; apply Exists.intro; refine ⟨fun w' hc' => ?_, ?_⟩; (focus (go_simp; (try go_bits); (try simp only [↓IntWalk.iteOmega]); with_reducible rfl)); simp only [Act.put, List.setIfInBounds_toArray, List.set_cons_zero, List.set_cons_succ]))
        refine ord_eB rfl fun K hK => ?_
        go_wp2_with (go_at_call 69; refine (HC.out _).mono ?_; rintro e w5 ⟨rfl, hg5⟩)
        have hG1 := grown_trans hG0 (hg5)
        refine hK.out _ _ hG1 ?_
        clear hK K
        repeat (first
          | (refine ord_skipB rfl (by rfl) ?_; simp only [Act.put, List.setIfInBounds_toArray, List.set_cons_zero, List.set_cons_succ])
          | (refine ord_qE rfl (by rfl) ?_; apply Exists.intro; refine ⟨fun w' hc' => ?_, ?_⟩; (focus (go_simp; (try go_bits); (try simp only [↓IntWalk.iteOmega]); with_reducible rfl)); simp only [Act.put, List.setIfInBounds_toArray, List.set_cons_zero, List.set_cons_succ]))
        refine ord_end ?_
        have hs5 := Hst.out.quiet hG1
        have HS5 := Lib.hid hs5
        clear hs5 x0 x1 x2 y0 y1 y2 hgl hG0 hG1
        go_wp2
        go_roundw
        case rel => exact ⟨hh + 1, j, by go_num, rfl, by omega, by omega, hjb, HS5.out, fun t z' ht hz' => lt_of_le_lt (srt_get HV.out (by omega) hz' Hz.out) (lt_of_cmp HD.out hlv), H2.out⟩
        case measure => simp [intOf] <;> omega
      · go_upto_region 5 with (fail)
        refine wp_region_ordB (none) [(0, true), (1, true), (2, true), (3, true), (4, true), (5, true), (6, true), (7, true), (8, true), (9, false), (10, true)] (by kernel_rfl) (by kernel_rfl) fun hG0 => ?_
        repeat (first
          | (refine ord_skipB rfl (by rfl) ?_; simp only [Act.put, List.setIfInBounds_toArray, List.set_cons_zero, List.set_cons_succ])
          | (refine ord_qE rfl (by rfl) ?_; apply Exists.intro; refine ⟨fun w' hc' => ?_, ?_⟩; (focus (go_simp; (try go_bits); (try simp only [↓IntWalk.iteOmega]); with_reducible rfl)); simp only [Act.put, List.setIfInBounds_toArray, List.set_cons_zero, List.set_cons_succ]))
        refine ord_eB rfl fun K hK => ?_
        go_wp2_with (go_at_call 69; refine (HC.out _).mono ?_; rintro e w5 ⟨rfl, hg5⟩)
        have hG1 := grown_trans hG0 (hg5)
        refine hK.out _ _ hG1 ?_
        clear hK K
        repeat (first
          | (refine ord_skipB rfl (by rfl) ?_; simp only [Act.put, List.setIfInBounds_toArray, List.set_cons_zero, List.set_cons_succ])
          | (refine ord_qE rfl (by rfl) ?_; apply Exists.intro; refine ⟨fun w' hc' => ?_, ?_⟩; (focus (go_simp; (try go_bits); (try simp only [↓IntWalk.iteOmega]); with_reducible rfl)); simp only [Act.put, List.setIfInBounds_toArray, List.set_cons_zero, List.set_cons_succ]))
        refine ord_end ?_
        have hs5 := Hst.out.quiet hG1
        have HS5 := Lib.hid hs5
        clear hs5 x0 x1 x2 y0 y1 y2 hgl hG0 hG1
        go_wp2
        go_roundw
        case rel => exact ⟨i, hh, rfl, by go_num, hmi, hih, by omega, HS5.out, H1.out, fun t z' ht hz' => leN_trans (le_of_cmp HD.out (by omega)) (srt_get HV.out ht Hz.out hz')⟩
        case measure => simp [intOf] <;> omega
    · obtain rfl : i = j := by omega
      have hki : ¬ (i : Int) < i := by omega
      have hfin : SrtN (V.take (i - m) ++ x :: V.drop (i - m)) := one_left HV.out h1 h2
      have hperm : (V.take (i - m) ++ x :: V.drop (i - m)).Perm (x :: V) := by
        refine List.perm_middle.trans ?_
        rw [List.take_append_drop]
      have hst' : SortSt w0 base A n c (A0 ++ V.take (a - a) ++ x :: V.drop (a - a) ++ B) wr := by rw [Nat.sub_self]; simpa using hst
      have Hst := Lib.hid hst'; have HFin := Lib.hid hfin; have HPerm := Lib.hid hperm
      have hia : a + 1 ≤ i := by have := Hm.out; omega
      have hi1 : IntKind.i64.wrap ((i : Int) - 1) = ((i - 1 : Nat) : Int) := by rw [IntKind.wrap_i64]; omega
      obtain ⟨i1, hi1e⟩ : ∃ q, i - 1 = q := ⟨_, rfl⟩
      rw [hi1e] at hi1
      have hin : i ≤ n := by omega
      clear h1 h2 hst hst' hfin hperm
      go_wp2
      go_loopw [13] (fun v wr => ∃ k : Nat, v = .int .i64 k ∧ a ≤ k ∧ k ≤ i1 ∧ SortSt w0 base A n c (A0 ++ V.take (k - a) ++ x :: V.drop (k - a) ++ B) wr) (fun v _ => i1 - (intOf v).toNat)
      case atStart => exact ⟨a, rfl, Nat.le_refl _, by omega, Hst.out⟩
      case round =>
        clear Hst
        obtain ⟨k, rfl, hak, hki1, hst⟩ := hrel
        by_cases hlt2 : k < i1
        · have hkk : (k : Int) < i1 := by omega
          obtain ⟨z, hz⟩ : ∃ z, V[k - a]? = some z := ⟨_, List.getElem?_eq_getElem (by have := Hb.out; have := Hm.out; omega)⟩
          have hdr := take_set_drop hz
          have htl : (V.take (k - a)).length = k - a := by rw [List.length_take]; have := (List.getElem?_eq_some_iff.1 hz).1; omega
          have hAl : k = (A0 ++ V.take (k - a)).length := by rw [List.length_append, htl, HA.out]; omega
          have hL : A0 ++ V.take (k - a) ++ x :: V.drop (k - a) ++ B = (A0 ++ V.take (k - a)) ++ x :: (z :: (V.drop (k - a + 1) ++ B)) := by rw [hdr]; simp
          have hL2 : A0 ++ V.take (k - a) ++ x :: V.drop (k - a) ++ B = (A0 ++ V.take (k - a) ++ [x]) ++ z :: (V.drop (k - a + 1) ++ B) := by rw [hdr]; simp
          have g2 : (A0 ++ V.take (k - a) ++ x :: V.drop (k - a) ++ B)[k]? = some x := by rw [hL]; exact mid_get hAl
          have g1 : (A0 ++ V.take (k - a) ++ x :: V.drop (k - a) ++ B)[k + 1]? = some z := by rw [hL2]; exact mid_get (by rw [List.length_append, ← hAl]; rfl)
          have hkn : k + 1 < n := by have := (List.getElem?_eq_some_iff.1 g1).1; rw [hst.len] at this; exact this
          obtain ⟨g, rfl⟩ : ∃ g, A = some ⟨g, 0, none⟩ := own_some hst.own (by omega)
          have hnext : ((A0 ++ V.take (k - a) ++ x :: V.drop (k - a) ++ B).set k z).set (k + 1) x = A0 ++ V.take (k + 1 - a) ++ x :: V.drop (k + 1 - a) ++ B := by
            rw [List.set_comm _ _ (by omega), hL, set_pair hAl, show k + 1 - a = k - a + 1 by omega, List.take_add_one, hz]
            simp
          have e0 : ((k : Int) + 1).toNat = k + 1 := by omega
          have jz : (k : Int) + 1 < n := by omega
          have jz1 : (k : Int) < n := by omega
          have p0 : (0 : Int) ≤ (k : Int) + 1 := by omega
          have wk : IntKind.i64.wrap ((k : Int) + 1) = (k : Int) + 1 := by rw [IntKind.wrap_i64]; omega
          obtain ⟨W1, W2, s1, s2, hs2⟩ := hst.swap g2 g1
          have lx := (hst.quiet (grown_drew wr none)).load g2
          have ly := (hst.quiet (grown_drew wr none)).load g1
          obtain ⟨cx, hcx⟩ : ∃ zq, Node.list x = zq := ⟨_, rfl⟩
          obtain ⟨cy, hcy⟩ : ∃ zq, Node.list z = zq := ⟨_, rfl⟩
          have lcx : cx.length = 3 := by rw [← hcx]; rfl
          have lcy : cy.length = 3 := by rw [← hcy]; rfl
          rw [hcx] at lx s2
          rw [hcy] at ly s1
          rw [hnext] at hs2
          have HS2 := Lib.hid hs2
          clear hcx hcy hs2 hst hnext g1 g2 hL hL2 hAl htl hdr hz
          go_wp2
          have mixed : Try.prog.follows .mixedOrders = true := by kernel_rfl
          have t23 := Try.underlying23
          have t3 := Try.intU
          have u23 := run_underlying Try.underlying23
          have u3 := run_underlying Try.intU
          have aE := Try.nodeAgg; have a23 := Try.nodesAgg; have z23 := Try.nodesSize
          obtain ⟨q, hq⟩ : ∃ q, 3 = q := ⟨3, rfl⟩
          rw [hq] at lx ly s1 s2 lcx lcy
          have zE : ∀ w, (Go.sizeOf 29).run Try.prog w = .ok q w := fun w => by rw [← hq]; exact Try.nodeSize w
          clear hq
          generalize hP : Try.prog = P at mixed t23 t3 u23 u3 aE zE a23 z23 lx ly s1 s2 ⊢
          go_big_region_o
          subst hP
          clear mixed t23 t3 u23 u3 aE zE a23 z23 lx ly s1 s2 lcx lcy
          all_goals go_wp2
          go_roundw
          case rel => exact ⟨k + 1, by go_num, by omega, by omega, HS2.out⟩
          case measure => simp [intOf] <;> omega
        · obtain rfl : k = i1 := by omega
          have hkk : ¬ (k : Int) < k := by omega
          have hkm : k - a = i - m := by have := Hm.out; omega
          rw [hkm] at hst
          have Hst := Lib.hid hst
          clear hst
          go_wp2
          refine bodyPost_ret (results_none rfl _ _ _) rfl ?_
          exact ⟨rfl, V.take (i - m) ++ x :: V.drop (i - m), HPerm.out, HFin.out, by have h := Hst.out; simp only [List.append_assoc, List.cons_append] at h ⊢; exact h⟩
end Go.Proofs.Ytdjlchbgdehccaa
