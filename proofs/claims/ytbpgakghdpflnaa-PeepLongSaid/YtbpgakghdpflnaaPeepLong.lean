/- PeepLong. -/
import Derived.Test.YtbpgakghdpflnaaGrows
import Derived.Test.YtbpgakghdpflnaaStore
namespace Go.Proofs.Ytbpgakghdpflnaa.peepLongDone
open Go.ChangeShapes Go.WideShapes Go.ChangeAt Go.RowKit Go.Deep

/-- What stands ahead of each round of the filling loop. -/
def FillAt (w wr : World) (g n k : Nat) : Prop := ∃ L, wr.ownsRow w.heap.size 26 5 (.slice (some ⟨g, 0, none⟩) n n) n L ∧ L.take (k * 5) = insL (upTo k) ∧ Below w.heap.size w wr
theorem FillAt.call {w wr w1 : World} {g n k : Nat} (h : FillAt w wr g n k) (hb : Below wr.heap.size wr w1) : FillAt w w1 g n k := by
  obtain ⟨L, h1, h2, h3⟩ := h
  exact ⟨L, own_below h1 hb (Nat.le_refl _), h2, h3.trans (hb.mono h3.size)⟩
theorem FillAt.step {w wr w1 : World} {g n k : Nat} {L : List Value} (ho : wr.ownsRow w.heap.size 26 5 (.slice (some ⟨g, 0, none⟩) n n) n L) (ht : L.take (k * 5) = insL (upTo k)) (hb : Below w.heap.size w wr) (hk : k < n)
    (h1 : w1.ownsRow w.heap.size 26 5 (.slice (some ⟨g, 0, none⟩) n n) n (L.take (k * 5) ++ (ren k (k + 1)).cells.toList ++ L.drop ((k + 1) * 5))) (hg : wr.grownBy w1 (some g)) : FillAt w w1 g n (k + 1) :=
  ⟨_, h1, by rw [take_set (sz := 5) rfl (by rw [ho.1]; exact Nat.mul_le_mul_right _ (by omega)), ht, upTo_succ, insL_snoc], hb.trans (below_grown hg hb.size (own_blk ho))⟩
theorem FillAt.sl {w wr : World} {g n : Nat} (h : FillAt w wr g n n) : Sl wr wr.heap.size 5 (some ⟨g, 0, none⟩) n (insL (upTo n)) := by
  obtain ⟨L, h1, h2, h3⟩ := h
  rw [List.take_of_length_le (by rw [h1.1]; exact Nat.le_refl _)] at h2
  rw [← h2]; exact Sl.of_own h1
theorem FillAt.lt {w wr : World} {g n k : Nat} (h : FillAt w wr g n k) : g < wr.heap.size := (own_lt h.choose_spec.1).2.1

set_option maxHeartbeats 4000000 in
theorem walk (n : Int) (w : World) (_ : (Lit.int .i64 n).wf = true) :
    Calls Try.prog 5 #[.int .i64 n] w fun e w' => e = .returned (.bool true) ∧ Below w.heap.size w w' := by
  by_cases h1 : n < 2
  · go_enter Try.func5, Try.ntmps5
    go_wp2_with (go_at_call 10; refine (alive_any _).mono ?_; rintro e w1 ⟨rfl, hb1⟩)
    go_ret
    exact ⟨rfl, hb1⟩
  by_cases h3 : 4100 < n
  · go_enter Try.func5, Try.ntmps5
    go_wp2_with (go_at_call 10; refine (alive_any _).mono ?_; rintro e w1 ⟨rfl, hb1⟩)
    go_ret
    exact ⟨rfl, hb1⟩
  obtain ⟨n, rfl⟩ := Int.eq_ofNat_of_zero_le (show 0 ≤ n by omega)
  have hn3 : n ≤ 4100 := by omega
  have hn1 : 2 ≤ n := by omega
  have hg := Try.eqGuardType26
  go_enter Try.func5, Try.ntmps5
  go_wp2_with (first | (go_at_call 10; refine (alive_any _).mono ?_; rintro e w1 ⟨rfl, hb1⟩; have hs1 := hb1.size) | (refine wpList_make_own rfl _ _ rfl Try.insT rfl rfl (by omega) (by unfold maxLen; omega) hs1 ?_; intro g w2 L ho2 hg2))
  have hF0 : FillAt w w2 g n 0 := ⟨L, ho2, by simp [upTo, insL], hb1.trans (below_grown hg2 hs1 (fun g e => by cases e))⟩
  clear ho2 hg2 hb1 hs1
  go_loopw [5] (fun i wr => ∃ k : Nat, k ≤ n ∧ i = .int .i64 k ∧ FillAt w wr g n k) (fun i _ => n - (intOf i).toNat)
  case atStart => exact ⟨0, Nat.zero_le _, rfl, hF0⟩
  case round =>
    obtain ⟨k, hk, rfl, hF⟩ := hrel
    replace hF0 := Lib.hid hF0
    by_cases hlt : k < n
    · have hki : (k : Int) < n := by omega
      obtain ⟨L', ho, ht, hbw⟩ := hF
      replace ht := Lib.hid ht
      have hws := hbw.size
      go_wp2_with (first | (go_at_call 16; (first | ((with_reducible refine (name_any k (by omega) _).mono ?_); rintro e w3 ⟨rfl, hb3⟩) | ((with_reducible refine (name_succ k (by omega) _).mono ?_); rintro e w3 ⟨rfl, hb3⟩)); replace ho := own_below ho hb3 (Nat.le_refl _); replace hbw := hbw.trans (hb3.mono hbw.size); have hws := hbw.size) | ((refine wpList_store_own (sz := 5) (k := k) (off := k * 5) rfl 26 _ _ rfl ho hlt rfl rfl (ren k (k + 1)).cells rfl rfl (by kernel_rfl) (Ins.cells_one (ren k (k + 1))) ?_); intro w5 ho5 hg5))
      go_roundw
      case rel => exact ⟨k + 1, by omega, by go_num, FillAt.step ho ht.out hbw hlt ho5 hg5⟩
      case measure => simp [intOf]; omega
    · obtain rfl : k = n := by omega
      have hS := Lib.hid hF.sl
      have hbw := hF.choose_spec.2.2
      have hws := hbw.size
      have hglt := hF.lt
      clear hF hF0
      by_cases h4 : 4096 < k
      · go_wp2_with (first | (go_at_call 12; refine (run_long _ _ _ _ _ h4).mono ?_; rintro e w6 ⟨rfl, hb6⟩; replace hbw := hbw.trans (hb6.mono hbw.size)) | (go_at_call 15; refine (num_any _ _).mono ?_; rintro e w7 ⟨rfl, hb7⟩; replace hbw := hbw.trans (hb7.mono hbw.size)))
        go_ret
        exact ⟨rfl, hbw⟩
      · obtain ⟨s0, hs0⟩ : ∃ s, nameB 0 = s := ⟨_, rfl⟩
        obtain ⟨sn, hsn⟩ : ∃ s, nameB k = s := ⟨_, rfl⟩
        have hP : peepF 1 (upTo k) = [⟨3, s0, sn, 0, 0⟩] := by rw [← hs0, ← hsn]; exact long_one k hn1 (by omega)
        have hP6 := long_six k
        have hlen := upTo_length k
        replace hP := Lib.hid hP
        replace hP6 := Lib.hid hP6
        replace hlen := Lib.hid hlen
        replace hs0 := Lib.hid hs0
        replace hsn := Lib.hid hsn
        go_upto_region 10 with (go_at_call 12; refine (run_one hP.out hS.out hlen.out (by omega) (by omega) (by omega)).mono ?_; rintro e w6 ⟨b, o, c6, rfl, hbl, ⟨x0, x1, x2, x3, x4⟩, hb6⟩; replace hbw := hbw.trans (hb6.mono hbw.size))
        replace hS := Lib.hid (hS.out.keep hb6.size hb6.block)
        go_upto_region 13 with (go_at_call 12; refine (run_sl _ 6 _ _ _ _ _ hP6.out hS.out hlen.out (by omega) (by omega) (by omega)).mono ?_; rintro e w7 ⟨A7, c7, rfl, ho7, hb7⟩; rw [hlen.out]; replace ho7 := Lib.hid ho7; replace hbw := hbw.trans (hb7.mono hbw.size); have hb7' := hb7.block b hbl)
        obtain ⟨y0, y1, y2, y3, y4⟩ := Ins.at_keep (x := ⟨3, s0, sn, 0, 0⟩) ⟨x0, x1, x2, x3, x4⟩ hb7'
        clear x0 x1 x2 x3 x4
        have hbl7 : b < w7.heap.size := by have := hb7.size; omega
        have q1 : Ins.eqb ⟨3, s0, sn, 0, 0⟩ ⟨3, s0, sn, 0, 0⟩ = true := Ins.eqb_self _
        refine wp_region_ordB (none) [(0, true), (1, true), (2, true), (3, false), (4, true), (5, true), (6, true), (7, true), (8, true), (9, true), (10, true), (11, true), (12, true), (13, true), (14, true), (16, true), (15, false), (17, false), (18, true), (19, true), (20, true), (21, true), (22, true), (23, false), (24, true), (25, true), (26, true), (27, true), (28, true), (29, true), (30, true), (31, true), (32, true)] (by kernel_rfl) (by kernel_rfl) fun hG0 => ?_
        repeat (first
          | (refine ord_skipB rfl (by rfl) ?_; simp only [Act.put, List.setIfInBounds_toArray, List.set_cons_zero, List.set_cons_succ])
          | (refine ord_qE rfl (by rfl) ?_; apply Exists.intro; refine ⟨fun w' hc' => ?_, ?_⟩; (focus (go_simp; (try go_bits); (try simp only [↓IntWalk.iteOmega]); with_reducible rfl)); simp only [Act.put, List.setIfInBounds_toArray, List.set_cons_zero, List.set_cons_succ]))
        refine ord_eB rfl fun K hK => ?_
        go_wp2_with (go_at_call 15; refine (num_any _ _).mono ?_; rintro e w8 ⟨rfl, hb8⟩)
        have hG1 := grown_trans hG0 (grown_below hb8 (Nat.le_refl _))
        refine hK.out _ _ hG1 ?_
        clear hK K
        repeat (first
          | (refine ord_skipB rfl (by rfl) ?_; simp only [Act.put, List.setIfInBounds_toArray, List.set_cons_zero, List.set_cons_succ])
          | (refine ord_qE rfl (by rfl) ?_; apply Exists.intro; refine ⟨fun w' hc' => ?_, ?_⟩; (focus (go_simp; (try go_bits); (try simp only [↓IntWalk.iteOmega]); with_reducible rfl)); simp only [Act.put, List.setIfInBounds_toArray, List.set_cons_zero, List.set_cons_succ]))
        refine ord_eB rfl fun K hK => ?_
        go_wp2_with (go_at_call 16; refine (name_lit hs0.out (by omega) (x := 0) rfl _).mono ?_; rintro e w9 ⟨rfl, hb9⟩)
        have hG2 := grown_trans hG1 (grown_below hb9 (Nat.le_refl _))
        refine hK.out _ _ hG2 ?_
        clear hK K
        repeat (first
          | (refine ord_skipB rfl (by rfl) ?_; simp only [Act.put, List.setIfInBounds_toArray, List.set_cons_zero, List.set_cons_succ])
          | (refine ord_qE rfl (by rfl) ?_; apply Exists.intro; refine ⟨fun w' hc' => ?_, ?_⟩; (focus (go_simp; (try go_bits); (try simp only [↓IntWalk.iteOmega]); with_reducible rfl)); simp only [Act.put, List.setIfInBounds_toArray, List.set_cons_zero, List.set_cons_succ]))
        refine ord_eB rfl fun K hK => ?_
        go_wp2_with (go_at_call 16; refine (name_lit hsn.out (by omega) rfl _).mono ?_; rintro e w10 ⟨rfl, hb10⟩)
        have hG3 := grown_trans hG2 (grown_below hb10 (Nat.le_refl _))
        refine hK.out _ _ hG3 ?_
        clear hK K
        repeat (first
          | (refine ord_skipB rfl (by rfl) ?_; simp only [Act.put, List.setIfInBounds_toArray, List.set_cons_zero, List.set_cons_succ])
          | (refine ord_qE rfl (by rfl) ?_; apply Exists.intro; refine ⟨fun w' hc' => ?_, ?_⟩; (focus (go_simp; (try go_bits); (try simp only [↓IntWalk.iteOmega]); with_reducible rfl)); simp only [Act.put, List.setIfInBounds_toArray, List.set_cons_zero, List.set_cons_succ]))
        refine ord_eB rfl fun K hK => ?_
        go_wp2_with (go_at_call 15; refine (num_any _ _).mono ?_; rintro e w11 ⟨rfl, hb11⟩)
        have hG4 := grown_trans hG3 (grown_below hb11 (Nat.le_refl _))
        refine hK.out _ _ hG4 ?_
        clear hK K
        repeat (first
          | (refine ord_skipB rfl (by rfl) ?_; simp only [Act.put, List.setIfInBounds_toArray, List.set_cons_zero, List.set_cons_succ])
          | (refine ord_qE rfl (by rfl) ?_; apply Exists.intro; refine ⟨fun w' hc' => ?_, ?_⟩; (focus (go_simp; (try go_bits); (try simp only [↓IntWalk.iteOmega]); with_reducible rfl)); simp only [Act.put, List.setIfInBounds_toArray, List.set_cons_zero, List.set_cons_succ]))
        refine ord_end ?_
        go_wp2
        go_ret
        exact ⟨rfl, hbw.trans (below_grown hG4 (by have := hbw.size; omega) (fun g e => by cases e))⟩

set_option maxRecDepth 100000 in
theorem lifted (os : Os) (started : os.Started) (H : Type) (enc : TypeId × Value → H) :
    ReturnsInHanded {} Try.checked os 5 .any (Rows.peepLongSpec.pre6 enc Try.prog Try.f5 Rows.peepLongRow.domain false) (Rows.peepLongSpec.post enc Try.prog Try.f5 false true false false) := by
  refine returnsInHanded_of_change (C := Try.checked) own started (by kernel_rfl) Try.func5
    (ChangeSpec.witness6 (enc := enc) (C := Try.checked) false ⟨#[], #[.int .i64 0], []⟩ 8 (by kernel_rfl) (by kernel_rfl) (by kernel_rfl) (by kernel_rfl)) ?_
  intro W base args ds gs before hval0 hW hcnd _
  have hval : ∀ (j : Nat) t v, Try.f5.params[j]? = some t → args[j]? = some v → Value.okWide Try.prog W .any base t v := hval0
  have hW' := hW
  obtain ⟨p, q, hA0, hV, rfl, hfz, hnd⟩ := hW
  have hA : DataW.TrodAll enc Try.prog W 0 (fun _ => true) true Try.f5.params.toList args.toList ds p := hA0
  rw [Try.params5] at hA hval
  obtain ⟨v0, vs0, d0, ds0, p0, q0, hargs, rfl, rfl, h0, r0⟩ := trodAll_cons hA
  obtain ⟨rfl, rfl, rfl⟩ := trodAll_nil r0
  obtain rfl : args = #[v0] := by cases args; simp_all
  obtain ⟨rfl, rfl⟩ := trodVars_none hV
  obtain ⟨a0, rfl, rfl, rfl, w0⟩ := open_int Try.underlying3 (hval 0 3 v0 rfl rfl) h0
  clear hA0 hval0
  refine (walk a0 W w0).mono fun e W' ⟨he, bel⟩ => ?_
  subst he
  exact ⟨_, rfl, _, _, _, [], _, [], hW', trodAll_mk1 (shut_bool Try.underlying4 _), (trodAll_cons_mk (shut_int Try.underlying3 w0) trodAll_mk0), rfl, bel.frame _, fun h => by cases h⟩

theorem over : Rows.peepLongRow.holds Try.pinned (OpenSpec.ofChange Rows.peepLongSpec) :=
  OpenClaim.holds_of_wide 5 Try.f5 rfl rfl rfl rfl rfl rfl rfl ⟨rfl, rfl, rfl, rfl, rfl⟩ rfl rfl rfl rfl rfl (by kernel_rfl) Try.func5 (by kernel_rfl)
    (of_decide_eq_true (by kernel_rfl)) (by unfold Func.isWrapper; first | (rw [if_pos (by decide +kernel)]; kernel_rfl) | (rw [if_neg (by decide +kernel)]; exact ⟨rfl, rfl⟩))
    (fun os started H enc _ => lifted os started H enc)

theorem proved : Rows.PeepLongSaid := over
#print axioms proved
end Go.Proofs.Ytbpgakghdpflnaa.peepLongDone
