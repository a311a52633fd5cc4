/- shuntlaw11.Much and sameSources. -/
import Derived.Test.YtcnpncieibmngaaPair
import Derived.Test.YtcnpncieibmngaaAliveM
import Derived.Test.YtcnpncieibmngaaMuch7
import Derived.Test.YtcnpncieibmngaaBig
namespace Go.Proofs.Ytcnpncieibmngaa
open Go.RowKit

def Much11 (s t : TV) (w : World) (e : Ending) (w' : World) : Prop := ∃ b : Bool, e = .returned (.bool b) ∧ (b = false → s.nn ≤ 300 ∧ s.fn ≤ 300 ∧ t.nn ≤ 300 ∧ t.fn ≤ 300) ∧ Below w.heap.size w w'
set_option maxHeartbeats 1000000 in
theorem much11_any (s t : TV) (SA : Option Addr) (sn sc : Nat) (ss : List SC) (sd : List ByteArray) (w : World) (hs : TreeAt w s) (ht : TreeAt w t) (hS : StockAt w SA sn ss sd) : Calls Try.prog 14 #[pairVal s t SA sn sc] w (Much11 s t w) := by
  have HS := Lib.hid hs; have HT := Lib.hid ht; have HK := Lib.hid hS
  clear hs ht hS
  obtain ⟨nodes, files, NA, nn, nc, FA, fn, fc⟩ := s
  obtain ⟨nodes', files', NB, mn, mc, FB, fm, md⟩ := t
  unfold pairVal
  simp only
  have hB := Blk.new w 38 #[.slice NA nn nc, .slice FA fn fc, .slice NB mn mc, .slice FB fm md, .slice SA sn sc]
  have hb := (Below.refl w.heap.size w).alloc (Nat.le_refl _) (.cells #[.slice NA nn nc, .slice FA fn fc, .slice NB mn mc, .slice FB fm md, .slice SA sn sc] 38)
  have b0 := hB.cell 0; have b1 := hB.cell 1; have b2 := hB.cell 2; have b3 := hB.cell 3; have b4 := hB.cell 4
  have tok1 : True := trivial
  go_enter Try.func14, Try.ntmps14
  go_upto_region 4 with (first | (have _t := tok1; go_at_call 10; refine (lbig_any ⟨nodes, files, NA, nn, nc, FA, fn, fc⟩ _ (HS.out.keep hb)).mono ?_; rintro e w1 ⟨x, rfl, hx, hb1⟩; replace hB := hB.below hb1 hB.lt; replace hb := hb.trans (hb1.mono hb.size); have b2 := hB.cell 2; have b3 := hB.cell 3; have b4 := hB.cell 4; clear tok1 _t) | (go_at_call 10; refine (lbig_any ⟨nodes', files', NB, mn, mc, FB, fm, md⟩ _ (HT.out.keep hb)).mono ?_; rintro e w2 ⟨y, rfl, hy, hb2⟩; replace hB := hB.below hb2 hB.lt; replace hb := hb.trans (hb2.mono hb.size); have b4 := hB.cell 4) | (go_at_call 39; refine (much7 SA sn sc ss sd _ (HK.out.keep hb)).mono ?_; rintro e w3 ⟨z, rfl, hb3⟩; replace hb := hb.trans (hb3.mono hb.size)))
  have Hx := Lib.hid hx; have Hy := Lib.hid hy
  clear hx hy
  cases x
  · cases y
    · cases z
      · go_wp2
        go_ret
        exact ⟨false, rfl, fun _ => ⟨(Hx.out trivial).1, (Hx.out trivial).2, (Hy.out trivial).1, (Hy.out trivial).2⟩, hb⟩
      · go_wp2
        go_ret
        exact ⟨true, rfl, (fun h => nomatch h), hb⟩
    · go_wp2
      go_ret
      exact ⟨true, rfl, (fun h => nomatch h), hb⟩
  · go_wp2
    go_ret
    exact ⟨true, rfl, (fun h => nomatch h), hb⟩
set_option maxHeartbeats 1000000 in
/-- Two lists of the same sources. -/
theorem sameSrc_yes (A B : Option Addr) (n c d : Nat) (L : List Src) (w : World) (hl : L.length = n) (hA : Sl w w.heap.size 3 A n (L.flatMap Src.list)) (hB : Sl w w.heap.size 3 B n (L.flatMap Src.list)) (hn : n ≤ 9223372036854775807) :
    Calls Try.prog 18 #[.slice A n c, .slice B n d] w fun e w' => e = .returned (.bool true) ∧ Below w.heap.size w w' := by
  have HA := Lib.hid hA; have HB := Lib.hid hB; have HL := Lib.hid hl
  clear hA hB hl
  go_enter Try.func18, Try.ntmps18
  go_wp2
  go_loopw [5] (fun v wr => ∃ k : Nat, k ≤ n ∧ v = .int .i64 k ∧ w.grownBy wr none) (fun v _ => n - (intOf v).toNat)
  case atStart => exact ⟨0, Nat.zero_le _, rfl, ⟨rfl, rfl, rfl, Nat.le_refl _, fun _ _ _ => rfl⟩⟩
  case round =>
    obtain ⟨k, hk, rfl, hg⟩ := hrel
    by_cases hlt : k < n
    · have hki : (k : Int) < n := by omega
      have hbel := below_grown (B := w.heap.size) hg (Nat.le_refl _) (fun g e => by cases e)
      obtain ⟨b, o, x, rfl, hbl, hx, hc⟩ := (HA.out.below hbel (Nat.le_refl _)).get Src.len HL.out hlt
      obtain ⟨b', o', x', rfl, hbl', hx', hc'⟩ := (HB.out.below hbel (Nat.le_refl _)).get Src.len HL.out hlt
      obtain rfl : x = x' := by rw [hx] at hx'; injection hx'
      have c0 := hc 0 _ rfl; have c1 := hc 1 _ rfl; have c2 := hc 2 _ rfl
      have d0 := hc' 0 _ rfl; have d1 := hc' 1 _ rfl; have d2 := hc' 2 _ rfl
      simp only [Nat.add_zero] at c0 c1 c2 d0 d1 d2
      have hbw : b < wr.heap.size := Nat.lt_of_lt_of_le hbl hg.size
      have hbw' : b' < wr.heap.size := Nat.lt_of_lt_of_le hbl' hg.size
      clear hc hc' hx hx' hbel
      go_upto_region 6 with (fail)
      refine wp_region_ordB (none) [(0, true), (1, true), (2, true), (3, true), (4, true), (5, true), (6, true), (7, true), (8, true)] (by kernel_rfl) (by kernel_rfl) fun hG0 => ?_
      repeat (first
        | (refine ord_skipB rfl (by rfl) ?_; simp only [Act.put, List.setIfInBounds_toArray, List.set_cons_zero, List.set_cons_succ])
        | (refine ord_qE rfl (by rfl) ?_; apply Exists.intro; refine ⟨fun w' hc' => ?_, ?_⟩; (focus (go_simp; (try go_bits); (try simp only [↓IntWalk.iteOmega]); with_reducible rfl)); simp only [Act.put, List.setIfInBounds_toArray, List.set_cons_zero, List.set_cons_succ]))
      refine ord_end ?_
      have hg2 := grown_trans hg hG0
      clear c0 c1 c2 d0 d1 d2
      go_wp2
      go_roundw
      case rel => exact ⟨k + 1, by omega, by go_num, hg2⟩
      case measure => simp [intOf]; omega
    · have hki : ¬ (k : Int) < n := by omega
      go_wp2
      go_ret
      exact ⟨rfl, below_grown hg (Nat.le_refl _) (fun g e => by cases e)⟩
end Go.Proofs.Ytcnpncieibmngaa
