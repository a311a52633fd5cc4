/- shuntref6.Kids. -/
import Derived.Test.YthmeffpickejkaaGreatNamesR
namespace Go.Proofs.YthmeffpickejkaaGreat
open Go.RowKit

set_option maxRecDepth 100000 in
set_option maxHeartbeats 2000000 in
theorem rkids6_any (t : TV) (p : ByteArray) (w : World) (h : TreeAt w t) (hbd : t.nn ≤ 1000000) : Calls Tryz.prog 28 #[t.val, .string p] w (TextsRes w (picks (kidsF p) t.nodes)) := by
  have hns := h.ns
  have hnl := h.nl
  obtain ⟨nodes, files, NA, nn, nc, FA, fn, fc⟩ := t
  simp only at hns hnl hbd
  have HS := Lib.hid hns; clear hns
  have Hn := Lib.hid hnl; clear hnl h
  unfold TV.val
  have hB0 := Blk.new w 25 #[.slice NA nn nc, .slice FA fn fc]
  have hb0 := (Below.refl w.heap.size w).alloc (Nat.le_refl _) (.cells #[.slice NA nn nc, .slice FA fn fc] 25)
  obtain ⟨base, hbase⟩ : ∃ base, base = w.heap.size + 1 := ⟨_, rfl⟩
  have hbl : w.heap.size < base := by omega
  have hbl2 : base ≤ (w.alloc (.cells #[.slice NA nn nc, .slice FA fn fc] 25)).heap.size := by simp; omega
  clear hbase
  go_enter Tryz.func28, Tryz.ntmps28
  go_wp2
  go_loopw [5, 6] (fun v i wr => ∃ k : Nat, k ≤ nn ∧ i = .int .i64 k ∧ base ≤ wr.heap.size ∧ TextsAt (kidsF p) nodes base w wr #[.slice NA nn nc, .slice FA fn fc] v k) (fun _ i _ => nn - (intOf i).toNat)
  case atStart => exact ⟨0, Nat.zero_le _, rfl, hbl2, none, 0, 0, [], rfl, rfl, Nat.le_refl _, World.ownsRow_nil _ _ _ _, rfl, hB0, hb0⟩
  case round =>
    clear hB0 hb0 hbl2
    obtain ⟨k, hk, rfl, hbs, A, n, c, ps, rfl, hn, hnk, ho, hp, hB, hb⟩ := hrel
    have Ho := Lib.hid ho; clear ho
    have HN := Lib.hid hn; clear hn
    have b0 := hB.cell 0
    by_cases hlt : k < nn
    · have hki : (k : Int) < nn := by omega
      obtain ⟨xb, xo, x, rfl, hxb, hx, hc⟩ := (HS.out.keep (Nat.le_refl _) hb.block).get Node.len Hn.out hlt
      have c0 := hc 0 _ rfl
      simp only [Nat.add_zero] at c0
      clear hc
      rw [drop_at' hx] at hp
      clear hx
      have hxs : x.path.size ≤ 9223372036854775807 := x.hp
      have hxw : xb < wr.heap.size := by have := hb.size; omega
      have hBl := hB.lt
      cases hq : (kidsF p) x with
      | true =>
        rw [picks_yes hq] at hp
        have HP := Lib.hid (show picks (kidsF p) nodes = (ps ++ [x.path]) ++ picks (kidsF p) (nodes.drop (k + 1)) by rw [hp]; simp)
        have HS2 := Lib.hid (strs_snoc ps x.path)
        clear hp
        have q1 : ((parentB x.path).toList == p.toList) = true := hq
        have HQ := Lib.hid hq; clear hq
        go_upto_region 6 with (go_at_call 49; refine (rparent_any x.path _ hxs).mono ?_; rintro e w3 ⟨rfl, hb3⟩)
        replace c0 := (hb3.cell (p := ⟨xb, xo + k * 3, none⟩) hxw).trans c0
        replace Ho := Lib.hid (own_keep1 Ho.out hb3 (Nat.le_refl _))
        replace hB := hB.below hb3 hBl
        replace hb := hb.trans (hb3.mono hb.size)
        have b0 := hB.cell 0
        replace hbs := Nat.le_trans hbs hb3.size
        clear hxw hBl
        go_wp2_with (at_builtin; refine wpList_append_one rfl _ _ _ rfl Tryz.strT rfl Ho.out #[.string x.path] rfl (by simp) rfl (str_one _) (by unfold maxLen; omega) (by omega) hbs ?_; intro g1 c1 w4 ho4 hg4 hat4)
        go_roundw
        case rel => exact ⟨k + 1, by omega, by go_num, by have := hg4.size; omega, some ⟨g1, 0, none⟩, n + 1, c1, ps ++ [x.path], rfl, by rw [List.length_append, HN.out]; rfl, by omega, by rw [HS2.out]; exact ho4, HP.out, hB.grown hg4 (ne_own1 Ho.out hbl), hb.trans (below_grown hg4 hb.size (fun g e => Nat.le_trans (Nat.le_of_lt hbl) (own_blk1 Ho.out g e)))⟩
        case measure => simp [intOf]; omega
      | false =>
        rw [picks_no hq] at hp
        have HP := Lib.hid hp; clear hp
        have q1 : ((parentB x.path).toList == p.toList) = false := hq
        have HQ := Lib.hid hq; clear hq
        · go_wp2_with (go_at_call 49; refine (rparent_any x.path _ hxs).mono ?_; rintro e w3 ⟨rfl, hb3⟩)
          replace Ho := Lib.hid (own_keep1 Ho.out hb3 (Nat.le_refl _))
          replace hB := hB.below hb3 hBl
          replace hb := hb.trans (hb3.mono hb.size)
          replace hbs := Nat.le_trans hbs hb3.size
          go_roundw
          case rel => exact ⟨k + 1, by omega, by go_num, hbs, A, n, c, ps, rfl, HN.out, by omega, Ho.out, HP.out, hB, hb⟩
          case measure => simp [intOf]; omega
    · obtain rfl : k = nn := by omega
      have hki : ¬ (k : Int) < k := by omega
      rw [List.drop_of_length_le (by rw [Hn.out]; exact Nat.le_refl _)] at hp
      have HP := Lib.hid (show picks (kidsF p) nodes = ps by rw [hp]; simp [picks])
      clear hp
      go_wp2
      go_ret
      exact ⟨A, n, c, rfl, by rw [HP.out]; exact HN.out, by rw [HP.out]; exact Sl.of_own Ho.out, hb⟩
end Go.Proofs.YthmeffpickejkaaGreat
