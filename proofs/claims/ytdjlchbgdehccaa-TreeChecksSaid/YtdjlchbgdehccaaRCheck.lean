/- shuntref5.Kept and shuntref6.Check. -/
import Derived.Test.YtdjlchbgdehccaaCheck
import Derived.Test.YtdjlchbgdehccaaBig
namespace Go.Proofs.Ytdjlchbgdehccaa
open Go.RowKit

theorem idx_neg : ∀ m : List UInt8, -1 ≤ Lib.indexByte m 47
  | [] => by simp [Lib.indexByte]
  | b :: t => by
    have ih := idx_neg t
    unfold Lib.indexByte
    split
    · omega
    · split
      · omega
      · omega
theorem cutL_idx : ∀ (m cur : List UInt8), (Lib.indexByte m 47 < 0 → cutL m cur = [cur ++ m]) ∧ (∀ i : Nat, Lib.indexByte m 47 = i → cutL m cur = (cur ++ m.take i) :: cutL (m.drop (i + 1)) [])
  | [], cur => ⟨fun _ => by simp [cutL], fun i h => by have h1 : Lib.indexByte [] 47 = -1 := rfl; omega⟩
  | c :: t, cur => by
    have ih := cutL_idx t (cur ++ [c])
    have hlt := idxB_lt t
    by_cases hc : c = 47
    · subst hc
      have h1 : Lib.indexByte (47 :: t) 47 = 0 := by simp [Lib.indexByte]
      refine ⟨fun h => by omega, fun i h => ?_⟩
      have : i = 0 := by omega
      subst this
      rw [cutL, if_pos (by rfl)]; simp
    · have h1 : ¬ c.toNat = 47 := fun e => hc (UInt8.toNat_inj.1 e)
      rw [cutL, if_neg h1]
      by_cases hn : Lib.indexByte t 47 < 0
      · have h5 := idx_neg t
        have h6 : Lib.indexByte t 47 = -1 := by omega
        have h2 : Lib.indexByte (c :: t) 47 < 0 := by simp [Lib.indexByte, hc, h6]
        exact ⟨fun _ => by rw [ih.1 hn]; simp, fun i h => by omega⟩
      · obtain ⟨j, hj⟩ := Int.eq_ofNat_of_zero_le (show 0 ≤ Lib.indexByte t 47 by omega)
        have h2 : Lib.indexByte (c :: t) 47 = (j : Int) + 1 := by simp [Lib.indexByte, hc, hj]
        refine ⟨fun h => by omega, fun i h => ?_⟩
        have : i = j + 1 := by omega
        subst this
        rw [ih.2 j hj]; simp
theorem parts_cut (s : ByteArray) : ∀ (f a : Nat), a ≤ s.size + 1 → s.size + 2 ≤ f + a → (partsF s f a).map (fun x => x.2.data.toList) = if a ≤ s.size then cutL (s.data.toList.drop a) [] else []
  | 0, a, h1, h2 => by omega
  | f + 1, a, h1, h2 => by
    rw [partsF]
    by_cases ha : a ≤ s.size
    · rw [if_pos ha, if_pos ha, List.map_cons]
      have hg := nextTo_ge s ha
      rw [parts_cut s f (nextTo s a + 1) (by omega) (by omega)]
      have hd : (s.extract a s.size).data.toList = s.data.toList.drop a := by rw [extract_data', List.take_of_length_le (by rw [dlen]; exact Nat.le_refl _)]
      have hk := cutL_idx (s.data.toList.drop a) []
      rw [extract_data']
      unfold nextTo at hg ⊢
      rw [hd] at hg ⊢
      by_cases hn : Lib.indexByte (s.data.toList.drop a) 47 < 0
      · rw [if_pos hn, hk.1 hn, if_neg (by omega), List.take_of_length_le (by rw [dlen]; exact Nat.le_refl _)]; simp
      · obtain ⟨j, hj⟩ := Int.eq_ofNat_of_zero_le (show 0 ≤ Lib.indexByte (s.data.toList.drop a) 47 by omega)
        have hlt := idxB_lt (s.data.toList.drop a)
        rw [if_neg hn, hk.2 j hj, hj, Int.toNat_natCast]
        rw [hj] at hlt
        have hl : j < s.size - a := by
          rcases hlt with h | h
          · omega
          · have := h.2; rw [List.length_drop, dlen] at this; omega
        rw [if_pos (by omega), List.drop_take, List.drop_drop]
        simp only [List.nil_append, List.cons.injEq]
        exact ⟨by congr 1; omega, by congr 2⟩
    · rw [if_neg ha, if_neg ha]; rfl
theorem kept_cut {s : ByteArray} {ps : List ByteArray} (h : datas ps = cutL s.data.toList []) : (parts s).any (fun x => hasTs x.2) = ps.any hasTs := by
  have h1 := parts_cut s (s.size + 2) 0 (by omega) (by omega)
  rw [if_pos (Nat.zero_le _), List.drop_zero, ← h] at h1
  have h2 : (parts s).map (fun x => x.2) = ps := by
    have : ∀ (xs ys : List ByteArray), xs.map (fun x => x.data.toList) = ys.map (fun x => x.data.toList) → xs = ys := fun xs ys e => (List.map_inj_right (fun a b h => ba_ext h)).1 e
    refine this _ _ ?_
    rw [List.map_map]
    exact h1
  rw [← h2, List.any_map]; rfl

set_option maxHeartbeats 1000000 in
theorem rkept_any (s : ByteArray) (w : World) (hs : s.size ≤ 9223372036854775807) : Calls Try.prog 60 #[.string s] w fun e w' => e = .returned (.bool (keptB s)) ∧ Below w.heap.size w w' := by
  cases hv : validL s.data.toList with
  | false =>
    have Hf := Lib.hid (show keptB s = false by simp [keptB, hv])
    have HV := Lib.hid hv; clear hv
    go_enter Try.func60, Try.ntmps60
    go_upto_region 2 with (go_at_call 82; refine (rnames_no s _ hs HV.out).mono ?_; rintro e w1 ⟨ps, A, n, c, rfl, hn, hd, hS, hb1⟩)
    obtain rfl : n = 0 := by rw [← hn, ← datas_length, hd]; rfl
    clear hn hd hS
    go_wp2
    go_loop [4] (fun i => i = .int .i64 0) (fun _ => 0)
    case atStart => rfl
    case round =>
      obtain rfl := hrel
      go_wp2
      go_ret
      exact ⟨by rw [Hf.out]; rfl, hb1⟩
  | true =>
    have hk : ∀ ps, datas ps = cutL s.data.toList [] → keptB s = ps.any hasTs := fun ps h => by rw [keptB, hv, Bool.true_and, kept_cut h]
    have HK := Lib.hid hk; clear hk
    have HV := Lib.hid hv; clear hv
    go_enter Try.func60, Try.ntmps60
    go_upto_region 2 with (go_at_call 82; refine (rnames_ok s _ hs HV.out).mono ?_; rintro e w1 ⟨ps, A, n, c, rfl, hn, hd, hS, hb1⟩)
    have hn' : n ≤ 101 := by
      have h1 := (cutL_len s.data.toList []).2
      have h2 := valid_len HV.out
      rw [← hd, datas_length, hn] at h1
      omega
    have Hf := Lib.hid (HK.out ps hd)
    have HN := Lib.hid hn; have HS := Lib.hid hS
    clear hn hd hS HK
    go_wp2
    go_loop [4] (fun i => ∃ k : Nat, k ≤ n ∧ i = .int .i64 k ∧ ps.any hasTs = (ps.drop k).any hasTs) (fun i => n - (intOf i).toNat)
    case atStart => exact ⟨0, Nat.zero_le _, rfl, rfl⟩
    case round =>
      obtain ⟨k, hk, rfl, hr⟩ := hrel
      by_cases hlt : k < n
      · have hki : (k : Int) < n := by omega
        obtain ⟨b, o, x, rfl, hbl, hx, hc⟩ := HS.out.get strOf_len HN.out hlt
        have c0 := hc 0 _ rfl
        simp only [Nat.add_zero, Nat.mul_one] at c0
        clear hc
        rw [drop_at' hx, List.any_cons] at hr
        clear hx
        by_cases h3 : 3 ≤ x.size
        · have h3i : (3 : Int) ≤ x.size := by omega
          cases hq : ((x.extract 0 3).toList == [46, 116, 115]) with
          | true =>
            have HV2 := Lib.hid (Hf.out.trans (hr.trans (show _ = true by rw [hasTs, decide_eq_true h3, hq]; rfl)))
            clear hr
            go_wp2
            go_ret
            exact ⟨by rw [HV2.out]; rfl, hb1⟩
          | false =>
            have HR := Lib.hid (hr.trans (show _ = (ps.drop (k + 1)).any hasTs by rw [hasTs, hq]; simp))
            clear hr
            go_wp2
            go_round
            case rel => exact ⟨k + 1, by omega, by go_num, HR.out⟩
            case measure => simp [intOf]; omega
        · have h3i : ¬ (3 : Int) ≤ x.size := by omega
          have HR := Lib.hid (hr.trans (show _ = (ps.drop (k + 1)).any hasTs by rw [hasTs, decide_eq_false h3]; rfl))
          clear hr
          go_wp2
          go_round
          case rel => exact ⟨k + 1, by omega, by go_num, HR.out⟩
          case measure => simp [intOf]; omega
      · have hki : ¬ (k : Int) < n := by omega
        have HV2 := Lib.hid (Hf.out.trans (hr.trans (show _ = false by rw [List.drop_of_length_le (by rw [HN.out]; omega)]; rfl)))
        clear hr
        go_wp2
        go_ret
        exact ⟨by rw [HV2.out]; rfl, hb1⟩

set_option maxRecDepth 100000 in
set_option maxHeartbeats 2000000 in
theorem rcheck_any (t : TV) (w : World) (h : TreeAt w t) : Calls Try.prog 36 #[t.val] w (IntRes (checkE t) w) := by
  have HT := Lib.hid h
  have hns := h.ns
  have hnl := h.nl
  have hnm := h.nm
  have hE : checkE t = if 128 < t.nn then 31 else if looseE t ≠ 0 then looseE t else if anyKept t.nodes = true then 30 else 0 := rfl
  clear h
  obtain ⟨E, hL⟩ : ∃ E, looseE t = E := ⟨_, rfl⟩
  rw [hL] at hE
  obtain ⟨R, hR⟩ : ∃ R, checkE t = R := ⟨_, rfl⟩
  rw [hR] at hE ⊢
  have HL := Lib.hid hL; clear hL hR
  obtain ⟨nodes, files, NA, nn, nc, FA, fn, fc⟩ := t
  simp only at hns hnl hnm hE
  have HS := Lib.hid hns; clear hns
  have Hn := Lib.hid hnl; clear hnl
  unfold TV.val
  have hB := Blk.new w 26 #[.slice NA nn nc, .slice FA fn fc]
  have hb := (Below.refl w.heap.size w).alloc (Nat.le_refl _) (.cells #[.slice NA nn nc, .slice FA fn fc] 26)
  have b0 := hB.cell 0
  have b1 := hB.cell 1
  by_cases h1 : 128 < nn
  · have h1i : (128 : Int) < nn := by omega
    have HV := Lib.hid (hE.trans (if_pos h1)); clear hE
    go_enter Try.func36, Try.ntmps36
    go_wp2
    go_ret
    exact ⟨by rw [HV.out]; rfl, hb⟩
  have h1i : ¬ (128 : Int) < nn := by omega
  rw [if_neg h1] at hE
  by_cases h2 : E = 0
  case neg =>
    have HV := Lib.hid (hE.trans (if_pos h2)); clear hE
    have e2 : (E == 0) = false := beq_eq_false_iff_ne.2 h2
    have e3 : (E != 0) = true := bne_iff_ne.2 h2
    go_enter Try.func36, Try.ntmps36
    go_wp2_with (go_at_call 20; refine (rloose_any ⟨nodes, files, NA, nn, nc, FA, fn, fc⟩ _ (HT.out.keep hb)).mono ?_; rintro e w1 ⟨rfl, hb1⟩; rw [HL.out])
    go_ret
    exact ⟨by rw [HV.out]; rfl, hb.trans (hb1.mono hb.size)⟩
  rw [if_neg (by simpa using h2)] at hE
  have HE := Lib.hid hE; clear hE
  have e2 : (E == 0) = true := beq_iff_eq.2 h2
  have e3 : (E != 0) = false := by rw [bne, e2]; rfl
  replace h2 := Lib.hid h2
  go_enter Try.func36, Try.ntmps36
  go_upto_region 6 with (go_at_call 20; refine (rloose_any ⟨nodes, files, NA, nn, nc, FA, fn, fc⟩ _ (HT.out.keep hb)).mono ?_; rintro e w1 ⟨rfl, hb1⟩; rw [HL.out]; replace hB := hB.below hb1 hB.lt; replace hb := hb.trans (hb1.mono hb.size))
  clear b0 b1
  go_wp2
  go_loopw [4] (fun i wr => ∃ k : Nat, k ≤ nn ∧ i = .int .i64 k ∧ anyKept nodes = anyKept (nodes.drop k) ∧ Blk wr w.heap.size 26 #[.slice NA nn nc, .slice FA fn fc] ∧ Below w.heap.size w wr) (fun i _ => nn - (intOf i).toNat)
  case atStart => exact ⟨0, Nat.zero_le _, rfl, rfl, hB, hb⟩
  case round =>
    clear hB hb
    obtain ⟨k, hk, rfl, hr, hB, hb⟩ := hrel
    have b0 := hB.cell 0
    by_cases hlt : k < nn
    · have hki : (k : Int) < nn := by omega
      obtain ⟨xb, xo, x, rfl, hxb, hx, hc⟩ := (HS.out.keep (Nat.le_refl _) hb.block).get Node.len Hn.out hlt
      have c0 := hc 0 _ rfl
      simp only [Nat.add_zero] at c0
      clear hc
      have hxp := x.hp
      have hr2 : anyKept (nodes.drop k) = (keptB x.path || anyKept (nodes.drop (k + 1))) := by rw [drop_at' hx]; exact List.any_cons ..
      rw [hr2] at hr
      clear hx hr2
      cases hq : keptB x.path with
      | true =>
        have HV := Lib.hid (HE.out.trans (if_pos (hr.trans (show _ = true by rw [hq]; rfl))))
        clear hr
        have HQ := Lib.hid hq; clear hq
        go_wp2_with (go_at_call 60; refine (rkept_any x.path _ hxp).mono ?_; rintro e w3 ⟨rfl, hb3⟩; rw [HQ.out])
        go_ret
        exact ⟨by rw [HV.out]; rfl, hb.trans (hb3.mono hb.size)⟩
      | false =>
        have HR := Lib.hid (hr.trans (show _ = anyKept (nodes.drop (k + 1)) by rw [hq]; rfl))
        clear hr
        have HQ := Lib.hid hq; clear hq
        go_wp2_with (go_at_call 60; refine (rkept_any x.path _ hxp).mono ?_; rintro e w3 ⟨rfl, hb3⟩; rw [HQ.out])
        go_roundw
        case rel => exact ⟨k + 1, by omega, by go_num, HR.out, hB.below hb3 hB.lt, hb.trans (hb3.mono hb.size)⟩
        case measure => simp [intOf]; omega
    · obtain rfl : k = nn := by omega
      have hki : ¬ (k : Int) < k := by omega
      have HV := Lib.hid (HE.out.trans (if_neg (by rw [hr, List.drop_of_length_le (by rw [Hn.out]; exact Nat.le_refl _)]; simp [anyKept])))
      clear hr
      go_wp2
      go_ret
      exact ⟨by rw [HV.out]; rfl, hb⟩
end Go.Proofs.Ytdjlchbgdehccaa
