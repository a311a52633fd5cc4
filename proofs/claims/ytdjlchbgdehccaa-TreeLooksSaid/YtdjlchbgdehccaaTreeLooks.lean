/- TreeLooks. -/
import Derived.Test.YtdjlchbgdehccaaAliveT
import Derived.Test.YtdjlchbgdehccaaBig
import Derived.Test.YtdjlchbgdehccaaOpenT
import Derived.Test.YtdjlchbgdehccaaPicks
import Derived.ChangeMaps5
namespace Go.Proofs.Ytdjlchbgdehccaa.treeLooksDone
open Go.ChangeShapes Go.WideShapes Go.ChangeAt Go.RowKit Go.Deep Go.ChangeMaps

theorem cutL_last (n : Nat) : ∀ l : List UInt8, l.length = n → 2 ≤ (cutL l []).length → ∃ a b, l = a ++ 47 :: b ∧ cutL l [] = cutL a [] ++ [b] := by
  induction n with
  | zero => intro l h h2; rw [List.eq_nil_of_length_eq_zero h] at h2; simp [cutL] at h2
  | succ n ih =>
    intro l h h2
    obtain ⟨m, c, rfl⟩ : ∃ m c, l = m ++ [c] := ⟨l.dropLast, l.getLast (by intro e; rw [e] at h; simp at h), (List.dropLast_concat_getLast _).symm⟩
    have hm : m.length = n := by simpa using h
    by_cases hc : c.toNat = 47
    · have : c = 47 := UInt8.toNat_inj.1 hc
      subst this
      exact ⟨m, [], rfl, by rw [cutL_snoc, if_pos hc]⟩
    · rw [cutL_snoc, if_neg hc] at h2
      obtain ⟨a, b, rfl, e⟩ := ih m hm (by simpa using (by
        rw [List.length_append, List.length_dropLast, List.length_singleton] at h2
        omega : 2 ≤ (cutL m []).length))
      refine ⟨a, b ++ [c], by simp, ?_⟩
      rw [cutL_snoc, if_neg hc, e, List.dropLast_concat, List.getLastD_concat]
/-- A path's parent is a path, or none. -/
theorem parent_valid {s : ByteArray} (h : (parentB s).data.toList ≠ []) : validL (parentB s).data.toList = true := by
  cases hv : validL s.data.toList with
  | false => rw [parentB_no hv] at h; exact absurd rfl h
  | true =>
    by_cases h2 : (cutL s.data.toList []).length < 2
    · rw [parentB_one h2] at h; exact absurd rfl h
    · obtain ⟨a, b, hl, hc⟩ := cutL_last _ _ rfl (Nat.le_of_not_lt h2)
      have hb : (cutL s.data.toList []).getLastD [] = b := by rw [hc, List.getLastD_concat]
      have hlen : a.length + (b.length + 1) = s.size := by
        have := congrArg List.length hl
        rw [dlen] at this
        simpa using this.symm
      have hp : (parentB s).data.toList = a := by
        rw [parentB_two hv (by rw [hb]) (by omega), extract_data', List.drop_zero, hl]
        exact List.take_left' (by omega)
      rw [hp, validL_cut]
      have h1 := hv
      rw [validL_cut, hc, List.all_append] at h1
      simp only [Bool.and_eq_true, decide_eq_true_eq, List.length_append, List.length_singleton] at h1 ⊢
      rw [dlen] at h1
      exact ⟨by omega, by omega, h1.2.2.1⟩
theorem kids_none {p : ByteArray} (h1 : p.data.toList ≠ []) (h2 : validL p.data.toList = false) (l : List Node) : picks (kidsF p) l = [] := by
  unfold picks
  rw [List.filter_eq_nil_iff.2, List.map_nil]
  intro y _ hk
  have e : (parentB y.path).data.toList = p.data.toList := by
    rw [kidsF, beq_iff_eq, ByteArray.toList_eq, ByteArray.toList_eq] at hk; exact hk
  have := parent_valid (s := y.path) (by rw [e]; exact h1)
  rw [e, h2] at this
  cases this
theorem sameT_yes (ps qs : List ByteArray) (he : ps = qs) (A B : Option Addr) (n c m d : Nat) (w : World) (hn : ps.length = n) (hS : Sl w w.heap.size 1 A n (ps.flatMap strOf)) (hm : qs.length = m) (hS2 : Sl w w.heap.size 1 B m (qs.flatMap strOf)) (hbd : n ≤ 1000000) (hbd2 : m ≤ 1000000) :
    Calls Try.prog 29 #[.slice A n c, .slice B m d] w fun e w' => e = .returned (.bool true) ∧ Below w.heap.size w w' :=
  (sameT_any ps qs A B n c m d w hn hS hm hS2 hbd hbd2).mono fun _ _ ⟨h1, h2⟩ => ⟨by rw [h1, decide_eq_true he], h2⟩
set_option maxRecDepth 100000 in
set_option maxHeartbeats 4000000 in
theorem walk (t : TV) (ds : List ByteArray) (p : ByteArray) (file : Int) (w : World) (ht : TreeD w t ds) (hp : p.size ≤ maxLen) (_ : (Lit.int .i64 file).wf = true) : Calls Try.prog 6 #[t.val, .string p, .int .i64 file] w fun e w' => e = .returned (.bool true) ∧ Below w.heap.size w w' := by
  have HT := Lib.hid ht.tree
  unfold maxLen at hp
  clear ht
  obtain ⟨E, hE⟩ : ∃ E, looseE t = E := ⟨_, rfl⟩
  have hTD : (E = 0 → toldN t = t.nodes) ∧ (E ≠ 0 → toldN t = []) := ⟨fun h => by rw [toldN, if_pos (hE.trans h)], fun h => by rw [toldN, if_neg (by rw [hE]; exact h)]⟩
  have HE := Lib.hid hE
  have HTD := Lib.hid hTD
  clear hE hTD
  obtain ⟨nodes, files, NA, nn, nc, FA, fn, fc⟩ := t
  unfold TV.val
  have hB := Blk.new w 26 #[.slice NA nn nc, .slice FA fn fc]
  have hb := (Below.refl w.heap.size w).alloc (Nat.le_refl _) (.cells #[.slice NA nn nc, .slice FA fn fc] 26)
  have b0 := hB.cell 0
  have b1 := hB.cell 1
  go_enter Try.func6, Try.ntmps6
  go_upto_region 3 with (first | (go_at_call 14; refine (alive_t _).mono ?_; rintro e w1 ⟨rfl, hb1⟩; replace hB := hB.below hb1 hB.lt; replace hb := hb.trans (hb1.mono hb.size); have b0 := hB.cell 0; have b1 := hB.cell 1) | (go_at_call 19; refine (lbig_any ⟨nodes, files, NA, nn, nc, FA, fn, fc⟩ _ (HT.out.keep hb)).mono ?_; rintro e w2 ⟨x, rfl, hx, hb2⟩; replace hB := hB.below hb2 hB.lt; replace hb := hb.trans (hb2.mono hb.size); have b0 := hB.cell 0; have b1 := hB.cell 1))
  cases x with
  | true =>
    go_wp2
    go_ret
    exact ⟨rfl, hb⟩
  | false =>
    have hn300 : nn ≤ 300 := (hx rfl).1
    clear hx
    by_cases h500 : 500 < p.size
    · have h5 : (500 : Int) < p.size := by omega
      go_wp2
      go_ret
      exact ⟨rfl, hb⟩
    · have h5 : ¬ (500 : Int) < p.size := by omega
      have hps : p.size ≤ 9223372036854775807 := by omega
      go_upto_region 5 with (fail)
      go_upto_region 6 with (go_at_call 23; refine (find_any ⟨nodes, files, NA, nn, nc, FA, fn, fc⟩ p _ (HT.out.keep hb)).mono ?_; rintro e w3 ⟨rfl, hb3⟩)
      replace hB := hB.below hb3 hB.lt; replace hb := hb.trans (hb3.mono hb.size)
      clear b0 b1
      have b0 := hB.cell 0; have b1 := hB.cell 1
      go_upto_region 7 with (go_at_call 24; refine (names_any ⟨nodes, files, NA, nn, nc, FA, fn, fc⟩ file _ (HT.out.keep hb)).mono ?_; rintro e w4 ⟨A, n, c, rfl, hn, hS, hb4⟩)
      replace hB := hB.below hb4 hB.lt; replace hb := hb.trans (hb4.mono hb.size)
      clear b0 b1
      have b0 := hB.cell 0; have b1 := hB.cell 1
      have HN := Lib.hid hn; have HS := Lib.hid hS; clear hn hS
      go_upto_region 8 with (go_at_call 25; refine (kids_any ⟨nodes, files, NA, nn, nc, FA, fn, fc⟩ p _ (HT.out.keep hb)).mono ?_; rintro e w5 ⟨B, m, d, rfl, hm, hS2, hb5⟩)
      replace hB := hB.below hb5 hB.lt; replace hb := hb.trans (hb5.mono hb.size)
      clear b0 b1
      have b0 := hB.cell 0; have b1 := hB.cell 1
      have HM := Lib.hid hm; have HS2 := Lib.hid hS2; clear hm hS2
      replace HS := Lib.hid (HS.out.keep hb5.size hb5.block)
      have hs5 := hb5.size
      by_cases e1 : E = 0
      · have e2 : (E == 0) = true := beq_iff_eq.2 e1
        have e3 : (E != 0) = false := by rw [bne, e2]; rfl
        have htd : toldN ⟨nodes, files, NA, nn, nc, FA, fn, fc⟩ = nodes := HTD.out.1 e1
        have hn := HN.out; have hm := HM.out
        rw [htd] at hn hm ⊢
        have hS := HS.out; have hS2 := HS2.out
        rw [htd] at hS hS2
        clear HN HM HS HS2 HTD htd
        have hn' : n ≤ 300 := by rw [← hn]; exact Nat.le_trans (picks_len _ _) (by have h1 := HT.out.nl; simp only at h1; rw [h1]; exact hn300)
        have hm' : m ≤ 300 := by rw [← hm]; exact Nat.le_trans (picks_len _ _) (by have h1 := HT.out.nl; simp only at h1; rw [h1]; exact hn300)
        have HN := Lib.hid hn; have HM := Lib.hid hm; have HS := Lib.hid hS; have HS2 := Lib.hid hS2
        clear hn hm hS hS2
        replace e1 := Lib.hid e1
        obtain ⟨R, hR⟩ : ∃ R, findI nodes p = R := ⟨_, rfl⟩
        rw [hR]
        have HR := Lib.hid hR; clear hR
        go_upto_region 11 with (go_at_call 20; refine (rloose_any ⟨nodes, files, NA, nn, nc, FA, fn, fc⟩ _ (HT.out.keep hb)).mono ?_; rintro e w6 ⟨rfl, hb6⟩; rw [HE.out]; replace hB := hB.below hb6 hB.lt; replace hb := hb.trans (hb6.mono hb.size); have b0 := hB.cell 0; have b1 := hB.cell 1)
        have hs6 := hb6.size
        have hKK : ∃ (K : List ByteArray), picks (kidsF p) nodes = K := ⟨_, rfl⟩
        obtain ⟨K, hK⟩ := hKK
        have HK := Lib.hid hK; clear hK
        replace HS := Lib.hid (HS.out.keep hb6.size hb6.block)
        replace HS2 := Lib.hid (HS2.out.keep hb6.size hb6.block)
        have hnm : nn ≤ 1000000 := by omega
        cases hp0 : p.toList.isEmpty with
        | true =>
          have hp1 : p.toList = [] := List.isEmpty_iff.1 hp0
          have HP := Lib.hid hp1; clear hp1
          go_upto_region 13 with (go_at_call 27; refine (rkids6_any ⟨nodes, files, NA, nn, nc, FA, fn, fc⟩ p _ (HT.out.keep hb) hnm).mono ?_; rintro e w7 ⟨C, q, d2, rfl, hq1, hq2, hb7⟩)
          rw [HK.out] at hq1 hq2
          have hq3 : q ≤ 300 := by rw [← hq1, ← HK.out]; exact Nat.le_trans (Nat.le_of_eq HM.out) hm'
          have HKm := Lib.hid hq1; have HKS := Lib.hid hq2; clear hq1 hq2
          replace HS := Lib.hid (HS.out.keep hb7.size hb7.block); replace HS2 := Lib.hid (HS2.out.keep hb7.size hb7.block)
          replace hB := hB.below hb7 hB.lt; replace hb := hb.trans (hb7.mono hb.size)
          clear b0 b1 hb7
          have b0 := hB.cell 0; have b1 := hB.cell 1
          have tok1 : True := trivial
          go_wp2_with (first | (go_at_call 28; refine (rfind_any ⟨nodes, files, NA, nn, nc, FA, fn, fc⟩ p _ (HT.out.keep hb)).mono ?_; rintro e w8 ⟨rfl, hq⟩; rw [HR.out]; replace HS := Lib.hid (HS.out.keep hq.size hq.block); replace HS2 := Lib.hid (HS2.out.keep hq.size hq.block); replace HKS := Lib.hid (HKS.out.keep hq.size hq.block); replace hB := hB.below hq hB.lt; replace hb := hb.trans (hq.mono hb.size); have b0 := hB.cell 0; have b1 := hB.cell 1; clear hq) | (go_at_call 30; refine (rnames6_any ⟨nodes, files, NA, nn, nc, FA, fn, fc⟩ file _ (HT.out.keep hb) hnm).mono ?_; rintro e w9 ⟨A2, n2, c2, rfl, hn2, hS3, hq⟩; have HN2 := Lib.hid hn2; have HS3 := Lib.hid hS3; clear hn2 hS3; have hn2' : n2 ≤ 300 := Nat.le_trans (Nat.le_of_eq (HN2.out.symm.trans HN.out)) hn'; replace HS := Lib.hid (HS.out.keep hq.size hq.block); replace HS2 := Lib.hid (HS2.out.keep hq.size hq.block); replace HKS := Lib.hid (HKS.out.keep hq.size hq.block); replace hB := hB.below hq hB.lt; replace hb := hb.trans (hq.mono hb.size); have b0 := hB.cell 0; have b1 := hB.cell 1; clear hq) | (go_at_call 29; have _t := tok1; refine (sameT_yes _ _ rfl _ _ _ _ _ _ _ HN.out HS.out HN2.out HS3.out (by omega) (by omega)).mono ?_; rintro e w10 ⟨rfl, hq⟩; replace HS := Lib.hid (HS.out.keep hq.size hq.block); replace HS2 := Lib.hid (HS2.out.keep hq.size hq.block); replace HKS := Lib.hid (HKS.out.keep hq.size hq.block); replace hB := hB.below hq hB.lt; replace hb := hb.trans (hq.mono hb.size); have b0 := hB.cell 0; have b1 := hB.cell 1; clear hq tok1 _t) | (go_at_call 29; refine (sameT_yes _ _ HK.out _ _ _ _ _ _ _ HM.out HS2.out HKm.out HKS.out (by omega) (by omega)).mono ?_; rintro e w11 ⟨rfl, hq⟩; replace HS := Lib.hid (HS.out.keep hq.size hq.block); replace HS2 := Lib.hid (HS2.out.keep hq.size hq.block); replace HKS := Lib.hid (HKS.out.keep hq.size hq.block); replace hB := hB.below hq hB.lt; replace hb := hb.trans (hq.mono hb.size); have b0 := hB.cell 0; have b1 := hB.cell 1; clear hq))
          go_ret
          exact ⟨rfl, hb⟩
        | false =>
          have hp1 : (p.toList == []) = false := by cases h : p.toList with
            | nil => rw [h] at hp0; cases hp0
            | cons => rfl
          cases hv : validL p.data.toList with
          | true =>
            have HVV := Lib.hid hv; clear hv
            go_upto_region 12 with (go_at_call 26; refine (rvalid_any p _ hps).mono ?_; rintro e wv ⟨rfl, hbv⟩; rw [HVV.out])
            replace HS := Lib.hid (HS.out.keep hbv.size hbv.block); replace HS2 := Lib.hid (HS2.out.keep hbv.size hbv.block)
            replace hB := hB.below hbv hB.lt; replace hb := hb.trans (hbv.mono hb.size)
            clear b0 b1 hbv
            have b0 := hB.cell 0; have b1 := hB.cell 1
            go_upto_region 13 with (go_at_call 27; refine (rkids6_any ⟨nodes, files, NA, nn, nc, FA, fn, fc⟩ p _ (HT.out.keep hb) hnm).mono ?_; rintro e w7 ⟨C, q, d2, rfl, hq1, hq2, hb7⟩)
            rw [HK.out] at hq1 hq2
            have hq3 : q ≤ 300 := by rw [← hq1, ← HK.out]; exact Nat.le_trans (Nat.le_of_eq HM.out) hm'
            have HKm := Lib.hid hq1; have HKS := Lib.hid hq2; clear hq1 hq2
            replace HS := Lib.hid (HS.out.keep hb7.size hb7.block); replace HS2 := Lib.hid (HS2.out.keep hb7.size hb7.block)
            replace hB := hB.below hb7 hB.lt; replace hb := hb.trans (hb7.mono hb.size)
            clear b0 b1 hb7
            have b0 := hB.cell 0; have b1 := hB.cell 1
            have tok1 : True := trivial
            go_wp2_with (first | (go_at_call 28; refine (rfind_any ⟨nodes, files, NA, nn, nc, FA, fn, fc⟩ p _ (HT.out.keep hb)).mono ?_; rintro e w8 ⟨rfl, hq⟩; rw [HR.out]; replace HS := Lib.hid (HS.out.keep hq.size hq.block); replace HS2 := Lib.hid (HS2.out.keep hq.size hq.block); replace HKS := Lib.hid (HKS.out.keep hq.size hq.block); replace hB := hB.below hq hB.lt; replace hb := hb.trans (hq.mono hb.size); have b0 := hB.cell 0; have b1 := hB.cell 1; clear hq) | (go_at_call 30; refine (rnames6_any ⟨nodes, files, NA, nn, nc, FA, fn, fc⟩ file _ (HT.out.keep hb) hnm).mono ?_; rintro e w9 ⟨A2, n2, c2, rfl, hn2, hS3, hq⟩; have HN2 := Lib.hid hn2; have HS3 := Lib.hid hS3; clear hn2 hS3; have hn2' : n2 ≤ 300 := Nat.le_trans (Nat.le_of_eq (HN2.out.symm.trans HN.out)) hn'; replace HS := Lib.hid (HS.out.keep hq.size hq.block); replace HS2 := Lib.hid (HS2.out.keep hq.size hq.block); replace HKS := Lib.hid (HKS.out.keep hq.size hq.block); replace hB := hB.below hq hB.lt; replace hb := hb.trans (hq.mono hb.size); have b0 := hB.cell 0; have b1 := hB.cell 1; clear hq) | (go_at_call 29; have _t := tok1; refine (sameT_yes _ _ rfl _ _ _ _ _ _ _ HN.out HS.out HN2.out HS3.out (by omega) (by omega)).mono ?_; rintro e w10 ⟨rfl, hq⟩; replace HS := Lib.hid (HS.out.keep hq.size hq.block); replace HS2 := Lib.hid (HS2.out.keep hq.size hq.block); replace HKS := Lib.hid (HKS.out.keep hq.size hq.block); replace hB := hB.below hq hB.lt; replace hb := hb.trans (hq.mono hb.size); have b0 := hB.cell 0; have b1 := hB.cell 1; clear hq tok1 _t) | (go_at_call 29; refine (sameT_yes _ _ HK.out _ _ _ _ _ _ _ HM.out HS2.out HKm.out HKS.out (by omega) (by omega)).mono ?_; rintro e w11 ⟨rfl, hq⟩; replace HS := Lib.hid (HS.out.keep hq.size hq.block); replace HS2 := Lib.hid (HS2.out.keep hq.size hq.block); replace HKS := Lib.hid (HKS.out.keep hq.size hq.block); replace hB := hB.below hq hB.lt; replace hb := hb.trans (hq.mono hb.size); have b0 := hB.cell 0; have b1 := hB.cell 1; clear hq))
            go_ret
            exact ⟨rfl, hb⟩
          | false =>
            have hK0 : K = [] := by
              rw [← HK.out]
              exact kids_none (fun e => by rw [← ByteArray.toList_eq] at e; rw [e] at hp0; cases hp0) hv nodes
            have HVV := Lib.hid hv; clear hv
            subst hK0
            go_upto_region 13 with (go_at_call 26; refine (rvalid_any p _ hps).mono ?_; rintro e wv ⟨rfl, hbv⟩; rw [HVV.out])
            replace HS := Lib.hid (HS.out.keep hbv.size hbv.block); replace HS2 := Lib.hid (HS2.out.keep hbv.size hbv.block)
            have HKm := Lib.hid (show ([] : List ByteArray).length = 0 from rfl)
            have HKS := Lib.hid (Sl.nil wv wv.heap.size 1 none)
            replace hB := hB.below hbv hB.lt; replace hb := hb.trans (hbv.mono hb.size)
            clear b0 b1 hbv
            have b0 := hB.cell 0; have b1 := hB.cell 1
            have tok1 : True := trivial
            go_wp2_with (first | (go_at_call 28; refine (rfind_any ⟨nodes, files, NA, nn, nc, FA, fn, fc⟩ p _ (HT.out.keep hb)).mono ?_; rintro e w8 ⟨rfl, hq⟩; rw [HR.out]; replace HS := Lib.hid (HS.out.keep hq.size hq.block); replace HS2 := Lib.hid (HS2.out.keep hq.size hq.block); replace HKS := Lib.hid (HKS.out.keep hq.size hq.block); replace hB := hB.below hq hB.lt; replace hb := hb.trans (hq.mono hb.size); have b0 := hB.cell 0; have b1 := hB.cell 1; clear hq) | (go_at_call 30; refine (rnames6_any ⟨nodes, files, NA, nn, nc, FA, fn, fc⟩ file _ (HT.out.keep hb) hnm).mono ?_; rintro e w9 ⟨A2, n2, c2, rfl, hn2, hS3, hq⟩; have HN2 := Lib.hid hn2; have HS3 := Lib.hid hS3; clear hn2 hS3; have hn2' : n2 ≤ 300 := Nat.le_trans (Nat.le_of_eq (HN2.out.symm.trans HN.out)) hn'; replace HS := Lib.hid (HS.out.keep hq.size hq.block); replace HS2 := Lib.hid (HS2.out.keep hq.size hq.block); replace HKS := Lib.hid (HKS.out.keep hq.size hq.block); replace hB := hB.below hq hB.lt; replace hb := hb.trans (hq.mono hb.size); have b0 := hB.cell 0; have b1 := hB.cell 1; clear hq) | (go_at_call 29; have _t := tok1; refine (sameT_yes _ _ rfl _ _ _ _ _ _ _ HN.out HS.out HN2.out HS3.out (by omega) (by omega)).mono ?_; rintro e w10 ⟨rfl, hq⟩; replace HS := Lib.hid (HS.out.keep hq.size hq.block); replace HS2 := Lib.hid (HS2.out.keep hq.size hq.block); replace HKS := Lib.hid (HKS.out.keep hq.size hq.block); replace hB := hB.below hq hB.lt; replace hb := hb.trans (hq.mono hb.size); have b0 := hB.cell 0; have b1 := hB.cell 1; clear hq tok1 _t) | (go_at_call 29; refine (sameT_yes _ _ HK.out _ _ _ _ _ _ _ HM.out HS2.out HKm.out HKS.out (by omega) (by omega)).mono ?_; rintro e w11 ⟨rfl, hq⟩; replace HS := Lib.hid (HS.out.keep hq.size hq.block); replace HS2 := Lib.hid (HS2.out.keep hq.size hq.block); replace HKS := Lib.hid (HKS.out.keep hq.size hq.block); replace hB := hB.below hq hB.lt; replace hb := hb.trans (hq.mono hb.size); have b0 := hB.cell 0; have b1 := hB.cell 1; clear hq))
            go_ret
            exact ⟨rfl, hb⟩
      · have e2 : (E == 0) = false := beq_eq_false_iff_ne.2 e1
        have e3 : (E != 0) = true := bne_iff_ne.2 e1
        have htd := HTD.out.2 e1
        have hn := HN.out; have hm := HM.out
        rw [htd] at hn hm ⊢
        clear HN HM HS HS2 HTD htd
        obtain rfl : n = 0 := hn.symm
        obtain rfl : m = 0 := hm.symm
        clear hn hm
        replace e1 := Lib.hid e1
        go_wp2_with (go_at_call 20; refine (rloose_any ⟨nodes, files, NA, nn, nc, FA, fn, fc⟩ _ (HT.out.keep hb)).mono ?_; rintro e w6 ⟨rfl, hb6⟩; rw [HE.out])
        go_ret
        exact ⟨rfl, hb.trans (hb6.mono hb.size)⟩


set_option maxRecDepth 100000 in
theorem lifted (os : Os) (started : os.Started) (H : Type) (enc : TypeId × Value → H) :
    ReturnsInHanded {} Try.checked os 6 .any (Rows.treeLooksSpec.pre6 enc Try.prog Try.f6 Rows.treeLooksRow.domain false) (Rows.treeLooksSpec.post enc Try.prog Try.f6 false true false false) := by
  refine returnsInHanded_of_change (C := Try.checked) own started (by kernel_rfl) Try.func6
    (ChangeSpec.witness6 (enc := enc) (C := Try.checked) false ⟨#[], #[.agg #[.slice none 0 0, .slice none 0 0], .string ByteArray.empty, .int .i64 0], []⟩ 8 (by kernel_rfl) (by kernel_rfl) (by kernel_rfl) (by kernel_rfl)) ?_
  intro W base args ds gs before hval0 hW hcnd _
  have hval : ∀ (j : Nat) t v, Try.f6.params[j]? = some t → args[j]? = some v → Value.okWide Try.prog W .any base t v := hval0
  have hW' := hW
  obtain ⟨p, q, hA0, hV, rfl, hfz, hnd⟩ := hW
  have hA : DataW.TrodAll enc Try.prog W 0 (fun _ => true) true Try.f6.params.toList args.toList ds p := hA0
  rw [Try.params6] at hA hval
  obtain ⟨v0, vs0, d0, ds0, p0, q0, hargs, rfl, rfl, h0, r0⟩ := trodAll_cons hA
  obtain ⟨v1, vs1, d1, ds1, p1, q1, rfl, rfl, rfl, h1, r1⟩ := trodAll_cons r0
  obtain ⟨v2, vs2, d2, ds2, p2, q2, rfl, rfl, rfl, h2, r2⟩ := trodAll_cons r1
  obtain ⟨rfl, rfl, rfl⟩ := trodAll_nil r2
  obtain rfl : args = #[v0, v1, v2] := by cases args; simp_all
  obtain ⟨rfl, rfl⟩ := trodVars_none hV
  have k0 := h0
  have lt0 : ∀ x ∈ p0, x.block < W.heap.size := by obtain ⟨m, hm⟩ := k0; exact DataW.trod_lt m _ _ _ hm
  obtain ⟨t0, ds0', rfl, hT0⟩ := open_tree (hval 0 26 v0 rfl rfl) h0 lt0
  obtain ⟨a1, rfl, rfl, rfl, w1⟩ := open_string Try.underlying9 (hval 1 9 v1 rfl rfl) h1
  obtain ⟨a2, rfl, rfl, rfl, w2⟩ := open_int Try.underlying3 (hval 2 3 v2 rfl rfl) h2
  clear hA0 hval0
  refine (walk t0 ds0' a1 a2 W hT0 w1 w2).mono fun e W' ⟨he, bel⟩ => ?_
  subst he
  exact ⟨_, rfl, _, _, _, [], _, [], hW', trodAll_mk1 (shut_bool Try.underlying4 _), (trodAll_cons_mk (Below.trod laidOut (by kernel_rfl) (of_decide_eq_true (by kernel_rfl)) k0 bel lt0) (trodAll_cons_mk (shut_string Try.underlying9 w1) (trodAll_cons_mk (shut_int Try.underlying3 w2) trodAll_mk0))), rfl, bel.frame _, fun h => by cases h⟩

theorem over : Rows.treeLooksRow.holds Try.pinned (OpenSpec.ofChange Rows.treeLooksSpec) :=
  OpenClaim.holds_of_wide 6 Try.f6 rfl rfl rfl rfl rfl rfl rfl ⟨rfl, rfl, rfl, rfl, rfl⟩ rfl rfl rfl rfl rfl (by kernel_rfl) Try.func6 (by kernel_rfl)
    (of_decide_eq_true (by kernel_rfl)) (by unfold Func.isWrapper; first | (rw [if_pos (by decide +kernel)]; kernel_rfl) | (rw [if_neg (by decide +kernel)]; exact ⟨rfl, rfl⟩))
    (fun os started H enc _ => lifted os started H enc)

theorem proved : Rows.TreeLooksSaid := over
#print axioms proved
end Go.Proofs.Ytdjlchbgdehccaa.treeLooksDone
