/- tree.Same. -/
import Derived.Test.YtdjlchbgdehccaaExact
namespace Go.Proofs.Ytdjlchbgdehccaa
open Go.RowKit

set_option maxRecDepth 100000 in
set_option maxHeartbeats 2000000 in
theorem same_no1 (t u : TV) (ds es : List ByteArray) (w : World) (ht : TreeD w t ds) (hu : TreeD w u es) (hl : looseE t ≠ 0) : Calls Try.prog 22 #[t.val, u.val] w fun e w' => e = .returned (.bool false) ∧ Below w.heap.size w w' := by
  obtain ⟨E, hE⟩ : ∃ E, looseE t = E := ⟨_, rfl⟩
  rw [hE] at hl
  have L1 := Lib.hid hE; have L2 := True.intro; clear hE
  have hns := ht.tree.ns
  have hnl := ht.tree.nl
  have hfs := ht.tree.fs
  have hfl := ht.tree.fl
  have hnm := ht.tree.nm
  have hfm := ht.tree.fm
  have hda := ht.dat
  have hns2 := hu.tree.ns
  have hnl2 := hu.tree.nl
  have hfs2 := hu.tree.fs
  have hfl2 := hu.tree.fl
  have hda2 := hu.dat
  have hnm2 := hu.tree.nm
  have hfm2 := hu.tree.fm
  have HT := Lib.hid ht.tree
  have HU := Lib.hid hu.tree
  clear ht hu
  obtain ⟨nodes, files, NA, nn, nc, FA, fn, fc⟩ := t
  obtain ⟨nodes', files', NB, mn, mc, FB, fm, md⟩ := u
  simp only at hns hnl hfs hfl hnm hfm hda hns2 hnl2 hfs2 hfl2 hda2 hnm2 hfm2
  have HS := Lib.hid hns; clear hns
  have Hn := Lib.hid hnl; clear hnl
  have HF := Lib.hid hfs; clear hfs
  have Hf := Lib.hid hfl; clear hfl
  have HD := Lib.hid hda; clear hda
  have HS2 := Lib.hid hns2; clear hns2
  have Hn2 := Lib.hid hnl2; clear hnl2
  have HF2 := Lib.hid hfs2; clear hfs2
  have Hf2 := Lib.hid hfl2; clear hfl2
  have HD2 := Lib.hid hda2; clear hda2
  unfold TV.val
  have hB1 := (Blk.new w 26 #[.slice NA nn nc, .slice FA fn fc]).alloc (.cells #[.slice NB mn mc, .slice FB fm md] 26)
  have hB2 := Blk.new (w.alloc (.cells #[.slice NA nn nc, .slice FA fn fc] 26)) 26 #[.slice NB mn mc, .slice FB fm md]
  rw [World.size_alloc] at hB2
  have hb := ((Below.refl w.heap.size w).alloc (Nat.le_refl _) (.cells #[.slice NA nn nc, .slice FA fn fc] 26)).alloc (by simp) (.cells #[.slice NB mn mc, .slice FB fm md] 26)
  have b0 := hB1.cell 0
  have b1 := hB1.cell 1
  have b2 := hB2.cell 0
  have b3 := hB2.cell 1
  have hl2 : (E == 0) = false := beq_eq_false_iff_ne.2 hl
  have hl3 : (E != 0) = true := bne_iff_ne.2 hl
  have tok1 : True := trivial; go_enter Try.func22, Try.ntmps22
  go_wp2_with (go_at_call 16; (refine (loose_any ⟨nodes, files, NA, nn, nc, FA, fn, fc⟩ _ (HT.out.keep hb)).mono ?_); rintro e w1 ⟨rfl, hb1⟩; rw [L1.out]; replace hB1 := hB1.below hb1 hB1.lt; replace hB2 := hB2.below hb1 hB2.lt; replace hb := hb.trans (hb1.mono hb.size))
  go_ret
  exact ⟨rfl, hb⟩
set_option maxRecDepth 100000 in
set_option maxHeartbeats 2000000 in
theorem same_no2 (t u : TV) (ds es : List ByteArray) (w : World) (ht : TreeD w t ds) (hu : TreeD w u es) (hl : looseE t = 0) (hlu : looseE u ≠ 0) : Calls Try.prog 22 #[t.val, u.val] w fun e w' => e = .returned (.bool false) ∧ Below w.heap.size w w' := by
  obtain ⟨E, hE⟩ : ∃ E, looseE u = E := ⟨_, rfl⟩
  rw [hE] at hlu
  have L1 := Lib.hid hl; have L2 := Lib.hid hE; clear hE hl
  have hns := ht.tree.ns
  have hnl := ht.tree.nl
  have hfs := ht.tree.fs
  have hfl := ht.tree.fl
  have hnm := ht.tree.nm
  have hfm := ht.tree.fm
  have hda := ht.dat
  have hns2 := hu.tree.ns
  have hnl2 := hu.tree.nl
  have hfs2 := hu.tree.fs
  have hfl2 := hu.tree.fl
  have hda2 := hu.dat
  have hnm2 := hu.tree.nm
  have hfm2 := hu.tree.fm
  have HT := Lib.hid ht.tree
  have HU := Lib.hid hu.tree
  clear ht hu
  obtain ⟨nodes, files, NA, nn, nc, FA, fn, fc⟩ := t
  obtain ⟨nodes', files', NB, mn, mc, FB, fm, md⟩ := u
  simp only at hns hnl hfs hfl hnm hfm hda hns2 hnl2 hfs2 hfl2 hda2 hnm2 hfm2
  have HS := Lib.hid hns; clear hns
  have Hn := Lib.hid hnl; clear hnl
  have HF := Lib.hid hfs; clear hfs
  have Hf := Lib.hid hfl; clear hfl
  have HD := Lib.hid hda; clear hda
  have HS2 := Lib.hid hns2; clear hns2
  have Hn2 := Lib.hid hnl2; clear hnl2
  have HF2 := Lib.hid hfs2; clear hfs2
  have Hf2 := Lib.hid hfl2; clear hfl2
  have HD2 := Lib.hid hda2; clear hda2
  unfold TV.val
  have hB1 := (Blk.new w 26 #[.slice NA nn nc, .slice FA fn fc]).alloc (.cells #[.slice NB mn mc, .slice FB fm md] 26)
  have hB2 := Blk.new (w.alloc (.cells #[.slice NA nn nc, .slice FA fn fc] 26)) 26 #[.slice NB mn mc, .slice FB fm md]
  rw [World.size_alloc] at hB2
  have hb := ((Below.refl w.heap.size w).alloc (Nat.le_refl _) (.cells #[.slice NA nn nc, .slice FA fn fc] 26)).alloc (by simp) (.cells #[.slice NB mn mc, .slice FB fm md] 26)
  have b0 := hB1.cell 0
  have b1 := hB1.cell 1
  have b2 := hB2.cell 0
  have b3 := hB2.cell 1
  have hl2 : (E == 0) = false := beq_eq_false_iff_ne.2 hlu
  have hl3 : (E != 0) = true := bne_iff_ne.2 hlu
  have tok1 : True := trivial; go_enter Try.func22, Try.ntmps22
  go_wp2_with (first | (go_at_call 16; have _t := tok1; (refine (loose_any ⟨nodes, files, NA, nn, nc, FA, fn, fc⟩ _ (HT.out.keep hb)).mono ?_); rintro e w1 ⟨rfl, hb1⟩; rw [L1.out]; replace hB1 := hB1.below hb1 hB1.lt; replace hB2 := hB2.below hb1 hB2.lt; replace hb := hb.trans (hb1.mono hb.size); have b0 := hB1.cell 0; have b1 := hB1.cell 1; have b2 := hB2.cell 0; have b3 := hB2.cell 1; clear tok1 _t) | (go_at_call 16; refine (loose_any ⟨nodes', files', NB, mn, mc, FB, fm, md⟩ _ (HU.out.keep hb)).mono ?_; rintro e w2 ⟨rfl, hb2⟩; rw [L2.out]; replace hB1 := hB1.below hb2 hB1.lt; replace hB2 := hB2.below hb2 hB2.lt; replace hb := hb.trans (hb2.mono hb.size); have b0 := hB1.cell 0; have b1 := hB1.cell 1; have b2 := hB2.cell 0; have b3 := hB2.cell 1))
  go_ret
  exact ⟨rfl, hb⟩
set_option maxRecDepth 100000 in
set_option maxHeartbeats 4000000 in
theorem same_yes (t u : TV) (ds es : List ByteArray) (w : World) (ht : TreeD w t ds) (hu : TreeD w u es) (hl : looseE t = 0) (hlu : looseE u = 0) : Calls Try.prog 22 #[t.val, u.val] w fun e w' => e = .returned (.bool (exactB t u ds es)) ∧ Below w.heap.size w w' := by
  have hE := exactB_eq t u ds es
  have L1 := Lib.hid hl; have L2 := Lib.hid hlu; clear hl hlu
  have hns := ht.tree.ns
  have hnl := ht.tree.nl
  have hfs := ht.tree.fs
  have hfl := ht.tree.fl
  have hnm := ht.tree.nm
  have hfm := ht.tree.fm
  have hda := ht.dat
  have hns2 := hu.tree.ns
  have hnl2 := hu.tree.nl
  have hfs2 := hu.tree.fs
  have hfl2 := hu.tree.fl
  have hda2 := hu.dat
  have hnm2 := hu.tree.nm
  have hfm2 := hu.tree.fm
  have HT := Lib.hid ht.tree
  have HU := Lib.hid hu.tree
  clear ht hu
  obtain ⟨nodes, files, NA, nn, nc, FA, fn, fc⟩ := t
  obtain ⟨nodes', files', NB, mn, mc, FB, fm, md⟩ := u
  simp only at hns hnl hfs hfl hnm hfm hda hns2 hnl2 hfs2 hfl2 hda2 hnm2 hfm2
  have HS := Lib.hid hns; clear hns
  have Hn := Lib.hid hnl; clear hnl
  have HF := Lib.hid hfs; clear hfs
  have Hf := Lib.hid hfl; clear hfl
  have HD := Lib.hid hda; clear hda
  have HS2 := Lib.hid hns2; clear hns2
  have Hn2 := Lib.hid hnl2; clear hnl2
  have HF2 := Lib.hid hfs2; clear hfs2
  have Hf2 := Lib.hid hfl2; clear hfl2
  have HD2 := Lib.hid hda2; clear hda2
  simp only at hE
  have HE := Lib.hid hE; clear hE
  unfold TV.val
  have hB1 := (Blk.new w 26 #[.slice NA nn nc, .slice FA fn fc]).alloc (.cells #[.slice NB mn mc, .slice FB fm md] 26)
  have hB2 := Blk.new (w.alloc (.cells #[.slice NA nn nc, .slice FA fn fc] 26)) 26 #[.slice NB mn mc, .slice FB fm md]
  rw [World.size_alloc] at hB2
  have hb := ((Below.refl w.heap.size w).alloc (Nat.le_refl _) (.cells #[.slice NA nn nc, .slice FA fn fc] 26)).alloc (by simp) (.cells #[.slice NB mn mc, .slice FB fm md] 26)
  have b0 := hB1.cell 0
  have b1 := hB1.cell 1
  have b2 := hB2.cell 0
  have b3 := hB2.cell 1
  by_cases h1 : nn = mn
  case neg =>
    have h1a : ((nn : Int) == mn) = false := beq_eq_false_iff_ne.2 (by omega)
    have h1b : (nn == mn) = false := beq_eq_false_iff_ne.2 h1
    have h1c : (nn != mn) = true := bne_iff_ne.2 h1
    have HV := Lib.hid (HE.out.trans (show _ = false by rw [decide_eq_false (fun e => h1 (by rw [← Hn.out, ← Hn2.out, e]))]; rfl))
    have tok1 : True := trivial; go_enter Try.func22, Try.ntmps22
    go_wp2_with (first | (go_at_call 16; have _t := tok1; (refine (loose_any ⟨nodes, files, NA, nn, nc, FA, fn, fc⟩ _ (HT.out.keep hb)).mono ?_); rintro e w1 ⟨rfl, hb1⟩; rw [L1.out]; replace hB1 := hB1.below hb1 hB1.lt; replace hB2 := hB2.below hb1 hB2.lt; replace hb := hb.trans (hb1.mono hb.size); have b0 := hB1.cell 0; have b1 := hB1.cell 1; have b2 := hB2.cell 0; have b3 := hB2.cell 1; clear tok1 _t) | (go_at_call 16; refine (loose_any ⟨nodes', files', NB, mn, mc, FB, fm, md⟩ _ (HU.out.keep hb)).mono ?_; rintro e w2 ⟨rfl, hb2⟩; rw [L2.out]; replace hB1 := hB1.below hb2 hB1.lt; replace hB2 := hB2.below hb2 hB2.lt; replace hb := hb.trans (hb2.mono hb.size); have b0 := hB1.cell 0; have b1 := hB1.cell 1; have b2 := hB2.cell 0; have b3 := hB2.cell 1))
    go_ret
    exact ⟨by rw [HV.out]; rfl, hb⟩
  subst h1
  by_cases h2 : fn = fm
  case neg =>
    have h1a : ((fn : Int) == fm) = false := beq_eq_false_iff_ne.2 (by omega)
    have h1b : (fn == fm) = false := beq_eq_false_iff_ne.2 h2
    have h1c : (fn != fm) = true := bne_iff_ne.2 h2
    have HV := Lib.hid (HE.out.trans (show _ = false by
      rw [flB, decide_eq_false (p := List.map _ _ = _) (fun e => h2 (by
        have := congrArg List.length e
        simp only [List.drop_zero, List.length_map] at this
        rw [← Hf.out, ← Hf2.out, this]))]
      simp))
    have tok1 : True := trivial; go_enter Try.func22, Try.ntmps22
    go_wp2_with (first | (go_at_call 16; have _t := tok1; (refine (loose_any ⟨nodes, files, NA, nn, nc, FA, fn, fc⟩ _ (HT.out.keep hb)).mono ?_); rintro e w1 ⟨rfl, hb1⟩; rw [L1.out]; replace hB1 := hB1.below hb1 hB1.lt; replace hB2 := hB2.below hb1 hB2.lt; replace hb := hb.trans (hb1.mono hb.size); have b0 := hB1.cell 0; have b1 := hB1.cell 1; have b2 := hB2.cell 0; have b3 := hB2.cell 1; clear tok1 _t) | (go_at_call 16; refine (loose_any ⟨nodes', files', NB, nn, mc, FB, fm, md⟩ _ (HU.out.keep hb)).mono ?_; rintro e w2 ⟨rfl, hb2⟩; rw [L2.out]; replace hB1 := hB1.below hb2 hB1.lt; replace hB2 := hB2.below hb2 hB2.lt; replace hb := hb.trans (hb2.mono hb.size); have b0 := hB1.cell 0; have b1 := hB1.cell 1; have b2 := hB2.cell 0; have b3 := hB2.cell 1))
    go_ret
    exact ⟨by rw [HV.out]; rfl, hb⟩
  subst h2
  have tok1 : True := trivial; go_enter Try.func22, Try.ntmps22
  go_upto_block 0 with (first | (go_at_call 16; have _t := tok1; (refine (loose_any ⟨nodes, files, NA, nn, nc, FA, fn, fc⟩ _ (HT.out.keep hb)).mono ?_); rintro e w1 ⟨rfl, hb1⟩; rw [L1.out]; replace hB1 := hB1.below hb1 hB1.lt; replace hB2 := hB2.below hb1 hB2.lt; replace hb := hb.trans (hb1.mono hb.size); have b0 := hB1.cell 0; have b1 := hB1.cell 1; have b2 := hB2.cell 0; have b3 := hB2.cell 1; clear tok1 _t) | (go_at_call 16; refine (loose_any ⟨nodes', files', NB, nn, mc, FB, fn, md⟩ _ (HU.out.keep hb)).mono ?_; rintro e w2 ⟨rfl, hb2⟩; rw [L2.out]; replace hB1 := hB1.below hb2 hB1.lt; replace hB2 := hB2.below hb2 hB2.lt; replace hb := hb.trans (hb2.mono hb.size); have b0 := hB1.cell 0; have b1 := hB1.cell 1; have b2 := hB2.cell 0; have b3 := hB2.cell 1))
  go_wp2
  clear b0 b1 b2 b3
  go_loopw [38] (fun i wr => ∃ k : Nat, k ≤ nn ∧ i = .int .i64 k ∧ decide (nodes = nodes') = ndB nodes nodes' k ∧ Blk wr w.heap.size 26 #[.slice NA nn nc, .slice FA fn fc] ∧ Blk wr (w.heap.size + 1) 26 #[.slice NB nn mc, .slice FB fn md] ∧ Below w.heap.size w wr) (fun i _ => nn - (intOf i).toNat)
  case atStart => exact ⟨0, Nat.zero_le _, rfl, rfl, hB1, hB2, hb⟩
  case round =>
    clear hB1 hB2 hb
    obtain ⟨k, hk, rfl, hr, hB1, hB2, hb⟩ := hrel
    have hs := hb.size
    by_cases hlt : k < nn
    · have hki : (k : Int) < nn := by omega
      obtain ⟨xb, xo, x, rfl, hxb, hx, hc⟩ := (HS.out.keep (Nat.le_refl _) hb.block).get Node.len Hn.out hlt
      have c0 := hc 0 _ rfl
      have c1 := hc 1 _ rfl
      have c2 := hc 2 _ rfl
      simp only [Nat.add_zero] at c0 c1 c2
      clear hc
      have HX := Lib.hid hx; clear hx
      go_upto_region 6 with (fail)
      clear c0 c1 c2
      replace hb := hb.alloc hs (.cells #[.string x.path, .int .i64 x.file, .int .i64 x.mode] 29)
      replace hB1 := hB1.alloc (.cells #[.string x.path, .int .i64 x.file, .int .i64 x.mode] 29)
      replace hB2 := hB2.alloc (.cells #[.string x.path, .int .i64 x.file, .int .i64 x.mode] 29)
      have hN := Blk.new wr 29 #[.string x.path, .int .i64 x.file, .int .i64 x.mode]
      obtain ⟨W1, hW1⟩ : ∃ W1, W1 = wr.alloc (.cells #[.string x.path, .int .i64 x.file, .int .i64 x.mode] 29) := ⟨_, rfl⟩
      rw [← hW1] at hB1 hB2 hb hN ⊢
      obtain ⟨nb, hnb⟩ : ∃ nb, nb = wr.heap.size := ⟨_, rfl⟩
      rw [← hnb] at hN ⊢
      clear hW1 hnb hs
      have hl1 := hB1.lt
      have hl2 := hB2.lt
      have hl3 := hN.lt
      have hs := hb.size
      have b2 := hB2.cell 0
      have n0 := hN.cell 0
      have n1 := hN.cell 1
      have n2 := hN.cell 2
      obtain ⟨yb, yo, y, rfl, hyb, hy, hd⟩ := (HS2.out.keep (Nat.le_refl _) hb.block).get Node.len Hn2.out hlt
      have d0 := hd 0 _ rfl
      have d1 := hd 1 _ rfl
      have d2 := hd 2 _ rfl
      simp only [Nat.add_zero] at d0 d1 d2
      clear hd
      have hyw : yb < W1.heap.size := by omega
      rw [ndB_step HX.out hy] at hr
      clear hy
      refine wp_region_ordB (none) [(0, true), (1, true), (2, true), (3, true), (4, true), (5, true), (6, true)] (by kernel_rfl) (by kernel_rfl) fun hG0 => ?_
      repeat (first
        | (refine ord_skipB rfl (by rfl) ?_; simp only [Act.put, List.setIfInBounds_toArray, List.set_cons_zero, List.set_cons_succ])
        | (refine ord_qE rfl (by rfl) ?_; apply Exists.intro; refine ⟨fun w' hc' => ?_, ?_⟩; (focus (go_simp; (try go_bits); (try simp only [↓IntWalk.iteOmega]); with_reducible rfl)); simp only [Act.put, List.setIfInBounds_toArray, List.set_cons_zero, List.set_cons_succ]))
      refine ord_end ?_
      clear d0 d1 d2 b2 n0 n1 n2
      replace hB1 := hB1.grown hG0 (by simp)
      replace hB2 := hB2.grown hG0 (by simp)
      replace hb := hb.trans (below_grown hG0 hb.size (fun g e => by cases e))
      clear hG0
      cases hq : nodeEq x.path y.path x.file x.mode y.file y.mode with
      | false =>
        have HV := Lib.hid (HE.out.trans (show _ = false by rw [hr, hq]; rfl))
        clear hr
        go_wp2
        go_ret
        exact ⟨by rw [HV.out]; rfl, hb⟩
      | true =>
        have HR := Lib.hid (show decide (nodes = nodes') = ndB nodes nodes' (k + 1) by rw [hr, hq]; rfl)
        clear hr
        go_wp2
        go_roundw
        case rel => exact ⟨k + 1, by omega, by go_num, HR.out, hB1, hB2, hb⟩
        case measure => simp [intOf]; omega
    · obtain rfl : k = nn := by omega
      have hki : ¬ (k : Int) < k := by omega
      have b1 := hB1.cell 1
      have hE2 := HE.out
      rw [hr, ndB, List.drop_of_length_le (by rw [Hn.out]; exact Nat.le_refl _), List.drop_of_length_le (by rw [Hn2.out]; exact Nat.le_refl _), decide_eq_true rfl, Bool.true_and] at hE2
      clear HE hr
      have HE := Lib.hid hE2; clear hE2
      go_wp2
      clear b1
      go_loopw [54] (fun i wq => ∃ j : Nat, j ≤ fn ∧ i = .int .i64 j ∧ flB files files' ds es 0 = flB files files' ds es j ∧ Blk wq w.heap.size 26 #[.slice NA k nc, .slice FA fn fc] ∧ Blk wq (w.heap.size + 1) 26 #[.slice NB k mc, .slice FB fn md] ∧ Below w.heap.size w wq) (fun i _ => fn - (intOf i).toNat)
      case atStart => exact ⟨0, Nat.zero_le _, rfl, rfl, hB1, hB2, hb⟩
      case round =>
        clear hB1 hB2 hb hs
        obtain ⟨j, hj, rfl, hr, hB1, hB2, hb⟩ := hrel
        have hs := hb.size
        by_cases hlt : j < fn
        · have hki : (j : Int) < fn := by omega
          obtain ⟨xb, xo, x, rfl, hxb, hx, hc⟩ := (HF.out.keep (Nat.le_refl _) hb.block).get FC.len Hf.out hlt
          obtain ⟨d, hdx, hdn, hds⟩ := HD.out.get hx
          have c0 := hc 0 _ rfl
          have c1 := hc 1 _ rfl
          simp only [Nat.add_zero] at c0 c1
          clear hc
          have HX := Lib.hid hx; have HDX := Lib.hid hdx; have NA' := Lib.hid hdn; have SA0 := Lib.hid hds
          clear hx hdx hdn hds
          go_upto_region 12 with (fail)
          clear c0 c1
          replace hb := hb.alloc hs (.cells #[.int .i64 x.mode, .slice x.A x.n x.c] 39)
          replace hB1 := hB1.alloc (.cells #[.int .i64 x.mode, .slice x.A x.n x.c] 39)
          replace hB2 := hB2.alloc (.cells #[.int .i64 x.mode, .slice x.A x.n x.c] 39)
          have hN := Blk.new wr 39 #[.int .i64 x.mode, .slice x.A x.n x.c]
          obtain ⟨W1, hW1⟩ : ∃ W1, W1 = wr.alloc (.cells #[.int .i64 x.mode, .slice x.A x.n x.c] 39) := ⟨_, rfl⟩
          rw [← hW1] at hB1 hB2 hb hN ⊢
          obtain ⟨nb, hnb⟩ : ∃ nb, nb = wr.heap.size := ⟨_, rfl⟩
          rw [← hnb] at hN ⊢
          clear hW1 hnb hs
          have hl1 := hB1.lt
          have hl2 := hB2.lt
          have hl3 := hN.lt
          have hs := hb.size
          have b3 := hB2.cell 1
          have n0 := hN.cell 0
          have n1 := hN.cell 1
          obtain ⟨yb, yo, y, rfl, hyb, hy, hd⟩ := (HF2.out.keep (Nat.le_refl _) hb.block).get FC.len Hf2.out hlt
          obtain ⟨e, hex, hen, hes⟩ := HD2.out.get hy
          have d0 := hd 0 _ rfl
          have d1 := hd 1 _ rfl
          simp only [Nat.add_zero] at d0 d1
          clear hd
          have hyw : yb < W1.heap.size := by omega
          rw [flB_step HX.out hy HDX.out hex] at hr
          clear hy hex
          have SA := Lib.hid (SA0.out.below hb (Nat.le_refl _))
          have SB := Lib.hid (hes.below hb (Nat.le_refl _))
          have NB' := Lib.hid hen
          clear hes hen SA0
          cases hm : (x.mode == y.mode) with
          | false =>
            have HV := Lib.hid (HE.out.trans (show _ = false by rw [hr, hm]; rfl))
            clear hr
            have hm2 : (x.mode != y.mode) = true := by rw [bne, hm]; rfl
            refine wp_region_ordB (none) [(0, true), (1, true), (2, true), (3, true), (4, true), (5, true), (6, true), (7, true), (8, true), (9, true), (10, true), (11, true), (12, true), (13, true), (14, true), (15, true), (16, true), (17, true), (18, true), (19, true), (20, true), (21, true)] (by kernel_rfl) (by kernel_rfl) fun hG0 => ?_
            repeat (first
              | (refine ord_skipB rfl (by rfl) ?_; simp only [Act.put, List.setIfInBounds_toArray, List.set_cons_zero, List.set_cons_succ])
              | (refine ord_qE rfl (by rfl) ?_; apply Exists.intro; refine ⟨fun w' hc' => ?_, ?_⟩; (focus (go_simp; (try go_bits); (try simp only [↓IntWalk.iteOmega]); with_reducible rfl)); simp only [Act.put, List.setIfInBounds_toArray, List.set_cons_zero, List.set_cons_succ]))
            refine ord_end ?_
            replace hb := hb.trans (below_grown hG0 hb.size (fun g e => by cases e))
            go_wp2
            go_ret
            exact ⟨by rw [HV.out]; rfl, hb⟩
          | true =>
            have hm2 : (x.mode != y.mode) = false := by rw [bne, hm]; rfl
            refine wp_region_ordB (none) [(0, true), (1, true), (2, true), (3, true), (4, true), (5, true), (6, true), (7, true), (8, true), (9, true), (10, true), (11, true), (12, true), (13, true), (14, true), (15, true), (16, true), (17, true), (18, true), (19, true), (20, true), (21, true)] (by kernel_rfl) (by kernel_rfl) fun hG0 => ?_
            repeat (first
              | (refine ord_skipB rfl (by rfl) ?_; simp only [Act.put, List.setIfInBounds_toArray, List.set_cons_zero, List.set_cons_succ])
              | (first | (refine ord_qH rfl (by rfl) (fun w' hh => exec_conv rfl rfl (SA.out.held hs rfl hh) NA'.out) ?_; simp only [Act.put, List.setIfInBounds_toArray, List.set_cons_zero, List.set_cons_succ]) | (refine ord_qH rfl (by rfl) (fun w' hh => exec_conv rfl rfl (SB.out.held hs rfl hh) NB'.out) ?_; simp only [Act.put, List.setIfInBounds_toArray, List.set_cons_zero, List.set_cons_succ]))
              | (refine ord_qE rfl (by rfl) ?_; apply Exists.intro; refine ⟨fun w' hc' => ?_, ?_⟩; (focus (go_simp; (try go_bits); (try simp only [↓IntWalk.iteOmega]); with_reducible rfl)); simp only [Act.put, List.setIfInBounds_toArray, List.set_cons_zero, List.set_cons_succ]))
            refine ord_end ?_
            clear d0 d1 b3 n0 n1
            replace hB1 := hB1.grown hG0 (by simp)
            replace hB2 := hB2.grown hG0 (by simp)
            replace hb := hb.trans (below_grown hG0 hb.size (fun g e => by cases e))
            clear hG0
            cases hq : (d.toList == e.toList) with
            | false =>
              have HV := Lib.hid (HE.out.trans (show _ = false by rw [hr, hm, hq]; rfl))
              clear hr
              go_wp2
              go_ret
              exact ⟨by rw [HV.out]; rfl, hb⟩
            | true =>
              have HR := Lib.hid (show flB files files' ds es 0 = flB files files' ds es (j + 1) by rw [hr, hm, hq]; rfl)
              clear hr
              go_wp2
              go_roundw
              case rel => exact ⟨j + 1, by omega, by go_num, HR.out, hB1, hB2, hb⟩
              case measure => simp [intOf]; omega
        · obtain rfl : j = fn := by omega
          have hki : ¬ (j : Int) < j := by omega
          have HV := Lib.hid (HE.out.trans (show _ = true by
            rw [hr, flB, List.drop_of_length_le (by rw [Hf.out]; exact Nat.le_refl _), List.drop_of_length_le (by rw [Hf2.out]; exact Nat.le_refl _), List.drop_of_length_le (by rw [HD.out.len, Hf.out]; exact Nat.le_refl _), List.drop_of_length_le (by rw [HD2.out.len, Hf2.out]; exact Nat.le_refl _)]
            simp))
          clear hr
          go_wp2
          go_ret
          exact ⟨by rw [HV.out]; rfl, hb⟩
/-- Are two trees loose, and one? -/
def sameB (t u : TV) (ds es : List ByteArray) : Bool := decide (looseE t = 0) && (decide (looseE u = 0) && exactB t u ds es)
theorem same_any (t u : TV) (ds es : List ByteArray) (w : World) (ht : TreeD w t ds) (hu : TreeD w u es) : Calls Try.prog 22 #[t.val, u.val] w fun e w' => e = .returned (.bool (sameB t u ds es)) ∧ Below w.heap.size w w' := by
  by_cases h1 : looseE t = 0
  · by_cases h2 : looseE u = 0
    · rw [sameB, decide_eq_true h1, decide_eq_true h2]
      exact same_yes t u ds es w ht hu h1 h2
    · rw [sameB, decide_eq_true h1, decide_eq_false h2]
      exact same_no2 t u ds es w ht hu h1 h2
  · rw [sameB, decide_eq_false h1]
    exact same_no1 t u ds es w ht hu h1
end Go.Proofs.Ytdjlchbgdehccaa
