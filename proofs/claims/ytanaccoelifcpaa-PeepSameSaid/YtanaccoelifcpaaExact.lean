/- shuntref6.Exact and tree.Same. -/
import Derived.Test.YtanaccoelifcpaaTreeD
import Derived.Test.YtanaccoelifcpaaLoose
namespace Go.Proofs.Ytanaccoelifcpaa
open Go.RowKit

def ndB (xs ys : List Node) (k : Nat) : Bool := decide (xs.drop k = ys.drop k)
def flB (fs gs : List FC) (ds es : List ByteArray) (k : Nat) : Bool := decide ((fs.drop k).map (·.mode) = (gs.drop k).map (·.mode)) && decide (ds.drop k = es.drop k)
theorem exactB_eq (t u : TV) (ds es : List ByteArray) : exactB t u ds es = (decide (t.nodes = u.nodes) && flB t.files u.files ds es 0) := rfl
theorem ndB_step {xs ys : List Node} {k : Nat} {x y : Node} (hx : xs[k]? = some x) (hy : ys[k]? = some y) : ndB xs ys k = (nodeEq x.path y.path x.file x.mode y.file y.mode && ndB xs ys (k + 1)) := by
  rw [ndB, drop_at' hx, drop_at' hy, show nodeEq x.path y.path x.file x.mode y.file y.mode = x.eqb y from rfl, ndB]
  cases h : x.eqb y
  · have : x ≠ y := fun e => by rw [Node.eqb_iff.2 e] at h; cases h
    simp [this]
  · rw [Node.eqb_iff.1 h]; simp
theorem flB_step {fs gs : List FC} {ds es : List ByteArray} {k : Nat} {x y : FC} {d e : ByteArray} (hx : fs[k]? = some x) (hy : gs[k]? = some y) (hd : ds[k]? = some d) (he : es[k]? = some e) :
    flB fs gs ds es k = ((x.mode == y.mode) && ((d.toList == e.toList) && flB fs gs ds es (k + 1))) := by
  rw [flB, drop_at' hx, drop_at' hy, drop_at' hd, drop_at' he, flB, List.map_cons, List.map_cons]
  by_cases h1 : x.mode = y.mode
  · by_cases h2 : d = e
    · subst h2; simp [h1]
    · have : ¬ d.toList = e.toList := fun e => h2 (toList_inj e)
      simp [h1, h2, this]
  · simp [h1]
set_option maxRecDepth 100000 in
set_option maxHeartbeats 4000000 in
theorem exact_any (t u : TV) (ds es : List ByteArray) (w : World) (ht : TreeD w t ds) (hu : TreeD w u es) : Calls Try.prog 10 #[t.val, u.val] w fun e w' => e = .returned (.bool (exactB t u ds es)) ∧ Below w.heap.size w w' := by
  have hns := ht.tree.ns
  have hnl := ht.tree.nl
  have hfs := ht.tree.fs
  have hfl := ht.tree.fl
  have hnm := ht.tree.nm
  have hfm := ht.tree.fm
  have hda := ht.dat
  have hns2 := hu.tree.ns
  have hnl2 := hu.tree.nl
  have hfs2 := hu.tree.fs
  have hfl2 := hu.tree.fl
  have hda2 := hu.dat
  have hE := exactB_eq t u ds es
  clear ht hu
  obtain ⟨nodes, files, NA, nn, nc, FA, fn, fc⟩ := t
  obtain ⟨nodes', files', NB, mn, mc, FB, fm, md⟩ := u
  simp only at hns hnl hfs hfl hnm hfm hda hns2 hnl2 hfs2 hfl2 hda2 hE
  have HS := Lib.hid hns; clear hns
  have Hn := Lib.hid hnl; clear hnl
  have HF := Lib.hid hfs; clear hfs
  have Hf := Lib.hid hfl; clear hfl
  have HD := Lib.hid hda; clear hda
  have HS2 := Lib.hid hns2; clear hns2
  have Hn2 := Lib.hid hnl2; clear hnl2
  have HF2 := Lib.hid hfs2; clear hfs2
  have Hf2 := Lib.hid hfl2; clear hfl2
  have HD2 := Lib.hid hda2; clear hda2
  have HE := Lib.hid hE; clear hE
  unfold TV.val
  have hB1 := Blk.new w 25 #[.slice NA nn nc, .slice FA fn fc]
  have hB2 := Blk.new (w.alloc (.cells #[.slice NA nn nc, .slice FA fn fc] 25)) 25 #[.slice NB mn mc, .slice FB fm md]
  replace hB1 := hB1.alloc (.cells #[.slice NB mn mc, .slice FB fm md] 25)
  rw [World.size_alloc] at hB2
  have hb := ((Below.refl w.heap.size w).alloc (Nat.le_refl _) (.cells #[.slice NA nn nc, .slice FA fn fc] 25)).alloc (by simp) (.cells #[.slice NB mn mc, .slice FB fm md] 25)
  have b0 := hB1.cell 0
  have b1 := hB1.cell 1
  have b2 := hB2.cell 0
  have b3 := hB2.cell 1
  by_cases h1 : nn = mn
  case neg =>
    have h1a : ((nn : Int) == mn) = false := beq_eq_false_iff_ne.2 (by omega)
    have h1b : (nn == mn) = false := beq_eq_false_iff_ne.2 h1
    have HV := Lib.hid (HE.out.trans (show _ = false by rw [decide_eq_false (fun e => h1 (by rw [← Hn.out, ← Hn2.out, e]))]; rfl))
    clear hB1 hB2
    go_enter Try.func10, Try.ntmps10
    go_wp2
    go_ret
    exact ⟨by rw [HV.out]; rfl, hb⟩
  subst h1
  by_cases h2 : fn = fm
  case neg =>
    have h1a : ((fn : Int) == fm) = false := beq_eq_false_iff_ne.2 (by omega)
    have h1b : (fn == fm) = false := beq_eq_false_iff_ne.2 h2
    have HV := Lib.hid (HE.out.trans (show _ = false by
      rw [flB, decide_eq_false (p := List.map _ _ = _) (fun e => h2 (by
        have := congrArg List.length e
        simp only [List.drop_zero, List.length_map] at this
        rw [← Hf.out, ← Hf2.out, this]))]
      simp))
    clear hB1 hB2
    go_enter Try.func10, Try.ntmps10
    go_wp2
    go_ret
    exact ⟨by rw [HV.out]; rfl, hb⟩
  subst h2
  go_enter Try.func10, Try.ntmps10
  go_wp2
  clear b0 b1 b2 b3
  go_loopw [5] (fun i wr => ∃ k : Nat, k ≤ nn ∧ i = .int .i64 k ∧ decide (nodes = nodes') = ndB nodes nodes' k ∧ Blk wr w.heap.size 25 #[.slice NA nn nc, .slice FA fn fc] ∧ Blk wr (w.heap.size + 1) 25 #[.slice NB nn mc, .slice FB fn md] ∧ Below w.heap.size w wr) (fun i _ => nn - (intOf i).toNat)
  case atStart => exact ⟨0, Nat.zero_le _, rfl, rfl, hB1, hB2, hb⟩
  case round =>
    clear hB1 hB2 hb
    obtain ⟨k, hk, rfl, hr, hB1, hB2, hb⟩ := hrel
    have hl1 := hB1.lt
    have hl2 := hB2.lt
    have hs := hb.size
    have b0 := hB1.cell 0
    have b1 := hB1.cell 1
    have b2 := hB2.cell 0
    have b3 := hB2.cell 1
    by_cases hlt : k < nn
    · have hki : (k : Int) < nn := by omega
      obtain ⟨xb, xo, x, rfl, hxb, hx, hc⟩ := (HS.out.keep (Nat.le_refl _) hb.block).get Node.len Hn.out hlt
      obtain ⟨yb, yo, y, rfl, hyb, hy, hd⟩ := (HS2.out.keep (Nat.le_refl _) hb.block).get Node.len Hn2.out hlt
      have c0 := hc 0 _ rfl
      have c1 := hc 1 _ rfl
      have c2 := hc 2 _ rfl
      have d0 := hd 0 _ rfl
      have d1 := hd 1 _ rfl
      have d2 := hd 2 _ rfl
      simp only [Nat.add_zero] at c0 c1 c2 d0 d1 d2
      clear hc hd
      have hxw : xb < wr.heap.size := by omega
      have hyw : yb < wr.heap.size := by omega
      rw [ndB_step hx hy] at hr
      clear hx hy
      go_upto_region 6 with (fail)
      refine wp_region_ordB (none) [(0, true), (1, true), (2, true), (3, true), (4, true), (5, true), (6, true), (7, true), (8, true), (9, true), (10, true)] (by kernel_rfl) (by kernel_rfl) fun hG0 => ?_
      repeat (first
        | (refine ord_skipB rfl (by rfl) ?_; simp only [Act.put, List.setIfInBounds_toArray, List.set_cons_zero, List.set_cons_succ])
        | (refine ord_qE rfl (by rfl) ?_; apply Exists.intro; refine ⟨fun w' hc' => ?_, ?_⟩; (focus (go_simp; (try go_bits); (try simp only [↓IntWalk.iteOmega]); with_reducible rfl)); simp only [Act.put, List.setIfInBounds_toArray, List.set_cons_zero, List.set_cons_succ]))
      refine ord_end ?_
      clear c0 c1 c2 d0 d1 d2 b0 b1 b2 b3
      replace hB1 := hB1.grown hG0 (by simp)
      replace hB2 := hB2.grown hG0 (by simp)
      replace hb := hb.trans (below_grown hG0 hb.size (fun g e => by cases e))
      clear hG0
      cases hq : nodeEq x.path y.path x.file x.mode y.file y.mode with
      | false =>
        have HV := Lib.hid (HE.out.trans (show _ = false by rw [hr, hq]; rfl))
        clear hr
        go_wp2
        go_ret
        exact ⟨by rw [HV.out]; rfl, hb⟩
      | true =>
        have HR := Lib.hid (show decide (nodes = nodes') = ndB nodes nodes' (k + 1) by rw [hr, hq]; rfl)
        clear hr
        go_wp2
        go_roundw
        case rel => exact ⟨k + 1, by omega, by go_num, HR.out, hB1, hB2, hb⟩
        case measure => simp [intOf]; omega
    · obtain rfl : k = nn := by omega
      have hki : ¬ (k : Int) < k := by omega
      have hE2 := HE.out
      rw [hr, ndB, List.drop_of_length_le (by rw [Hn.out]; exact Nat.le_refl _), List.drop_of_length_le (by rw [Hn2.out]; exact Nat.le_refl _), decide_eq_true rfl, Bool.true_and] at hE2
      clear HE hr
      have HE := Lib.hid hE2; clear hE2
      go_wp2
      clear b0 b1 b2 b3
      go_loopw [6] (fun i wr => ∃ j : Nat, j ≤ fn ∧ i = .int .i64 j ∧ flB files files' ds es 0 = flB files files' ds es j ∧ Blk wr w.heap.size 25 #[.slice NA k nc, .slice FA fn fc] ∧ Blk wr (w.heap.size + 1) 25 #[.slice NB k mc, .slice FB fn md] ∧ Below w.heap.size w wr) (fun i _ => fn - (intOf i).toNat)
      case atStart => exact ⟨0, Nat.zero_le _, rfl, rfl, hB1, hB2, hb⟩
      case round =>
        clear hB1 hB2 hb hl1 hl2 hs
        rename_i wq _ _ _ _ _
        obtain ⟨j, hj, rfl, hr, hB1, hB2, hb⟩ := hrel
        have hl1 := hB1.lt
        have hl2 := hB2.lt
        have hs := hb.size
        have b0 := hB1.cell 0
        have b1 := hB1.cell 1
        have b2 := hB2.cell 0
        have b3 := hB2.cell 1
        by_cases hlt : j < fn
        · have hki : (j : Int) < fn := by omega
          obtain ⟨xb, xo, x, rfl, hxb, hx, hc⟩ := (HF.out.keep (Nat.le_refl _) hb.block).get FC.len Hf.out hlt
          obtain ⟨yb, yo, y, rfl, hyb, hy, hd⟩ := (HF2.out.keep (Nat.le_refl _) hb.block).get FC.len Hf2.out hlt
          obtain ⟨d, hdx, hdn, hds⟩ := HD.out.get hx
          obtain ⟨e, hex, hen, hes⟩ := HD2.out.get hy
          have c0 := hc 0 _ rfl
          have c1 := hc 1 _ rfl
          have d0 := hd 0 _ rfl
          have d1 := hd 1 _ rfl
          simp only [Nat.add_zero] at c0 c1 d0 d1
          clear hc hd
          have hxw : xb < _ := Nat.lt_of_lt_of_le hxb hs
          have hyw : yb < _ := Nat.lt_of_lt_of_le hyb hs
          rw [flB_step hx hy hdx hex] at hr
          clear hx hy hdx hex
          have SA := Lib.hid (hds.below hb (Nat.le_refl _))
          have SB := Lib.hid (hes.below hb (Nat.le_refl _))
          have NA' := Lib.hid hdn
          have NB' := Lib.hid hen
          clear hds hes hdn hen
          cases hm : (x.mode == y.mode) with
          | false =>
            have HV := Lib.hid (HE.out.trans (show _ = false by rw [hr, hm]; rfl))
            clear hr
            have hm2 : (x.mode != y.mode) = true := by rw [bne, hm]; rfl
            go_upto_region 11 with (fail)
            refine wp_region_ordB (none) [(0, true), (1, true), (2, true), (3, true), (4, true), (5, true), (6, true), (7, true), (8, true), (9, true), (10, true), (11, true), (12, true), (13, true), (14, true), (15, true), (16, true), (17, true), (18, true), (19, true), (20, true), (21, true), (22, true), (23, true), (24, true), (25, true), (26, true), (27, true), (28, true), (29, true)] (by kernel_rfl) (by kernel_rfl) fun hG0 => ?_
            repeat (first
              | (refine ord_skipB rfl (by rfl) ?_; simp only [Act.put, List.setIfInBounds_toArray, List.set_cons_zero, List.set_cons_succ])
              | (refine ord_qE rfl (by rfl) ?_; apply Exists.intro; refine ⟨fun w' hc' => ?_, ?_⟩; (focus (go_simp; (try go_bits); (try simp only [↓IntWalk.iteOmega]); with_reducible rfl)); simp only [Act.put, List.setIfInBounds_toArray, List.set_cons_zero, List.set_cons_succ]))
            refine ord_end ?_
            replace hb := hb.trans (below_grown hG0 hb.size (fun g e => by cases e))
            go_wp2
            go_ret
            exact ⟨by rw [HV.out]; rfl, hb⟩
          | true =>
            have hm2 : (x.mode != y.mode) = false := by rw [bne, hm]; rfl
            go_upto_region 11 with (fail)
            refine wp_region_ordB (none) [(0, true), (1, true), (2, true), (3, true), (4, true), (5, true), (6, true), (7, true), (8, true), (9, true), (10, true), (11, true), (12, true), (13, true), (14, true), (15, true), (16, true), (17, true), (18, true), (19, true), (20, true), (21, true), (22, true), (23, true), (24, true), (25, true), (26, true), (27, true), (28, true), (29, true)] (by kernel_rfl) (by kernel_rfl) fun hG0 => ?_
            repeat (first
              | (refine ord_skipB rfl (by rfl) ?_; simp only [Act.put, List.setIfInBounds_toArray, List.set_cons_zero, List.set_cons_succ])
              | (first | (refine ord_qH rfl (by rfl) (fun w' hh => exec_conv rfl rfl (SA.out.held hs rfl hh) NA'.out) ?_; simp only [Act.put, List.setIfInBounds_toArray, List.set_cons_zero, List.set_cons_succ]) | (refine ord_qH rfl (by rfl) (fun w' hh => exec_conv rfl rfl (SB.out.held hs rfl hh) NB'.out) ?_; simp only [Act.put, List.setIfInBounds_toArray, List.set_cons_zero, List.set_cons_succ]))
              | (refine ord_qE rfl (by rfl) ?_; apply Exists.intro; refine ⟨fun w' hc' => ?_, ?_⟩; (focus (go_simp; (try go_bits); (try simp only [↓IntWalk.iteOmega]); with_reducible rfl)); simp only [Act.put, List.setIfInBounds_toArray, List.set_cons_zero, List.set_cons_succ]))
            refine ord_end ?_
            clear c0 c1 d0 d1 b0 b1 b2 b3
            replace hB1 := hB1.grown hG0 (by simp)
            replace hB2 := hB2.grown hG0 (by simp)
            replace hb := hb.trans (below_grown hG0 hb.size (fun g e => by cases e))
            clear hG0
            cases hq : (d.toList == e.toList) with
            | false =>
              have HV := Lib.hid (HE.out.trans (show _ = false by rw [hr, hm, hq]; rfl))
              clear hr
              go_wp2
              go_ret
              exact ⟨by rw [HV.out]; rfl, hb⟩
            | true =>
              have HR := Lib.hid (show flB files files' ds es 0 = flB files files' ds es (j + 1) by rw [hr, hm, hq]; rfl)
              clear hr
              go_wp2
              go_roundw
              case rel => exact ⟨j + 1, by omega, by go_num, HR.out, hB1, hB2, hb⟩
              case measure => simp [intOf]; omega
        · obtain rfl : j = fn := by omega
          have hki : ¬ (j : Int) < j := by omega
          have HV := Lib.hid (HE.out.trans (show _ = true by
            rw [hr, flB, List.drop_of_length_le (by rw [Hf.out]; exact Nat.le_refl _), List.drop_of_length_le (by rw [Hf2.out]; exact Nat.le_refl _), List.drop_of_length_le (by rw [HD.out.len, Hf.out]; exact Nat.le_refl _), List.drop_of_length_le (by rw [HD2.out.len, Hf2.out]; exact Nat.le_refl _)]
            simp))
          clear hr
          go_wp2
          go_ret
          exact ⟨by rw [HV.out]; rfl, hb⟩
end Go.Proofs.Ytanaccoelifcpaa
