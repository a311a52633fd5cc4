/- TreeHeld: two answers in hand at one time are two. -/
import Derived.Test.YtdjlchbgdehccaaCanonL
import Derived.Test.YtdjlchbgdehccaaBytesA
import Derived.Test.YtdjlchbgdehccaaRBytes
import Derived.Test.YtdjlchbgdehccaaBig
import Derived.Test.YtdjlchbgdehccaaAliveT
import Derived.Test.YtdjlchbgdehccaaOpenT
import Derived.Deep.DeepCutAuto
namespace Go.Proofs.Ytdjlchbgdehccaa.treeHeldDone
open Go.ChangeShapes Go.WideShapes Go.ChangeAt Go.ChangeMaps Go.RowKit Go.Deep

set_option maxRecDepth 100000 in
set_option maxHeartbeats 8000000 in
theorem walk (t : TV) (ds : List ByteArray) (o : TV) (os : List ByteArray) (w : World) (hT : TreeD w t ds) (hO : TreeD w o os) :
    Calls Try.prog 11 #[t.val, o.val] w fun e w' => e = .returned (.bool true) ∧ Below w.heap.size w w' := by
  have HT := Lib.hid hT; have HU := Lib.hid hO
  clear hT hO
  obtain ⟨F, hF⟩ : ∃ F, looseE t = F := ⟨_, rfl⟩
  have HF := Lib.hid hF
  clear hF
  obtain ⟨nodes, files, NA, nn, nc, FA, fn, fc⟩ := t
  obtain ⟨nodes', files', NB, mn, mc, FB, fm, md⟩ := o
  unfold TV.val
  have hB1 := (Blk.new w 26 #[.slice NA nn nc, .slice FA fn fc]).alloc (.cells #[.slice NB mn mc, .slice FB fm md] 26)
  have hB2 := Blk.new (w.alloc (.cells #[.slice NA nn nc, .slice FA fn fc] 26)) 26 #[.slice NB mn mc, .slice FB fm md]
  rw [World.size_alloc] at hB2
  have hb := ((Below.refl w.heap.size w).alloc (Nat.le_refl _) (.cells #[.slice NA nn nc, .slice FA fn fc] 26)).alloc (by simp) (.cells #[.slice NB mn mc, .slice FB fm md] 26)
  have b0 := hB1.cell 0
  have b1 := hB1.cell 1
  have b2 := hB2.cell 0
  have b3 := hB2.cell 1
  have tok1 : True := trivial
  go_enter Try.func11, Try.ntmps11
  go_upto_region 4 with (first | (go_at_call 14; refine (alive_t _).mono ?_; rintro e w1 ⟨rfl, hb1⟩; replace hB1 := hB1.below hb1 hB1.lt; replace hB2 := hB2.below hb1 hB2.lt; replace hb := hb.trans (hb1.mono hb.size); have b0 := hB1.cell 0; have b1 := hB1.cell 1; have b2 := hB2.cell 0; have b3 := hB2.cell 1) | (go_at_call 19; have _t := tok1; refine (lbig_any ⟨nodes, files, NA, nn, nc, FA, fn, fc⟩ _ (HT.out.tree.keep hb)).mono ?_; rintro e w2 ⟨x, rfl, _, hb2⟩; replace hB1 := hB1.below hb2 hB1.lt; replace hB2 := hB2.below hb2 hB2.lt; replace hb := hb.trans (hb2.mono hb.size); have b0 := hB1.cell 0; have b1 := hB1.cell 1; have b2 := hB2.cell 0; have b3 := hB2.cell 1; clear tok1 _t) | (go_at_call 19; refine (lbig_any ⟨nodes', files', NB, mn, mc, FB, fm, md⟩ _ (HU.out.tree.keep hb)).mono ?_; rintro e w3 ⟨y, rfl, _, hb3⟩; replace hB1 := hB1.below hb3 hB1.lt; replace hB2 := hB2.below hb3 hB2.lt; replace hb := hb.trans (hb3.mono hb.size); have b0 := hB1.cell 0; have b1 := hB1.cell 1; have b2 := hB2.cell 0; have b3 := hB2.cell 1))
  cases x
  rotate_left
  · go_wp2
    go_ret
    exact ⟨rfl, hb⟩
  cases y
  rotate_left
  · go_wp2
    go_ret
    exact ⟨rfl, hb⟩
  have HT3 := Lib.hid (HT.out.keep hb); have HU3 := Lib.hid (HU.out.keep hb)
  obtain ⟨W3, hW3⟩ : ∃ W, W = w3 := ⟨_, rfl⟩
  rw [← hW3] at hB1 hB2 hb HT3 HU3 b0 b1 b2 b3 ⊢
  clear hW3 hb1 hb2 hb3
  have hBl1 := hB1.lt; have hBl2 := hB2.lt
  have tok1 : True := trivial
  -- u
  go_upto_region 6 with (fail)
  go_upto_region 7 with (go_at_call 41; refine (tcanon_any ⟨nodes, files, NA, nn, nc, FA, fn, fc⟩ ds _ HT3.out).mono ?_; intro e w6 hc6; obtain ⟨hb6, ⟨un, uf, uNA, unn, unc, uFA, ufn, ufc⟩, E, es, rfl, hO, hC, hSm⟩ := tcanon_out HT3.out hc6; clear hc6; unfold TV.val)
  have HC := Lib.hid hC
  have hU := Blk.new w6 26 #[.slice uNA unn unc, .slice uFA ufn ufc]
  have hg6 := (Below.refl w6.heap.size w6).alloc (Nat.le_refl _) (.cells #[.slice uNA unn unc, .slice uFA ufn ufc] 26)
  have hbe := hb6.trans (hg6.mono hb6.size)
  have HO := Lib.hid (hO.below hg6)
  obtain ⟨W6, hW6⟩ : ∃ W, w6.alloc (.cells #[.slice uNA unn unc, .slice uFA ufn ufc] 26) = W := ⟨_, rfl⟩
  obtain ⟨gu, hgu⟩ : ∃ g, w6.heap.size = g := ⟨_, rfl⟩
  rw [hW6] at hU hbe HO ⊢
  rw [hgu] at hU ⊢
  clear hW6 hgu hg6 hb6 hO hC hSm b0 b1 b2 b3
  replace hB1 := hB1.below hbe hBl1; replace hB2 := hB2.below hbe hBl2
  have HT6 := Lib.hid (HT3.out.keep hbe); have HU6 := Lib.hid (HU3.out.keep hbe)
  replace hb := hb.trans (hbe.mono hb.size)
  clear hbe HT3 HU3
  have hBl1 := hB1.lt; have hBl2 := hB2.lt; have hUl := hU.lt
  have b0 := hB1.cell 0; have b1 := hB1.cell 1
  -- b
  go_upto_region 8 with (go_at_call 32; refine (bytes_any ⟨nodes, files, NA, nn, nc, FA, fn, fc⟩ ds _ HT6.out).mono ?_; rintro e w7 ⟨bA, bn, bc, xs, rfl, hxl, hbo, hx0, hx1, hb7⟩; rw [HF.out] at hx0 hx1 ⊢)
  have HXL := Lib.hid hxl; have HBo := Lib.hid hbo; have HX0 := Lib.hid hx0; have HX1 := Lib.hid hx1
  replace hB1 := hB1.below hb7 hBl1; replace hB2 := hB2.below hb7 hBl2; replace hU := hU.below hb7 hUl
  have HT7 := Lib.hid (HT6.out.keep hb7); have HU7 := Lib.hid (HU6.out.keep hb7); have HO7 := Lib.hid (HO.out.below hb7)
  replace hb := hb.trans (hb7.mono hb.size)
  clear hxl hbo hx0 hx1 hb7 b0 b1 HT6 HU6 HO
  have hBl1 := hB1.lt; have hBl2 := hB2.lt; have hUl := hU.lt
  have b2 := hB2.cell 0; have b3 := hB2.cell 1
  -- v
  go_upto_region 9 with (go_at_call 41; refine (tcanon_any ⟨nodes', files', NB, mn, mc, FB, fm, md⟩ os _ HU7.out).mono ?_; intro e w8 hc8; obtain ⟨hb8, ⟨vn, vf, vNA, vnn, vnc, vFA, vfn, vfc⟩, E8, es8, rfl, hO8, hC8, hSm8⟩ := tcanon_out HU7.out hc8; clear hc8; unfold TV.val)
  have HSm := Lib.hid hSm8
  have hV := Blk.new w8 26 #[.slice vNA vnn vnc, .slice vFA vfn vfc]
  have hg8 := (Below.refl w8.heap.size w8).alloc (Nat.le_refl _) (.cells #[.slice vNA vnn vnc, .slice vFA vfn vfc] 26)
  have hbe := hb8.trans (hg8.mono hb8.size)
  have hlowN := own_low' hO8.own; have hlowF := own_low' hO8.ownF; have hlowR : LowF w8.heap.size vf := hO8.rows.low
  replace hO8 := hO8.below hg8
  have hts : w8.heap.size ≤ (w8.alloc (.cells #[.slice vNA vnn vnc, .slice vFA vfn vfc] 26)).heap.size := hg8.size
  have hbt : w7.heap.size ≤ w8.heap.size := hb8.size
  obtain ⟨W8, hW8⟩ : ∃ W, w8.alloc (.cells #[.slice vNA vnn vnc, .slice vFA vfn vfc] 26) = W := ⟨_, rfl⟩
  obtain ⟨top, htop⟩ : ∃ top, w8.heap.size = top := ⟨_, rfl⟩
  rw [hW8] at hV hbe hO8 hts ⊢
  rw [htop] at hV hlowN hlowF hlowR hts hbt ⊢
  have HO8 := Lib.hid hO8; have HlN := Lib.hid hlowN; have HlF := Lib.hid hlowF; have HlR := Lib.hid hlowR
  have hB28 := hB2.below hbe hBl2; have HU8 := Lib.hid (HU7.out.keep hbe)
  have hVl := hV.lt; have hB28l := hB28.lt
  clear hW8 htop hg8 hb8 hO8 hC8 hSm8 hlowN hlowF hlowR b2 b3
  have b2 := hB28.cell 0; have b3 := hB28.cell 1
  -- c
  go_upto_region 10 with (go_at_call 32; refine (bytes_any ⟨nodes', files', NB, mn, mc, FB, fm, md⟩ os _ HU8.out).mono ?_; rintro e w9 ⟨cA, cn, cc, ys, rfl, hyl, hco, hy0, hy1, hb9⟩)
  have HCo := Lib.hid hco; have hcm := own_nm hco
  replace hV := hV.below hb9 hVl
  have HO9 := Lib.hid (HO8.out.below hb9)
  replace hbe := hbe.trans (hb9.mono hbe.size)
  have hts9 : top ≤ w9.heap.size := Nat.le_trans hts hb9.size
  clear hyl hco hy0 hy1 hb9 b2 b3 HO8 HU8 hB28 hB28l
  have hVl := hV.lt
  have v0 := hV.cell 0; have v1 := hV.cell 1
  have HSp := Lib.hid (spoil_mid ⟨vn, vf, vNA, vnn, vnc, vFA, vfn, vfc⟩ es8 w7.heap.size top w9 HO9.out.own HO9.out.ownF HO9.out.fl HO9.out.dl HO9.out.rows hbe.size (by have := HSm.out.1; omega) (by have := HSm.out.2.1; omega) (fun x hx => by have := HSm.out.2.2 x hx; omega) HlN.out HlF.out HlR.out)
  unfold TV.val at HSp
  go_upto_region 11 with (go_at_call 43; refine HSp.out.mono ?_; rintro e wa ⟨⟨v, rfl⟩, hba, hma⟩)
  replace hbe := hbe.trans hba
  have HCa := Lib.hid (show wa.ownsRow top 5 1 (.slice cA cn cc) cn (i8C ys) from own_low (own_keep HCo.out fun g o e => by
    subst e
    have h := own_lt2 HCo.out
    exact hma.2 g (Nat.le_trans hts h.1) h.2.1) hts)
  clear v0 v1 hba hma HSp HO9 HCo hV hVl HSm HlN HlF HlR
  have hbt2 := hbe.size
  go_wp2
  go_loopw [16] (fun v wr => ∃ k : Nat, k ≤ cn ∧ v = .int .i64 k ∧ (∃ zs : List Int, zs.length = cn ∧ wr.ownsRow top 5 1 (.slice cA cn cc) cn (i8C zs)) ∧ Below w7.heap.size w7 wr) (fun v _ => cn - (intOf v).toNat)
  case atStart => exact ⟨0, Nat.zero_le _, rfl, ⟨ys, by have := HCa.out.1; rw [i8C, List.length_map] at this; omega, HCa.out⟩, hbe⟩
  case round =>
    clear HCa hbe hbt2
    obtain ⟨k, hk, rfl, ⟨zs, hzl, hco⟩, hbe⟩ := hrel
    by_cases hlt : k < cn
    · have hki : (k : Int) < cn := by omega
      obtain ⟨gc, rfl⟩ := own_some hco (by omega)
      obtain ⟨x, hx⟩ : ∃ x, zs[k]? = some x := ⟨_, List.getElem?_eq_getElem (by omega)⟩
      have d0 := (own_row hco).1 k (.int .u8 x) (by rw [i8C, List.getElem?_map, hx]; rfl)
      simp only [Nat.zero_add] at d0
      obtain ⟨cur, hBc⟩ := own_cur hco
      have f9 := hBc.frozen k
      have hgb := (own_row hco).2.1
      have hcl := hBc.lt
      have HCk := Lib.hid hco; have HZ := Lib.hid hzl
      clear hco hzl hx
      go_wp2
      go_roundw
      case rel => exact ⟨k + 1, by omega, by go_num, ⟨zs.set k (Go.bits .xor .u8 x 255), by rw [List.length_set]; exact HZ.out, by have h := setc_own (i := k) HCk.out (.int .u8 (Go.bits .xor .u8 x 255)); rw [i8C, List.map_set]; exact h⟩, hbe.setCell (p := ⟨gc, k, none⟩) (Nat.le_trans hbt hgb) _⟩
      case measure => simp [intOf]; omega
    · obtain rfl : k = cn := by omega
      have hki : ¬ (k : Int) < k := by omega
      clear hco hzl
      have hB1z := hB1.below hbe hBl1; have hUz := hU.below hbe hUl
      have HTz := Lib.hid (HT7.out.keep hbe); have HOz := Lib.hid (HO7.out.below hbe)
      have HBz := Lib.hid (own_keep HBo.out fun g o e => by subst e; exact hbe.block g (Nat.lt_of_lt_of_le (own_lt2 HBo.out).2.1 (Nat.le_refl _)))
      replace hb := hb.trans (hbe.mono hb.size)
      clear hbe HT7 HU7 HO7 HBo hB1 hB2 hU hBl1 hBl2 hUl
      have hBl1 := hB1z.lt; have hUl := hUz.lt
      have b0 := hB1z.cell 0; have b1 := hB1z.cell 1
      go_upto_region 15 with (fail)
      go_upto_region 16 with (go_at_call 42; refine (rcanon_any ⟨nodes, files, NA, nn, nc, FA, fn, fc⟩ ds _ HTz.out).mono ?_; intro e wc hcc; obtain ⟨hbc, ⟨xn, xf, xNA, xnn, xnc, xFA, xfn, xfc⟩, E2, es2, rfl, hO2, hC2, _⟩ := rcanon_out HTz.out hcc; clear hcc; unfold TV.val)
      obtain ⟨hEE, hXX⟩ := HC.out.eq hC2
      subst hEE
      have HXX := Lib.hid hXX
      have hX := Blk.new wc 26 #[.slice xNA xnn xnc, .slice xFA xfn xfc]
      have hgc := (Below.refl wc.heap.size wc).alloc (Nat.le_refl _) (.cells #[.slice xNA xnn xnc, .slice xFA xfn xfc] 26)
      have hbcc := hbc.trans (hgc.mono hbc.size)
      have HO2 := Lib.hid (hO2.below hgc)
      obtain ⟨Wc, hWc⟩ : ∃ W, wc.alloc (.cells #[.slice xNA xnn xnc, .slice xFA xfn xfc] 26) = W := ⟨_, rfl⟩
      obtain ⟨gx, hgx⟩ : ∃ g, wc.heap.size = g := ⟨_, rfl⟩
      rw [hWc] at hX hbcc HO2 ⊢
      rw [hgx] at hX ⊢
      have hB1c := hB1z.below hbcc hBl1; have hUc := hUz.below hbcc hUl
      have HTc := Lib.hid (HTz.out.keep hbcc); have HOc := Lib.hid (HOz.out.below hbcc)
      have HBc := Lib.hid (own_keep HBz.out fun g o e => by subst e; exact hbcc.block g (own_lt2 HBz.out).2.1)
      replace hb := hb.trans (hbcc.mono hb.size)
      clear hWc hgx hgc hbc hbcc hO2 hC2 hXX b0 b1 HTz HOz HBz hB1z hUz hBl1 hUl
      have hBl1 := hB1c.lt; have hUl := hUc.lt; have hXl := hX.lt
      have u0 := hUc.cell 0; have u1 := hUc.cell 1; have x0 := hX.cell 0; have x1 := hX.cell 1
      have hEE : (E != E) = false := by simp
      go_upto_region 18 with (first | (go_at_call 18; refine (numT _ _).mono ?_; rintro e wd ⟨rfl, hw⟩; rw [hw]; clear hw) | (go_at_call 21; refine (exact_any ⟨un, uf, uNA, unn, unc, uFA, ufn, ufc⟩ ⟨xn, xf, xNA, xnn, xnc, xFA, xfn, xfc⟩ _ _ _ HOc.out.tree HO2.out.tree).mono ?_; rintro e wd ⟨rfl, hbd⟩; rw [HXX.out]))
      have hB1d := hB1c.below hbd hBl1
      have HTd := Lib.hid (HTc.out.keep hbd)
      have HBd := Lib.hid (own_keep HBc.out fun g o e => by subst e; exact hbd.block g (own_lt2 HBc.out).2.1)
      replace hb := hb.trans (hbd.mono hb.size)
      clear hbd u0 u1 x0 x1 HTc HOc HBc HO2 hB1c hUc hX hUl hXl hBl1
      have hBl1 := hB1d.lt
      have b0 := hB1d.cell 0; have b1 := hB1d.cell 1
      by_cases f0 : F = 0
      · have e2 : (F != 0) = false := by simp [f0]
        have hx0 := HX0.out f0
        have HL := Lib.hid (HF.out.trans f0)
        have hx := hx0; clear hx0
        have hxp := tree_pos ⟨nodes, files, NA, nn, nc, FA, fn, fc⟩ ds
        rw [← hx, HXL.out] at hxp
        have HX := Lib.hid hx; clear hx f0
        go_upto_region 20 with (go_at_call 18; refine (numT _ _).mono ?_; rintro e we ⟨rfl, hw⟩; rw [hw]; clear hw)
        obtain ⟨Wd, hWd⟩ : ∃ W, W = wd := ⟨_, rfl⟩
        rw [← hWd] at hB1d HTd HBd hb hBl1 b0 b1 ⊢
        clear hWd
        have HSl := Lib.hid (Sl.of_own HBd.out)
        have hs := Nat.le_refl Wd.heap.size
        refine wp_region_ordB (none) [(0, true), (1, true), (2, true), (3, false), (4, false), (5, true), (6, true)] (by kernel_rfl) (by kernel_rfl) fun hG0 => ?_
        repeat (first
          | (refine ord_skipB rfl (by rfl) ?_; simp only [Act.put, List.setIfInBounds_toArray, List.set_cons_zero, List.set_cons_succ])
          | (refine ord_qH rfl (by rfl) (fun w' hh => exec_convI rfl rfl (HSl.out.held hs rfl hh) HXL.out hxp) ?_; simp only [Act.put, List.setIfInBounds_toArray, List.set_cons_zero, List.set_cons_succ])
          | (refine ord_qE rfl (by rfl) ?_; apply Exists.intro; refine ⟨fun w' hc' => ?_, ?_⟩; (focus (go_simp; (try go_bits); (try simp only [↓IntWalk.iteOmega]); with_reducible rfl)); simp only [Act.put, List.setIfInBounds_toArray, List.set_cons_zero, List.set_cons_succ]))
        refine ord_eB rfl fun K hK => ?_
        go_wp2_with (go_at_call 39; refine (rbytes_any ⟨nodes, files, NA, nn, nc, FA, fn, fc⟩ ds _ (HTd.out.keep (below_grown hG0 (Nat.le_refl _) (fun g e => by cases e))) HL.out).mono ?_; rintro e w5 ⟨rA, rn, rc, rfl, hrl, hro, hb5⟩; have k5 := run_convI (c := rc) (Sl.of_own hro) hrl (by rw [← hrl]; exact tree_pos _ _))
        have hG1 := grown_trans hG0 (grown_below hb5 (Nat.le_refl _))
        refine hK.out _ _ hG1 ?_
        clear hK K
        repeat (first
          | (refine ord_skipB rfl (by rfl) ?_; simp only [Act.put, List.setIfInBounds_toArray, List.set_cons_zero, List.set_cons_succ])
          | (refine ord_qH rfl (by rfl) (fun w' hh => exec_convI rfl rfl (HSl.out.held hs rfl hh) HXL.out hxp) ?_; simp only [Act.put, List.setIfInBounds_toArray, List.set_cons_zero, List.set_cons_succ])
          | (refine ord_qE rfl (by rfl) ?_; apply Exists.intro; refine ⟨fun w' hc' => ?_, ?_⟩; (focus (go_simp; (try go_bits); (try simp only [↓IntWalk.iteOmega]); with_reducible rfl)); simp only [Act.put, List.setIfInBounds_toArray, List.set_cons_zero, List.set_cons_succ]))
        refine ord_eB rfl fun K hK => ?_
        go_wp2_with (fail)
        have hG2 := grown_trans hG1 (World.grownBy.refl _ _)
        refine hK.out _ _ hG2 ?_
        clear hK K
        repeat (first
          | (refine ord_skipB rfl (by rfl) ?_; simp only [Act.put, List.setIfInBounds_toArray, List.set_cons_zero, List.set_cons_succ])
          | (refine ord_qH rfl (by rfl) (fun w' hh => exec_convI rfl rfl (HSl.out.held hs rfl hh) HXL.out hxp) ?_; simp only [Act.put, List.setIfInBounds_toArray, List.set_cons_zero, List.set_cons_succ])
          | (refine ord_qE rfl (by rfl) ?_; apply Exists.intro; refine ⟨fun w' hc' => ?_, ?_⟩; (focus (go_simp; (try go_bits); (try simp only [↓IntWalk.iteOmega]); with_reducible rfl)); simp only [Act.put, List.setIfInBounds_toArray, List.set_cons_zero, List.set_cons_succ]))
        refine ord_end ?_
        rw [HX.out]
        simp only [beq_self_eq_true]
        go_wp2
        go_ret
        exact ⟨rfl, hb.trans ((below_grown hG2 (Nat.le_refl _) (fun g e => by cases e)).mono hb.size)⟩
      · have e2 : (F != 0) = true := bne_iff_ne.2 f0
        obtain rfl : bn = 0 := HX1.out f0
        clear f0
        go_wp2_with (go_at_call 18; refine (numT _ _).mono ?_; rintro e we ⟨rfl, hw⟩; rw [hw]; clear hw)
        go_ret
        exact ⟨rfl, hb⟩

set_option maxRecDepth 100000 in
theorem lifted (os : Os) (started : os.Started) (H : Type) (enc : TypeId × Value → H) :
    ReturnsInHanded {} Try.checked os 11 .any (Rows.treeHeldSpec.pre6 enc Try.prog Try.f11 Rows.treeHeldRow.domain false) (Rows.treeHeldSpec.post enc Try.prog Try.f11 false true false false) := by
  refine returnsInHanded_of_change (C := Try.checked) own started (by kernel_rfl) Try.func11
    (ChangeSpec.witness6 (enc := enc) (C := Try.checked) false ⟨#[], #[.agg #[.slice none 0 0, .slice none 0 0], .agg #[.slice none 0 0, .slice none 0 0]], []⟩ 8 (by kernel_rfl) (by kernel_rfl) (by kernel_rfl) (by kernel_rfl)) ?_
  intro W base args ds gs before hval0 hW hcnd _
  have hval : ∀ (j : Nat) t v, Try.f11.params[j]? = some t → args[j]? = some v → Value.okWide Try.prog W .any base t v := hval0
  have hW' := hW
  obtain ⟨p, q, hA0, hV, rfl, hfz, hnd⟩ := hW
  have hA : DataW.TrodAll enc Try.prog W 0 (fun _ => true) true Try.f11.params.toList args.toList ds p := hA0
  rw [Try.params11] at hA hval
  obtain ⟨v0, vs0, d0, ds0, p0, q0, hargs, rfl, rfl, h0, r0⟩ := trodAll_cons hA
  obtain ⟨v1, vs1, d1, ds1, p1, q1, rfl, rfl, rfl, h1, r1⟩ := trodAll_cons r0
  obtain ⟨rfl, rfl, rfl⟩ := trodAll_nil r1
  obtain rfl : args = #[v0, v1] := by cases args; simp_all
  obtain ⟨rfl, rfl⟩ := trodVars_none hV
  have k0 := h0
  have lt0 : ∀ x ∈ p0, x.block < W.heap.size := by obtain ⟨m, hm⟩ := k0; exact DataW.trod_lt m _ _ _ hm
  obtain ⟨t0, ds0', rfl, hT0⟩ := open_tree (hval 0 26 v0 rfl rfl) h0 lt0
  have k1 := h1
  have lt1 : ∀ x ∈ p1, x.block < W.heap.size := by obtain ⟨m, hm⟩ := k1; exact DataW.trod_lt m _ _ _ hm
  obtain ⟨t1, ds1', rfl, hT1⟩ := open_tree (hval 1 26 v1 rfl rfl) h1 lt1
  clear hA0 hval0
  refine (walk t0 ds0' t1 ds1' W hT0 hT1).mono fun e W' ⟨he, bel⟩ => ?_
  subst he
  exact ⟨_, rfl, _, _, _, [], _, [], hW', trodAll_mk1 (shut_bool Try.underlying4 _), (trodAll_cons_mk (Below.trod laidOut (by kernel_rfl) (of_decide_eq_true (by kernel_rfl)) k0 bel lt0) (trodAll_cons_mk (Below.trod laidOut (by kernel_rfl) (of_decide_eq_true (by kernel_rfl)) k1 bel lt1) trodAll_mk0)), rfl, bel.frame _, fun h => by cases h⟩

theorem over : Rows.treeHeldRow.holds Try.pinned (OpenSpec.ofChange Rows.treeHeldSpec) :=
  OpenClaim.holds_of_wide 11 Try.f11 rfl rfl rfl rfl rfl rfl rfl ⟨rfl, rfl, rfl, rfl, rfl⟩ rfl rfl rfl rfl rfl (by kernel_rfl) Try.func11 (by kernel_rfl)
    (of_decide_eq_true (by kernel_rfl)) (by unfold Func.isWrapper; first | (rw [if_pos (by decide +kernel)]; kernel_rfl) | (rw [if_neg (by decide +kernel)]; exact ⟨rfl, rfl⟩))
    (fun os started H enc _ => lifted os started H enc)

theorem proved : Rows.TreeHeldSaid := over
#print axioms proved
end Go.Proofs.Ytdjlchbgdehccaa.treeHeldDone
