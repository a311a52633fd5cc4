/- TreeCanon: tree.Canon says what the document says; what is handed in stays; what is answered is the caller's. -/
import Derived.Test.YtdjlchbgdehccaaCanonL
import Derived.Test.YtdjlchbgdehccaaLent
import Derived.Test.YtdjlchbgdehccaaBigR
import Derived.Test.YtdjlchbgdehccaaAliveT
import Derived.Test.YtdjlchbgdehccaaReach
import Derived.Test.YtdjlchbgdehccaaOpenT
import Derived.ChangeMaps5
import Derived.Deep.DeepCutAuto
namespace Go.Proofs.Ytdjlchbgdehccaa.treeCanonDone
open Go.ChangeShapes Go.WideShapes Go.ChangeAt Go.ChangeMaps Go.RowKit Go.Deep

set_option maxRecDepth 100000 in
set_option maxHeartbeats 8000000 in
theorem walk (t : TV) (ds : List ByteArray) (w : World) (hT : TreeD w t ds) (hR : ReachT t) :
    Calls Try.prog 10 #[t.val] w fun e w' => e = .returned (.bool true) ∧ Below w.heap.size w w' := by
  have HT := Lib.hid hT; have HR := Lib.hid hR
  clear hT hR
  obtain ⟨nodes, files, NA, nn, nc, FA, fn, fc⟩ := t
  unfold TV.val
  have hB := Blk.new w 26 #[.slice NA nn nc, .slice FA fn fc]
  have hb := (Below.refl w.heap.size w).alloc (Nat.le_refl _) (.cells #[.slice NA nn nc, .slice FA fn fc] 26)
  go_enter Try.func10, Try.ntmps10
  go_upto_region 3 with (first | (go_at_call 14; refine (alive_t _).mono ?_; rintro e w1 ⟨rfl, hb1⟩; replace hB := hB.below hb1 hB.lt; replace hb := hb.trans (hb1.mono hb.size); have b0 := hB.cell 0; have b1 := hB.cell 1) | (go_at_call 19; refine (lbig_reach ⟨nodes, files, NA, nn, nc, FA, fn, fc⟩ _ (HT.out.tree.keep hb) HR.out.1 HR.out.2).mono ?_; rintro e w2 ⟨x, rfl, hx, hb2⟩; replace hb := hb.trans (hb2.mono hb.size); replace hB := hB.below hb2 hB.lt))
  cases x
  rotate_left
  · go_wp2
    go_ret
    exact ⟨rfl, hb⟩
  obtain ⟨hnn, hfn, hsp, hsm⟩ := hx rfl
  have HSM := Lib.hid (show ∀ x ∈ files, x.n ≤ 2000000 from fun x hx => Nat.le_trans (hsm x hx) (by omega))
  clear hsp hsm
  change nn ≤ 300 at hnn
  change fn ≤ 300 at hfn
  clear hx b0 b1 hb1 hb2
  have b0 := hB.cell 0; have b1 := hB.cell 1
  go_upto_region 5 with (fail)
  go_upto_region 6 with (go_at_call 33; refine (lent_any ⟨nodes, files, NA, nn, nc, FA, fn, fc⟩ ds _ (HT.out.keep hb) (by show nn ≤ 100000; omega) (by show fn ≤ 100000; omega) HSM.out).mono ?_; rintro e w4 ⟨⟨un, uf, uNA, unn, unc, uFA, ufn, ufc⟩, rfl, hLt, hFull, hX, hb4⟩; unfold TV.val)
  have HSame := Lib.hid (lent_canon hFull HT.out hX)
  have hF := Blk.new w4 26 #[.slice uNA unn unc, .slice uFA ufn ufc]
  have hg4 := (Below.refl w4.heap.size w4).alloc (Nat.le_refl _) (.cells #[.slice uNA unn unc, .slice uFA ufn ufc] 26)
  replace hB := (hB.below hb4 hB.lt).alloc (.cells #[.slice uNA unn unc, .slice uFA ufn ufc] 26)
  have hs4 := hb.size
  replace hb := (hb.trans (hb4.mono hs4)).trans (hg4.mono (by have := hb4.size; omega))
  replace hLt := hLt.keep hg4
  replace hFull := hFull.keep hg4
  obtain ⟨W4, hW4⟩ : ∃ W, w4.alloc (.cells #[.slice uNA unn unc, .slice uFA ufn ufc] 26) = W := ⟨_, rfl⟩
  obtain ⟨g, hg⟩ : ∃ g, w4.heap.size = g := ⟨_, rfl⟩
  rw [hW4] at hF hB hb hLt hFull ⊢
  rw [hg] at hF ⊢
  have HLt := Lib.hid hLt; have HFull := Lib.hid hFull; have HX := Lib.hid hX
  have HT4 := Lib.hid (HT.out.keep hb)
  have hBl := hB.lt; have hFl := hF.lt
  clear hW4 hg hg4 hs4 hb4 b0 b1 hLt hFull hX
  have f0 := hF.cell 0; have f1 := hF.cell 1; have b0 := hB.cell 0; have b1 := hB.cell 1
  go_upto_region 7 with (go_at_call 41; refine (tcanon_any ⟨un, uf, uNA, unn, unc, uFA, ufn, ufc⟩ ds _ HFull.out).mono ?_; intro e w6 hc6; obtain ⟨hb6, ⟨vn, vf, vNA, vnn, vnc, vFA, vfn, vfc⟩, E, es, rfl, hO, hC, hSm⟩ := tcanon_out HFull.out hc6; clear hc6; unfold TV.val)
  have HC := Lib.hid (hC.same HSame.out.1 HSame.out.2.1 HSame.out.2.2.1 HSame.out.2.2.2)
  have HSm := Lib.hid hSm
  have hU := Blk.new w6 26 #[.slice vNA vnn vnc, .slice vFA vfn vfc]
  have hg6 := (Below.refl w6.heap.size w6).alloc (Nat.le_refl _) (.cells #[.slice vNA vnn vnc, .slice vFA vfn vfc] 26)
  have hbe := hb6.trans (hg6.mono hb6.size)
  have htop : ∃ top, w6.heap.size = top := ⟨_, rfl⟩
  obtain ⟨top, htop⟩ := htop
  have hlowN := own_low' hO.own; have hlowF := own_low' hO.ownF; have hlowR : LowF w6.heap.size vf := hO.rows.low
  replace hO := hO.below hg6
  have hts : top ≤ (w6.alloc (.cells #[.slice vNA vnn vnc, .slice vFA vfn vfc] 26)).heap.size := by rw [← htop]; exact hg6.size
  have hbt : W4.heap.size ≤ top := by rw [← htop]; exact hb6.size
  obtain ⟨W6, hW6⟩ : ∃ W, w6.alloc (.cells #[.slice vNA vnn vnc, .slice vFA vfn vfc] 26) = W := ⟨_, rfl⟩
  rw [htop] at hlowN hlowF hlowR
  rw [hW6] at hU hbe hO hts ⊢
  rw [htop] at hU ⊢
  have HO := Lib.hid hO; have HlN := Lib.hid hlowN; have HlF := Lib.hid hlowF; have HlR := Lib.hid hlowR
  have hB6 := hB.below hbe hBl
  have hUl := hU.lt
  clear hW6 htop hg6 hb6 hO hC hSm hlowN hlowF hlowR f0 f1 b0 b1
  have b0 := hB6.cell 0; have b1 := hB6.cell 1
  go_upto_region 8 with (go_at_call 42; refine (rcanon_any ⟨nodes, files, NA, nn, nc, FA, fn, fc⟩ ds _ (HT4.out.keep hbe)).mono ?_; intro e w7 hc7; obtain ⟨hb7, ⟨xn, xf, xNA, xnn, xnc, xFA, xfn, xfc⟩, E2, es2, rfl, hO2, hC2, hSm2⟩ := rcanon_out (HT4.out.keep hbe) hc7; clear hc7; unfold TV.val)
  obtain ⟨hEE, hXX⟩ := HC.out.eq hC2
  subst hEE
  have HC2 := Lib.hid hC2; have HXX := Lib.hid hXX
  have hV := Blk.new w7 26 #[.slice xNA xnn xnc, .slice xFA xfn xfc]
  have hg7 := (Below.refl w7.heap.size w7).alloc (Nat.le_refl _) (.cells #[.slice xNA xnn xnc, .slice xFA xfn xfc] 26)
  have hb67 := hb7.trans (hg7.mono hb7.size)
  have hvt : top ≤ w7.heap.size := Nat.le_trans hts hb7.size
  replace hO2 := hO2.below hg7
  obtain ⟨W7, hW7⟩ : ∃ W, w7.alloc (.cells #[.slice xNA xnn xnc, .slice xFA xfn xfc] 26) = W := ⟨_, rfl⟩
  obtain ⟨gv, hgv⟩ : ∃ g, w7.heap.size = g := ⟨_, rfl⟩
  rw [hW7] at hV hb67 hO2 ⊢
  rw [hgv] at hV hvt ⊢
  replace hU := hU.below hb67 hUl
  have HO7 := Lib.hid (HO.out.below hb67)
  replace hbe := hbe.trans (hb67.mono hbe.size)
  have HO2 := Lib.hid hO2
  clear hW7 hgv hg7 hb7 hO2 hC2 hXX b0 b1 hB6 HO hb67
  have hUl := hU.lt; have hVl := hV.lt
  have u0 := hU.cell 0; have u1 := hU.cell 1; have x0 := hV.cell 0; have x1 := hV.cell 1
  have hEE : (E != E) = false := by simp
  go_upto_region 10 with (first | (go_at_call 18; refine (numT _ _).mono ?_; rintro e w8 ⟨rfl, hw⟩; rw [hw]; clear hw) | (go_at_call 21; refine (exact_any ⟨vn, vf, vNA, vnn, vnc, vFA, vfn, vfc⟩ ⟨xn, xf, xNA, xnn, xnc, xFA, xfn, xfc⟩ _ _ _ HO7.out.tree HO2.out.tree).mono ?_; rintro e w9 ⟨rfl, hb9⟩; rw [HXX.out]))
  replace hU := hU.below hb9 hUl; replace hV := hV.below hb9 hVl
  have HO9 := Lib.hid (HO7.out.below hb9); have HP9 := Lib.hid (HO2.out.below hb9)
  replace hbe := hbe.trans (hb9.mono hbe.size)
  clear u0 u1 x0 x1 HO7 HO2 hb9
  have hVl := hV.lt
  have u0 := hU.cell 0; have u1 := hU.cell 1
  have HSp := Lib.hid (spoil_mid ⟨vn, vf, vNA, vnn, vnc, vFA, vfn, vfc⟩ es W4.heap.size top w9 HO9.out.own HO9.out.ownF HO9.out.fl HO9.out.dl HO9.out.rows hbe.size (by have := HSm.out.1; omega) (by have := HSm.out.2.1; omega) (fun x hx => by have := HSm.out.2.2 x hx; omega) HlN.out HlF.out HlR.out)
  unfold TV.val at HSp
  go_upto_region 11 with (go_at_call 43; refine HSp.out.mono ?_; rintro e wa ⟨⟨v, rfl⟩, hba, hma⟩)
  replace hbe := hbe.trans hba
  have hVa : Blk wa gv 26 #[.slice xNA xnn xnc, .slice xFA xfn xfc] := hV.keep (hma.2 gv hvt hVl)
  have HPa := Lib.hid (HP9.out.mid hts hma)
  have hFa := hF.below hbe hFl; have hBa := hB.below hbe hBl
  have HLta := Lib.hid (HLt.out.keep hbe); have HFulla := Lib.hid (HFull.out.keep hbe); have HTa := Lib.hid (HT4.out.keep hbe)
  clear u0 u1 hba hma HSp HO9 HP9 hU hV
  have hBal := hBa.lt; have hVal := hVa.lt
  have f0 := hFa.cell 0; have f1 := hFa.cell 1; have b0 := hBa.cell 0; have b1 := hBa.cell 1
  go_upto_region 12 with (go_at_call 35; refine (stays_yes ⟨un, uf, uNA, unn, unc, uFA, ufn, ufc⟩ ⟨nodes, files, NA, nn, nc, FA, fn, fc⟩ ds ds _ HLta.out HFulla.out HTa.out HX.out (by show nn ≤ 1000000; omega) (by show fn ≤ 1000000; omega) (fun x hx => Nat.le_trans (HSM.out x hx) (by omega))).mono ?_; rintro e wb ⟨rfl, hbb⟩)
  have hBb := hBa.below hbb hBal; have hVb := hVa.below hbb hVal
  have HPb := Lib.hid (HPa.out.below hbb); have HTb := Lib.hid (HTa.out.keep hbb)
  replace hbe := hbe.trans (hbb.mono hbe.size)
  clear f0 f1 b0 b1 hbb HLta HFulla HTa HPa hFa hBa hVa
  have hVbl := hVb.lt
  have b0 := hBb.cell 0; have b1 := hBb.cell 1
  have tok1 : True := trivial
  go_upto_region 13 with (have _t := tok1; go_at_call 41; refine (tcanon_any ⟨nodes, files, NA, nn, nc, FA, fn, fc⟩ ds _ HTb.out).mono ?_; intro e wc hcc; obtain ⟨hbc, ⟨yn, yf, yNA, ynn, ync, yFA, yfn, yfc⟩, E3, es3, rfl, hO3, hC3, hSm3⟩ := tcanon_out HTb.out hcc; clear hcc tok1 _t; unfold TV.val)
  have HYX := Lib.hid (hC3.eq HC2.out).2
  have hY := Blk.new wc 26 #[.slice yNA ynn ync, .slice yFA yfn yfc]
  have hgc := (Below.refl wc.heap.size wc).alloc (Nat.le_refl _) (.cells #[.slice yNA ynn ync, .slice yFA yfn yfc] 26)
  have hbcc := hbc.trans (hgc.mono hbc.size)
  have HOy := Lib.hid (hO3.below hgc)
  obtain ⟨Wc, hWc⟩ : ∃ W, wc.alloc (.cells #[.slice yNA ynn ync, .slice yFA yfn yfc] 26) = W := ⟨_, rfl⟩
  obtain ⟨gy, hgy⟩ : ∃ g, wc.heap.size = g := ⟨_, rfl⟩
  rw [hWc] at hY hbcc HOy ⊢
  rw [hgy] at hY ⊢
  have hVc := hVb.below hbcc hVbl
  have HPc := Lib.hid (HPb.out.below hbcc)
  replace hbe := hbe.trans (hbcc.mono hbe.size)
  clear hWc hgy hgc hbc hbcc hO3 hC3 hSm3 b0 b1 hBb hVb
  have y0 := hY.cell 0; have y1 := hY.cell 1; have x0 := hVc.cell 0; have x1 := hVc.cell 1
  go_wp2_with (go_at_call 21; refine (exact_any ⟨yn, yf, yNA, ynn, ync, yFA, yfn, yfc⟩ ⟨xn, xf, xNA, xnn, xnc, xFA, xfn, xfc⟩ _ _ _ HOy.out.tree HPc.out.tree).mono ?_; rintro e wd ⟨rfl, hbd⟩; rw [HYX.out]; replace hbe := hbe.trans (hbd.mono hbe.size))
  go_ret
  exact ⟨rfl, hb.trans (hbe.mono hb.size)⟩


set_option maxRecDepth 100000 in
theorem lifted (os : Os) (started : os.Started) (H : Type) (enc : TypeId × Value → H) :
    ReturnsInHanded {} Try.checked os 10 .any (Rows.treeCanonSpec.pre6 enc Try.prog Try.f10 Rows.treeCanonRow.domain false) (Rows.treeCanonSpec.post enc Try.prog Try.f10 false true false false) := by
  refine returnsInHanded_of_change_sized (C := Try.checked) own started (by kernel_rfl) Try.func10
    (ChangeSpec.witness6 (enc := enc) (C := Try.checked) false ⟨#[], #[.agg #[.slice none 0 0, .slice none 0 0]], []⟩ 8 (by kernel_rfl) (by kernel_rfl) (by kernel_rfl) (by kernel_rfl)) ?_
  intro W base args ds gs before hval0 hW hcnd hsz0 _
  have hval : ∀ (j : Nat) t v, Try.f10.params[j]? = some t → args[j]? = some v → Value.okWide Try.prog W .any base t v := hval0
  have hW' := hW
  obtain ⟨p, q, hA0, hV, rfl, hfz, hnd⟩ := hW
  have hA : DataW.TrodAll enc Try.prog W 0 (fun _ => true) true Try.f10.params.toList args.toList ds p := hA0
  have hsz : (DataW.weightsEach Try.prog (Try.f10.params.toList ++ Rows.treeCanonSpec.plain.varTypes Try.prog) (ds ++ gs)).all (· ≤ reachBytes) = true := hsz0
  rw [Try.params10] at hA hval hsz
  obtain ⟨v0, vs0, d0, ds0, p0, q0, hargs, rfl, rfl, h0, r0⟩ := trodAll_cons hA
  obtain ⟨rfl, rfl, rfl⟩ := trodAll_nil r0
  obtain rfl : args = #[v0] := by cases args; simp_all
  obtain ⟨rfl, rfl⟩ := trodVars_none hV
  have k0 := h0
  have lt0 : ∀ x ∈ p0, x.block < W.heap.size := by obtain ⟨m, hm⟩ := k0; exact DataW.trod_lt m _ _ _ hm
  obtain ⟨t0, ds0', rfl, hT0⟩ := open_tree (hval 0 26 v0 rfl rfl) h0 lt0
  clear hA0 hval0
  refine (walk t0 ds0' W hT0 (reachT (hval 0 26 _ rfl rfl) k0 hT0 (fun m hm => of_decide_eq_true (List.all_eq_true.1 hsz m (DataW.weights_mem_each (j := 0) (t := 26) (d := d0) rfl rfl m hm))))).mono fun e W' ⟨he, bel⟩ => ?_
  subst he
  exact ⟨_, rfl, _, _, _, [], _, [], hW', trodAll_mk1 (shut_bool Try.underlying4 _), (trodAll_cons_mk (Below.trod laidOut (by kernel_rfl) (of_decide_eq_true (by kernel_rfl)) k0 bel lt0) trodAll_mk0), rfl, bel.frame _, fun h => by cases h⟩

theorem over : Rows.treeCanonRow.holds Try.pinned (OpenSpec.ofChange Rows.treeCanonSpec) :=
  OpenClaim.holds_of_wide 10 Try.f10 rfl rfl rfl rfl rfl rfl rfl ⟨rfl, rfl, rfl, rfl, rfl⟩ rfl rfl rfl rfl rfl (by kernel_rfl) Try.func10 (by kernel_rfl)
    (of_decide_eq_true (by kernel_rfl)) (by unfold Func.isWrapper; first | (rw [if_pos (by decide +kernel)]; kernel_rfl) | (rw [if_neg (by decide +kernel)]; exact ⟨rfl, rfl⟩))
    (fun os started H enc _ => lifted os started H enc)

theorem proved : Rows.TreeCanonSaid := over
#print axioms proved
end Go.Proofs.Ytdjlchbgdehccaa.treeCanonDone
