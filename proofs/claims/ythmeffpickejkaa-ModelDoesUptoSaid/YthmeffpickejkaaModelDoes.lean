/- ModelDoes: model.Do says what the document says; what is handed in stays; what is answered is the caller's. For inputs whose bulk is at most 1048576. -/
import Derived.Test.YthmeffpickejkaaDoesP
import Derived.Test.YthmeffpickejkaaLent
import Derived.Test.YthmeffpickejkaaLent7s
import Derived.Test.YthmeffpickejkaaSpoil
import Derived.ChangeMaps5
import Derived.Deep.DeepCutAuto
namespace Go.Proofs.Ythmeffpickejkaa.modelDoesDone
open Go.ChangeShapes Go.WideShapes Go.ChangeAt Go.ChangeMaps Go.RowKit Go.Deep

set_option maxRecDepth 100000 in
set_option maxHeartbeats 8000000 in
theorem walk (t : TV) (ds : List ByteArray) (c : Cmd) (SA : Option Addr) (sn sc : Nat) (ss : List SC) (sd : List ByteArray) (w : World) (hT : TreeD w t ds) (ho : OpOk c) (hS : StockAt w SA sn ss sd) (hsm : ∀ x ∈ t.files, x.n ≤ 2000000) (hsn : sn ≤ 2000000) (hss : ∀ x ∈ ss, x.n ≤ 2000000) :
    Calls Try.prog 3 #[t.val, .agg c.cells, .slice SA sn sc] w fun e w' => e = .returned (.bool true) ∧ Below w.heap.size w w' := by
  have HT := Lib.hid hT; have HS := Lib.hid hS; have HO := Lib.hid ho; have HSM := Lib.hid hsm; have HSS := Lib.hid hss
  clear hT hS ho hsm hss
  obtain ⟨nodes, files, NA, nn, nc, FA, fn, fc⟩ := t
  unfold TV.val Cmd.cells
  have hB := (Blk.new w 25 #[.slice NA nn nc, .slice FA fn fc]).alloc (.cells #[.int .i64 c.op, .string c.path, .string c.dst, .int .i64 c.mode, .int .i64 c.ref] 27)
  have hI := Blk.new (w.alloc (.cells #[.slice NA nn nc, .slice FA fn fc] 25)) 27 #[.int .i64 c.op, .string c.path, .string c.dst, .int .i64 c.mode, .int .i64 c.ref]
  have hb := ((Below.refl w.heap.size w).alloc (Nat.le_refl _) (.cells #[.slice NA nn nc, .slice FA fn fc] 25)).alloc (by simp) (.cells #[.int .i64 c.op, .string c.path, .string c.dst, .int .i64 c.mode, .int .i64 c.ref] 27)
  rw [World.size_alloc] at hI
  by_cases h1 : (500 : Int) < c.path.size
  · go_enter Try.func3, Try.ntmps3
    go_upto_region 4 with (first | (go_at_call 13; refine (alive7 _).mono ?_; rintro e w1 ⟨rfl, hb1⟩; replace hB := hB.below hb1 hB.lt; replace hI := hI.below hb1 hI.lt; replace hb := hb.trans (hb1.mono hb.size); have b0 := hB.cell 0; have b1 := hB.cell 1) | (go_at_call 14; refine (lbig_any ⟨nodes, files, NA, nn, nc, FA, fn, fc⟩ _ (HT.out.tree.keep hb)).mono ?_; rintro e w2 ⟨x, rfl, _, hb2⟩; replace hb := hb.trans (hb2.mono hb.size); replace hI := hI.below hb2 hI.lt) | (go_at_call 15; refine (much7 SA sn sc ss sd _ (HS.out.keep hb)).mono ?_; rintro e w3 ⟨y, rfl, hb3⟩; replace hb := hb.trans (hb3.mono hb.size); replace hI := hI.below hb3 hI.lt; have i1 := hI.cell 1; have i2 := hI.cell 2))
    cases x <;> cases y
    all_goals go_wp2
    all_goals go_ret
    all_goals exact ⟨rfl, hb⟩
  by_cases h2 : (500 : Int) < c.dst.size
  · go_enter Try.func3, Try.ntmps3
    go_upto_region 4 with (first | (go_at_call 13; refine (alive7 _).mono ?_; rintro e w1 ⟨rfl, hb1⟩; replace hB := hB.below hb1 hB.lt; replace hI := hI.below hb1 hI.lt; replace hb := hb.trans (hb1.mono hb.size); have b0 := hB.cell 0; have b1 := hB.cell 1) | (go_at_call 14; refine (lbig_any ⟨nodes, files, NA, nn, nc, FA, fn, fc⟩ _ (HT.out.tree.keep hb)).mono ?_; rintro e w2 ⟨x, rfl, _, hb2⟩; replace hb := hb.trans (hb2.mono hb.size); replace hI := hI.below hb2 hI.lt) | (go_at_call 15; refine (much7 SA sn sc ss sd _ (HS.out.keep hb)).mono ?_; rintro e w3 ⟨y, rfl, hb3⟩; replace hb := hb.trans (hb3.mono hb.size); replace hI := hI.below hb3 hI.lt; have i1 := hI.cell 1; have i2 := hI.cell 2))
    cases x <;> cases y
    all_goals go_wp2
    all_goals go_ret
    all_goals exact ⟨rfl, hb⟩
  go_enter Try.func3, Try.ntmps3
  go_upto_region 4 with (first | (go_at_call 13; refine (alive7 _).mono ?_; rintro e w1 ⟨rfl, hb1⟩; replace hB := hB.below hb1 hB.lt; replace hI := hI.below hb1 hI.lt; replace hb := hb.trans (hb1.mono hb.size); have b0 := hB.cell 0; have b1 := hB.cell 1) | (go_at_call 14; refine (lbig_any ⟨nodes, files, NA, nn, nc, FA, fn, fc⟩ _ (HT.out.tree.keep hb)).mono ?_; rintro e w2 ⟨x, rfl, hx, hb2⟩; replace hb := hb.trans (hb2.mono hb.size); replace hB := hB.below hb2 hB.lt; replace hI := hI.below hb2 hI.lt) | (go_at_call 15; refine (much7 SA sn sc ss sd _ (HS.out.keep hb)).mono ?_; rintro e w3 ⟨y, rfl, hb3⟩; replace hb := hb.trans (hb3.mono hb.size); replace hB := hB.below hb3 hB.lt; replace hI := hI.below hb3 hI.lt; have i1 := hI.cell 1; have i2 := hI.cell 2))
  cases x
  rotate_left
  · cases y
    all_goals go_wp2
    all_goals go_ret
    all_goals exact ⟨rfl, hb⟩
  cases y
  rotate_left
  · go_wp2
    go_ret
    exact ⟨rfl, hb⟩
  obtain ⟨hnn, hfn⟩ := hx rfl
  change nn ≤ 300 at hnn
  change fn ≤ 300 at hfn
  clear hx b0 b1 hb1 hb2 hb3
  go_upto_region 6 with (fail)
  have b0 := hB.cell 0; have b1 := hB.cell 1
  clear i1 i2
  go_upto_region 7 with (go_at_call 16; refine (lent_any ⟨nodes, files, NA, nn, nc, FA, fn, fc⟩ ds _ (HT.out.keep hb) (by show nn ≤ 100000; omega) (by show fn ≤ 100000; omega) HSM.out).mono ?_; rintro e w4 ⟨⟨un, uf, uNA, unn, unc, uFA, ufn, ufc⟩, rfl, hLt, hFull, hX, hb4⟩; unfold TV.val)
  have HSame := Lib.hid (lent_same hFull HT.out hX)
  have hF := Blk.new w4 25 #[.slice uNA unn unc, .slice uFA ufn ufc]
  have hg4 := (Below.refl w4.heap.size w4).alloc (Nat.le_refl _) (.cells #[.slice uNA unn unc, .slice uFA ufn ufc] 25)
  replace hB := (hB.below hb4 hB.lt).alloc (.cells #[.slice uNA unn unc, .slice uFA ufn ufc] 25)
  replace hI := (hI.below hb4 hI.lt).alloc (.cells #[.slice uNA unn unc, .slice uFA ufn ufc] 25)
  have hs4 := hb.size
  replace hb := (hb.trans (hb4.mono hs4)).trans (hg4.mono (by have := hb4.size; omega))
  replace hLt := hLt.keep hg4
  replace hFull := hFull.keep hg4
  obtain ⟨W4, hW4⟩ : ∃ W, w4.alloc (.cells #[.slice uNA unn unc, .slice uFA ufn ufc] 25) = W := ⟨_, rfl⟩
  obtain ⟨g, hg⟩ : ∃ g, w4.heap.size = g := ⟨_, rfl⟩
  rw [hW4] at hF hB hI hb hLt hFull ⊢
  rw [hg] at hF ⊢
  have HLt := Lib.hid hLt; have HFull := Lib.hid hFull; have HX := Lib.hid hX
  clear hW4 hg hg4 hs4 hb4 b0 b1 hLt hFull hX
  go_upto_region 8 with (go_at_call 17; refine (lent7_any SA sn sc ss sd _ (HS.out.keep hb) hsn HSS.out).mono ?_; rintro e w5 ⟨A5, c5, gs, rfl, hL7, hG5, hb5⟩)
  have hlts : True ∧ True := ⟨trivial, trivial⟩
  have hBl := hB.lt; have hIl := hI.lt; have hFl := hF.lt
  replace hB := hB.below hb5 hBl; replace hI := hI.below hb5 hIl; replace hF := hF.below hb5 hFl
  have HLt5 := Lib.hid (HLt.out.keep hb5); have HFull5 := Lib.hid (HFull.out.keep hb5)
  replace hb := hb.trans (hb5.mono hb.size)
  have HT5 := Lib.hid (HT.out.keep hb); have HS5 := Lib.hid (HS.out.keep hb)
  have HL7 := Lib.hid hL7; have HG5 := Lib.hid hG5
  have hs5 := hb5.size
  replace hBl : _ < w5.heap.size := hB.lt; replace hIl : _ < w5.heap.size := hI.lt; replace hFl : _ < w5.heap.size := hF.lt
  obtain ⟨E, hE⟩ : ∃ E, DoE ⟨nodes, files, NA, nn, nc, FA, fn, fc⟩ ds c sd = E := ⟨_, rfl⟩
  obtain ⟨M, hM⟩ : ∃ M, doW ⟨nodes, files, NA, nn, nc, FA, fn, fc⟩ ds c sd = M := ⟨_, rfl⟩
  have HOk := Lib.hid (hM ▸ doW_ok HT5.out c sd : WOkP M)
  have hdo := Do_told ⟨un, uf, uNA, unn, unc, uFA, ufn, ufc⟩ ds c HO.out A5 sn c5 gs sd w5 HFull5.out HG5.out
  rw [(lent_doE HSame.out c sd).1, (lent_doE HSame.out c sd).2, hE, hM] at hdo
  have hrd := fun W (hW : Below w5.heap.size w5 W) => RDo_told ⟨nodes, files, NA, nn, nc, FA, fn, fc⟩ ds c SA sn sc ss sd W (HT5.out.keep hW) (HS5.out.keep hW)
  rw [hE, hM] at hrd
  unfold TV.val Cmd.cells at hdo hrd
  have HDo := Lib.hid hdo; have HRd := Lib.hid hrd
  clear hdo hrd hE hM hL7 hG5 hb5 hs5 hlts HLt HFull
  have f0 := hF.cell 0; have f1 := hF.cell 1; have i0 := hI.cell 0; have i1 := hI.cell 1; have i2 := hI.cell 2; have i3 := hI.cell 3; have i4 := hI.cell 4
  go_upto_region 9 with (go_at_call 18; refine HDo.out.mono ?_; rintro e w6 ⟨⟨vn, vf, vNA, vnn, vnc, vFA, vfn, vfc⟩, S, rfl, hTo, hb6⟩)
  have hU := Blk.new w6 25 #[.slice vNA vnn vnc, .slice vFA vfn vfc]
  have hg6 := (Below.refl w6.heap.size w6).alloc (Nat.le_refl _) (.cells #[.slice vNA vnn vnc, .slice vFA vfn vfc] 25)
  have hbe := hb6.trans (hg6.mono hb6.size)
  replace hTo := hTo.keep hg6
  obtain ⟨W6, hW6⟩ : ∃ W, w6.alloc (.cells #[.slice vNA vnn vnc, .slice vFA vfn vfc] 25) = W := ⟨_, rfl⟩
  obtain ⟨gu, hgu⟩ : ∃ g, w6.heap.size = g := ⟨_, rfl⟩
  rw [hW6] at hU hbe hTo ⊢
  rw [hgu] at hU ⊢
  have HTo := Lib.hid hTo
  have hUl := hU.lt
  have hB6 := hB.below hbe hBl; have hI6 := hI.below hbe hIl
  clear hW6 hgu hg6 hb6 hTo f0 f1 i0 i1 i2 i3 i4 HDo
  have b0 := hB6.cell 0; have b1 := hB6.cell 1; have i0 := hI6.cell 0; have i1 := hI6.cell 1; have i2 := hI6.cell 2; have i3 := hI6.cell 3; have i4 := hI6.cell 4
  go_upto_region 10 with (go_at_call 19; refine (HRd.out _ hbe).mono ?_; rintro e w7 ⟨⟨xn, xf, xNA, xnn, xnc, xFA, xfn, xfc⟩, S2, rfl, hTx, hb7⟩)
  have hV := Blk.new w7 25 #[.slice xNA xnn xnc, .slice xFA xfn xfc]
  have hg7 := (Below.refl w7.heap.size w7).alloc (Nat.le_refl _) (.cells #[.slice xNA xnn xnc, .slice xFA xfn xfc] 25)
  have hb67 := hb7.trans (hg7.mono hb7.size)
  replace hTx := hTx.keep hg7
  obtain ⟨W7, hW7⟩ : ∃ W, w7.alloc (.cells #[.slice xNA xnn xnc, .slice xFA xfn xfc] 25) = W := ⟨_, rfl⟩
  obtain ⟨gv, hgv⟩ : ∃ g, w7.heap.size = g := ⟨_, rfl⟩
  rw [hW7] at hV hb67 hTx ⊢
  rw [hgv] at hV ⊢
  replace hU := hU.below hb67 hUl
  have HTo7 := Lib.hid (HTo.out.keep hb67)
  replace hbe := hbe.trans (hb67.mono hbe.size)
  have HXX := Lib.hid (told_same HTo7.out hTx).2
  have HTu := Lib.hid HTo7.out.tree; have HTx := Lib.hid hTx.tree
  clear hW7 hgv hg7 hb7 hTx b0 b1 i0 i1 i2 i3 i4 HRd hB6 hI6 HTo hb67
  have hUl := hU.lt
  have u0 := hU.cell 0; have u1 := hU.cell 1; have x0 := hV.cell 0; have x1 := hV.cell 1
  have hEE : (E != E) = false := by simp
  go_upto_region 12 with (first | (go_at_call 20; refine (num7 _ _).mono ?_; rintro e w8 ⟨rfl, hw⟩; rw [hw]; clear hw) | (go_at_call 21; refine (exact_any ⟨vn, vf, vNA, vnn, vnc, vFA, vfn, vfc⟩ ⟨xn, xf, xNA, xnn, xnc, xFA, xfn, xfc⟩ _ _ _ HTu.out HTx.out).mono ?_; rintro e w9 ⟨rfl, hb9⟩; rw [HXX.out]))
  replace hU := hU.below hb9 hUl
  have HTo9 := Lib.hid (HTo7.out.keep hb9)
  replace hbe := hbe.trans (hb9.mono hbe.size)
  clear u0 u1 x0 x1 hV HTo7 HTu HTx hb9 HXX
  have u0 := hU.cell 0; have u1 := hU.cell 1
  have hgood := (told_loose HOk.out.inv HOk.out.len HTo9.out).good
  have HSp := Lib.hid (spoil_any ⟨vn, vf, vNA, vnn, vnc, vFA, vfn, vfc⟩ _ w5.heap.size w9 HTo9.out.own HTo9.out.ownF HTo9.out.fl (by rw [List.length_map, ← HTo9.out.fn]; exact HTo9.out.fl.symm) HTo9.out.rows hbe.size (by have := hgood.nn; omega) (by have := hgood.fn; omega) (fun x hx => by have := hgood.small x hx; omega))
  unfold TV.val at HSp
  clear hgood
  go_upto_region 13 with (go_at_call 22; refine HSp.out.mono ?_; rintro e wa ⟨⟨v, rfl⟩, hba⟩)
  replace hbe := hbe.trans hba
  have hFa := hF.below hbe hFl; have hBa := hB.below hbe hBl
  have HLta := Lib.hid (HLt5.out.keep hbe); have HFulla := Lib.hid (HFull5.out.keep hbe); have HTa := Lib.hid (HT5.out.keep hbe); have HSa := Lib.hid (HS5.out.keep hbe); have HL7a := Lib.hid (HL7.out.keep hbe); have HG7a := Lib.hid (HG5.out.keep hbe)
  clear u0 u1 hba HSp HTo9
  have f0 := hFa.cell 0; have f1 := hFa.cell 1; have b0 := hBa.cell 0; have b1 := hBa.cell 1
  go_wp2_with (first | (go_at_call 23; refine (stays_yes ⟨un, uf, uNA, unn, unc, uFA, ufn, ufc⟩ ⟨nodes, files, NA, nn, nc, FA, fn, fc⟩ ds ds _ HLta.out HFulla.out HTa.out HX.out (by show nn ≤ 1000000; omega) (by show fn ≤ 1000000; omega) (fun x hx => Nat.le_trans (HSM.out x hx) (by omega))).mono ?_; rintro e wb ⟨rfl, hbb⟩; replace hbe := hbe.trans (hbb.mono hbe.size)) | (go_at_call 24; refine (stay7_yes A5 SA sn c5 sc gs ss sd _ (HL7a.out.keep hbb) (HG7a.out.keep hbb) (HSa.out.keep hbb) hsn HSS.out).mono ?_; rintro e wd ⟨rfl, hbd⟩; replace hbe := hbe.trans (hbd.mono hbe.size)))
  go_ret
  exact ⟨rfl, hb.trans (hbe.mono hb.size)⟩


set_option maxRecDepth 100000 in
theorem lifted (os : Os) (started : os.Started) (H : Type) (enc : TypeId × Value → H) (F : Stop.Interp) :
    ReturnsInHanded {} Try.checked os 3 .any ((Rows.OpenSpec.upto Rows.modelDoesSpec).pre6 enc Try.prog Try.f3 Rows.modelDoesUptoRow.domain false) (((Rows.OpenSpec.upto Rows.modelDoesSpec).at F).post enc Try.prog Try.f3 false true false false) := by
  refine returnsInHanded_of_cond (C := Try.checked) (s := Rows.OpenSpec.upto Rows.modelDoesSpec) (k := Rows.uptoSmall) rfl own started (by kernel_rfl) Try.func3
    (OpenSpec.witness (enc := enc) (C := Try.checked) (s := Rows.OpenSpec.upto Rows.modelDoesSpec) (k := Rows.uptoSmall) rfl false ⟨#[], #[.agg #[.slice none 0 0, .slice none 0 0], .agg #[.int .i64 0, .string ByteArray.empty, .string ByteArray.empty, .int .i64 0, .int .i64 0], .slice none 0 0], []⟩ 8 (by kernel_rfl) (by kernel_rfl) (by kernel_rfl)
      (x := ([.agg [.nil, .nil], .agg [.lit (.int .i64 0), .lit (.string []), .lit (.string []), .lit (.int .i64 0), .lit (.int .i64 0)], .nil], [], [])) (by kernel_rfl) rfl (by kernel_rfl)) ?_
  intro W base args ds gs before hval0 hW hcnd hk _
  have hval : ∀ (j : Nat) t v, Try.f3.params[j]? = some t → args[j]? = some v → Value.okWide Try.prog W .any base t v := hval0
  have hW' := hW
  obtain ⟨p, q, hA0, hV, rfl, hfz, hnd⟩ := hW
  have hA : DataW.TrodAll enc Try.prog W 0 (fun _ => true) true Try.f3.params.toList args.toList ds p := hA0
  rw [Try.params3] at hA hval
  obtain ⟨v0, vs0, d0, ds0, p0, q0, hargs, rfl, rfl, h0, r0⟩ := trodAll_cons hA
  obtain ⟨v1, vs1, d1, ds1, p1, q1, rfl, rfl, rfl, h1, r1⟩ := trodAll_cons r0
  obtain ⟨v2, vs2, d2, ds2, p2, q2, rfl, rfl, rfl, h2, r2⟩ := trodAll_cons r1
  obtain ⟨rfl, rfl, rfl⟩ := trodAll_nil r2
  obtain rfl : args = #[v0, v1, v2] := by cases args; simp_all
  obtain ⟨rfl, rfl⟩ := trodVars_none hV
  have k0 := h0
  have lt0 : ∀ x ∈ p0, x.block < W.heap.size := by obtain ⟨m, hm⟩ := k0; exact DataW.trod_lt m _ _ _ hm
  obtain ⟨t0, ds0', rfl, hT0⟩ := open_tree (hval 0 25 v0 rfl rfl) h0 lt0
  have k1 := h1
  have lt1 : ∀ x ∈ p1, x.block < W.heap.size := by obtain ⟨m, hm⟩ := k1; exact DataW.trod_lt m _ _ _ hm
  obtain ⟨c1, rfl, ho1⟩ := open_cmd (hval 1 27 v1 rfl rfl) h1
  obtain ⟨a2, len2, cap2, rfl⟩ := okWide_slice Try.underlying28 (hval 2 28 v2 rfl rfl)
  have k2 := h2
  have lt2 : ∀ x ∈ p2, x.block < W.heap.size := by obtain ⟨m, hm⟩ := k2; exact DataW.trod_lt m _ _ _ hm
  obtain ⟨ss2, sd2, hK2⟩ : ∃ (ss : List SC) (sd : List ByteArray), StockAt W a2 len2 ss sd := by
    obtain ⟨fuel, hf⟩ := h2
    exact open_stock hf lt2
  have hbulk : Rows.uptoBulkAll [d0, d1, d2] ≤ 1048576 := of_decide_eq_true hk
  simp only [Rows.uptoBulkAll] at hbulk
  clear hA0 hval0
  refine (walk t0 ds0' c1 a2 len2 cap2 ss2 sd2 W hT0 ho1 hK2 (fun x hx => by have := tree_small (hval 0 25 _ rfl rfl) k0 hT0 x hx; omega) (by have := (stock_small k2 hK2).1; omega) (fun x hx => by have := (stock_small k2 hK2).2 x hx; omega)).mono fun e W' ⟨he, bel⟩ => ?_
  subst he
  exact ⟨_, rfl, _, _, _, [], _, [], hW', trodAll_mk1 (shut_bool Try.underlying4 _), (trodAll_cons_mk (Below.trod laidOut (by kernel_rfl) (of_decide_eq_true (by kernel_rfl)) k0 bel lt0) (trodAll_cons_mk (Below.trod laidOut (by kernel_rfl) (of_decide_eq_true (by kernel_rfl)) k1 bel lt1) (trodAll_cons_mk (Below.trod laidOut (by kernel_rfl) (of_decide_eq_true (by kernel_rfl)) k2 bel lt2) trodAll_mk0))), rfl, bel.frame _, fun h => by cases h⟩

theorem over : Rows.modelDoesUptoRow.holds Try.pinned (Rows.OpenSpec.upto Rows.modelDoesSpec) :=
  OpenClaim.holds_of_cond 3 Try.f3 rfl rfl rfl rfl rfl rfl rfl ⟨rfl, rfl, rfl, rfl, rfl⟩ rfl rfl rfl rfl rfl (by kernel_rfl) Try.func3 (by kernel_rfl)
    (of_decide_eq_true (by kernel_rfl)) (by unfold Func.isWrapper; first | (rw [if_pos (by decide +kernel)]; kernel_rfl) | (rw [if_neg (by decide +kernel)]; exact ⟨rfl, rfl⟩))
    (fun os started H enc _ F => lifted os started H enc F)

theorem proved : Rows.ModelDoesUptoSaid := over
#print axioms proved
end Go.Proofs.Ythmeffpickejkaa.modelDoesDone
