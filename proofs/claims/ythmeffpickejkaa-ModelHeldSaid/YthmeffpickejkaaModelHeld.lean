/- ModelHeld: two answers of model.Do, and two of model.Curve, that are in hand at one time are two. -/
import Derived.Test.YthmeffpickejkaaTraces
import Derived.Test.YthmeffpickejkaaSpoil
import Derived.Test.YthmeffpickejkaaMuch7
import Derived.ChangeMaps5
import Derived.Deep.DeepCutAuto
namespace Go.Proofs.Ythmeffpickejkaa.modelHeldDone
open Go.ChangeShapes Go.WideShapes Go.ChangeAt Go.ChangeMaps Go.RowKit Go.Deep

theorem own_cur {w : World} {base e sz g n c : Nat} {L : List Value} (h : w.ownsRow base e sz (.slice (some ⟨g, 0, none⟩) n c) n L) : ∃ cur, Blk w g e cur := by
  rcases h.2 with ⟨h', _⟩ | ⟨g', cap, cur, hv, hg, hh, _⟩
  · cases h'
  · injection hv with hA
    injection hA with hA
    injection hA with hA
    subst hA
    exact ⟨cur, hh⟩
set_option maxRecDepth 100000 in
set_option maxHeartbeats 8000000 in
theorem walk (t : TV) (ds : List ByteArray) (x y : Cmd) (SA : Option Addr) (sn sc : Nat) (ss : List SC) (sd : List ByteArray) (w : World) (hT : TreeD w t ds) (hCx : OpOk x) (hCy : OpOk y) (hS : StockAt w SA sn ss sd) :
    Calls Try.prog 12 #[t.val, .agg x.cells, .agg y.cells, .slice SA sn sc] w fun e w' => e = .returned (.bool true) ∧ Below w.heap.size w w' := by
  have HT := Lib.hid hT; have HS := Lib.hid hS; have HCx := Lib.hid hCx; have HCy := Lib.hid hCy
  clear hT hS hCx hCy
  obtain ⟨nodes, files, NA, nn, nc, FA, fn, fc⟩ := t
  unfold TV.val Cmd.cells
  have hB := (Blk.new w 25 #[.slice NA nn nc, .slice FA fn fc]).alloc (.cells #[.int .i64 x.op, .string x.path, .string x.dst, .int .i64 x.mode, .int .i64 x.ref] 27) |>.alloc (.cells #[.int .i64 y.op, .string y.path, .string y.dst, .int .i64 y.mode, .int .i64 y.ref] 27)
  have hX := (Blk.new (w.alloc (.cells #[.slice NA nn nc, .slice FA fn fc] 25)) 27 #[.int .i64 x.op, .string x.path, .string x.dst, .int .i64 x.mode, .int .i64 x.ref]).alloc (.cells #[.int .i64 y.op, .string y.path, .string y.dst, .int .i64 y.mode, .int .i64 y.ref] 27)
  have hY := Blk.new ((w.alloc (.cells #[.slice NA nn nc, .slice FA fn fc] 25)).alloc (.cells #[.int .i64 x.op, .string x.path, .string x.dst, .int .i64 x.mode, .int .i64 x.ref] 27)) 27 #[.int .i64 y.op, .string y.path, .string y.dst, .int .i64 y.mode, .int .i64 y.ref]
  have hb := (((Below.refl w.heap.size w).alloc (Nat.le_refl _) (.cells #[.slice NA nn nc, .slice FA fn fc] 25)).alloc (by simp) (.cells #[.int .i64 x.op, .string x.path, .string x.dst, .int .i64 x.mode, .int .i64 x.ref] 27)).alloc (by simp; omega) (.cells #[.int .i64 y.op, .string y.path, .string y.dst, .int .i64 y.mode, .int .i64 y.ref] 27)
  simp only [World.size_alloc] at hX hY
  by_cases hs0 : (500 : Int) < x.path.size
  · go_enter Try.func12, Try.ntmps12
    go_upto_region 4 with (first | (go_at_call 13; refine (alive7 _).mono ?_; rintro e w1 ⟨rfl, hb1⟩; replace hB := hB.below hb1 hB.lt; replace hX := hX.below hb1 hX.lt; replace hY := hY.below hb1 hY.lt; replace hb := hb.trans (hb1.mono hb.size); have b0 := hB.cell 0; have b1 := hB.cell 1) | (go_at_call 14; refine (lbig_any ⟨nodes, files, NA, nn, nc, FA, fn, fc⟩ _ (HT.out.tree.keep hb)).mono ?_; rintro e w2 ⟨p, rfl, _, hb2⟩; replace hb := hb.trans (hb2.mono hb.size); replace hB := hB.below hb2 hB.lt; replace hX := hX.below hb2 hX.lt; replace hY := hY.below hb2 hY.lt) | (go_at_call 15; refine (much7 SA sn sc ss sd _ (HS.out.keep hb)).mono ?_; rintro e w3 ⟨q, rfl, hb3⟩; replace hb := hb.trans (hb3.mono hb.size); replace hB := hB.below hb3 hB.lt; replace hX := hX.below hb3 hX.lt; replace hY := hY.below hb3 hY.lt; have x1 := hX.cell 1; have x2 := hX.cell 2; have y1 := hY.cell 1; have y2 := hY.cell 2))
    cases p <;> cases q
    all_goals go_wp2
    all_goals go_ret
    all_goals exact ⟨rfl, hb⟩
  by_cases hs1 : (500 : Int) < y.path.size
  · go_enter Try.func12, Try.ntmps12
    go_upto_region 4 with (first | (go_at_call 13; refine (alive7 _).mono ?_; rintro e w1 ⟨rfl, hb1⟩; replace hB := hB.below hb1 hB.lt; replace hX := hX.below hb1 hX.lt; replace hY := hY.below hb1 hY.lt; replace hb := hb.trans (hb1.mono hb.size); have b0 := hB.cell 0; have b1 := hB.cell 1) | (go_at_call 14; refine (lbig_any ⟨nodes, files, NA, nn, nc, FA, fn, fc⟩ _ (HT.out.tree.keep hb)).mono ?_; rintro e w2 ⟨p, rfl, _, hb2⟩; replace hb := hb.trans (hb2.mono hb.size); replace hB := hB.below hb2 hB.lt; replace hX := hX.below hb2 hX.lt; replace hY := hY.below hb2 hY.lt) | (go_at_call 15; refine (much7 SA sn sc ss sd _ (HS.out.keep hb)).mono ?_; rintro e w3 ⟨q, rfl, hb3⟩; replace hb := hb.trans (hb3.mono hb.size); replace hB := hB.below hb3 hB.lt; replace hX := hX.below hb3 hX.lt; replace hY := hY.below hb3 hY.lt; have x1 := hX.cell 1; have x2 := hX.cell 2; have y1 := hY.cell 1; have y2 := hY.cell 2))
    cases p <;> cases q
    all_goals go_wp2
    all_goals go_ret
    all_goals exact ⟨rfl, hb⟩
  by_cases hs2 : (500 : Int) < x.dst.size
  · go_enter Try.func12, Try.ntmps12
    go_upto_region 4 with (first | (go_at_call 13; refine (alive7 _).mono ?_; rintro e w1 ⟨rfl, hb1⟩; replace hB := hB.below hb1 hB.lt; replace hX := hX.below hb1 hX.lt; replace hY := hY.below hb1 hY.lt; replace hb := hb.trans (hb1.mono hb.size); have b0 := hB.cell 0; have b1 := hB.cell 1) | (go_at_call 14; refine (lbig_any ⟨nodes, files, NA, nn, nc, FA, fn, fc⟩ _ (HT.out.tree.keep hb)).mono ?_; rintro e w2 ⟨p, rfl, _, hb2⟩; replace hb := hb.trans (hb2.mono hb.size); replace hB := hB.below hb2 hB.lt; replace hX := hX.below hb2 hX.lt; replace hY := hY.below hb2 hY.lt) | (go_at_call 15; refine (much7 SA sn sc ss sd _ (HS.out.keep hb)).mono ?_; rintro e w3 ⟨q, rfl, hb3⟩; replace hb := hb.trans (hb3.mono hb.size); replace hB := hB.below hb3 hB.lt; replace hX := hX.below hb3 hX.lt; replace hY := hY.below hb3 hY.lt; have x1 := hX.cell 1; have x2 := hX.cell 2; have y1 := hY.cell 1; have y2 := hY.cell 2))
    cases p <;> cases q
    all_goals go_wp2
    all_goals go_ret
    all_goals exact ⟨rfl, hb⟩
  by_cases hs3 : (500 : Int) < y.dst.size
  · go_enter Try.func12, Try.ntmps12
    go_upto_region 4 with (first | (go_at_call 13; refine (alive7 _).mono ?_; rintro e w1 ⟨rfl, hb1⟩; replace hB := hB.below hb1 hB.lt; replace hX := hX.below hb1 hX.lt; replace hY := hY.below hb1 hY.lt; replace hb := hb.trans (hb1.mono hb.size); have b0 := hB.cell 0; have b1 := hB.cell 1) | (go_at_call 14; refine (lbig_any ⟨nodes, files, NA, nn, nc, FA, fn, fc⟩ _ (HT.out.tree.keep hb)).mono ?_; rintro e w2 ⟨p, rfl, _, hb2⟩; replace hb := hb.trans (hb2.mono hb.size); replace hB := hB.below hb2 hB.lt; replace hX := hX.below hb2 hX.lt; replace hY := hY.below hb2 hY.lt) | (go_at_call 15; refine (much7 SA sn sc ss sd _ (HS.out.keep hb)).mono ?_; rintro e w3 ⟨q, rfl, hb3⟩; replace hb := hb.trans (hb3.mono hb.size); replace hB := hB.below hb3 hB.lt; replace hX := hX.below hb3 hX.lt; replace hY := hY.below hb3 hY.lt; have x1 := hX.cell 1; have x2 := hX.cell 2; have y1 := hY.cell 1; have y2 := hY.cell 2))
    cases p <;> cases q
    all_goals go_wp2
    all_goals go_ret
    all_goals exact ⟨rfl, hb⟩
  go_enter Try.func12, Try.ntmps12
  go_upto_region 4 with (first | (go_at_call 13; refine (alive7 _).mono ?_; rintro e w1 ⟨rfl, hb1⟩; replace hB := hB.below hb1 hB.lt; replace hX := hX.below hb1 hX.lt; replace hY := hY.below hb1 hY.lt; replace hb := hb.trans (hb1.mono hb.size); have b0 := hB.cell 0; have b1 := hB.cell 1) | (go_at_call 14; refine (lbig_any ⟨nodes, files, NA, nn, nc, FA, fn, fc⟩ _ (HT.out.tree.keep hb)).mono ?_; rintro e w2 ⟨p, rfl, _, hb2⟩; replace hb := hb.trans (hb2.mono hb.size); replace hB := hB.below hb2 hB.lt; replace hX := hX.below hb2 hX.lt; replace hY := hY.below hb2 hY.lt) | (go_at_call 15; refine (much7 SA sn sc ss sd _ (HS.out.keep hb)).mono ?_; rintro e w3 ⟨q, rfl, hb3⟩; replace hb := hb.trans (hb3.mono hb.size); replace hB := hB.below hb3 hB.lt; replace hX := hX.below hb3 hX.lt; replace hY := hY.below hb3 hY.lt; have x1 := hX.cell 1; have x2 := hX.cell 2; have y1 := hY.cell 1; have y2 := hY.cell 2))
  cases p
  rotate_left
  · cases q
    all_goals go_wp2
    all_goals go_ret
    all_goals exact ⟨rfl, hb⟩
  cases q
  rotate_left
  · go_wp2
    go_ret
    exact ⟨rfl, hb⟩
  clear b0 b1 hb1 hb2 hb3 x1 x2 y1 y2
  have x1 := hX.cell 1; have x2 := hX.cell 2; have y1 := hY.cell 1; have y2 := hY.cell 2
  go_upto_region 6 with (fail)
  have HT3 := Lib.hid (HT.out.keep hb); have HS3 := Lib.hid (HS.out.keep hb)
  have hBl := hB.lt; have hXl := hX.lt; have hYl := hY.lt
  obtain ⟨E, hE⟩ : ∃ E, DoE ⟨nodes, files, NA, nn, nc, FA, fn, fc⟩ ds x sd = E := ⟨_, rfl⟩
  obtain ⟨M, hM⟩ : ∃ M, doW ⟨nodes, files, NA, nn, nc, FA, fn, fc⟩ ds x sd = M := ⟨_, rfl⟩
  obtain ⟨Ey, hEy⟩ : ∃ E, DoE ⟨nodes, files, NA, nn, nc, FA, fn, fc⟩ ds y sd = E := ⟨_, rfl⟩
  obtain ⟨My, hMy⟩ : ∃ M, doW ⟨nodes, files, NA, nn, nc, FA, fn, fc⟩ ds y sd = M := ⟨_, rfl⟩
  obtain ⟨CV, hCV⟩ : ∃ l, curveR ⟨nodes, files, NA, nn, nc, FA, fn, fc⟩ ds [x] sd = l := ⟨_, rfl⟩
  have HOy := Lib.hid (hMy ▸ doW_ok HT3.out y sd : WOkP My)
  have hdx := fun W (hW : Below w3.heap.size w3 W) => Do_told ⟨nodes, files, NA, nn, nc, FA, fn, fc⟩ ds x HCx.out SA sn sc ss sd W (HT3.out.keep hW) (HS3.out.keep hW)
  have hdy := fun W (hW : Below w3.heap.size w3 W) => Do_told ⟨nodes, files, NA, nn, nc, FA, fn, fc⟩ ds y HCy.out SA sn sc ss sd W (HT3.out.keep hW) (HS3.out.keep hW)
  have hrd := fun W (hW : Below w3.heap.size w3 W) => RDo_told ⟨nodes, files, NA, nn, nc, FA, fn, fc⟩ ds x SA sn sc ss sd W (HT3.out.keep hW) (HS3.out.keep hW)
  have hcx := fun W A cap (hW : Below w3.heap.size w3 W) (hA : Sl W W.heap.size 5 A 1 ([x].flatMap Cmd.list)) => Curve_any ⟨nodes, files, NA, nn, nc, FA, fn, fc⟩ ds [x] (fun c hc => by rw [List.mem_singleton.1 hc]; exact HCx.out) A 1 cap SA sn sc ss sd W (HT3.out.keep hW) hA rfl (by omega) (HS3.out.keep hW)
  have hcy := fun W A cap (hW : Below w3.heap.size w3 W) (hA : Sl W W.heap.size 5 A 1 ([y].flatMap Cmd.list)) => Curve_any ⟨nodes, files, NA, nn, nc, FA, fn, fc⟩ ds [y] (fun c hc => by rw [List.mem_singleton.1 hc]; exact HCy.out) A 1 cap SA sn sc ss sd W (HT3.out.keep hW) hA rfl (by omega) (HS3.out.keep hW)
  have htr := fun W A cap (hW : Below w3.heap.size w3 W) (hA : Sl W W.heap.size 5 A 1 x.list) => trace1_any ⟨nodes, files, NA, nn, nc, FA, fn, fc⟩ ds x A cap SA sn sc ss sd W (HT3.out.keep hW) hA (HS3.out.keep hW)
  rw [hE, hM] at hdx hrd
  rw [hEy, hMy] at hdy
  unfold CurveRes at hcx hcy
  unfold Trace1Res at htr
  rw [hCV] at hcx htr
  unfold TV.val Cmd.cells at hdx hdy hrd
  unfold TV.val at hcx hcy htr
  have HDx := Lib.hid hdx; have HDy := Lib.hid hdy; have HRd := Lib.hid hrd; have HCx2 := Lib.hid hcx; have HCy2 := Lib.hid hcy; have HTr := Lib.hid htr
  clear hdx hdy hrd hcx hcy htr hE hM hEy hMy hCV x1 x2 y1 y2
  have b0 := hB.cell 0; have b1 := hB.cell 1
  have x0 := hX.cell 0; have x1 := hX.cell 1; have x2 := hX.cell 2; have x3 := hX.cell 3; have x4 := hX.cell 4
  have he := Below.refl w3.heap.size w3
  go_upto_region 7 with (go_at_call 18; refine (HDx.out _ he).mono ?_; rintro e w6 ⟨⟨un, uf, uNA, unn, unc, uFA, ufn, ufc⟩, S, rfl, hTo, hb6⟩)
  have hU := Blk.new w6 25 #[.slice uNA unn unc, .slice uFA ufn ufc]
  have hg6 := (Below.refl w6.heap.size w6).alloc (Nat.le_refl _) (.cells #[.slice uNA unn unc, .slice uFA ufn ufc] 25)
  replace he := hb6.trans (hg6.mono hb6.size)
  replace hTo := hTo.keep hg6
  obtain ⟨W6, hW6⟩ : ∃ W, w6.alloc (.cells #[.slice uNA unn unc, .slice uFA ufn ufc] 25) = W := ⟨_, rfl⟩
  obtain ⟨gu, hgu⟩ : ∃ g, w6.heap.size = g := ⟨_, rfl⟩
  rw [hW6] at hU he hTo ⊢
  rw [hgu] at hU ⊢
  have HTo := Lib.hid hTo
  have hUl := hU.lt
  have hB6 := hB.below he hBl; have hX6 := hX.below he hXl
  clear hW6 hgu hg6 hb6 hTo b0 b1 x0 x1 x2 x3 x4
  have b0 := hB6.cell 0; have b1 := hB6.cell 1
  have x0 := hX6.cell 0; have x1 := hX6.cell 1; have x2 := hX6.cell 2; have x3 := hX6.cell 3; have x4 := hX6.cell 4
  have hsA := he.size
  have hgA := (Below.refl W6.heap.size W6).alloc (Nat.le_refl _) (.cells #[.int .i64 x.op, .string x.path, .string x.dst, .int .i64 x.mode, .int .i64 x.ref] 27)
  have hAx := Lib.hid (show Sl (W6.alloc (.cells #[.int .i64 x.op, .string x.path, .string x.dst, .int .i64 x.mode, .int .i64 x.ref] 27)) (W6.alloc (.cells #[.int .i64 x.op, .string x.path, .string x.dst, .int .i64 x.mode, .int .i64 x.ref] 27)).heap.size 5 (some ⟨W6.heap.size, 0, none⟩) 1 ([x].flatMap Cmd.list) from Sl.blk (Blk.new W6 27 #[.int .i64 x.op, .string x.path, .string x.dst, .int .i64 x.mode, .int .i64 x.ref]) (by simp [Cmd.list]) (by simp [Cmd.list]) (by simp))
  have heA := he.trans (hgA.mono hsA)
  go_upto_region 8 with (go_at_call 35; refine (HCx2.out _ _ _ heA hAx.out).mono ?_; rintro e w7 ⟨A2, n2, c2, rfl, hrow, hlen, hb7⟩)
  have hb67 := hgA.trans (hb7.mono (by simp))
  have hrow' : w7.ownsRow (W6.heap.size + 1) 72 1 (.slice A2 n2 c2) n2 (CV.flatMap cxC) := by simpa using hrow
  have HRow := Lib.hid hrow'; have HLen := Lib.hid hlen
  have hU7 := hU.below hb67 hUl
  have HTo7 := Lib.hid (HTo.out.keep hb67)
  replace he := he.trans (hb67.mono he.size)
  have hB7 := hB.below he hBl; have hY7 := hY.below he hYl
  clear hrow hrow' hlen hb7 hgA hAx heA hB6 hX6 b0 b1 x0 x1 x2 x3 x4 hU HTo hb67 hsA
  have b0 := hB7.cell 0; have b1 := hB7.cell 1
  have y0 := hY7.cell 0; have y1 := hY7.cell 1; have y2 := hY7.cell 2; have y3 := hY7.cell 3; have y4 := hY7.cell 4
  have hUl7 := hU7.lt
  have HU7 := Lib.hid hU7; have He7 := Lib.hid he
  go_upto_region 9 with (go_at_call 18; refine (HDy.out _ he).mono ?_; rintro e w8 ⟨⟨vn, vf, vNA, vnn, vnc, vFA, vfn, vfc⟩, Sv, rfl, hTv, hb8⟩)
  have hV := Blk.new w8 25 #[.slice vNA vnn vnc, .slice vFA vfn vfc]
  have hg8 := (Below.refl w8.heap.size w8).alloc (Nat.le_refl _) (.cells #[.slice vNA vnn vnc, .slice vFA vfn vfc] 25)
  have h78 := hb8.trans (hg8.mono hb8.size)
  have hlowN := own_low' hTv.own; have hlowF := own_low' hTv.ownF; have hlowR : LowF w8.heap.size vf := hTv.rows.low
  replace hTv := hTv.keep hg8
  obtain ⟨top, htop⟩ : ∃ g, w8.heap.size = g := ⟨_, rfl⟩
  have hts : top + 1 ≤ (w8.alloc (.cells #[.slice vNA vnn vnc, .slice vFA vfn vfc] 25)).heap.size := by rw [← htop]; simp
  obtain ⟨W8, hW8⟩ : ∃ W, w8.alloc (.cells #[.slice vNA vnn vnc, .slice vFA vfn vfc] 25) = W := ⟨_, rfl⟩
  rw [htop] at hlowN hlowF hlowR
  rw [hW8] at hV h78 hTv hts ⊢
  rw [htop] at hV ⊢
  have HlN := Lib.hid hlowN; have HlF := Lib.hid hlowF; have HlR := Lib.hid hlowR; have HTv := Lib.hid hTv
  have hVl := hV.lt
  have hw78 := h78.size
  replace he := he.trans (h78.mono he.size)
  have hB8 := hB.below he hBl; have hY8 := hY.below he hYl
  clear hW8 htop hg8 hb8 hlowN hlowF hlowR hTv b0 b1 y0 y1 y2 y3 y4 hB7 hY7 hU7
  have b0 := hB8.cell 0; have b1 := hB8.cell 1
  have y0 := hY8.cell 0; have y1 := hY8.cell 1; have y2 := hY8.cell 2; have y3 := hY8.cell 3; have y4 := hY8.cell 4
  have hgA := (Below.refl W8.heap.size W8).alloc (Nat.le_refl _) (.cells #[.int .i64 y.op, .string y.path, .string y.dst, .int .i64 y.mode, .int .i64 y.ref] 27)
  have hAy := Lib.hid (show Sl (W8.alloc (.cells #[.int .i64 y.op, .string y.path, .string y.dst, .int .i64 y.mode, .int .i64 y.ref] 27)) (W8.alloc (.cells #[.int .i64 y.op, .string y.path, .string y.dst, .int .i64 y.mode, .int .i64 y.ref] 27)).heap.size 5 (some ⟨W8.heap.size, 0, none⟩) 1 ([y].flatMap Cmd.list) from Sl.blk (Blk.new W8 27 #[.int .i64 y.op, .string y.path, .string y.dst, .int .i64 y.mode, .int .i64 y.ref]) (by simp [Cmd.list]) (by simp [Cmd.list]) (by simp))
  have heA := he.trans (hgA.mono he.size)
  go_upto_region 10 with (go_at_call 35; refine (HCy2.out _ _ _ heA hAy.out).mono ?_; rintro e w9 ⟨A3, n3, c3, rfl, hrow, hlen, hb9⟩)
  have h89 := hgA.trans (hb9.mono (by simp))
  have hrow' : w9.ownsRow (W8.heap.size + 1) 72 1 (.slice A3 n3 c3) n3 ((curveR ⟨nodes, files, NA, nn, nc, FA, fn, fc⟩ ds [y] sd).flatMap cxC) := by simpa using hrow
  have HD9 := Lib.hid hrow'
  have hn3 : n3 ≤ 2 := by rw [← hlen]; exact curve_len _ _ _ _
  have hV9 := hV.below h89 hVl
  have HTv9 := Lib.hid (HTv.out.keep h89)
  have hw9 := h89.size
  have h79 := h78.trans (h89.mono hw78)
  have hgood := (told_loose HOy.out.inv HOy.out.len HTv9.out).good
  have HSp := Lib.hid (spoil_mid ⟨vn, vf, vNA, vnn, vnc, vFA, vfn, vfc⟩ _ w7.heap.size top w9 HTv9.out.own HTv9.out.ownF HTv9.out.fl (by rw [List.length_map, ← HTv9.out.fn]; exact HTv9.out.fl.symm) HTv9.out.rows h79.size (by have := hgood.nn; omega) (by have := hgood.fn; omega) (fun x hx => by have := hgood.small x hx; omega) HlN.out HlF.out HlR.out)
  unfold TV.val at HSp
  clear hgood hrow hrow' hlen hgA hAy heA hb9 b0 b1 y0 y1 y2 y3 y4 hB8 hY8 HTv HDy HCy2 HDx
  have v0 := hV9.cell 0; have v1 := hV9.cell 1
  have hV9l := hV9.lt
  go_upto_region 11 with (go_at_call 22; refine HSp.out.mono ?_; rintro e wa ⟨⟨v, rfl⟩, hba, hma⟩)
  have h7a := h79.trans hba
  have hDa := own_keep HD9.out fun g o e => hma.2 g (by have := own_blk1 HD9.out g (by rw [e]; rfl); omega) (own_lt2 (by rw [← e]; exact HD9.out)).2.1
  have HDa := Lib.hid hDa
  have hD0 : w7.heap.size ≤ W8.heap.size + 1 := by omega
  clear hba hma h79 h78 hDa v0 v1 hV9 hV9l HSp HTv9 hV hVl HD9 h89
  go_wp2
  go_loopw [22] (fun v wr => ∃ (i : Nat) (L : List Value), i ≤ n3 ∧ v = .int .i64 i ∧ wr.ownsRow (W8.heap.size + 1) 72 1 (.slice A3 n3 c3) n3 L ∧ Below w7.heap.size w7 wr) (fun v _ => n3 - (intOf v).toNat)
  case atStart => exact ⟨0, _, Nat.zero_le _, rfl, HDa.out, h7a⟩
  case round =>
  clear h7a HDa
  obtain ⟨i, L, hi, rfl, hD, h7l⟩ := hrel
  have HD := Lib.hid hD; clear hD
  by_cases hlt : i < n3
  · have hii : (i : Int) < n3 := by omega
    obtain ⟨g, rfl⟩ := own_some HD.out (by omega)
    obtain ⟨hr, hg0, hgl, _, _⟩ := own_row HD.out
    obtain ⟨cur, hcur⟩ := own_cur HD.out
    have hll : L.length = n3 := by have := HD.out.1; omega
    obtain ⟨vi, hvi⟩ : ∃ v, L[i]? = some v := ⟨L[i], List.getElem?_eq_getElem (by omega)⟩
    have hci := hr i vi hvi
    rw [Nat.zero_add] at hci
    have hfz := hcur.frozen i
    have hset := setc_own (i := i) HD.out (.complex .f64 13830554455654793216 0)
    have h7s := h7l.setCell (p := ⟨g, i, none⟩) (by show w7.heap.size ≤ g; omega) (.complex .f64 13830554455654793216 0)
    have hst := fun W => run_store Try.prog W ⟨g, i, none⟩ (.complex .f64 13830554455654793216 0) .plain rfl
    have HSet := Lib.hid hset; have H7s := Lib.hid h7s
    clear hr hvi hset h7s hcur hll HD
    go_wp2
    go_roundw
    case rel => exact ⟨i + 1, _, by omega, by go_num, HSet.out, H7s.out⟩
    case measure => simp [intOf]; omega
  · have hii : ¬ (i : Int) < n3 := by omega
    clear hlt hi HD
    have he := He7.out.trans (h7l.mono He7.out.size)
    have HToL := Lib.hid (HTo7.out.keep h7l)
    have hUL := HU7.out.below h7l hUl7
    have HRowL := Lib.hid (own_keep HRow.out fun g o e => h7l.block g (own_lt2 (by rw [← e]; exact HRow.out)).2.1)
    have hBL := hB.below he hBl; have hXL := hX.below he hXl
    have hULl := hUL.lt
    clear h7l HTo7 HU7 HRow hD0
    have b0 := hBL.cell 0; have b1 := hBL.cell 1
    have x0 := hXL.cell 0; have x1 := hXL.cell 1; have x2 := hXL.cell 2; have x3 := hXL.cell 3; have x4 := hXL.cell 4
    go_upto_region 16 with (go_at_call 19; refine (HRd.out _ he).mono ?_; rintro e wd ⟨⟨xn, xf, xNA, xnn, xnc, xFA, xfn, xfc⟩, S2, rfl, hTx, hbd⟩)
    have hW := Blk.new wd 25 #[.slice xNA xnn xnc, .slice xFA xfn xfc]
    have hgd := (Below.refl wd.heap.size wd).alloc (Nat.le_refl _) (.cells #[.slice xNA xnn xnc, .slice xFA xfn xfc] 25)
    have hld := hbd.trans (hgd.mono hbd.size)
    replace hTx := hTx.keep hgd
    obtain ⟨Wd, hWd⟩ : ∃ W, wd.alloc (.cells #[.slice xNA xnn xnc, .slice xFA xfn xfc] 25) = W := ⟨_, rfl⟩
    obtain ⟨gx, hgx⟩ : ∃ g, wd.heap.size = g := ⟨_, rfl⟩
    rw [hWd] at hW hld hTx ⊢
    rw [hgx] at hW ⊢
    have HToD := Lib.hid (HToL.out.keep hld)
    have hUd := hUL.below hld hULl
    have HRowD := Lib.hid (own_keep HRowL.out fun g o e => hld.block g (own_lt2 (by rw [← e]; exact HRowL.out)).2.1)
    have HXX := Lib.hid (told_same HToD.out hTx).2
    have HTu := Lib.hid HToD.out.tree; have HTx := Lib.hid hTx.tree
    replace he := he.trans (hld.mono he.size)
    clear hWd hgx hgd hbd hld hTx b0 b1 x0 x1 x2 x3 x4 hBL hXL hUL HRowL HToL hULl
    have hUdl := hUd.lt
    have u0 := hUd.cell 0; have u1 := hUd.cell 1; have q0 := hW.cell 0; have q1 := hW.cell 1
    have hEE : (E != E) = false := by simp
    go_upto_region 18 with (first | (go_at_call 20; refine (num7 _ _).mono ?_; rintro e w8 ⟨rfl, hw⟩; rw [hw]; clear hw) | (go_at_call 21; refine (exact_any ⟨un, uf, uNA, unn, unc, uFA, ufn, ufc⟩ ⟨xn, xf, xNA, xnn, xnc, xFA, xfn, xfc⟩ _ _ _ HTu.out HTx.out).mono ?_; rintro e we ⟨rfl, hbe⟩; rw [HXX.out]))
    have HRowE := Lib.hid (own_keep HRowD.out fun g o e => hbe.block g (own_lt2 (by rw [← e]; exact HRowD.out)).2.1)
    replace he := he.trans (hbe.mono he.size)
    have hBe := hB.below he hBl; have hXe := hX.below he hXl
    clear u0 u1 q0 q1 hUd hUdl hW HToD HRowD HXX HTu HTx hbe hEE
    have b0 := hBe.cell 0; have b1 := hBe.cell 1
    have x0 := hXe.cell 0; have x1 := hXe.cell 1; have x2 := hXe.cell 2; have x3 := hXe.cell 3; have x4 := hXe.cell 4
    have hgA := (Below.refl we.heap.size we).alloc (Nat.le_refl _) (.cells #[.int .i64 x.op, .string x.path, .string x.dst, .int .i64 x.mode, .int .i64 x.ref] 27)
    have hAx := Lib.hid (show Sl (we.alloc (.cells #[.int .i64 x.op, .string x.path, .string x.dst, .int .i64 x.mode, .int .i64 x.ref] 27)) (we.alloc (.cells #[.int .i64 x.op, .string x.path, .string x.dst, .int .i64 x.mode, .int .i64 x.ref] 27)).heap.size 5 (some ⟨we.heap.size, 0, none⟩) 1 x.list from Sl.blk (Blk.new we 27 #[.int .i64 x.op, .string x.path, .string x.dst, .int .i64 x.mode, .int .i64 x.ref]) (by simp [Cmd.list]) (by simp [Cmd.list]) (by simp))
    have heA := he.trans (hgA.mono he.size)
    go_upto_region 19 with (go_at_call 36; refine (HTr.out _ _ _ heA hAx.out).mono ?_; rintro e wf ⟨us, A4, n4, c4, k4, E4, rfl, hrt, hul, hn42, hou, hmap, hfit, hbf⟩)
    have hef := hgA.trans (hbf.mono (by simp))
    have HRowF := Lib.hid (own_keep HRowE.out fun g o e => hef.block g (own_lt2 (by rw [← e]; exact HRowE.out)).2.1)
    replace he := he.trans (hef.mono he.size)
    have hnn4 : n2 = n4 := by
      have := congrArg List.length hmap
      rw [List.length_map, hul, HLen.out] at this
      exact this.symm
    subst hnn4
    have HTrow := Lib.hid (Sl.of_own hrt); have HCrow := Lib.hid (Sl.of_own HRowF.out)
    have HUl := Lib.hid hul; have HMap := Lib.hid hmap; have HFit := Lib.hid hfit; have HOu := Lib.hid hou
    clear hrt hul hou hmap hfit hbf hgA hAx heA hef hBe hXe b0 b1 x0 x1 x2 x3 x4 HRowE HRowF
    have hnn2 : ((n2 : Int) != n2) = false := by simp
    have hbF := hb.trans (he.mono hb.size)
    go_wp2
    go_loopw [28] (fun v wr => ∃ i : Nat, i ≤ n2 ∧ v = .int .i64 i ∧ Below wf.heap.size wf wr) (fun v _ => n2 - (intOf v).toNat)
    case atStart => exact ⟨0, Nat.zero_le _, rfl, Below.refl _ _⟩
    case round =>
    obtain ⟨i, hi, rfl, hbr⟩ := hrel
    by_cases hlt : i < n2
    · have hii : (i : Int) < n2 := by omega
      obtain ⟨tb, to', p, rfl, htb, hp, hcp⟩ := (HTrow.out.below hbr (Nat.le_refl _)).get (f := treeC) (fun _ => rfl) HUl.out hlt
      obtain ⟨cb, co, cx, rfl, hcb, hcx, hcc⟩ := (HCrow.out.below hbr (Nat.le_refl _)).get (f := cxC) (fun _ => rfl) HLen.out hlt
      have t0 := hcp 0 _ rfl
      have t1 := hcp 1 _ rfl
      have k0 := hcc 0 _ rfl
      simp only [Nat.add_zero, Nat.mul_one] at t0 t1 k0
      have hpm : p ∈ us := List.mem_of_getElem? hp
      have hcxe : cx = (wgtB p.1, wgtI p.1) := by
        have h1 := congrArg (fun l : List (Nat × Nat) => l[i]?) HMap.out
        simp only [List.getElem?_map, hp, hcx, Option.map_some, Option.some.injEq] at h1
        exact h1.symm
      subst hcxe
      obtain ⟨f1, f2, f3, ⟨f4, f5⟩, f6, f7⟩ := HFit.out p hpm
      have hwl := Nat.lt_of_lt_of_le htb hbr.size
      have hcl := Nat.lt_of_lt_of_le hcb hbr.size
      have D1 := Lib.hid (show ∀ W, Below wr.heap.size wr W → Calls Try.prog 29 #[.agg #[.slice p.1.NA p.1.nn p.1.nc, .slice p.1.FA p.1.fn p.1.fc]] W fun e w' => e = .returned (tollV (wgtB p.1 : Nat) (wgtI p.1 : Nat)) ∧ Below W.heap.size W w' from fun W hW => rweight_any p.1 W ((HOu.out p hpm).tree.tree.keep (hbr.trans (hW.mono hbr.size))) f1 f2 f3)
      clear hcp hcc hp hcx f1 f2 f3 hpm
      go_upto_region 24 with (fail)
      refine wp_region_ordB (none) [(0, true), (1, true), (2, true), (3, true), (4, true), (5, true), (6, true), (7, true), (8, false), (9, false), (10, true)] (by kernel_rfl) (by kernel_rfl) fun hG0 => ?_
      repeat (first
        | (refine ord_skipB rfl (by rfl) ?_; simp only [Act.put, List.setIfInBounds_toArray, List.set_cons_zero, List.set_cons_succ])
        | (refine ord_qE rfl (by rfl) ?_; apply Exists.intro; refine ⟨fun w' hc' => ?_, ?_⟩; (focus (go_simp; (try go_bits); (try simp only [↓IntWalk.iteOmega]); with_reducible rfl)); simp only [Act.put, List.setIfInBounds_toArray, List.set_cons_zero, List.set_cons_succ]))
      refine ord_eB rfl fun K hK => ?_
      go_wp2_with (go_at_call 29; refine (D1.out _ (below_grown hG0 (Nat.le_refl _) (fun g e => by cases e))).mono ?_; rintro e wg ⟨rfl, hbg⟩)
      have hG1 := grown_trans hG0 (grown_below hbg (Nat.le_refl _))
      refine hK.out _ _ hG1 ?_
      clear hK K
      repeat (first
        | (refine ord_skipB rfl (by rfl) ?_; simp only [Act.put, List.setIfInBounds_toArray, List.set_cons_zero, List.set_cons_succ])
        | (refine ord_qE rfl (by rfl) ?_; apply Exists.intro; refine ⟨fun w' hc' => ?_, ?_⟩; (focus (go_simp; (try go_bits); (try simp only [↓IntWalk.iteOmega]); with_reducible rfl)); simp only [Act.put, List.setIfInBounds_toArray, List.set_cons_zero, List.set_cons_succ]))
      refine ord_eB rfl fun K hK => ?_
      go_wp2_with (go_at_call 37; refine (isT_any (wgtB p.1) (wgtI p.1) f5 f7 f4 f6 _).mono ?_; rintro e wh ⟨rfl, hbh⟩)
      have hG2 := grown_trans hG1 (grown_below hbh (Nat.le_refl _))
      refine hK.out _ _ hG2 ?_
      clear hK K
      repeat (first
        | (refine ord_skipB rfl (by rfl) ?_; simp only [Act.put, List.setIfInBounds_toArray, List.set_cons_zero, List.set_cons_succ])
        | (refine ord_qE rfl (by rfl) ?_; apply Exists.intro; refine ⟨fun w' hc' => ?_, ?_⟩; (focus (go_simp; (try go_bits); (try simp only [↓IntWalk.iteOmega]); with_reducible rfl)); simp only [Act.put, List.setIfInBounds_toArray, List.set_cons_zero, List.set_cons_succ]))
      refine ord_end ?_
      have hbn := hbr.trans ((below_grown hG2 (Nat.le_refl _) (fun g e => by cases e)).mono hbr.size)
      have Hbn := Lib.hid hbn
      clear hbn hG0 hG1 hG2 hbg hbh t0 t1 k0
      go_wp2
      go_roundw
      case rel => exact ⟨i + 1, by omega, by go_num, Hbn.out⟩
      case measure => simp [intOf]; omega
    · have hii : ¬ (i : Int) < n2 := by omega
      go_wp2
      go_ret
      exact ⟨rfl, hbF.trans (hbr.mono hbF.size)⟩


set_option maxRecDepth 100000 in
theorem lifted (os : Os) (started : os.Started) (H : Type) (enc : TypeId × Value → H) :
    ReturnsInHanded {} Try.checked os 12 .any (Rows.modelHeldSpec.pre6 enc Try.prog Try.f12 Rows.modelHeldRow.domain false) (Rows.modelHeldSpec.post enc Try.prog Try.f12 false true false false) := by
  refine returnsInHanded_of_change (C := Try.checked) own started (by kernel_rfl) Try.func12
    (ChangeSpec.witness6 (enc := enc) (C := Try.checked) false ⟨#[], #[.agg #[.slice none 0 0, .slice none 0 0], .agg #[.int .i64 0, .string ByteArray.empty, .string ByteArray.empty, .int .i64 0, .int .i64 0], .agg #[.int .i64 0, .string ByteArray.empty, .string ByteArray.empty, .int .i64 0, .int .i64 0], .slice none 0 0], []⟩ 8 (by kernel_rfl) (by kernel_rfl) (by kernel_rfl) (by kernel_rfl)) ?_
  intro W base args ds gs before hval0 hW hcnd _
  have hval : ∀ (j : Nat) t v, Try.f12.params[j]? = some t → args[j]? = some v → Value.okWide Try.prog W .any base t v := hval0
  have hW' := hW
  obtain ⟨p, q, hA0, hV, rfl, hfz, hnd⟩ := hW
  have hA : DataW.TrodAll enc Try.prog W 0 (fun _ => true) true Try.f12.params.toList args.toList ds p := hA0
  rw [Try.params12] at hA hval
  obtain ⟨v0, vs0, d0, ds0, p0, q0, hargs, rfl, rfl, h0, r0⟩ := trodAll_cons hA
  obtain ⟨v1, vs1, d1, ds1, p1, q1, rfl, rfl, rfl, h1, r1⟩ := trodAll_cons r0
  obtain ⟨v2, vs2, d2, ds2, p2, q2, rfl, rfl, rfl, h2, r2⟩ := trodAll_cons r1
  obtain ⟨v3, vs3, d3, ds3, p3, q3, rfl, rfl, rfl, h3, r3⟩ := trodAll_cons r2
  obtain ⟨rfl, rfl, rfl⟩ := trodAll_nil r3
  obtain rfl : args = #[v0, v1, v2, v3] := by cases args; simp_all
  obtain ⟨rfl, rfl⟩ := trodVars_none hV
  have k0 := h0
  have lt0 : ∀ x ∈ p0, x.block < W.heap.size := by obtain ⟨m, hm⟩ := k0; exact DataW.trod_lt m _ _ _ hm
  obtain ⟨t0, ds0', rfl, hT0⟩ := open_tree (hval 0 25 v0 rfl rfl) h0 lt0
  have k1 := h1
  have lt1 : ∀ x ∈ p1, x.block < W.heap.size := by obtain ⟨m, hm⟩ := k1; exact DataW.trod_lt m _ _ _ hm
  obtain ⟨c1, rfl, ho1⟩ := open_cmd (hval 1 27 v1 rfl rfl) h1
  have k2 := h2
  have lt2 : ∀ x ∈ p2, x.block < W.heap.size := by obtain ⟨m, hm⟩ := k2; exact DataW.trod_lt m _ _ _ hm
  obtain ⟨c2, rfl, ho2⟩ := open_cmd (hval 2 27 v2 rfl rfl) h2
  obtain ⟨a3, len3, cap3, rfl⟩ := okWide_slice Try.underlying28 (hval 3 28 v3 rfl rfl)
  have k3 := h3
  have lt3 : ∀ x ∈ p3, x.block < W.heap.size := by obtain ⟨m, hm⟩ := k3; exact DataW.trod_lt m _ _ _ hm
  obtain ⟨ss3, sd3, hK3⟩ : ∃ (ss : List SC) (sd : List ByteArray), StockAt W a3 len3 ss sd := by
    obtain ⟨fuel, hf⟩ := h3
    exact open_stock hf lt3
  clear hA0 hval0
  refine (walk t0 ds0' c1 c2 a3 len3 cap3 ss3 sd3 W hT0 ho1 ho2 hK3).mono fun e W' ⟨he, bel⟩ => ?_
  subst he
  exact ⟨_, rfl, _, _, _, [], _, [], hW', trodAll_mk1 (shut_bool Try.underlying4 _), (trodAll_cons_mk (Below.trod laidOut (by kernel_rfl) (of_decide_eq_true (by kernel_rfl)) k0 bel lt0) (trodAll_cons_mk (Below.trod laidOut (by kernel_rfl) (of_decide_eq_true (by kernel_rfl)) k1 bel lt1) (trodAll_cons_mk (Below.trod laidOut (by kernel_rfl) (of_decide_eq_true (by kernel_rfl)) k2 bel lt2) (trodAll_cons_mk (Below.trod laidOut (by kernel_rfl) (of_decide_eq_true (by kernel_rfl)) k3 bel lt3) trodAll_mk0)))), rfl, bel.frame _, fun h => by cases h⟩

theorem over : Rows.modelHeldRow.holds Try.pinned (OpenSpec.ofChange Rows.modelHeldSpec) :=
  OpenClaim.holds_of_wide 12 Try.f12 rfl rfl rfl rfl rfl rfl rfl ⟨rfl, rfl, rfl, rfl, rfl⟩ rfl rfl rfl rfl rfl (by kernel_rfl) Try.func12 (by kernel_rfl)
    (of_decide_eq_true (by kernel_rfl)) (by unfold Func.isWrapper; first | (rw [if_pos (by decide +kernel)]; kernel_rfl) | (rw [if_neg (by decide +kernel)]; exact ⟨rfl, rfl⟩))
    (fun os started H enc _ => lifted os started H enc)

theorem proved : Rows.ModelHeldSaid := over
#print axioms proved
end Go.Proofs.Ythmeffpickejkaa.modelHeldDone
