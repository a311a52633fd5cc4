/- ModelIgnores. -/
import Derived.Test.YthmeffpickejkaaLaw7
import Derived.Test.YthmeffpickejkaaOpenC
import Derived.ChangeMaps5
namespace Go.Proofs.Ythmeffpickejkaa.modelIgnoresDone
open Go.ChangeShapes Go.WideShapes Go.ChangeAt Go.ChangeMaps Go.RowKit Go.Deep

/-- What Do hands back. -/
def Tells (E : Int) (M : PW) (u : TV) (es : List ByteArray) : Prop := (E ≠ 0 ∧ u = zeroTV ∧ es = []) ∨ (E = 0 ∧ ∃ b w S, ToldAs M b w S u ∧ es = dsOf M S)
theorem do_tells {E : Int} {M : PW} {w w' : World} {e : Ending} (h : DoRes E M w e w') : ∃ u es, e = .returned (.tuple #[u.val, .int .i64 E]) ∧ TreeD w' u es ∧ Tells E M u es ∧ Below w.heap.size w w' := by
  obtain ⟨u, he, h0, h1, hb⟩ := h
  by_cases hE : E = 0
  · obtain ⟨S, hS⟩ := h1 hE
    exact ⟨u, _, he, hS.tree, .inr ⟨hE, _, _, S, hS, rfl⟩, hb⟩
  · obtain rfl := h0 hE
    exact ⟨zeroTV, [], he, zeroTV_at _, .inl ⟨hE, rfl, rfl⟩, hb⟩
theorem tells_exact {E : Int} {M : PW} {u v : TV} {es fs : List ByteArray} (h : Tells E M u es) (h' : Tells E M v fs) : exactB u v es fs = true := by
  rcases h with ⟨e, rfl, rfl⟩ | ⟨e, _, _, S, hS, rfl⟩
  · rcases h' with ⟨_, rfl, rfl⟩ | ⟨e', _⟩
    · rfl
    · exact absurd e' e
  · rcases h' with ⟨e', _⟩ | ⟨_, _, _, S', hS', rfl⟩
    · exact absurd e e'
    · exact (told_same hS hS').2
set_option maxRecDepth 100000 in
set_option maxHeartbeats 8000000 in
theorem walk (t : TV) (ds : List ByteArray) (c : Cmd) (tt : ByteArray) (md rf : Int) (SA : Option Addr) (sn sc : Nat) (ss : List SC) (sd : List ByteArray) (w : World) (hT : TreeD w t ds) (hC : OpOk c) (htt : tt.size ≤ maxLen) (_ : (Lit.int .i64 md).wf = true) (_ : (Lit.int .i64 rf).wf = true) (hS : StockAt w SA sn ss sd) :
    Calls Try.prog 8 #[t.val, .agg c.cells, .string tt, .int .i64 md, .int .i64 rf, .slice SA sn sc] w fun e w' => e = .returned (.bool true) ∧ Below w.heap.size w w' := by
  have HT := Lib.hid hT; have HS := Lib.hid hS; have HC := Lib.hid hC
  clear hT hS hC
  obtain ⟨nodes, files, NA, nn, nc, FA, fn, fc⟩ := t
  obtain ⟨op, p, q, m, r, hp, hq⟩ := c
  unfold TV.val Cmd.cells
  have htt' : tt.size ≤ 9223372036854775807 := by unfold maxLen at htt; omega
  clear htt
  have hB1 := (Blk.new w 25 #[.slice NA nn nc, .slice FA fn fc]).alloc (.cells #[.int .i64 op, .string p, .string q, .int .i64 m, .int .i64 r] 27)
  have hB2 := Blk.new (w.alloc (.cells #[.slice NA nn nc, .slice FA fn fc] 25)) 27 #[.int .i64 op, .string p, .string q, .int .i64 m, .int .i64 r]
  rw [World.size_alloc] at hB2
  have hb := ((Below.refl w.heap.size w).alloc (Nat.le_refl _) (.cells #[.slice NA nn nc, .slice FA fn fc] 25)).alloc (by simp) (.cells #[.int .i64 op, .string p, .string q, .int .i64 m, .int .i64 r] 27)
  have hsw : w.heap.size < w.heap.size + 1 := by omega

  by_cases h1 : (300 : Int) < p.size
  · go_enter Try.func8, Try.ntmps8
    go_upto_region 2 with (go_at_call 13; refine (alive7 _).mono ?_; rintro e w1 ⟨rfl, hb1⟩; replace hB1 := hB1.below hb1 hB1.lt; replace hB2 := hB2.below hb1 hB2.lt; replace hb := hb.trans (hb1.mono hb.size); have b0 := hB1.cell 0; have b1 := hB1.cell 1; have i0 := hB2.cell 0; have i1 := hB2.cell 1; have i2 := hB2.cell 2; have i3 := hB2.cell 3; have i4 := hB2.cell 4)
    go_wp2_with (go_at_call 27; refine (heavy7 ⟨nodes, files, NA, nn, nc, FA, fn, fc⟩ none 0 0 SA sn sc ss sd _ (HT.out.tree.keep hb) (HS.out.keep hb)).mono ?_; rintro e w2 ⟨x, rfl, _, hb2⟩; replace hB1 := hB1.below hb2 hB1.lt; replace hB2 := hB2.below hb2 hB2.lt; replace hb := hb.trans (hb2.mono hb.size); have b0 := hB1.cell 0; have b1 := hB1.cell 1; have i0 := hB2.cell 0; have i1 := hB2.cell 1; have i2 := hB2.cell 2; have i3 := hB2.cell 3; have i4 := hB2.cell 4; cases x)
    all_goals go_ret
    all_goals exact ⟨rfl, hb⟩
  ·
    by_cases h2 : (300 : Int) < q.size
    · go_enter Try.func8, Try.ntmps8
      go_upto_region 2 with (go_at_call 13; refine (alive7 _).mono ?_; rintro e w1 ⟨rfl, hb1⟩; replace hB1 := hB1.below hb1 hB1.lt; replace hB2 := hB2.below hb1 hB2.lt; replace hb := hb.trans (hb1.mono hb.size); have b0 := hB1.cell 0; have b1 := hB1.cell 1; have i0 := hB2.cell 0; have i1 := hB2.cell 1; have i2 := hB2.cell 2; have i3 := hB2.cell 3; have i4 := hB2.cell 4)
      go_wp2_with (go_at_call 27; refine (heavy7 ⟨nodes, files, NA, nn, nc, FA, fn, fc⟩ none 0 0 SA sn sc ss sd _ (HT.out.tree.keep hb) (HS.out.keep hb)).mono ?_; rintro e w2 ⟨x, rfl, _, hb2⟩; replace hB1 := hB1.below hb2 hB1.lt; replace hB2 := hB2.below hb2 hB2.lt; replace hb := hb.trans (hb2.mono hb.size); have b0 := hB1.cell 0; have b1 := hB1.cell 1; have i0 := hB2.cell 0; have i1 := hB2.cell 1; have i2 := hB2.cell 2; have i3 := hB2.cell 3; have i4 := hB2.cell 4; cases x)
      all_goals go_ret
      all_goals exact ⟨rfl, hb⟩
    ·
      by_cases h3 : (300 : Int) < tt.size
      · go_enter Try.func8, Try.ntmps8
        go_upto_region 2 with (go_at_call 13; refine (alive7 _).mono ?_; rintro e w1 ⟨rfl, hb1⟩; replace hB1 := hB1.below hb1 hB1.lt; replace hB2 := hB2.below hb1 hB2.lt; replace hb := hb.trans (hb1.mono hb.size); have b0 := hB1.cell 0; have b1 := hB1.cell 1; have i0 := hB2.cell 0; have i1 := hB2.cell 1; have i2 := hB2.cell 2; have i3 := hB2.cell 3; have i4 := hB2.cell 4)
        go_wp2_with (go_at_call 27; refine (heavy7 ⟨nodes, files, NA, nn, nc, FA, fn, fc⟩ none 0 0 SA sn sc ss sd _ (HT.out.tree.keep hb) (HS.out.keep hb)).mono ?_; rintro e w2 ⟨x, rfl, _, hb2⟩; replace hB1 := hB1.below hb2 hB1.lt; replace hB2 := hB2.below hb2 hB2.lt; replace hb := hb.trans (hb2.mono hb.size); have b0 := hB1.cell 0; have b1 := hB1.cell 1; have i0 := hB2.cell 0; have i1 := hB2.cell 1; have i2 := hB2.cell 2; have i3 := hB2.cell 3; have i4 := hB2.cell 4; cases x)
        all_goals go_ret
        all_goals exact ⟨rfl, hb⟩
      ·
        have hsame := fun (d : Cmd) (ho : op = d.op) (e1 : p = d.path) (e2 : toB op = true → q = d.dst) (e3 : modeB op = true → m = d.mode) (e4 : op = 6 → r = d.ref) => ignores (openM ⟨nodes, files, NA, nn, nc, FA, fn, fc⟩ ds) ⟨op, p, q, m, r, hp, hq⟩ d sd ho e1 e2 e3 e4
        have Hsame := Lib.hid hsame; clear hsame
        obtain ⟨E, hE⟩ : ∃ E, DoE ⟨nodes, files, NA, nn, nc, FA, fn, fc⟩ ds ⟨op, p, q, m, r, hp, hq⟩ sd = E := ⟨_, rfl⟩
        obtain ⟨M, hM⟩ : ∃ M, doM (openM ⟨nodes, files, NA, nn, nc, FA, fn, fc⟩ ds) ⟨op, p, q, m, r, hp, hq⟩ sd = M := ⟨_, rfl⟩
        have HE := Lib.hid hE; have HM := Lib.hid hM; clear hE hM
        go_enter Try.func8, Try.ntmps8
        go_upto_region 2 with (go_at_call 13; refine (alive7 _).mono ?_; rintro e w1 ⟨rfl, hb1⟩; replace hB1 := hB1.below hb1 hB1.lt; replace hB2 := hB2.below hb1 hB2.lt; replace hb := hb.trans (hb1.mono hb.size); have b0 := hB1.cell 0; have b1 := hB1.cell 1; have i0 := hB2.cell 0; have i1 := hB2.cell 1; have i2 := hB2.cell 2; have i3 := hB2.cell 3; have i4 := hB2.cell 4)
        go_upto_region 5 with (go_at_call 27; refine (heavy7 ⟨nodes, files, NA, nn, nc, FA, fn, fc⟩ none 0 0 SA sn sc ss sd _ (HT.out.tree.keep hb) (HS.out.keep hb)).mono ?_; rintro e w2 ⟨x, rfl, _, hb2⟩; replace hB1 := hB1.below hb2 hB1.lt; replace hB2 := hB2.below hb2 hB2.lt; replace hb := hb.trans (hb2.mono hb.size); have b0 := hB1.cell 0; have b1 := hB1.cell 1; have i0 := hB2.cell 0; have i1 := hB2.cell 1; have i2 := hB2.cell 2; have i3 := hB2.cell 3; have i4 := hB2.cell 4; cases x)
        rotate_left
        · (go_ret; exact ⟨rfl, hb⟩)
        obtain ⟨g, hg⟩ : ∃ g, g = w2.heap.size := ⟨_, rfl⟩
        have hX := Blk.new w2 27 #[.int .i64 op, .string p, .string q, .int .i64 m, .int .i64 r]
        replace hB1 := hB1.alloc (.cells #[.int .i64 op, .string p, .string q, .int .i64 m, .int .i64 r] 27)
        replace hB2 := hB2.alloc (.cells #[.int .i64 op, .string p, .string q, .int .i64 m, .int .i64 r] 27)
        replace hb := hb.alloc hb.size (.cells #[.int .i64 op, .string p, .string q, .int .i64 m, .int .i64 r] 27)
        have hgw : w.heap.size + 1 < g := by have := hb2.size; have := hb1.size; simp only [World.size_alloc] at this; omega
        obtain ⟨W0, hW0⟩ : ∃ W, w2.alloc (.cells #[.int .i64 op, .string p, .string q, .int .i64 m, .int .i64 r] 27) = W := ⟨_, rfl⟩
        rw [hW0] at hX hB1 hB2 hb ⊢
        rw [← hg] at hX ⊢
        clear hW0 hg hb1 hb2 b0 b1 i0 i1 i2 i3 i4
        have b0 := hB1.cell 0
        have b1 := hB1.cell 1
        have i0 := hB2.cell 0
        have i1 := hB2.cell 1
        have i2 := hB2.cell 2
        have i3 := hB2.cell 3
        have i4 := hB2.cell 4
        cases hto : toB op
        · cases hmo : modeB op
          · by_cases h6 : op = 6
            · have h6b : (op != 6) = false := by simp [h6]
              exact absurd hmo (by rw [h6]; decide)
            · have h6b : (op != 6) = true := by simp [h6]
              have H6 := Lib.hid h6; clear h6
              have f0 := hX.frozen 2
              have k0 := hX.cell 2
              go_upto_region 9 with (first | (go_at_call 32; refine (hasMode7 _ _).mono ?_; rintro e w3 ⟨rfl, hw⟩; rw [hw, hmo]; clear hw) | (go_at_call 33; refine (hasTo7 _ _).mono ?_; rintro e w3 ⟨rfl, hw⟩; rw [hw, hto]; clear hw))
              replace hX : Blk (W0.setCell ⟨g, 2, none⟩ (.string tt)) g 27 #[.int .i64 op, .string p, .string tt, .int .i64 m, .int .i64 r] := hX.set 2 _
              replace hB1 := hB1.set_ne ⟨g, 2, none⟩ (.string tt) (by show _ ≠ g; omega)
              replace hB2 := hB2.set_ne ⟨g, 2, none⟩ (.string tt) (by show _ ≠ g; omega)
              replace hb := hb.setCell (p := ⟨g, 2, none⟩) (by show _ ≤ g; omega) (.string tt)
              obtain ⟨W1, hW1⟩ : ∃ W, W0.setCell ⟨g, 2, none⟩ (.string tt) = W := ⟨_, rfl⟩
              rw [hW1] at hX hB1 hB2 hb ⊢
              clear hW1 b0 b1 i0 i1 i2 i3 i4 f0 k0
              have b0 := hB1.cell 0; have b1 := hB1.cell 1; have i0 := hB2.cell 0; have i1 := hB2.cell 1; have i2 := hB2.cell 2; have i3 := hB2.cell 3; have i4 := hB2.cell 4
              have f1 := hX.frozen 3
              have k1 := hX.cell 3
              go_upto_region 11 with (fail)
              replace hX : Blk (W1.setCell ⟨g, 3, none⟩ (.int .i64 md)) g 27 #[.int .i64 op, .string p, .string tt, .int .i64 md, .int .i64 r] := hX.set 3 _
              replace hB1 := hB1.set_ne ⟨g, 3, none⟩ (.int .i64 md) (by show _ ≠ g; omega)
              replace hB2 := hB2.set_ne ⟨g, 3, none⟩ (.int .i64 md) (by show _ ≠ g; omega)
              replace hb := hb.setCell (p := ⟨g, 3, none⟩) (by show _ ≤ g; omega) (.int .i64 md)
              obtain ⟨W2, hW2⟩ : ∃ W, W1.setCell ⟨g, 3, none⟩ (.int .i64 md) = W := ⟨_, rfl⟩
              rw [hW2] at hX hB1 hB2 hb ⊢
              clear hW2 b0 b1 i0 i1 i2 i3 i4 f1 k1
              have b0 := hB1.cell 0; have b1 := hB1.cell 1; have i0 := hB2.cell 0; have i1 := hB2.cell 1; have i2 := hB2.cell 2; have i3 := hB2.cell 3; have i4 := hB2.cell 4
              have f2 := hX.frozen 4
              have k2 := hX.cell 4
              go_upto_region 13 with (fail)
              replace hX : Blk (W2.setCell ⟨g, 4, none⟩ (.int .i64 rf)) g 27 #[.int .i64 op, .string p, .string tt, .int .i64 md, .int .i64 rf] := hX.set 4 _
              replace hB1 := hB1.set_ne ⟨g, 4, none⟩ (.int .i64 rf) (by show _ ≠ g; omega)
              replace hB2 := hB2.set_ne ⟨g, 4, none⟩ (.int .i64 rf) (by show _ ≠ g; omega)
              replace hb := hb.setCell (p := ⟨g, 4, none⟩) (by show _ ≤ g; omega) (.int .i64 rf)
              obtain ⟨W3, hW3⟩ : ∃ W, W2.setCell ⟨g, 4, none⟩ (.int .i64 rf) = W := ⟨_, rfl⟩
              rw [hW3] at hX hB1 hB2 hb ⊢
              clear hW3 b0 b1 i0 i1 i2 i3 i4 f2 k2
              have b0 := hB1.cell 0; have b1 := hB1.cell 1; have i0 := hB2.cell 0; have i1 := hB2.cell 1; have i2 := hB2.cell 2; have i3 := hB2.cell 3; have i4 := hB2.cell 4
              have hd := Hsame.out ⟨op, p, tt, md, rf, hp, htt'⟩ rfl rfl (fun h => by rw [hto] at h; cases h) (fun h => by rw [hmo] at h; cases h) (fun h => absurd h H6.out)
              have hE2 : DoE ⟨nodes, files, NA, nn, nc, FA, fn, fc⟩ ds ⟨op, p, tt, md, rf, hp, htt'⟩ sd = E := by rw [← HE.out]; unfold DoE; rw [hd.1]
              have hM2 : doM (openM ⟨nodes, files, NA, nn, nc, FA, fn, fc⟩ ds) ⟨op, p, tt, md, rf, hp, htt'⟩ sd = M := by rw [← HM.out]; exact hd.2.symm
              clear hd
              have HE2 := Lib.hid hE2; have HM2 := Lib.hid hM2; clear hE2 hM2
              have c1 := Do_any ⟨nodes, files, NA, nn, nc, FA, fn, fc⟩ ds ⟨op, p, q, m, r, hp, hq⟩ HC.out SA sn sc ss sd W3 (HT.out.keep hb) (HS.out.keep hb)
              rw [HE.out, HM.out] at c1
              have C1 : Hid (Calls Try.prog 18 #[.agg #[.slice NA nn nc, .slice FA fn fc], .agg #[.int .i64 op, .string p, .string q, .int .i64 m, .int .i64 r], .slice SA sn sc] W3 (DoRes E M W3)) := Lib.hid c1
              clear c1
              go_upto_region 14 with (go_at_call 18; refine C1.out.mono ?_; rintro e w5 he; obtain ⟨u, es, rfl, hu, hX1, hb5⟩ := do_tells he; clear he; replace hB1 := hB1.below hb5 hB1.lt; replace hB2 := hB2.below hb5 hB2.lt; replace hX := hX.below hb5 hX.lt; replace hb := hb.trans (hb5.mono hb.size); unfold TV.val)
              clear C1
              have hU := Blk.new w5 25 #[.slice u.NA u.nn u.nc, .slice u.FA u.fn u.fc]
              replace hB1 := hB1.alloc (.cells #[.slice u.NA u.nn u.nc, .slice u.FA u.fn u.fc] 25); replace hB2 := hB2.alloc (.cells #[.slice u.NA u.nn u.nc, .slice u.FA u.fn u.fc] 25); replace hX := hX.alloc (.cells #[.slice u.NA u.nn u.nc, .slice u.FA u.fn u.fc] 25); replace hb := hb.alloc hb.size (.cells #[.slice u.NA u.nn u.nc, .slice u.FA u.fn u.fc] 25)
              replace hu := hu.keep ((Below.refl w5.heap.size w5).alloc (Nat.le_refl _) (.cells #[.slice u.NA u.nn u.nc, .slice u.FA u.fn u.fc] 25))
              obtain ⟨W5, hW5⟩ : ∃ W, w5.alloc (.cells #[.slice u.NA u.nn u.nc, .slice u.FA u.fn u.fc] 25) = W := ⟨_, rfl⟩
              rw [hW5] at hU hB1 hB2 hX hb hu ⊢
              clear hW5 b0 b1 i0 i1 i2 i3 i4
              have b0 := hB1.cell 0; have b1 := hB1.cell 1; have i0 := hX.cell 0; have i1 := hX.cell 1; have i2 := hX.cell 2; have i3 := hX.cell 3; have i4 := hX.cell 4
              have c2 := Do_any ⟨nodes, files, NA, nn, nc, FA, fn, fc⟩ ds ⟨op, p, tt, md, rf, hp, htt'⟩ HC.out SA sn sc ss sd W5 (HT.out.keep hb) (HS.out.keep hb)
              rw [HE2.out, HM2.out] at c2
              have C2 : Hid (Calls Try.prog 18 #[.agg #[.slice NA nn nc, .slice FA fn fc], .agg #[.int .i64 op, .string p, .string tt, .int .i64 md, .int .i64 rf], .slice SA sn sc] W5 (DoRes E M W5)) := Lib.hid c2
              clear c2
              have HU := Lib.hid hu; clear hu
              go_upto_region 15 with (go_at_call 18; refine C2.out.mono ?_; rintro e w6 he; obtain ⟨v, fs, rfl, hv, hX2, hb6⟩ := do_tells he; clear he; replace hU := hU.below hb6 hU.lt; replace hb := hb.trans (hb6.mono hb.size); replace HU := Lib.hid (HU.out.keep hb6); unfold TV.val)
              clear C2 b0 b1 i0 i1 i2 i3 i4
              have hV := Blk.new w6 25 #[.slice v.NA v.nn v.nc, .slice v.FA v.fn v.fc]
              replace hU := hU.alloc (.cells #[.slice v.NA v.nn v.nc, .slice v.FA v.fn v.fc] 25); replace hb := hb.alloc hb.size (.cells #[.slice v.NA v.nn v.nc, .slice v.FA v.fn v.fc] 25)
              have hq6 := (Below.refl w6.heap.size w6).alloc (Nat.le_refl _) (.cells #[.slice v.NA v.nn v.nc, .slice v.FA v.fn v.fc] 25)
              replace HU := Lib.hid (HU.out.keep hq6)
              have HV := Lib.hid (hv.keep hq6); clear hv hq6
              obtain ⟨W6, hW6⟩ : ∃ W, w6.alloc (.cells #[.slice v.NA v.nn v.nc, .slice v.FA v.fn v.fc] 25) = W := ⟨_, rfl⟩
              rw [hW6] at hU hV hb HU HV ⊢
              clear hW6
              have b0 := hU.cell 0; have b1 := hU.cell 1; have b2 := hV.cell 0; have b3 := hV.cell 1
              have hEE : (E == E) = true := beq_self_eq_true E
              have HXX := Lib.hid (tells_exact hX1 hX2); clear hX1 hX2
              go_wp2_with (first | (go_at_call 20; refine (num7 _ _).mono ?_; rintro e w7 ⟨rfl, hw⟩; rw [hw]; clear hw) | (go_at_call 21; refine (exact_any u v es fs _ HU.out HV.out).mono ?_; rintro e w8 ⟨rfl, hb8⟩; rw [HXX.out]; replace hb := hb.trans (hb8.mono hb.size)))
              go_ret
              exact ⟨rfl, hb⟩
          · by_cases h6 : op = 6
            · have h6b : (op != 6) = false := by simp [h6]
              have H6 := Lib.hid h6; clear h6
              have f0 := hX.frozen 2
              have k0 := hX.cell 2
              go_upto_region 9 with (first | (go_at_call 32; refine (hasMode7 _ _).mono ?_; rintro e w3 ⟨rfl, hw⟩; rw [hw, hmo]; clear hw) | (go_at_call 33; refine (hasTo7 _ _).mono ?_; rintro e w3 ⟨rfl, hw⟩; rw [hw, hto]; clear hw))
              replace hX : Blk (W0.setCell ⟨g, 2, none⟩ (.string tt)) g 27 #[.int .i64 op, .string p, .string tt, .int .i64 m, .int .i64 r] := hX.set 2 _
              replace hB1 := hB1.set_ne ⟨g, 2, none⟩ (.string tt) (by show _ ≠ g; omega)
              replace hB2 := hB2.set_ne ⟨g, 2, none⟩ (.string tt) (by show _ ≠ g; omega)
              replace hb := hb.setCell (p := ⟨g, 2, none⟩) (by show _ ≤ g; omega) (.string tt)
              obtain ⟨W1, hW1⟩ : ∃ W, W0.setCell ⟨g, 2, none⟩ (.string tt) = W := ⟨_, rfl⟩
              rw [hW1] at hX hB1 hB2 hb ⊢
              clear hW1 b0 b1 i0 i1 i2 i3 i4 f0 k0
              have b0 := hB1.cell 0; have b1 := hB1.cell 1; have i0 := hB2.cell 0; have i1 := hB2.cell 1; have i2 := hB2.cell 2; have i3 := hB2.cell 3; have i4 := hB2.cell 4
              have hd := Hsame.out ⟨op, p, tt, m, r, hp, htt'⟩ rfl rfl (fun h => by rw [hto] at h; cases h) (fun _ => rfl) (fun _ => rfl)
              have hE2 : DoE ⟨nodes, files, NA, nn, nc, FA, fn, fc⟩ ds ⟨op, p, tt, m, r, hp, htt'⟩ sd = E := by rw [← HE.out]; unfold DoE; rw [hd.1]
              have hM2 : doM (openM ⟨nodes, files, NA, nn, nc, FA, fn, fc⟩ ds) ⟨op, p, tt, m, r, hp, htt'⟩ sd = M := by rw [← HM.out]; exact hd.2.symm
              clear hd
              have HE2 := Lib.hid hE2; have HM2 := Lib.hid hM2; clear hE2 hM2
              have c1 := Do_any ⟨nodes, files, NA, nn, nc, FA, fn, fc⟩ ds ⟨op, p, q, m, r, hp, hq⟩ HC.out SA sn sc ss sd W1 (HT.out.keep hb) (HS.out.keep hb)
              rw [HE.out, HM.out] at c1
              have C1 : Hid (Calls Try.prog 18 #[.agg #[.slice NA nn nc, .slice FA fn fc], .agg #[.int .i64 op, .string p, .string q, .int .i64 m, .int .i64 r], .slice SA sn sc] W1 (DoRes E M W1)) := Lib.hid c1
              clear c1
              go_upto_region 14 with (go_at_call 18; refine C1.out.mono ?_; rintro e w5 he; obtain ⟨u, es, rfl, hu, hX1, hb5⟩ := do_tells he; clear he; replace hB1 := hB1.below hb5 hB1.lt; replace hB2 := hB2.below hb5 hB2.lt; replace hX := hX.below hb5 hX.lt; replace hb := hb.trans (hb5.mono hb.size); unfold TV.val)
              clear C1
              have hU := Blk.new w5 25 #[.slice u.NA u.nn u.nc, .slice u.FA u.fn u.fc]
              replace hB1 := hB1.alloc (.cells #[.slice u.NA u.nn u.nc, .slice u.FA u.fn u.fc] 25); replace hB2 := hB2.alloc (.cells #[.slice u.NA u.nn u.nc, .slice u.FA u.fn u.fc] 25); replace hX := hX.alloc (.cells #[.slice u.NA u.nn u.nc, .slice u.FA u.fn u.fc] 25); replace hb := hb.alloc hb.size (.cells #[.slice u.NA u.nn u.nc, .slice u.FA u.fn u.fc] 25)
              replace hu := hu.keep ((Below.refl w5.heap.size w5).alloc (Nat.le_refl _) (.cells #[.slice u.NA u.nn u.nc, .slice u.FA u.fn u.fc] 25))
              obtain ⟨W5, hW5⟩ : ∃ W, w5.alloc (.cells #[.slice u.NA u.nn u.nc, .slice u.FA u.fn u.fc] 25) = W := ⟨_, rfl⟩
              rw [hW5] at hU hB1 hB2 hX hb hu ⊢
              clear hW5 b0 b1 i0 i1 i2 i3 i4
              have b0 := hB1.cell 0; have b1 := hB1.cell 1; have i0 := hX.cell 0; have i1 := hX.cell 1; have i2 := hX.cell 2; have i3 := hX.cell 3; have i4 := hX.cell 4
              have c2 := Do_any ⟨nodes, files, NA, nn, nc, FA, fn, fc⟩ ds ⟨op, p, tt, m, r, hp, htt'⟩ HC.out SA sn sc ss sd W5 (HT.out.keep hb) (HS.out.keep hb)
              rw [HE2.out, HM2.out] at c2
              have C2 : Hid (Calls Try.prog 18 #[.agg #[.slice NA nn nc, .slice FA fn fc], .agg #[.int .i64 op, .string p, .string tt, .int .i64 m, .int .i64 r], .slice SA sn sc] W5 (DoRes E M W5)) := Lib.hid c2
              clear c2
              have HU := Lib.hid hu; clear hu
              go_upto_region 15 with (go_at_call 18; refine C2.out.mono ?_; rintro e w6 he; obtain ⟨v, fs, rfl, hv, hX2, hb6⟩ := do_tells he; clear he; replace hU := hU.below hb6 hU.lt; replace hb := hb.trans (hb6.mono hb.size); replace HU := Lib.hid (HU.out.keep hb6); unfold TV.val)
              clear C2 b0 b1 i0 i1 i2 i3 i4
              have hV := Blk.new w6 25 #[.slice v.NA v.nn v.nc, .slice v.FA v.fn v.fc]
              replace hU := hU.alloc (.cells #[.slice v.NA v.nn v.nc, .slice v.FA v.fn v.fc] 25); replace hb := hb.alloc hb.size (.cells #[.slice v.NA v.nn v.nc, .slice v.FA v.fn v.fc] 25)
              have hq6 := (Below.refl w6.heap.size w6).alloc (Nat.le_refl _) (.cells #[.slice v.NA v.nn v.nc, .slice v.FA v.fn v.fc] 25)
              replace HU := Lib.hid (HU.out.keep hq6)
              have HV := Lib.hid (hv.keep hq6); clear hv hq6
              obtain ⟨W6, hW6⟩ : ∃ W, w6.alloc (.cells #[.slice v.NA v.nn v.nc, .slice v.FA v.fn v.fc] 25) = W := ⟨_, rfl⟩
              rw [hW6] at hU hV hb HU HV ⊢
              clear hW6
              have b0 := hU.cell 0; have b1 := hU.cell 1; have b2 := hV.cell 0; have b3 := hV.cell 1
              have hEE : (E == E) = true := beq_self_eq_true E
              have HXX := Lib.hid (tells_exact hX1 hX2); clear hX1 hX2
              go_wp2_with (first | (go_at_call 20; refine (num7 _ _).mono ?_; rintro e w7 ⟨rfl, hw⟩; rw [hw]; clear hw) | (go_at_call 21; refine (exact_any u v es fs _ HU.out HV.out).mono ?_; rintro e w8 ⟨rfl, hb8⟩; rw [HXX.out]; replace hb := hb.trans (hb8.mono hb.size)))
              go_ret
              exact ⟨rfl, hb⟩
            · have h6b : (op != 6) = true := by simp [h6]
              have H6 := Lib.hid h6; clear h6
              have f0 := hX.frozen 2
              have k0 := hX.cell 2
              go_upto_region 9 with (first | (go_at_call 32; refine (hasMode7 _ _).mono ?_; rintro e w3 ⟨rfl, hw⟩; rw [hw, hmo]; clear hw) | (go_at_call 33; refine (hasTo7 _ _).mono ?_; rintro e w3 ⟨rfl, hw⟩; rw [hw, hto]; clear hw))
              replace hX : Blk (W0.setCell ⟨g, 2, none⟩ (.string tt)) g 27 #[.int .i64 op, .string p, .string tt, .int .i64 m, .int .i64 r] := hX.set 2 _
              replace hB1 := hB1.set_ne ⟨g, 2, none⟩ (.string tt) (by show _ ≠ g; omega)
              replace hB2 := hB2.set_ne ⟨g, 2, none⟩ (.string tt) (by show _ ≠ g; omega)
              replace hb := hb.setCell (p := ⟨g, 2, none⟩) (by show _ ≤ g; omega) (.string tt)
              obtain ⟨W1, hW1⟩ : ∃ W, W0.setCell ⟨g, 2, none⟩ (.string tt) = W := ⟨_, rfl⟩
              rw [hW1] at hX hB1 hB2 hb ⊢
              clear hW1 b0 b1 i0 i1 i2 i3 i4 f0 k0
              have b0 := hB1.cell 0; have b1 := hB1.cell 1; have i0 := hB2.cell 0; have i1 := hB2.cell 1; have i2 := hB2.cell 2; have i3 := hB2.cell 3; have i4 := hB2.cell 4
              have f1 := hX.frozen 4
              have k1 := hX.cell 4
              go_upto_region 13 with (fail)
              replace hX : Blk (W1.setCell ⟨g, 4, none⟩ (.int .i64 rf)) g 27 #[.int .i64 op, .string p, .string tt, .int .i64 m, .int .i64 rf] := hX.set 4 _
              replace hB1 := hB1.set_ne ⟨g, 4, none⟩ (.int .i64 rf) (by show _ ≠ g; omega)
              replace hB2 := hB2.set_ne ⟨g, 4, none⟩ (.int .i64 rf) (by show _ ≠ g; omega)
              replace hb := hb.setCell (p := ⟨g, 4, none⟩) (by show _ ≤ g; omega) (.int .i64 rf)
              obtain ⟨W2, hW2⟩ : ∃ W, W1.setCell ⟨g, 4, none⟩ (.int .i64 rf) = W := ⟨_, rfl⟩
              rw [hW2] at hX hB1 hB2 hb ⊢
              clear hW2 b0 b1 i0 i1 i2 i3 i4 f1 k1
              have b0 := hB1.cell 0; have b1 := hB1.cell 1; have i0 := hB2.cell 0; have i1 := hB2.cell 1; have i2 := hB2.cell 2; have i3 := hB2.cell 3; have i4 := hB2.cell 4
              have hd := Hsame.out ⟨op, p, tt, m, rf, hp, htt'⟩ rfl rfl (fun h => by rw [hto] at h; cases h) (fun _ => rfl) (fun h => absurd h H6.out)
              have hE2 : DoE ⟨nodes, files, NA, nn, nc, FA, fn, fc⟩ ds ⟨op, p, tt, m, rf, hp, htt'⟩ sd = E := by rw [← HE.out]; unfold DoE; rw [hd.1]
              have hM2 : doM (openM ⟨nodes, files, NA, nn, nc, FA, fn, fc⟩ ds) ⟨op, p, tt, m, rf, hp, htt'⟩ sd = M := by rw [← HM.out]; exact hd.2.symm
              clear hd
              have HE2 := Lib.hid hE2; have HM2 := Lib.hid hM2; clear hE2 hM2
              have c1 := Do_any ⟨nodes, files, NA, nn, nc, FA, fn, fc⟩ ds ⟨op, p, q, m, r, hp, hq⟩ HC.out SA sn sc ss sd W2 (HT.out.keep hb) (HS.out.keep hb)
              rw [HE.out, HM.out] at c1
              have C1 : Hid (Calls Try.prog 18 #[.agg #[.slice NA nn nc, .slice FA fn fc], .agg #[.int .i64 op, .string p, .string q, .int .i64 m, .int .i64 r], .slice SA sn sc] W2 (DoRes E M W2)) := Lib.hid c1
              clear c1
              go_upto_region 14 with (go_at_call 18; refine C1.out.mono ?_; rintro e w5 he; obtain ⟨u, es, rfl, hu, hX1, hb5⟩ := do_tells he; clear he; replace hB1 := hB1.below hb5 hB1.lt; replace hB2 := hB2.below hb5 hB2.lt; replace hX := hX.below hb5 hX.lt; replace hb := hb.trans (hb5.mono hb.size); unfold TV.val)
              clear C1
              have hU := Blk.new w5 25 #[.slice u.NA u.nn u.nc, .slice u.FA u.fn u.fc]
              replace hB1 := hB1.alloc (.cells #[.slice u.NA u.nn u.nc, .slice u.FA u.fn u.fc] 25); replace hB2 := hB2.alloc (.cells #[.slice u.NA u.nn u.nc, .slice u.FA u.fn u.fc] 25); replace hX := hX.alloc (.cells #[.slice u.NA u.nn u.nc, .slice u.FA u.fn u.fc] 25); replace hb := hb.alloc hb.size (.cells #[.slice u.NA u.nn u.nc, .slice u.FA u.fn u.fc] 25)
              replace hu := hu.keep ((Below.refl w5.heap.size w5).alloc (Nat.le_refl _) (.cells #[.slice u.NA u.nn u.nc, .slice u.FA u.fn u.fc] 25))
              obtain ⟨W5, hW5⟩ : ∃ W, w5.alloc (.cells #[.slice u.NA u.nn u.nc, .slice u.FA u.fn u.fc] 25) = W := ⟨_, rfl⟩
              rw [hW5] at hU hB1 hB2 hX hb hu ⊢
              clear hW5 b0 b1 i0 i1 i2 i3 i4
              have b0 := hB1.cell 0; have b1 := hB1.cell 1; have i0 := hX.cell 0; have i1 := hX.cell 1; have i2 := hX.cell 2; have i3 := hX.cell 3; have i4 := hX.cell 4
              have c2 := Do_any ⟨nodes, files, NA, nn, nc, FA, fn, fc⟩ ds ⟨op, p, tt, m, rf, hp, htt'⟩ HC.out SA sn sc ss sd W5 (HT.out.keep hb) (HS.out.keep hb)
              rw [HE2.out, HM2.out] at c2
              have C2 : Hid (Calls Try.prog 18 #[.agg #[.slice NA nn nc, .slice FA fn fc], .agg #[.int .i64 op, .string p, .string tt, .int .i64 m, .int .i64 rf], .slice SA sn sc] W5 (DoRes E M W5)) := Lib.hid c2
              clear c2
              have HU := Lib.hid hu; clear hu
              go_upto_region 15 with (go_at_call 18; refine C2.out.mono ?_; rintro e w6 he; obtain ⟨v, fs, rfl, hv, hX2, hb6⟩ := do_tells he; clear he; replace hU := hU.below hb6 hU.lt; replace hb := hb.trans (hb6.mono hb.size); replace HU := Lib.hid (HU.out.keep hb6); unfold TV.val)
              clear C2 b0 b1 i0 i1 i2 i3 i4
              have hV := Blk.new w6 25 #[.slice v.NA v.nn v.nc, .slice v.FA v.fn v.fc]
              replace hU := hU.alloc (.cells #[.slice v.NA v.nn v.nc, .slice v.FA v.fn v.fc] 25); replace hb := hb.alloc hb.size (.cells #[.slice v.NA v.nn v.nc, .slice v.FA v.fn v.fc] 25)
              have hq6 := (Below.refl w6.heap.size w6).alloc (Nat.le_refl _) (.cells #[.slice v.NA v.nn v.nc, .slice v.FA v.fn v.fc] 25)
              replace HU := Lib.hid (HU.out.keep hq6)
              have HV := Lib.hid (hv.keep hq6); clear hv hq6
              obtain ⟨W6, hW6⟩ : ∃ W, w6.alloc (.cells #[.slice v.NA v.nn v.nc, .slice v.FA v.fn v.fc] 25) = W := ⟨_, rfl⟩
              rw [hW6] at hU hV hb HU HV ⊢
              clear hW6
              have b0 := hU.cell 0; have b1 := hU.cell 1; have b2 := hV.cell 0; have b3 := hV.cell 1
              have hEE : (E == E) = true := beq_self_eq_true E
              have HXX := Lib.hid (tells_exact hX1 hX2); clear hX1 hX2
              go_wp2_with (first | (go_at_call 20; refine (num7 _ _).mono ?_; rintro e w7 ⟨rfl, hw⟩; rw [hw]; clear hw) | (go_at_call 21; refine (exact_any u v es fs _ HU.out HV.out).mono ?_; rintro e w8 ⟨rfl, hb8⟩; rw [HXX.out]; replace hb := hb.trans (hb8.mono hb.size)))
              go_ret
              exact ⟨rfl, hb⟩
        · cases hmo : modeB op
          · by_cases h6 : op = 6
            · have h6b : (op != 6) = false := by simp [h6]
              exact absurd hmo (by rw [h6]; decide)
            · have h6b : (op != 6) = true := by simp [h6]
              have H6 := Lib.hid h6; clear h6
              have f0 := hX.frozen 3
              have k0 := hX.cell 3
              go_upto_region 11 with (first | (go_at_call 32; refine (hasMode7 _ _).mono ?_; rintro e w3 ⟨rfl, hw⟩; rw [hw, hmo]; clear hw) | (go_at_call 33; refine (hasTo7 _ _).mono ?_; rintro e w3 ⟨rfl, hw⟩; rw [hw, hto]; clear hw))
              replace hX : Blk (W0.setCell ⟨g, 3, none⟩ (.int .i64 md)) g 27 #[.int .i64 op, .string p, .string q, .int .i64 md, .int .i64 r] := hX.set 3 _
              replace hB1 := hB1.set_ne ⟨g, 3, none⟩ (.int .i64 md) (by show _ ≠ g; omega)
              replace hB2 := hB2.set_ne ⟨g, 3, none⟩ (.int .i64 md) (by show _ ≠ g; omega)
              replace hb := hb.setCell (p := ⟨g, 3, none⟩) (by show _ ≤ g; omega) (.int .i64 md)
              obtain ⟨W1, hW1⟩ : ∃ W, W0.setCell ⟨g, 3, none⟩ (.int .i64 md) = W := ⟨_, rfl⟩
              rw [hW1] at hX hB1 hB2 hb ⊢
              clear hW1 b0 b1 i0 i1 i2 i3 i4 f0 k0
              have b0 := hB1.cell 0; have b1 := hB1.cell 1; have i0 := hB2.cell 0; have i1 := hB2.cell 1; have i2 := hB2.cell 2; have i3 := hB2.cell 3; have i4 := hB2.cell 4
              have f1 := hX.frozen 4
              have k1 := hX.cell 4
              go_upto_region 13 with (fail)
              replace hX : Blk (W1.setCell ⟨g, 4, none⟩ (.int .i64 rf)) g 27 #[.int .i64 op, .string p, .string q, .int .i64 md, .int .i64 rf] := hX.set 4 _
              replace hB1 := hB1.set_ne ⟨g, 4, none⟩ (.int .i64 rf) (by show _ ≠ g; omega)
              replace hB2 := hB2.set_ne ⟨g, 4, none⟩ (.int .i64 rf) (by show _ ≠ g; omega)
              replace hb := hb.setCell (p := ⟨g, 4, none⟩) (by show _ ≤ g; omega) (.int .i64 rf)
              obtain ⟨W2, hW2⟩ : ∃ W, W1.setCell ⟨g, 4, none⟩ (.int .i64 rf) = W := ⟨_, rfl⟩
              rw [hW2] at hX hB1 hB2 hb ⊢
              clear hW2 b0 b1 i0 i1 i2 i3 i4 f1 k1
              have b0 := hB1.cell 0; have b1 := hB1.cell 1; have i0 := hB2.cell 0; have i1 := hB2.cell 1; have i2 := hB2.cell 2; have i3 := hB2.cell 3; have i4 := hB2.cell 4
              have hd := Hsame.out ⟨op, p, q, md, rf, hp, hq⟩ rfl rfl (fun _ => rfl) (fun h => by rw [hmo] at h; cases h) (fun h => absurd h H6.out)
              have hE2 : DoE ⟨nodes, files, NA, nn, nc, FA, fn, fc⟩ ds ⟨op, p, q, md, rf, hp, hq⟩ sd = E := by rw [← HE.out]; unfold DoE; rw [hd.1]
              have hM2 : doM (openM ⟨nodes, files, NA, nn, nc, FA, fn, fc⟩ ds) ⟨op, p, q, md, rf, hp, hq⟩ sd = M := by rw [← HM.out]; exact hd.2.symm
              clear hd
              have HE2 := Lib.hid hE2; have HM2 := Lib.hid hM2; clear hE2 hM2
              have c1 := Do_any ⟨nodes, files, NA, nn, nc, FA, fn, fc⟩ ds ⟨op, p, q, m, r, hp, hq⟩ HC.out SA sn sc ss sd W2 (HT.out.keep hb) (HS.out.keep hb)
              rw [HE.out, HM.out] at c1
              have C1 : Hid (Calls Try.prog 18 #[.agg #[.slice NA nn nc, .slice FA fn fc], .agg #[.int .i64 op, .string p, .string q, .int .i64 m, .int .i64 r], .slice SA sn sc] W2 (DoRes E M W2)) := Lib.hid c1
              clear c1
              go_upto_region 14 with (go_at_call 18; refine C1.out.mono ?_; rintro e w5 he; obtain ⟨u, es, rfl, hu, hX1, hb5⟩ := do_tells he; clear he; replace hB1 := hB1.below hb5 hB1.lt; replace hB2 := hB2.below hb5 hB2.lt; replace hX := hX.below hb5 hX.lt; replace hb := hb.trans (hb5.mono hb.size); unfold TV.val)
              clear C1
              have hU := Blk.new w5 25 #[.slice u.NA u.nn u.nc, .slice u.FA u.fn u.fc]
              replace hB1 := hB1.alloc (.cells #[.slice u.NA u.nn u.nc, .slice u.FA u.fn u.fc] 25); replace hB2 := hB2.alloc (.cells #[.slice u.NA u.nn u.nc, .slice u.FA u.fn u.fc] 25); replace hX := hX.alloc (.cells #[.slice u.NA u.nn u.nc, .slice u.FA u.fn u.fc] 25); replace hb := hb.alloc hb.size (.cells #[.slice u.NA u.nn u.nc, .slice u.FA u.fn u.fc] 25)
              replace hu := hu.keep ((Below.refl w5.heap.size w5).alloc (Nat.le_refl _) (.cells #[.slice u.NA u.nn u.nc, .slice u.FA u.fn u.fc] 25))
              obtain ⟨W5, hW5⟩ : ∃ W, w5.alloc (.cells #[.slice u.NA u.nn u.nc, .slice u.FA u.fn u.fc] 25) = W := ⟨_, rfl⟩
              rw [hW5] at hU hB1 hB2 hX hb hu ⊢
              clear hW5 b0 b1 i0 i1 i2 i3 i4
              have b0 := hB1.cell 0; have b1 := hB1.cell 1; have i0 := hX.cell 0; have i1 := hX.cell 1; have i2 := hX.cell 2; have i3 := hX.cell 3; have i4 := hX.cell 4
              have c2 := Do_any ⟨nodes, files, NA, nn, nc, FA, fn, fc⟩ ds ⟨op, p, q, md, rf, hp, hq⟩ HC.out SA sn sc ss sd W5 (HT.out.keep hb) (HS.out.keep hb)
              rw [HE2.out, HM2.out] at c2
              have C2 : Hid (Calls Try.prog 18 #[.agg #[.slice NA nn nc, .slice FA fn fc], .agg #[.int .i64 op, .string p, .string q, .int .i64 md, .int .i64 rf], .slice SA sn sc] W5 (DoRes E M W5)) := Lib.hid c2
              clear c2
              have HU := Lib.hid hu; clear hu
              go_upto_region 15 with (go_at_call 18; refine C2.out.mono ?_; rintro e w6 he; obtain ⟨v, fs, rfl, hv, hX2, hb6⟩ := do_tells he; clear he; replace hU := hU.below hb6 hU.lt; replace hb := hb.trans (hb6.mono hb.size); replace HU := Lib.hid (HU.out.keep hb6); unfold TV.val)
              clear C2 b0 b1 i0 i1 i2 i3 i4
              have hV := Blk.new w6 25 #[.slice v.NA v.nn v.nc, .slice v.FA v.fn v.fc]
              replace hU := hU.alloc (.cells #[.slice v.NA v.nn v.nc, .slice v.FA v.fn v.fc] 25); replace hb := hb.alloc hb.size (.cells #[.slice v.NA v.nn v.nc, .slice v.FA v.fn v.fc] 25)
              have hq6 := (Below.refl w6.heap.size w6).alloc (Nat.le_refl _) (.cells #[.slice v.NA v.nn v.nc, .slice v.FA v.fn v.fc] 25)
              replace HU := Lib.hid (HU.out.keep hq6)
              have HV := Lib.hid (hv.keep hq6); clear hv hq6
              obtain ⟨W6, hW6⟩ : ∃ W, w6.alloc (.cells #[.slice v.NA v.nn v.nc, .slice v.FA v.fn v.fc] 25) = W := ⟨_, rfl⟩
              rw [hW6] at hU hV hb HU HV ⊢
              clear hW6
              have b0 := hU.cell 0; have b1 := hU.cell 1; have b2 := hV.cell 0; have b3 := hV.cell 1
              have hEE : (E == E) = true := beq_self_eq_true E
              have HXX := Lib.hid (tells_exact hX1 hX2); clear hX1 hX2
              go_wp2_with (first | (go_at_call 20; refine (num7 _ _).mono ?_; rintro e w7 ⟨rfl, hw⟩; rw [hw]; clear hw) | (go_at_call 21; refine (exact_any u v es fs _ HU.out HV.out).mono ?_; rintro e w8 ⟨rfl, hb8⟩; rw [HXX.out]; replace hb := hb.trans (hb8.mono hb.size)))
              go_ret
              exact ⟨rfl, hb⟩
          · by_cases h6 : op = 6
            · have h6b : (op != 6) = false := by simp [h6]
              exact absurd hto (by rw [h6]; decide)
            · have h6b : (op != 6) = true := by simp [h6]
              have H6 := Lib.hid h6; clear h6
              have f0 := hX.frozen 4
              have k0 := hX.cell 4
              go_upto_region 13 with (first | (go_at_call 32; refine (hasMode7 _ _).mono ?_; rintro e w3 ⟨rfl, hw⟩; rw [hw, hmo]; clear hw) | (go_at_call 33; refine (hasTo7 _ _).mono ?_; rintro e w3 ⟨rfl, hw⟩; rw [hw, hto]; clear hw))
              replace hX : Blk (W0.setCell ⟨g, 4, none⟩ (.int .i64 rf)) g 27 #[.int .i64 op, .string p, .string q, .int .i64 m, .int .i64 rf] := hX.set 4 _
              replace hB1 := hB1.set_ne ⟨g, 4, none⟩ (.int .i64 rf) (by show _ ≠ g; omega)
              replace hB2 := hB2.set_ne ⟨g, 4, none⟩ (.int .i64 rf) (by show _ ≠ g; omega)
              replace hb := hb.setCell (p := ⟨g, 4, none⟩) (by show _ ≤ g; omega) (.int .i64 rf)
              obtain ⟨W1, hW1⟩ : ∃ W, W0.setCell ⟨g, 4, none⟩ (.int .i64 rf) = W := ⟨_, rfl⟩
              rw [hW1] at hX hB1 hB2 hb ⊢
              clear hW1 b0 b1 i0 i1 i2 i3 i4 f0 k0
              have b0 := hB1.cell 0; have b1 := hB1.cell 1; have i0 := hB2.cell 0; have i1 := hB2.cell 1; have i2 := hB2.cell 2; have i3 := hB2.cell 3; have i4 := hB2.cell 4
              have hd := Hsame.out ⟨op, p, q, m, rf, hp, hq⟩ rfl rfl (fun _ => rfl) (fun _ => rfl) (fun h => absurd h H6.out)
              have hE2 : DoE ⟨nodes, files, NA, nn, nc, FA, fn, fc⟩ ds ⟨op, p, q, m, rf, hp, hq⟩ sd = E := by rw [← HE.out]; unfold DoE; rw [hd.1]
              have hM2 : doM (openM ⟨nodes, files, NA, nn, nc, FA, fn, fc⟩ ds) ⟨op, p, q, m, rf, hp, hq⟩ sd = M := by rw [← HM.out]; exact hd.2.symm
              clear hd
              have HE2 := Lib.hid hE2; have HM2 := Lib.hid hM2; clear hE2 hM2
              have c1 := Do_any ⟨nodes, files, NA, nn, nc, FA, fn, fc⟩ ds ⟨op, p, q, m, r, hp, hq⟩ HC.out SA sn sc ss sd W1 (HT.out.keep hb) (HS.out.keep hb)
              rw [HE.out, HM.out] at c1
              have C1 : Hid (Calls Try.prog 18 #[.agg #[.slice NA nn nc, .slice FA fn fc], .agg #[.int .i64 op, .string p, .string q, .int .i64 m, .int .i64 r], .slice SA sn sc] W1 (DoRes E M W1)) := Lib.hid c1
              clear c1
              go_upto_region 14 with (go_at_call 18; refine C1.out.mono ?_; rintro e w5 he; obtain ⟨u, es, rfl, hu, hX1, hb5⟩ := do_tells he; clear he; replace hB1 := hB1.below hb5 hB1.lt; replace hB2 := hB2.below hb5 hB2.lt; replace hX := hX.below hb5 hX.lt; replace hb := hb.trans (hb5.mono hb.size); unfold TV.val)
              clear C1
              have hU := Blk.new w5 25 #[.slice u.NA u.nn u.nc, .slice u.FA u.fn u.fc]
              replace hB1 := hB1.alloc (.cells #[.slice u.NA u.nn u.nc, .slice u.FA u.fn u.fc] 25); replace hB2 := hB2.alloc (.cells #[.slice u.NA u.nn u.nc, .slice u.FA u.fn u.fc] 25); replace hX := hX.alloc (.cells #[.slice u.NA u.nn u.nc, .slice u.FA u.fn u.fc] 25); replace hb := hb.alloc hb.size (.cells #[.slice u.NA u.nn u.nc, .slice u.FA u.fn u.fc] 25)
              replace hu := hu.keep ((Below.refl w5.heap.size w5).alloc (Nat.le_refl _) (.cells #[.slice u.NA u.nn u.nc, .slice u.FA u.fn u.fc] 25))
              obtain ⟨W5, hW5⟩ : ∃ W, w5.alloc (.cells #[.slice u.NA u.nn u.nc, .slice u.FA u.fn u.fc] 25) = W := ⟨_, rfl⟩
              rw [hW5] at hU hB1 hB2 hX hb hu ⊢
              clear hW5 b0 b1 i0 i1 i2 i3 i4
              have b0 := hB1.cell 0; have b1 := hB1.cell 1; have i0 := hX.cell 0; have i1 := hX.cell 1; have i2 := hX.cell 2; have i3 := hX.cell 3; have i4 := hX.cell 4
              have c2 := Do_any ⟨nodes, files, NA, nn, nc, FA, fn, fc⟩ ds ⟨op, p, q, m, rf, hp, hq⟩ HC.out SA sn sc ss sd W5 (HT.out.keep hb) (HS.out.keep hb)
              rw [HE2.out, HM2.out] at c2
              have C2 : Hid (Calls Try.prog 18 #[.agg #[.slice NA nn nc, .slice FA fn fc], .agg #[.int .i64 op, .string p, .string q, .int .i64 m, .int .i64 rf], .slice SA sn sc] W5 (DoRes E M W5)) := Lib.hid c2
              clear c2
              have HU := Lib.hid hu; clear hu
              go_upto_region 15 with (go_at_call 18; refine C2.out.mono ?_; rintro e w6 he; obtain ⟨v, fs, rfl, hv, hX2, hb6⟩ := do_tells he; clear he; replace hU := hU.below hb6 hU.lt; replace hb := hb.trans (hb6.mono hb.size); replace HU := Lib.hid (HU.out.keep hb6); unfold TV.val)
              clear C2 b0 b1 i0 i1 i2 i3 i4
              have hV := Blk.new w6 25 #[.slice v.NA v.nn v.nc, .slice v.FA v.fn v.fc]
              replace hU := hU.alloc (.cells #[.slice v.NA v.nn v.nc, .slice v.FA v.fn v.fc] 25); replace hb := hb.alloc hb.size (.cells #[.slice v.NA v.nn v.nc, .slice v.FA v.fn v.fc] 25)
              have hq6 := (Below.refl w6.heap.size w6).alloc (Nat.le_refl _) (.cells #[.slice v.NA v.nn v.nc, .slice v.FA v.fn v.fc] 25)
              replace HU := Lib.hid (HU.out.keep hq6)
              have HV := Lib.hid (hv.keep hq6); clear hv hq6
              obtain ⟨W6, hW6⟩ : ∃ W, w6.alloc (.cells #[.slice v.NA v.nn v.nc, .slice v.FA v.fn v.fc] 25) = W := ⟨_, rfl⟩
              rw [hW6] at hU hV hb HU HV ⊢
              clear hW6
              have b0 := hU.cell 0; have b1 := hU.cell 1; have b2 := hV.cell 0; have b3 := hV.cell 1
              have hEE : (E == E) = true := beq_self_eq_true E
              have HXX := Lib.hid (tells_exact hX1 hX2); clear hX1 hX2
              go_wp2_with (first | (go_at_call 20; refine (num7 _ _).mono ?_; rintro e w7 ⟨rfl, hw⟩; rw [hw]; clear hw) | (go_at_call 21; refine (exact_any u v es fs _ HU.out HV.out).mono ?_; rintro e w8 ⟨rfl, hb8⟩; rw [HXX.out]; replace hb := hb.trans (hb8.mono hb.size)))
              go_ret
              exact ⟨rfl, hb⟩

set_option maxRecDepth 100000 in
theorem lifted (os : Os) (started : os.Started) (H : Type) (enc : TypeId × Value → H) :
    ReturnsInHanded {} Try.checked os 8 .any (Rows.modelIgnoresSpec.pre6 enc Try.prog Try.f8 Rows.modelIgnoresRow.domain false) (Rows.modelIgnoresSpec.post enc Try.prog Try.f8 false true false false) := by
  refine returnsInHanded_of_change (C := Try.checked) own started (by kernel_rfl) Try.func8
    (ChangeSpec.witness6 (enc := enc) (C := Try.checked) false ⟨#[], #[.agg #[.slice none 0 0, .slice none 0 0], .agg #[.int .i64 0, .string ByteArray.empty, .string ByteArray.empty, .int .i64 0, .int .i64 0], .string ByteArray.empty, .int .i64 0, .int .i64 0, .slice none 0 0], []⟩ 8 (by kernel_rfl) (by kernel_rfl) (by kernel_rfl) (by kernel_rfl)) ?_
  intro W base args ds gs before hval0 hW hcnd _
  have hval : ∀ (j : Nat) t v, Try.f8.params[j]? = some t → args[j]? = some v → Value.okWide Try.prog W .any base t v := hval0
  have hW' := hW
  obtain ⟨p, q, hA0, hV, rfl, hfz, hnd⟩ := hW
  have hA : DataW.TrodAll enc Try.prog W 0 (fun _ => true) true Try.f8.params.toList args.toList ds p := hA0
  rw [Try.params8] at hA hval
  obtain ⟨v0, vs0, d0, ds0, p0, q0, hargs, rfl, rfl, h0, r0⟩ := trodAll_cons hA
  obtain ⟨v1, vs1, d1, ds1, p1, q1, rfl, rfl, rfl, h1, r1⟩ := trodAll_cons r0
  obtain ⟨v2, vs2, d2, ds2, p2, q2, rfl, rfl, rfl, h2, r2⟩ := trodAll_cons r1
  obtain ⟨v3, vs3, d3, ds3, p3, q3, rfl, rfl, rfl, h3, r3⟩ := trodAll_cons r2
  obtain ⟨v4, vs4, d4, ds4, p4, q4, rfl, rfl, rfl, h4, r4⟩ := trodAll_cons r3
  obtain ⟨v5, vs5, d5, ds5, p5, q5, rfl, rfl, rfl, h5, r5⟩ := trodAll_cons r4
  obtain ⟨rfl, rfl, rfl⟩ := trodAll_nil r5
  obtain rfl : args = #[v0, v1, v2, v3, v4, v5] := by cases args; simp_all
  obtain ⟨rfl, rfl⟩ := trodVars_none hV
  have k0 := h0
  have lt0 : ∀ x ∈ p0, x.block < W.heap.size := by obtain ⟨m, hm⟩ := k0; exact DataW.trod_lt m _ _ _ hm
  obtain ⟨t0, ds0', rfl, hT0⟩ := open_tree (hval 0 25 v0 rfl rfl) h0 lt0
  have k1 := h1
  have lt1 : ∀ x ∈ p1, x.block < W.heap.size := by obtain ⟨m, hm⟩ := k1; exact DataW.trod_lt m _ _ _ hm
  obtain ⟨c1, rfl, ho1⟩ := open_cmd (hval 1 27 v1 rfl rfl) h1
  obtain ⟨a2, rfl, rfl, rfl, w2⟩ := open_string Try.underlying9 (hval 2 9 v2 rfl rfl) h2
  obtain ⟨a3, rfl, rfl, rfl, w3⟩ := open_int Try.underlying3 (hval 3 3 v3 rfl rfl) h3
  obtain ⟨a4, rfl, rfl, rfl, w4⟩ := open_int Try.underlying3 (hval 4 3 v4 rfl rfl) h4
  obtain ⟨a5, len5, cap5, rfl⟩ := okWide_slice Try.underlying28 (hval 5 28 v5 rfl rfl)
  have k5 := h5
  have lt5 : ∀ x ∈ p5, x.block < W.heap.size := by obtain ⟨m, hm⟩ := k5; exact DataW.trod_lt m _ _ _ hm
  obtain ⟨ss5, sd5, hK5⟩ : ∃ (ss : List SC) (sd : List ByteArray), StockAt W a5 len5 ss sd := by
    obtain ⟨fuel, hf⟩ := h5
    exact open_stock hf lt5
  clear hA0 hval0
  refine (walk t0 ds0' c1 a2 a3 a4 a5 len5 cap5 ss5 sd5 W hT0 ho1 w2 w3 w4 hK5).mono fun e W' ⟨he, bel⟩ => ?_
  subst he
  exact ⟨_, rfl, _, _, _, [], _, [], hW', trodAll_mk1 (shut_bool Try.underlying4 _), (trodAll_cons_mk (Below.trod laidOut (by kernel_rfl) (of_decide_eq_true (by kernel_rfl)) k0 bel lt0) (trodAll_cons_mk (Below.trod laidOut (by kernel_rfl) (of_decide_eq_true (by kernel_rfl)) k1 bel lt1) (trodAll_cons_mk (shut_string Try.underlying9 w2) (trodAll_cons_mk (shut_int Try.underlying3 w3) (trodAll_cons_mk (shut_int Try.underlying3 w4) (trodAll_cons_mk (Below.trod laidOut (by kernel_rfl) (of_decide_eq_true (by kernel_rfl)) k5 bel lt5) trodAll_mk0)))))), rfl, bel.frame _, fun h => by cases h⟩

theorem over : Rows.modelIgnoresRow.holds Try.pinned (OpenSpec.ofChange Rows.modelIgnoresSpec) :=
  OpenClaim.holds_of_wide 8 Try.f8 rfl rfl rfl rfl rfl rfl rfl ⟨rfl, rfl, rfl, rfl, rfl⟩ rfl rfl rfl rfl rfl (by kernel_rfl) Try.func8 (by kernel_rfl)
    (of_decide_eq_true (by kernel_rfl)) (by unfold Func.isWrapper; first | (rw [if_pos (by decide +kernel)]; kernel_rfl) | (rw [if_neg (by decide +kernel)]; exact ⟨rfl, rfl⟩))
    (fun os started H enc _ => lifted os started H enc)

theorem proved : Rows.ModelIgnoresSaid := over
#print axioms proved
end Go.Proofs.Ythmeffpickejkaa.modelIgnoresDone
