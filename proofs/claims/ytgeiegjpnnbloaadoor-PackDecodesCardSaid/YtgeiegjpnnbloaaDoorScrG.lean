/- pack.script at any bytes. -/
import Derived.Test.YtgeiegjpnnbloaaDoorScrA
namespace Go.Proofs.YtgeiegjpnnbloaaDoor
open Go.ChangeShapes Go.WideShapes Go.ChangeAt Go.ChangeMaps Go.RowKit Go.Deep

theorem RdG.of {w : World} {g B n c : Nat} {A : Option Addr} {l : List UInt8} (hB : Blk w g 64 #[.slice A n c, .bool false]) (hS : Sl w B 1 A n (l.flatMap u8L)) (hn : l.length = n) (hnc : n ≤ c) (hcm : c ≤ maxLen) (hg : B ≤ g) : RdG w g B ⟨l, false⟩ := by
  subst hn
  exact ⟨A, c, hB, hS, hnc, hcm, hg⟩
theorem RdG.gen {w w' : World} {g B : Nat} {s : RS} {row : Option Nat} (h : RdG w g B s) (hg : w.grownBy w' row) (hq : row ≠ some g) (hB : ∀ q, row = some q → B ≤ q) : RdG w' g B s := by
  obtain ⟨A, c, h1, h2, h3, h4, h5⟩ := h
  exact ⟨A, c, h1.keep (hg.block g h1.lt (fun e => hq e.symm)), h2.below (below_grown (B := B) hg (by have := h1.lt; omega) hB) (Nat.le_refl _), h3, h4, h5⟩
theorem copy_sum {v : Int} {l : List UInt8} : ((refC (v, zero32)).toArray.toList.take 1 ++ l.flatMap u8L ++ (refC (v, zero32)).toArray.toList.drop (1 + 32)).toArray = (refC (v, l)).toArray := by
  have e : (refC (v, zero32)).toArray.toList.drop (1 + 32) = [] := by
    apply List.drop_of_length_le
    have := refC_len (r := (v, zero32)) (by simp [zero32])
    show (refC (v, zero32)).length ≤ _
    omega
  rw [e, List.append_nil]
  rfl
set_option maxRecDepth 100000 in
set_option maxHeartbeats 8000000 in
theorem script_any (l : List UInt8) (A : Option Addr) (n c : Nat) (a0 a1 a2 : Addr) (w : World) (hE : ErrsAt w a0 a1 a2) (hS : Sl w w.heap.size 1 A n (l.flatMap u8L)) (hn : l.length = n) (hm : n ≤ 1000000) (hnc : n < c) (hcm : c ≤ maxLen) :
    Calls Tryd.prog 12 #[.slice A n c] w (ScrRes l a0 a1 a2 w) := by
  unfold maxLen at hcm
  have HN := Lib.hid hn
  have HS := Lib.hid hS
  obtain ⟨W0, hW0⟩ : ∃ W, W = w.alloc (.cells Tryd.zeroCells30 30) := ⟨_, rfl⟩
  have hb0 : Below w.heap.size w W0 := by rw [hW0]; exact (Below.refl _ _).alloc (Nat.le_refl _) _
  have hZ0 : Blk W0 w.heap.size 30 zeroScr.C := by rw [hW0, ← zero_cells]; exact Blk.new w _ _
  have HW := Lib.hid hW0
  have HE := Lib.hid hE
  have hs0 := hb0.size
  have hZl := hZ0.lt
  -- the head
  obtain ⟨frm, goal, pb, pi, il, rl, s7, hH⟩ : ∃ frm goal pb pi il rl s7, HeadR l frm goal pb pi il rl s7 := ⟨_, _, _, _, _, _, _, rfl, rfl, rfl, rfl, rfl, rfl, rfl⟩
  obtain ⟨hHS, hH7⟩ := head_of hH
  have HH := Lib.hid hH; have HHS := Lib.hid hHS; have HH7 := Lib.hid hH7
  clear hW0 hE hS hn hH hHS hH7
  go_enter Tryd.func12, Tryd.ntmps12
  go_upto_region 1 with (fail)
  rw [← HW.out]
  go_wp2
  refine wp_scope_JJ (WrongAt l a0 a1 a2 w) (MoreG l frm goal pb pi il rl A n c w) (moreMu2 il rl w.heap.size) (by rfl) (by rfl) ?_ ?_ fun pass => ?_
  · rintro a wr ⟨u, v, C, rfl, hB, hC67, hb, hv⟩
    have hzs : Tryd.zeroCells30.size = 67 := by rw [zero_cells]; exact zsize
    go_wp2_with (refine wpList_store_blk rfl 30 (.tmp 2) (.tmp 128) rfl hB Tryd.zeroCells30 rfl rfl (by rw [hzs]; kernel_rfl) (by rw [hC67, hzs]) (by rw [zero_cells]; exact Scr.one _) ?_; intro w3 hB3 hg3 hs3)
    change bodyPost Tryd.prog Tryd.f12 (ScrRes l a0 a1 a2 w) Exit.ret _ _
    exact ret_cell_t rfl rfl (load_blk hB3 Tryd.underlying30 rfl (by rw [hzs]; kernel_rfl)) rfl ⟨zeroScr, v, by rw [zero_cells]; rfl, zero_at _, ⟨World.ownsRow_nil _ _ _ _, World.ownsRow_nil _ _ _ _⟩, hb.trans (below_grown (B := w.heap.size) hg3 hb.size (fun q e => by injection e with e; omega)), .inr ⟨rfl, hv⟩⟩
  · rintro a wr ⟨u, j, IA, ic, xs, k, RA, rc, rs, g, ⟨sl, sh⟩, rfl, hM⟩
    have HM := Lib.hid hM
    have hScr := hM.scr HHS.out
    obtain ⟨c64, c65, c66⟩ := Scr.cell (s := ⟨frm, goal, pb, pi, xs, rs, IA, j, ic, RA, k, rc⟩) HHS.out.fl HHS.out.gl
    have hsz : (⟨frm, goal, pb, pi, xs, rs, IA, j, ic, RA, k, rc⟩ : Scr).C.size = 67 := Scr.size HHS.out.fl HHS.out.gl
    have hone := Scr.one ⟨frm, goal, pb, pi, xs, rs, IA, j, ic, RA, k, rc⟩
    have hen := encode_any ⟨frm, goal, pb, pi, xs, rs, IA, j, ic, RA, k, rc⟩ wr hScr (by show k ≤ 65535; have := hM.kl; have := HHS.out.r1; omega) hM.xp hM.xr hM.r16
    obtain ⟨C, hC⟩ : ∃ C, (⟨frm, goal, pb, pi, xs, rs, IA, j, ic, RA, k, rc⟩ : Scr).C = C := ⟨_, rfl⟩
    have hBz := hM.blk
    rw [hC] at c65 c66 hBz hsz hone hen
    have b65 : wr.cell? ⟨w.heap.size, 65, none⟩ = some (.slice IA j ic) := (hBz.cell 65).trans c65
    have b66 : wr.cell? ⟨w.heap.size, 66, none⟩ = some (.slice RA k rc) := (hBz.cell 66).trans c66
    have r1 := (RdG.cell1 hM.rd).1
    have hBl := hBz.lt
    have hrl := hM.rd.lt
    have hgz := hM.gl
    have hwr := hM.below.size
    have HC := Lib.hid hC; have HSz := Lib.hid hsz; have HOne := Lib.hid hone; have HEn := Lib.hid hen; have HC65 := Lib.hid c65; have HC66 := Lib.hid c66; have HScr := Lib.hid hScr
    have hkl := hM.kl; have hjl := hM.jl
    have hi1 := HHS.out.i1; have hr16 := HHS.out.r1
    clear hC hsz hone hen c64 c65 c66 hScr hM
    cases sh with
    | true =>
      go_upto_region 24 with (first
        | (refine wpList_load_scr rfl (.tmp 2) rfl w.heap.size (by kernel_rfl) C HSz.out hBz ?_; simp only [Act.put, List.setIfInBounds_toArray, List.set_cons_zero, List.set_cons_succ])
        | (go_at_call 11; refine HEn.out.mono ?_; rintro e w2 ⟨E, ⟨EA, em, ec, rfl, _, henc, hb2⟩, hEv⟩))
      have hbw2 := HM.out.below.trans (hb2.mono hwr)
      have r2 := (RdG.cell1 (HM.out.rd.grow0 (grown_below (row := none) hb2 (Nat.le_refl _)))).1
      have hrl2 := (HM.out.rd.grow0 (grown_below (row := none) hb2 (Nat.le_refl _))).lt
      have hB2 := hBz.below hb2 hBl
      have hE2 := HE.out.keep hbw2
      have c2 := hE2.c2
      have hse2 : 2 < w2.heap.size := hE2.size
      have Hbw2 := Lib.hid hbw2
      clear henc hEv hb2 hbw2 r1 b65 b66 hE2
      go_wp2
      exact wp_goto (Or.inl ⟨rfl, WrongAt.mk _ C rfl hB2 HSz.out Hbw2.out (.no HM.out.g85 HM.out.gcrc (fun t ht => by have := (HM.out.inv t ht).2.2; simp at this))⟩)
    | false =>
    by_cases hk : k < rl
    · have hki : (k : Int) < rl := by omega
      have HLt := Lib.hid hk
      obtain ⟨v, hv⟩ : ∃ v, (⟨sl, false⟩ : RS).num 2 = v := ⟨_, rfl⟩
      obtain ⟨st1, hst1⟩ : ∃ x, (⟨sl, false⟩ : RS).go 2 = x := ⟨_, rfl⟩
      obtain ⟨dg, hdg⟩ : ∃ x, st1.get 32 = x := ⟨_, rfl⟩
      obtain ⟨st2, hst2⟩ : ∃ x, st1.go 32 = x := ⟨_, rfl⟩
      have hvl : v < 65536 := by rw [← hv]; have := RS.num_lt ⟨sl, false⟩ 2; simpa using this
      have hdl : dg.length = 32 := by rw [← hdg, RS.get_len]
      have href : (⟨sl, false⟩ : RS).ref = (((v : Int), dg), st2) := by unfold RS.ref; rw [hv, hst1, hdg, hst2]
      have HV := Lib.hid hv; have HSt1 := Lib.hid hst1; have HDg := Lib.hid hdg; have HSt2 := Lib.hid hst2; have HRef := Lib.hid href; have HDl := Lib.hid hdl
      clear hv hst1 hdg hst2 href hdl hk
      go_upto_region 19 with (first
        | (go_at_call 22; refine (number_n g w.heap.size ⟨sl, false⟩ 2 _ HM.out.rd (by omega) HV.out HSt1.out).mono ?_; rintro e w1 ⟨rfl, hr1, hg1⟩)
        | (refine wpList_store_new rfl _ _ _ rfl _ _ (refC (v, zero32)).toArray (by kernel_rfl) rfl (by kernel_rfl) (by rfl) (by kernel_rfl) ?_; simp only [Act.put, List.setIfInBounds_toArray, List.set_cons_zero, List.set_cons_succ]))
      obtain ⟨gR, hgR⟩ : ∃ q, w1.heap.size = q := ⟨_, rfl⟩
      obtain ⟨X, hX⟩ : ∃ X, X = w1.alloc (.cells (refC (v, zero32)).toArray 58) := ⟨_, rfl⟩
      have hneGI : blkOf IA ≠ some g := by
        obtain ⟨_, _, hb, _⟩ := HM.out.rd
        exact fun e => hb.ne_rowP HM.out.irow (by decide) e.symm
      have hneGR : blkOf RA ≠ some g := by
        obtain ⟨_, _, hb, _⟩ := HM.out.rd
        exact fun e => hb.ne_rowP HM.out.rrow (by decide) e.symm
      have hi1' := own_grow HM.out.irow hg1 (fun q e e2 => hneGI (by rw [e2, ← e]))
      have hr1' := own_grow HM.out.rrow hg1 (fun q e e2 => hneGR (by rw [e2, ← e]))
      have hB1 := hBz.keep (hg1.block w.heap.size hBl (fun e => by injection e with e; omega))
      have hlow : ∀ q, some gR = some q → blkOf IA ≠ some q ∧ blkOf RA ≠ some q := fun q e => by
        injection e with e
        subst e
        refine ⟨fun h => ?_, fun h => ?_⟩
        · obtain ⟨cur, h2⟩ := own_at hi1' h
          have := (Array.getElem?_eq_some_iff.1 h2).1
          omega
        · obtain ⟨cur, h2⟩ := own_at hr1' h
          have := (Array.getElem?_eq_some_iff.1 h2).1
          omega
      have hgX : w1.grownBy X none := by rw [hX]; exact World.grownBy_alloc _ _ _
      have hBR : Blk X gR 58 (refC (v, zero32)).toArray := by rw [hX, ← hgR]; exact Blk.new _ _ _
      have hBX := hB1.keep (hgX.block w.heap.size hB1.lt (fun e => by cases e))
      have hiX := own_grow hi1' hgX (fun q e => by cases e)
      have hrX := own_grow hr1' hgX (fun q e => by cases e)
      have hrdX := hr1.grow0 hgX
      have hgg : g < gR := by have := hr1.lt; omega
      have hbX : Below w.heap.size w X := (HM.out.below.trans (below_grown (B := w.heap.size) hg1 HM.out.below.size (fun q e => by injection e with e; omega))).trans (below_grown (B := w.heap.size) hgX (by have := hg1.size; omega) (fun q e => by cases e))
      rw [← hX, hgR]
      have HLow := Lib.hid hlow; have HbX := Lib.hid hbX
      clear hX hgX hi1' hr1' hB1 hlow hbX hr1 b65 b66 r1
      have hXs := hBX.lt
      go_upto_region 19 with (fail)
      refine wp_region_tailS (fun _ => True) [(0, true), (1, true), (2, true), (3, false)] 4 (by kernel_rfl) (by kernel_rfl) trivial ?_
      repeat (first
        | (refine ord_skipB rfl (by rfl) ?_; simp only [Act.put, List.setIfInBounds_toArray, List.set_cons_zero, List.set_cons_succ])
        | (refine ord_qS rfl (by rfl) ?_; apply Exists.intro; refine ⟨fun w' hc' => ?_, ?_⟩; (focus (go_simp; (try go_bits); (try simp only [↓IntWalk.iteOmega]); with_reducible rfl)); simp only [Act.put, List.setIfInBounds_toArray, List.set_cons_zero, List.set_cons_succ]))
      refine ord_eB rfl fun K hK => ?_
      go_wp2_with (go_at_call 23; refine (next_n g w.heap.size st1 32 _ (hrdX.grow0 (grown_drew _ none)) (by omega) HDg.out HSt2.out).mono ?_; rintro e w4 ⟨X4, rfl, hs4, hr4, hg4⟩)
      refine hK.out _ _ trivial ?_
      clear hK K
      repeat (first
        | (refine ord_skipB rfl (by rfl) ?_; simp only [Act.put, List.setIfInBounds_toArray, List.set_cons_zero, List.set_cons_succ])
        | (refine ord_qS rfl (by rfl) ?_; apply Exists.intro; refine ⟨fun w' hc' => ?_, ?_⟩; (focus (go_simp; (try go_bits); (try simp only [↓IntWalk.iteOmega]); with_reducible rfl)); simp only [Act.put, List.setIfInBounds_toArray, List.set_cons_zero, List.set_cons_succ]))
      refine ord_tail rfl fun K hK => ?_
      replace hg4 : X.grownBy w4 (some g) := grown_trans (grown_drew X (some g)) hg4
      have hBR4 : Blk w4 gR 58 (refC (v, zero32)).toArray := hBR.keep (hg4.block gR hBR.lt (fun e => by injection e with e; omega))
      go_wp2_with (refine wpList_copy_blk rfl _ _ rfl hBR4 rfl rfl hs4 (by omega) (by rw [refC_size (by simp [zero32])]; omega) (u8_one _) ?_; intro w5 hBR5 hg5 hs5)
      refine hK.out _ _ ?_
      clear hK K
      rw [copy_sum] at hBR5
      have hB5 := (hBX.keep (hg4.block w.heap.size hBX.lt (fun e => by injection e with e; omega))).keep (hg5.block w.heap.size (by have := hg4.size; omega) (fun e => by injection e with e; omega))
      have hi5 := own_grow (own_grow hiX hg4 (fun q e e2 => hneGI (by rw [e2, ← e]))) hg5 (fun q e => (HLow.out q e).1)
      have hr5 := own_grow (own_grow hrX hg4 (fun q e e2 => hneGR (by rw [e2, ← e]))) hg5 (fun q e => (HLow.out q e).2)
      have hrd5 := hr4.other hg5 (by omega) (by omega)
      have hb5 : Below w.heap.size w w5 := (HbX.out.trans (below_grown (B := w.heap.size) hg4 HbX.out.size (fun q e => by injection e with e; omega))).trans (below_grown (B := w.heap.size) hg5 (Nat.le_trans HbX.out.size hg4.size) (fun q e => by injection e with e; omega))
      obtain ⟨CR, hCR⟩ : ∃ C, (refC ((v : Int), dg)).toArray = C := ⟨_, rfl⟩
      rw [hCR] at hBR5
      have HCs := Lib.hid (show CR.size = 33 by rw [← hCR]; exact refC_size HDl.out)
      have HC1 := Lib.hid (show CR.all (·.oneCell') = true by rw [← hCR]; exact refC_one _)
      have HCR := Lib.hid hCR
      have b66 : w5.cell? ⟨w.heap.size, 66, none⟩ = some (.slice RA k rc) := (hB5.cell 66).trans HC66.out
      have hl5 := hB5.lt
      have HB5 := Lib.hid hB5; have HR5 := Lib.hid hr5; have HI5 := Lib.hid hi5
      have hbase : w.heap.size + 1 ≤ w5.heap.size := hl5
      have hneZ : ∀ q, blkOf RA = some q → w.heap.size ≠ q := fun q e => by have := own_blkP hr5 q e; omega
      have HNeZ := Lib.hid hneZ
      have hrow := HM.out.rrow
      clear hBR hBX hiX hrX hrdX hBR4 hs4 hr4 hg4 hg5 hs5 hCR hi5 hr5 hB5 hneZ hrow hXs
      go_upto_region 20 with (fail)
      go_upto_region 17 with (first
        | (refine wpList_load_row rfl 58 (.tmp 11) rfl gR (by kernel_rfl) 58 CR (0, 0) _ hBR5 Tryd.underlying58 rfl (by rw [HCs.out]; kernel_rfl) ?_; simp only [Act.put, List.setIfInBounds_toArray, List.set_cons_zero, List.set_cons_succ])
        | (refine wpList_build_one rfl 28 (.tmp 83) rfl Tryd.refT CR (by kernel_rfl) HCs.out (by decide) ?_; simp only [Act.put, List.setIfInBounds_toArray, List.set_cons_zero, List.set_cons_succ])
        | (at_builtin; refine wpList_append_one rfl (.tmp 82) (.tmp 84) 28 rfl Tryd.refT (by kernel_rfl) HR5.out CR (N := w5.heap.size) (by kernel_rfl) rfl HCs.out (fun u hu => by have := HC1.out; rw [Array.all_eq_true_iff_forall_mem] at this; exact this u (by simpa using hu)) (by unfold maxLen; omega) (by omega) hbase ?_; intro g6 c6 w6 ho6 hg6 hat6; simp only [Act.put, List.setIfInBounds_toArray, List.set_cons_zero, List.set_cons_succ]; have hB6 := HB5.out.keep (hg6.block w.heap.size hl5 (fun e => HNeZ.out _ e.symm rfl)); have z66 : w6.cell? ⟨w.heap.size, 66, none⟩ = some (.slice RA k rc) := (hB6.cell 66).trans HC66.out; have hf66 := hB6.unfr 66; have hl66 := hB6.lt))
      obtain ⟨W7, hW7⟩ : ∃ W', W' = w6.setCell ⟨w.heap.size, 66, none⟩ (.slice (some ⟨g6, 0, none⟩) (k + 1) c6) := ⟨_, rfl⟩
      have hgs := grown_put w6 w.heap.size 66 (.slice (some ⟨g6, 0, none⟩) (k + 1) c6)
      have hB7 : Blk W7 w.heap.size 30 (⟨frm, goal, pb, pi, xs, rs ++ [((v : Int), dg)], IA, j, ic, some ⟨g6, 0, none⟩, k + 1, c6⟩ : Scr).C := by
        rw [hW7]
        have := hB6.set 66 (.slice (some ⟨g6, 0, none⟩) (k + 1) c6)
        rw [← HC.out, set_refs (t := ⟨frm, goal, pb, pi, xs, rs, IA, j, ic, RA, k, rc⟩) HHS.out.fl HHS.out.gl (l := rs ++ [((v : Int), dg)])] at this
        exact this
      have hr7 : W7.ownsRow (w.heap.size + 1) 58 33 (.slice (some ⟨g6, 0, none⟩) (k + 1) c6) (k + 1) ((rs ++ [((v : Int), dg)]).flatMap refC) := by
        rw [hW7, List.flatMap_append, List.flatMap_singleton]
        rw [← HCR.out] at ho6
        exact own_set ho6 _ _ (Nat.lt_succ_self _)
      have hi7 : W7.ownsRow (w.heap.size + 1) 42 5 (.slice IA j ic) j (insL xs) := by
        rw [hW7]
        exact own_set (own_grow HI5.out hg6 (fun q e => own_ne HR5.out HI5.out (by decide) q e)) _ _ (Nat.lt_succ_self _)
      have hneG : blkOf RA ≠ some g := hneGR
      have hrd6 := hrd5.gen hg6 (fun e => hneG e) (fun q e => by have := own_blkP HR5.out q e; omega)
      have hrd7 := hrd6.other hgs (by omega) (Nat.le_refl _)
      have hb7 : Below w.heap.size w W7 := by
        rw [hW7]
        exact (hb5.trans (below_grown (B := w.heap.size) hg6 hb5.size (fun q e => by have := own_blkP HR5.out q e; omega))).trans (below_grown (B := w.heap.size) hgs (by omega) (fun q e => by injection e with e; omega))
      have hmu : moreMu2 il rl w.heap.size { tmps := #[], defers := [] } W7 < moreMu2 il rl w.heap.size { tmps := #[], defers := [] } wr := by
        have hc6 := Scr.cell (s := ⟨frm, goal, pb, pi, xs, rs ++ [((v : Int), dg)], IA, j, ic, some ⟨g6, 0, none⟩, k + 1, c6⟩) HHS.out.fl HHS.out.gl
        have m1 := (hB7.cell 65).trans hc6.2.1
        have m2 : wr.cell? ⟨w.heap.size, 65, none⟩ = some (.slice IA j ic) := (hBz.cell 65).trans HC65.out
        have m3 := (hB7.cell 66).trans hc6.2.2
        have m4 : wr.cell? ⟨w.heap.size, 66, none⟩ = some (.slice RA k rc) := (hBz.cell 66).trans HC66.out
        simp only at m1 m3
        simp only [moreMu2, m1, m2, m3, m4]
        exact Nat.add_lt_add_left (Nat.sub_lt_sub_left HLt.out (Nat.lt_succ_self _)) _
      rw [← hW7] at hrd7 ⊢
      have hM7 : MoreQ l frm goal pb pi il rl w j IA ic xs (k + 1) (some ⟨g6, 0, none⟩) c6 (rs ++ [((v : Int), dg)]) g st2 W7 := by
        have hM := HM.out
        refine ⟨hB7, hi7, hr7, hrd7, hb7, hgz, hM.xl, by rw [List.length_append, hM.rl_]; rfl, hM.jl, HLt.out, ?_, ?_, hM.xp, hM.xr, hM.g85, hM.gcrc, ?_⟩
        · intro r hr
          rcases List.mem_append.1 hr with hr | hr
          · exact hM.r32 r hr
          · rw [List.mem_singleton] at hr; rw [hr]; exact HDl.out
        · intro r hr
          rcases List.mem_append.1 hr with hr | hr
          · exact hM.r16 r hr
          · rw [List.mem_singleton] at hr; rw [hr]; exact ⟨Int.natCast_nonneg _, by show (v : Int) ≤ 65535; omega⟩
        · intro s0 h0
          obtain ⟨e1, e2, e3⟩ := hM.inv s0 h0
          obtain ⟨_, _, _, _, f5, f6⟩ := HHS.out.inv s0 h0
          have hkl2 : k < s0.refs.length := by rw [h0.wf.rl, ← f6]; exact HLt.out
          obtain ⟨r, hr⟩ : ∃ r, s0.refs[k]? = some r := ⟨_, List.getElem?_eq_getElem hkl2⟩
          rw [drop_at' hr, List.flatMap_cons, List.append_assoc] at e3
          have hb := h0.ok.refs r (List.mem_of_getElem? hr)
          have hra := ref_app (b := (s0.refs.drop (k + 1)).flatMap refL ++ ((s0.ins.drop j).flatMap recL ++ tlL s0)) hb.1 (by omega) (h0.wf.r32 r (List.mem_of_getElem? hr))
          rw [← e3, HRef.out] at hra
          injection hra with g1 g2
          exact ⟨by rw [take_snoc' hr, e1, g1], e2, g2⟩
      exact wp_goto (Or.inr ⟨rfl, MoreG.mk j IA ic xs (k + 1) (some ⟨g6, 0, none⟩) c6 (rs ++ [((v : Int), dg)]) g st2 rfl hM7, hmu⟩)
    have hki : ¬ (k : Int) < rl := by omega
    by_cases hj : j < il
    · have hji : (j : Int) < il := by omega
      have HLt := Lib.hid hj
      obtain rfl : k = rl := by omega
      go_upto_region 22 with (fail)
      obtain ⟨x, hx⟩ : ∃ x, (⟨sl, false⟩ : RS).record.1 = x := ⟨_, rfl⟩
      obtain ⟨st2, hst2⟩ : ∃ x, (⟨sl, false⟩ : RS).record.2 = x := ⟨_, rfl⟩
      have hins := ins_any g w.heap.size ⟨sl, false⟩ wr.drew (HM.out.rd.grow0 (grown_drew _ none))
      rw [hx, hst2] at hins
      have hsm := record_small ⟨sl, false⟩
      rw [hx] at hsm
      obtain ⟨CX, hCX⟩ : ∃ C, x.cells = C := ⟨_, rfl⟩
      rw [hCX] at hins
      have HX5 := Lib.hid (show CX.size = 5 by rw [← hCX]; rfl)
      have HX1 := Lib.hid (show ∀ u ∈ CX.toList, u.oneCell' = true by rw [← hCX]; exact Ins.cells_one x)
      have HIns := Lib.hid hins; have HSm := Lib.hid hsm; have HCX := Lib.hid hCX; have Hx := Lib.hid hx; have Hst2 := Lib.hid hst2
      have hneR : ¬ some g = blkOf IA := by
        obtain ⟨_, _, hb, _⟩ := HM.out.rd
        exact hb.ne_rowP HM.out.irow (by decide)
      have hneZ : ¬ some w.heap.size = blkOf IA := hBz.ne_rowP HM.out.irow (by decide)
      have HRow := Lib.hid HM.out.irow
      have hneI := Lib.hid (own_ne HM.out.irow HM.out.rrow (by decide))
      have hneG : blkOf RA ≠ some g := by
        obtain ⟨_, _, hb, _⟩ := HM.out.rd
        exact fun e => hb.ne_rowP HM.out.rrow (by decide) e.symm
      clear hins hsm hCX hx hst2 b65 b66 r1 hj hk
      refine wp_region_tailS (fun w' => Blk w' w.heap.size 30 C) [(0, true), (1, true), (2, true), (3, false), (4, false), (5, false), (6, true)] 7 (by kernel_rfl) (by kernel_rfl) hBz ?_
      repeat (first
        | (refine ord_skipB rfl (by rfl) ?_; simp only [Act.put, List.setIfInBounds_toArray, List.set_cons_zero, List.set_cons_succ])
        | (refine ord_qS rfl (by rfl) ?_; apply Exists.intro; refine ⟨fun w' hc' => ?_, ?_⟩; (focus (have b65' : w'.cell? ⟨w.heap.size, 65, none⟩ = some (.slice IA j ic) := (Blk.cell hc' 65).trans HC65.out; have bl' := Blk.lt hc'; go_simp; (try go_bits); (try simp only [↓IntWalk.iteOmega]); with_reducible rfl)); simp only [Act.put, List.setIfInBounds_toArray, List.set_cons_zero, List.set_cons_succ]))
      refine ord_eB rfl fun K hK => ?_
      go_wp2_with (go_at_call 24; refine HIns.out.mono ?_; rintro e w1 ⟨rfl, hr1, hg1⟩)
      replace hg1 : wr.grownBy w1 (some g) := grown_trans (grown_drew wr (some g)) hg1
      have hB1 := hBz.keep (hg1.block w.heap.size hBl (fun e => by injection e with e; omega))
      have ho1 := own_grow HRow.out hg1 (fun q e e2 => hneR (by rw [e2, ← e]))
      have hrr1 := own_grow HM.out.rrow hg1 (fun q e e2 => hneG (by rw [e2, ← e]))
      refine hK.out _ _ hB1 ?_
      clear hK K
      repeat (first
        | (refine ord_skipB rfl (by rfl) ?_; simp only [Act.put, List.setIfInBounds_toArray, List.set_cons_zero, List.set_cons_succ])
        | (refine ord_qS rfl (by rfl) ?_; apply Exists.intro; refine ⟨fun w' hc' => ?_, ?_⟩; (focus (have b65' : w'.cell? ⟨w.heap.size, 65, none⟩ = some (.slice IA j ic) := (Blk.cell hc' 65).trans HC65.out; have bl' := Blk.lt hc'; go_simp; (try go_bits); (try simp only [↓IntWalk.iteOmega]); with_reducible rfl)); simp only [Act.put, List.setIfInBounds_toArray, List.set_cons_zero, List.set_cons_succ]))
      refine ord_eB rfl fun K hK => ?_
      go_wp2_with (refine wpList_build_one rfl 27 (.tmp 102) rfl Tryd.insT CX (by kernel_rfl) HX5.out (by decide) ?_; simp only [Act.put, List.setIfInBounds_toArray, List.set_cons_zero, List.set_cons_succ])
      refine hK.out _ _ (hB1.alloc _) ?_
      clear hK K
      repeat (first
        | (refine ord_skipB rfl (by rfl) ?_; simp only [Act.put, List.setIfInBounds_toArray, List.set_cons_zero, List.set_cons_succ])
        | (refine ord_qS rfl (by rfl) ?_; apply Exists.intro; refine ⟨fun w' hc' => ?_, ?_⟩; (focus (have b65' : w'.cell? ⟨w.heap.size, 65, none⟩ = some (.slice IA j ic) := (Blk.cell hc' 65).trans HC65.out; have bl' := Blk.lt hc'; go_simp; (try go_bits); (try simp only [↓IntWalk.iteOmega]); with_reducible rfl)); simp only [Act.put, List.setIfInBounds_toArray, List.set_cons_zero, List.set_cons_succ]))
      refine ord_eB rfl fun K hK => ?_
      have hw1 : w.heap.size + 1 ≤ w1.heap.size := by have := hg1.size; omega
      go_wp2_with (at_builtin; refine wpList_append_one rfl (.tmp 100) (.tmp 103) 27 rfl Tryd.insT (by kernel_rfl) ho1 CX (N := w1.heap.size) (by kernel_rfl) rfl HX5.out HX1.out (by unfold maxLen; omega) (by omega) hw1 ?_; intro g5 c5 w5 ho5 hg5 hat5; simp only [Act.put, List.setIfInBounds_toArray, List.set_cons_zero, List.set_cons_succ])
      have hB5 := hB1.keep (hg5.block w.heap.size hB1.lt (fun e => hneZ e))
      refine hK.out _ _ hB5 ?_
      clear hK K
      repeat (first
        | (refine ord_skipB rfl (by rfl) ?_; simp only [Act.put, List.setIfInBounds_toArray, List.set_cons_zero, List.set_cons_succ])
        | (refine ord_qS rfl (by rfl) ?_; apply Exists.intro; refine ⟨fun w' hc' => ?_, ?_⟩; (focus (have b65' : w'.cell? ⟨w.heap.size, 65, none⟩ = some (.slice IA j ic) := (Blk.cell hc' 65).trans HC65.out; have bl' := Blk.lt hc'; go_simp; (try go_bits); (try simp only [↓IntWalk.iteOmega]); with_reducible rfl)); simp only [Act.put, List.setIfInBounds_toArray, List.set_cons_zero, List.set_cons_succ]))
      refine ord_tail rfl fun K hK => ?_
      have b65 : w5.cell? ⟨w.heap.size, 65, none⟩ = some (.slice IA j ic) := (hB5.cell 65).trans HC65.out
      have hf65 := hB5.unfr 65
      have hB5l := hB5.lt
      go_wp2_with (fail)
      refine hK.out _ _ ?_
      clear hK K
      obtain ⟨W6, hW6⟩ : ∃ W, W = w5.setCell ⟨w.heap.size, 65, none⟩ (.slice (some ⟨g5, 0, none⟩) (j + 1) c5) := ⟨_, rfl⟩
      have hgs := grown_put w5 w.heap.size 65 (.slice (some ⟨g5, 0, none⟩) (j + 1) c5)
      have hB6 : Blk W6 w.heap.size 30 (⟨frm, goal, pb, pi, xs ++ [x], rs, some ⟨g5, 0, none⟩, j + 1, c5, RA, k, rc⟩ : Scr).C := by
        rw [hW6]
        have := hB5.set 65 (.slice (some ⟨g5, 0, none⟩) (j + 1) c5)
        rw [← HC.out, set_insR (t := ⟨frm, goal, pb, pi, xs, rs, IA, j, ic, RA, k, rc⟩) HHS.out.fl HHS.out.gl (l := xs ++ [x])] at this
        exact this
      have ho6 : W6.ownsRow (w.heap.size + 1) 42 5 (.slice (some ⟨g5, 0, none⟩) (j + 1) c5) (j + 1) (insL (xs ++ [x])) := by
        rw [hW6, insL_snoc, HCX.out]
        exact own_set ho5 _ _ (Nat.lt_succ_self _)
      have hrr6 : W6.ownsRow (w.heap.size + 1) 58 33 (.slice RA k rc) k (rs.flatMap refC) := by
        rw [hW6]
        exact own_set (own_grow hrr1 hg5 (fun q e => hneI.out q e)) _ _ (Nat.lt_succ_self _)
      have hr5 := hr1.gen hg5 (fun e => hneR e.symm) (fun q e => by have := own_blkP ho1 q e; omega)
      have hr6 := hr5.other hgs (by omega) (Nat.le_refl _)
      have hbr := HM.out.below
      have hb6 : Below w.heap.size w W6 := by
        rw [hW6]
        exact ((hbr.trans (below_grown (B := w.heap.size) hg1 hbr.size (fun q e => by injection e with e; omega))).trans (below_grown (B := w.heap.size) hg5 (by omega) (fun q e => by have := own_blkP ho1 q e; omega))).trans (below_grown (B := w.heap.size) hgs (by have := hB5.lt; omega) (fun q e => by injection e with e; omega))
      have hmu : moreMu2 il k w.heap.size { tmps := #[], defers := [] } W6 < moreMu2 il k w.heap.size { tmps := #[], defers := [] } wr := by
        have hc6 := Scr.cell (s := ⟨frm, goal, pb, pi, xs ++ [x], rs, some ⟨g5, 0, none⟩, j + 1, c5, RA, k, rc⟩) HHS.out.fl HHS.out.gl
        have m1 := (hB6.cell 65).trans hc6.2.1
        have m2 : wr.cell? ⟨w.heap.size, 65, none⟩ = some (.slice IA j ic) := (hBz.cell 65).trans HC65.out
        have m3 := (hB6.cell 66).trans hc6.2.2
        have m4 : wr.cell? ⟨w.heap.size, 66, none⟩ = some (.slice RA k rc) := (hBz.cell 66).trans HC66.out
        simp only at m1 m3
        simp only [moreMu2, m1, m2, m3, m4]
        exact Nat.add_lt_add_right (Nat.sub_lt_sub_left HLt.out (Nat.lt_succ_self _)) _
      rw [← hW6] at hr6 ⊢
      have hM6 : MoreQ l frm goal pb pi il k w (j + 1) (some ⟨g5, 0, none⟩) c5 (xs ++ [x]) k RA rc rs g st2 W6 := by
        have hM := HM.out
        refine ⟨hB6, ho6, hrr6, hr6, hb6, hgz, by rw [List.length_append, hM.xl]; rfl, hM.rl_, HLt.out, Nat.le_refl _, hM.r32, hM.r16, ?_, ?_, hM.g85, hM.gcrc, ?_⟩
        · intro y hy
          rcases List.mem_append.1 hy with hy | hy
          · exact hM.xp y hy
          · rw [List.mem_singleton] at hy; rw [hy]; exact HSm.out.1
        · intro y hy
          rcases List.mem_append.1 hy with hy | hy
          · exact hM.xr y hy
          · rw [List.mem_singleton] at hy; rw [hy]; exact HSm.out.2
        · intro s0 h0
          obtain ⟨e1, e2, e3⟩ := hM.inv s0 h0
          obtain ⟨_, _, _, _, f5, f6⟩ := HHS.out.inv s0 h0
          have hjl2 : j < s0.ins.length := by rw [h0.wf.il, ← f5]; exact HLt.out
          obtain ⟨y, hy⟩ : ∃ y, s0.ins[j]? = some y := ⟨_, List.getElem?_eq_getElem hjl2⟩
          rw [f6, ← h0.wf.rl, List.drop_length, List.flatMap_nil, List.nil_append, drop_at' hy, List.flatMap_cons, List.append_assoc] at e3
          have hra := record_app (b := (s0.ins.drop (j + 1)).flatMap recL ++ tlL s0) (h0.ok.fit y (List.mem_of_getElem? hy))
          rw [← e3] at hra
          have g1 : x = y := by rw [← Hx.out, hra]
          have g2 : st2 = ⟨(s0.ins.drop (j + 1)).flatMap recL ++ tlL s0, false⟩ := by rw [← Hst2.out, hra]
          refine ⟨e1, by rw [take_snoc' hy, e2, g1], ?_⟩
          rw [g2, f6, ← h0.wf.rl, List.drop_length, List.flatMap_nil, List.nil_append]
      go_wp2
      exact wp_goto (Or.inr ⟨rfl, MoreG.mk (j + 1) (some ⟨g5, 0, none⟩) c5 (xs ++ [x]) k RA rc rs g st2 rfl hM6, hmu⟩)
    have hji : ¬ (j : Int) < il := by omega
    have hFin := HM.out.fin HHS.out (by omega) (by omega)
    have HFin := Lib.hid hFin
    clear hFin hk hj
    go_upto_region 24 with (first
      | (refine wpList_load_scr rfl (.tmp 2) rfl w.heap.size (by kernel_rfl) C HSz.out hBz ?_; simp only [Act.put, List.setIfInBounds_toArray, List.set_cons_zero, List.set_cons_succ])
      | (go_at_call 11; refine HEn.out.mono ?_; rintro e w2 ⟨E, ⟨EA, em, ec, rfl, _, henc, hb2⟩, hEv⟩))
    have hbw2 := HM.out.below.trans (hb2.mono hwr)
    have r2 := (RdG.cell1 (HM.out.rd.grow0 (grown_below (row := none) hb2 (Nat.le_refl _)))).1
    have hrl2 := (HM.out.rd.grow0 (grown_below (row := none) hb2 (Nat.le_refl _))).lt
    have hB2 := hBz.below hb2 hBl
    have hE2 := HE.out.keep hbw2
    have c2 := hE2.c2
    have hse2 : 2 < w2.heap.size := hE2.size
    have hown2 : OwnS (w.heap.size + 1) w2 ⟨frm, goal, pb, pi, xs, rs, IA, j, ic, RA, k, rc⟩ := OwnS.keep ⟨HM.out.irow, HM.out.rrow⟩ hb2
    have hsc2 := HScr.out.keep hb2
    have Hbw2 := Lib.hid hbw2; have HOwn2 := Lib.hid hown2; have HSc2 := Lib.hid hsc2; have HEnc := Lib.hid henc; have HEv := Lib.hid hEv; have HB2 := Lib.hid hB2
    have hBl2 := hB2.lt
    clear henc hEv hb2 hbw2 r1 b65 b66 hE2 hown2 hsc2
    by_cases hE0 : E = 0
    rotate_left
    · have e0 : (E != 0) = true := bne_iff_ne.2 hE0
      have HE0 := Lib.hid hE0
      clear hE0
      go_wp2
      exact wp_goto (Or.inl ⟨rfl, WrongAt.mk _ C rfl hB2 HSz.out Hbw2.out (.no HM.out.g85 HM.out.gcrc (fun t ht => HE0.out (HEv.out.2 ((HFin.out t ht).ok (HM.out.wf HHS.out) ht.wf ht.ok))))⟩)
    subst hE0
    obtain ⟨hem, hrow⟩ := HEnc.out rfl
    have hval := HEv.out.1 rfl
    have HVal := Lib.hid hval
    have hcv1 := conv_any (Sl.of_own hrow) hem.symm ec
    have hcv2 := conv_any ((HS.out.below Hbw2.out (Nat.le_refl _)).more Hbw2.out.size) HN.out c
    obtain ⟨S1, hS1⟩ : ∃ S : ByteArray, ⟨(encL ⟨frm, goal, pb, pi, xs, rs, IA, j, ic, RA, k, rc⟩).toArray⟩ = S := ⟨_, rfl⟩
    obtain ⟨S2, hS2⟩ : ∃ S : ByteArray, ⟨l.toArray⟩ = S := ⟨_, rfl⟩
    have hseq : (S1.toList == S2.toList) = decide (encL ⟨frm, goal, pb, pi, xs, rs, IA, j, ic, RA, k, rc⟩ = l) := by
      rw [← hS1, ← hS2, ByteArray.toList_eq, ByteArray.toList_eq]
      show (encL _ == l) = _
      by_cases h : encL ⟨frm, goal, pb, pi, xs, rs, IA, j, ic, RA, k, rc⟩ = l
      · simp [h]
      · simp [h]
    rw [hS1] at hcv1
    rw [hS2] at hcv2
    have HSq := Lib.hid hseq
    clear hem hrow hval hS1 hS2 hseq
    by_cases heq : encL ⟨frm, goal, pb, pi, xs, rs, IA, j, ic, RA, k, rc⟩ = l
    · have hs12 : (S1.toList == S2.toList) = true := by rw [HSq.out]; exact decide_eq_true heq
      have HEq := Lib.hid heq
      have hs13 : (S1.toList != S2.toList) = false := by rw [bne, hs12]; rfl
      clear heq
      go_wp2_with (first
        | (refine wpList_load_scr rfl (.tmp 2) rfl w.heap.size (by kernel_rfl) C HSz.out HB2.out ?_; simp only [Act.put, List.setIfInBounds_toArray, List.set_cons_zero, List.set_cons_succ])
        | (refine wpList_store_blk rfl 30 (.tmp 2) (.tmp 127) rfl HB2.out C (by kernel_rfl) (by kernel_rfl) (by rw [HSz.out]; kernel_rfl) rfl HOne.out ?_; intro w3 hB3 hg3 hs3; simp only [Act.put, List.setIfInBounds_toArray, List.set_cons_zero, List.set_cons_succ]))
      have hown3 := HOwn2.out.put hg3 (Nat.lt_succ_self _)
      change bodyPost Tryd.prog Tryd.f12 (ScrRes l a0 a1 a2 w) Exit.ret _ _
      exact ret_cell_t rfl rfl (load_blk hB3 Tryd.underlying30 rfl (by rw [HSz.out]; kernel_rfl)) rfl ⟨⟨frm, goal, pb, pi, xs, rs, IA, j, ic, RA, k, rc⟩, .nilIface, by rw [HC.out]; rfl, hown3.scr HSc2.out, ⟨own_lower hown3.irow (Nat.le_succ _), own_lower hown3.rrow (Nat.le_succ _)⟩, Hbw2.out.trans (below_grown (B := w.heap.size) hg3 Hbw2.out.size (fun q e => by injection e with e; omega)), .inl ⟨rfl, ⟨HM.out.wf HHS.out, HVal.out, HEq.out⟩, ⟨Int.natCast_nonneg _, by show (pb : Int) < _; have := HHS.out.p1; omega, Int.natCast_nonneg _, by show (pi : Int) < _; have := HHS.out.p2; omega, by show j ≤ 65535; omega, by show k ≤ 65535; omega, HVal.out.fit, HM.out.r16⟩⟩⟩
    · have hs12 : (S1.toList == S2.toList) = false := by rw [HSq.out]; exact decide_eq_false heq
      have hs13 : (S1.toList != S2.toList) = true := by rw [bne, hs12]; rfl
      have HEq := Lib.hid heq
      clear heq
      go_wp2
      exact wp_goto (Or.inl ⟨rfl, WrongAt.mk _ C rfl hB2 HSz.out Hbw2.out (.no HM.out.g85 HM.out.gcrc (fun t ht => HEq.out (((HFin.out t ht).enc (HM.out.wf HHS.out) ht.wf).trans ht.enc)))⟩)
  · have Pass := Lib.hid pass
    clear pass
    have hE0 := HE.out.keep hb0
    have c0 := hE0.c0
    have hse := hE0.size
    have hse0 : 0 < W0.heap.size := by omega
    by_cases h85 : n < 85
    · have hni : (n : Int) < 85 := by omega
      go_wp2
      exact wp_goto (Or.inl ⟨rfl, WrongAt.mk _ _ rfl hZ0 zsize hb0 (.short (by rw [HN.out]; exact h85))⟩)
    have hni : ¬ (n : Int) < 85 := by omega
    clear c0 hse0
    obtain ⟨k, rfl⟩ : ∃ k, n = k + 4 := ⟨n - 4, by omega⟩
    have hni : ¬ (k : Int) + 4 < 85 := by omega
    have hkc : k < c := by omega
    have hkc2 : (k : Int) < c := by omega
    have hkc3 : (k : Int) ≤ c := by omega
    obtain ⟨l4, hl4⟩ : ∃ x, l.drop k = x := ⟨_, rfl⟩
    have hl4n : l4.length = 4 := by rw [← hl4, List.length_drop, HN.out]; omega
    obtain ⟨x, hx⟩ : ∃ x, (crcF (l.take k)).toNat = x := ⟨_, rfl⟩
    obtain ⟨y, hy⟩ : ∃ y, (⟨l4, false⟩ : RS).num 4 = y := ⟨_, rfl⟩
    have hgood : crcGood l ↔ y = x := by
      unfold crcGood
      rw [HN.out, Nat.add_sub_cancel, hl4, ← hy, hx]
      unfold RS.num RS.get
      rw [if_pos (by rw [hl4n]; exact Nat.le_refl _)]
    have hS1 := HS.out.first (k := k) (by omega)
    rw [Nat.mul_one, u8_take] at hS1
    have hS2 := HS.out.rest1 (k := k) (c := c) (by omega) (by omega)
    rw [Nat.add_sub_cancel_left, u8_drop, hl4] at hS2
    unfold restA at hS2
    rw [if_neg (show ¬ c = k by omega)] at hS2
    have HTk := Lib.hid (show (l.take k).length = k by rw [List.length_take, HN.out]; omega)
    have HX := Lib.hid hx; have HV := Lib.hid hy; have HGood := Lib.hid hgood; have HS1 := Lib.hid hS1; have HS2 := Lib.hid hS2; have Hl4 := Lib.hid hl4n
    obtain ⟨bz, hbz⟩ : ∃ b, ((x : Int) != (y : Int)) = b := ⟨_, rfl⟩
    have HBz := Lib.hid hbz
    have hzz := hbz
    clear hx hy hgood hS1 hS2 hl4n hl4 hbz
    go_upto_region 8 with (fail)
    go_cut [30] from 16 to 31 (fun v wx => v = .bool bz ∧ Below W0.heap.size W0 wx)
    case first =>
      refine wp_region_T none (.q 0 (.q 1 (.q 2 (.q 3 (.q 4 (.q 6 (.q 7 (.q 8 (.q 9 (.q 10 (.q 11 (.e2 5 12 (.e1 12 (.e1 13 (.q 14 .done))) (.e1 5 (.e1 13 (.q 14 .done))))))))))))))) (by kernel_rfl) (by kernel_rfl) fun hG0 => ?_
      repeat (first
        | (refine tree_skip rfl (by rfl) ?_; simp only [Act.put, List.setIfInBounds_toArray, List.set_cons_zero, List.set_cons_succ])
        | (refine tree_qE rfl (by rfl) ?_; apply Exists.intro; refine ⟨fun w' hc' => ?_, ?_⟩; (focus (go_simp; (try go_bits); (try simp only [↓IntWalk.iteOmega]); with_reducible rfl)); simp only [Act.put, List.setIfInBounds_toArray, List.set_cons_zero, List.set_cons_succ]))
      refine tree_e2 (tree_step rfl fun K hK => ?_) (tree_step rfl fun K hK => ?_)
      · go_wp2_with (go_at_call 21; refine (crc_any (l.take k) A k c _ (((HS1.out.below hb0 (Nat.le_refl _)).grownN hG0 hs0).more (Nat.le_trans hs0 hG0.size)) HTk.out (by unfold maxLen; omega)).mono ?_; rintro e w5 ⟨rfl, hb5⟩; rw [HX.out])
        have hG1 := grown_trans hG0 (grown_below (row := none) hb5 (Nat.le_refl _))
        refine hK.out _ _ hG1 ?_
        clear hK K
        repeat (first
          | (refine tree_skip rfl (by rfl) ?_; simp only [Act.put, List.setIfInBounds_toArray, List.set_cons_zero, List.set_cons_succ])
          | (refine tree_qE rfl (by rfl) ?_; apply Exists.intro; refine ⟨fun w' hc' => ?_, ?_⟩; (focus (go_simp; (try go_bits); (try simp only [↓IntWalk.iteOmega]); with_reducible rfl)); simp only [Act.put, List.setIfInBounds_toArray, List.set_cons_zero, List.set_cons_succ]))
        refine tree_e1 (tree_step rfl fun K hK => ?_)
        go_wp2_with (fail)
        have hG2 := grown_trans hG1 (World.grownBy_alloc w5 (.cells #[.slice (A.map fun x => x.add k) 4 (c - k), .bool false] 64) none)
        have hRd : RdG (w5.alloc (.cells #[.slice (A.map fun x => x.add k) 4 (c - k), .bool false] 64)) w5.heap.size w.heap.size ⟨l4, false⟩ := RdG.of (Blk.new w5 _ _) ((HS2.out.below hb0 (Nat.le_refl _)).grownN hG2 hs0) Hl4.out (by omega) (by unfold maxLen; omega) (by have := hG1.size; omega)
        refine hK.out _ _ hG2 ?_
        clear hK K
        repeat (first
          | (refine tree_skip rfl (by rfl) ?_; simp only [Act.put, List.setIfInBounds_toArray, List.set_cons_zero, List.set_cons_succ])
          | (refine tree_qE rfl (by rfl) ?_; apply Exists.intro; refine ⟨fun w' hc' => ?_, ?_⟩; (focus (go_simp; (try go_bits); (try simp only [↓IntWalk.iteOmega]); with_reducible rfl)); simp only [Act.put, List.setIfInBounds_toArray, List.set_cons_zero, List.set_cons_succ]))
        refine tree_e1 (tree_step rfl fun K hK => ?_)
        go_wp2_with (go_at_call 22; refine (number_n w5.heap.size w.heap.size ⟨l4, false⟩ 4 _ hRd (by omega) HV.out rfl).mono ?_; rintro e w6 ⟨rfl, _, hg6⟩)
        have hG3 := grew_own hG2 hg6 (fun q e => by injection e with e; have := hG1.size; exact .inr (by omega))
        refine hK.out _ _ hG3 ?_
        clear hK K
        repeat (first
          | (refine tree_skip rfl (by rfl) ?_; simp only [Act.put, List.setIfInBounds_toArray, List.set_cons_zero, List.set_cons_succ])
          | (refine tree_qE rfl (by rfl) ?_; apply Exists.intro; refine ⟨fun w' hc' => ?_, ?_⟩; (focus (go_simp; (try go_bits); (try simp only [↓IntWalk.iteOmega]); with_reducible rfl)); simp only [Act.put, List.setIfInBounds_toArray, List.set_cons_zero, List.set_cons_succ]))
        refine tree_end ?_
        go_wp2_with (fail)
        go_meet
        exact ⟨rfl, below_grown hG3 (Nat.le_refl _) (fun g e => by cases e)⟩
      · go_wp2_with (fail)
        have hG1 := grown_trans hG0 (World.grownBy_alloc W0.drew (.cells #[.slice (A.map fun x => x.add k) 4 (c - k), .bool false] 64) none)
        have hRd : RdG (W0.drew.alloc (.cells #[.slice (A.map fun x => x.add k) 4 (c - k), .bool false] 64)) W0.heap.size w.heap.size ⟨l4, false⟩ := RdG.of (Blk.new W0.drew _ _) ((HS2.out.below hb0 (Nat.le_refl _)).grownN hG1 hs0) Hl4.out (by omega) (by unfold maxLen; omega) (hs0)
        refine hK.out _ _ hG1 ?_
        clear hK K
        repeat (first
          | (refine tree_skip rfl (by rfl) ?_; simp only [Act.put, List.setIfInBounds_toArray, List.set_cons_zero, List.set_cons_succ])
          | (refine tree_qE rfl (by rfl) ?_; apply Exists.intro; refine ⟨fun w' hc' => ?_, ?_⟩; (focus (go_simp; (try go_bits); (try simp only [↓IntWalk.iteOmega]); with_reducible rfl)); simp only [Act.put, List.setIfInBounds_toArray, List.set_cons_zero, List.set_cons_succ]))
        refine tree_e1 (tree_step rfl fun K hK => ?_)
        go_wp2_with (go_at_call 21; refine (crc_any (l.take k) A k c _ (((HS1.out.below hb0 (Nat.le_refl _)).grownN hG1 hs0).more (Nat.le_trans hs0 hG1.size)) HTk.out (by unfold maxLen; omega)).mono ?_; rintro e w5 ⟨rfl, hb5⟩; rw [HX.out])
        have hG2 := grown_trans hG1 (grown_below (row := none) hb5 (Nat.le_refl _))
        have hRd5 := hRd.grow0 (grown_below (row := none) hb5 (Nat.le_refl _))
        refine hK.out _ _ hG2 ?_
        clear hK K
        repeat (first
          | (refine tree_skip rfl (by rfl) ?_; simp only [Act.put, List.setIfInBounds_toArray, List.set_cons_zero, List.set_cons_succ])
          | (refine tree_qE rfl (by rfl) ?_; apply Exists.intro; refine ⟨fun w' hc' => ?_, ?_⟩; (focus (go_simp; (try go_bits); (try simp only [↓IntWalk.iteOmega]); with_reducible rfl)); simp only [Act.put, List.setIfInBounds_toArray, List.set_cons_zero, List.set_cons_succ]))
        refine tree_e1 (tree_step rfl fun K hK => ?_)
        go_wp2_with (go_at_call 22; refine (number_n W0.heap.size w.heap.size ⟨l4, false⟩ 4 _ hRd5 (by omega) HV.out rfl).mono ?_; rintro e w6 ⟨rfl, _, hg6⟩)
        have hG3 := grew_own hG2 hg6 (fun q e => by injection e with e; exact .inr (by omega))
        refine hK.out _ _ hG3 ?_
        clear hK K
        repeat (first
          | (refine tree_skip rfl (by rfl) ?_; simp only [Act.put, List.setIfInBounds_toArray, List.set_cons_zero, List.set_cons_succ])
          | (refine tree_qE rfl (by rfl) ?_; apply Exists.intro; refine ⟨fun w' hc' => ?_, ?_⟩; (focus (go_simp; (try go_bits); (try simp only [↓IntWalk.iteOmega]); with_reducible rfl)); simp only [Act.put, List.setIfInBounds_toArray, List.set_cons_zero, List.set_cons_succ]))
        refine tree_end ?_
        go_wp2_with (fail)
        go_meet
        exact ⟨rfl, below_grown hG3 (Nat.le_refl _) (fun g e => by cases e)⟩
    case rest =>
    obtain ⟨rfl, hbc⟩ := hcut
    obtain ⟨W1, hW1⟩ : ∃ W, W = wc := ⟨_, rfl⟩
    rw [← hW1] at hbc ⊢
    have hZ1 := hZ0.below hbc hZl
    have hb1 := hb0.trans (hbc.mono hs0)
    have hs1 := hb1.size
    have hZl1 := hZ1.lt
    have hE1 := HE.out.keep hb1
    have hgd : bz = false ↔ crcGood l := by
      rw [← HBz.out, HGood.out]
      constructor
      · intro h; have : (x : Int) = y := by simpa using h
        omega
      · intro h; subst h; simp
    have HGd := Lib.hid hgd
    clear hW1 hbc hzz hZ0 hZl HS1 HS2 HV hgd
    cases bz with
    | true =>
      have c1 := hE1.c1
      have hse1 : 1 < W1.heap.size := by have := hE1.size; omega
      go_wp2
      exact wp_goto (Or.inl ⟨rfl, WrongAt.mk _ _ rfl hZ1 zsize hb1 (.sum (by rw [HN.out]; omega) (fun h => by have := HGd.out.2 h; simp at this))⟩)
    | false =>
    have HCrc := Lib.hid (HGd.out.1 rfl)
    clear hse
    obtain ⟨s1, h1⟩ : ∃ s, (⟨l, false⟩ : RS).go 5 = s := ⟨_, rfl⟩
    have hfrm : s1.get 32 = frm := by rw [← h1]; exact HH.out.frm
    obtain ⟨s2, h2⟩ : ∃ s, s1.go 32 = s := ⟨_, rfl⟩
    have hgoal : s2.get 32 = goal := by rw [← h2, ← h1]; exact HH.out.goal
    obtain ⟨s3, h3⟩ : ∃ s, s2.go 32 = s := ⟨_, rfl⟩
    have hpb : s3.num 4 = pb := by rw [← h3, ← h2, ← h1]; exact HH.out.pb
    obtain ⟨s4, h4⟩ : ∃ s, s3.go 4 = s := ⟨_, rfl⟩
    have hpi : s4.num 4 = pi := by rw [← h4, ← h3, ← h2, ← h1]; exact HH.out.pi
    obtain ⟨s5, h5⟩ : ∃ s, s4.go 4 = s := ⟨_, rfl⟩
    have hil : s5.num 2 = il := by rw [← h5, ← h4, ← h3, ← h2, ← h1]; exact HH.out.n
    obtain ⟨s6, h6⟩ : ∃ s, s5.go 2 = s := ⟨_, rfl⟩
    have hrl : s6.num 2 = rl := by rw [← h6, ← h5, ← h4, ← h3, ← h2, ← h1]; exact HH.out.m
    have h7 : s6.go 2 = s7 := by rw [← h6, ← h5, ← h4, ← h3, ← h2, ← h1]; exact HH.out.s7
    have R1 := Lib.hid h1; have R2 := Lib.hid h2; have R3 := Lib.hid h3; have R4 := Lib.hid h4; have R5 := Lib.hid h5; have R6 := Lib.hid h6; have R7 := Lib.hid h7
    have GF := Lib.hid hfrm; have GG := Lib.hid hgoal; have GB := Lib.hid hpb; have GI := Lib.hid hpi; have GN := Lib.hid hil; have GM := Lib.hid hrl
    have hf32 := HHS.out.fl; have hg32 := HHS.out.gl
    have Hf32 := Lib.hid hf32; have Hg32 := Lib.hid hg32
    clear h1 h2 h3 h4 h5 h6 h7 hfrm hgoal hpb hpi hil hrl hf32 hg32 hE1
    go_upto_region 11 with (fail)
    obtain ⟨W2, hW2⟩ : ∃ W, W = W1.alloc (.cells #[.slice A (k + 4) c, .bool false] 64) := ⟨_, rfl⟩
    obtain ⟨g, hg⟩ : ∃ g, W1.heap.size = g := ⟨_, rfl⟩
    have hr2 : RdG W2 g w.heap.size ⟨l, false⟩ := by
      rw [hW2, ← hg]
      exact RdG.of (Blk.new W1 _ _) ((HS.out.below hb1 (Nat.le_refl _)).below ((Below.refl _ _).alloc hs1 _) (Nat.le_refl _)) HN.out (by omega) (by unfold maxLen; omega) hs1
    have hZ2 : Blk W2 w.heap.size 30 zeroScr.C := by rw [hW2]; exact hZ1.alloc _
    have hb2 : Below w.heap.size w W2 := by rw [hW2]; exact hb1.alloc hs1 _
    have hgz : w.heap.size < g := by omega
    rw [hg, ← hW2]
    clear hZ1 hb1 hs1 hZl1 hW2 hg
    go_upto_region 12 with (go_at_call 23; refine (next_n g w.heap.size _ 5 _ hr2 (by omega) rfl R1.out).mono ?_; rintro e w3 ⟨X3, rfl, _, hr3, hg3⟩)
    have hZ3 := hZ2.keep (hg3.block w.heap.size hZ2.lt (fun e => by injection e with e; omega))
    have hb3 := hb2.trans (below_grown hg3 hb2.size (fun q e => by injection e with e; omega))
    clear hr2 hg3 hZ2 hb2
    refine wp_region_tailS (fun _ => True) [(0, true), (1, true), (2, true), (3, false)] 4 (by kernel_rfl) (by kernel_rfl) trivial ?_
    repeat (first
      | (refine ord_skipB rfl (by rfl) ?_; simp only [Act.put, List.setIfInBounds_toArray, List.set_cons_zero, List.set_cons_succ])
      | (refine ord_qS rfl (by rfl) ?_; apply Exists.intro; refine ⟨fun w' hc' => ?_, ?_⟩; (focus (go_simp; (try go_bits); (try simp only [↓IntWalk.iteOmega]); with_reducible rfl)); simp only [Act.put, List.setIfInBounds_toArray, List.set_cons_zero, List.set_cons_succ]))
    refine ord_eB rfl fun K hK => ?_
    go_wp2_with (go_at_call 23; refine (next_n g w.heap.size _ 32 _ (hr3.grow0 (grown_drew _ none)) (by omega) GF.out R2.out).mono ?_; rintro e w4 ⟨X4, rfl, hs4, hr4, hg4⟩)
    refine hK.out _ _ trivial ?_
    clear hK K
    repeat (first
      | (refine ord_skipB rfl (by rfl) ?_; simp only [Act.put, List.setIfInBounds_toArray, List.set_cons_zero, List.set_cons_succ])
      | (refine ord_qS rfl (by rfl) ?_; apply Exists.intro; refine ⟨fun w' hc' => ?_, ?_⟩; (focus (go_simp; (try go_bits); (try simp only [↓IntWalk.iteOmega]); with_reducible rfl)); simp only [Act.put, List.setIfInBounds_toArray, List.set_cons_zero, List.set_cons_succ]))
    refine ord_tail rfl fun K hK => ?_
    have hz32 : zeroScr.frm.length = 32 := by simp [zeroScr, zero32]
    have hzg32 : zeroScr.goal.length = 32 := by simp [zeroScr, zero32]
    replace hg4 : w3.grownBy w4 (some g) := grown_trans (grown_drew w3 (some g)) hg4
    have hZ4 : Blk w4 w.heap.size 30 zeroScr.C := hZ3.keep (hg4.block w.heap.size hZ3.lt (fun e => by injection e with e; omega))
    go_wp2_with (refine wpList_copy_blk rfl _ _ rfl hZ4 rfl rfl hs4 (by omega) (by rw [Scr.size hz32 hzg32]; omega) (u8_one _) ?_; intro w5 hZ5 hg5 hs5)
    refine hK.out _ _ ?_
    clear hK K
    have hb5 : Below w.heap.size w w5 := (hb3.trans (below_grown (B := w.heap.size) hg4 hb3.size (fun q e => by injection e with e; omega))).trans (below_grown (B := w.heap.size) hg5 (Nat.le_trans hb3.size hg4.size) (fun q e => by injection e with e; omega))
    have hr5 := hr4.other hg5 (by omega) (Nat.le_refl _)
    rw [copy_frm hz32] at hZ5
    obtain ⟨t1, ht1⟩ : ∃ t : Scr, ⟨frm, zeroScr.goal, 0, 0, [], [], none, 0, 0, none, 0, 0⟩ = t := ⟨_, rfl⟩
    have h1f : t1.frm.length = 32 := by rw [← ht1]; exact Hf32.out
    have h1g : t1.goal.length = 32 := by rw [← ht1]; exact hzg32
    replace hZ5 : Blk w5 w.heap.size 30 t1.C := by rw [← ht1]; exact hZ5
    clear hZ4 hZ3 hb3 hr3 hr4 hs4 hg4 hg5 hs5 hz32
    go_upto_region 13 with (fail)
    refine wp_region_tailS (fun _ => True) [(0, true), (1, true), (2, true), (3, false)] 4 (by kernel_rfl) (by kernel_rfl) trivial ?_
    repeat (first
      | (refine ord_skipB rfl (by rfl) ?_; simp only [Act.put, List.setIfInBounds_toArray, List.set_cons_zero, List.set_cons_succ])
      | (refine ord_qS rfl (by rfl) ?_; apply Exists.intro; refine ⟨fun w' hc' => ?_, ?_⟩; (focus (go_simp; (try go_bits); (try simp only [↓IntWalk.iteOmega]); with_reducible rfl)); simp only [Act.put, List.setIfInBounds_toArray, List.set_cons_zero, List.set_cons_succ]))
    refine ord_eB rfl fun K hK => ?_
    go_wp2_with (go_at_call 23; refine (next_n g w.heap.size _ 32 _ (hr5.grow0 (grown_drew _ none)) (by omega) GG.out R3.out).mono ?_; rintro e w6 ⟨X6, rfl, hs6, hr6, hg6⟩)
    refine hK.out _ _ trivial ?_
    clear hK K
    repeat (first
      | (refine ord_skipB rfl (by rfl) ?_; simp only [Act.put, List.setIfInBounds_toArray, List.set_cons_zero, List.set_cons_succ])
      | (refine ord_qS rfl (by rfl) ?_; apply Exists.intro; refine ⟨fun w' hc' => ?_, ?_⟩; (focus (go_simp; (try go_bits); (try simp only [↓IntWalk.iteOmega]); with_reducible rfl)); simp only [Act.put, List.setIfInBounds_toArray, List.set_cons_zero, List.set_cons_succ]))
    refine ord_tail rfl fun K hK => ?_
    replace hg6 : w5.grownBy w6 (some g) := grown_trans (grown_drew w5 (some g)) hg6
    have hZ6 : Blk w6 w.heap.size 30 t1.C := hZ5.keep (hg6.block w.heap.size hZ5.lt (fun e => by injection e with e; omega))
    go_wp2_with (refine wpList_copy_blk rfl _ _ rfl hZ6 rfl rfl hs6 (by omega) (by rw [Scr.size h1f h1g]; omega) (u8_one _) ?_; intro w7 hZ7 hg7 hs7)
    refine hK.out _ _ ?_
    clear hK K
    have hb7 : Below w.heap.size w w7 := (hb5.trans (below_grown (B := w.heap.size) hg6 hb5.size (fun q e => by injection e with e; omega))).trans (below_grown (B := w.heap.size) hg7 (Nat.le_trans hb5.size hg6.size) (fun q e => by injection e with e; omega))
    have hr7 := hr6.other hg7 (by omega) (Nat.le_refl _)
    rw [copy_goal h1f h1g] at hZ7
    have HT1 := Lib.hid ht1
    clear hZ6 hZ5 hb5 hr5 hr6 hs6 hg6 hg7 hs7 ht1
    have tok : True := trivial
    go_upto_region 15 with (first
      | (go_at_call 22; have _t := tok; clear tok _t; refine (number_n g w.heap.size _ 4 _ hr7 (by omega) GB.out R4.out).mono ?_; rintro e w8 ⟨rfl, hr8, hg8⟩)
      | (go_at_call 22; refine (number_n g w.heap.size _ 4 _ hr8 (by omega) GI.out R5.out).mono ?_; rintro e w9 ⟨rfl, hr9, hg9⟩))
    have hg79 : w7.grownBy w9 (some g) := grown_trans hg8 hg9
    have hZ9 := hZ7.keep (hg79.block w.heap.size hZ7.lt (fun e => by injection e with e; omega))
    have hb9 : Below w.heap.size w w9 := hb7.trans (below_grown (B := w.heap.size) hg79 hb7.size (fun q e => by injection e with e; omega))
    have hf9 := hZ9.unfr 64
    have hZl9 := hZ9.lt
    obtain ⟨c64, _, _⟩ := Scr.cell (s := ⟨t1.frm, goal, t1.pb, t1.pi, t1.ins, t1.refs, t1.IA, t1.il, t1.ic, t1.RA, t1.rl, t1.rc⟩) h1f Hg32.out
    have z64 := (hZ9.cell 64).trans c64
    clear hr7 hr8 hg8 hg9 hg79 hZ7 hb7 c64
    have hst : (store ⟨w.heap.size, 64, none⟩ (.complex .f64 (floatOfInt .f64 (pb : Int)) (floatOfInt .f64 (pi : Int)))).run Tryd.prog w9 = .ok () (w9.setCell ⟨w.heap.size, 64, none⟩ (.complex .f64 (floatOfInt .f64 (pb : Int)) (floatOfInt .f64 (pi : Int)))) := by
      rw [run_store Tryd.prog w9 _ _ _ rfl]
      simp [z64, hf9]
    go_upto_region 16 with (fail)
    obtain ⟨W10, hW10⟩ : ∃ W, W = w9.setCell ⟨w.heap.size, 64, none⟩ (.complex .f64 (floatOfInt .f64 (pb : Int)) (floatOfInt .f64 (pi : Int))) := ⟨_, rfl⟩
    have hgs := grown_put w9 w.heap.size 64 (.complex .f64 (floatOfInt .f64 (pb : Int)) (floatOfInt .f64 (pi : Int)))
    have hZX : Blk W10 w.heap.size 30 (⟨frm, goal, pb, pi, [], [], none, 0, 0, none, 0, 0⟩ : Scr).C := by
      rw [hW10]
      have := hZ9.set 64 (.complex .f64 (floatOfInt .f64 (pb : Int)) (floatOfInt .f64 (pi : Int)))
      rw [show (Value.complex .f64 (floatOfInt .f64 (pb : Int)) (floatOfInt .f64 (pi : Int))) = .complex .f64 (F pb) (F pi) from rfl, set_peak (t := ⟨t1.frm, goal, t1.pb, t1.pi, t1.ins, t1.refs, t1.IA, t1.il, t1.ic, t1.RA, t1.rl, t1.rc⟩) h1f Hg32.out, ← HT1.out] at this
      exact this
    have hrX := hr9.other hgs (by omega) (Nat.le_refl _)
    rw [← hW10] at hrX
    have hbX : Below w.heap.size w W10 := by rw [hW10]; exact hb9.trans (below_grown (B := w.heap.size) hgs hb9.size (fun q e => by injection e with e; omega))
    rw [← hW10]
    clear hst hZ9 hr9 hb9 hf9 hZl9 z64 hgs hW10
    have tok : True := trivial
    go_wp2_with (first
      | (go_at_call 22; have _t := tok; clear tok _t; refine (number_n g w.heap.size _ 2 _ hrX (by omega) GN.out R6.out).mono ?_; rintro e w11 ⟨rfl, hr11, hg11⟩)
      | (go_at_call 22; refine (number_n g w.heap.size _ 2 _ hr11 (by omega) GM.out R7.out).mono ?_; rintro e w12 ⟨rfl, hr12, hg12⟩))
    have hg1012 : W10.grownBy w12 (some g) := grown_trans hg11 hg12
    have hZ12 := hZX.keep (hg1012.block w.heap.size hZX.lt (fun e => by injection e with e; omega))
    have hb12 : Below w.heap.size w w12 := hbX.trans (below_grown (B := w.heap.size) hg1012 hbX.size (fun q e => by injection e with e; omega))
    have hM : MoreQ l frm goal pb pi il rl w 0 none 0 [] 0 none 0 [] g s7 w12 := ⟨hZ12, World.ownsRow_nil _ _ _ _, World.ownsRow_nil _ _ _ _, hr12, hb12, hgz, rfl, rfl, Nat.zero_le _, Nat.zero_le _, (fun r hr => nomatch hr), (fun r hr => nomatch hr), (fun r hr => nomatch hr), (fun r hr => nomatch hr), (by rw [HN.out]; omega), HCrc.out, fun s0 h0 => ⟨rfl, rfl, HH7.out s0 h0⟩⟩
    rename_i Kl hKl
    exact wp_label (hKl _ _ (Pass.out _ _ (MoreG.mk 0 none 0 [] 0 none 0 [] g s7 rfl hM)))
end Go.Proofs.YtgeiegjpnnbloaaDoor
