/- PackDecodes. -/
import Derived.Test.YtgeiegjpnnbloaaDoorAliveK
import Derived.Test.YtgeiegjpnnbloaaDoorScrG
import Derived.Test.YtgeiegjpnnbloaaDoorQDec
import Derived.Test.YtgeiegjpnnbloaaDoorSameR
import Derived.Test.YtgeiegjpnnbloaaDoorLaidK
import Derived.Test.YtgeiegjpnnbloaaDoorOpenT
import Derived.Test.YtgeiegjpnnbloaaDoorCards
import Derived.Test.YtgeiegjpnnbloaaDoorTie
import Derived.SevenTiedAt
namespace Go.Proofs.YtgeiegjpnnbloaaDoor
open Go.ChangeShapes Go.WideShapes Go.ChangeAt Go.ChangeMaps Go.RowKit Go.Deep

set_option maxRecDepth 100000 in
set_option maxHeartbeats 8000000 in
theorem decode_any (l : List UInt8) (A : Option Addr) (n c : Nat) (a0 a1 a2 : Addr) (w : World) (hE : ErrsN w a0 a1 a2) (hS : Sl w w.heap.size 1 A n (l.flatMap u8L)) (hn : l.length = n) (hm : n ≤ 1000000) (hnc : n < c) (hcm : c ≤ maxLen) :
    Calls Tryd.prog 7 #[.slice A n c] w (DecOf l w) := by
  obtain ⟨W0, hW0⟩ : ∃ W, W = w.alloc (.cells Tryd.zeroCells30 30) := ⟨_, rfl⟩
  have hb0 : Below w.heap.size w W0 := by rw [hW0]; exact (Below.refl _ _).alloc (Nat.le_refl _) _
  have hZ0 : Blk W0 w.heap.size 30 Tryd.zeroCells30 := by rw [hW0]; exact Blk.new w _ _
  have HW := Lib.hid hW0
  have hE0 := hE.keep hb0
  have hS0 := (hS.below hb0 (Nat.le_refl _)).more hb0.size
  have HScr := Lib.hid (script_any l A n c a0 a1 a2 W0 hE0.at_ hS0 hn hm hnc hcm)
  have hzs : Tryd.zeroCells30.size = 67 := by rw [zero_cells]; exact zsize
  have HE := Lib.hid hE0
  have hs0' : W0.heap.size = w.heap.size + 1 := by rw [hW0, World.size_alloc]
  have hZl := hZ0.lt
  have hs0 := hb0.size
  clear hW0 hE hE0 hS hS0 hn hnc hcm
  go_enter Tryd.func7, Tryd.ntmps7
  go_upto_region 1 with (fail)
  rw [← HW.out]
  go_upto_region 2 with (first
    | (go_at_call 12; refine HScr.out.mono ?_; rintro e w1 ⟨s, v, rfl, hsc, hown, hb1, hcase⟩; have hz67 : s.C.size = 67 := Scr.size hsc.fl hsc.gl)
    | (refine wpList_store_new rfl 30 (.tmp 4) (.tmp 9) rfl _ _ s.C (by kernel_rfl) (by kernel_rfl) (by rw [hz67]; kernel_rfl) (by rw [hzs, hz67]) (Scr.one _) ?_; simp only [Act.put, List.setIfInBounds_toArray, List.set_cons_zero, List.set_cons_succ]))
  obtain ⟨q, hq⟩ : ∃ q, w1.heap.size = q := ⟨_, rfl⟩
  obtain ⟨w2, hw2⟩ : ∃ W', W' = w1.alloc (.cells s.C 30) := ⟨_, rfl⟩
  have hB2 : Blk w2 q 30 s.C := by rw [hw2, ← hq]; exact Blk.new _ _ _
  have h12 : Below w1.heap.size w1 w2 := by rw [hw2]; exact (Below.refl _ _).alloc (Nat.le_refl _) _
  have h02 : Below W0.heap.size W0 w2 := hb1.trans (h12.mono hb1.size)
  have hZ2 := hZ0.below h02 hZl
  have hE2 := HE.out.keep h02
  have c0 := hE2.at_.c0
  have c1 := hE2.at_.c1
  have c2 := hE2.at_.c2
  have hsz := hE2.at_.size
  have HE2 := Lib.hid hE2
  have hsc2 := hsc.keep h12
  have hown2 := hown.keep h12
  rw [hq, ← hw2]
  obtain ⟨C, hC⟩ : ∃ C, s.C = C := ⟨_, rfl⟩
  have HC := Lib.hid hC; have HSc := Lib.hid hsc2; have HOwn := Lib.hid hown2
  have hone := Scr.one s
  rw [hC] at hB2 hz67 hone ⊢
  clear hw2 h12 hb1 hC hsc hsc2 hown hown2 hE2
  have hsz1 : 1 < w2.heap.size := by omega
  have hsz0 : 0 < w2.heap.size := by omega
  have t1 : True := trivial
  have t2 : True := trivial
  have hend : ∀ (w4 : World) (E : Int), w2.grownBy w4 (some w.heap.size) → DecE l zeroScr E → DecOf l w (.returned (.tuple #[.agg Tryd.zeroCells30, .int .i64 E])) w4 := fun w4 E hg h =>
    ⟨zeroScr, E, by rw [zero_cells], zero_at _, (hb0.trans (h02.mono hs0)).trans (below_grown (B := w.heap.size) hg (by have := h02.size; omega) (fun q e => by injection e with e; omega)), h⟩
  have HEnd := Lib.hid hend
  clear hend
  rcases hcase with ⟨rfl, henc, hfit⟩ | ⟨hz, hv⟩
  · have HEc := Lib.hid henc; have HFt := Lib.hid hfit
    clear henc hfit
    go_wp2_with (first
      | (go_at_call 13; have _t := t1; clear t1 _t; refine (is_nil a0 _).mono ?_; rintro e w3 ⟨rfl, hw⟩; rw [hw]; clear hw)
      | (go_at_call 13; have _t := t2; clear t2 _t; refine (is_nil a1 _).mono ?_; rintro e w3 ⟨rfl, hw⟩; rw [hw]; clear hw)
      | (go_at_call 13; refine (is_nil a2 _).mono ?_; rintro e w3 ⟨rfl, hw⟩; rw [hw]; clear hw)
      | (refine wpList_load_scr rfl (.tmp 4) rfl q (by kernel_rfl) C hz67 hB2 ?_; simp only [Act.put, List.setIfInBounds_toArray, List.set_cons_zero, List.set_cons_succ])
      | (refine wpList_store_blk rfl 30 (.tmp 2) (.tmp 26) rfl hZ2 C (by kernel_rfl) (by kernel_rfl) (by rw [hz67]; kernel_rfl) (by rw [hzs, hz67]) hone ?_; intro w4 hB4 hg4 hs4; simp only [Act.put, List.setIfInBounds_toArray, List.set_cons_zero, List.set_cons_succ]))
    have hown4 := HOwn.out.put hg4 (show w.heap.size < W0.heap.size by omega)
    exact ret_cell_t rfl rfl (load_blk hB4 Tryd.underlying30 rfl (by rw [hz67]; kernel_rfl)) rfl ⟨s, 0, by rw [HC.out]; rfl, hown4.scr HSc.out, (hb0.trans (h02.mono hs0)).trans (below_grown (B := w.heap.size) hg4 (by have := h02.size; omega) (fun q e => by injection e with e; omega)), .ok HEc.out HFt.out⟩
  · have HHv := Lib.hid hv
    cases hv with
    | short h =>
      go_wp2_with (first
        | (go_at_call 13; refine (is_same a0 _).mono ?_; rintro e w3 ⟨rfl, hw⟩; rw [hw]; clear hw)
        | (refine wpList_store_blk rfl 30 (.tmp 2) (.tmp 15) rfl hZ2 Tryd.zeroCells30 (by kernel_rfl) (by kernel_rfl) (by rw [hzs]; kernel_rfl) rfl (by rw [zero_cells]; exact Scr.one _) ?_; intro w4 hB4 hg4 hs4; simp only [Act.put, List.setIfInBounds_toArray, List.set_cons_zero, List.set_cons_succ]))
      exact ret_cell_t rfl rfl (load_blk hB4 Tryd.underlying30 rfl (by rw [hzs]; kernel_rfl)) rfl (HEnd.out _ _ hg4 (.short h rfl))
    | sum h hc =>
      go_wp2_with (first
        | (go_at_call 13; have _t := t1; clear t1 _t; refine (is_other a1 a0 _ HE2.out.n10 HE2.out.k1 HE2.out.k0).mono ?_; rintro e w3 ⟨rfl, hw⟩; rw [hw]; clear hw)
        | (go_at_call 13; refine (is_same a1 _).mono ?_; rintro e w3 ⟨rfl, hw⟩; rw [hw]; clear hw)
        | (refine wpList_store_blk rfl 30 (.tmp 2) (.tmp 20) rfl hZ2 Tryd.zeroCells30 (by kernel_rfl) (by kernel_rfl) (by rw [hzs]; kernel_rfl) rfl (by rw [zero_cells]; exact Scr.one _) ?_; intro w4 hB4 hg4 hs4; simp only [Act.put, List.setIfInBounds_toArray, List.set_cons_zero, List.set_cons_succ]))
      exact ret_cell_t rfl rfl (load_blk hB4 Tryd.underlying30 rfl (by rw [hzs]; kernel_rfl)) rfl (HEnd.out _ _ hg4 (.sum h hc rfl))
    | no h hc hno =>
      go_wp2_with (first
        | (go_at_call 13; have _t := t1; clear t1 _t; refine (is_other a2 a0 _ HE2.out.n20 HE2.out.k2 HE2.out.k0).mono ?_; rintro e w3 ⟨rfl, hw⟩; rw [hw]; clear hw)
        | (go_at_call 13; have _t := t2; clear t2 _t; refine (is_other a2 a1 _ HE2.out.n21 HE2.out.k2 HE2.out.k1).mono ?_; rintro e w3 ⟨rfl, hw⟩; rw [hw]; clear hw)
        | (go_at_call 13; refine (is_same a2 _).mono ?_; rintro e w3 ⟨rfl, hw⟩; rw [hw]; clear hw)
        | (refine wpList_store_blk rfl 30 (.tmp 2) (.tmp 25) rfl hZ2 Tryd.zeroCells30 (by kernel_rfl) (by kernel_rfl) (by rw [hzs]; kernel_rfl) rfl (by rw [zero_cells]; exact Scr.one _) ?_; intro w4 hB4 hg4 hs4; simp only [Act.put, List.setIfInBounds_toArray, List.set_cons_zero, List.set_cons_succ]))
      exact ret_cell_t rfl rfl (load_blk hB4 Tryd.underlying30 rfl (by rw [hzs]; kernel_rfl)) rfl (HEnd.out _ _ hg4 (.no h hc hno rfl))
end Go.Proofs.YtgeiegjpnnbloaaDoor

namespace Go.Proofs.YtgeiegjpnnbloaaDoor.packDecodesDone
open Go.ChangeShapes Go.WideShapes Go.ChangeAt Go.ChangeMaps Go.RowKit Go.Deep

set_option maxRecDepth 100000 in
set_option maxHeartbeats 8000000 in
theorem walk (l : List UInt8) (A : Option Addr) (n c : Nat) (a0 a1 a2 : Addr) (w : World) (hE : ErrsN w a0 a1 a2) (hS : Sl w w.heap.size 1 A n (l.flatMap u8L)) (hn : l.length = n) (hnc : n ≤ c) (hcm : c ≤ maxLen) :
    Calls Tryd.prog 3 #[.slice A n c] w fun e w' => e = .returned (.bool true) ∧ Below w.heap.size w w' := by
  have HE := Lib.hid hE; have HS := Lib.hid hS; have HN := Lib.hid hn; have HCm := Lib.hid hcm
  have hn63 : n ≤ maxLen := Nat.le_trans hnc hcm
  unfold maxLen at hn63 hcm
  clear hE hS hn
  go_enter Tryd.func3, Tryd.ntmps3
  go_upto_region 2 with (go_at_call 6; refine (alive19 a0 a1 a2 _ HE.out.at_).mono ?_; rintro e w1 ⟨rfl, hb1⟩)
  obtain ⟨W, hW⟩ : ∃ W, W = w1 := ⟨_, rfl⟩
  subst hW
  have hs1 := hb1.size
  by_cases h2 : 20000 < n
  · have h2i : (n : Int) > 20000 := by omega
    go_wp2
    go_ret
    exact ⟨rfl, hb1⟩
  have h2i : ¬ (n : Int) > 20000 := by omega
  have Hb1 := Lib.hid hb1
  have HSW := Lib.hid ((HS.out.below hb1 (Nat.le_refl _)).more hs1)
  have hn2 : n ≤ 20000 := by omega
  clear hb1 h2
  have hq : (#[.int .u8 167] : Array Value).toList = ([167] : List UInt8).flatMap u8L := rfl
  have HQ := Lib.hid hq
  clear hq
  go_upto_region 5 with (first
    | (at_builtin; refine wpList_append_sl (B := W.heap.size) (A2 := A) (m := n) (c2 := c) (L2 := l.flatMap u8L) rfl _ (.tmp 20) _ rfl Tryd.u8T rfl (World.ownsRow_nil W W.heap.size _ _) rfl HSW.out (u8_one _) (by unfold maxLen; omega) (by omega) (Nat.le_refl _) ?_; intro A2 c2 w2 ho2 hg2 ha2; (try simp only [Nat.zero_add, List.nil_append] at ho2 ⊢); have hz2 := hg2.size)
    | (at_builtin; refine wpList_append_one rfl (.tmp 21) (.tmp 22) 22 rfl Tryd.u8T (by kernel_rfl) ho2 #[.int .u8 167] (N := w2.heap.size) (by kernel_rfl) rfl rfl (by simp [Value.oneCell']) (by unfold maxLen; omega) (by omega) hz2 ?_; intro g3 c3 w3 ho3 hg3 hat3; simp only [Act.put, List.setIfInBounds_toArray, List.set_cons_zero, List.set_cons_succ]; rw [HQ.out, ← List.flatMap_append] at ho3))
  obtain ⟨V, hV⟩ : ∃ V, V = w3 := ⟨_, rfl⟩
  subst hV
  have hbV : Below W.heap.size W V := (below_grown hg2 (Nat.le_refl _) (fun q e => by cases e)).trans (below_grown (B := W.heap.size) hg3 hz2 (own_blkP ho2))
  have hcap := (own_row ho3).2.2.2
  have hgl := (own_row ho3).2.2.1
  have hslf : Sl V V.heap.size 1 (some ⟨g3, 0, none⟩) n (l.flatMap u8L) := by
    have := (Sl.of_own ho3).first (k := n) (by omega)
    rw [Nat.mul_one, u8_take, List.take_left' HN.out] at this
    exact this
  have hc167 : V.cell? ⟨g3, n, none⟩ = some (.int .u8 167) := by
    have := (own_row ho3).1 n (.int .u8 167) (by rw [u8_get _ (by rw [List.length_append, HN.out]; exact Nat.lt_succ_self _)]; congr 2; rw [List.getElem_append_right (by rw [HN.out]; exact Nat.le_refl _)]; simp [HN.out])
    rwa [Nat.zero_add] at this
  have hbw := Hb1.out.trans (hbV.mono hs1)
  have hEV := HE.out.keep hbw
  have HF := Lib.hid hslf; have HEV := Lib.hid hEV; have Hbw := Lib.hid hbw; have H167 := Lib.hid hc167
  have HDec := Lib.hid (decode_any l (some ⟨g3, 0, none⟩) n c3 a0 a1 a2 V hEV hslf HN.out (by omega) (by omega) (hcap.2))
  have hcap1 := hcap.1
  have hcap2 := hcap.2
  unfold maxLen at hcap2
  clear ho2 hg2 ha2 hz2 ho3 hg3 hat3 hslf hc167 hEV hcap hbw
  have hzs : Tryd.zeroCells30.size = 67 := by rw [zero_cells]; exact zsize
  have HZs := Lib.hid hzs
  have hkc3 : (n : Int) ≤ c3 := by omega
  clear hzs
  go_upto_region 6 with (first
    | (go_at_call 7; refine HDec.out.mono ?_; rintro e w4 ⟨s, E, rfl, hsc, hb4, hdec⟩; have hz67 : s.C.size = 67 := Scr.size hsc.fl hsc.gl)
    | (refine wpList_store_new rfl 30 (.tmp 5) (.tmp 30) rfl _ _ s.C (by kernel_rfl) (by kernel_rfl) (by rw [hz67]; kernel_rfl) (by rw [HZs.out, hz67]) (Scr.one _) ?_; simp only [Act.put, List.setIfInBounds_toArray, List.set_cons_zero, List.set_cons_succ]))
  obtain ⟨q1, hq1⟩ : ∃ q, w4.heap.size = q := ⟨_, rfl⟩
  obtain ⟨X, hX⟩ : ∃ X, X = w4.alloc (.cells s.C 30) := ⟨_, rfl⟩
  have hBX : Blk X q1 30 s.C := by rw [hX, ← hq1]; exact Blk.new _ _ _
  have hbX : Below V.heap.size V X := by rw [hX]; exact hb4.alloc hb4.size _
  have hscX : ScrAt X s := by rw [hX]; exact hsc.keep ((Below.refl _ _).alloc (Nat.le_refl _) _)
  rw [hq1, ← hX]
  have HBX := Lib.hid hBX; have HbX := Lib.hid hbX; have HScX := Lib.hid hscX; have HD := Lib.hid hdec; have HZ1 := Lib.hid hz67
  have hbwX := Hbw.out.trans (hbX.mono Hbw.out.size)
  obtain ⟨D, hD⟩ : ∃ D : ByteArray, ⟨l.toArray⟩ = D := ⟨_, rfl⟩
  have DA := Lib.hid (show Sl X X.heap.size 1 (some ⟨g3, 0, none⟩) n (bytesC D) by rw [← hD, bytes_u8]; exact (HF.out.below hbX (Nat.le_refl _)).more hbX.size)
  have DB := Lib.hid (show Sl X X.heap.size 1 A n (bytesC D) by rw [← hD, bytes_u8]; exact (HS.out.below hbwX (Nat.le_refl _)).more hbwX.size)
  have DN := Lib.hid (show D.size = n by rw [← hD, bytes_size, HN.out])
  have HDD := Lib.hid hD
  have hne : (D.toList != D.toList) = false := by simp
  have hgX : g3 < X.heap.size := Nat.lt_of_lt_of_le hgl hbX.size
  have c167 : X.cell? ⟨g3, n, none⟩ = some (.int .u8 167) := (hbX.cell (p := ⟨g3, n, none⟩) hgl).trans H167.out
  have HbwX := Lib.hid hbwX
  have hn3 : (n : Int) < (n : Int) + 1 := by omega
  clear hX hb4 hdec hsc hBX hscX hz67 hD hbwX hbX
  go_upto_region 6 with (fail)
  refine wp_region_ordB (none) [(0, true), (1, true), (2, true), (3, true), (4, true), (5, true), (6, true), (7, true), (8, true), (9, true), (10, true), (11, true), (12, true), (13, true), (14, true), (15, true)] (by kernel_rfl) (by kernel_rfl) fun hG0 => ?_
  repeat (first
    | (refine ord_skipB rfl (by rfl) ?_; simp only [Act.put, List.setIfInBounds_toArray, List.set_cons_zero, List.set_cons_succ])
    | (first | (refine ord_qH rfl (by rfl) (fun w' hh => exec_conv rfl rfl (DA.out.held (Nat.le_refl _) rfl hh) DN.out) ?_; simp only [Act.put, List.setIfInBounds_toArray, List.set_cons_zero, List.set_cons_succ]) | (refine ord_qH rfl (by rfl) (fun w' hh => exec_conv rfl rfl (DB.out.held (Nat.le_refl _) rfl hh) DN.out) ?_; simp only [Act.put, List.setIfInBounds_toArray, List.set_cons_zero, List.set_cons_succ]))
    | (refine ord_qE rfl (by rfl) ?_; apply Exists.intro; refine ⟨fun w' hc' => ?_, ?_⟩; (focus (go_simp; (try go_bits); (try simp only [↓IntWalk.iteOmega]); with_reducible rfl)); simp only [Act.put, List.setIfInBounds_toArray, List.set_cons_zero, List.set_cons_succ]))
  refine ord_end ?_
  obtain ⟨Y, hY⟩ : ∃ Y, X.drew = Y := ⟨_, rfl⟩
  have hbY : Below X.heap.size X Y := below_grown (by rw [← hY]; exact hG0) (Nat.le_refl _) (fun q e => by cases e)
  rw [hY]
  clear hG0 hY c167 hne
  have HAY := Lib.hid ((HS.out.below (HbwX.out.trans (hbY.mono HbwX.out.size)) (Nat.le_refl _)).more (HbwX.out.trans (hbY.mono HbwX.out.size)).size)
  have HbwY := Lib.hid (HbwX.out.trans (hbY.mono HbwX.out.size))
  have HBY := Lib.hid (HBX.out.below hbY HBX.out.lt)
  have HScY := Lib.hid (HScX.out.keep hbY)
  have HDec2 := Lib.hid (rdec_any l A n c Y HAY.out HN.out (by omega) hnc HCm.out)
  clear hbY
  go_upto_region 9 with (first
    | (go_at_call 8; refine HDec2.out.mono ?_; rintro e w5 ⟨t, F, rfl, htc, hb5, hdec2⟩; have ht67 : t.C.size = 67 := Scr.size htc.fl htc.gl)
    | (refine wpList_store_new rfl 30 (.tmp 7) (.tmp 51) rfl _ _ t.C (by kernel_rfl) (by kernel_rfl) (by rw [ht67]; kernel_rfl) (by rw [HZs.out, ht67]) (Scr.one _) ?_; simp only [Act.put, List.setIfInBounds_toArray, List.set_cons_zero, List.set_cons_succ]))
  obtain ⟨rfl, heq⟩ := HD.out.same hdec2
  obtain ⟨q2, hq2⟩ : ∃ q, w5.heap.size = q := ⟨_, rfl⟩
  obtain ⟨Z, hZ⟩ : ∃ Z, Z = w5.alloc (.cells t.C 30) := ⟨_, rfl⟩
  have hBT : Blk Z q2 30 t.C := by rw [hZ, ← hq2]; exact Blk.new _ _ _
  have hbZ : Below Y.heap.size Y Z := by rw [hZ]; exact hb5.alloc hb5.size _
  have htZ : ScrAt Z t := by rw [hZ]; exact htc.keep ((Below.refl _ _).alloc (Nat.le_refl _) _)
  have hBS := HBY.out.below hbZ HBY.out.lt
  have hsZ := HScY.out.keep hbZ
  have hws : WfS s := ⟨hsZ.fl, hsZ.gl, hsZ.il, hsZ.rl, hsZ.r32⟩
  have hwt : WfS t := ⟨htZ.fl, htZ.gl, htZ.il, htZ.rl, htZ.r32⟩
  have HSame := Lib.hid (same_all s t Z hsZ htZ heq.frm.symm heq.goal.symm heq.pb.symm heq.pi.symm (heq.il hws hwt).symm heq.ins.symm (heq.rl hws hwt).symm heq.refs.symm)
  have hbwZ := HbwY.out.trans (hbZ.mono HbwY.out.size)
  have HbwZ := Lib.hid hbwZ; have HBS := Lib.hid hBS; have HT67 := Lib.hid ht67; have HSZ := Lib.hid hsZ
  have hEE : (E != E) = false := by simp
  rw [hq2, ← hZ]
  clear hZ hb5 hdec2 htc ht67 heq hbZ htZ hsZ hws hwt hbwZ hq2 HDec2 HDec
  have tok : True := trivial
  go_upto_region 11 with (first
    | (go_at_call 9; refine (num19 _ _).mono ?_; rintro e w7 ⟨rfl, hw⟩; rw [hw]; clear hw)
    | (refine wpList_load_scr rfl (.tmp 5) rfl q1 (by kernel_rfl) s.C HZ1.out hBS ?_; simp only [Act.put, List.setIfInBounds_toArray, List.set_cons_zero, List.set_cons_succ])
    | (refine wpList_load_scr rfl (.tmp 7) rfl q2 (by kernel_rfl) t.C HT67.out hBT ?_; simp only [Act.put, List.setIfInBounds_toArray, List.set_cons_zero, List.set_cons_succ])
    | (go_at_call 10; refine HSame.out.mono ?_; rintro e w8 ⟨rfl, hb8⟩))
  have hbw8 := HbwZ.out.trans (hb8.mono HbwZ.out.size)
  have Hbw8 := Lib.hid hbw8
  have hBS8 := HBS.out.below hb8 HBS.out.lt
  have HS8 := Lib.hid (HSZ.out.keep hb8)
  have hBl8 := hBS8.lt
  have HBS8 := Lib.hid hBS8
  clear hBS hBT hb8 hbw8 hEE hBS8
  by_cases hE0 : E = 0
  rotate_left
  · have e0 : (E != 0) = true := bne_iff_ne.2 hE0
    clear hE0
    go_wp2
    go_ret
    exact ⟨rfl, Hbw8.out⟩
  subst hE0
  obtain ⟨henc, hfit⟩ : EncOf s l ∧ FitS s := by
    have := HD.out
    cases this with
    | ok h hf => exact ⟨h, hf⟩
  have HEn := Lib.hid henc
  have hen := encode_any s w8 HS8.out hfit.rl (fun x hx => by have := (hfit.ins x hx).pd; exact ⟨by omega, by omega⟩) (fun x hx => by have := hfit.ins x hx; exact ⟨this.r1, by have := this.r2; omega⟩) hfit.refs
  have HEnc := Lib.hid hen
  clear henc hfit hen
  go_upto_region 14 with (first
    | (refine wpList_load_scr rfl (.tmp 5) rfl q1 (by kernel_rfl) s.C HZ1.out HBS8.out ?_; simp only [Act.put, List.setIfInBounds_toArray, List.set_cons_zero, List.set_cons_succ])
    | (go_at_call 11; refine HEnc.out.mono ?_; rintro e w9 ⟨E2, ⟨EA, em, ec, rfl, _, henc2, hb9⟩, hE2⟩))
  obtain rfl : E2 = 0 := hE2.2 HEn.out.ok
  obtain ⟨hem, hrow⟩ := henc2 rfl
  rw [HEn.out.enc] at hem hrow
  have hcv1 := conv_any (Sl.of_own hrow) hem.symm ec
  have hbw9 := Hbw8.out.trans (hb9.mono Hbw8.out.size)
  have hcv2 := conv_any ((HS.out.below hbw9 (Nat.le_refl _)).more hbw9.size) HN.out c
  rw [HDD.out] at hcv1 hcv2
  have hDD : (D.toList == D.toList) = true := by simp
  have Hbw9 := Lib.hid hbw9
  clear hem hrow henc2 hE2 hb9 hbw9
  go_wp2_with (go_at_call 9; refine (num19 _ _).mono ?_; rintro e w7 ⟨rfl, hw⟩; rw [hw]; clear hw)
  go_ret
  exact ⟨rfl, Hbw9.out⟩

set_option maxRecDepth 100000 in
theorem lifted (os : Os) (started : os.Started) (H : Type) (enc : TypeId × Value → H) :
    ReturnsInHanded {} Tryd.checked os 3 .any (fun w args => (Rows.packDecodesSpec.pre enc Tryd.prog Tryd.f3 Rows.packDecodesRow.domain false w args ∧ laidMetH Tryd.prog laid3 w) ∧ sizedMet enc Tryd.prog Tryd.f3 (OpenSpec.ofChange Rows.packDecodesSpec) false w args) (Rows.packDecodesSpec.post enc Tryd.prog Tryd.f3 false true false false) := by
  refine returnsInHanded_of_change_and (C := Tryd.checked) (X := fun w _ => laidMetH Tryd.prog laid3 w) (fun _ _ _ hh h => h.of_heap hh) own started (by kernel_rfl) Tryd.func3
    (ChangeSpec.witness_shaped (enc := enc) (C := Tryd.checked) (os := os) (X := fun w _ => laidMetH Tryd.prog laid3 w) false (laidW os) #[.slice none 0 0] 8 (laidW_os os) (World.shaped_of_ZipB (by kernel_rfl) (by kernel_rfl)) (by kernel_rfl) (by kernel_rfl) (by kernel_rfl) (laidW_met os _)) ?_
  intro W base args ds gs before hval0 hW _ _ hL _
  obtain ⟨ea0, ea1, ea2, hE⟩ := errsN_of_laid hL
  have hval : ∀ (j : Nat) t v, Tryd.f3.params[j]? = some t → args[j]? = some v → Value.okWide Tryd.prog W .any base t v := hval0
  have hW' := hW
  obtain ⟨p, q, hA0, hV, rfl, hfz, hnd⟩ := hW
  have hA : DataW.TrodAll enc Tryd.prog W 0 (fun _ => true) true Tryd.f3.params.toList args.toList ds p := hA0
  rw [Tryd.params3] at hA hval
  obtain ⟨v0, vs0, d0, ds0, p0, q0, hargs, rfl, rfl, h0, r0⟩ := trodAll_cons hA
  obtain ⟨rfl, rfl, rfl⟩ := trodAll_nil r0
  obtain rfl : args = #[v0] := by cases args; simp_all
  obtain ⟨rfl, rfl⟩ := trodVars_none hV
  obtain ⟨a0, len0, cap0, rfl⟩ := okWide_slice Tryd.underlying22 (hval 0 22 v0 rfl rfl)
  have k0 := h0
  have lt0 : ∀ x ∈ p0, x.block < W.heap.size := by obtain ⟨m, hm⟩ := k0; exact DataW.trod_lt m _ _ _ hm
  obtain ⟨bd0, hlen0, hS0, hcap0, hmax0⟩ : ∃ d : ByteArray, d.size = len0 ∧ Sl W W.heap.size 1 a0 len0 (bytesC d) ∧ len0 ≤ cap0 ∧ cap0 ≤ maxLen := by
    obtain ⟨fuel, hf⟩ := h0
    exact open_bytes hf lt0
  clear hA0 hval0
  refine (walk bd0.data.toList a0 len0 cap0 ea0 ea1 ea2 W hE (by rw [← bytes_u8]; exact hS0) (by rw [← hlen0]; exact Array.length_toList) hcap0 hmax0).mono fun e W' ⟨he, bel⟩ => ?_
  subst he
  exact ⟨_, rfl, _, _, _, [], _, [], hW', trodAll_mk1 (shut_bool Tryd.underlying4 _), (trodAll_cons_mk (Below.trod laidOut (by kernel_rfl) (of_decide_eq_true (by kernel_rfl)) k0 bel lt0) trodAll_mk0), rfl, bel.frame _, fun h => by cases h⟩

theorem over : Rows.packDecodesRow.holds Tryd.pinned (OpenSpec.ofChange Rows.packDecodesSpec) :=
  OpenClaim.holds_of_wide 3 Tryd.f3 rfl rfl rfl rfl rfl rfl rfl ⟨rfl, rfl, rfl, rfl, rfl⟩ rfl rfl rfl rfl rfl (by kernel_rfl) Tryd.func3 (by kernel_rfl)
    (of_decide_eq_true (by kernel_rfl)) (by unfold Func.isWrapper; first | (rw [if_pos (by decide +kernel)]; kernel_rfl) | (rw [if_neg (by decide +kernel)]; exact ⟨rfl, rfl⟩))
    (fun os started H enc _ => lifted os started H enc)

theorem proved : Rows.PackDecodesCardSaid :=
  Claim7.holds_tied_plain_at .later [] [.sentinel, .sentinel, .sentinel] true (true, "0110537f8734ceb01c7f38b15ff46ac1c9a62e7462910232cd926bc6ebd3e4ff") true
    over (fun _ h => by cases h) (by kernel_rfl) (fun _ h => by cases h) packDecodes_row_tie rfl ⟨rfl, rfl⟩ (by kernel_rfl) rfl
    (fun f fn hf hfn => by
      obtain rfl : f = 3 := Option.some.inj ((show Tryd.prog.funcNamed "shunt/shuntlaw19.PackDecodes" = some 3 by kernel_rfl).symm.trans hf) |>.symm
      obtain rfl : fn = Tryd.f3 := (Option.some.inj (Tryd.func3.symm.trans hfn)).symm
      exact ⟨by kernel_rfl, fun j t ht => by
        have hm : t ∈ Tryd.f3.params.toList := Array.mem_toList_iff.2 (Array.mem_of_getElem? ht)
        rw [Tryd.params3] at hm
        have hall : (#[22].toList.all fun u => !Tryd.prog.wantsStandIn u) = true := by kernel_rfl
        exact (Bool.not_eq_true' _).mp (List.all_eq_true.1 hall t hm)⟩)
    (by kernel_rfl)
#print axioms proved
end Go.Proofs.YtgeiegjpnnbloaaDoor.packDecodesDone
