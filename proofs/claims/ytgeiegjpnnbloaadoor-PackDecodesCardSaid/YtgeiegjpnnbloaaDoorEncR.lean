/- pack.Encode of every script that can stand. Written by gen/encr.py. -/
import Derived.Test.YtgeiegjpnnbloaaDoorCheckK
namespace Go.Proofs.YtgeiegjpnnbloaaDoor
open Go.ChangeShapes Go.WideShapes Go.ChangeAt Go.ChangeMaps Go.RowKit Go.Deep

def preL (s : Scr) : List UInt8 := headL s ++ s.refs.flatMap refL
theorem refL_len {r : Int × List UInt8} (h : r.2.length = 32) : (refL r).length = 34 := by unfold refL; rw [List.length_append, leB_len, h]
theorem refs_len : ∀ {l : List (Int × List UInt8)}, (∀ r ∈ l, r.2.length = 32) → (l.flatMap refL).length = 34 * l.length
  | [], _ => rfl
  | r :: l, h => by
    rw [List.flatMap_cons, List.length_append, refL_len (h r List.mem_cons_self), refs_len fun x hx => h x (List.mem_cons_of_mem _ hx), List.length_cons]
    omega
/-- While refs are written. -/
def RefsAt (s : Scr) (W : World) (j : Nat) (v : Value) (wr : World) : Prop :=
  ∃ A c m, m = 81 + 34 * j ∧ v = .slice A m c ∧ wr.ownsRow W.heap.size 5 1 (.slice A m c) m ((headL s ++ (s.refs.take j).flatMap refL).flatMap u8L) ∧ Below W.heap.size W wr
/-- While records are written. -/
def RowsR (s : Scr) (W : World) (k : Nat) (v : Value) (wr : World) : Prop :=
  ∃ A c m, m = 81 + 34 * s.rl + ((s.ins.take k).flatMap recL).length ∧ v = .slice A m c ∧ wr.ownsRow W.heap.size 5 1 (.slice A m c) m ((preL s ++ (s.ins.take k).flatMap recL).flatMap u8L) ∧ Below W.heap.size W wr
set_option maxRecDepth 100000 in
set_option maxHeartbeats 8000000 in
theorem encode_all (s : Scr) (w : World) (h : ScrAt w s) (hrm : s.rl ≤ 65535) (hbig : s.il ≤ 4096) (hpd : ∀ x ∈ s.ins, x.path.size ≤ 1000 ∧ x.dst.size ≤ 1000) (hchk : ∀ W, Below w.heap.size w W → Calls Tryd.prog 18 #[.agg s.C] W fun e w' => e = .returned (.int .i64 0) ∧ Below W.heap.size W w') :
    Calls Tryd.prog 11 #[.agg s.C] w (EncRes s 0 w) := by
  have hB := Blk.new w 30 s.C
  have hb := (Below.refl w.heap.size w).alloc (Nat.le_refl _) (.cells s.C 30)
  have hsz := Scr.size h.fl h.gl
  have hcell := Scr.cell h.fl h.gl
  have H := Lib.hid h
  have HC := Lib.hid hchk
  obtain ⟨W, hW⟩ : ∃ W, W = w.alloc (.cells s.C 30) := ⟨_, rfl⟩
  have hWs : W.heap.size = w.heap.size + 1 := by rw [hW, World.size_alloc]
  rw [← hW] at hB hb
  have HW := Lib.hid hW
  clear hW h hchk
  have hBl := hB.lt
  go_enter Tryd.func11, Tryd.ntmps11
  go_upto_region 1 with (fail)
  rw [← HW.out]
  go_upto_region 4 with (first | (refine wpList_load_row rfl 30 (.tmp 1) rfl w.heap.size rfl 30 s.C (0, 0) _ hB Tryd.underlying30 rfl (by rw [hsz]; kernel_rfl) ?_) | (go_at_call 18; refine (HC.out _ hb).mono ?_; rintro e w1 ⟨rfl, hb1⟩))
  obtain ⟨W1, hW1⟩ : ∃ W, W = w1 := ⟨_, rfl⟩
  rw [← hW1] at hb1 ⊢
  have hB1 := hB.below hb1 hBl
  have hs1 := hb1.size
  have hB1l := hB1.lt
  have kc := Lib.run_convert_bytes_const (P := Tryd.prog) W1 22 5 #[.int .u8 115, .int .u8 104, .int .u8 110, .int .u8 116, .int .u8 1] 5 5 Tryd.underlying22 Tryd.underlying5
  obtain ⟨Wm, hWm⟩ : ∃ Wm, Wm = W1.alloc (.cells #[.int .u8 115, .int .u8 104, .int .u8 110, .int .u8 116, .int .u8 1] 5 (5, 6)) := ⟨_, rfl⟩
  replace kc : (convert 22 22 (.slice (some ⟨W1.heap.size, 0, none⟩) 5 5)).run Tryd.prog (W1.alloc (.cells #[.int .u8 115, .int .u8 104, .int .u8 110, .int .u8 116, .int .u8 1] 5)) = .ok (.slice (some ⟨W1.heap.size, 0, none⟩) 5 5) Wm := by rw [hWm]; exact kc
  have hWms : Wm.heap.size = W1.heap.size + 1 := by rw [hWm, World.size_alloc]
  have hbm : Below W1.heap.size W1 Wm := by rw [hWm]; exact (Below.refl _ _).alloc (Nat.le_refl _) _
  have hBm := hB1.below hbm hB1l
  have hsl := slot_sl hBm H.out.fl H.out.gl
  have holds : ∀ j v, (markL.flatMap u8L)[j]? = some v → Wm.cell? ((⟨W1.heap.size, 0, none⟩ : Addr).add j) = some v := fun j v hj => by
    rw [Addr.add_lit, Nat.zero_add, hWm, World.cell?_alloc_mark]
    rw [mark_cells] at hj
    rw [← hj]
    exact List.getElem?_toArray
  have hap := fun (ty : TypeId) => run_append_full (ty := ty) (n := 5) (c2 := 32) (base := W.heap.size) ⟨W1.heap.size, 0, none⟩ (markL.flatMap u8L) (s.frm.flatMap u8L) rfl holds hsl.1 (by omega) (by omega) (by omega)
  have HAp := Lib.hid hap; have Hbm := Lib.hid hbm
  clear hW1 hsl hWm holds hbm hap
  go_upto_region 5 with (at_builtin; refine wpList_append_full rfl _ _ rfl rfl rfl HAp.out ?_; intro A2 c2 w2 ho2 hg2)
  have hbW : Below w.heap.size w W1 := hb.trans (hb1.mono hb.size)
  have hbm2 : Below Wm.heap.size Wm w2 := below_grown hg2 (Nat.le_refl _) (fun g e => by cases e)
  have h12 : Below W1.heap.size W1 w2 := Hbm.out.trans (hbm2.mono Hbm.out.size)
  have hB2 := hB1.below h12 hB1l
  have h2 : Below W.heap.size W w2 := hb1.trans (h12.mono hs1)
  obtain ⟨W2, hW2⟩ : ∃ W, W = w2 := ⟨_, rfl⟩
  rw [← hW2] at ho2 hB2 h2 ⊢
  rw [← List.flatMap_append] at ho2
  have hs2 := h2.size
  have hsl2 := slot_sl hB2 H.out.fl H.out.gl
  have HO2 := Lib.hid ho2; have HSl2 := Lib.hid hsl2.2; have HbW := Lib.hid hbW
  clear ho2 hsl2 hbW hbm2 h12 hg2 hW2 hB1 hB1l hb1 hs1 HAp Hbm hBm hWms kc
  have hB2l := hB2.lt
  go_upto_region 6 with (at_builtin; refine wpList_append_sl (L2 := s.goal.flatMap u8L) (m := 32) rfl _ _ _ rfl Tryd.u8T rfl HO2.out rfl HSl2.out (u8_one _) (by unfold maxLen; omega) (by omega) hs2 ?_; intro A3 c3 w3 ho3 hg3 ha3)
  rw [← List.flatMap_append] at ho3
  have h3 : Below W.heap.size W w3 := h2.trans (below_grown hg3 hs2 (own_blkP HO2.out))
  have hB3 := hB.below h3 hBl
  obtain ⟨W3, hW3⟩ : ∃ W, W = w3 := ⟨_, rfl⟩
  rw [← hW3] at ho3 h3 hB3 ⊢
  have HO3 := Lib.hid ho3
  have hs3 := h3.size
  have hB3l := hB3.lt
  have hne : ¬ some w.heap.size = blkOf A3 := fun e => by have := own_blkP HO3.out _ e.symm; omega
  have b64 := (hB3.cell 64).trans hcell.1
  have f1 : ∀ w', (convert 44 3 (.float .f64 (F s.pb))).run Tryd.prog w' = .ok (.int .i64 s.pb) w' := fun w' => run_convert_float_int w' 44 3 .f64 .i64 _ _ (by kernel_rfl) Tryd.underlying3 (F_int H.out.pb)
  have f2 : ∀ w', (convert 44 3 (.float .f64 (F s.pi))).run Tryd.prog w' = .ok (.int .i64 s.pi) w' := fun w' => run_convert_float_int w' 44 3 .f64 .i64 _ _ (by kernel_rfl) Tryd.underlying3 (F_int H.out.pi)
  clear ho3 hg3 ha3 hW3 hB2 hB2l HO2 HSl2 h2 hs2
  go_upto_region 6 with (fail)
  refine wp_region_ordB (blkOf A3) [(0, true), (1, true), (2, true), (3, true), (4, true), (6, true), (7, true), (8, true), (9, true), (5, false), (10, false), (11, true)] (by kernel_rfl) (by kernel_rfl) fun hG0 => ?_
  repeat (first
    | (refine ord_skipB rfl (by rfl) ?_; simp only [Act.put, List.setIfInBounds_toArray, List.set_cons_zero, List.set_cons_succ])
    | (refine ord_qE rfl (by rfl) ?_; apply Exists.intro; refine ⟨fun w' hc' => ?_, ?_⟩; (focus (go_simp; (try go_bits); (try simp only [↓IntWalk.iteOmega]); with_reducible rfl)); simp only [Act.put, List.setIfInBounds_toArray, List.set_cons_zero, List.set_cons_succ]))
  refine ord_eB rfl fun K hK => ?_
  go_wp2_with (go_at_call 19; refine (put_any s.pb 4 (by omega) W.heap.size _ A3 _ c3 _ (own_drewP HO3.out) (by omega) (Nat.le_trans hs3 hG0.size)).mono ?_; rintro e w4 ⟨A4, c4, rfl, ho4, hb4, ha4⟩)
  have hG1 := grown_trans hG0 (hb4)
  refine hK.out _ _ hG1 ?_
  clear hK K
  repeat (first
    | (refine ord_skipB rfl (by rfl) ?_; simp only [Act.put, List.setIfInBounds_toArray, List.set_cons_zero, List.set_cons_succ])
    | (refine ord_qE rfl (by rfl) ?_; apply Exists.intro; refine ⟨fun w' hc' => ?_, ?_⟩; (focus (go_simp; (try go_bits); (try simp only [↓IntWalk.iteOmega]); with_reducible rfl)); simp only [Act.put, List.setIfInBounds_toArray, List.set_cons_zero, List.set_cons_succ]))
  refine ord_eB rfl fun K hK => ?_
  go_wp2_with (go_at_call 19; refine (put_any s.pi 4 (by omega) W.heap.size _ A4 _ c4 _ ho4 (by omega) (Nat.le_trans hs3 hG1.size)).mono ?_; rintro e w5 ⟨A5, c5, rfl, ho5, hb5, ha5⟩)
  have hG2 := grew_own hG1 hb5 (fun g e => (ha4 g e).imp id (fun h => Nat.le_trans hG0.size h))
  refine hK.out _ _ hG2 ?_
  clear hK K
  repeat (first
    | (refine ord_skipB rfl (by rfl) ?_; simp only [Act.put, List.setIfInBounds_toArray, List.set_cons_zero, List.set_cons_succ])
    | (refine ord_qE rfl (by rfl) ?_; apply Exists.intro; refine ⟨fun w' hc' => ?_, ?_⟩; (focus (go_simp; (try go_bits); (try simp only [↓IntWalk.iteOmega]); with_reducible rfl)); simp only [Act.put, List.setIfInBounds_toArray, List.set_cons_zero, List.set_cons_succ]))
  refine ord_end ?_
  have h5 : Below W.heap.size W w5 := h3.trans (below_grown hG2 hs3 (own_blkP HO3.out))
  have hB5 := hB.below h5 hBl
  obtain ⟨W5, hW5⟩ : ∃ W, W = w5 := ⟨_, rfl⟩
  rw [← hW5] at ho5 h5 hB5 ⊢
  have HO5 := Lib.hid ho5
  have hs5 := h5.size
  have hB5l := hB5.lt
  have hne : ¬ some w.heap.size = blkOf A5 := fun e => by have := own_blkP HO5.out _ e.symm; omega
  have b65 := (hB5.cell 65).trans hcell.2.1
  have b66 := (hB5.cell 66).trans hcell.2.2
  clear ho4 ho5 hb4 hb5 ha4 ha5 hG0 hG1 hG2 hW5 hB3 hB3l HO3 h3 hs3 b64 f1 f2
  go_upto_region 7 with (fail)
  refine wp_region_ordB (blkOf A5) [(0, true), (1, true), (2, true), (3, true), (5, true), (6, true), (7, true), (4, false), (8, false), (9, true)] (by kernel_rfl) (by kernel_rfl) fun hG0 => ?_
  repeat (first
    | (refine ord_skipB rfl (by rfl) ?_; simp only [Act.put, List.setIfInBounds_toArray, List.set_cons_zero, List.set_cons_succ])
    | (refine ord_qE rfl (by rfl) ?_; apply Exists.intro; refine ⟨fun w' hc' => ?_, ?_⟩; (focus (go_simp; (try go_bits); (try simp only [↓IntWalk.iteOmega]); with_reducible rfl)); simp only [Act.put, List.setIfInBounds_toArray, List.set_cons_zero, List.set_cons_succ]))
  refine ord_eB rfl fun K hK => ?_
  go_wp2_with (go_at_call 19; refine (put_any s.il 2 (by omega) W.heap.size _ A5 _ c5 _ (own_drewP HO5.out) (by omega) (Nat.le_trans hs5 hG0.size)).mono ?_; rintro e w6 ⟨A6, c6, rfl, ho6, hb6, ha6⟩)
  have hG1 := grown_trans hG0 (hb6)
  refine hK.out _ _ hG1 ?_
  clear hK K
  repeat (first
    | (refine ord_skipB rfl (by rfl) ?_; simp only [Act.put, List.setIfInBounds_toArray, List.set_cons_zero, List.set_cons_succ])
    | (refine ord_qE rfl (by rfl) ?_; apply Exists.intro; refine ⟨fun w' hc' => ?_, ?_⟩; (focus (go_simp; (try go_bits); (try simp only [↓IntWalk.iteOmega]); with_reducible rfl)); simp only [Act.put, List.setIfInBounds_toArray, List.set_cons_zero, List.set_cons_succ]))
  refine ord_eB rfl fun K hK => ?_
  go_wp2_with (go_at_call 19; refine (put_any s.rl 2 (by omega) W.heap.size _ A6 _ c6 _ ho6 (by omega) (Nat.le_trans hs5 hG1.size)).mono ?_; rintro e w7 ⟨A7, c7, rfl, ho7, hb7, ha7⟩)
  have hG2 := grew_own hG1 hb7 (fun g e => (ha6 g e).imp id (fun h => Nat.le_trans hG0.size h))
  refine hK.out _ _ hG2 ?_
  clear hK K
  repeat (first
    | (refine ord_skipB rfl (by rfl) ?_; simp only [Act.put, List.setIfInBounds_toArray, List.set_cons_zero, List.set_cons_succ])
    | (refine ord_qE rfl (by rfl) ?_; apply Exists.intro; refine ⟨fun w' hc' => ?_, ?_⟩; (focus (go_simp; (try go_bits); (try simp only [↓IntWalk.iteOmega]); with_reducible rfl)); simp only [Act.put, List.setIfInBounds_toArray, List.set_cons_zero, List.set_cons_succ]))
  refine ord_end ?_
  have h7 : Below W.heap.size W w7 := h5.trans (below_grown hG2 hs5 (own_blkP HO5.out))
  have hB7 := hB.below h7 hBl
  obtain ⟨W7, hW7⟩ : ∃ W, W = w7 := ⟨_, rfl⟩
  rw [← hW7] at ho7 h7 hB7 ⊢
  have ho7' : W7.ownsRow W.heap.size 5 1 (.slice A7 81 c7) 81 ((headL s).flatMap u8L) := ho7
  have HO7 := Lib.hid ho7'
  have hs7 := h7.size
  have H7 := Lib.hid h7
  have hB7l := hB7.lt
  have b65 := (hB7.cell 65).trans hcell.2.1
  have b66 := (hB7.cell 66).trans hcell.2.2
  have HHl : (headL s).length = 81 := by have := HO7.out.1; rw [u8_len] at this; omega
  clear ho6 ho7 ho7' hb6 hb7 ha6 ha7 hG0 hG1 hG2 hW7 hB5 hB5l HO5 h5 hs5 hne
  obtain ⟨RA, hRA⟩ : ∃ x, s.RA = x := ⟨_, rfl⟩
  obtain ⟨m, hm⟩ : ∃ x, s.rl = x := ⟨_, rfl⟩
  obtain ⟨rc, hrc⟩ : ∃ x, s.rc = x := ⟨_, rfl⟩
  have HRs := H.out.rs
  have HRl := H.out.rl
  rw [hRA, hm] at HRs
  rw [hm] at HRl hrm
  rw [hRA, hm, hrc] at b66
  have HM := Lib.hid hm
  have HRs := Lib.hid HRs; have HRl := Lib.hid HRl; have HHl := Lib.hid HHl
  clear hRA hm hrc
  go_wp2
  go_loopw [5, 47] (fun b v wr => ∃ j : Nat, j ≤ m ∧ v = .int .i64 j ∧ RefsAt s W j b wr) (fun _ v _ => m - (intOf v).toNat)
  case atStart => exact ⟨0, Nat.zero_le _, rfl, A7, c7, 81, rfl, rfl, by rw [List.take_zero, List.flatMap_nil, List.append_nil]; exact HO7.out, H7.out⟩
  case round =>
  obtain ⟨j, hj, rfl, A8, c8, m8, hm8, rfl, ho8, hb8⟩ := hrel
  have HO8 := Lib.hid ho8; have Hb8 := Lib.hid hb8
  have hs8 := hb8.size
  have hm8x : m8 ≤ 81 + 34 * 65535 := by omega
  have HM8 := Lib.hid hm8
  clear ho8 hm8
  by_cases hlt : j < m
  · have hji : (j : Int) < m := by omega
    obtain ⟨tb, to', r, rfl, htb, hr, hrg⟩ := (HRs.out.below (hb.trans (hb8.mono hb.size)) (Nat.le_refl _)).getR HRl.out H.out.r32 hlt
    have hr32 := H.out.r32 r (List.mem_of_getElem? hr)
    have hr33 := refC_len hr32
    have hrone := refC_one r
    have htk : (s.refs.take (j + 1)).flatMap refL = (s.refs.take j).flatMap refL ++ refL r := by rw [List.take_add_one, hr]; simp
    have HTk := Lib.hid htk
    obtain ⟨RC, hRC⟩ : ∃ a, refC r = a := ⟨_, rfl⟩
    rw [hRC] at hrg hr33 hrone
    have hrsz : RC.toArray.size = 33 := hr33
    have htl : tb < wr.heap.size := by omega
    have hpart := Lib.hid (show RC = refC r from hRC.symm)
    clear hRC hr htk htb hb8 b65 b66
    go_upto_region 11 with (first | (refine wpList_load_mid rfl 58 (.tmp 49) rfl tb (to' + j * 33) rfl RC _ hrg Tryd.underlying58 rfl (by rw [hr33]; kernel_rfl) ?_) | (refine wpList_store_new rfl 58 (.tmp 7) (.tmp 50) rfl 58 _ RC.toArray rfl rfl (by rw [hrsz]; kernel_rfl) (by rw [hrsz]; rfl) hrone ?_))
    have hN := Blk.new wr 58 RC.toArray
    obtain ⟨W9, hW9⟩ : ∃ W9, W9 = wr.alloc (.cells RC.toArray 58) := ⟨_, rfl⟩
    have h89 : Below wr.heap.size wr W9 := by rw [hW9]; exact (Below.refl _ _).alloc (Nat.le_refl _) _
    have ho9 := own_keep HO8.out (fun g o e => h89.block g (own_in HO8.out g o e))
    have hW9s : W9.heap.size = wr.heap.size + 1 := by rw [hW9, World.size_alloc]
    rw [← hW9] at hN ⊢
    have HO9 := Lib.hid ho9
    have hb9 := Hb8.out.trans (h89.mono hs8)
    have Hb9 := Lib.hid hb9
    have n0 : W9.cell? ⟨wr.heap.size, 0, none⟩ = some (.int .i64 r.1) := by rw [hN.cell, hpart.out]; rfl
    have hNl := hN.lt
    have hz9 : W.heap.size ≤ W9.heap.size := by omega
    have hneR : ¬ some wr.heap.size = blkOf A8 := fun e => by
      obtain ⟨o8, e8⟩ : ∃ o, A8 = some ⟨wr.heap.size, o, none⟩ := by
        cases A8 with
        | none => cases e
        | some ad =>
          obtain ⟨g0, o0, f0⟩ := ad
          have e2 : wr.heap.size = g0 := by injection e
          rcases HO9.out.2 with ⟨h', _⟩ | ⟨g', cap, cur, hv, _⟩
          · cases h'
          · injection hv with hv
            injection hv with hv
            injection hv with v1 v2 v3
            exact ⟨o0, by rw [e2, v3]⟩
      have := own_in HO8.out _ _ e8
      omega
    have hNs : ∀ w', W9.grownBy w' (blkOf A8) → Sl w' w'.heap.size 1 (some ⟨wr.heap.size, 1, none⟩) 32 (r.2.flatMap u8L) := fun w' hg => by
      have hN' := hN.keep (hg.block _ hNl hneR)
      refine ⟨by rw [u8_len, hr32], fun _ => ⟨wr.heap.size, 1, rfl, hN'.lt, fun i v hi => ?_⟩⟩
      rw [hN'.cell, hpart.out]
      unfold refC
      rw [List.getElem?_toArray, Nat.add_comm, List.getElem?_cons_succ]
      exact hi
    have HNs := Lib.hid hNs
    clear hW9 ho9 h89 hb9 hrg hr33 hrsz hrone htl hpart hNs
    refine wp_region_ordB (blkOf A8) [(0, true), (1, true), (2, true), (4, true), (5, true), (3, false), (6, false), (7, true)] (by kernel_rfl) (by kernel_rfl) fun hG0 => ?_
    repeat (first
      | (refine ord_skipB rfl (by rfl) ?_; simp only [Act.put, List.setIfInBounds_toArray, List.set_cons_zero, List.set_cons_succ])
      | (refine ord_qE rfl (by rfl) ?_; apply Exists.intro; refine ⟨fun w' hc' => ?_, ?_⟩; (focus (go_simp; (try go_bits); (try simp only [↓IntWalk.iteOmega]); with_reducible rfl)); simp only [Act.put, List.setIfInBounds_toArray, List.set_cons_zero, List.set_cons_succ]))
    refine ord_eB rfl fun K hK => ?_
    go_wp2_with (go_at_call 19; refine (put_any r.1 2 (by omega) W.heap.size _ A8 _ c8 _ (own_drewP HO9.out) (by omega) (Nat.le_trans hz9 hG0.size)).mono ?_; rintro e w10 ⟨A10, c10, rfl, ho10, hb10, ha10⟩)
    have hG1 := grown_trans hG0 (hb10)
    refine hK.out _ _ hG1 ?_
    clear hK K
    repeat (first
      | (refine ord_skipB rfl (by rfl) ?_; simp only [Act.put, List.setIfInBounds_toArray, List.set_cons_zero, List.set_cons_succ])
      | (refine ord_qE rfl (by rfl) ?_; apply Exists.intro; refine ⟨fun w' hc' => ?_, ?_⟩; (focus (go_simp; (try go_bits); (try simp only [↓IntWalk.iteOmega]); with_reducible rfl)); simp only [Act.put, List.setIfInBounds_toArray, List.set_cons_zero, List.set_cons_succ]))
    refine ord_eB rfl fun K hK => ?_
    go_wp2_with (at_builtin; refine wpList_append_sl (L2 := r.2.flatMap u8L) (m := 32) rfl _ _ _ rfl Tryd.u8T rfl ho10 rfl (HNs.out _ hG1) (u8_one _) (by unfold maxLen; omega) (by omega) (Nat.le_trans hz9 hG1.size) ?_; intro A12 c12 w12 ho12 hg12 ha12)
    have hG2 := grew_own hG1 hg12 (fun g e => (ha10 g e).imp id (fun h => Nat.le_trans hG0.size h))
    refine hK.out _ _ hG2 ?_
    clear hK K
    repeat (first
      | (refine ord_skipB rfl (by rfl) ?_; simp only [Act.put, List.setIfInBounds_toArray, List.set_cons_zero, List.set_cons_succ])
      | (refine ord_qE rfl (by rfl) ?_; apply Exists.intro; refine ⟨fun w' hc' => ?_, ?_⟩; (focus (go_simp; (try go_bits); (try simp only [↓IntWalk.iteOmega]); with_reducible rfl)); simp only [Act.put, List.setIfInBounds_toArray, List.set_cons_zero, List.set_cons_succ]))
    refine ord_end ?_
    have h12 := Hb9.out.trans (below_grown hG2 hz9 (own_blkP HO9.out))
    have H12 := Lib.hid h12; have HO12 := Lib.hid ho12
    clear n0 hNl hN hG0 hG1 hG2 hb10 ha10 ho10 ho12 hg12 ha12 h12
    go_wp2
    go_roundw
    case rel =>
      refine ⟨j + 1, by omega, by go_num, A12, c12, m8 + 2 + 32, by have := HM8.out; omega, rfl, ?_, H12.out⟩
      have hh := HO12.out
      have e3 : headL s ++ ((s.refs.take j).flatMap refL ++ refL r) = (headL s ++ (s.refs.take j).flatMap refL ++ leB r.1 2) ++ r.2 := by
        rw [show refL r = leB r.1 2 ++ r.2 from rfl]
        simp only [List.append_assoc]
      rw [HTk.out, e3, List.flatMap_append (ys := r.2)]
      exact hh
    case measure => simp [intOf]; omega
  obtain rfl : j = m := by omega
  have hji : ¬ (j : Int) < j := by omega
  have hpre : headL s ++ (s.refs.take j).flatMap refL = preL s := by unfold preL; rw [List.take_of_length_le (by rw [HRl.out]; exact Nat.le_refl _)]
  have ho8 := HO8.out
  rw [hpre] at ho8
  have HO7 := Lib.hid ho8; have H7 := Lib.hid Hb8.out
  obtain ⟨W7', hW7'⟩ : ∃ V, V = wr := ⟨_, rfl⟩
  subst hW7'
  have hB8 := hB.below Hb8.out hBl
  have b65' := (hB8.cell 65).trans hcell.2.1
  have hB8l := hB8.lt
  have HM8' := Lib.hid (show m8 = 81 + 34 * s.rl by have := HM.out; have := HM8.out; omega)
  have hsrl : s.rl ≤ 65535 := by have := HM.out; omega
  clear hpre ho8 b65 b66 hb8
  go_wp2
  go_loopw [5, 62] (fun v i wr => ∃ k : Nat, k ≤ s.il ∧ i = .int .i64 k ∧ RowsR s W k v wr) (fun _ i _ => s.il - (intOf i).toNat)
  case atStart => exact ⟨0, Nat.zero_le _, rfl, A8, c8, m8, by rw [List.take_zero, List.flatMap_nil, List.length_nil]; exact HM8'.out, rfl, by rw [List.take_zero, List.flatMap_nil, List.append_nil]; exact HO7.out, H7.out⟩
  case round =>
  obtain ⟨k, hk, rfl, A8, c8, m8, hm8, rfl, ho8, hb8⟩ := hrel
  clear b65' hB8 hB8l HM8' HM8 hm8x HO7 H7 HO8 Hb8 hs8
  have HO8 := Lib.hid ho8; have Hb8 := Lib.hid hb8; have HM8 := Lib.hid hm8
  have hm8b : m8 ≤ 81 + 34 * 65535 + 4096 * 2012 := by
    have h1 := recs_len (l := s.ins.take k) (fun x hx => hpd x (List.mem_of_mem_take hx))
    have h2 : (s.ins.take k).length ≤ 4096 := by rw [List.length_take]; omega
    have h3 : (s.ins.take k).length * 2012 ≤ 4096 * 2012 := Nat.mul_le_mul_right _ h2
    omega
  have hs8 := hb8.size
  clear ho8 hb8 hm8
  by_cases hlt : k < s.il
  · have hki : (k : Int) < s.il := by omega
    obtain ⟨tb, to', z, hIA, htb, hz, hcz⟩ := (H.out.is.below (hb.trans (Hb8.out.mono hb.size)) (Nat.le_refl _)).get (f := Ins.list) (fun _ => rfl) H.out.il hlt
    have a0 := hcz 0 _ rfl; have a1 := hcz 1 _ rfl; have a2 := hcz 2 _ rfl; have a3 := hcz 3 _ rfl; have a4 := hcz 4 _ rfl
    simp only [Nat.add_zero] at a0 a1 a2 a3 a4
    have hzm := hpd z (List.mem_of_getElem? hz)
    have htk : (s.ins.take (k + 1)).flatMap recL = (s.ins.take k).flatMap recL ++ recL z := by rw [List.take_add_one, hz]; simp
    have htl : tb < wr.heap.size := by omega
    obtain ⟨op, p, d, md, rf⟩ := z
    simp only at a0 a1 a2 a3 a4 hzm
    have HTk := Lib.hid htk; have HIA := Lib.hid hIA
    clear hcz hz htb htk hIA
    rw [HIA.out]
    go_upto_region 16 with (refine wpList_store_new rfl _ _ _ rfl _ _ _ rfl rfl (by kernel_rfl) (by rfl) (by kernel_rfl) ?_)
    have hN := Blk.new wr 42 #[.int .i64 op, .string p, .string d, .int .i64 md, .int .i64 rf]
    obtain ⟨W9, hW9⟩ : ∃ W9, W9 = wr.alloc (.cells #[.int .i64 op, .string p, .string d, .int .i64 md, .int .i64 rf] 42) := ⟨_, rfl⟩
    have h89 : Below wr.heap.size wr W9 := by rw [hW9]; exact (Below.refl _ _).alloc (Nat.le_refl _) _
    have ho9 := own_keep HO8.out (fun g o e => h89.block g (own_in HO8.out g o e))
    rw [← hW9] at hN ⊢
    have HO9 := Lib.hid ho9
    have hs9 := h89.size
    have hb9 := Hb8.out.trans (h89.mono hs8)
    have Hb9 := Lib.hid hb9
    clear hW9 a0 a1 a2 a3 a4 htl ho9 h89 hb9
    have n0 := hN.cell 0; have n1 := hN.cell 1; have n2 := hN.cell 2; have n3 := hN.cell 3; have n4 := hN.cell 4
    have hNl := hN.lt
    have hz9 : W.heap.size ≤ W9.heap.size := by omega
    go_wp2_with (first | (go_at_call 20; refine (record_any ⟨op, p, d, md, rf⟩ (by simp only; omega) (by simp only; omega) W9).mono ?_; rintro e w10 ⟨A10, c10, rfl, ho10, hg10, ha10⟩; have hb10 := below_grown (B := W9.heap.size) hg10 (Nat.le_refl _) (fun g e => by cases e); have ho11 := own_keep HO9.out (fun g o e => hb10.block g (own_in HO9.out g o e)); have hs10 := hb10.size; simp only at ho10) | (at_builtin; refine wpList_append_sl (L2 := (recL ⟨op, p, d, md, rf⟩).flatMap u8L) (m := 12 + p.size + d.size) rfl _ _ _ rfl Tryd.u8T rfl ho11 rfl (Sl.of_own ho10) (u8_one _) (by unfold maxLen; omega) (by omega) (Nat.le_trans hz9 hs10) ?_; intro A12 c12 w12 ho12 hg12 ha12))
    go_roundw
    case rel =>
      refine ⟨k + 1, by omega, by go_num, A12, c12, m8 + (12 + p.size + d.size), ?_, rfl, ?_, (Hb9.out.trans (hb10.mono hz9)).trans (below_grown hg12 (Nat.le_trans hz9 hs10) (own_blkP ho11))⟩
      · rw [HTk.out, List.length_append, recL_len]
        have := HM8.out
        simp only
        omega
      · rw [HTk.out, ← List.append_assoc, List.flatMap_append (xs := preL s ++ (s.ins.take k).flatMap recL)]
        exact ho12
    case measure => simp [intOf]; omega
  · obtain rfl : k = s.il := by omega
    have hki : ¬ (s.il : Int) < s.il := by omega
    have hall : preL s ++ (s.ins.take s.il).flatMap recL = bodyE s := by
      unfold bodyE preL
      rw [List.take_of_length_le (by rw [H.out.il]; exact Nat.le_refl _)]
    have hblen : (bodyE s).length = m8 := by
      have := HO8.out.1
      rw [hall, u8_len] at this
      omega
    have ho8 := HO8.out
    rw [hall] at ho8
    have henc : encL s = bodyE s ++ leB (crcF (bodyE s)).toNat 4 := rfl
    have hel : (encL s).length = m8 + 4 := by rw [henc, List.length_append, hblen, leB_len]
    obtain ⟨B, hBB⟩ : ∃ l, bodyE s = l := ⟨_, rfl⟩
    rw [hBB] at ho8 hblen henc
    have HO := Lib.hid ho8; have HEnc := Lib.hid henc; have HEl := Lib.hid hel; have HBl := Lib.hid hblen
    clear hall ho8 henc hel hBB hblen
    go_wp2_with (first | (go_at_call 21; refine (crc_any B A8 m8 c8 wr (Sl.of_own HO.out) HBl.out (by unfold maxLen; omega)).mono ?_; rintro e w20 ⟨rfl, hb20⟩; have ho20 := own_keep HO.out (fun g o e => hb20.block g (own_in HO.out g o e)); have hs20 := hb20.size) | (go_at_call 19; refine (put_any _ 4 (by omega) W.heap.size _ A8 _ c8 w20 ho20 (by omega) (Nat.le_trans hs8 hs20)).mono ?_; rintro e w21 ⟨A21, c21, rfl, ho21, hg21, ha21⟩))
    go_ret2
    have hW0 := hb.size
    have h20 := Hb8.out.trans (hb20.mono hs8)
    have h21 := h20.trans (below_grown hg21 h20.size (own_blkP ho20))
    refine ⟨A21, m8 + 4, c21, rfl, fun h => absurd rfl h, fun _ => ⟨HEl.out.symm, ?_⟩, hb.trans (h21.mono hW0)⟩
    rw [HEnc.out]
    exact own_lower ho21 hW0
end Go.Proofs.YtgeiegjpnnbloaaDoor
