/- shuntref19.Encode. -/
import Derived.Test.YtgeiegjpnnbloaaDoorQChk
import Derived.Test.YtgeiegjpnnbloaaDoorQPut
import Derived.Test.YtgeiegjpnnbloaaDoorQCrc
namespace Go.Proofs.YtgeiegjpnnbloaaDoor
open Go.ChangeShapes Go.WideShapes Go.ChangeAt Go.ChangeMaps Go.RowKit Go.Deep

structure EncQ (W : World) (L : List UInt8) (A : Option Addr) (m c : Nat) (wr : World) : Prop where
  row : wr.ownsRow W.heap.size 5 1 (.slice A m c) m (L.flatMap u8L)
  below : Below W.heap.size W wr
theorem EncQ.len {W : World} {L : List UInt8} {A : Option Addr} {m c : Nat} {wr : World} (h : EncQ W L A m c wr) : L.length = m := by have := h.row.1; rw [u8_len] at this; omega
theorem EncQ.grew {W : World} {L : List UInt8} {A : Option Addr} {m c : Nat} {wr w' : World} (h : EncQ W L A m c wr) {A' : Option Addr} {m' c' : Nat} {L' : List UInt8} (ho : w'.ownsRow W.heap.size 5 1 (.slice A' m' c') m' (L'.flatMap u8L)) (hg : wr.grownBy w' (blkOf A)) : EncQ W L' A' m' c' w' :=
  ⟨ho, h.below.trans (below_grown hg h.below.size (own_blkP h.row))⟩
theorem EncQ.keep {W : World} {L : List UInt8} {A : Option Addr} {m c : Nat} {wr w' : World} (h : EncQ W L A m c wr) (hb : Below wr.heap.size wr w') : EncQ W L A m c w' :=
  ⟨own_grow h.row (grown_below (row := none) hb (Nat.le_refl _)) (fun q e => by cases e), h.below.trans (hb.mono h.below.size)⟩
def REncRes (s : Scr) (w : World) (e : Ending) (w' : World) : Prop := ∃ E : Int, EncRes s E w e w' ∧ (E = 0 ↔ validS s)
set_option maxRecDepth 100000 in
set_option maxHeartbeats 8000000 in
theorem renc_any (s : Scr) (w : World) (h : ScrAt w s) (hf : FitS s) : Calls Tryd.prog 17 #[.agg s.C] w (REncRes s w) := by
  have hB := Blk.new w 30 s.C
  have hb := (Below.refl w.heap.size w).alloc (Nat.le_refl _) (.cells s.C 30)
  have hsz := Scr.size h.fl h.gl
  obtain ⟨c64, c65, c66⟩ := Scr.cell h.fl h.gl
  obtain ⟨pa, hpa⟩ := Int.eq_ofNat_of_zero_le hf.p1
  obtain ⟨pb, hpb⟩ := Int.eq_ofNat_of_zero_le hf.q1
  have lpa : pa < 4294967296 := by have := hf.p2; omega
  have lpb : pb < 4294967296 := by have := hf.q2; omega
  rw [hpa, hpb, F_N, F_N] at c64
  have H := Lib.hid h; have HF := Lib.hid hf; have HPa := Lib.hid hpa; have HPb := Lib.hid hpb
  obtain ⟨W, hW⟩ : ∃ W, W = w.alloc (.cells s.C 30) := ⟨_, rfl⟩
  have hWs : W.heap.size = w.heap.size + 1 := by rw [hW, World.size_alloc]
  rw [← hW] at hB hb
  have HW := Lib.hid hW
  obtain ⟨x, hx⟩ : ∃ x, N pa = x := ⟨_, rfl⟩
  obtain ⟨y, hy⟩ : ∃ x, N pb = x := ⟨_, rfl⟩
  have HOf := Lib.hid (fun w => rof_any pa pb lpa lpb w)
  rw [hx, hy] at c64 HOf
  have HC64 := Lib.hid c64; have HC65 := Lib.hid c65; have HC66 := Lib.hid c66; have HSz := Lib.hid hsz
  have hBl := hB.lt
  have hbs := hb.size
  clear hW h hf hpa hpb hx hy c64 c65 c66 hsz
  go_enter Tryd.func17, Tryd.ntmps17
  go_upto_region 1 with (fail)
  rw [← HW.out]
  go_upto_region 2 with (first | (refine wpList_load_scr rfl (.tmp 1) rfl w.heap.size (by kernel_rfl) s.C HSz.out hB ?_; simp only [Act.put, List.setIfInBounds_toArray, List.set_cons_zero, List.set_cons_succ]) | (go_at_call 30; refine (rchk_any s _ (H.out.keep hb) HF.out).mono ?_; rintro e w1 ⟨E, rfl, hE, hb1⟩))
  by_cases hE0 : E = 0
  rotate_left
  · have e0 : (E != 0) = true := bne_iff_ne.2 hE0
    have HE := Lib.hid hE; have HE0 := Lib.hid hE0
    clear hE hE0
    go_wp2
    go_ret2
    exact ⟨E, ⟨none, 0, 0, rfl, (fun _ => ⟨rfl, rfl, rfl⟩), (fun h => absurd h HE0.out), hb.trans (hb1.mono hbs)⟩, HE.out⟩
  subst hE0
  have HE := Lib.hid hE
  have hB1 := hB.below hb1 hBl
  have b64 := (hB1.cell 64).trans HC64.out
  have hl1 := hB1.lt
  have hbw1 := hb.trans (hb1.mono hbs)
  have HB1 := Lib.hid hB1
  clear hE hB1 hb1
  go_upto_region 5 with (first
    | (go_at_call 31; refine (HOf.out _).mono ?_; rintro e w2 ⟨rfl, hb2⟩)
    | (refine wpList_store_new rfl _ _ _ rfl _ _ _ rfl rfl (by kernel_rfl) (by rfl) (by kernel_rfl) ?_; simp only [Act.put, List.setIfInBounds_toArray, List.set_cons_zero, List.set_cons_succ]))
  obtain ⟨gT, hgT⟩ : ∃ g, w2.heap.size = g := ⟨_, rfl⟩
  obtain ⟨W1, hW1⟩ : ∃ W1, W1 = w2.alloc (.cells #[.int .i64 pa, .int .i64 pb] 76) := ⟨_, rfl⟩
  have hBT : Blk W1 gT 76 #[.int .i64 pa, .int .i64 pb] := by rw [hW1, ← hgT]; exact Blk.new _ _ _
  have hBS : Blk W1 w.heap.size 30 s.C := by rw [hW1]; exact (HB1.out.below hb2 HB1.out.lt).alloc _
  have hbW : Below w.heap.size w W1 := by rw [hW1]; exact (hbw1.trans (hb2.mono hbw1.size)).alloc (by have := hbw1.size; have := hb2.size; omega) _
  rw [hgT, ← hW1]
  have HBT := Lib.hid hBT; have HBS := Lib.hid hBS; have HbW := Lib.hid hbW
  have hsW := hbW.size
  clear hW1 hgT hb2 b64 hl1 hbw1 HB1 hB hb hBl hBT hBS hbW hbs hWs
  have kc := Lib.run_convert_bytes_const (P := Tryd.prog) W1 22 5 #[.int .u8 115, .int .u8 104, .int .u8 110, .int .u8 116] 4 4 Tryd.underlying22 Tryd.underlying5
  obtain ⟨Wm, hWm⟩ : ∃ Wm, Wm = W1.alloc (.cells #[.int .u8 115, .int .u8 104, .int .u8 110, .int .u8 116] 5 (4, 5)) := ⟨_, rfl⟩
  replace kc : (convert 22 22 (.slice (some ⟨W1.heap.size, 0, none⟩) 4 4)).run Tryd.prog (W1.alloc (.cells #[.int .u8 115, .int .u8 104, .int .u8 110, .int .u8 116] 5)) = .ok (.slice (some ⟨W1.heap.size, 0, none⟩) 4 4) Wm := by rw [hWm]; exact kc
  have holds : ∀ j v, (([115, 104, 110, 116] : List UInt8).flatMap u8L)[j]? = some v → (Wm.alloc (.cells #[.int .u8 1] 5)).cell? ((⟨W1.heap.size, 0, none⟩ : Addr).add j) = some v := fun j v hj => by
    have hlt : W1.heap.size < Wm.heap.size := by rw [hWm, World.size_alloc]; omega
    rw [Addr.add_lit, Nat.zero_add]
    have : (Wm.alloc (.cells #[.int .u8 1] 5)).cell? ⟨W1.heap.size, j, none⟩ = Wm.cell? ⟨W1.heap.size, j, none⟩ := by
      unfold World.cell?
      rw [Below.heap_alloc Wm _ _ hlt]
    rw [this, hWm, World.cell?_alloc_mark]
    rw [← hj]
    exact List.getElem?_toArray
  have hs1 : Sl (Wm.alloc (.cells #[.int .u8 1] 5)) (Wm.alloc (.cells #[.int .u8 1] 5)).heap.size 1 (some ⟨Wm.heap.size, 0, none⟩) 1 (([1] : List UInt8).flatMap u8L) := Sl.of_own (own_fresh Wm Wm.heap.size 1 #[.int .u8 1] (Nat.le_refl _) rfl (by unfold maxLen; omega))
  have hap := fun (ty : TypeId) => run_append_full (ty := ty) (n := 4) (c2 := 1) (base := W1.heap.size) ⟨W1.heap.size, 0, none⟩ (([115, 104, 110, 116] : List UInt8).flatMap u8L) (([1] : List UInt8).flatMap u8L) rfl holds hs1 (by omega) (by omega) (by rw [hWm, World.size_alloc, World.size_alloc]; omega)
  have HAp := Lib.hid hap; have HWm := Lib.hid hWm
  clear hs1 hWm holds hap
  go_upto_region 6 with (at_builtin; refine wpList_append_full rfl _ _ rfl rfl rfl HAp.out ?_; intro A3 c3 w3 ho3 hg3)
  have hb3 : Below W1.heap.size W1 w3 := by
    have h1 : Below W1.heap.size W1 Wm := by rw [HWm.out]; exact (Below.refl _ _).alloc (Nat.le_refl _) _
    exact (h1.alloc h1.size _).trans (below_grown (B := W1.heap.size) hg3 (by rw [World.size_alloc]; have := h1.size; omega) (fun q e => by cases e))
  have hq3 : EncQ W1 markL A3 5 c3 w3 := ⟨ho3, hb3⟩
  have HQ3 := Lib.hid hq3
  have hsl3 := slot_sl (HBS.out.below hb3 HBS.out.lt) H.out.fl H.out.gl
  have hBl3 := (HBS.out.below hb3 HBS.out.lt).lt
  have HSl3 := Lib.hid hsl3.1
  have hs3 := hb3.size
  clear kc HAp HWm ho3 hg3 hb3 hq3 hsl3
  go_upto_region 7 with (at_builtin; refine wpList_append_sl (L2 := s.frm.flatMap u8L) (m := 32) rfl _ _ _ rfl Tryd.u8T rfl HQ3.out.row rfl HSl3.out (u8_one _) (by unfold maxLen; omega) (by omega) hs3 ?_; intro A4 c4 w4 ho4 hg4 ha4)
  rw [← List.flatMap_append] at ho4
  have hq4 := HQ3.out.grew ho4 hg4
  have HQ4 := Lib.hid hq4
  have hB4 := HBS.out.below hq4.below HBS.out.lt
  have hBl4 := hB4.lt
  have hs4 := hq4.below.size
  have HSl4 := Lib.hid (slot_sl hB4 H.out.fl H.out.gl).2
  clear ho4 hg4 ha4 hq4 hB4 hBl3 hs3
  go_upto_region 8 with (at_builtin; refine wpList_append_sl (L2 := s.goal.flatMap u8L) (m := 32) rfl _ _ _ rfl Tryd.u8T rfl HQ4.out.row rfl HSl4.out (u8_one _) (by unfold maxLen; omega) (by omega) hs4 ?_; intro A5 c5 w5 ho5 hg5 ha5)
  rw [← List.flatMap_append] at ho5
  have hq5 := HQ4.out.grew ho5 hg5
  have HQ5 := Lib.hid hq5
  have hT5 := HBT.out.below hq5.below HBT.out.lt
  have hs5 := hq5.below.size
  have t0 := hT5.cell 0
  have htl := hT5.lt
  clear ho5 hg5 ha5 hq5 hT5 hBl4 hs4
  go_upto_region 9 with (go_at_call 32; refine (rput_any (pa : Int) 4 (by omega) W1.heap.size _ _ _ _ _ HQ5.out.row (by omega) hs5).mono ?_; rintro e w6 ⟨A6, c6, rfl, ho6, hg6, ha6⟩)
  have hq6 := HQ5.out.grew ho6 hg6
  have HQ6 := Lib.hid hq6
  have hT6 := HBT.out.below hq6.below HBT.out.lt
  have hs6 := hq6.below.size
  have t1 := hT6.cell 1
  have htl := hT6.lt
  clear ho6 hg6 ha6 hq6 hT6 t0 hs5
  go_upto_region 10 with (go_at_call 32; refine (rput_any (pb : Int) 4 (by omega) W1.heap.size _ _ _ _ _ HQ6.out.row (by omega) hs6).mono ?_; rintro e w7 ⟨A7, c7, rfl, ho7, hg7, ha7⟩)
  have hq7 := HQ6.out.grew ho7 hg7
  have HQ7 := Lib.hid hq7
  have hB7 := HBS.out.below hq7.below HBS.out.lt
  have b65 := (hB7.cell 65).trans HC65.out
  have hBl7 := hB7.lt
  have hs7 := hq7.below.size
  clear ho7 hg7 ha7 hq7 hB7 t1 htl hs6
  go_upto_region 11 with (go_at_call 32; refine (rput_any (s.il : Int) 2 (by omega) W1.heap.size _ _ _ _ _ HQ7.out.row (by omega) hs7).mono ?_; rintro e w8 ⟨A8, c8, rfl, ho8, hg8, ha8⟩)
  have hq8 := HQ7.out.grew ho8 hg8
  have HQ8 := Lib.hid hq8
  have hB8 := HBS.out.below hq8.below HBS.out.lt
  have b66 := (hB8.cell 66).trans HC66.out
  have hBl8 := hB8.lt
  have hs8 := hq8.below.size
  clear ho8 hg8 ha8 hq8 hB8 b65 hBl7 hs7
  go_upto_region 12 with (go_at_call 32; refine (rput_any (s.rl : Int) 2 (by omega) W1.heap.size _ _ _ _ _ HQ8.out.row (by omega) hs8).mono ?_; rintro e w9 ⟨A9, c9, rfl, ho9, hg9, ha9⟩)
  have hq9 : EncQ W1 (headL s) A9 81 c9 w9 := by
    have := HQ8.out.grew ho9 hg9
    rw [← HPa.out, ← HPb.out] at this
    exact this
  have HQ9 := Lib.hid hq9
  clear ho9 hg9 ha9 hq9 b66 hBl8 hs8
  obtain ⟨RA, hRA⟩ : ∃ x, s.RA = x := ⟨_, rfl⟩
  obtain ⟨m, hm⟩ : ∃ x, s.rl = x := ⟨_, rfl⟩
  obtain ⟨rc, hrc⟩ : ∃ x, s.rc = x := ⟨_, rfl⟩
  have HRs := H.out.rs
  have HRl := H.out.rl
  have hrm := HF.out.rl
  rw [hRA, hm] at HRs
  rw [hm] at HRl hrm
  rw [hRA, hm, hrc] at HC66
  have HRs := Lib.hid HRs; have HRl := Lib.hid HRl
  clear hRA hm hrc
  go_wp2
  go_loopw [7, 8] (fun b v wr => ∃ j A m' c, j ≤ m ∧ v = .int .i64 (j : Nat) ∧ b = .slice A m' c ∧ m' ≤ 81 + 34 * j ∧ EncQ W1 (headL s ++ (s.refs.take j).flatMap refL) A m' c wr) (fun _ v _ => m - (intOf v).toNat)
  case atStart => exact ⟨0, A9, 81, c9, Nat.zero_le _, rfl, rfl, by omega, by rw [List.take_zero, List.flatMap_nil, List.append_nil]; exact HQ9.out⟩
  case round =>
  obtain ⟨j, A, m', c, hj, rfl, rfl, hmj, hq⟩ := hrel
  obtain ⟨U, hU⟩ : ∃ U, U = wr := ⟨_, rfl⟩
  subst hU
  have HQ := Lib.hid hq
  have hBU := HBS.out.below hq.below HBS.out.lt
  have b66 := (hBU.cell 66).trans HC66.out
  have hBl := hBU.lt
  have hsU := hq.below.size
  clear hq hBU
  by_cases hlt : j < m
  · have hji : (j : Int) < m := by omega
    obtain ⟨rb, ro, r, rfl, hrb, hr, hrr⟩ := Sl.getR (HRs.out.below (HbW.out.trans (HQ.out.below.mono hsW)) (Nat.le_refl _)) HRl.out H.out.r32 hlt
    have r0 := hrr 0 (.int .i64 r.1) rfl
    rw [Nat.add_zero] at r0
    have hrbl : rb < U.heap.size := by omega
    have h32 := H.out.r32 r (List.mem_of_getElem? hr)
    have HTk := Lib.hid (take_snoc' hr)
    have HRr := Lib.hid hr
    clear hrr hr
    obtain ⟨ra, rd⟩ := r
    simp only at r0 h32
    have H32 := Lib.hid h32
    clear h32
    go_upto_region 16 with (go_at_call 32; refine (rput_any ra 2 (by omega) W1.heap.size _ _ _ _ _ HQ.out.row (by omega) hsU).mono ?_; rintro e w10 ⟨A10, c10, rfl, ho10, hg10, ha10⟩)
    have hq10 := HQ.out.grew ho10 hg10
    have HQ10 := Lib.hid hq10
    have hB10 := HBS.out.below hq10.below HBS.out.lt
    have b66 := (hB10.cell 66).trans HC66.out
    have hBl10 := hB10.lt
    have hs10 := hq10.below.size
    obtain ⟨rb', ro', r', hr1, hrb', hr', hrr'⟩ := Sl.getR (HRs.out.below (HbW.out.trans (HQ10.out.below.mono hsW)) (Nat.le_refl _)) HRl.out H.out.r32 hlt
    injection hr1 with hr1
    injection hr1 with hr1 hr2
    subst hr1 hr2
    rw [HRr.out] at hr'
    injection hr' with hr'
    subst hr'
    have hsl : Sl w10 w10.heap.size 1 (some ⟨rb, ro + j * 33 + 1, none⟩) 32 (rd.flatMap u8L) := ⟨by rw [u8_len, H32.out], fun _ => ⟨rb, _, rfl, by omega, fun i v hv => by
      have := hrr' (i + 1) v (by unfold refC; rw [List.getElem?_cons_succ]; exact hv)
      rw [← this]; congr 2; omega⟩⟩
    have HSl := Lib.hid hsl
    have hrbl10 : rb < w10.heap.size := by omega
    clear ho10 hg10 ha10 hq10 hB10 hrr' hsl r0 hBl hsU hrbl
    go_upto_region 14 with (at_builtin; refine wpList_append_sl (L2 := rd.flatMap u8L) (m := 32) rfl _ _ _ rfl Tryd.u8T rfl HQ10.out.row rfl HSl.out (u8_one _) (by unfold maxLen; omega) (by omega) hs10 ?_; intro A11 c11 w11 ho11 hg11 ha11)
    rw [← List.flatMap_append] at ho11
    have hq11 := HQ10.out.grew ho11 hg11
    have hq12 : EncQ W1 (headL s ++ (s.refs.take (j + 1)).flatMap refL) A11 (m' + 2 + 32) c11 w11 := by
      rw [HTk.out, List.flatMap_append, List.flatMap_singleton]
      unfold refL
      rw [← List.append_assoc, ← List.append_assoc]
      exact hq11
    clear ho11 hg11 ha11 hq11 b66
    go_wp2
    go_roundw
    case rel => exact ⟨j + 1, A11, _, c11, by omega, by go_num, rfl, by omega, hq12⟩
    case measure => simp [intOf]; omega
  obtain rfl : j = m := by omega
  have hji : ¬ (j : Int) < j := by omega
  have hqP : EncQ W1 (preL s) A m' c U := by
    have := HQ.out
    rw [List.take_of_length_le (by rw [HRl.out]; exact Nat.le_refl _)] at this
    exact this
  have HQP := Lib.hid hqP
  have hil := (HE.out.1 (by first | rfl | trivial)).1
  obtain ⟨IA, hIA⟩ : ∃ x, s.IA = x := ⟨_, rfl⟩
  obtain ⟨n, hn⟩ : ∃ x, s.il = x := ⟨_, rfl⟩
  obtain ⟨ic, hic⟩ : ∃ x, s.ic = x := ⟨_, rfl⟩
  have HIs := H.out.is
  have HIl := H.out.il
  rw [hIA, hn] at HIs
  rw [hn] at HIl hil
  rw [hIA, hn, hic] at HC65
  have HIs := Lib.hid HIs; have HIl := Lib.hid HIl
  clear hIA hn hic hqP hlt hj
  go_wp2
  clear b66 hBl hsU
  go_loopw [7, 9] (fun b v wr => ∃ k A m c, k ≤ n ∧ v = .int .i64 (k : Nat) ∧ b = .slice A m c ∧ m ≤ 3000000 + 300 * k ∧ EncQ W1 (preL s ++ (s.ins.take k).flatMap recL) A m c wr) (fun _ v _ => n - (intOf v).toNat)
  case atStart => exact ⟨0, A, m', c, Nat.zero_le _, rfl, rfl, by omega, by rw [List.take_zero, List.flatMap_nil, List.append_nil]; exact HQP.out⟩
  case round =>
  obtain ⟨k, A, m, c, hk, rfl, rfl, hmk, hq⟩ := hrel
  obtain ⟨U, hU⟩ : ∃ U, U = wr := ⟨_, rfl⟩
  subst hU
  have HQ := Lib.hid hq
  have hBU := HBS.out.below hq.below HBS.out.lt
  have b65 := (hBU.cell 65).trans HC65.out
  have hBl := hBU.lt
  have hsU := hq.below.size
  clear hq hBU
  by_cases hlt : k < n
  · have hki : (k : Int) < n := by omega
    obtain ⟨tb, to', z, rfl, htb, hz, hcz⟩ := (HIs.out.below (HbW.out.trans (HQ.out.below.mono hsW)) (Nat.le_refl _)).get (f := Ins.list) (fun _ => rfl) HIl.out hlt
    have hzf := HF.out.ins z (List.mem_of_getElem? hz)
    have HTk := Lib.hid (take_snoc' hz)
    have hzl := bodyL_len z
    have hpd := hzf.pd
    obtain ⟨bl, hbl⟩ : ∃ l, bodyL z = l := ⟨_, rfl⟩
    have hrz : recL z = leB (bl.length : Int) 1 ++ bl ++ leB (crcF bl).toNat 4 := by rw [← hbl]; rfl
    have hbx := hbl
    unfold bodyL at hbx
    rw [hbl] at hzl
    have HRz := Lib.hid hrz
    obtain ⟨op, zp, zd, md, rf⟩ := z
    simp only at hbx hzl hpd
    have HBx := Lib.hid hbx
    have a0 := hcz 0 _ rfl; have a1 := hcz 1 _ rfl; have a2 := hcz 2 _ rfl; have a3 := hcz 3 _ rfl; have a4 := hcz 4 _ rfl
    simp only [Nat.add_zero] at a0 a1 a2 a3 a4
    have htl : tb < U.heap.size := by omega
    clear hcz hz htb hzf hbl hrz hbx
    go_upto_region 21 with (refine wpList_store_new rfl _ _ _ rfl _ _ _ rfl rfl (by kernel_rfl) (by rfl) (by kernel_rfl) ?_; simp only [Act.put, List.setIfInBounds_toArray, List.set_cons_zero, List.set_cons_succ])
    obtain ⟨gX, hgX⟩ : ∃ g, U.heap.size = g := ⟨_, rfl⟩
    obtain ⟨X, hX⟩ : ∃ X, X = U.alloc (.cells #[.int .i64 op, .string zp, .string zd, .int .i64 md, .int .i64 rf] 42) := ⟨_, rfl⟩
    have hN := Blk.new U 42 #[.int .i64 op, .string zp, .string zd, .int .i64 md, .int .i64 rf]
    rw [← hX, hgX] at hN
    have hqX : EncQ W1 (preL s ++ (s.ins.take k).flatMap recL) A m c X := by rw [hX]; exact HQ.out.keep ((Below.refl _ _).alloc (Nat.le_refl _) _)
    rw [← hX, hgX]
    have HN := Lib.hid hN; have HQX := Lib.hid hqX
    have n0 := hN.cell 0
    have hNl := hN.lt
    have hcell : (#[.int .u8 (op % 256)] : Array Value).toList = (leB op 1).flatMap u8L := by
      have := byteB_cell op 0
      simpa [leB] using this
    have HCell := Lib.hid hcell
    clear hX hgX a0 a1 a2 a3 a4 htl hN hqX b65 hBl hsU hcell
    go_upto_region 22 with (fail)
    obtain ⟨Y1, hY1⟩ : ∃ Y, Y = X.alloc (.cells #[.int .u8 (op % 256)] 5) := ⟨_, rfl⟩
    have hr1 : EncQ X (leB op 1) (some ⟨X.heap.size, 0, none⟩) 1 1 Y1 := by
      have := own_fresh X X.heap.size 1 #[.int .u8 (op % 256)] (Nat.le_refl _) rfl (by unfold maxLen; omega)
      rw [HCell.out, ← hY1] at this
      exact ⟨this, by rw [hY1]; exact (Below.refl _ _).alloc (Nat.le_refl _) _⟩
    rw [← hY1]
    have HR1 := Lib.hid hr1
    have hN1 := HN.out.below hr1.below hNl
    have n3 := hN1.cell 3
    have hNl1 := hN1.lt
    have hy1 := hr1.below.size
    clear hY1 hr1 hN1 n0
    go_upto_region 23 with (go_at_call 32; refine (rput_any md 2 (by omega) X.heap.size _ _ _ _ _ HR1.out.row (by omega) hy1).mono ?_; rintro e y2 ⟨A2, d2, rfl, ho2, hg2, ha2⟩)
    have hr2 := HR1.out.grew ho2 hg2
    have HR2 := Lib.hid hr2
    have hN2 := HN.out.below hr2.below hNl
    have n4 := hN2.cell 4
    have hNl2 := hN2.lt
    have hy2 := hr2.below.size
    clear ho2 hg2 ha2 hr2 hN2 n3 hNl1 hy1
    go_upto_region 24 with (go_at_call 32; refine (rput_any rf 2 (by omega) X.heap.size _ _ _ _ _ HR2.out.row (by omega) hy2).mono ?_; rintro e y3 ⟨A3, d3, rfl, ho3, hg3, ha3⟩)
    have hr3 := HR2.out.grew ho3 hg3
    have HR3 := Lib.hid hr3
    have hN3 := HN.out.below hr3.below hNl
    have n1 := hN3.cell 1
    have hNl3 := hN3.lt
    have hy3 := hr3.below.size
    clear ho3 hg3 ha3 hr3 hN3 n4 hNl2 hy2
    go_upto_region 25 with (go_at_call 33; refine (rtext_any zp (by omega) X.heap.size _ _ _ _ _ HR3.out.row (by omega) hy3).mono ?_; rintro e y4 ⟨A4, d4, rfl, ho4, hg4, ha4⟩)
    have hr4 := HR3.out.grew ho4 hg4
    have HR4 := Lib.hid hr4
    have hN4 := HN.out.below hr4.below hNl
    have n2 := hN4.cell 2
    have hNl4 := hN4.lt
    have hy4 := hr4.below.size
    clear ho4 hg4 ha4 hr4 hN4 n1 hNl3 hy3
    go_upto_region 26 with (go_at_call 33; refine (rtext_any zd (by omega) X.heap.size _ _ _ _ _ HR4.out.row (by omega) hy4).mono ?_; rintro e y5 ⟨A5, d5, rfl, ho5, hg5, ha5⟩)
    have hr5 := HR4.out.grew ho5 hg5
    obtain ⟨Y5, hY5⟩ : ∃ Y, Y = y5 := ⟨_, rfl⟩
    subst hY5
    rw [HBx.out] at hr5
    have hm5 := hr5.len
    rw [← hm5] at hr5 ⊢
    obtain ⟨lr, hlr⟩ : ∃ q, bl.length = q := ⟨_, rfl⟩
    rw [hlr] at hr5 hm5 hzl ⊢
    have hlr256 : lr < 256 := by omega
    have HR5 := Lib.hid hr5
    have hq5 := HQX.out.keep hr5.below
    have HQ5 := Lib.hid hq5
    have hy5 := hr5.below.size
    have hs5 := hq5.below.size
    have hcell : (#[.int .u8 (lr : Int)] : Array Value).toList = (leB (lr : Int) 1).flatMap u8L := by
      have := byteB_cell lr 0
      rw [show (lr : Int) / 2 ^ (8 * 0) % 256 = lr by simp only [Nat.mul_zero, Int.pow_zero, Int.ediv_one]; omega] at this
      exact this
    have HCell2 := Lib.hid hcell; have HLr := Lib.hid hlr
    have hne : ∀ q, blkOf A = some q → blkOf A5 ≠ some q := fun q h1 h2 => by
      have e1 := own_blkP HR5.out.row q h2
      obtain ⟨cur, e2⟩ := own_at HQX.out.row h1
      have := (Array.getElem?_eq_some_iff.1 e2).1
      omega
    have HNe := Lib.hid hne
    have HZl := Lib.hid hzl
    clear ho5 hg5 ha5 hr5 hm5 n2 hNl4 hy4 hq5 hcell hlr hne hzl
    go_upto_region 27 with (first
      | (at_builtin; refine wpList_append_one rfl (.tmp 108) (.tmp 112) 22 rfl Tryd.u8T (by kernel_rfl) HQ5.out.row #[.int .u8 (lr : Int)] (N := Y5.heap.size) (by kernel_rfl) rfl rfl (by simp [Value.oneCell']) (by unfold maxLen; omega) (by omega) hs5 ?_; intro g6 c6 w6 ho6 hg6 hat6; simp only [Act.put, List.setIfInBounds_toArray, List.set_cons_zero, List.set_cons_succ]; rw [HCell2.out, ← List.flatMap_append] at ho6; have hq6 := HQ5.out.grew ho6 hg6; have hs6 := hq6.below.size; have HSl6 := Lib.hid (Sl.of_own (own_grow HR5.out.row hg6 HNe.out)))
      | (at_builtin; refine wpList_append_sl (L2 := bl.flatMap u8L) (m := lr) rfl (.tmp 113) (.tmp 114) _ rfl Tryd.u8T rfl hq6.row rfl HSl6.out (u8_one _) (by unfold maxLen; omega) (by omega) hs6 ?_; intro A7 c7 w7 ho7 hg7 ha7; simp only [Act.put, List.setIfInBounds_toArray, List.set_cons_zero, List.set_cons_succ]))
    rw [← List.flatMap_append] at ho7
    have hq7 := hq6.grew ho7 hg7
    have hg57 := grew_own hg6 hg7 (fun q e => by
      have e' : some g6 = some q := e
      injection e' with e'
      rcases hat6 with h | h
      · left; rw [h, e']
      · right; omega)
    have hr7 := own_grow HR5.out.row hg57 (fun q e e2 => HNe.out q e e2)
    have HSl7 := Lib.hid (Sl.of_own hr7)
    have HQ7 := Lib.hid hq7
    have hs7 := hq7.below.size
    clear ho6 hg6 hat6 hq6 hs6 ho7 hg7 ha7 hq7 hg57 hr7 HSl6
    go_upto_region 19 with (first
      | (go_at_call 15; refine (rcrc_any bl _ _ _ _ HSl7.out HLr.out (by unfold maxLen; omega)).mono ?_; rintro e w8 ⟨rfl, hw⟩; rw [hw]; clear hw)
      | (go_at_call 32; refine (rput_any (((crcF bl).toNat : Nat) : Int) 4 (by omega) W1.heap.size _ _ _ _ _ HQ7.out.row (by omega) hs7).mono ?_; rintro e w9 ⟨A9, c9, rfl, ho9, hg9, ha9⟩))
    have hq9 := HQ7.out.grew ho9 hg9
    have hq10 : EncQ W1 (preL s ++ (s.ins.take (k + 1)).flatMap recL) A9 (m + 1 + lr + 4) c9 w9 := by
      rw [HTk.out, List.flatMap_append, List.flatMap_singleton, HRz.out, HLr.out]
      simp only [← List.append_assoc]
      exact hq9
    clear ho9 hg9 ha9 hq9
    have hm10 : m + 1 + lr + 4 ≤ 3000000 + 300 * (k + 1) := by omega
    obtain ⟨m10, hm10e⟩ : ∃ q, m + 1 + lr + 4 = q := ⟨_, rfl⟩
    rw [hm10e] at hq10 hm10 ⊢
    have HM10 := Lib.hid hm10e
    clear hm10e
    go_wp2
    go_roundw
    case rel => exact ⟨k + 1, A9, m10, c9, by omega, by go_num, rfl, by omega, hq10⟩
    case measure => simp [intOf]; omega
  obtain rfl : k = n := by omega
  have hki : ¬ (k : Int) < k := by omega
  have hqB : EncQ W1 (bodyE s) A m c U := by
    have := HQ.out
    rw [List.take_of_length_le (by rw [HIl.out]; exact Nat.le_refl _)] at this
    exact this
  have HQB := Lib.hid hqB
  have HSlB := Lib.hid (Sl.of_own hqB.row)
  have HLb := Lib.hid hqB.len
  clear hqB hlt hk
  go_wp2_with (first
      | (go_at_call 15; refine (rcrc_any (bodyE s) _ _ _ _ HSlB.out HLb.out (by unfold maxLen; omega)).mono ?_; rintro e w8 ⟨rfl, hw⟩; rw [hw]; clear hw)
      | (go_at_call 32; refine (rput_any (((crcF (bodyE s)).toNat : Nat) : Int) 4 (by omega) W1.heap.size _ _ _ _ _ HQB.out.row (by omega) hsU).mono ?_; rintro e w9 ⟨A9, c9, rfl, ho9, hg9, ha9⟩))
  have hq9 := HQB.out.grew ho9 hg9
  go_ret2
  exact ⟨0, ⟨A9, m + 4, c9, rfl, (fun h => absurd rfl h), (fun _ => ⟨by have := hq9.len; exact this.symm, own_lower hq9.row hsW⟩), HbW.out.trans (hq9.below.mono hsW)⟩, (by have := HE.out; simpa using this)⟩
end Go.Proofs.YtgeiegjpnnbloaaDoor
