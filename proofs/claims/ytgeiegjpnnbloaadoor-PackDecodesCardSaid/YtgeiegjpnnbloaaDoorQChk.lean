/- shuntref19.Check. -/
import Derived.Test.YtgeiegjpnnbloaaDoorQRefs
namespace Go.Proofs.YtgeiegjpnnbloaaDoor
open Go.ChangeShapes Go.WideShapes Go.ChangeAt Go.ChangeMaps Go.RowKit Go.Deep

theorem rise_eq : ∀ {l m : List Int}, l.Pairwise (· < ·) → m.Pairwise (· < ·) → (∀ a, a ∈ l ↔ a ∈ m) → l = m
  | [], [], _, _, _ => rfl
  | [], y :: m, _, _, h => by have := (h y).2 List.mem_cons_self; cases this
  | x :: l, [], _, _, h => by have := (h x).1 List.mem_cons_self; cases this
  | x :: l, y :: m, hl, hm, h => by
    rw [List.pairwise_cons] at hl hm
    have hxy : x = y := by
      have h1 := (h x).1 List.mem_cons_self
      have h2 := (h y).2 List.mem_cons_self
      rcases List.mem_cons.1 h1 with e | h1
      · exact e
      · rcases List.mem_cons.1 h2 with e | h2
        · exact e.symm
        · have := hl.1 y h2; have := hm.1 x h1; omega
    subst hxy
    rw [rise_eq hl.2 hm.2 fun a => ⟨fun ha => by
      rcases List.mem_cons.1 ((h a).1 (List.mem_cons_of_mem _ ha)) with e | h1
      · have := hl.1 a ha; omega
      · exact h1, fun ha => by
      rcases List.mem_cons.1 ((h a).2 (List.mem_cons_of_mem _ ha)) with e | h1
      · have := hm.1 a ha; omega
      · exact h1⟩]
set_option maxRecDepth 100000 in
set_option maxHeartbeats 8000000 in
theorem rchk_any (s : Scr) (w : World) (h : ScrAt w s) (hf : FitS s) : Calls Tryd.prog 30 #[.agg s.C] w (ChkS s w) := by
  have hB := Blk.new w 30 s.C
  have hb := (Below.refl w.heap.size w).alloc (Nat.le_refl _) (.cells s.C 30)
  obtain ⟨c64, c65, c66⟩ := Scr.cell h.fl h.gl
  obtain ⟨pa, hpa⟩ := Int.eq_ofNat_of_zero_le hf.p1
  obtain ⟨pb, hpb⟩ := Int.eq_ofNat_of_zero_le hf.q1
  have lpa : pa < 4294967296 := by have := hf.p2; omega
  have lpb : pb < 4294967296 := by have := hf.q2; omega
  have hok1 : okPart s.pb = true := by unfold okPart; rw [hpa]; simp; omega
  have hok2 : okPart s.pi = true := by unfold okPart; rw [hpb]; simp; omega
  rw [hpa, hpb, F_N, F_N] at c64
  have b64 := (hB.cell 64).trans c64; have b65 := (hB.cell 65).trans c65
  have hl := hB.lt
  have H := Lib.hid h; have HF := Lib.hid hf; have HO1 := Lib.hid hok1; have HO2 := Lib.hid hok2
  have HC65 := Lib.hid c65; have HC66 := Lib.hid c66
  obtain ⟨C, hC⟩ : ∃ C, s.C = C := ⟨_, rfl⟩
  rw [hC] at hB hb hl b64 b65 HC65 HC66 ⊢
  obtain ⟨x, hx⟩ : ∃ x, N pa = x := ⟨_, rfl⟩
  obtain ⟨y, hy⟩ : ∃ x, N pb = x := ⟨_, rfl⟩
  have HOf := Lib.hid (fun w => rof_any pa pb lpa lpb w)
  rw [hx, hy] at b64 HOf
  have him := h.im; have hrm := h.rm
  clear hC hx hy h hf hpa hpb hok1 hok2 c64 c65 c66
  by_cases h1 : (4096 : Int) < s.il
  · go_enter Tryd.func30, Tryd.ntmps30
    go_wp2
    go_ret
    exact ⟨_, rfl, ⟨fun h => absurd h (by decide), fun h => by have := h.1; omega⟩, hb⟩
  go_enter Tryd.func30, Tryd.ntmps30
  have hil : s.il ≤ 4096 := by omega
  have h1i : ¬ (s.il : Int) > 4096 := by omega
  have q1 : ¬ (pa : Int) < 0 := by omega
  have q2 : ¬ (pb : Int) < 0 := by omega
  have q3 : ¬ (pa : Int) > 4294967295 := by omega
  have q4 : ¬ (pb : Int) > 4294967295 := by omega
  go_upto_region 6 with (first
    | (go_at_call 31; refine (HOf.out _).mono ?_; rintro e w1 ⟨rfl, hb1⟩)
    | (refine wpList_store_new rfl _ _ _ rfl _ _ _ rfl rfl (by kernel_rfl) (by rfl) (by kernel_rfl) ?_))
  obtain ⟨W, hW⟩ : ∃ W, W = w1.alloc (.cells #[.int .i64 pa, .int .i64 pb] 76) := ⟨_, rfl⟩
  have hbW : Below w.heap.size w W := by rw [hW]; exact (hb.trans (hb1.mono hb.size)).alloc (by have := hb.size; have := hb1.size; omega) _
  have hBW : Blk W w.heap.size 30 C := by rw [hW]; exact (hB.below hb1 hl).alloc _
  rw [← hW]
  have HbW := Lib.hid hbW; have HBW := Lib.hid hBW
  obtain ⟨IA, hIA⟩ : ∃ x, s.IA = x := ⟨_, rfl⟩
  obtain ⟨n, hn⟩ : ∃ x, s.il = x := ⟨_, rfl⟩
  obtain ⟨ic, hic⟩ : ∃ x, s.ic = x := ⟨_, rfl⟩
  obtain ⟨RA, hRA⟩ : ∃ x, s.RA = x := ⟨_, rfl⟩
  obtain ⟨m, hm⟩ : ∃ x, s.rl = x := ⟨_, rfl⟩
  obtain ⟨rc, hrc⟩ : ∃ x, s.rc = x := ⟨_, rfl⟩
  have HIs := Lib.hid H.out.is; have HIl := Lib.hid H.out.il; have HRs := Lib.hid H.out.rs; have HRl := Lib.hid H.out.rl
  have hrl6 := HF.out.rl
  rw [hIA, hn] at HIs
  rw [hn] at HIl hil
  rw [hRA, hm] at HRs
  rw [hm] at HRl hrl6
  have hnn := hn
  rw [hIA, hn, hic] at HC65
  rw [hRA, hm, hrc] at HC66
  have HN := Lib.hid hn
  clear hW hB hb hl hb1 b64 b65 HOf hIA hn hic hRA hm hrc hbW hBW him hrm h1 h1i q1 q2 q3 q4 hnn
  have hWs := HbW.out.size
  have hWl := HBW.out.lt
  go_wp2
  go_loopw [5] (fun v wr => ∃ k : Nat, k ≤ n ∧ v = .int .i64 k ∧ Below W.heap.size W wr ∧ (∀ x ∈ s.ins.take k, okIns x)) (fun v _ => n - (intOf v).toNat)
  case atStart => exact ⟨0, Nat.zero_le _, rfl, Below.refl _ _, (fun x hx => by rw [List.take_zero] at hx; cases hx)⟩
  case round =>
  obtain ⟨k, hk, rfl, hbr, hok⟩ := hrel
  obtain ⟨U, hU⟩ : ∃ U, U = wr := ⟨_, rfl⟩
  subst hU
  have HOk := Lib.hid hok; have Hbr := Lib.hid hbr
  have hrs := hbr.size
  have hBr := HBW.out.below hbr hWl
  have b65 : U.cell? ⟨w.heap.size, 65, none⟩ = some (.slice IA n ic) := (hBr.cell 65).trans HC65.out
  have hl := hBr.lt
  have HBr := Lib.hid hBr
  clear hok hbr hBr
  by_cases hlt : k < n
  · have hki : (k : Int) < n := by omega
    obtain ⟨tb, to', z, rfl, htb, hz, hcz⟩ := (HIs.out.below (HbW.out.trans (Hbr.out.mono hWs)) (Nat.le_refl _)).get (f := Ins.list) (fun _ => rfl) HIl.out hlt
    have hzm := List.mem_of_getElem? hz
    have hzf := HF.out.ins z hzm
    have hzs : z.path.size ≤ 1000 ∧ z.dst.size ≤ 1000 := by have := hzf.pd; exact ⟨by omega, by omega⟩
    have HTk := Lib.hid (take_snoc' hz)
    obtain ⟨op, zp, zd, md, rf⟩ := z
    simp only at hzs
    have a0 := hcz 0 _ rfl; have a1 := hcz 1 _ rfl; have a2 := hcz 2 _ rfl; have a3 := hcz 3 _ rfl; have a4 := hcz 4 _ rfl
    simp only [Nat.add_zero] at a0 a1 a2 a3 a4
    have htl : tb < U.heap.size := by omega
    have HCk := Lib.hid (one_any ⟨op, zp, zd, md, rf⟩ hzs.1 hzs.2 U)
    unfold Ins.cells at HCk
    clear hcz hz htb hzf
    go_upto_region 10 with (go_at_call 38; refine HCk.out.mono ?_; rintro e w3 ⟨E, rfl, hE, hb3⟩)
    have hbw3 := Hbr.out.trans (hb3.mono hrs)
    have Hbw3 := Lib.hid hbw3; have HE := Lib.hid hE
    clear a0 a1 a2 a3 a4 hbw3 hE hb3
    by_cases hE0 : E = 0
    · subst hE0
      have hok1 : ∀ x ∈ s.ins.take (k + 1), okIns x := fun x hx => by
        rw [HTk.out, List.mem_append, List.mem_singleton] at hx
        exact hx.elim (HOk.out x) (fun e => e ▸ HE.out.1 rfl)
      have HOk1 := Lib.hid hok1
      clear hok1
      go_wp2
      go_roundw
      case rel => exact ⟨k + 1, by omega, by go_num, Hbw3.out, HOk1.out⟩
      case measure => simp [intOf]; omega
    · have e0 : (E != 0) = true := bne_iff_ne.2 hE0
      have HE0 := Lib.hid hE0
      clear hE0
      go_wp2
      go_ret
      exact ⟨_, rfl, ⟨fun h => absurd h HE0.out, fun h => absurd (HE.out.2 (h.2.2.1 _ hzm)) HE0.out⟩, HbW.out.trans (Hbw3.out.mono hWs)⟩
  obtain rfl : k = n := by omega
  have hki : ¬ (k : Int) < k := by omega
  have hall : ∀ x ∈ s.ins, okIns x := by
    have := HOk.out
    rwa [List.take_of_length_le (by rw [HIl.out]; exact Nat.le_refl _)] at this
  have HAll := Lib.hid hall
  have HIU := Lib.hid ((HIs.out.below (HbW.out.trans (Hbr.out.mono hWs)) (Nat.le_refl _)).more (show w.heap.size ≤ U.heap.size by omega))
  clear hall hlt hk
  go_upto_region 13 with (go_at_call 39; refine (refs_any s.ins _ k _ _ HIU.out HIl.out hil (fun x hx => by have := (HF.out.ins x hx).r1; have := (HF.out.ins x hx).r2; exact ⟨by omega, by omega⟩)).mono ?_; rintro e w4 ⟨OA, om, oc, out, rfl, hQ⟩)
  obtain ⟨V, hV⟩ : ∃ V, V = w4 := ⟨_, rfl⟩
  subst hV
  have HQ := Lib.hid hQ
  have hRO : RefsOk (s.refs.map (·.1)) (wrL s.ins) ↔ s.refs.map (·.1) = out := by
    have hmem : ∀ a, a ∈ out ↔ a ∈ wrL s.ins := by have := HQ.out.mem; rwa [List.take_length] at this
    constructor
    · intro h
      exact rise_eq h.1 HQ.out.rise fun a => (h.2 a).trans (hmem a).symm
    · intro h
      rw [h]
      exact ⟨HQ.out.rise, hmem⟩
  have hval : validS s ↔ s.refs.map (·.1) = out := by
    rw [← hRO]
    exact ⟨fun h => h.2.2.2, fun h => ⟨by rw [HN.out]; exact hil, ⟨HO1.out, HO2.out⟩, HAll.out, h⟩⟩
  have HVal := Lib.hid hval
  have hom := HQ.out.le
  rw [HIl.out] at hom
  have hBV := HBr.out.below HQ.out.below HBr.out.lt
  have b66 : V.cell? ⟨w.heap.size, 66, none⟩ = some (.slice RA m rc) := (hBV.cell 66).trans HC66.out
  have hlV := hBV.lt
  have hus := HQ.out.below.size
  have HbV := Lib.hid ((HbW.out.trans (Hbr.out.mono hWs)).trans (HQ.out.below.mono (show w.heap.size ≤ U.heap.size by omega)))
  have HBV := Lib.hid hBV
  clear hQ hRO hval hBV b65 hl
  by_cases hmm : om = m
  rotate_left
  · have hne : ((om : Int) != (m : Int)) = true := by simp; omega
    have HMm := Lib.hid hmm
    clear hmm
    go_wp2
    go_ret
    exact ⟨_, rfl, ⟨fun h => absurd h (by decide), fun h => by
      have := congrArg List.length (HVal.out.1 h)
      rw [List.length_map, HRl.out, HQ.out.len] at this
      exact absurd this.symm HMm.out⟩, HbV.out⟩
  subst hmm
  have hne : ((om : Int) != (om : Int)) = false := by simp
  go_wp2
  clear hne b66
  go_loopw [8] (fun v wr => ∃ j : Nat, j ≤ om ∧ v = .int .i64 j ∧ V.grownBy wr none ∧ (s.refs.map (·.1)).take j = out.take j) (fun v _ => om - (intOf v).toNat)
  case atStart => exact ⟨0, Nat.zero_le _, rfl, World.grownBy.refl _ _, rfl⟩
  case round =>
  obtain ⟨j, hj, rfl, hgX, heq⟩ := hrel
  obtain ⟨X, hX⟩ : ∃ X, X = wr := ⟨_, rfl⟩
  subst hX
  have HEq := Lib.hid heq
  have hbX : Below V.heap.size V X := below_grown hgX (Nat.le_refl _) (fun q e => by cases e)
  have hBX := HBV.out.below hbX HBV.out.lt
  have b66 : X.cell? ⟨w.heap.size, 66, none⟩ = some (.slice RA om rc) := (hBX.cell 66).trans HC66.out
  have hlX := hBX.lt
  have hbwX := HbV.out.trans (hbX.mono HbV.out.size)
  have HbwX := Lib.hid hbwX
  clear heq hBX hbX
  by_cases hlt : j < om
  · have hji : (j : Int) < om := by omega
    obtain ⟨rb, ro, r, rfl, hrb, hr, hrr⟩ := Sl.getR (HRs.out.below hbwX (Nat.le_refl _)) HRl.out H.out.r32 hlt
    have r0 := hrr 0 (.int .i64 r.1) rfl
    rw [Nat.add_zero] at r0
    have hrow := own_grow HQ.out.row hgX (fun q e => by cases e)
    obtain ⟨og, rfl⟩ : ∃ g, OA = some ⟨g, 0, none⟩ := by
      rcases HQ.out.row.2 with ⟨e0, h0⟩ | ⟨g, cap, cur, hv, _⟩
      · omega
      · injection hv with h1; exact ⟨g, h1⟩
    obtain ⟨y, hy⟩ : ∃ y, out[j]? = some y := ⟨_, List.getElem?_eq_getElem (by rw [HQ.out.len]; exact hlt)⟩
    have o0 := (own_row hrow).1 j (.int .i64 y) (by unfold nums; rw [List.getElem?_map, hy]; rfl)
    rw [Nat.zero_add] at o0
    have hogl : og < X.heap.size := own_in hrow og 0 rfl
    have hrbl : rb < X.heap.size := by have := HbwX.out.size; omega
    have hmr : (s.refs.map (·.1))[j]? = some r.1 := by rw [List.getElem?_map, hr]; rfl
    have HMr := Lib.hid hmr; have HY := Lib.hid hy
    clear hrr hr hrow hy hmr hbwX hrb
    obtain ⟨ra, rd⟩ := r
    simp only at r0 HMr
    by_cases hye : ra = y
    · have hyn : (ra != y) = false := by simpa using hye
      have HYe := Lib.hid hye
      clear hye
      go_upto_region 18 with (fail)
      refine wp_region_ordB (none) [(0, true), (1, true), (2, true), (3, true), (4, true), (5, true), (6, true), (7, true), (8, true), (9, true), (10, true)] (by kernel_rfl) (by kernel_rfl) fun hG0 => ?_
      repeat (first
        | (refine ord_skipB rfl (by rfl) ?_; simp only [Act.put, List.setIfInBounds_toArray, List.set_cons_zero, List.set_cons_succ])
        | (refine ord_qE rfl (by rfl) ?_; apply Exists.intro; refine ⟨fun w' hc' => ?_, ?_⟩; (focus (go_simp; (try go_bits); (try simp only [↓IntWalk.iteOmega]); with_reducible rfl)); simp only [Act.put, List.setIfInBounds_toArray, List.set_cons_zero, List.set_cons_succ]))
      refine ord_end ?_
      go_wp2
      go_roundw
      case rel =>
        refine ⟨j + 1, by omega, by go_num, grown_trans hgX hG0, ?_⟩
        rw [take_snoc' HMr.out, take_snoc' HY.out, HEq.out, HYe.out]
      case measure => simp [intOf]; omega
    · have hyn : (ra != y) = true := by simpa using hye
      have HYe := Lib.hid hye
      clear hye
      go_upto_region 18 with (fail)
      refine wp_region_ordB (none) [(0, true), (1, true), (2, true), (3, true), (4, true), (5, true), (6, true), (7, true), (8, true), (9, true), (10, true)] (by kernel_rfl) (by kernel_rfl) fun hG0 => ?_
      repeat (first
        | (refine ord_skipB rfl (by rfl) ?_; simp only [Act.put, List.setIfInBounds_toArray, List.set_cons_zero, List.set_cons_succ])
        | (refine ord_qE rfl (by rfl) ?_; apply Exists.intro; refine ⟨fun w' hc' => ?_, ?_⟩; (focus (go_simp; (try go_bits); (try simp only [↓IntWalk.iteOmega]); with_reducible rfl)); simp only [Act.put, List.setIfInBounds_toArray, List.set_cons_zero, List.set_cons_succ]))
      refine ord_end ?_
      have hbE := HbwX.out.trans (below_grown (B := w.heap.size) hG0 HbwX.out.size (fun q e => by cases e))
      go_wp2
      go_ret
      exact ⟨_, rfl, ⟨fun h => absurd h (by decide), fun h => by
        have e := HVal.out.1 h
        have h1 := HMr.out
        rw [e, HY.out] at h1
        injection h1 with h1
        exact absurd h1.symm HYe.out⟩, hbE⟩
  · obtain rfl : j = om := by omega
    have hji : ¬ (j : Int) < j := by omega
    have hfin : s.refs.map (·.1) = out := by
      have := HEq.out
      rwa [List.take_of_length_le (by rw [List.length_map, HRl.out]; exact Nat.le_refl _), List.take_of_length_le (by rw [HQ.out.len]; exact Nat.le_refl _)] at this
    have HFin := Lib.hid hfin
    clear hfin hbwX
    go_wp2
    go_ret
    exact ⟨_, rfl, ⟨fun _ => HVal.out.2 HFin.out, fun _ => rfl⟩, HbwX.out⟩
end Go.Proofs.YtgeiegjpnnbloaaDoor
