/- shuntref19.read. -/
import Derived.Test.YtgeiegjpnnbloaaDoorQReadA
namespace Go.Proofs.YtgeiegjpnnbloaaDoor
open Go.ChangeShapes Go.WideShapes Go.ChangeAt Go.ChangeMaps Go.RowKit Go.Deep

/-- The script while the digests are read. -/
def digS (l : List UInt8) (k j : Nat) : Scr := ⟨part32 (l.drop 5) k, part32 (l.drop 37) j, 0, 0, [], [], none, 0, 0, none, 0, 0⟩
theorem rget_c (l : List UInt8) (A : Option Addr) (n c at_ k : Nat) (w : World) (hA : Sl w w.heap.size 1 A n (l.flatMap u8L)) (hn : l.length = n) (hm : n ≤ 1000000) (hk : at_ + k ≤ n) (hk4 : k ≤ 4) {v : Nat} (hv : deN ((l.drop at_).take k) = v) :
    Calls Tryd.prog 14 #[.slice A n c, .int .i64 at_, .int .i64 k] w fun e w' => e = .returned (.int .i64 (v : Nat)) ∧ w' = w := by
  subst hv
  exact rget_any l A n c at_ k w hA hn hm hk hk4
set_option maxRecDepth 100000 in
set_option maxHeartbeats 8000000 in
theorem rread_any (l : List UInt8) (A : Option Addr) (n c : Nat) (w : World) (hA : Sl w w.heap.size 1 A n (l.flatMap u8L)) (hn : l.length = n) (h85 : 85 ≤ n) (hm : n ≤ 1000000) (hnc : n ≤ c) (hcm : c ≤ maxLen) :
    Calls Tryd.prog 16 #[.slice A n c] w (QReadRes l w) := by
  unfold maxLen at hcm
  have HA := Lib.hid hA; have HN := Lib.hid hn
  obtain ⟨b, o, x0, rfl, hbl, hx0, hc0⟩ := hA.get (f := u8L) (fun _ => rfl) hn (show 0 < n by omega)
  have cellA : ∀ (W' : World), Below w.heap.size w W' → ∀ k, k < n → ∃ x : UInt8, l[k]? = some x ∧ W'.cell? ⟨b, o + k, none⟩ = some (.int .u8 (x.toNat : Nat)) := fun W' hb' k hk => by
    obtain ⟨b', o', x, e, _, hx, hc⟩ := (HA.out.below hb' (Nat.le_refl _)).get (f := u8L) (fun _ => rfl) HN.out hk
    injection e with e
    injection e with e1 e2
    subst e1 e2
    exact ⟨x, hx, by have := hc 0 _ rfl; simpa using this⟩
  have CellA := Lib.hid cellA
  have hone : ∀ (k : Nat) (x : UInt8), l[k]? = some x → deN ((l.drop k).take 1) = x.toNat := fun k x hx => by
    have hk := (List.getElem?_eq_some_iff.1 hx).1
    rw [List.drop_eq_getElem_cons hk]
    have : l[k] = x := (List.getElem?_eq_some_iff.1 hx).2
    rw [this]
    rfl
  have HOne := Lib.hid hone
  clear cellA hone hA hn hc0 hx0 x0
  obtain ⟨W, hW⟩ : ∃ W, W = (w.alloc (.cells Tryd.zeroCells30 30)).alloc (.cells Tryd.zeroCells30 30) := ⟨_, rfl⟩
  have h0 : RdC w W (digS l 0 0).C := by
    have e : (digS l 0 0) = zeroScr := rfl
    rw [hW, e, ← zero_cells]
    refine ⟨?_, ?_, ?_⟩
    · have := Blk.new (w.alloc (.cells Tryd.zeroCells30 30)) 30 Tryd.zeroCells30
      rwa [World.size_alloc] at this
    · rw [← zero_cells]; exact (Blk.new w _ _).alloc _
    · exact ((Below.refl _ _).alloc (Nat.le_refl _) _).alloc (by simp) _
  have HW := Lib.hid hW; have H0 := Lib.hid h0
  clear hW h0
  go_enter Tryd.func16, Tryd.ntmps16
  go_upto_region 2 with (fail)
  rw [← HW.out]
  go_wp2
  go_loopw [5] (fun v wr => ∃ k : Nat, k ≤ 32 ∧ v = .int .i64 k ∧ RdC w wr (digS l k k).C) (fun v _ => 32 - (intOf v).toNat)
  case atStart => exact ⟨0, by omega, rfl, H0.out⟩
  case round =>
  obtain ⟨k, hk, rfl, hR⟩ := hrel
  by_cases hlt : k < 32
  · have hki : (k : Int) < 32 := by omega
    obtain ⟨x, hx, ax⟩ := CellA.out wr hR.below (5 + k) (by omega)
    have hdl : (l.drop 5)[k]? = some x := by rw [List.getElem?_drop]; exact hx
    have hf : (digS l k k).frm.length = 32 := part32_len (by rw [List.length_drop, HN.out]; omega) hk
    have hg : (digS l k k).goal.length = 32 := part32_len (by rw [List.length_drop, HN.out]; omega) hk
    obtain ⟨y, hy⟩ := Scr.cell_frm hf hlt
    have z1 := (hR.blk.cell k).trans hy
    have hf1 := hR.blk.unfr k
    have hl1 := hR.blk.lt
    have hbl1 : b < wr.heap.size := by omega
    have HR := Lib.hid hR
    have HS := Lib.hid (set_frm hf hlt x)
    have HF := Lib.hid hf; have HG := Lib.hid hg; have HX := Lib.hid hdl
    clear hR hf hg hdl hx hy
    go_upto_region 6 with (fail)
    obtain ⟨W1, hW1⟩ : ∃ W1, W1 = wr.setCell ⟨w.heap.size + 1, k, none⟩ (.int .u8 (x.toNat : Nat)) := ⟨_, rfl⟩
    have hR1 : RdC w W1 (digS l (k + 1) k).C := by
      have := HR.out.set k (.int .u8 (x.toNat : Nat))
      rw [← hW1, HS.out] at this
      have e : (digS l k k).frm.set k x = part32 (l.drop 5) (k + 1) := part32_set hlt HX.out
      rw [e] at this
      exact this
    rw [← hW1]
    clear hW1 HS z1 hf1 hl1 hbl1 HR ax
    obtain ⟨x2, hx2, ax2⟩ := CellA.out W1 hR1.below (37 + k) (by omega)
    have hdl2 : (l.drop 37)[k]? = some x2 := by rw [List.getElem?_drop]; exact hx2
    have hf2 : (digS l (k + 1) k).frm.length = 32 := part32_len (by rw [List.length_drop, HN.out]; omega) (by omega)
    obtain ⟨y2, hy2⟩ := Scr.cell_goal hf2 HG.out hlt
    have z2 := (hR1.blk.cell (32 + k)).trans hy2
    have hf1 := hR1.blk.unfr (32 + k)
    have hl1 := hR1.blk.lt
    have hbl1 : b < W1.heap.size := by omega
    have HR1 := Lib.hid hR1
    have HS := Lib.hid (set_goal hf2 HG.out hlt x2)
    have HX2 := Lib.hid hdl2
    clear hR1 hdl2 hx2 hy2 hf2
    go_wp2
    obtain ⟨W2, hW2⟩ : ∃ W2, W2 = W1.setCell ⟨w.heap.size + 1, 32 + k, none⟩ (.int .u8 (x2.toNat : Nat)) := ⟨_, rfl⟩
    have hR2 : RdC w W2 (digS l (k + 1) (k + 1)).C := by
      have := HR1.out.set (32 + k) (.int .u8 (x2.toNat : Nat))
      rw [← hW2, HS.out] at this
      have e : (digS l (k + 1) k).goal.set k x2 = part32 (l.drop 37) (k + 1) := part32_set hlt HX2.out
      rw [e] at this
      exact this
    rw [← hW2]
    go_roundw
    case rel => exact ⟨k + 1, by omega, by go_num, hR2⟩
    case measure => simp [intOf]; omega
  · obtain rfl : k = 32 := by omega
    have hf : (digS l 32 32).frm.length = 32 := part32_len (by rw [List.length_drop, HN.out]; omega) hk
    have hg : (digS l 32 32).goal.length = 32 := part32_len (by rw [List.length_drop, HN.out]; omega) hk
    obtain ⟨pb, hpb⟩ : ∃ x, deN ((l.drop 69).take 4) = x := ⟨_, rfl⟩
    obtain ⟨pi, hpi⟩ : ∃ x, deN ((l.drop 73).take 4) = x := ⟨_, rfl⟩
    obtain ⟨il, hil⟩ : ∃ x, deN ((l.drop 77).take 2) = x := ⟨_, rfl⟩
    obtain ⟨rl, hrl⟩ : ∃ x, deN ((l.drop 79).take 2) = x := ⟨_, rfl⟩
    have lpb := deN_lt ((l.drop 69).take 4)
    have lpi := deN_lt ((l.drop 73).take 4)
    have lil := deN_lt ((l.drop 77).take 2)
    have lrl := deN_lt ((l.drop 79).take 2)
    rw [List.length_take, List.length_drop, HN.out, Nat.min_eq_left (by omega)] at lpb lpi lil lrl
    rw [hpb] at lpb
    rw [hpi] at lpi
    rw [hil] at lil
    rw [hrl] at lrl
    simp only [Nat.reducePow] at lpb lpi lil lrl
    have HPb := Lib.hid hpb; have HPi := Lib.hid hpi; have HIl := Lib.hid hil; have HRl := Lib.hid hrl
    obtain ⟨c64, c65, c66⟩ := Scr.cell hf hg
    obtain ⟨V, hV⟩ : ∃ V, V = wr := ⟨_, rfl⟩
    subst hV
    have slA : ∀ (W' : World), Below w.heap.size w W' → Sl W' W'.heap.size 1 (some ⟨b, o, none⟩) n (l.flatMap u8L) := fun W' hb' => (HA.out.below hb' (Nat.le_refl _)).more hb'.size
    have SlA := Lib.hid slA
    clear hpb hpi hil hrl hlt slA
    have tok : True := trivial
    go_upto_region 7 with (fail)
    go_upto_region 8 with (first
      | (go_at_call 14; have _t := tok; clear tok _t; refine (rget_c l _ n c 69 4 _ (SlA.out _ hR.below) HN.out hm (by omega) (by omega) HPb.out).mono ?_; rintro e w1 ⟨rfl, hw⟩; rw [hw]; clear hw)
      | (go_at_call 14; refine (rget_c l _ n c 73 4 _ (SlA.out _ hR.below) HN.out hm (by omega) (by omega) HPi.out).mono ?_; rintro e w1 ⟨rfl, hw⟩; rw [hw]; clear hw)
      | (go_at_call 28; refine (rcomplex_any pb pi _).mono ?_; rintro e w3 ⟨rfl, hb3⟩; have hR3 := hR.keep hb3; have z64 := (hR3.blk.cell 64).trans c64; have hf64 := hR3.blk.unfr 64; have hl3 := hR3.blk.lt; have hst : (store ⟨w.heap.size + 1, 64, none⟩ (.complex .f64 (F pb) (F pi))).run Tryd.prog w3 = .ok () (w3.setCell ⟨w.heap.size + 1, 64, none⟩ (.complex .f64 (F pb) (F pi))) := (by rw [run_store Tryd.prog w3 _ _ _ rfl]; simp [z64, hf64])))
    obtain ⟨W7, hW7⟩ : ∃ W1, W1 = w3.setCell ⟨w.heap.size + 1, 64, none⟩ (.complex .f64 (F pb) (F pi)) := ⟨_, rfl⟩
    have hR7 : RdC w W7 (rdS l pb pi [] none 0 0 [] none 0 0).C := by
      have := hR3.set 64 (.complex .f64 (F pb) (F pi))
      rw [← hW7, set_peak hf hg] at this
      have e1 : (digS l 32 32).frm = (l.drop 5).take 32 := part32_all _
      have e2 : (digS l 32 32).goal = (l.drop 37).take 32 := part32_all _
      rw [e1, e2] at this
      exact this
    rw [← hW7]
    clear hW7 z64 hf64 hl3 hst hR3 hb3 hR c64 c65 c66
    have tok : True := trivial
    go_wp2_with (first
      | (go_at_call 14; have _t := tok; clear tok _t; refine (rget_c l _ n c 77 2 _ (SlA.out _ hR7.below) HN.out hm (by omega) (by omega) HIl.out).mono ?_; rintro e w1 ⟨rfl, hw⟩; rw [hw]; clear hw)
      | (go_at_call 14; refine (rget_c l _ n c 79 2 _ (SlA.out _ hR7.below) HN.out hm (by omega) (by omega) HRl.out).mono ?_; rintro e w1 ⟨rfl, hw⟩; rw [hw]; clear hw))
    have hQ0 : RefQ l w pb pi n 0 none 0 [] W7 := ⟨hR7, World.ownsRow_nil _ _ _ _, rfl, (fun r hr => nomatch hr), (fun r hr => nomatch hr), by omega, fun s0 h0 => ⟨rfl, h0.head.rest⟩⟩
    have HQ0 := Lib.hid hQ0
    have hn4 : wrap64 ((n : Int) - 4) = ((n - 4 : Nat) : Int) := by unfold wrap64; omega
    clear hQ0 hR7 hf hg
    go_loopw [8, 10] (fun at_ i wr => ∃ k RA rc rs, i = .int .i64 (k : Nat) ∧ at_ = .int .i64 ((81 + 34 * k : Nat) : Int) ∧ k ≤ rl ∧ RefQ l w pb pi n k RA rc rs wr) (fun _ i _ => rl - (intOf i).toNat)
    case atStart => exact ⟨0, none, 0, [], rfl, rfl, Nat.zero_le _, HQ0.out⟩
    case round =>
    obtain ⟨k, RA, rc, rs, rfl, rfl, hk, hQ⟩ := hrel
    clear hn4
    obtain ⟨V, hV⟩ : ∃ V, V = wr := ⟨_, rfl⟩
    subst hV
    have HQ := Lib.hid hQ
    have hat := hQ.pos
    have hvl := hQ.c.lt
    have hz67 : (rdS l pb pi [] none 0 0 rs RA k rc).C.size = 67 := Scr.size (rd_fl (by rw [HN.out]; exact h85)) (rd_gl (by rw [HN.out]; exact h85))
    have HZ67 := Lib.hid hz67
    clear hQ hz67
    by_cases hlt : k < rl
    · have hki : (k : Int) < rl := by omega
      by_cases hend : 81 + 34 * k + 34 + 4 ≤ n
      · obtain ⟨p, hp⟩ : ∃ p, 81 + 34 * k = p := ⟨_, rfl⟩
        rw [hp] at hend ⊢
        have hen : ¬ (p : Int) + 34 > ((n - 4 : Nat) : Int) := by omega
        obtain ⟨v, hv⟩ : ∃ x, deN ((l.drop p).take 2) = x := ⟨_, rfl⟩
        have lv := deN_lt ((l.drop p).take 2)
        rw [List.length_take, List.length_drop, HN.out, Nat.min_eq_left (by omega), hv] at lv
        have HP := Lib.hid hp; have HV := Lib.hid hv
        have hdig : 32 ≤ (l.drop (p + 2)).length := by rw [List.length_drop, HN.out]; omega
        have HDig := Lib.hid hdig
        have hbel := HQ.out.c.below
        clear hp hv hdig
        go_upto_region 18 with (first
          | (go_at_call 14; refine (rget_c l _ n c p 2 _ (SlA.out _ HQ.out.c.below) HN.out hm (by omega) (by omega) HV.out).mono ?_; rintro e w1 ⟨rfl, hw⟩; rw [hw]; clear hw)
          | (refine wpList_store_new rfl _ _ _ rfl _ _ (refC (v, zero32)).toArray rfl rfl (by kernel_rfl) (by rfl) (by kernel_rfl) ?_; simp only [Act.put, List.setIfInBounds_toArray, List.set_cons_zero, List.set_cons_succ]))
        obtain ⟨gR, hgR⟩ : ∃ g, V.heap.size = g := ⟨_, rfl⟩
        obtain ⟨W17, hW17⟩ : ∃ W', W' = V.alloc (.cells (refC (v, zero32)).toArray 58) := ⟨_, rfl⟩
        have hBR : Blk W17 gR 58 (refC (v, zero32)).toArray := by rw [hW17, ← hgR]; exact Blk.new _ _ _
        have hb17 : Below V.heap.size V W17 := by rw [hW17]; exact (Below.refl _ _).alloc (Nat.le_refl _) _
        rw [← hW17, hgR]
        rw [hgR] at hb17 hvl
        have HBR := Lib.hid hBR
        clear hW17 hBR
        go_wp2
        go_loopw [12] (fun i w2 => ∃ j : Nat, j ≤ 32 ∧ i = .int .i64 j ∧ Blk w2 gR 58 (refC (v, part32 (l.drop (p + 2)) j)).toArray ∧ W17.grownBy w2 (some gR)) (fun i _ => 32 - (intOf i).toNat)
        case atStart => exact ⟨0, by omega, rfl, HBR.out, World.grownBy.refl _ _⟩
        case round =>
        obtain ⟨j, hj, rfl, hBj, hgj⟩ := hrel
        obtain ⟨U, hU⟩ : ∃ U, U = wr := ⟨_, rfl⟩
        subst hU
        have hQU := HQ.out.grow (by rw [hgR]; exact hb17) hgj hgR
        have hbU := hQU.c.below
        have hulen := hBj.lt
        by_cases hj2 : j < 32
        · have hji : (j : Int) < 32 := by omega
          obtain ⟨x, hx, ax⟩ := CellA.out U hbU (p + 2 + j) (by omega)
          have hdl : (l.drop (p + 2))[j]? = some x := by rw [List.getElem?_drop]; exact hx
          have hf := part32_len HDig.out hj
          obtain ⟨y, hy⟩ := refC_cell (a := v) hf hj2
          have z1 := (hBj.cell (1 + j)).trans hy
          have hf1 := hBj.unfr (1 + j)
          have hbl1 : b < U.heap.size := by omega
          have HX := Lib.hid hdl; have HBj := Lib.hid hBj; have HGj := Lib.hid hgj
          clear hQU hbU hf hdl hx hy hBj hgj
          go_wp2
          obtain ⟨U2, hU2⟩ : ∃ W', W' = U.setCell ⟨gR, 1 + j, none⟩ (.int .u8 (x.toNat : Nat)) := ⟨_, rfl⟩
          have hB2 : Blk U2 gR 58 (refC (v, part32 (l.drop (p + 2)) (j + 1))).toArray := by
            have := HBj.out.set (1 + j) (.int .u8 (x.toNat : Nat))
            rw [← hU2, refC_set, part32_set hj2 HX.out] at this
            exact this
          have hg2 : W17.grownBy U2 (some gR) := by rw [hU2]; exact grown_trans HGj.out (grown_put _ _ _ _)
          rw [← hU2]
          go_roundw
          case rel => exact ⟨j + 1, by omega, by go_num, hB2, hg2⟩
          case measure => simp [intOf]; omega
        · obtain rfl : j = 32 := by omega
          rw [part32_all] at hBj
          obtain ⟨dg, hdg⟩ : ∃ d, (l.drop (p + 2)).take 32 = d := ⟨_, rfl⟩
          rw [hdg] at hBj
          have hdl : dg.length = 32 := by rw [← hdg, List.length_take]; have := HDig.out; omega
          obtain ⟨CR, hCR⟩ : ∃ C, (refC ((v : Int), dg)).toArray = C := ⟨_, rfl⟩
          rw [hCR] at hBj
          have HCs := Lib.hid (show CR.size = 33 by rw [← hCR]; exact refC_size hdl)
          have HC1 := Lib.hid (show CR.all (·.oneCell') = true by rw [← hCR]; exact refC_one _)
          have HCR := Lib.hid hCR; have HDg := Lib.hid hdg; have HDl := Lib.hid hdl
          obtain ⟨CS, hCS⟩ : ∃ C, (rdS l pb pi [] none 0 0 rs RA k rc).C = C := ⟨_, rfl⟩
          have c66 := (Scr.cell (s := rdS l pb pi [] none 0 0 rs RA k rc) (rd_fl (by rw [HN.out]; exact h85)) (rd_gl (by rw [HN.out]; exact h85))).2.2
          have hC := hQU.c
          rw [hCS] at c66 hC
          have HCS := Lib.hid hCS
          have HC66 := Lib.hid c66
          have b66 : U.cell? ⟨w.heap.size + 1, 66, none⟩ = some (.slice RA k rc) := (hC.blk.cell 66).trans c66
          have HC := Lib.hid hC
          have hgl := hC.blk.lt
          have HRow := Lib.hid hQU.row
          have hbase : w.heap.size + 2 ≤ U.heap.size := hC.lt
          clear hdg hdl hCR hCS c66 hC hQU hbU hgj hlt hj
          go_upto_region 23 with (first
            | (refine wpList_load_row rfl 58 (.tmp 11) rfl gR (by kernel_rfl) 58 CR (0, 0) _ hBj Tryd.underlying58 rfl (by rw [HCs.out]; kernel_rfl) ?_; simp only [Act.put, List.setIfInBounds_toArray, List.set_cons_zero, List.set_cons_succ])
            | (refine wpList_build_one rfl 28 (.tmp 81) rfl Tryd.refT CR (by kernel_rfl) HCs.out (by decide) ?_; simp only [Act.put, List.setIfInBounds_toArray, List.set_cons_zero, List.set_cons_succ])
            | (at_builtin; refine wpList_append_one rfl (.tmp 80) (.tmp 82) 28 rfl Tryd.refT (by kernel_rfl) HRow.out CR (N := U.heap.size) (by kernel_rfl) rfl HCs.out (fun u hu => by have := HC1.out; rw [Array.all_eq_true_iff_forall_mem] at this; exact this u (by simpa using hu)) (by unfold maxLen; omega) (by omega) hbase ?_; intro g5 c5 w5 ho5 hg5 hat5; simp only [Act.put, List.setIfInBounds_toArray, List.set_cons_zero, List.set_cons_succ]; have hC5 := HC.out.grow hg5 (fun q e => own_blkP HRow.out q e); have z66 : w5.cell? ⟨w.heap.size + 1, 66, none⟩ = some (.slice RA k rc) := (hC5.blk.cell 66).trans HC66.out; have hf66 := hC5.blk.unfr 66; have hl66 := hC5.blk.lt))
          obtain ⟨W22, hW22⟩ : ∃ W', W' = w5.setCell ⟨w.heap.size + 1, 66, none⟩ (.slice (some ⟨g5, 0, none⟩) (k + 1) c5) := ⟨_, rfl⟩
          have hC22 : RdC w W22 (rdS l pb pi [] none 0 0 (rs ++ [((v : Int), dg)]) (some ⟨g5, 0, none⟩) (k + 1) c5).C := by
            have := hC5.set 66 (.slice (some ⟨g5, 0, none⟩) (k + 1) c5)
            rw [← hW22, ← HCS.out, set_refs (t := rdS l pb pi [] none 0 0 rs RA k rc) (rd_fl (by rw [HN.out]; exact h85)) (rd_gl (by rw [HN.out]; exact h85)) (l := rs ++ [((v : Int), dg)])] at this
            exact this
          have ho22 : W22.ownsRow (w.heap.size + 2) 58 33 (.slice (some ⟨g5, 0, none⟩) (k + 1) c5) (k + 1) ((rs ++ [((v : Int), dg)]).flatMap refC) := by
            rw [hW22, List.flatMap_append, List.flatMap_singleton]
            rw [← HCR.out] at ho5
            exact own_set ho5 _ _ (by show w.heap.size + 1 < w.heap.size + 2; omega)
          have hq22 : RefQ l w pb pi n (k + 1) (some ⟨g5, 0, none⟩) c5 (rs ++ [((v : Int), dg)]) W22 := by
            have hP := HP.out
            refine ⟨hC22, ho22, by rw [List.length_append, HQ.out.len]; rfl, ?_, ?_, by omega, ?_⟩
            · intro r hr
              rcases List.mem_append.1 hr with hr | hr
              · exact HQ.out.r32 r hr
              · rw [List.mem_singleton] at hr; rw [hr]; exact HDl.out
            · intro r hr
              rcases List.mem_append.1 hr with hr | hr
              · exact HQ.out.r16 r hr
              · rw [List.mem_singleton] at hr; rw [hr]; exact ⟨Int.natCast_nonneg _, by show (v : Int) ≤ 65535; omega⟩
            · intro s0 h0
              obtain ⟨e1, e2⟩ := HQ.out.inv s0 h0
              have e3 := h0.head.rl
              rw [HRl.out] at e3
              obtain ⟨r, hr, e4, e5, e6, _⟩ := step_ref e2 (by rw [h0.wf.rl, ← e3]; omega) h0.ok.refs h0.wf.r32 (by rw [HN.out]; omega)
              rw [hP, HV.out] at e4
              rw [hP, HDg.out] at e5
              refine ⟨?_, by rw [← e6, show 81 + 34 * (k + 1) = 81 + 34 * k + 34 by omega]⟩
              rw [take_snoc' hr, e1]
              congr 2
              rw [e4, e5]
          have hW22s : W22.heap.size = w5.heap.size := by rw [hW22]; simp
          rw [← hW22]
          clear hW22 hC5 z66 hf66 hl66 b66
          have hp34 : wrap64 ((p : Int) + 34) = ((81 + 34 * (k + 1) : Nat) : Int) := by have := HP.out; unfold wrap64; omega
          go_wp2
          go_roundw
          case rel => exact ⟨k + 1, _, _, _, by go_num, by first | rfl | (have := HP.out; congr 1; omega), by omega, hq22⟩
          case measure => simp [intOf]; omega
      · have hen : ((81 + 34 * k : Nat) : Int) + 34 > ((n - 4 : Nat) : Int) := by omega
        obtain ⟨C, hC⟩ : ∃ C, (rdS l pb pi [] none 0 0 rs RA k rc).C = C := ⟨_, rfl⟩
        have hE := Lib.hid hend; have hL := Lib.hid hlt
        have hB := HQ.out.c.blk
        have hZ := HQ.out.c.zero
        rw [hC] at hB HZ67
        clear hend
        go_wp2_with (first
          | (refine wpList_load_scr rfl (.tmp 4) rfl (w.heap.size + 1) (by kernel_rfl) C HZ67.out hB ?_; simp only [Act.put, List.setIfInBounds_toArray, List.set_cons_zero, List.set_cons_succ])
          | (refine wpList_store_blk rfl 30 (.tmp 2) (.tmp 60) rfl hZ C rfl rfl (by rw [HZ67.out]; kernel_rfl) (by rw [HZ67.out]; kernel_rfl) (by rw [← hC]; exact Scr.one _) ?_; intro w2 hB2 hg2 hs2; simp only [Act.put, List.setIfInBounds_toArray, List.set_cons_zero, List.set_cons_succ]))
        exact ret_cell_t rfl rfl (load_blk hB2 Tryd.underlying30 rfl (by rw [HZ67.out]; kernel_rfl)) rfl (by
          have hW := rd_wf (pb := pb) (pi := pi) (IA := none) (ic := 0) (RA := RA) (rc := rc) (show 85 ≤ l.length by rw [HN.out]; exact h85) (show ([] : List Ins).length = 0 from rfl) HQ.out.len HQ.out.r32
          have hF := rd_fit (l := l) (IA := none) (ic := 0) (RA := RA) (rc := rc) (xs := []) lpb lpi (Nat.zero_le _) (show k ≤ 65535 by omega) (fun x hx => nomatch hx) HQ.out.r16
          have hS := RdC.scr (s := rdS l pb pi [] none 0 0 rs RA k rc) HQ.out.c (World.ownsRow_nil _ _ _ _) HQ.out.row hg2 hW hF
          exact ⟨_, false, by rw [hC]; rfl, hS.1, hS.2.1, hF, hW, (fun s0 h0 => (HQ.out.stuck HN.out HRl.out hL.out hE.out s0 h0).elim), hS.2.2⟩)
    · obtain rfl : k = rl := by omega
      have hki : ¬ (k : Int) < k := by omega
      have hI0 : InsQ l w pb pi n 0 (81 + 34 * k) none 0 [] RA k rc rs V := ⟨HQ.out.c, World.ownsRow_nil _ _ _ _, HQ.out.row, rfl, (fun x hx => nomatch hx), HQ.out.pos, fun s0 h0 => by
        obtain ⟨e1, e2⟩ := HQ.out.inv s0 h0
        have e3 := h0.head.rl
        rw [HRl.out, ← h0.wf.rl] at e3
        exact ⟨rfl, by rw [e2, e3, List.drop_length]; rfl⟩⟩
      have hrs : ∀ s0, EncOf s0 l → rs = s0.refs := fun s0 h0 => by
        obtain ⟨e1, e2⟩ := HQ.out.inv s0 h0
        have e3 := h0.head.rl
        rw [HRl.out, ← h0.wf.rl] at e3
        rw [e1, e3, List.take_length]
      have HRs := Lib.hid hrs
      have HR32 := Lib.hid HQ.out.r32; have HR16 := Lib.hid HQ.out.r16; have HRsl := Lib.hid HQ.out.len
      have HI0 := Lib.hid hI0
      clear hI0 hrs hlt hk HQ HQ0 HZ67 hat hvl
      go_wp2
      go_loopw [8, 13] (fun at_ i wr => ∃ j p IA ic xs, i = .int .i64 (j : Nat) ∧ at_ = .int .i64 (p : Nat) ∧ j ≤ il ∧ InsQ l w pb pi n j p IA ic xs RA k rc rs wr) (fun _ i _ => il - (intOf i).toNat)
      case atStart => exact ⟨0, _, none, 0, [], rfl, rfl, Nat.zero_le _, HI0.out⟩
      case round =>
      obtain ⟨j, p, IA, ic, xs, rfl, rfl, hj, hI⟩ := hrel
      obtain ⟨U, hU⟩ : ∃ U, U = wr := ⟨_, rfl⟩
      subst hU
      have HI := Lib.hid hI
      have hat := hI.pos
      have hvl := hI.c.lt
      have hz67 : (rdS l pb pi xs IA j ic rs RA k rc).C.size = 67 := Scr.size (rd_fl (by rw [HN.out]; exact h85)) (rd_gl (by rw [HN.out]; exact h85))
      have hWf := rd_wf (l := l) (pb := pb) (pi := pi) (IA := IA) (ic := ic) (RA := RA) (rc := rc) (by rw [HN.out]; exact h85) hI.len HRsl.out HR32.out
      have hFt := rd_fit (l := l) (IA := IA) (ic := ic) (rs := rs) (RA := RA) (rc := rc) lpb lpi (show j ≤ 65535 by omega) (show k ≤ 65535 by omega) hI.fit HR16.out
      obtain ⟨C, hC⟩ : ∃ C, (rdS l pb pi xs IA j ic rs RA k rc).C = C := ⟨_, rfl⟩
      have hB := hI.c.blk
      have hZ := hI.c.zero
      rw [hC] at hB hz67
      have HZ67 := Lib.hid hz67; have HC := Lib.hid hC; have HWf := Lib.hid hWf; have HFt := Lib.hid hFt
      have hend : ∀ (w1 w2 : World) (ok : Bool), Below U.heap.size U w1 → w1.grownBy w2 (some w.heap.size) → (∀ s0, EncOf s0 l → ok = true ∧ EqS (rdS l pb pi xs IA j ic rs RA k rc) s0) → QReadRes l w (.returned (.tuple #[.agg C, .bool ok])) w2 := fun w1 w2 ok hbe hg2 h => by
        have hI1 := HI.out.keep hbe
        have hS := RdC.scr (s := rdS l pb pi xs IA j ic rs RA k rc) hI1.c hI1.irow hI1.rrow hg2 HWf.out HFt.out
        exact ⟨_, ok, by rw [HC.out], hS.1, hS.2.1, HFt.out, HWf.out, h, hS.2.2⟩
      have HEnd := Lib.hid hend
      clear hI hz67 hWf hFt hC hend
      by_cases hlt : j < il
      · have hji : (j : Int) < il := by omega
        have HSt := Lib.hid (HI.out.stuck HN.out HIl.out hlt)
        by_cases h1 : p + 8 + 4 ≤ n
        · have h1i : ¬ (p : Int) + 8 > ((n - 4 : Nat) : Int) := by omega
          obtain ⟨x, hx, ax⟩ := CellA.out U HI.out.c.below p (by omega)
          obtain ⟨m, hxm⟩ : ∃ m, x.toNat = m := ⟨_, rfl⟩
          have HM := Lib.hid (show deN ((l.drop p).take 1) = m by rw [HOne.out _ x hx, hxm])
          have hml : m < 256 := by rw [← hxm]; exact x.toNat_lt
          rw [hxm] at ax
          have HWm := Lib.hid (show wrap64 (m : Int) = m by unfold wrap64; omega)
          have hbU : b < U.heap.size := by omega
          clear hx hxm x
          by_cases h2 : m < 7
          · have h2i : (m : Int) < 7 := by omega
            have H2 := Lib.hid h2
            clear h2 hlt
            have hwm : ∀ [Nonempty Nat], wrap64 (m : Int) = m := (by intro _; exact HWm.out)
            go_wp2_with (first
              | (refine wpList_load_scr rfl (.tmp 4) rfl (w.heap.size + 1) (by kernel_rfl) C HZ67.out hB ?_; simp only [Act.put, List.setIfInBounds_toArray, List.set_cons_zero, List.set_cons_succ])
              | (refine wpList_store_blk rfl 30 (.tmp 2) (.tmp 113) rfl hZ C (by kernel_rfl) (by kernel_rfl) (by rw [HZ67.out]; kernel_rfl) (by rw [HZ67.out]; kernel_rfl) (by rw [← HC.out]; exact Scr.one _) ?_; intro w2 hB2 hg2 hs2; simp only [Act.put, List.setIfInBounds_toArray, List.set_cons_zero, List.set_cons_succ]))
            exact ret_cell_t rfl rfl (load_blk hB2 Tryd.underlying30 rfl (by rw [HZ67.out]; kernel_rfl)) rfl (HEnd.out _ _ false (Below.refl _ _) hg2 fun s0 h0 => by
              obtain ⟨x, m', _, _, _, h7, h8, _, _, _⟩ := HSt.out s0 h0
              rw [HM.out] at h8
              have := H2.out
              omega)
          have h2i : ¬ (m : Int) < 7 := by omega
          by_cases h3 : p + 5 + m + 4 ≤ n
          · have h3i : ¬ (p : Int) + 1 + m + 4 > ((n - 4 : Nat) : Int) := by omega
            have hwm : ∀ [Nonempty Nat], wrap64 (m : Int) = m := (by intro _; exact HWm.out)
            obtain ⟨r, hr⟩ : ∃ r, (l.drop (p + 1)).take m = r := ⟨_, rfl⟩
            have hrl : r.length = m := by rw [← hr, List.length_take, List.length_drop, HN.out]; omega
            have hslr : Sl U U.heap.size 1 (some ⟨b, o + (p + 1), none⟩) m (r.flatMap u8L) := by
              have h1 := SlA.out U HI.out.c.below
              have h2 := h1.rest1 (k := p + 1) (c := n + 1) (by omega) (by omega)
              unfold restA at h2
              rw [if_neg (by omega), u8_drop] at h2
              have h3 := h2.first (k := m) (by omega)
              rw [Nat.mul_one, u8_take, hr] at h3
              simpa [add_at] using h3
            have HSlr := Lib.hid hslr; have HRl2 := Lib.hid hrl; have HRr := Lib.hid hr
            have H3 := Lib.hid h3; have H2 := Lib.hid h2
            clear hslr hrl hr
            go_upto_region 32 with (fail)
            go_upto_region 33 with (first
              | (go_at_call 29; refine (body_any r (some ⟨b, o + (p + 1), none⟩) m (c - (p + 1)) U HSlr.out HRl2.out (by omega) (by omega) (by omega) (by unfold maxLen; omega)).mono ?_; rintro e w5 ⟨x, ok, rfl, hb5, hyes, hno⟩; obtain ⟨CX, hCX⟩ : ∃ C, x.cells = C := ⟨_, rfl⟩; rw [hCX]; have HX5 := Lib.hid (show CX.size = 5 by rw [← hCX]; rfl); have HX1 := Lib.hid (show CX.all (·.oneCell') = true by rw [Array.all_eq_true_iff_forall_mem, ← hCX]; exact fun v hv => Ins.cells_one x v (by simpa using hv)); have HYes := Lib.hid hyes; have HNo := Lib.hid hno; have HCX := Lib.hid hCX; clear hyes hno hCX)
              | (refine wpList_store_new rfl 42 (.tmp 15) (.tmp 124) rfl _ _ CX (by kernel_rfl) (by kernel_rfl) (by rw [HX5.out]; kernel_rfl) (by rw [HX5.out]; kernel_rfl) HX1.out ?_; simp only [Act.put, List.setIfInBounds_toArray, List.set_cons_zero, List.set_cons_succ]))
            obtain ⟨gX, hgX⟩ : ∃ g, w5.heap.size = g := ⟨_, rfl⟩
            obtain ⟨W6, hW6⟩ : ∃ W', W' = w5.alloc (.cells CX 42) := ⟨_, rfl⟩
            have hBX : Blk W6 gX 42 CX := by rw [hW6, ← hgX]; exact Blk.new _ _ _
            have hb6 : Below U.heap.size U W6 := by rw [hW6]; exact hb5.alloc hb5.size _
            rw [← hW6, hgX]
            clear hW6 hgX hb5 ax hB hZ
            have hI6 := HI.out.keep hb6
            have hB := hI6.c.blk
            have hZ := hI6.c.zero
            rw [HC.out] at hB
            have Hb6 := Lib.hid hb6; have HI6 := Lib.hid hI6
            clear hb6 hI6 hlt
            cases ok with
            | false =>
              go_wp2_with (first
                | (refine wpList_load_scr rfl (.tmp 4) rfl (w.heap.size + 1) (by kernel_rfl) C HZ67.out hB ?_; simp only [Act.put, List.setIfInBounds_toArray, List.set_cons_zero, List.set_cons_succ])
                | (refine wpList_store_blk rfl 30 (.tmp 2) (.tmp 128) rfl hZ C (by kernel_rfl) (by kernel_rfl) (by rw [HZ67.out]; kernel_rfl) (by rw [HZ67.out]; kernel_rfl) (by rw [← HC.out]; exact Scr.one _) ?_; intro w2 hB2 hg2 hs2; simp only [Act.put, List.setIfInBounds_toArray, List.set_cons_zero, List.set_cons_succ]))
              exact ret_cell_t rfl rfl (load_blk hB2 Tryd.underlying30 rfl (by rw [HZ67.out]; kernel_rfl)) rfl (HEnd.out _ _ false Hb6.out hg2 fun s0 h0 => by
                obtain ⟨y, m', _, hy, hm', h7, h8, h9, _, _⟩ := HSt.out s0 h0
                rw [HM.out] at h8
                subst h8
                rw [HRr.out] at h9
                exact (HNo.out (by first | rfl | trivial) y hy h9.symm).elim)
            | true =>
              have c65 := (Scr.cell (s := rdS l pb pi xs IA j ic rs RA k rc) (rd_fl (by rw [HN.out]; exact h85)) (rd_gl (by rw [HN.out]; exact h85))).2.1
              rw [HC.out] at c65
              have HC65 := Lib.hid c65
              have b65 : W6.cell? ⟨w.heap.size + 1, 65, none⟩ = some (.slice IA j ic) := (hB.cell 65).trans c65
              have hgl := hB.lt
              have hbase : w.heap.size + 2 ≤ W6.heap.size := HI6.out.c.lt
              have HRow := Lib.hid HI6.out.irow
              have hC6 := HI6.out.c
              rw [HC.out] at hC6
              have HC6 := Lib.hid hC6
              clear c65 hC6 hB hZ
              go_upto_region 36 with (first
                | (refine wpList_load_row rfl 42 (.tmp 15) rfl gX (by kernel_rfl) 42 CX (0, 0) _ hBX Tryd.underlying42 rfl (by rw [HX5.out]; kernel_rfl) ?_; simp only [Act.put, List.setIfInBounds_toArray, List.set_cons_zero, List.set_cons_succ])
                | (refine wpList_build_one rfl 27 (.tmp 131) rfl Tryd.insT CX (by kernel_rfl) HX5.out (by decide) ?_; simp only [Act.put, List.setIfInBounds_toArray, List.set_cons_zero, List.set_cons_succ])
                | (at_builtin; refine wpList_append_one rfl (.tmp 130) (.tmp 132) 27 rfl Tryd.insT (by kernel_rfl) HRow.out CX (N := W6.heap.size) (by kernel_rfl) rfl HX5.out (fun u hu => by have := HX1.out; rw [Array.all_eq_true_iff_forall_mem] at this; exact this u (by simpa using hu)) (by unfold maxLen; omega) (by omega) hbase ?_; intro g7 c7 w7 ho7 hg7 hat7; simp only [Act.put, List.setIfInBounds_toArray, List.set_cons_zero, List.set_cons_succ]; have hC7 := HC6.out.grow hg7 (fun q e => own_blkP HRow.out q e); have z65 : w7.cell? ⟨w.heap.size + 1, 65, none⟩ = some (.slice IA j ic) := (hC7.blk.cell 65).trans HC65.out; have hf65 := hC7.blk.unfr 65; have hl65 := hC7.blk.lt))
              obtain ⟨W35, hW35⟩ : ∃ W', W' = w7.setCell ⟨w.heap.size + 1, 65, none⟩ (.slice (some ⟨g7, 0, none⟩) (j + 1) c7) := ⟨_, rfl⟩
              obtain ⟨hfx, hbx⟩ := HYes.out (by first | rfl | trivial)
              have hC35 : RdC w W35 (rdS l pb pi (xs ++ [x]) (some ⟨g7, 0, none⟩) (j + 1) c7 rs RA k rc).C := by
                have := hC7.set 65 (.slice (some ⟨g7, 0, none⟩) (j + 1) c7)
                rw [← hW35, ← HC.out, set_insR (t := rdS l pb pi xs IA j ic rs RA k rc) (rd_fl (by rw [HN.out]; exact h85)) (rd_gl (by rw [HN.out]; exact h85)) (l := xs ++ [x])] at this
                exact this
              have ho35 : W35.ownsRow (w.heap.size + 2) 42 5 (.slice (some ⟨g7, 0, none⟩) (j + 1) c7) (j + 1) (insL (xs ++ [x])) := by
                rw [hW35, insL_snoc]
                rw [← HCX.out] at ho7
                exact own_set ho7 _ _ (by show w.heap.size + 1 < w.heap.size + 2; omega)
              have hr35 : W35.ownsRow (w.heap.size + 2) 58 33 (.slice RA k rc) k (rs.flatMap refC) := by
                rw [hW35]
                exact own_set (own_grow HI6.out.rrow hg7 (own_ne HRow.out HI6.out.rrow (by decide))) _ _ (by show w.heap.size + 1 < w.heap.size + 2; omega)
              have hq35 : InsQ l w pb pi n (j + 1) (p + 5 + m) (some ⟨g7, 0, none⟩) c7 (xs ++ [x]) RA k rc rs W35 := by
                have h3 := H3.out
                refine ⟨hC35, ho35, hr35, by rw [List.length_append, HI.out.len]; rfl, ?_, by omega, ?_⟩
                · intro y hy
                  rcases List.mem_append.1 hy with hy | hy
                  · exact HI.out.fit y hy
                  · rw [List.mem_singleton] at hy; rw [hy]; exact hfx
                · intro s0 h0
                  obtain ⟨e1, _⟩ := HI.out.inv s0 h0
                  obtain ⟨y, m', hy, hfy, hm', h7, h8, h9, h10, _⟩ := HSt.out s0 h0
                  rw [HM.out] at h8
                  subst h8
                  rw [HRr.out] at h9
                  refine ⟨?_, h10⟩
                  rw [take_snoc' hy, e1, body_inj hfx hfy (hbx.trans h9)]
              have hl35 : W35.heap.size = w7.heap.size := by rw [hW35]; simp
              rw [← hW35]
              clear hW35 hC7 z65 hf65 hl65 b65
              have h3 := H3.out
              clear h3i
              go_wp2
              go_roundw
              case rel => exact ⟨j + 1, p + 5 + m, _, _, _, by go_num, by first | rfl | (congr 1; omega), by omega, hq35⟩
              case measure => simp [intOf]; omega
          · have h3i : (p : Int) + 1 + m + 4 > ((n - 4 : Nat) : Int) := by omega
            have H3 := Lib.hid h3
            clear h3 hlt
            have hwm : ∀ [Nonempty Nat], wrap64 (m : Int) = m := (by intro _; exact HWm.out)
            go_wp2_with (first
              | (refine wpList_load_scr rfl (.tmp 4) rfl (w.heap.size + 1) (by kernel_rfl) C HZ67.out hB ?_; simp only [Act.put, List.setIfInBounds_toArray, List.set_cons_zero, List.set_cons_succ])
              | (refine wpList_store_blk rfl 30 (.tmp 2) (.tmp 113) rfl hZ C (by kernel_rfl) (by kernel_rfl) (by rw [HZ67.out]; kernel_rfl) (by rw [HZ67.out]; kernel_rfl) (by rw [← HC.out]; exact Scr.one _) ?_; intro w2 hB2 hg2 hs2; simp only [Act.put, List.setIfInBounds_toArray, List.set_cons_zero, List.set_cons_succ]))
            exact ret_cell_t rfl rfl (load_blk hB2 Tryd.underlying30 rfl (by rw [HZ67.out]; kernel_rfl)) rfl (HEnd.out _ _ false (Below.refl _ _) hg2 fun s0 h0 => by
              obtain ⟨x, m', _, _, _, h7, h8, _, _, h10⟩ := HSt.out s0 h0
              rw [HM.out] at h8
              have := H3.out
              omega)
        · have h1i : (p : Int) + 8 > ((n - 4 : Nat) : Int) := by omega
          have H1 := Lib.hid h1
          clear h1 hlt
          go_wp2_with (first
            | (refine wpList_load_scr rfl (.tmp 4) rfl (w.heap.size + 1) (by kernel_rfl) C HZ67.out hB ?_; simp only [Act.put, List.setIfInBounds_toArray, List.set_cons_zero, List.set_cons_succ])
            | (refine wpList_store_blk rfl 30 (.tmp 2) (.tmp 96) rfl hZ C (by kernel_rfl) (by kernel_rfl) (by rw [HZ67.out]; kernel_rfl) (by rw [HZ67.out]; kernel_rfl) (by rw [← HC.out]; exact Scr.one _) ?_; intro w2 hB2 hg2 hs2; simp only [Act.put, List.setIfInBounds_toArray, List.set_cons_zero, List.set_cons_succ]))
          exact ret_cell_t rfl rfl (load_blk hB2 Tryd.underlying30 rfl (by rw [HZ67.out]; kernel_rfl)) rfl (HEnd.out _ _ false (Below.refl _ _) hg2 fun s0 h0 => by
            obtain ⟨x, m, _, _, _, h7, _, _, _, h8⟩ := HSt.out s0 h0
            have := H1.out
            omega)
      · obtain rfl : j = il := by omega
        have hji : ¬ (j : Int) < j := by omega
        have hfin : ∀ s0, EncOf s0 l → p = n - 4 ∧ EqS (rdS l pb pi xs IA j ic rs RA k rc) s0 := fun s0 h0 => by
          obtain ⟨e1, e2⟩ := HI.out.inv s0 h0
          have hh := h0.head
          have e3 := hh.il
          rw [HIl.out, ← h0.wf.il] at e3
          rw [e3, List.drop_length, List.flatMap_nil, List.nil_append] at e2
          have e4 := congrArg List.length e2
          rw [List.length_drop, HN.out, tlL_len] at e4
          refine ⟨by omega, hh.frm, hh.goal, ?_, ?_, ?_, HRs.out s0 h0⟩
          · rw [← hh.pb, HPb.out]; rfl
          · rw [← hh.pi, HPi.out]; rfl
          · show xs = s0.ins
            rw [e1, e3, List.take_length]
        have HFin := Lib.hid hfin
        clear hfin hlt hj
        obtain ⟨ok, hok⟩ : ∃ x, ((p : Int) == (n : Int) - 4) = x := ⟨_, rfl⟩
        have HOk := Lib.hid hok
        go_wp2_with (first
          | (refine wpList_load_scr rfl (.tmp 4) rfl (w.heap.size + 1) (by kernel_rfl) C HZ67.out hB ?_; simp only [Act.put, List.setIfInBounds_toArray, List.set_cons_zero, List.set_cons_succ])
          | (refine wpList_store_blk rfl 30 (.tmp 2) (.tmp 139) rfl hZ C (by kernel_rfl) (by kernel_rfl) (by rw [HZ67.out]; kernel_rfl) (by rw [HZ67.out]; kernel_rfl) (by rw [← HC.out]; exact Scr.one _) ?_; intro w2 hB2 hg2 hs2; simp only [Act.put, List.setIfInBounds_toArray, List.set_cons_zero, List.set_cons_succ]))
        exact ret_cell_t rfl rfl (load_blk hB2 Tryd.underlying30 rfl (by rw [HZ67.out]; kernel_rfl)) rfl (HEnd.out _ _ ok (Below.refl _ _) hg2 fun s0 h0 => by
          obtain ⟨e1, e2⟩ := HFin.out s0 h0
          refine ⟨?_, e2⟩
          rw [← HOk.out]
          simp
          omega)
end Go.Proofs.YtgeiegjpnnbloaaDoor
