/- PeepSame: what Run makes of a list plays like the list. -/
import Derived.Test.YtanaccoelifcpaaSameW
import Derived.Test.YtanaccoelifcpaaAlive
import Derived.Test.YtanaccoelifcpaaMuch7
import Derived.Test.YtanaccoelifcpaaBig
import Derived.Laws.Cover3
import Derived.ChangeMaps5
import Derived.Deep.DeepCutAuto
namespace Go.Proofs.Ytanaccoelifcpaa.peepSameDone
open Go.ChangeShapes Go.WideShapes Go.ChangeAt Go.ChangeMaps Go.RowKit Go.Deep

theorem num18 (x : Int) (w : World) : Calls Try.prog 8 #[.int .i64 x] w fun r w' => r = .returned (.int .i64 x) ∧ w' = w := by
  go_enter Try.func8, Try.ntmps8
  go_wp2
  go_ret
  exact ⟨rfl, rfl⟩
/-- peep.Run, said of model's instructions. -/
def PeepAt (zs : List Cmd) (m : Nat) (w : World) (e : Ending) (w' : World) : Prop :=
  ∃ A c, e = .returned (.tuple #[.slice A m c, .int .i64 0]) ∧ Sl w' w'.heap.size 5 A m (zs.flatMap Cmd.list) ∧ Below w.heap.size w w'
theorem peep_call (cs zs : List Cmd) (set : Int) (A : Option Addr) (n c : Nat) (w : World) (hz : peepF set (cs.map Cmd.ins) = zs.map Cmd.ins) (hA : Sl w w.heap.size 5 A n (cs.flatMap Cmd.list)) (hn : cs.length = n) (h4 : n ≤ 4096) (hs0 : 0 ≤ set) (hs1 : set ≤ 31) :
    Calls Try.prog 9 #[.slice A n c, .int .i64 set] w (PeepAt zs zs.length w) := by
  refine (run_sl (cs.map Cmd.ins) set A n c w _ hz (by rw [insL_cmds]; exact hA) (by rw [List.length_map]; exact hn) h4 hs0 hs1).mono ?_
  rintro e w' ⟨A2, c2, rfl, ho, hb⟩
  have h := Sl.of_own ho
  rw [insL_cmds, List.length_map] at h
  rw [List.length_map]
  exact ⟨A2, c2, rfl, h, hb⟩
/-- The float of a small whole number is itself. -/
def sameX (y x : Nat × Nat) : Bool := (FloatKind.f64.format.order (N y.1) (N x.1) == some .eq) && (FloatKind.f64.format.order (N y.2) (N x.2) == some .eq)
theorem sameX_self {x : Nat × Nat} (h : x.1 < 4294967296 ∧ x.2 < 4294967296) : sameX x x = true := by
  unfold sameX; rw [N_eq _ h.1, N_eq _ h.2]; rfl
theorem curveT_len (sd : List ByteArray) : ∀ (cs : List Cmd) (M : PW), (curveT sd cs M).length ≤ cs.length
  | [], _ => Nat.le_refl _
  | c :: cs, M => by
    rw [curveT]
    split
    · rw [List.length_cons, List.length_cons]; exact Nat.succ_le_succ (curveT_len sd cs _)
    · exact Nat.zero_le _
theorem curveR_len (t : TV) (ds : List ByteArray) (cs : List Cmd) (sd : List ByteArray) : (curveR t ds cs sd).length ≤ cs.length + 1 := by
  unfold curveR
  split
  · rw [List.length_cons]; exact Nat.succ_le_succ (curveT_len sd cs _)
  · exact Nat.zero_le _
set_option maxRecDepth 100000 in
set_option maxHeartbeats 8000000 in
theorem walk (t : TV) (ds : List ByteArray) (cs : List Cmd) (A : Option Addr) (n c : Nat) (SA : Option Addr) (sn sc : Nat) (ss : List SC) (sd : List ByteArray) (set : Int) (w : World) (hT : TreeD w t ds) (hn : cs.length = n) (hA : Sl w w.heap.size 5 A n (cs.flatMap Cmd.list)) (hC : ∀ c ∈ cs, OpOk c) (_ : n ≤ c) (_ : c ≤ maxLen) (hS : StockAt w SA sn ss sd) (_ : (Lit.int .i64 set).wf = true) :
    Calls Try.prog 3 #[t.val, .slice A n c, .slice SA sn sc, .int .i64 set] w fun e w' => e = .returned (.bool true) ∧ Below w.heap.size w w' := by
  have HT := Lib.hid hT; have HS := Lib.hid hS; have HC := Lib.hid hC; have HA := Lib.hid hA; have HN := Lib.hid hn
  clear hT hS hC hA hn
  obtain ⟨nodes, files, NA, nn, nc, FA, fn, fc⟩ := t
  unfold TV.val
  have hB := Blk.new w 25 #[.slice NA nn nc, .slice FA fn fc]
  have hb := (Below.refl w.heap.size w).alloc (Nat.le_refl _) (.cells #[.slice NA nn nc, .slice FA fn fc] 25)
  go_enter Try.func3, Try.ntmps3
  go_upto_region 4 with (first | (go_at_call 4; refine (alive_any _).mono ?_; rintro e w1 ⟨rfl, hb1⟩; replace hB := hB.below hb1 hB.lt; replace hb := hb.trans (hb1.mono hb.size); have b0 := hB.cell 0; have b1 := hB.cell 1) | (go_at_call 5; refine (lbig_any ⟨nodes, files, NA, nn, nc, FA, fn, fc⟩ _ (HT.out.tree.keep hb)).mono ?_; rintro e w2 ⟨p, rfl, _, hb2⟩; replace hb := hb.trans (hb2.mono hb.size); replace hB := hB.below hb2 hB.lt) | (go_at_call 6; refine (much7 SA sn sc ss sd _ (HS.out.keep hb)).mono ?_; rintro e w3 ⟨q, rfl, hb3⟩; replace hb := hb.trans (hb3.mono hb.size); replace hB := hB.below hb3 hB.lt))
  clear b0 b1 hb1 hb2 hb3
  by_cases hbig : (40 : Int) < n
  · cases p <;> cases q
    all_goals go_wp2
    all_goals go_ret
    all_goals exact ⟨rfl, hb⟩
  by_cases hs0 : set < 0
  · cases p <;> cases q
    all_goals go_wp2
    all_goals go_ret
    all_goals exact ⟨rfl, hb⟩
  by_cases hs1 : 31 < set
  · cases p <;> cases q
    all_goals go_wp2
    all_goals go_ret
    all_goals exact ⟨rfl, hb⟩
  cases p
  rotate_left
  · cases q
    all_goals go_wp2
    all_goals go_ret
    all_goals exact ⟨rfl, hb⟩
  cases q
  rotate_left
  · go_wp2
    go_ret
    exact ⟨rfl, hb⟩
  have hn40 : n ≤ 40 := by omega
  have b0 := hB.cell 0; have b1 := hB.cell 1
  obtain ⟨W5, hW5⟩ : ∃ W, W = w3 := ⟨_, rfl⟩
  rw [← hW5] at hB hb b0 b1 ⊢
  clear hW5
  go_upto_region 6 with (fail)
  obtain ⟨R, hR⟩ : ∃ R, runR ⟨nodes, files, NA, nn, nc, FA, fn, fc⟩ ds cs sd = R := ⟨_, rfl⟩
  have hsl : ∀ W, Below W5.heap.size W5 W → Sl W W.heap.size 5 A n (cs.flatMap Cmd.list) := fun W hW => (HA.out.below (hb.trans (hW.mono hb.size)) (Nat.le_refl _)).more (hb.trans (hW.mono hb.size)).size
  have hr := fun W (hW : Below W5.heap.size W5 W) => Run_any ⟨nodes, files, NA, nn, nc, FA, fn, fc⟩ ds cs HC.out A n c SA sn sc ss sd W (HT.out.keep (hb.trans (hW.mono hb.size))) (hsl W hW) HN.out (by omega) (HS.out.keep (hb.trans (hW.mono hb.size)))
  obtain ⟨zs, hz, hL, hzo⟩ := peep_leads (sd := sd) set cs HC.out
  obtain ⟨m, hm⟩ : ∃ m, zs.length = m := ⟨_, rfl⟩
  have hpe := fun W (hW : Below W5.heap.size W5 W) => peep_call cs zs set A n c W hz (hsl W hW) HN.out (by omega) (by omega) (by omega)
  rw [hm] at hpe
  have hmn : m ≤ n + 1 := by
    have := peep_le set (cs.map Cmd.ins)
    rw [hz, List.length_map, List.length_map, hm, HN.out] at this
    exact this
  have hok := runR_ok HT.out cs sd
  rw [hR] at hr hok
  obtain ⟨M, r, E⟩ := R
  unfold TV.val at hr
  simp only at hr hok
  unfold PeepAt at hpe
  have HR := Lib.hid hR; have HRun := Lib.hid hr; have HPe := Lib.hid hpe; have HOk := Lib.hid hok; have HL := Lib.hid hL; have HZo := Lib.hid hzo; have HM := Lib.hid hm
  clear hR hr hpe hsl hok hL hzo hm hz
  have hBl := hB.lt
  have hbs := hb.size
  go_upto_region 7 with (first | (go_at_call 7; refine (HRun.out _ (Below.refl _ _)).mono ?_; rintro e w5 ⟨x, TT, rfl, hT5, hb5⟩) | (refine wpList_store_new rfl _ _ _ rfl _ _ _ rfl rfl (by kernel_rfl) (by rfl) (by kernel_rfl) ?_))
  obtain ⟨W6, hW6⟩ : ∃ W, W = (w5.alloc (.cells #[.slice x.NA x.nn x.nc, .slice x.FA x.fn x.fc] 25)) := ⟨_, rfl⟩
  have h56 : Below W5.heap.size W5 W6 := by rw [hW6]; exact hb5.alloc hb5.size _
  have hX : Blk W6 w5.heap.size 25 #[.slice x.NA x.nn x.nc, .slice x.FA x.fn x.fc] := by rw [hW6]; exact Blk.new w5 _ _
  have hTx : TreeD W6 x (dsOf M TT) := by rw [hW6]; exact hT5.tree.keep ((Below.refl _ _).alloc (Nat.le_refl _) _)
  have hTell : TellsM M x (dsOf M TT) := hT5.tells
  obtain ⟨gx, hgx⟩ : ∃ g, w5.heap.size = g := ⟨_, rfl⟩
  obtain ⟨es, hes⟩ : ∃ e, dsOf M TT = e := ⟨_, rfl⟩
  rw [← hW6]
  rw [hgx] at hX ⊢
  rw [hes] at hTx hTell
  have HTx := Lib.hid hTx; have HTell := Lib.hid hTell
  clear hW6 hTx hTell b0 b1 hT5 hb5 hgx hes HRun
  have hs6 := h56.size
  by_cases hE : E = 0
  rotate_left
  · have e0 : (E != 0) = true := bne_iff_ne.2 hE
    go_wp2_with (go_at_call 8; refine (num18 _ _).mono ?_; rintro e w7 ⟨rfl, hw⟩; rw [hw]; clear hw)
    go_ret
    exact ⟨rfl, hb.trans (h56.mono hbs)⟩
  subst hE
  obtain ⟨hl, hok1, hok2, hE2, hSV⟩ := same_law HT.out HL.out (by rw [HR.out])
  have hsmall := same_small HT.out hl hok2
  rw [HR.out] at hSV
  have HLl := Lib.hid hl; have HOk1 := Lib.hid hok1; have HOk2 := Lib.hid hok2; have HSmall := Lib.hid hsmall
  obtain ⟨R2, hR2⟩ : ∃ R, runR ⟨nodes, files, NA, nn, nc, FA, fn, fc⟩ ds zs sd = R := ⟨_, rfl⟩
  have hOk2 := runR_ok HT.out zs sd
  have hr2 := fun (W : World) (A2 : Option Addr) (c2 : Nat) (hW : Below W5.heap.size W5 W) (hA2 : Sl W W.heap.size 5 A2 m (zs.flatMap Cmd.list)) => Run_any ⟨nodes, files, NA, nn, nc, FA, fn, fc⟩ ds zs HZo.out A2 m c2 SA sn sc ss sd W (HT.out.keep (hb.trans (hW.mono hbs))) hA2 HM.out (by omega) (HS.out.keep (hb.trans (hW.mono hbs)))
  have hc1 := fun W (hW : Below W5.heap.size W5 W) => Curve_any ⟨nodes, files, NA, nn, nc, FA, fn, fc⟩ ds cs HC.out A n c SA sn sc ss sd W (HT.out.keep (hb.trans (hW.mono hbs))) ((HA.out.below (hb.trans (hW.mono hbs)) (Nat.le_refl _)).more (hb.trans (hW.mono hbs)).size) HN.out (by omega) (HS.out.keep (hb.trans (hW.mono hbs)))
  have hc2 := fun (W : World) (A2 : Option Addr) (c2 : Nat) (hW : Below W5.heap.size W5 W) (hA2 : Sl W W.heap.size 5 A2 m (zs.flatMap Cmd.list)) => Curve_any ⟨nodes, files, NA, nn, nc, FA, fn, fc⟩ ds zs HZo.out A2 m c2 SA sn sc ss sd W (HT.out.keep (hb.trans (hW.mono hbs))) hA2 HM.out (by omega) (HS.out.keep (hb.trans (hW.mono hbs)))
  have hin := fun (W : World) (A2 : Option Addr) (c2 : Nat) (hW : Below W5.heap.size W5 W) (hA2 : Sl W W.heap.size 5 A2 m (zs.flatMap Cmd.list)) => same_curve HT.out HL.out hl hok1 hok2
    (tells_way ⟨nodes, files, NA, nn, nc, FA, fn, fc⟩ ds cs HC.out A n c SA sn sc ss sd W (HT.out.keep (hb.trans (hW.mono hbs))) hl ((HA.out.below (hb.trans (hW.mono hbs)) (Nat.le_refl _)).more (hb.trans (hW.mono hbs)).size) HN.out (by omega) (HS.out.keep (hb.trans (hW.mono hbs))) hok1)
    (tells_way ⟨nodes, files, NA, nn, nc, FA, fn, fc⟩ ds zs HZo.out A2 m c2 SA sn sc ss sd W (HT.out.keep (hb.trans (hW.mono hbs))) hl hA2 HM.out (by omega) (HS.out.keep (hb.trans (hW.mono hbs))) hok2)
  rw [hR2] at hr2 hE2 hSV hOk2 hc2
  rw [HR.out] at hc1
  obtain ⟨M2, r2, E2⟩ := R2
  obtain rfl : E2 = 0 := hE2
  obtain ⟨C1, hC1⟩ : ∃ l, curveR ⟨nodes, files, NA, nn, nc, FA, fn, fc⟩ ds cs sd = l := ⟨_, rfl⟩
  obtain ⟨C2, hC2⟩ : ∃ l, curveR ⟨nodes, files, NA, nn, nc, FA, fn, fc⟩ ds zs sd = l := ⟨_, rfl⟩
  have hl1 := curveR_len ⟨nodes, files, NA, nn, nc, FA, fn, fc⟩ ds cs sd
  have hl2 := curveR_len ⟨nodes, files, NA, nn, nc, FA, fn, fc⟩ ds zs sd
  rw [hC1, HN.out] at hl1
  rw [hC2, HM.out] at hl2
  rw [hC1] at hc1 hin
  rw [hC2] at hc2 hin hsmall
  unfold TV.val at hr2 hc1 hc2
  simp only at hr2 hc1 hc2 hSV hOk2
  unfold CurveRes at hc1 hc2
  have HRun2 := Lib.hid hr2; have HCu1 := Lib.hid hc1; have HCu2 := Lib.hid hc2; have HIn := Lib.hid hin; have HSV := Lib.hid hSV; have HOkM2 := Lib.hid hOk2; have HSm := Lib.hid hsmall
  clear hr2 hc1 hc2 hin hSV hOk2 hsmall hC1 hC2 hR2 hl hok1 hok2 HSmall
  have hB6 := hB.below h56 hBl
  have hB6l := hB6.lt
  have hXl := hX.lt
  go_upto_region 9 with (go_at_call 8; refine (num18 _ _).mono ?_; rintro e w7 ⟨rfl, hw⟩; rw [hw]; clear hw)
  go_upto_region 10 with (go_at_call 9; refine (HPe.out _ h56).mono ?_; rintro e w8 ⟨A2, c2, rfl, hZ, hb8⟩)
  have h58 := h56.trans (hb8.mono hs6)
  have HX8 := Lib.hid (hX.below hb8 hXl)
  have HTx8 := Lib.hid (HTx.out.keep hb8)
  have hB8 := hB6.below hb8 hB6l
  have hs8 := h58.size
  have HZ := Lib.hid hZ
  have HIn8 := Lib.hid (HIn.out w8 A2 c2 h58 hZ)
  clear hb8 hX HTx hB6 hB6l hXl h56 hs6 hZ HPe HIn
  have b0 := hB8.cell 0; have b1 := hB8.cell 1
  have hB8l := hB8.lt
  go_upto_region 11 with (first | (go_at_call 7; refine (HRun2.out _ A2 c2 h58 HZ.out).mono ?_; rintro e w9 ⟨y, TT, rfl, hT9, hb9⟩) | (refine wpList_store_new rfl _ _ _ rfl _ _ _ rfl rfl (by kernel_rfl) (by rfl) (by kernel_rfl) ?_))
  obtain ⟨W9, hW9⟩ : ∃ W, W = (w9.alloc (.cells #[.slice y.NA y.nn y.nc, .slice y.FA y.fn y.fc] 25)) := ⟨_, rfl⟩
  have h89 : Below w8.heap.size w8 W9 := by rw [hW9]; exact hb9.alloc hb9.size _
  have hY : Blk W9 w9.heap.size 25 #[.slice y.NA y.nn y.nc, .slice y.FA y.fn y.fc] := by rw [hW9]; exact Blk.new w9 _ _
  have hTy : TreeD W9 y (dsOf M2 TT) := by rw [hW9]; exact hT9.tree.keep ((Below.refl _ _).alloc (Nat.le_refl _) _)
  have hTelly : TellsM M2 y (dsOf M2 TT) := hT9.tells
  obtain ⟨gy, hgy⟩ : ∃ g, w9.heap.size = g := ⟨_, rfl⟩
  obtain ⟨fs, hfs⟩ : ∃ e, dsOf M2 TT = e := ⟨_, rfl⟩
  rw [← hW9]
  rw [hgy] at hY ⊢
  rw [hfs] at hTy hTelly
  have HXX := Lib.hid (told_exactB HOk.out HOkM2.out HSV.out HTell.out hTelly)
  have h59 := h58.trans (h89.mono hs8)
  have hX9 := HX8.out.below h89 HX8.out.lt
  have HTx9 := Lib.hid (HTx8.out.keep h89)
  have hB9 := hB8.below h89 hB8l
  have HTy := Lib.hid hTy
  have hs9 := h59.size
  have HZ9 := Lib.hid ((HZ.out.below h89 (Nat.le_refl _)).more h89.size)
  clear hW9 hTy hTelly b0 b1 hT9 hb9 hgy hfs HRun2 h89 HX8 HTx8 hB8 hB8l h58 hs8 HZ HSV HOkM2 HOk HTell
  have x0 := hX9.cell 0; have x1 := hX9.cell 1
  have y0 := hY.cell 0; have y1 := hY.cell 1
  have hXl := hX9.lt; have hYl := hY.lt
  have hmn' : ¬ (n : Int) + 1 < m := by omega
  go_upto_region 13 with (first | (go_at_call 8; refine (num18 _ _).mono ?_; rintro e w7 ⟨rfl, hw⟩; rw [hw]; clear hw) | (go_at_call 10; refine (exact_any x y es fs _ HTx9.out HTy.out).mono ?_; rintro e w10 ⟨rfl, hb10⟩; rw [HXX.out]))
  have h510 := h59.trans (hb10.mono hs9)
  have hB10 := hB9.below hb10 hB9.lt
  have HZ10 := Lib.hid ((HZ9.out.below hb10 (Nat.le_refl _)).more hb10.size)
  have hs10 := h510.size
  have hB10l := hB10.lt
  clear x0 x1 y0 y1 hXl hYl hX9 hY HTx9 HTy HXX hb10 hB9 HZ9 h59 hs9
  have b0 := hB10.cell 0; have b1 := hB10.cell 1
  go_upto_region 14 with (go_at_call 11; refine (HCu1.out _ h510).mono ?_; rintro e w11 ⟨A3, n3, c3, rfl, hrow1, hln1, hb11⟩)
  have h511 := h510.trans (hb11.mono hs10)
  have hB11 := hB10.below hb11 hB10l
  have HZ11 := Lib.hid ((HZ10.out.below hb11 (Nat.le_refl _)).more hb11.size)
  have hs11 := h511.size
  have hB11l := hB11.lt
  have HR1 := Lib.hid (Sl.of_own hrow1); have HLn1 := Lib.hid hln1
  rw [hln1] at hl1
  clear b0 b1 hB10 hB10l HZ10 h510 hs10 hb11 HCu1 hrow1 hln1
  have b0 := hB11.cell 0; have b1 := hB11.cell 1
  go_upto_region 15 with (go_at_call 11; refine (HCu2.out _ A2 c2 h511 HZ11.out).mono ?_; rintro e w12 ⟨A4, n4, c4, rfl, hrow2, hln2, hb12⟩)
  have h512 := h511.trans (hb12.mono hs11)
  have HR2 := Lib.hid (Sl.of_own hrow2); have HLn2 := Lib.hid hln2
  have HR1' := Lib.hid ((HR1.out.below hb12 (Nat.le_refl _)).more hb12.size)
  rw [hln2] at hl2
  have hb512 := hb.trans (h512.mono hbs)
  have hbs12 := hb512.size
  clear b0 b1 hB11 hB11l HZ11 h511 hs11 hb12 HCu2 hrow2 hln2 HR1 hB hb h512 hbs hBl
  have hn3 : n3 ≤ 41 := by omega
  have hn4 : n4 ≤ 42 := by omega
  clear hl1 hl2
  go_wp2
  go_loopw [26] (fun v wr => ∃ i : Nat, i ≤ n4 ∧ v = .int .i64 i ∧ Below w12.heap.size w12 wr) (fun v _ => n4 - (intOf v).toNat)
  case atStart => exact ⟨0, Nat.zero_le _, rfl, Below.refl _ _⟩
  case round =>
  obtain ⟨i, hi, rfl, hbr⟩ := hrel
  by_cases hlt : i < n4
  rotate_left
  · have hii : ¬ (i : Int) < n4 := by omega
    go_wp2
    go_ret
    exact ⟨rfl, hb512.trans (hbr.mono hbs12)⟩
  have hii : (i : Int) < n4 := by omega
  have hxi : i < C2.length := by rw [HLn2.out]; exact hlt
  obtain ⟨xx, hxx⟩ : ∃ x, C2[i]? = some x := ⟨_, List.getElem?_eq_getElem hxi⟩
  have hxm : xx ∈ C2 := List.mem_of_getElem? hxx
  obtain ⟨k0, hk0l, hk0⟩ := List.getElem_of_mem (HIn8.out xx hxm)
  have hk03 : k0 < n3 := by rw [← HLn1.out]; exact hk0l
  have hk0' : C1[k0]? = some xx := by rw [List.getElem?_eq_getElem hk0l, hk0]
  have HK0 := Lib.hid hk0'; have HXx := Lib.hid hxx
  have hself := sameX_self (HSm.out xx hxm)
  have HSelf := Lib.hid hself
  have Hbr := Lib.hid hbr
  clear hxi hxx hxm hk0l hk0 hk0' hself hbr
  go_wp2
  go_loopw [27, 28] (fun f v wx => ∃ (k : Nat) (fb : Bool), k ≤ n3 ∧ f = .bool fb ∧ v = .int .i64 k ∧ (k0 < k → fb = true) ∧ Below w12.heap.size w12 wx) (fun _ v _ => n3 - (intOf v).toNat)
  case atStart => exact ⟨0, false, Nat.zero_le _, rfl, rfl, (fun h => absurd h (Nat.not_lt_zero _)), Hbr.out⟩
  case round =>
  obtain ⟨k, fb, hk, rfl, rfl, hfb, hbx⟩ := hrel
  have Hbx := Lib.hid hbx; have Hfb := Lib.hid hfb
  clear hfb hbx
  by_cases hlk : k < n3
  rotate_left
  · have hkk : ¬ (k : Int) < n3 := by omega
    obtain rfl : fb = true := Hfb.out (by omega)
    go_wp2
    go_roundw
    case rel => exact ⟨i + 1, by omega, by go_num, Hbx.out⟩
    case measure => simp [intOf]; omega
  have hkk : (k : Int) < n3 := by omega
  cases fb with
  | true =>
    go_upto_region 22 with (fail)
    refine wp_region_ordB (none) [(0, true), (1, true), (2, true), (3, true), (4, true), (5, true), (6, true), (7, true), (8, true), (9, true), (10, true), (11, true), (12, true)] (by kernel_rfl) (by kernel_rfl) fun hG0 => ?_
    repeat (first
      | (refine ord_skipB rfl (by rfl) ?_; simp only [Act.put, List.setIfInBounds_toArray, List.set_cons_zero, List.set_cons_succ])
      | (refine ord_qE rfl (by rfl) ?_; apply Exists.intro; refine ⟨fun w' hc' => ?_, ?_⟩; (focus (go_simp; (try go_bits); (try simp only [↓IntWalk.iteOmega]); with_reducible rfl)); simp only [Act.put, List.setIfInBounds_toArray, List.set_cons_zero, List.set_cons_succ]))
    refine ord_end ?_
    have hbn := Hbx.out.trans (below_grown hG0 Hbx.out.size (fun g e => by cases e))
    have Hbn := Lib.hid hbn
    clear hbn hG0
    go_wp2
    go_roundw
    case rel => exact ⟨k + 1, true, by omega, rfl, by go_num, (fun _ => rfl), Hbn.out⟩
    case measure => simp [intOf]; omega
  | false =>
    obtain ⟨ab, ao, ax, rfl, hab, hax, hac⟩ := (HR1'.out.below Hbx.out (Nat.le_refl _)).get (f := cxC) (fun _ => rfl) HLn1.out hlk
    obtain ⟨bb, bo, bx, rfl, hbb, hbxx, hbc⟩ := (HR2.out.below Hbx.out (Nat.le_refl _)).get (f := cxC) (fun _ => rfl) HLn2.out hlt
    obtain rfl : bx = xx := by rw [HXx.out] at hbxx; injection hbxx with h; exact h.symm
    have a0 := hac 0 _ rfl
    have c0 := hbc 0 _ rfl
    simp only [Nat.add_zero, Nat.mul_one] at a0 c0
    have hal := Nat.lt_of_lt_of_le hab Hbx.out.size
    have hbl := Nat.lt_of_lt_of_le hbb Hbx.out.size
    obtain ⟨q1, hq1⟩ : ∃ q, (FloatKind.f64.format.order (N ax.1) (N bx.1) == some .eq) = q := ⟨_, rfl⟩
    obtain ⟨q2, hq2⟩ : ∃ q, (FloatKind.f64.format.order (N ax.2) (N bx.2) == some .eq) = q := ⟨_, rfl⟩
    have hnext : k0 < k + 1 → (q1 && q2) = true := fun h => by
      by_cases e : k0 < k
      · exact absurd (Hfb.out e) (by simp)
      · obtain rfl : k0 = k := by omega
        obtain rfl : ax = bx := by
          have := HK0.out
          rw [hax] at this
          injection this
        have := HSelf.out
        unfold sameX at this
        rw [hq1, hq2] at this
        exact this
    have HNext := Lib.hid hnext
    clear hac hbc hax hbxx hnext hab hbb
    go_upto_region 22 with (fail)
    refine wp_region_ordB (none) [(0, true), (1, true), (2, true), (3, true), (4, true), (5, true), (6, true), (7, true), (8, true), (9, true), (10, true), (11, true), (12, true)] (by kernel_rfl) (by kernel_rfl) fun hG0 => ?_
    repeat (first
      | (refine ord_skipB rfl (by rfl) ?_; simp only [Act.put, List.setIfInBounds_toArray, List.set_cons_zero, List.set_cons_succ])
      | (refine ord_qE rfl (by rfl) ?_; apply Exists.intro; refine ⟨fun w' hc' => ?_, ?_⟩; (focus (go_simp; (try go_bits); (try simp only [↓IntWalk.iteOmega]); with_reducible rfl)); simp only [Act.put, List.setIfInBounds_toArray, List.set_cons_zero, List.set_cons_succ]))
    refine ord_end ?_
    have hbn := Hbx.out.trans (below_grown hG0 Hbx.out.size (fun g e => by cases e))
    have Hbn := Lib.hid hbn
    clear hbn hG0 a0 c0
    go_wp2
    go_roundw
    case rel => exact ⟨k + 1, q1 && q2, by omega, rfl, by go_num, HNext.out, Hbn.out⟩
    case measure => simp [intOf]; omega

set_option maxRecDepth 100000 in
theorem lifted (os : Os) (started : os.Started) (H : Type) (enc : TypeId × Value → H) :
    ReturnsInHanded {} Try.checked os 3 .any (Rows.peepSameSpec.pre6 enc Try.prog Try.f3 Rows.peepSameRow.domain false) (Rows.peepSameSpec.post enc Try.prog Try.f3 false true false false) := by
  refine returnsInHanded_of_change (C := Try.checked) own started (by kernel_rfl) Try.func3
    (ChangeSpec.witness6 (enc := enc) (C := Try.checked) false ⟨#[], #[.agg #[.slice none 0 0, .slice none 0 0], .slice none 0 0, .slice none 0 0, .int .i64 0], []⟩ 8 (by kernel_rfl) (by kernel_rfl) (by kernel_rfl) (by kernel_rfl)) ?_
  intro W base args ds gs before hval0 hW hcnd _
  have hval : ∀ (j : Nat) t v, Try.f3.params[j]? = some t → args[j]? = some v → Value.okWide Try.prog W .any base t v := hval0
  have hW' := hW
  obtain ⟨p, q, hA0, hV, rfl, hfz, hnd⟩ := hW
  have hA : DataW.TrodAll enc Try.prog W 0 (fun _ => true) true Try.f3.params.toList args.toList ds p := hA0
  rw [Try.params3] at hA hval
  obtain ⟨v0, vs0, d0, ds0, p0, q0, hargs, rfl, rfl, h0, r0⟩ := trodAll_cons hA
  obtain ⟨v1, vs1, d1, ds1, p1, q1, rfl, rfl, rfl, h1, r1⟩ := trodAll_cons r0
  obtain ⟨v2, vs2, d2, ds2, p2, q2, rfl, rfl, rfl, h2, r2⟩ := trodAll_cons r1
  obtain ⟨v3, vs3, d3, ds3, p3, q3, rfl, rfl, rfl, h3, r3⟩ := trodAll_cons r2
  obtain ⟨rfl, rfl, rfl⟩ := trodAll_nil r3
  obtain rfl : args = #[v0, v1, v2, v3] := by cases args; simp_all
  obtain ⟨rfl, rfl⟩ := trodVars_none hV
  have k0 := h0
  have lt0 : ∀ x ∈ p0, x.block < W.heap.size := by obtain ⟨m, hm⟩ := k0; exact DataW.trod_lt m _ _ _ hm
  obtain ⟨t0, ds0', rfl, hT0⟩ := open_tree (hval 0 25 v0 rfl rfl) h0 lt0
  obtain ⟨a1, len1, cap1, rfl⟩ := okWide_slice Try.underlying26 (hval 1 26 v1 rfl rfl)
  have k1 := h1
  have lt1 : ∀ x ∈ p1, x.block < W.heap.size := by obtain ⟨m, hm⟩ := k1; exact DataW.trod_lt m _ _ _ hm
  obtain ⟨xs1, hlen1, hS1, ho1, hcap1, hmax1⟩ : ∃ cs : List Cmd, cs.length = len1 ∧ Sl W W.heap.size 5 a1 len1 (cs.flatMap Cmd.list) ∧ (∀ c ∈ cs, OpOk c) ∧ len1 ≤ cap1 ∧ cap1 ≤ maxLen := by
    obtain ⟨fuel, hf⟩ := h1
    exact open_cmds hf lt1
  obtain ⟨a2, len2, cap2, rfl⟩ := okWide_slice Try.underlying27 (hval 2 27 v2 rfl rfl)
  have k2 := h2
  have lt2 : ∀ x ∈ p2, x.block < W.heap.size := by obtain ⟨m, hm⟩ := k2; exact DataW.trod_lt m _ _ _ hm
  obtain ⟨ss2, sd2, hK2⟩ : ∃ (ss : List SC) (sd : List ByteArray), StockAt W a2 len2 ss sd := by
    obtain ⟨fuel, hf⟩ := h2
    exact open_stock hf lt2
  obtain ⟨a3, rfl, rfl, rfl, w3⟩ := open_int Try.underlying3 (hval 3 3 v3 rfl rfl) h3
  clear hA0 hval0
  refine (walk t0 ds0' xs1 a1 len1 cap1 a2 len2 cap2 ss2 sd2 a3 W hT0 hlen1 hS1 ho1 hcap1 hmax1 hK2 w3).mono fun e W' ⟨he, bel⟩ => ?_
  subst he
  exact ⟨_, rfl, _, _, _, [], _, [], hW', trodAll_mk1 (shut_bool Try.underlying4 _), (trodAll_cons_mk (Below.trod laidOut (by kernel_rfl) (of_decide_eq_true (by kernel_rfl)) k0 bel lt0) (trodAll_cons_mk (Below.trod laidOut (by kernel_rfl) (of_decide_eq_true (by kernel_rfl)) k1 bel lt1) (trodAll_cons_mk (Below.trod laidOut (by kernel_rfl) (of_decide_eq_true (by kernel_rfl)) k2 bel lt2) (trodAll_cons_mk (shut_int Try.underlying3 w3) trodAll_mk0)))), rfl, bel.frame _, fun h => by cases h⟩

theorem over : Rows.peepSameRow.holds Try.pinned (OpenSpec.ofChange Rows.peepSameSpec) :=
  OpenClaim.holds_of_wide 3 Try.f3 rfl rfl rfl rfl rfl rfl rfl ⟨rfl, rfl, rfl, rfl, rfl⟩ rfl rfl rfl rfl rfl (by kernel_rfl) Try.func3 (by kernel_rfl)
    (of_decide_eq_true (by kernel_rfl)) (by unfold Func.isWrapper; first | (rw [if_pos (by decide +kernel)]; kernel_rfl) | (rw [if_neg (by decide +kernel)]; exact ⟨rfl, rfl⟩))
    (fun os started H enc _ => lifted os started H enc)

theorem proved : Rows.PeepSameSaid := over
#print axioms proved
end Go.Proofs.Ytanaccoelifcpaa.peepSameDone
