/- PackPeaks. -/
import Derived.Test.YtgeiegjpnnbloaaDoorAliveK
import Derived.Test.YtgeiegjpnnbloaaDoorLaidK
import Derived.Test.YtgeiegjpnnbloaaDoorCards
import Derived.Test.YtgeiegjpnnbloaaDoorTie
import Derived.SevenTiedAt
namespace Go.Proofs.YtgeiegjpnnbloaaDoor.packPeaksDone
open Go.ChangeShapes Go.WideShapes Go.ChangeAt Go.ChangeMaps Go.RowKit Go.Deep

set_option maxRecDepth 100000 in
set_option maxHeartbeats 8000000 in
theorem walk (a b : Int) (a0 a1 a2 : Addr) (w : World) (hE : ErrsAt w a0 a1 a2) : Calls Tryd.prog 5 #[.int .i64 a, .int .i64 b] w fun e w' => e = .returned (.bool true) ∧ Below w.heap.size w w' := by
  have HE := Lib.hid hE
  clear hE
  go_enter Tryd.func5, Tryd.ntmps5
  go_upto_region 3 with (go_at_call 6; refine (alive19 a0 a1 a2 _ HE.out).mono ?_; rintro e w1 ⟨rfl, hb1⟩)
  by_cases h1 : a < -10
  · go_wp2
    go_ret
    exact ⟨rfl, hb1⟩
  by_cases h2 : 4294967305 < a
  · go_wp2
    go_ret
    exact ⟨rfl, hb1⟩
  by_cases h3 : b < -10
  · go_wp2
    go_ret
    exact ⟨rfl, hb1⟩
  by_cases h4 : 4294967305 < b
  · go_wp2
    go_ret
    exact ⟨rfl, hb1⟩
  go_upto_region 5 with (fail)
  obtain ⟨sc, hsc⟩ : ∃ s : Scr, (⟨zero32, zero32, a, b, [], [], none, 0, 0, none, 0, 0⟩ : Scr) = s := ⟨_, rfl⟩
  have h32 : zero32.length = 32 := by simp [zero32]
  have hcells : Tryd.zeroCells30.setIfInBounds 64 (.complex .f64 (floatOfInt .f64 a) (floatOfInt .f64 b)) = sc.C := by
    rw [zero_cells, show (Value.complex .f64 (floatOfInt .f64 a) (floatOfInt .f64 b)) = .complex .f64 (F a) (F b) from rfl, set_peak (t := zeroScr) (by simp [zeroScr, zero32]) (by simp [zeroScr, zero32]), ← hsc]
    rfl
  have hfl : sc.frm.length = 32 := by rw [← hsc]; exact h32
  have hgl : sc.goal.length = 32 := by rw [← hsc]; exact h32
  have hpb : sc.pb = a := by rw [← hsc]
  have hpi : sc.pi = b := by rw [← hsc]
  have hins : sc.ins = [] := by rw [← hsc]
  have hrefs : sc.refs = [] := by rw [← hsc]
  have hil : sc.il = 0 := by rw [← hsc]
  have hrl : sc.rl = 0 := by rw [← hsc]
  have hat : ∀ W, ScrAt W sc := fun W => by
    rw [← hsc]
    exact ⟨h32, h32, (by show a.natAbs < 2 ^ 53; omega), (by show b.natAbs < 2 ^ 53; omega), rfl, rfl, Sl.nil _ _ _ _, Sl.nil _ _ _ _, Nat.zero_le _, Nat.zero_le _, fun r hr => nomatch hr⟩
  have hone := Scr.one sc
  have hz67 : sc.C.size = 67 := Scr.size hfl hgl
  have hzs : Tryd.zeroCells30.size = 67 := by rw [zero_cells]; exact zsize
  have hchk : ∀ W, Calls Tryd.prog 18 #[.agg sc.C] W fun e w' => e = .returned (.int .i64 (chkS sc)) ∧ Below W.heap.size W w' := fun W => check_sync sc (fun x hx => by rw [hins] at hx; cases hx) hrl W (hat W)
  have hck : chkS sc = if okPart a = true ∧ okPart b = true then 0 else 3 := by
    unfold chkS
    rw [hil, hpb, hpi, if_neg (by omega)]
  obtain ⟨c64, _, _⟩ := Scr.cell hfl hgl
  have HC := Lib.hid hcells; have HSc := Lib.hid hsc; have Hck := Lib.hid hck; have Hchk := Lib.hid hchk; have Hat := Lib.hid hat
  have HPb := Lib.hid hpb; have HPi := Lib.hid hpi; have HIns := Lib.hid hins; have HRefs := Lib.hid hrefs; have HIl := Lib.hid hil; have HRl := Lib.hid hrl; have Hfl := Lib.hid hfl; have Hgl := Lib.hid hgl
  rw [hpb, hpi] at c64
  clear hcells hsc hck hchk hat hpb hpi hins hrefs hil hrl hfl hgl h32
  go_upto_region 6 with (refine wpList_store_blk rfl 30 (.tmp 7) (.tmp 41) rfl (Blk.new w1 30 Tryd.zeroCells30) sc.C rfl (congrArg Value.agg HC.out) (by rw [hz67]; kernel_rfl) (by rw [hzs, hz67]) hone ?_; intro w2 hB2 hg2 hs2)
  have h12 : Below w1.heap.size w1 w2 := ((Below.refl _ _).alloc (Nat.le_refl _) (.cells Tryd.zeroCells30 30)).trans (below_grown hg2 (by simp) (fun q e => by injection e with e; omega))
  have hb2 : Below w.heap.size w w2 := hb1.trans (h12.mono hb1.size)
  obtain ⟨q, hq⟩ : ∃ q, w1.heap.size = q := ⟨_, rfl⟩
  rw [hq] at hB2 ⊢
  have hBl := hB2.lt
  clear hb1 hg2 hs2 h12
  by_cases hok : okPart a = true ∧ okPart b = true
  · have hE0 : chkS sc = 0 := by rw [Hck.out, if_pos hok]
    have hab : (0 ≤ a ∧ a ≤ 4294967295) ∧ (0 ≤ b ∧ b ≤ 4294967295) := by
      unfold okPart at hok
      simpa using hok
    obtain ⟨⟨ha0, ha1⟩, hb0, hb3⟩ := hab
    have hen := encode_ok sc w2 (Hat.out w2) HRl.out (by rw [HIl.out]; omega) (fun x hx => by rw [HIns.out] at hx; cases hx) (fun W hW => by have := Hchk.out W; rw [hE0] at this; exact this)
    have HEn := Lib.hid hen
    clear hen hE0 hok
    go_upto_region 7 with (first | (refine wpList_load_row rfl 30 (.tmp 7) rfl q rfl 30 sc.C (0, 0) _ hB2 Tryd.underlying30 rfl (by rw [hz67]; kernel_rfl) ?_) | (go_at_call 11; refine HEn.out.mono ?_; rintro e w3 ⟨A, m, c, rfl, _, hok, hb3'⟩))
    obtain ⟨rfl, ho⟩ := hok (by first | rfl | trivial)
    have hbl : (bodyE sc).length = 81 := by
      unfold bodyE headL
      rw [HIns.out, HRefs.out]
      simp [leB_len, markL, Hfl.out, Hgl.out]
    have hlen : (encL sc).length = 81 + 4 := by
      unfold encL
      rw [List.length_append, leB_len, hbl]
    rw [hlen] at ho ⊢
    have hSl := Sl.of_own ho
    obtain ⟨g, rfl⟩ : ∃ g, A = some ⟨g, 0, none⟩ := by
      rcases ho.2 with ⟨h', _⟩ | ⟨g', cap, cur, hv, _⟩
      · injection h' with _ h2
        omega
      · injection hv with hA
        exact ⟨g', hA⟩
    obtain ⟨_, _, _, hnc, hcm⟩ := own_row ho
    have hb3 : Below w.heap.size w w3 := hb2.trans (hb3'.mono hb2.size)
    have hE3 := HE.out.keep hb3
    have hde := decode_ok sc (fun x hx => by rw [HIns.out] at hx; cases hx) HRl.out Hfl.out Hgl.out (by rw [HPb.out]; exact ⟨ha0, ha1⟩) (by rw [HPi.out]; exact ⟨hb0, by omega⟩) (by rw [HIl.out]; omega) HRefs.out (by rw [HIns.out, HIl.out]; rfl) (some ⟨g, 0, none⟩) 81 c a0 a1 a2 w3 hE3 hSl hbl hnc hcm (Nat.le_refl _)
    have HDe := Lib.hid hde
    have hB3 := hB2.below hb3' hBl
    have hB3l := hB3.lt
    clear hde hE3 hSl ho hok hbl hlen hb3'
    go_upto_region 10 with (first | (go_at_call 7; refine HDe.out.mono ?_; rintro e w4 ⟨IA, ic, rfl, _, hb4⟩; have hz4 : (stepScr sc sc.il IA ic).C.size = 67 := Scr.size Hfl.out Hgl.out; have hone4 := Scr.one (stepScr sc sc.il IA ic)) | (refine wpList_store_blk rfl 30 (.tmp 10) (.tmp 74) rfl (Blk.new w4 30 Tryd.zeroCells30) (stepScr sc sc.il IA ic).C rfl rfl (by rw [hz4]; kernel_rfl) (by rw [hzs, hz4]) hone4 ?_; intro w5 hB5 hg5 hs5))
    have h45 : Below w4.heap.size w4 w5 := ((Below.refl _ _).alloc (Nat.le_refl _) (.cells Tryd.zeroCells30 30)).trans (below_grown hg5 (by simp) (fun q e => by injection e with e; omega))
    have h35 : Below w3.heap.size w3 w5 := hb4.trans (h45.mono hb4.size)
    have hbw : Below w.heap.size w w5 := hb3.trans (h35.mono hb3.size)
    have hBq := hB3.below h35 hB3l
    have d64 : (stepScr sc sc.il IA ic).C[64]? = some (.complex .f64 (F a) (F b)) := by
      have := (Scr.cell (s := stepScr sc sc.il IA ic) Hfl.out Hgl.out).1
      rw [show (stepScr sc sc.il IA ic).pb = a from HPb.out, show (stepScr sc sc.il IA ic).pi = b from HPi.out] at this
      exact this
    obtain ⟨q2, hq2⟩ : ∃ q, w4.heap.size = q := ⟨_, rfl⟩
    rw [hq2] at hB5 ⊢
    have t64 := (hB5.cell 64).trans d64
    have s64 := (hBq.cell 64).trans c64
    have hBql := hBq.lt; have hB5l := hB5.lt
    have hoa := ord_eq (a := a) (by omega)
    have hob := ord_eq (a := b) (by omega)
    obtain ⟨x, hx⟩ : ∃ x, floatOfInt .f64 a = x := ⟨_, rfl⟩
    obtain ⟨y, hy⟩ : ∃ x, floatOfInt .f64 b = x := ⟨_, rfl⟩
    have hxF : F a = x := hx
    have hyF : F b = y := hy
    rw [hxF, hyF] at t64 s64
    rw [hxF] at hoa
    rw [hyF] at hob
    clear hxF hyF d64 c64 hB5 hBq hg5 hs5 h45 h35 hb4 hb3 hB3 hB3l hB2 hBl hone hz67 hone4 hz4 hzs hnc hcm
    go_wp2_with (go_at_call 9; refine (num19 _ _).mono ?_; rintro e w7 ⟨rfl, hw⟩; rw [hw]; clear hw)
    go_ret
    exact ⟨by simp, hbw⟩
  · have hE3 : chkS sc = 3 := by rw [Hck.out, if_neg hok]
    have hen := encode_bad sc w2 3 (by decide) Hfl.out Hgl.out (fun W hW => by have := Hchk.out W; rw [hE3] at this; exact this)
    have HEn := Lib.hid hen
    have hbad : a < 0 ∨ b < 0 ∨ 4294967295 < a ∨ 4294967295 < b := by
      unfold okPart at hok
      simp at hok
      omega
    clear hen hE3 hok
    go_upto_region 7 with (first | (refine wpList_load_row rfl 30 (.tmp 7) rfl q rfl 30 sc.C (0, 0) _ hB2 Tryd.underlying30 rfl (by rw [hz67]; kernel_rfl) ?_) | (go_at_call 11; refine HEn.out.mono ?_; rintro e w3 ⟨A, m, c, rfl, hno, _, hb3'⟩))
    obtain ⟨rfl, rfl, rfl⟩ := hno (by decide)
    have hbw : Below w.heap.size w w3 := hb2.trans (hb3'.mono hb2.size)
    clear hB2 hBl hno hb3'
    by_cases k1 : a < 0
    · go_wp2_with (go_at_call 9; refine (num19 _ _).mono ?_; rintro e w7 ⟨rfl, hw⟩; rw [hw]; clear hw)
      go_ret
      exact ⟨rfl, hbw⟩
    by_cases k2 : b < 0
    · go_wp2_with (go_at_call 9; refine (num19 _ _).mono ?_; rintro e w7 ⟨rfl, hw⟩; rw [hw]; clear hw)
      go_ret
      exact ⟨rfl, hbw⟩
    by_cases k3 : 4294967295 < a
    · go_wp2_with (go_at_call 9; refine (num19 _ _).mono ?_; rintro e w7 ⟨rfl, hw⟩; rw [hw]; clear hw)
      go_ret
      exact ⟨rfl, hbw⟩
    have k4 : 4294967295 < b := by omega
    go_wp2_with (go_at_call 9; refine (num19 _ _).mono ?_; rintro e w7 ⟨rfl, hw⟩; rw [hw]; clear hw)
    go_ret
    exact ⟨rfl, hbw⟩

set_option maxRecDepth 100000 in
theorem lifted (os : Os) (started : os.Started) (H : Type) (enc : TypeId × Value → H) :
    ReturnsInHanded {} Tryd.checked os 5 .any (fun w args => (Rows.packPeaksSpec.pre enc Tryd.prog Tryd.f5 Rows.packPeaksRow.domain false w args ∧ laidMetH Tryd.prog laid3 w) ∧ sizedMet enc Tryd.prog Tryd.f5 (OpenSpec.ofChange Rows.packPeaksSpec) false w args) (Rows.packPeaksSpec.post enc Tryd.prog Tryd.f5 false true false false) := by
  refine returnsInHanded_of_change_and (C := Tryd.checked) (X := fun w _ => laidMetH Tryd.prog laid3 w) (fun _ _ _ hh h => h.of_heap hh) own started (by kernel_rfl) Tryd.func5
    (ChangeSpec.witness_shaped (enc := enc) (C := Tryd.checked) (os := os) (X := fun w _ => laidMetH Tryd.prog laid3 w) false (laidW os) #[.int .i64 0, .int .i64 0] 8 (laidW_os os) (World.shaped_of_ZipB (by kernel_rfl) (by kernel_rfl)) (by kernel_rfl) (by kernel_rfl) (by kernel_rfl) (laidW_met os _)) ?_
  intro W base args ds gs before hval0 hW _ _ hL _
  obtain ⟨ea0, ea1, ea2, hE⟩ := errs_of_laid hL
  have hval : ∀ (j : Nat) t v, Tryd.f5.params[j]? = some t → args[j]? = some v → Value.okWide Tryd.prog W .any base t v := hval0
  have hW' := hW
  obtain ⟨p, q, hA0, hV, rfl, hfz, hnd⟩ := hW
  have hA : DataW.TrodAll enc Tryd.prog W 0 (fun _ => true) true Tryd.f5.params.toList args.toList ds p := hA0
  rw [Tryd.params5] at hA hval
  obtain ⟨v0, vs0, d0, ds0, p0, q0, hargs, rfl, rfl, h0, r0⟩ := trodAll_cons hA
  obtain ⟨v1, vs1, d1, ds1, p1, q1, rfl, rfl, rfl, h1, r1⟩ := trodAll_cons r0
  obtain ⟨rfl, rfl, rfl⟩ := trodAll_nil r1
  obtain rfl : args = #[v0, v1] := by cases args; simp_all
  obtain ⟨rfl, rfl⟩ := trodVars_none hV
  obtain ⟨a0, rfl, rfl, rfl, w0⟩ := open_int Tryd.underlying3 (hval 0 3 v0 rfl rfl) h0
  obtain ⟨a1, rfl, rfl, rfl, w1⟩ := open_int Tryd.underlying3 (hval 1 3 v1 rfl rfl) h1
  clear hA0 hval0
  refine (walk a0 a1 ea0 ea1 ea2 W hE ).mono fun e W' ⟨he, bel⟩ => ?_
  subst he
  exact ⟨_, rfl, _, _, _, [], _, [], hW', trodAll_mk1 (shut_bool Tryd.underlying4 _), (trodAll_cons_mk (shut_int Tryd.underlying3 w0) (trodAll_cons_mk (shut_int Tryd.underlying3 w1) trodAll_mk0)), rfl, bel.frame _, fun h => by cases h⟩

theorem over : Rows.packPeaksRow.holds Tryd.pinned (OpenSpec.ofChange Rows.packPeaksSpec) :=
  OpenClaim.holds_of_wide 5 Tryd.f5 rfl rfl rfl rfl rfl rfl rfl ⟨rfl, rfl, rfl, rfl, rfl⟩ rfl rfl rfl rfl rfl (by kernel_rfl) Tryd.func5 (by kernel_rfl)
    (of_decide_eq_true (by kernel_rfl)) (by unfold Func.isWrapper; first | (rw [if_pos (by decide +kernel)]; kernel_rfl) | (rw [if_neg (by decide +kernel)]; exact ⟨rfl, rfl⟩))
    (fun os started H enc _ => lifted os started H enc)

theorem proved : Rows.PackPeaksCardSaid :=
  Claim7.holds_tied_plain_at .later [] [.sentinel, .sentinel, .sentinel] true (true, "0110537f8734ceb01c7f38b15ff46ac1c9a62e7462910232cd926bc6ebd3e4ff") true
    over (fun _ h => by cases h) (by kernel_rfl) (fun _ h => by cases h) packPeaks_row_tie rfl ⟨rfl, rfl⟩ (by kernel_rfl) rfl
    (fun f fn hf hfn => by
      obtain rfl : f = 5 := Option.some.inj ((show Tryd.prog.funcNamed "shunt/shuntlaw19.PackPeaks" = some 5 by kernel_rfl).symm.trans hf) |>.symm
      obtain rfl : fn = Tryd.f5 := (Option.some.inj (Tryd.func5.symm.trans hfn)).symm
      exact ⟨by kernel_rfl, fun j t ht => by
        have hm : t ∈ Tryd.f5.params.toList := Array.mem_toList_iff.2 (Array.mem_of_getElem? ht)
        rw [Tryd.params5] at hm
        have hall : (#[3, 3].toList.all fun u => !Tryd.prog.wantsStandIn u) = true := by kernel_rfl
        exact (Bool.not_eq_true' _).mp (List.all_eq_true.1 hall t hm)⟩)
    (by kernel_rfl)
#print axioms proved
end Go.Proofs.YtgeiegjpnnbloaaDoor.packPeaksDone
