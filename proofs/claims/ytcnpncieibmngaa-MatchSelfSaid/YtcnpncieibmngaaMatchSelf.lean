/- MatchSelf: a tree matched with itself: every file is kept as itself. For every tree. -/
import Derived.Test.YtcnpncieibmngaaAliveM
import Derived.Test.YtcnpncieibmngaaMatchL
import Derived.Test.YtcnpncieibmngaaRCheck
import Derived.ChangeMaps5
import Derived.Deep.DeepCutAuto
namespace Go.Proofs.Ytcnpncieibmngaa.matchSelfDone
open Go.ChangeShapes Go.WideShapes Go.ChangeAt Go.ChangeMaps Go.RowKit Go.Deep

theorem self_all (t : TV) (ds : List ByteArray) (h0 : checkE t = 0) (hl : ds.length = t.fn) : matchE t t ds ds [] = 0 ∧ matchL t t ds ds [] = (List.range t.fn).map keepS := by
  have hG := good_of_loose (check_loose h0)
  have h := self_upto3 hG ds [] hl t.fn (Nat.le_refl _)
  have hs : stockE [] = 0 := rfl
  unfold matchE matchL
  rw [if_neg (by simp [h0]), if_neg (by simp [h0]), if_neg (by simp [hs]), if_neg (by simp [h0]), if_neg (by simp [h0]), if_neg (by simp [hs])]
  rw [hl, h]
  refine ⟨rfl, ?_⟩
  unfold selfOut
  rw [hl, Nat.sub_self]
  simp
set_option maxRecDepth 100000 in
set_option maxHeartbeats 4000000 in
theorem walk (t : TV) (ds : List ByteArray) (w : World) (ht : TreeD w t ds) : Calls Try.prog 3 #[t.val] w fun e w' => e = .returned (.bool true) ∧ Below w.heap.size w w' := by
  have hl : ds.length = t.fn := by rw [ht.dat.len, ht.tree.fl]
  have hself := self_all t ds
  have hfm := ht.tree.fm
  have HT := Lib.hid ht; have HSelf := Lib.hid (fun h => hself h hl)
  have hchk := fun W (h : TreeAt W t) => rcheck_any t W h
  have hmat := fun W (h : TreeD W t ds) => match_any t t ds ds none 0 0 [] [] W h h (StockAt.nil W)
  obtain ⟨E, hE⟩ : ∃ E, checkE t = E := ⟨_, rfl⟩
  rw [hE] at hchk
  obtain ⟨M, hM⟩ : ∃ M, matchE t t ds ds [] = M := ⟨_, rfl⟩
  obtain ⟨L, hL⟩ : ∃ L, matchL t t ds ds [] = L := ⟨_, rfl⟩
  rw [hM, hL] at hmat
  rw [hE, hM, hL] at HSelf
  clear ht hl hself hE hM hL
  obtain ⟨nodes, files, NA, nn, nc, FA, fn, fc⟩ := t
  simp only at hfm HSelf
  unfold TV.val at hchk hmat ⊢
  have HChk := Lib.hid hchk; have HMat := Lib.hid hmat
  clear hchk hmat
  have hB := Blk.new w 25 #[.slice NA nn nc, .slice FA fn fc]
  have hb := (Below.refl w.heap.size w).alloc (Nat.le_refl _) (.cells #[.slice NA nn nc, .slice FA fn fc] 25)
  by_cases h0 : E = 0
  case neg =>
    have hne := bne_iff_ne.2 h0
    have H0 := Lib.hid h0; clear h0
    go_enter Try.func3, Try.ntmps3
    go_upto_region 3 with (first | (go_at_call 9; refine (alive11 _).mono ?_; rintro e w1 ⟨rfl, hb1⟩; replace hB := hB.below hb1 hB.lt; replace hb := hb.trans (hb1.mono hb.size); have b0 := hB.cell 0; have b1 := hB.cell 1) | (go_at_call 10; refine (lbig_any ⟨nodes, files, NA, nn, nc, FA, fn, fc⟩ _ (HT.out.tree.keep hb)).mono ?_; rintro e w2 ⟨x, rfl, hx, hb2⟩; replace hB := hB.below hb2 hB.lt; replace hb := hb.trans (hb2.mono hb.size); have b0 := hB.cell 0; have b1 := hB.cell 1))
    cases x with
    | true =>
      go_wp2
      go_ret
      exact ⟨rfl, hb⟩
    | false =>
      go_wp2_with (go_at_call 11; refine (HChk.out _ (HT.out.tree.keep hb)).mono ?_; rintro e w3 ⟨rfl, hb3⟩; replace hb := hb.trans (hb3.mono hb.size))
      go_ret
      exact ⟨rfl, hb⟩
  case pos =>
    obtain ⟨hm0, hL⟩ := HSelf.out h0
    subst h0
    subst hm0
    have HLL := Lib.hid hL; clear hL
    go_enter Try.func3, Try.ntmps3
    go_upto_region 3 with (first | (go_at_call 9; refine (alive11 _).mono ?_; rintro e w1 ⟨rfl, hb1⟩; replace hB := hB.below hb1 hB.lt; replace hb := hb.trans (hb1.mono hb.size); have b0 := hB.cell 0; have b1 := hB.cell 1) | (go_at_call 10; refine (lbig_any ⟨nodes, files, NA, nn, nc, FA, fn, fc⟩ _ (HT.out.tree.keep hb)).mono ?_; rintro e w2 ⟨x, rfl, hx, hb2⟩; replace hB := hB.below hb2 hB.lt; replace hb := hb.trans (hb2.mono hb.size); have b0 := hB.cell 0; have b1 := hB.cell 1))
    cases x with
    | true =>
      go_wp2
      go_ret
      exact ⟨rfl, hb⟩
    | false =>
      go_upto_region 5 with (go_at_call 11; refine (HChk.out _ (HT.out.tree.keep hb)).mono ?_; rintro e w3 ⟨rfl, hb3⟩; replace hB := hB.below hb3 hB.lt; replace hb := hb.trans (hb3.mono hb.size))
      clear b0 b1
      have b0 := hB.cell 0; have b1 := hB.cell 1
      go_upto_region 6 with (go_at_call 12; refine (HMat.out _ (HT.out.keep hb)).mono ?_; rintro e w4 ⟨A, n, c, rfl, hn, hS, hb4⟩; replace hB := hB.below hb4 hB.lt; replace hb := hb.trans (hb4.mono hb.size))
      have hnf : n = fn := by rw [← hn, HLL.out]; simp
      subst hnf
      clear b0 b1 hb1 hb2 hb3 hb4
      have b0 := hB.cell 0; have b1 := hB.cell 1
      have HS := Lib.hid hS; have Hn := Lib.hid hn
      clear hS hn
      go_wp2_with (go_at_call 13; refine (num11 _ _).mono ?_; rintro e w8 ⟨rfl, hw⟩; rw [hw]; clear hw)
      go_loop [7] (fun v => ∃ k : Nat, k ≤ n ∧ v = .int .i64 k) (fun v => n - (intOf v).toNat)
      case atStart => exact ⟨0, Nat.zero_le _, rfl⟩
      case round =>
        obtain ⟨k, hk, rfl⟩ := hrel
        by_cases hlt : k < n
        · have hki : (k : Int) < n := by omega
          obtain ⟨b, o, x, rfl, hbl, hx, hc⟩ := HS.out.get Src.len Hn.out hlt
          have hx' : x = keepS k := by
            rw [HLL.out, List.getElem?_map, List.getElem?_range hlt] at hx
            simpa using hx.symm
          subst hx'
          have c0 := hc 0 _ rfl; have c1 := hc 1 _ rfl; have c2 := hc 2 _ rfl
          simp only [Nat.add_zero, keepS] at c0 c1 c2
          clear hc hx
          go_wp2
          go_round
          case rel => exact ⟨k + 1, by omega, by go_num⟩
          case measure => simp [intOf]; omega
        · have hki : ¬ (k : Int) < n := by omega
          go_wp2
          go_ret
          exact ⟨rfl, hb⟩


set_option maxRecDepth 100000 in
theorem lifted (os : Os) (started : os.Started) (H : Type) (enc : TypeId × Value → H) :
    ReturnsInHanded {} Try.checked os 3 .any (Rows.matchSelfSpec.pre6 enc Try.prog Try.f3 Rows.matchSelfRow.domain false) (Rows.matchSelfSpec.post enc Try.prog Try.f3 false true false false) := by
  refine returnsInHanded_of_change (C := Try.checked) own started (by kernel_rfl) Try.func3
    (ChangeSpec.witness6 (enc := enc) (C := Try.checked) false ⟨#[], #[.agg #[.slice none 0 0, .slice none 0 0]], []⟩ 8 (by kernel_rfl) (by kernel_rfl) (by kernel_rfl) (by kernel_rfl)) ?_
  intro W base args ds gs before hval0 hW hcnd _
  have hval : ∀ (j : Nat) t v, Try.f3.params[j]? = some t → args[j]? = some v → Value.okWide Try.prog W .any base t v := hval0
  have hW' := hW
  obtain ⟨p, q, hA0, hV, rfl, hfz, hnd⟩ := hW
  have hA : DataW.TrodAll enc Try.prog W 0 (fun _ => true) true Try.f3.params.toList args.toList ds p := hA0
  rw [Try.params3] at hA hval
  obtain ⟨v0, vs0, d0, ds0, p0, q0, hargs, rfl, rfl, h0, r0⟩ := trodAll_cons hA
  obtain ⟨rfl, rfl, rfl⟩ := trodAll_nil r0
  obtain rfl : args = #[v0] := by cases args; simp_all
  obtain ⟨rfl, rfl⟩ := trodVars_none hV
  have k0 := h0
  have lt0 : ∀ x ∈ p0, x.block < W.heap.size := by obtain ⟨m, hm⟩ := k0; exact DataW.trod_lt m _ _ _ hm
  obtain ⟨t0, ds0', rfl, hT0⟩ := open_tree (hval 0 25 v0 rfl rfl) h0 lt0
  clear hA0 hval0
  refine (walk t0 ds0' W hT0).mono fun e W' ⟨he, bel⟩ => ?_
  subst he
  exact ⟨_, rfl, _, _, _, [], _, [], hW', trodAll_mk1 (shut_bool Try.underlying4 _), (trodAll_cons_mk (Below.trod laidOut (by kernel_rfl) (of_decide_eq_true (by kernel_rfl)) k0 bel lt0) trodAll_mk0), rfl, bel.frame _, fun h => by cases h⟩

theorem over : Rows.matchSelfRow.holds Try.pinned (OpenSpec.ofChange Rows.matchSelfSpec) :=
  OpenClaim.holds_of_wide 3 Try.f3 rfl rfl rfl rfl rfl rfl rfl ⟨rfl, rfl, rfl, rfl, rfl⟩ rfl rfl rfl rfl rfl (by kernel_rfl) Try.func3 (by kernel_rfl)
    (of_decide_eq_true (by kernel_rfl)) (by unfold Func.isWrapper; first | (rw [if_pos (by decide +kernel)]; kernel_rfl) | (rw [if_neg (by decide +kernel)]; exact ⟨rfl, rfl⟩))
    (fun os started H enc _ => lifted os started H enc)

theorem proved : Rows.MatchSelfSaid := over
#print axioms proved
end Go.Proofs.Ytcnpncieibmngaa.matchSelfDone
