/- PeepBack. -/
import Derived.Test.YtbpgakghdpflnaaGrows
namespace Go.Proofs.Ytbpgakghdpflnaa.peepBackDone
open Go.ChangeShapes Go.WideShapes Go.ChangeAt Go.RowKit Go.Deep

set_option maxRecDepth 100000 in
set_option maxHeartbeats 4000000 in
theorem walk (n : Int) (odd : Bool) (w : World) (_ : (Lit.int .i64 n).wf = true) :
    Calls Try.prog 9 #[.int .i64 n, .bool odd] w fun e w' => e = .returned (.bool true) ∧ Below w.heap.size w w' := by
  by_cases h1 : n < 1
  · go_enter Try.func9, Try.ntmps9
    go_wp2_with (go_at_call 10; refine (alive_any _).mono ?_; rintro e w1 ⟨rfl, hb1⟩)
    go_ret
    exact ⟨rfl, hb1⟩
  by_cases h3 : 300 < n
  · go_enter Try.func9, Try.ntmps9
    go_wp2_with (go_at_call 10; refine (alive_any _).mono ?_; rintro e w1 ⟨rfl, hb1⟩)
    go_ret
    exact ⟨rfl, hb1⟩
  obtain ⟨n, rfl⟩ := Int.eq_ofNat_of_zero_le (show 0 ≤ n by omega)
  have hn3 : n ≤ 300 := by omega
  have hn1 : 1 ≤ n := by omega
  have hP : peepF 9 (upTo n ++ downTo n 0) = [] := back_even n hn1 hn3
  obtain ⟨s0, hs0⟩ : ∃ s, nameB 0 = s := ⟨_, rfl⟩
  obtain ⟨s1, hs1⟩ : ∃ s, nameB 1 = s := ⟨_, rfl⟩
  have hP' := back_odd' hs0 hs1 n hn1 hn3
  replace hs0 := Lib.hid hs0
  replace hs1 := Lib.hid hs1
  replace hP := Lib.hid hP
  replace hP' := Lib.hid hP'
  have hg := Try.eqGuardType26
  go_enter Try.func9, Try.ntmps9
  go_wp2_with (go_at_call 10; refine (alive_any _).mono ?_; rintro e w1 ⟨rfl, hb1⟩)
  go_loopw [6, 7] (fun v i wr => ∃ k : Nat, k ≤ n ∧ i = .int .i64 k ∧ Grows w wr v k (upTo k)) (fun _ i _ => n - (intOf i).toNat)
  case atStart => exact ⟨0, Nat.zero_le _, rfl, Grows.nil hb1⟩
  case round =>
    obtain ⟨k, hk, rfl, hG⟩ := hrel
    by_cases hlt : k < n
    · have hki : (k : Int) < n := by omega
      obtain ⟨hm, A', c', rfl, ho, hbw⟩ := hG
      replace hm := Lib.hid hm
      have hws := hbw.size
      go_wp2_with (first | (go_at_call 16; (first | ((with_reducible refine (name_any k (by omega) _).mono ?_); rintro e w2 ⟨rfl, hb2⟩) | ((with_reducible refine (name_succ k (by omega) _).mono ?_); rintro e w2 ⟨rfl, hb2⟩)); replace ho := own_below ho hb2 (Nat.le_refl _); replace hbw := hbw.trans (hb2.mono hbw.size); have hws := hbw.size) | (at_builtin; refine wpList_append_one rfl _ _ _ rfl Try.insT rfl ho _ rfl (by simp) rfl (Ins.cells_one (ren k (k + 1))) (by unfold maxLen; omega) (by omega) hws ?_; intro g1 c1 w4 ho1 hg1 hat1))
      go_roundw
      case rel => exact ⟨k + 1, by omega, by go_num, by rw [upTo_succ]; exact Grows.push hm.out ho hbw ho1 hg1⟩
      case measure => simp [intOf]; omega
    · obtain rfl : k = n := by omega
      have Hk1 := Lib.hid hn1; clear hn1
      go_wp2
      go_loopw [6, 8] (fun v i wr => ∃ j : Nat, j ≤ k ∧ i = .int .i64 j ∧ Grows w wr v (k + (k - j)) (upTo k ++ downTo k j)) (fun _ i _ => (intOf i).toNat)
      case atStart => exact ⟨k, Nat.le_refl _, rfl, by rw [downTo_self, List.append_nil, Nat.sub_self]; exact hG⟩
      case round =>
        obtain ⟨j, hj, rfl, hG2⟩ := hrel
        replace hG := Lib.hid hG
        by_cases hpos : 0 < j
        · have hji : (0 : Int) < j := by omega
          obtain ⟨hm, A', c', rfl, ho, hbw⟩ := hG2
          replace hm := Lib.hid hm
          have hws := hbw.size
          obtain ⟨m, hmm⟩ : ∃ m, m = k + (k - j) := ⟨_, rfl⟩
          have hm4 : m ≤ 600 := by omega
          rw [← hmm] at ho hm ⊢
          replace hmm := Lib.hid hmm
          go_wp2_with (first | (go_at_call 16; (first | ((with_reducible refine (name_any j (by omega) _).mono ?_); rintro e w2 ⟨rfl, hb2⟩) | ((with_reducible refine (name_pred j (by omega) hpos _).mono ?_); rintro e w2 ⟨rfl, hb2⟩)); replace ho := own_below ho hb2 (Nat.le_refl _); replace hbw := hbw.trans (hb2.mono hbw.size); have hws := hbw.size) | (at_builtin; refine wpList_append_one rfl _ _ _ rfl Try.insT rfl ho _ rfl (by simp) rfl (Ins.cells_one (ren j (j - 1))) (by unfold maxLen; omega) (by omega) hws ?_; intro g1 c1 w4 ho1 hg1 hat1))
          go_roundw
          case rel =>
            have hG := Grows.push (x := ren j (j - 1)) hm.out ho hbw ho1 hg1
            have e1 : m + 1 = k + (k - (j - 1)) := by have := hmm.out; omega
            have e2 : upTo k ++ downTo k j ++ [ren j (j - 1)] = upTo k ++ downTo k (j - 1) := by
              rw [List.append_assoc, downTo_pred hpos hj]
            rw [e1, e2] at hG
            exact ⟨j - 1, by omega, by congr 1; omega, by rw [← e1] at hG ⊢; exact hG⟩
          case measure => simp [intOf]; omega
        · obtain rfl : j = 0 := by omega
          obtain ⟨hm, A', c', rfl, ho, hbw⟩ := hG2
          have hws := hbw.size
          rw [Nat.sub_zero] at ho hm ⊢
          obtain ⟨m, hmm⟩ : ∃ m, m = k + k := ⟨_, rfl⟩
          have hm4 : m ≤ 600 := by omega
          rw [← hmm] at ho hm ⊢
          replace hmm := Lib.hid hmm
          cases odd with
          | false =>
            have hS := Lib.hid (Sl.of_own ho)
            replace hm := Lib.hid hm
            go_wp2_with (first | (go_at_call 12; refine (run_sl _ 9 _ _ _ _ _ hP.out hS.out hm.out.symm (by omega) (by omega) (by omega)).mono ?_; rintro e w4 ⟨A1, c1, rfl, ho4, hb4⟩; replace ho4 := Lib.hid ho4) | (go_at_call 15; refine (num_any _ _).mono ?_; rintro e w5 ⟨rfl, hb5⟩))
            go_ret
            exact ⟨rfl, (hbw.trans (hb4.mono hws)).trans (hb5.mono (by have := hb4.size; omega))⟩
          | true =>
            replace hm := Lib.hid hm
            go_upto_region 15 with (first | (go_at_call 16; (first | ((with_reducible refine (name_lit hs0.out (by omega) (x := 0) rfl _).mono ?_); rintro e w2 ⟨rfl, hb2⟩) | ((with_reducible refine (name_lit hs1.out (by omega) (x := 1) rfl _).mono ?_); rintro e w2 ⟨rfl, hb2⟩)); replace ho := own_below ho hb2 (Nat.le_refl _); replace hbw := hbw.trans (hb2.mono hbw.size); have hws := hbw.size) | (at_builtin; refine wpList_append_one rfl _ _ _ rfl Try.insT rfl ho _ rfl (by simp) rfl (Ins.cells_one ⟨3, s0, s1, 0, 0⟩) (by unfold maxLen; omega) (by omega) hws ?_; intro g1 c1 w4 ho1 hg1 hat1))
            have hS := Lib.hid (push_sl (x := ⟨3, s0, s1, 0, 0⟩) ho1)
            have hbS := hbw.trans (below_grown hg1 hws (own_blk ho))
            have hmS : (upTo k ++ downTo k 0 ++ [(⟨3, s0, s1, 0, 0⟩ : Ins)]).length = m + 1 := by rw [List.length_append, ← hm.out]; rfl
            replace hmS := Lib.hid hmS
            go_upto_region 17 with (go_at_call 12; refine (run_two hP'.out hS.out hmS.out (by omega) (by omega) (by omega)).mono ?_; rintro e w6 ⟨b, o, c6, rfl, hbl, ⟨x0, x1, x2, x3, x4⟩, ⟨y0, y1, y2, y3, y4⟩, hb6⟩)
            have hs6 := hb6.size
            have q1 : Ins.eqb ⟨3, s0, s1, 0, 0⟩ ⟨3, s0, s1, 0, 0⟩ = true := Ins.eqb_self _
            have q2 : Ins.eqb ⟨9, ByteArray.empty, ByteArray.empty, 0, 0⟩ ⟨9, ByteArray.empty, ByteArray.empty, 0, 0⟩ = true := Ins.eqb_self _
            simp only [syncIns] at y0 y1 y2 y3 y4
            refine wp_region_ordB (none) [(0, true), (1, false), (2, true), (3, true), (4, true), (5, true), (6, true), (7, true), (8, true), (9, true), (10, true), (11, true), (12, false), (13, false), (14, true), (15, true), (16, true), (17, true), (18, true), (19, true), (20, true), (21, true), (22, true), (23, true), (24, true)] (by kernel_rfl) (by kernel_rfl) fun hG0 => ?_
            repeat (first
              | (refine ord_skipB rfl (by rfl) ?_; simp only [Act.put, List.setIfInBounds_toArray, List.set_cons_zero, List.set_cons_succ])
              | (refine ord_qE rfl (by rfl) ?_; apply Exists.intro; refine ⟨fun w' hc' => ?_, ?_⟩; (focus (go_simp; (try go_bits); (try simp only [↓IntWalk.iteOmega]); with_reducible rfl)); simp only [Act.put, List.setIfInBounds_toArray, List.set_cons_zero, List.set_cons_succ]))
            refine ord_eB rfl fun K hK => ?_
            go_wp2_with (go_at_call 15; refine (num_any _ _).mono ?_; rintro e w7 ⟨rfl, hb7⟩)
            have hG1 := grown_trans hG0 (grown_below hb7 (Nat.le_refl _))
            refine hK.out _ _ hG1 ?_
            clear hK K
            repeat (first
              | (refine ord_skipB rfl (by rfl) ?_; simp only [Act.put, List.setIfInBounds_toArray, List.set_cons_zero, List.set_cons_succ])
              | (refine ord_qE rfl (by rfl) ?_; apply Exists.intro; refine ⟨fun w' hc' => ?_, ?_⟩; (focus (go_simp; (try go_bits); (try simp only [↓IntWalk.iteOmega]); with_reducible rfl)); simp only [Act.put, List.setIfInBounds_toArray, List.set_cons_zero, List.set_cons_succ]))
            refine ord_eB rfl fun K hK => ?_
            go_wp2_with (go_at_call 16; refine (name_lit hs0.out (by omega) (x := 0) rfl _).mono ?_; rintro e w8 ⟨rfl, hb8⟩)
            have hG2 := grown_trans hG1 (grown_below hb8 (Nat.le_refl _))
            refine hK.out _ _ hG2 ?_
            clear hK K
            repeat (first
              | (refine ord_skipB rfl (by rfl) ?_; simp only [Act.put, List.setIfInBounds_toArray, List.set_cons_zero, List.set_cons_succ])
              | (refine ord_qE rfl (by rfl) ?_; apply Exists.intro; refine ⟨fun w' hc' => ?_, ?_⟩; (focus (go_simp; (try go_bits); (try simp only [↓IntWalk.iteOmega]); with_reducible rfl)); simp only [Act.put, List.setIfInBounds_toArray, List.set_cons_zero, List.set_cons_succ]))
            refine ord_eB rfl fun K hK => ?_
            go_wp2_with (go_at_call 16; refine (name_lit hs1.out (by omega) (x := 1) rfl _).mono ?_; rintro e w9 ⟨rfl, hb9⟩)
            have hG3 := grown_trans hG2 (grown_below hb9 (Nat.le_refl _))
            refine hK.out _ _ hG3 ?_
            clear hK K
            repeat (first
              | (refine ord_skipB rfl (by rfl) ?_; simp only [Act.put, List.setIfInBounds_toArray, List.set_cons_zero, List.set_cons_succ])
              | (refine ord_qE rfl (by rfl) ?_; apply Exists.intro; refine ⟨fun w' hc' => ?_, ?_⟩; (focus (go_simp; (try go_bits); (try simp only [↓IntWalk.iteOmega]); with_reducible rfl)); simp only [Act.put, List.setIfInBounds_toArray, List.set_cons_zero, List.set_cons_succ]))
            refine ord_end ?_
            go_wp2
            go_ret
            refine ⟨ret_bool (Ins.eqb_self _), ((hbS.trans (hb6.mono (by have := hbS.size; omega))).trans (below_grown hG3 (by have := hbS.size; omega) (fun g e => by cases e)))⟩

set_option maxRecDepth 100000 in
theorem lifted (os : Os) (started : os.Started) (H : Type) (enc : TypeId × Value → H) :
    ReturnsInHanded {} Try.checked os 9 .any (Rows.peepBackSpec.pre6 enc Try.prog Try.f9 Rows.peepBackRow.domain false) (Rows.peepBackSpec.post enc Try.prog Try.f9 false true false false) := by
  refine returnsInHanded_of_change (C := Try.checked) own started (by kernel_rfl) Try.func9
    (ChangeSpec.witness6 (enc := enc) (C := Try.checked) false ⟨#[], #[.int .i64 0, .bool false], []⟩ 8 (by kernel_rfl) (by kernel_rfl) (by kernel_rfl) (by kernel_rfl)) ?_
  intro W base args ds gs before hval0 hW hcnd _
  have hval : ∀ (j : Nat) t v, Try.f9.params[j]? = some t → args[j]? = some v → Value.okWide Try.prog W .any base t v := hval0
  have hW' := hW
  obtain ⟨p, q, hA0, hV, rfl, hfz, hnd⟩ := hW
  have hA : DataW.TrodAll enc Try.prog W 0 (fun _ => true) true Try.f9.params.toList args.toList ds p := hA0
  rw [Try.params9] at hA hval
  obtain ⟨v0, vs0, d0, ds0, p0, q0, hargs, rfl, rfl, h0, r0⟩ := trodAll_cons hA
  obtain ⟨v1, vs1, d1, ds1, p1, q1, rfl, rfl, rfl, h1, r1⟩ := trodAll_cons r0
  obtain ⟨rfl, rfl, rfl⟩ := trodAll_nil r1
  obtain rfl : args = #[v0, v1] := by cases args; simp_all
  obtain ⟨rfl, rfl⟩ := trodVars_none hV
  obtain ⟨a0, rfl, rfl, rfl, w0⟩ := open_int Try.underlying3 (hval 0 3 v0 rfl rfl) h0
  obtain ⟨a1, rfl, rfl, rfl⟩ := open_bool Try.underlying4 (hval 1 4 v1 rfl rfl) h1
  clear hA0 hval0
  refine (walk a0 a1 W w0).mono fun e W' ⟨he, bel⟩ => ?_
  subst he
  exact ⟨_, rfl, _, _, _, [], _, [], hW', trodAll_mk1 (shut_bool Try.underlying4 _), (trodAll_cons_mk (shut_int Try.underlying3 w0) (trodAll_cons_mk (shut_bool Try.underlying4 _) trodAll_mk0)), rfl, bel.frame _, fun h => by cases h⟩

theorem over : Rows.peepBackRow.holds Try.pinned (OpenSpec.ofChange Rows.peepBackSpec) :=
  OpenClaim.holds_of_wide 9 Try.f9 rfl rfl rfl rfl rfl rfl rfl ⟨rfl, rfl, rfl, rfl, rfl⟩ rfl rfl rfl rfl rfl (by kernel_rfl) Try.func9 (by kernel_rfl)
    (of_decide_eq_true (by kernel_rfl)) (by unfold Func.isWrapper; first | (rw [if_pos (by decide +kernel)]; kernel_rfl) | (rw [if_neg (by decide +kernel)]; exact ⟨rfl, rfl⟩))
    (fun os started H enc _ => lifted os started H enc)

theorem proved : Rows.PeepBackSaid := over
#print axioms proved
end Go.Proofs.Ytbpgakghdpflnaa.peepBackDone
