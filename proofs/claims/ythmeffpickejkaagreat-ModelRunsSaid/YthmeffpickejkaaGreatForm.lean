/- shuntref6.Form: the walk. -/
import Derived.Test.YthmeffpickejkaaGreatRef6
import Derived.IntWalk
namespace Go.Proofs.YthmeffpickejkaaGreat
open Go.RowKit

theorem or4 {a b c d : Bool} (h : (a || b || c || d) = true) : a = true ∨ (a = false ∧ b = true) ∨ (a = false ∧ b = false ∧ c = true) ∨ (a = false ∧ b = false ∧ c = false ∧ d = true) := by
  cases a <;> cases b <;> cases c <;> cases d <;> simp_all
set_option maxRecDepth 100000 in
set_option maxHeartbeats 4000000 in
theorem rform_any (t : TV) (w : World) (h : TreeAt w t) : Calls Tryz.prog 40 #[t.val] w fun e w' => e = .returned (.bool (formB t)) ∧ Below w.heap.size w w' := by
  have HT := Lib.hid h
  have hns := h.ns
  have hnl := h.nl
  have hfs := h.fs
  have hfl := h.fl
  have hnm := h.nm
  have hfm := h.fm
  clear h
  obtain ⟨nodes, files, NA, nn, nc, FA, fn, fc⟩ := t
  simp only at hns hnl hfs hfl hnm hfm
  have HS := Lib.hid hns; clear hns
  have Hn := Lib.hid hnl; clear hnl
  have HFS := Lib.hid hfs; clear hfs
  have Hfl := Lib.hid hfl; clear hfl
  have hF := Lib.hid (show ∀ r, formRun nodes fn nodes none 0 = r → formB ⟨nodes, files, NA, nn, nc, FA, fn, fc⟩ = match r with
    | some f => (files.all fun x => okMode x.mode) && decide (f = fn)
    | none => false from fun r e => by subst e; rfl)
  unfold TV.val
  have hB0 := Blk.new w 25 #[.slice NA nn nc, .slice FA fn fc]
  have hbd := (Below.refl w.heap.size w).alloc (Nat.le_refl _) (.cells #[.slice NA nn nc, .slice FA fn fc] 25)
  obtain ⟨tb, htb⟩ : ∃ tb, tb = w.heap.size := ⟨_, rfl⟩
  go_enter Tryz.func40, Tryz.ntmps40
  go_wp2
  go_loopw [3, 4] (fun v3 v4 wr => ∃ k : Nat, k ≤ nn ∧ v4 = .int .i64 k ∧ ∃ (next : Int) (prev : Option ByteArray), formRun nodes fn nodes none 0 = formRun nodes fn (nodes.drop k) prev next ∧ 0 ≤ next ∧ next ≤ k ∧ v3 = .int .i64 next ∧
    ((k = 0 → prev = none) ∧ (0 < k → ∃ y, nodes[k - 1]? = some y ∧ prev = some y.path)) ∧ Blk wr w.heap.size 25 #[.slice NA nn nc, .slice FA fn fc] ∧ Below w.heap.size w wr) (fun _ v4 _ => nn - (intOf v4).toNat)
  case atStart => exact ⟨0, Nat.zero_le _, rfl, 0, none, rfl, Int.le_refl _, Int.le_refl _, rfl, ⟨fun _ => rfl, fun h => absurd h (by omega)⟩, hB0, hbd⟩
  case round =>
    clear hB0 hbd htb tb
    obtain ⟨k, hk, rfl, next, prev, hR, hn0, hn1, rfl, ⟨hp0, hp1⟩, hB, hb⟩ := hrel
    replace hR := Lib.hid hR
    replace hp0 := Lib.hid hp0
    replace hp1 := Lib.hid hp1
    have hbs := hb.size
    have hBl := hB.lt
    have d0 := hB.cell 0
    have d1 := hB.cell 1
    by_cases hlt : k < nn
    · have hki : (k : Int) < nn := by omega
      obtain ⟨xb, xo, x, rfl, hxb, hx, hc⟩ := (HS.out.keep (Nat.le_refl _) hb.block).get Node.len Hn.out hlt
      have c0 := hc 0 _ rfl
      have c1 := hc 1 _ rfl
      have c2 := hc 2 _ rfl
      simp only [Nat.add_zero] at c0 c1 c2
      clear hc
      have HD := Lib.hid (drop_at' hx)
      have HX := Lib.hid (show nodes[k + 1 - 1]? = some x from hx)
      have hxs : x.path.size ≤ 9223372036854775807 := x.hp
      clear hx
      go_upto_region 6 with (fail)
      replace hb := hb.alloc hbs (.cells #[.string x.path, .int .i64 x.file, .int .i64 x.mode] 56)
      replace hB := hB.alloc (.cells #[.string x.path, .int .i64 x.file, .int .i64 x.mode] 56)
      have hN := Blk.new wr 56 #[.string x.path, .int .i64 x.file, .int .i64 x.mode]
      obtain ⟨W1, hW1⟩ : ∃ W1, W1 = wr.alloc (.cells #[.string x.path, .int .i64 x.file, .int .i64 x.mode] 56) := ⟨_, rfl⟩
      rw [← hW1] at hB hN hb ⊢
      obtain ⟨nb, hnb⟩ : ∃ nb, nb = wr.heap.size := ⟨_, rfl⟩
      rw [← hnb] at hN hbs hBl ⊢
      clear hW1 hnb c0 c1 c2 d0 d1
      have n0 := hN.cell 0
      cases a1 : validL x.path.data.toList with
      | false =>
        have HV := Lib.hid (hF.out _ (hR.out.trans (by rw [HD.out, formRun, if_pos (by rw [a1]; rfl)])))
        have A1 := Lib.hid a1; clear a1
        go_upto_region 7 with (go_at_call 60; refine (rvalid_any x.path _ hxs).mono ?_; rintro e w1 ⟨rfl, hb1⟩; rw [A1.out])
        replace hb := hb.trans (hb1.mono hb.size)
        clear n0 hb1
        refine wp_region_ordB (none) [(0, true), (1, true), (2, true), (3, true), (4, true), (5, true), (6, true), (7, true), (8, true), (9, true), (10, true), (11, true), (12, true), (13, true), (14, true), (15, true), (16, true), (17, true)] (by kernel_rfl) (by kernel_rfl) fun hG0 => ?_
        repeat (first
          | (refine ord_skipB rfl (by rfl) ?_; simp only [Act.put, List.setIfInBounds_toArray, List.set_cons_zero, List.set_cons_succ])
          | (refine ord_qE rfl (by rfl) ?_; apply Exists.intro; refine ⟨fun w' hc' => ?_, ?_⟩; (focus (go_simp; (try go_bits); (try simp only [↓IntWalk.iteOmega]); with_reducible rfl)); simp only [Act.put, List.setIfInBounds_toArray, List.set_cons_zero, List.set_cons_succ]))
        refine ord_end ?_
        replace hb := hb.trans (below_grown hG0 hb.size (fun g e => by cases e))
        go_wp2
        go_ret
        exact ⟨by rw [HV.out]; rfl, hb⟩
      | true =>
        by_cases hk0 : k = 0
        · have H1 := Lib.hid (show (!validL x.path.data.toList || prevBad prev x.path) = false by rw [a1, hp0.out hk0]; rfl)
          have A1 := Lib.hid a1; clear a1
          have hk1 : ¬ (0 : Int) < k := by omega
          have hk2 : decide ((0 : Int) < k) = false := decide_eq_false hk1
          go_upto_region 7 with (go_at_call 60; refine (rvalid_any x.path _ hxs).mono ?_; rintro e w1 ⟨rfl, hb1⟩; rw [A1.out])
          have hs1 := hb1.size
          replace hN := hN.below hb1 hN.lt
          replace hB := hB.below hb1 hB.lt
          replace hb := hb.trans (hb1.mono hb.size)
          clear n0 hb1
          refine wp_region_ordB (none) [(0, true), (1, true), (2, true), (3, true), (4, true), (5, true), (6, true), (7, true), (8, true), (9, true), (10, true), (11, true), (12, true), (13, true), (14, true), (15, true), (16, true), (17, true)] (by kernel_rfl) (by kernel_rfl) fun hG0 => ?_
          repeat (first
            | (refine ord_skipB rfl (by rfl) ?_; simp only [Act.put, List.setIfInBounds_toArray, List.set_cons_zero, List.set_cons_succ])
            | (refine ord_qE rfl (by rfl) ?_; apply Exists.intro; refine ⟨fun w' hc' => ?_, ?_⟩; (focus (go_simp; (try go_bits); (try simp only [↓IntWalk.iteOmega]); with_reducible rfl)); simp only [Act.put, List.setIfInBounds_toArray, List.set_cons_zero, List.set_cons_succ]))
          refine ord_end ?_
          replace hN := hN.grown hG0 (by simp)
          replace hB := hB.grown hG0 (by simp)
          replace hb := hb.trans (below_grown hG0 hb.size (fun g e => by cases e))
          clear hG0
          have n0 := hN.cell 0
          have n1 := hN.cell 1
          have n2 := hN.cell 2
          have d0 := hB.cell 0
          have d1 := hB.cell 1
          go_upto_region 9 with (fail)
          go_upto_region 10 with (go_at_call 49; refine (rparent_any x.path _ hxs).mono ?_; rintro e w3 ⟨rfl, hb3⟩)
          have hs3 := hb3.size
          replace hN := hN.below hb3 hN.lt
          replace hB := hB.below hb3 hB.lt
          replace hb := hb.trans (hb3.mono hb.size)
          clear n0 n1 n2 d0 d1 hb3
          have n0 := hN.cell 0
          have n1 := hN.cell 1
          have n2 := hN.cell 2
          have d0 := hB.cell 0
          have d1 := hB.cell 1
          obtain ⟨q, hq⟩ : ∃ q, parentB x.path = q := ⟨_, rfl⟩
          have hqs : q.size ≤ 9223372036854775807 := by rw [← hq]; exact Nat.le_trans (parentB_size _) hxs
          rw [hq]
          have HQ := Lib.hid hq; clear hq
          cases a3 : q.toList.isEmpty with
          | true =>
            have H2 := Lib.hid (show upBad nodes x = false by rw [upBad, HQ.out, a3]; rfl)
            go_upto_region 14 with (fail)
            by_cases a5 : x.file = -1
            · have a5b : (x.file == -1) = true := beq_iff_eq.2 a5
              cases a6 : okMode x.mode with
              | false =>
                have HV := Lib.hid (hF.out _ (hR.out.trans (by rw [HD.out, formRun, if_neg (by rw [H1.out]; simp), if_neg (by rw [H2.out]; simp), if_pos a5, if_neg (by rw [a6]; simp)])))
                have A5 := Lib.hid a5; clear a5
                have A6 := Lib.hid a6; clear a6
                go_upto_region 16 with (go_at_call 62; refine (rmode_any x.mode _).mono ?_; rintro e w4 ⟨rfl, rfl⟩; rw [A6.out])
                go_wp2
                go_ret
                exact ⟨by rw [HV.out]; rfl, hb⟩
              | true =>
                have HN := Lib.hid (hR.out.trans (show _ = formRun nodes fn (nodes.drop (k + 1)) (some x.path) next by rw [HD.out, formRun, if_neg (by rw [H1.out]; simp), if_neg (by rw [H2.out]; simp), if_pos a5, if_pos a6]))
                have A5 := Lib.hid a5; clear a5
                have A6 := Lib.hid a6; clear a6
                go_upto_region 16 with (go_at_call 62; refine (rmode_any x.mode _).mono ?_; rintro e w4 ⟨rfl, rfl⟩; rw [A6.out])
                go_wp2
                go_roundw
                case rel => exact ⟨k + 1, by omega, by go_num, next, some x.path, HN.out, by omega, by omega, rfl, ⟨fun h => absurd h (by omega), fun _ => ⟨x, HX.out, rfl⟩⟩, hB, hb⟩
                case measure => simp [intOf]; omega
            · have a5b : (x.file == -1) = false := beq_eq_false_iff_ne.2 a5
              cases a7 : fileBad x next fn with
              | true =>
                have HV := Lib.hid (hF.out _ (hR.out.trans (by rw [HD.out, formRun, if_neg (by rw [H1.out]; simp), if_neg (by rw [H2.out]; simp), if_neg a5, if_pos a7])))
                have A5 := Lib.hid a5; clear a5
                have a7c := a7
                have A7 := Lib.hid a7; clear a7
                unfold fileBad at a7c
                rcases or4 a7c with h7 | ⟨h6, h7⟩ | ⟨h5, h6, h7⟩ | ⟨h4, h5, h6, h7⟩
                all_goals
                  clear a7c
                  (try simp only [decide_eq_true_eq, decide_eq_false_iff_not] at h4 h5 h6 h7)
                  (try simp only [decide_eq_true_eq, decide_eq_false_iff_not] at h5 h6 h7)
                  (try simp only [decide_eq_true_eq] at h7)
                  go_wp2
                  go_ret
                  exact ⟨by rw [HV.out]; rfl, hb⟩
              | false =>
                have HN0 := hR.out.trans (show _ = formRun nodes fn (nodes.drop (k + 1)) (some x.path) (if x.file = next then next + 1 else next) by rw [HD.out, formRun, if_neg (by rw [H1.out]; simp), if_neg (by rw [H2.out]; simp), if_neg a5, if_neg (by rw [a7]; simp)])
                have A5 := Lib.hid a5; clear a5
                unfold fileBad at a7
                simp only [Bool.or_eq_false_iff, decide_eq_false_iff_not] at a7
                obtain ⟨⟨⟨b1, b2⟩, b3⟩, b4⟩ := a7
                by_cases a8 : x.file = next
                · rw [if_pos a8] at HN0
                  have HN := Lib.hid HN0; clear HN0
                  have a8b : (x.file == next) = true := beq_iff_eq.2 a8
                  have A8 := Lib.hid a8; clear a8
                  go_wp2
                  go_roundw
                  case rel => exact ⟨k + 1, by omega, by go_num, next + 1, some x.path, HN.out, by omega, by omega, rfl, ⟨fun h => absurd h (by omega), fun _ => ⟨x, HX.out, rfl⟩⟩, hB, hb⟩
                  case measure => simp [intOf]; omega
                · rw [if_neg a8] at HN0
                  have HN := Lib.hid HN0; clear HN0
                  have a8b : (x.file == next) = false := beq_eq_false_iff_ne.2 a8
                  have A8 := Lib.hid a8; clear a8
                  go_wp2
                  go_roundw
                  case rel => exact ⟨k + 1, by omega, by go_num, next, some x.path, HN.out, by omega, by omega, rfl, ⟨fun h => absurd h (by omega), fun _ => ⟨x, HX.out, rfl⟩⟩, hB, hb⟩
                  case measure => simp [intOf]; omega
          | false =>
            go_upto_region 12 with (go_at_call 61; refine (rfind_any ⟨nodes, files, some ⟨xb, xo, none⟩, nn, nc, FA, fn, fc⟩ q _ (HT.out.keep hb)).mono ?_; rintro e w4 ⟨rfl, hb4⟩)
            have hs4 := hb4.size
            replace hN := hN.below hb4 hN.lt
            replace hB := hB.below hb4 hB.lt
            replace hb := hb.trans (hb4.mono hb.size)
            clear n0 n1 n2 d0 d1 hb4
            have n0 := hN.cell 0
            have n1 := hN.cell 1
            have n2 := hN.cell 2
            have d0 := hB.cell 0
            have d1 := hB.cell 1
            have hfl := findFrom_lt q nodes 0
            obtain ⟨f, hf⟩ : ∃ f, findI nodes q = f := ⟨_, rfl⟩
            rw [show findFrom q nodes 0 = f from hf, Int.zero_add] at hfl
            simp only [hf]
            by_cases a4 : f < 0
            · have H2 := show upBad nodes x = true by rw [upBad, HQ.out, a3, hf, decide_eq_true a4]; rfl
              have HV := Lib.hid (hF.out _ (hR.out.trans (by rw [HD.out, formRun, if_neg (by rw [H1.out]; simp), if_pos H2])))
              clear H2
              have HF := Lib.hid hf; clear hf hfl
              go_wp2
              go_ret
              exact ⟨by rw [HV.out]; rfl, hb⟩
            · obtain ⟨m, rfl⟩ := Int.eq_ofNat_of_zero_le (show 0 ≤ f by omega)
              have hm : m < nn := by rw [← Hn.out]; omega
              obtain ⟨yb, yo, y, hye, hyb, hy, hyc⟩ := (HS.out.keep (Nat.le_refl _) hb.block).get Node.len Hn.out hm
              injection hye with hye; injection hye with e1 e2 e3; subst e1 e2
              have y1 := hyc 1 _ rfl
              clear hyc
              have hmi : (m : Int) < nn := by omega
              by_cases a9 : y.file = -1
              · have H2 := Lib.hid (show upBad nodes x = false by rw [upBad, HQ.out, a3, hf, decide_eq_false (by omega), Int.toNat_natCast, hy, Option.map_some, Option.getD_some, a9]; rfl)
                have HF := Lib.hid hf; have HY := Lib.hid hy; clear hf hy hfl
                have a9b : (y.file != -1) = false := by rw [a9]; rfl
                have A9 := Lib.hid a9; clear a9
                go_upto_region 14 with (fail)
                clear y1
                by_cases a5 : x.file = -1
                · have a5b : (x.file == -1) = true := beq_iff_eq.2 a5
                  cases a6 : okMode x.mode with
                  | false =>
                    have HV := Lib.hid (hF.out _ (hR.out.trans (by rw [HD.out, formRun, if_neg (by rw [H1.out]; simp), if_neg (by rw [H2.out]; simp), if_pos a5, if_neg (by rw [a6]; simp)])))
                    have A5 := Lib.hid a5; clear a5
                    have A6 := Lib.hid a6; clear a6
                    go_upto_region 16 with (go_at_call 62; refine (rmode_any x.mode _).mono ?_; rintro e w4 ⟨rfl, rfl⟩; rw [A6.out])
                    go_wp2
                    go_ret
                    exact ⟨by rw [HV.out]; rfl, hb⟩
                  | true =>
                    have HN := Lib.hid (hR.out.trans (show _ = formRun nodes fn (nodes.drop (k + 1)) (some x.path) next by rw [HD.out, formRun, if_neg (by rw [H1.out]; simp), if_neg (by rw [H2.out]; simp), if_pos a5, if_pos a6]))
                    have A5 := Lib.hid a5; clear a5
                    have A6 := Lib.hid a6; clear a6
                    go_upto_region 16 with (go_at_call 62; refine (rmode_any x.mode _).mono ?_; rintro e w4 ⟨rfl, rfl⟩; rw [A6.out])
                    go_wp2
                    go_roundw
                    case rel => exact ⟨k + 1, by omega, by go_num, next, some x.path, HN.out, by omega, by omega, rfl, ⟨fun h => absurd h (by omega), fun _ => ⟨x, HX.out, rfl⟩⟩, hB, hb⟩
                    case measure => simp [intOf]; omega
                · have a5b : (x.file == -1) = false := beq_eq_false_iff_ne.2 a5
                  cases a7 : fileBad x next fn with
                  | true =>
                    have HV := Lib.hid (hF.out _ (hR.out.trans (by rw [HD.out, formRun, if_neg (by rw [H1.out]; simp), if_neg (by rw [H2.out]; simp), if_neg a5, if_pos a7])))
                    have A5 := Lib.hid a5; clear a5
                    have a7c := a7
                    have A7 := Lib.hid a7; clear a7
                    unfold fileBad at a7c
                    rcases or4 a7c with h7 | ⟨h6, h7⟩ | ⟨h5, h6, h7⟩ | ⟨h4, h5, h6, h7⟩
                    all_goals
                      clear a7c
                      (try simp only [decide_eq_true_eq, decide_eq_false_iff_not] at h4 h5 h6 h7)
                      (try simp only [decide_eq_true_eq, decide_eq_false_iff_not] at h5 h6 h7)
                      (try simp only [decide_eq_true_eq] at h7)
                      go_wp2
                      go_ret
                      exact ⟨by rw [HV.out]; rfl, hb⟩
                  | false =>
                    have HN0 := hR.out.trans (show _ = formRun nodes fn (nodes.drop (k + 1)) (some x.path) (if x.file = next then next + 1 else next) by rw [HD.out, formRun, if_neg (by rw [H1.out]; simp), if_neg (by rw [H2.out]; simp), if_neg a5, if_neg (by rw [a7]; simp)])
                    have A5 := Lib.hid a5; clear a5
                    unfold fileBad at a7
                    simp only [Bool.or_eq_false_iff, decide_eq_false_iff_not] at a7
                    obtain ⟨⟨⟨b1, b2⟩, b3⟩, b4⟩ := a7
                    by_cases a8 : x.file = next
                    · rw [if_pos a8] at HN0
                      have HN := Lib.hid HN0; clear HN0
                      have a8b : (x.file == next) = true := beq_iff_eq.2 a8
                      have A8 := Lib.hid a8; clear a8
                      go_wp2
                      go_roundw
                      case rel => exact ⟨k + 1, by omega, by go_num, next + 1, some x.path, HN.out, by omega, by omega, rfl, ⟨fun h => absurd h (by omega), fun _ => ⟨x, HX.out, rfl⟩⟩, hB, hb⟩
                      case measure => simp [intOf]; omega
                    · rw [if_neg a8] at HN0
                      have HN := Lib.hid HN0; clear HN0
                      have a8b : (x.file == next) = false := beq_eq_false_iff_ne.2 a8
                      have A8 := Lib.hid a8; clear a8
                      go_wp2
                      go_roundw
                      case rel => exact ⟨k + 1, by omega, by go_num, next, some x.path, HN.out, by omega, by omega, rfl, ⟨fun h => absurd h (by omega), fun _ => ⟨x, HX.out, rfl⟩⟩, hB, hb⟩
                      case measure => simp [intOf]; omega
              · have a9b : (y.file != -1) = true := bne_iff_ne.2 a9
                have H2 := show upBad nodes x = true by rw [upBad, HQ.out, a3, hf, decide_eq_false (by omega), Int.toNat_natCast, hy, Option.map_some, Option.getD_some, a9b]; rfl
                have HV := Lib.hid (hF.out _ (hR.out.trans (by rw [HD.out, formRun, if_neg (by rw [H1.out]; simp), if_pos H2])))
                clear H2
                have HF := Lib.hid hf; have HY := Lib.hid hy; clear hf hy hfl
                have A9 := Lib.hid a9; clear a9
                go_wp2
                go_ret
                exact ⟨by rw [HV.out]; rfl, hb⟩
        · obtain ⟨y, hy, rfl⟩ := hp1.out (by omega)
          obtain ⟨yb, yo, y', hye, hyb, hy', hyc⟩ := (HS.out.keep (Nat.le_refl _) hb.block).get Node.len Hn.out (show k - 1 < nn by omega)
          obtain rfl : y = y' := by rw [hy] at hy'; injection hy'
          injection hye with hye; injection hye with e1 e2 e3; subst e1 e2
          have z0 := hyc 0 _ rfl
          simp only [Nat.add_zero] at z0
          clear hyc hy hy'
          have hk1 : (0 : Int) < k := by omega
          have hk2 : decide ((0 : Int) < k) = true := decide_eq_true hk1
          have hk3 : 0 < k := by omega
          have hk4 : decide (0 < k) = true := decide_eq_true hk3
          have hw1 : IntKind.i64.wrap ((k : Int) - 1) = (k : Int) - 1 := IntWalk.i64_in _ (by omega)
          have hw2 : (0 : Int) ≤ (k : Int) - 1 := by omega
          have hw3 : (k : Int) - 1 < nn := by omega
          have hw4 : ((k : Int) - 1).toNat = k - 1 := by omega
          cases a2 : Op.bytesLess y.path.toList x.path.toList with
          | false =>
            have HV := Lib.hid (hF.out _ (hR.out.trans (by rw [HD.out, formRun, if_pos (by rw [a1, prevBad, a2]; rfl)])))
            have A1 := Lib.hid a1; clear a1
            go_upto_region 7 with (go_at_call 60; refine (rvalid_any x.path _ hxs).mono ?_; rintro e w1 ⟨rfl, hb1⟩; rw [A1.out])
            have hs1 := hb1.size
            have hxw : xb < w1.heap.size := by have := hb.size; omega
            replace hN := hN.below hb1 hN.lt
            replace hB := hB.below hb1 hB.lt
            have hNl := hN.lt
            have hBl2 := hB.lt
            replace z0 := (World.cell?_of_block (w := W1) (w' := w1) (a := ⟨xb, xo + (k - 1) * 3, none⟩) (hb1.block xb (by have := hb.size; omega))).trans z0
            replace hb := hb.trans (hb1.mono hb.size)
            clear n0 hb1
            have n0 := hN.cell 0
            have n1 := hN.cell 1
            have n2 := hN.cell 2
            have d0 := hB.cell 0
            have d1 := hB.cell 1
            refine wp_region_ordB (none) [(0, true), (1, true), (2, true), (3, true), (4, true), (5, true), (6, true), (7, true), (8, true), (9, true), (10, true), (11, true), (12, true), (13, true), (14, true), (15, true), (16, true), (17, true)] (by kernel_rfl) (by kernel_rfl) fun hG0 => ?_
            repeat (first
              | (refine ord_skipB rfl (by rfl) ?_; simp only [Act.put, List.setIfInBounds_toArray, List.set_cons_zero, List.set_cons_succ])
              | (refine ord_qE rfl (by rfl) ?_; apply Exists.intro; refine ⟨fun w' hc' => ?_, ?_⟩; (focus (go_simp; (try go_bits); (try simp only [↓IntWalk.iteOmega]); with_reducible rfl)); simp only [Act.put, List.setIfInBounds_toArray, List.set_cons_zero, List.set_cons_succ]))
            refine ord_end ?_
            replace hb := hb.trans (below_grown hG0 hb.size (fun g e => by cases e))
            go_wp2
            go_ret
            exact ⟨by rw [HV.out]; rfl, hb⟩
          | true =>
            have H1 := Lib.hid (show (!validL x.path.data.toList || prevBad (some y.path) x.path) = false by rw [a1, prevBad, a2]; rfl)
            have A1 := Lib.hid a1; clear a1
            go_upto_region 7 with (go_at_call 60; refine (rvalid_any x.path _ hxs).mono ?_; rintro e w1 ⟨rfl, hb1⟩; rw [A1.out])
            have hs1 := hb1.size
            have hxw : xb < w1.heap.size := by have := hb.size; omega
            replace hN := hN.below hb1 hN.lt
            replace hB := hB.below hb1 hB.lt
            have hNl := hN.lt
            have hBl2 := hB.lt
            replace z0 := (World.cell?_of_block (w := W1) (w' := w1) (a := ⟨xb, xo + (k - 1) * 3, none⟩) (hb1.block xb (by have := hb.size; omega))).trans z0
            replace hb := hb.trans (hb1.mono hb.size)
            clear n0 hb1
            have n0 := hN.cell 0
            have n1 := hN.cell 1
            have n2 := hN.cell 2
            have d0 := hB.cell 0
            have d1 := hB.cell 1
            refine wp_region_ordB (none) [(0, true), (1, true), (2, true), (3, true), (4, true), (5, true), (6, true), (7, true), (8, true), (9, true), (10, true), (11, true), (12, true), (13, true), (14, true), (15, true), (16, true), (17, true)] (by kernel_rfl) (by kernel_rfl) fun hG0 => ?_
            repeat (first
              | (refine ord_skipB rfl (by rfl) ?_; simp only [Act.put, List.setIfInBounds_toArray, List.set_cons_zero, List.set_cons_succ])
              | (refine ord_qE rfl (by rfl) ?_; apply Exists.intro; refine ⟨fun w' hc' => ?_, ?_⟩; (focus (go_simp; (try go_bits); (try simp only [↓IntWalk.iteOmega]); with_reducible rfl)); simp only [Act.put, List.setIfInBounds_toArray, List.set_cons_zero, List.set_cons_succ]))
            refine ord_end ?_
            clear n0 n1 n2 d0 d1 z0 hxw hNl hBl2
            replace hN := hN.grown hG0 (by simp)
            replace hB := hB.grown hG0 (by simp)
            replace hb := hb.trans (below_grown hG0 hb.size (fun g e => by cases e))
            clear hG0
            have n0 := hN.cell 0
            have n1 := hN.cell 1
            have n2 := hN.cell 2
            have d0 := hB.cell 0
            have d1 := hB.cell 1
            go_upto_region 9 with (fail)
            go_upto_region 10 with (go_at_call 49; refine (rparent_any x.path _ hxs).mono ?_; rintro e w3 ⟨rfl, hb3⟩)
            have hs3 := hb3.size
            replace hN := hN.below hb3 hN.lt
            replace hB := hB.below hb3 hB.lt
            replace hb := hb.trans (hb3.mono hb.size)
            clear n0 n1 n2 d0 d1 hb3
            have n0 := hN.cell 0
            have n1 := hN.cell 1
            have n2 := hN.cell 2
            have d0 := hB.cell 0
            have d1 := hB.cell 1
            obtain ⟨q, hq⟩ : ∃ q, parentB x.path = q := ⟨_, rfl⟩
            have hqs : q.size ≤ 9223372036854775807 := by rw [← hq]; exact Nat.le_trans (parentB_size _) hxs
            rw [hq]
            have HQ := Lib.hid hq; clear hq
            cases a3 : q.toList.isEmpty with
            | true =>
              have H2 := Lib.hid (show upBad nodes x = false by rw [upBad, HQ.out, a3]; rfl)
              go_upto_region 14 with (fail)
              by_cases a5 : x.file = -1
              · have a5b : (x.file == -1) = true := beq_iff_eq.2 a5
                cases a6 : okMode x.mode with
                | false =>
                  have HV := Lib.hid (hF.out _ (hR.out.trans (by rw [HD.out, formRun, if_neg (by rw [H1.out]; simp), if_neg (by rw [H2.out]; simp), if_pos a5, if_neg (by rw [a6]; simp)])))
                  have A5 := Lib.hid a5; clear a5
                  have A6 := Lib.hid a6; clear a6
                  go_upto_region 16 with (go_at_call 62; refine (rmode_any x.mode _).mono ?_; rintro e w4 ⟨rfl, rfl⟩; rw [A6.out])
                  go_wp2
                  go_ret
                  exact ⟨by rw [HV.out]; rfl, hb⟩
                | true =>
                  have HN := Lib.hid (hR.out.trans (show _ = formRun nodes fn (nodes.drop (k + 1)) (some x.path) next by rw [HD.out, formRun, if_neg (by rw [H1.out]; simp), if_neg (by rw [H2.out]; simp), if_pos a5, if_pos a6]))
                  have A5 := Lib.hid a5; clear a5
                  have A6 := Lib.hid a6; clear a6
                  go_upto_region 16 with (go_at_call 62; refine (rmode_any x.mode _).mono ?_; rintro e w4 ⟨rfl, rfl⟩; rw [A6.out])
                  go_wp2
                  go_roundw
                  case rel => exact ⟨k + 1, by omega, by go_num, next, some x.path, HN.out, by omega, by omega, rfl, ⟨fun h => absurd h (by omega), fun _ => ⟨x, HX.out, rfl⟩⟩, hB, hb⟩
                  case measure => simp [intOf]; omega
              · have a5b : (x.file == -1) = false := beq_eq_false_iff_ne.2 a5
                cases a7 : fileBad x next fn with
                | true =>
                  have HV := Lib.hid (hF.out _ (hR.out.trans (by rw [HD.out, formRun, if_neg (by rw [H1.out]; simp), if_neg (by rw [H2.out]; simp), if_neg a5, if_pos a7])))
                  have A5 := Lib.hid a5; clear a5
                  have a7c := a7
                  have A7 := Lib.hid a7; clear a7
                  unfold fileBad at a7c
                  rcases or4 a7c with h7 | ⟨h6, h7⟩ | ⟨h5, h6, h7⟩ | ⟨h4, h5, h6, h7⟩
                  all_goals
                    clear a7c
                    (try simp only [decide_eq_true_eq, decide_eq_false_iff_not] at h4 h5 h6 h7)
                    (try simp only [decide_eq_true_eq, decide_eq_false_iff_not] at h5 h6 h7)
                    (try simp only [decide_eq_true_eq] at h7)
                    go_wp2
                    go_ret
                    exact ⟨by rw [HV.out]; rfl, hb⟩
                | false =>
                  have HN0 := hR.out.trans (show _ = formRun nodes fn (nodes.drop (k + 1)) (some x.path) (if x.file = next then next + 1 else next) by rw [HD.out, formRun, if_neg (by rw [H1.out]; simp), if_neg (by rw [H2.out]; simp), if_neg a5, if_neg (by rw [a7]; simp)])
                  have A5 := Lib.hid a5; clear a5
                  unfold fileBad at a7
                  simp only [Bool.or_eq_false_iff, decide_eq_false_iff_not] at a7
                  obtain ⟨⟨⟨b1, b2⟩, b3⟩, b4⟩ := a7
                  by_cases a8 : x.file = next
                  · rw [if_pos a8] at HN0
                    have HN := Lib.hid HN0; clear HN0
                    have a8b : (x.file == next) = true := beq_iff_eq.2 a8
                    have A8 := Lib.hid a8; clear a8
                    go_wp2
                    go_roundw
                    case rel => exact ⟨k + 1, by omega, by go_num, next + 1, some x.path, HN.out, by omega, by omega, rfl, ⟨fun h => absurd h (by omega), fun _ => ⟨x, HX.out, rfl⟩⟩, hB, hb⟩
                    case measure => simp [intOf]; omega
                  · rw [if_neg a8] at HN0
                    have HN := Lib.hid HN0; clear HN0
                    have a8b : (x.file == next) = false := beq_eq_false_iff_ne.2 a8
                    have A8 := Lib.hid a8; clear a8
                    go_wp2
                    go_roundw
                    case rel => exact ⟨k + 1, by omega, by go_num, next, some x.path, HN.out, by omega, by omega, rfl, ⟨fun h => absurd h (by omega), fun _ => ⟨x, HX.out, rfl⟩⟩, hB, hb⟩
                    case measure => simp [intOf]; omega
            | false =>
              go_upto_region 12 with (go_at_call 61; refine (rfind_any ⟨nodes, files, some ⟨xb, xo, none⟩, nn, nc, FA, fn, fc⟩ q _ (HT.out.keep hb)).mono ?_; rintro e w4 ⟨rfl, hb4⟩)
              have hs4 := hb4.size
              replace hN := hN.below hb4 hN.lt
              replace hB := hB.below hb4 hB.lt
              replace hb := hb.trans (hb4.mono hb.size)
              clear n0 n1 n2 d0 d1 hb4
              have n0 := hN.cell 0
              have n1 := hN.cell 1
              have n2 := hN.cell 2
              have d0 := hB.cell 0
              have d1 := hB.cell 1
              have hfl := findFrom_lt q nodes 0
              obtain ⟨f, hf⟩ : ∃ f, findI nodes q = f := ⟨_, rfl⟩
              rw [show findFrom q nodes 0 = f from hf, Int.zero_add] at hfl
              simp only [hf]
              by_cases a4 : f < 0
              · have H2 := show upBad nodes x = true by rw [upBad, HQ.out, a3, hf, decide_eq_true a4]; rfl
                have HV := Lib.hid (hF.out _ (hR.out.trans (by rw [HD.out, formRun, if_neg (by rw [H1.out]; simp), if_pos H2])))
                clear H2
                have HF := Lib.hid hf; clear hf hfl
                go_wp2
                go_ret
                exact ⟨by rw [HV.out]; rfl, hb⟩
              · obtain ⟨m, rfl⟩ := Int.eq_ofNat_of_zero_le (show 0 ≤ f by omega)
                have hm : m < nn := by rw [← Hn.out]; omega
                obtain ⟨yb, yo, y, hye, hyb, hy, hyc⟩ := (HS.out.keep (Nat.le_refl _) hb.block).get Node.len Hn.out hm
                injection hye with hye; injection hye with e1 e2 e3; subst e1 e2
                have y1 := hyc 1 _ rfl
                clear hyc
                have hmi : (m : Int) < nn := by omega
                by_cases a9 : y.file = -1
                · have H2 := Lib.hid (show upBad nodes x = false by rw [upBad, HQ.out, a3, hf, decide_eq_false (by omega), Int.toNat_natCast, hy, Option.map_some, Option.getD_some, a9]; rfl)
                  have HF := Lib.hid hf; have HY := Lib.hid hy; clear hf hy hfl
                  have a9b : (y.file != -1) = false := by rw [a9]; rfl
                  have A9 := Lib.hid a9; clear a9
                  go_upto_region 14 with (fail)
                  clear y1
                  by_cases a5 : x.file = -1
                  · have a5b : (x.file == -1) = true := beq_iff_eq.2 a5
                    cases a6 : okMode x.mode with
                    | false =>
                      have HV := Lib.hid (hF.out _ (hR.out.trans (by rw [HD.out, formRun, if_neg (by rw [H1.out]; simp), if_neg (by rw [H2.out]; simp), if_pos a5, if_neg (by rw [a6]; simp)])))
                      have A5 := Lib.hid a5; clear a5
                      have A6 := Lib.hid a6; clear a6
                      go_upto_region 16 with (go_at_call 62; refine (rmode_any x.mode _).mono ?_; rintro e w4 ⟨rfl, rfl⟩; rw [A6.out])
                      go_wp2
                      go_ret
                      exact ⟨by rw [HV.out]; rfl, hb⟩
                    | true =>
                      have HN := Lib.hid (hR.out.trans (show _ = formRun nodes fn (nodes.drop (k + 1)) (some x.path) next by rw [HD.out, formRun, if_neg (by rw [H1.out]; simp), if_neg (by rw [H2.out]; simp), if_pos a5, if_pos a6]))
                      have A5 := Lib.hid a5; clear a5
                      have A6 := Lib.hid a6; clear a6
                      go_upto_region 16 with (go_at_call 62; refine (rmode_any x.mode _).mono ?_; rintro e w4 ⟨rfl, rfl⟩; rw [A6.out])
                      go_wp2
                      go_roundw
                      case rel => exact ⟨k + 1, by omega, by go_num, next, some x.path, HN.out, by omega, by omega, rfl, ⟨fun h => absurd h (by omega), fun _ => ⟨x, HX.out, rfl⟩⟩, hB, hb⟩
                      case measure => simp [intOf]; omega
                  · have a5b : (x.file == -1) = false := beq_eq_false_iff_ne.2 a5
                    cases a7 : fileBad x next fn with
                    | true =>
                      have HV := Lib.hid (hF.out _ (hR.out.trans (by rw [HD.out, formRun, if_neg (by rw [H1.out]; simp), if_neg (by rw [H2.out]; simp), if_neg a5, if_pos a7])))
                      have A5 := Lib.hid a5; clear a5
                      have a7c := a7
                      have A7 := Lib.hid a7; clear a7
                      unfold fileBad at a7c
                      rcases or4 a7c with h7 | ⟨h6, h7⟩ | ⟨h5, h6, h7⟩ | ⟨h4, h5, h6, h7⟩
                      all_goals
                        clear a7c
                        (try simp only [decide_eq_true_eq, decide_eq_false_iff_not] at h4 h5 h6 h7)
                        (try simp only [decide_eq_true_eq, decide_eq_false_iff_not] at h5 h6 h7)
                        (try simp only [decide_eq_true_eq] at h7)
                        go_wp2
                        go_ret
                        exact ⟨by rw [HV.out]; rfl, hb⟩
                    | false =>
                      have HN0 := hR.out.trans (show _ = formRun nodes fn (nodes.drop (k + 1)) (some x.path) (if x.file = next then next + 1 else next) by rw [HD.out, formRun, if_neg (by rw [H1.out]; simp), if_neg (by rw [H2.out]; simp), if_neg a5, if_neg (by rw [a7]; simp)])
                      have A5 := Lib.hid a5; clear a5
                      unfold fileBad at a7
                      simp only [Bool.or_eq_false_iff, decide_eq_false_iff_not] at a7
                      obtain ⟨⟨⟨b1, b2⟩, b3⟩, b4⟩ := a7
                      by_cases a8 : x.file = next
                      · rw [if_pos a8] at HN0
                        have HN := Lib.hid HN0; clear HN0
                        have a8b : (x.file == next) = true := beq_iff_eq.2 a8
                        have A8 := Lib.hid a8; clear a8
                        go_wp2
                        go_roundw
                        case rel => exact ⟨k + 1, by omega, by go_num, next + 1, some x.path, HN.out, by omega, by omega, rfl, ⟨fun h => absurd h (by omega), fun _ => ⟨x, HX.out, rfl⟩⟩, hB, hb⟩
                        case measure => simp [intOf]; omega
                      · rw [if_neg a8] at HN0
                        have HN := Lib.hid HN0; clear HN0
                        have a8b : (x.file == next) = false := beq_eq_false_iff_ne.2 a8
                        have A8 := Lib.hid a8; clear a8
                        go_wp2
                        go_roundw
                        case rel => exact ⟨k + 1, by omega, by go_num, next, some x.path, HN.out, by omega, by omega, rfl, ⟨fun h => absurd h (by omega), fun _ => ⟨x, HX.out, rfl⟩⟩, hB, hb⟩
                        case measure => simp [intOf]; omega
                · have a9b : (y.file != -1) = true := bne_iff_ne.2 a9
                  have H2 := show upBad nodes x = true by rw [upBad, HQ.out, a3, hf, decide_eq_false (by omega), Int.toNat_natCast, hy, Option.map_some, Option.getD_some, a9b]; rfl
                  have HV := Lib.hid (hF.out _ (hR.out.trans (by rw [HD.out, formRun, if_neg (by rw [H1.out]; simp), if_pos H2])))
                  clear H2
                  have HF := Lib.hid hf; have HY := Lib.hid hy; clear hf hy hfl
                  have A9 := Lib.hid a9; clear a9
                  go_wp2
                  go_ret
                  exact ⟨by rw [HV.out]; rfl, hb⟩
    · obtain rfl : k = nn := by omega
      have hki : ¬ (k : Int) < k := by omega
      rw [List.drop_of_length_le (by rw [Hn.out]; exact Nat.le_refl _), formRun] at hR
      have hE := hF.out _ hR.out
      simp only at hE
      have HE := Lib.hid hE; clear hE hR
      go_wp2
      go_loopw [9] (fun v wr2 => ∃ j : Nat, j ≤ fn ∧ v = .int .i64 j ∧ (files.all fun x => okMode x.mode) = ((files.drop j).all fun x => okMode x.mode) ∧ Blk wr2 w.heap.size 25 #[.slice NA k nc, .slice FA fn fc] ∧ Below w.heap.size w wr2) (fun v _ => fn - (intOf v).toNat)
      case atStart => exact ⟨0, Nat.zero_le _, rfl, rfl, hB, hb⟩
      case round =>
        clear hB hb d0 d1
        obtain ⟨j, hj, rfl, hA, hB, hb⟩ := hrel
        have d0 := hB.cell 0
        have d1 := hB.cell 1
        by_cases hlt : j < fn
        · have hki : (j : Int) < fn := by omega
          obtain ⟨xb, xo, x, rfl, hxb, hx, hc⟩ := (HFS.out.keep (Nat.le_refl _) hb.block).get FC.len Hfl.out hlt
          have c0 := hc 0 _ rfl
          simp only [Nat.add_zero] at c0
          clear hc
          rw [drop_at' hx, List.all_cons] at hA
          clear hx
          cases hq : okMode x.mode with
          | false =>
            have Hf := Lib.hid (HE.out.trans (show _ = false by rw [hA, hq]; rfl))
            clear hA
            have HQ := Lib.hid hq; clear hq
            go_wp2_with (go_at_call 62; refine (rmode_any x.mode _).mono ?_; rintro e w4 ⟨rfl, rfl⟩; rw [HQ.out])
            go_ret
            exact ⟨by rw [Hf.out]; rfl, hb⟩
          | true =>
            have HA := Lib.hid (hA.trans (show _ = ((files.drop (j + 1)).all fun x => okMode x.mode) by rw [hq]; rfl))
            clear hA
            have HQ := Lib.hid hq; clear hq
            go_wp2_with (go_at_call 62; refine (rmode_any x.mode _).mono ?_; rintro e w4 ⟨rfl, rfl⟩; rw [HQ.out])
            go_roundw
            case rel => exact ⟨j + 1, by omega, by go_num, HA.out, hB, hb⟩
            case measure => simp [intOf]; omega
        · obtain rfl : j = fn := by omega
          have hki : ¬ (j : Int) < j := by omega
          rw [List.drop_of_length_le (by rw [Hfl.out]; exact Nat.le_refl _)] at hA
          have Hf := Lib.hid (HE.out.trans (show _ = decide (next = j) by rw [hA]; rfl))
          clear hA
          go_wp2
          go_ret
          refine ⟨?_, hb⟩
          rw [Hf.out]
          show Ending.returned (.bool _) = _
          by_cases h : next = j <;> simp [h]
end Go.Proofs.YthmeffpickejkaaGreat
