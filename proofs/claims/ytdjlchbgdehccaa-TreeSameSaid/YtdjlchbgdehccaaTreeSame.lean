/- TreeSame. -/
import Derived.Test.YtdjlchbgdehccaaAliveT
import Derived.Test.YtdjlchbgdehccaaSame
import Derived.Test.YtdjlchbgdehccaaBig
import Derived.Test.YtdjlchbgdehccaaOpenT
namespace Go.Proofs.Ytdjlchbgdehccaa.treeSameDone
open Go.ChangeShapes Go.WideShapes Go.ChangeAt Go.RowKit Go.Deep

theorem exact_self (t : TV) (ds : List ByteArray) : exactB t t ds ds = true := by simp [exactB]
theorem exact_turn (t u : TV) (ds es : List ByteArray) : exactB u t es ds = exactB t u ds es := by
  unfold exactB
  have h : ∀ {α : Type} (a b : α) [Decidable (a = b)] [Decidable (b = a)], decide (a = b) = decide (b = a) := fun a b _ _ => by simp only [decide_eq_decide]; exact ⟨Eq.symm, Eq.symm⟩
  rw [h u.nodes t.nodes, h (u.files.map (·.mode)) (t.files.map (·.mode)), h es ds]
theorem same_turn (t u : TV) (ds es : List ByteArray) : sameB u t es ds = sameB t u ds es := by
  unfold sameB
  rw [exact_turn]
  cases decide (looseE t = 0) <;> cases decide (looseE u = 0) <;> rfl
theorem same_self (t : TV) (ds : List ByteArray) : sameB t t ds ds = decide (looseE t = 0) := by
  unfold sameB
  rw [exact_self]
  cases decide (looseE t = 0) <;> rfl

set_option maxRecDepth 100000 in
set_option maxHeartbeats 4000000 in
theorem walk (t : TV) (ds : List ByteArray) (u : TV) (es : List ByteArray) (w : World) (ht : TreeD w t ds) (hu : TreeD w u es) : Calls Try.prog 5 #[t.val, u.val] w fun e w' => e = .returned (.bool true) ∧ Below w.heap.size w w' := by
  have HT := Lib.hid ht
  have HU := Lib.hid hu
  have hS1 := same_turn t u ds es
  have hS2 := same_self t ds
  have hS0 : sameB t u ds es = (decide (looseE t = 0) && (decide (looseE u = 0) && exactB t u ds es)) := rfl
  obtain ⟨V, hV⟩ : ∃ V, sameB t u ds es = V := ⟨_, rfl⟩
  obtain ⟨E, hE⟩ : ∃ E, looseE t = E := ⟨_, rfl⟩
  obtain ⟨F, hF⟩ : ∃ F, looseE u = F := ⟨_, rfl⟩
  obtain ⟨X, hX⟩ : ∃ X, exactB t u ds es = X := ⟨_, rfl⟩
  rw [hV] at hS1
  rw [hV, hE, hF, hX] at hS0
  rw [hE] at hS2
  have HV := Lib.hid hV; have HE := Lib.hid hE; have HF := Lib.hid hF; have HX := Lib.hid hX; have HS1 := Lib.hid hS1; have HS2 := Lib.hid hS2; have HS0 := Lib.hid hS0
  clear ht hu hV hE hF hX hS1 hS2 hS0
  obtain ⟨nodes, files, NA, nn, nc, FA, fn, fc⟩ := t
  obtain ⟨nodes', files', NB, mn, mc, FB, fm, md⟩ := u
  unfold TV.val
  have hB1 := (Blk.new w 26 #[.slice NA nn nc, .slice FA fn fc]).alloc (.cells #[.slice NB mn mc, .slice FB fm md] 26)
  have hB2 := Blk.new (w.alloc (.cells #[.slice NA nn nc, .slice FA fn fc] 26)) 26 #[.slice NB mn mc, .slice FB fm md]
  rw [World.size_alloc] at hB2
  have hb := ((Below.refl w.heap.size w).alloc (Nat.le_refl _) (.cells #[.slice NA nn nc, .slice FA fn fc] 26)).alloc (by simp) (.cells #[.slice NB mn mc, .slice FB fm md] 26)
  have b0 := hB1.cell 0
  have b1 := hB1.cell 1
  have b2 := hB2.cell 0
  have b3 := hB2.cell 1
  have tok1 : True := trivial
  go_enter Try.func5, Try.ntmps5
  go_upto_region 4 with (first | (go_at_call 14; refine (alive_t _).mono ?_; rintro e w1 ⟨rfl, hb1⟩; replace hB1 := hB1.below hb1 hB1.lt; replace hB2 := hB2.below hb1 hB2.lt; replace hb := hb.trans (hb1.mono hb.size); have b0 := hB1.cell 0; have b1 := hB1.cell 1; have b2 := hB2.cell 0; have b3 := hB2.cell 1) | (go_at_call 19; have _t := tok1; refine (lbig_any ⟨nodes, files, NA, nn, nc, FA, fn, fc⟩ _ (HT.out.tree.keep hb)).mono ?_; rintro e w2 ⟨x, rfl, _, hb2⟩; replace hB1 := hB1.below hb2 hB1.lt; replace hB2 := hB2.below hb2 hB2.lt; replace hb := hb.trans (hb2.mono hb.size); have b0 := hB1.cell 0; have b1 := hB1.cell 1; have b2 := hB2.cell 0; have b3 := hB2.cell 1; clear tok1 _t) | (go_at_call 19; refine (lbig_any ⟨nodes', files', NB, mn, mc, FB, fm, md⟩ _ (HU.out.tree.keep hb)).mono ?_; rintro e w3 ⟨y, rfl, _, hb3⟩; replace hB1 := hB1.below hb3 hB1.lt; replace hB2 := hB2.below hb3 hB2.lt; replace hb := hb.trans (hb3.mono hb.size); have b0 := hB1.cell 0; have b1 := hB1.cell 1; have b2 := hB2.cell 0; have b3 := hB2.cell 1))
  cases x with
  | true =>
    go_wp2
    go_ret
    exact ⟨rfl, hb⟩
  | false =>
    cases y with
    | true =>
      go_wp2
      go_ret
      exact ⟨rfl, hb⟩
    | false =>
      have tok2 : True := trivial
      have hcase : (E = 0 ∧ F = 0 ∧ V = X) ∨ (E = 0 ∧ F ≠ 0 ∧ V = false) ∨ (E ≠ 0 ∧ V = false) := by
        have h := HS0.out
        by_cases e1 : E = 0
        · by_cases f1 : F = 0
          · rw [decide_eq_true e1, decide_eq_true f1] at h; exact .inl ⟨e1, f1, h⟩
          · rw [decide_eq_true e1, decide_eq_false f1] at h; exact .inr (.inl ⟨e1, f1, h⟩)
        · rw [decide_eq_false e1] at h; exact .inr (.inr ⟨e1, h⟩)
      have HS3 := Lib.hid (show sameB ⟨nodes, files, NA, nn, nc, FA, fn, fc⟩ ⟨nodes, files, NA, nn, nc, FA, fn, fc⟩ ds ds = (E == 0) by rw [HS2.out]; by_cases h : E = 0 <;> simp [h])
      clear HS0 HS2
      have hbs := hb.size
      rcases hcase with ⟨e1, f1, v1⟩ | ⟨e1, f1, v1⟩ | ⟨e1, v1⟩
      · have e2 : (E == 0) = true := beq_iff_eq.2 e1
        have f2 : (F == 0) = true := beq_iff_eq.2 f1
        subst v1
        replace e1 := Lib.hid e1; replace f1 := Lib.hid f1
        cases V
        all_goals
          go_upto_region 7 with (first | (go_at_call 20; have _t := tok2; refine (rloose_any ⟨nodes, files, NA, nn, nc, FA, fn, fc⟩ _ (HT.out.tree.keep hb)).mono ?_; rintro e w4 ⟨rfl, hq⟩; rw [HE.out]; replace hB1 := hB1.below hq hB1.lt; replace hB2 := hB2.below hq hB2.lt; replace hb := hb.trans (hq.mono hb.size); have b0 := hB1.cell 0; have b1 := hB1.cell 1; have b2 := hB2.cell 0; have b3 := hB2.cell 1; clear tok2 _t hq) | (go_at_call 20; refine (rloose_any ⟨nodes', files', NB, mn, mc, FB, fm, md⟩ _ (HU.out.tree.keep hb)).mono ?_; rintro e w5 ⟨rfl, hq⟩; rw [HF.out]; replace hB1 := hB1.below hq hB1.lt; replace hB2 := hB2.below hq hB2.lt; replace hb := hb.trans (hq.mono hb.size); have b0 := hB1.cell 0; have b1 := hB1.cell 1; have b2 := hB2.cell 0; have b3 := hB2.cell 1; clear hq) | (go_at_call 21; refine (exact_any ⟨nodes, files, NA, nn, nc, FA, fn, fc⟩ ⟨nodes', files', NB, mn, mc, FB, fm, md⟩ ds es _ (HT.out.keep hb) (HU.out.keep hb)).mono ?_; rintro e w6 ⟨rfl, hq⟩; rw [HX.out]; replace hB1 := hB1.below hq hB1.lt; replace hB2 := hB2.below hq hB2.lt; replace hb := hb.trans (hq.mono hb.size); have b0 := hB1.cell 0; have b1 := hB1.cell 1; have b2 := hB2.cell 0; have b3 := hB2.cell 1; clear hq))
          have hl1 := hB1.lt
          have hl2 := hB2.lt
          refine wp_region_ordB (none) [(0, true), (1, true), (3, true), (2, false), (4, true), (5, true), (6, true), (7, true), (9, true), (8, false), (10, true), (11, true), (12, true), (13, true), (14, true), (16, true), (15, false), (17, false), (18, true), (19, true), (20, true), (21, true)] (by kernel_rfl) (by kernel_rfl) fun hG0 => ?_
          repeat (first
            | (refine ord_skipB rfl (by rfl) ?_; simp only [Act.put, List.setIfInBounds_toArray, List.set_cons_zero, List.set_cons_succ])
            | (refine ord_qE rfl (by rfl) ?_; apply Exists.intro; refine ⟨fun w' hc' => ?_, ?_⟩; (focus (go_simp; (try go_bits); (try simp only [↓IntWalk.iteOmega]); with_reducible rfl)); simp only [Act.put, List.setIfInBounds_toArray, List.set_cons_zero, List.set_cons_succ]))
          refine ord_eB rfl fun K hK => ?_
          go_wp2_with (go_at_call 22; refine (same_any ⟨nodes, files, NA, nn, nc, FA, fn, fc⟩ ⟨nodes', files', NB, mn, mc, FB, fm, md⟩ ds es _ (HT.out.keep (hb.trans (below_grown hG0 hb.size (fun g e => by cases e)))) (HU.out.keep (hb.trans (below_grown hG0 hb.size (fun g e => by cases e))))).mono ?_; rintro e w7 ⟨rfl, hb7⟩; rw [HV.out])
          have hG1 := grown_trans hG0 (grown_below hb7 (Nat.le_refl _))
          refine hK.out _ _ hG1 ?_
          clear hK K
          repeat (first
            | (refine ord_skipB rfl (by rfl) ?_; simp only [Act.put, List.setIfInBounds_toArray, List.set_cons_zero, List.set_cons_succ])
            | (refine ord_qE rfl (by rfl) ?_; apply Exists.intro; refine ⟨fun w' hc' => ?_, ?_⟩; (focus (go_simp; (try go_bits); (try simp only [↓IntWalk.iteOmega]); with_reducible rfl)); simp only [Act.put, List.setIfInBounds_toArray, List.set_cons_zero, List.set_cons_succ]))
          refine ord_eB rfl fun K hK => ?_
          go_wp2_with (go_at_call 22; refine (same_any ⟨nodes', files', NB, mn, mc, FB, fm, md⟩ ⟨nodes, files, NA, nn, nc, FA, fn, fc⟩ es ds _ (HU.out.keep (hb.trans (below_grown hG1 hb.size (fun g e => by cases e)))) (HT.out.keep (hb.trans (below_grown hG1 hb.size (fun g e => by cases e))))).mono ?_; rintro e w8 ⟨rfl, hb8⟩; rw [HS1.out])
          have hG2 := grown_trans hG1 (grown_below hb8 (Nat.le_refl _))
          refine hK.out _ _ hG2 ?_
          clear hK K
          repeat (first
            | (refine ord_skipB rfl (by rfl) ?_; simp only [Act.put, List.setIfInBounds_toArray, List.set_cons_zero, List.set_cons_succ])
            | (refine ord_qE rfl (by rfl) ?_; apply Exists.intro; refine ⟨fun w' hc' => ?_, ?_⟩; (focus (go_simp; (try go_bits); (try simp only [↓IntWalk.iteOmega]); with_reducible rfl)); simp only [Act.put, List.setIfInBounds_toArray, List.set_cons_zero, List.set_cons_succ]))
          refine ord_eB rfl fun K hK => ?_
          go_wp2_with (go_at_call 22; refine (same_any ⟨nodes, files, NA, nn, nc, FA, fn, fc⟩ ⟨nodes, files, NA, nn, nc, FA, fn, fc⟩ ds ds _ (HT.out.keep (hb.trans (below_grown hG2 hb.size (fun g e => by cases e)))) (HT.out.keep (hb.trans (below_grown hG2 hb.size (fun g e => by cases e))))).mono ?_; rintro e w9 ⟨rfl, hb9⟩; rw [HS3.out])
          have hG3 := grown_trans hG2 (grown_below hb9 (Nat.le_refl _))
          refine hK.out _ _ hG3 ?_
          clear hK K
          repeat (first
            | (refine ord_skipB rfl (by rfl) ?_; simp only [Act.put, List.setIfInBounds_toArray, List.set_cons_zero, List.set_cons_succ])
            | (refine ord_qE rfl (by rfl) ?_; apply Exists.intro; refine ⟨fun w' hc' => ?_, ?_⟩; (focus (go_simp; (try go_bits); (try simp only [↓IntWalk.iteOmega]); with_reducible rfl)); simp only [Act.put, List.setIfInBounds_toArray, List.set_cons_zero, List.set_cons_succ]))
          refine ord_eB rfl fun K hK => ?_
          go_wp2_with (go_at_call 20; refine (rloose_any ⟨nodes, files, NA, nn, nc, FA, fn, fc⟩ _ (HT.out.tree.keep (hb.trans (below_grown hG3 hb.size (fun g e => by cases e))))).mono ?_; rintro e w10 ⟨rfl, hb10⟩; rw [HE.out])
          have hG4 := grown_trans hG3 (grown_below hb10 (Nat.le_refl _))
          refine hK.out _ _ hG4 ?_
          clear hK K
          repeat (first
            | (refine ord_skipB rfl (by rfl) ?_; simp only [Act.put, List.setIfInBounds_toArray, List.set_cons_zero, List.set_cons_succ])
            | (refine ord_qE rfl (by rfl) ?_; apply Exists.intro; refine ⟨fun w' hc' => ?_, ?_⟩; (focus (go_simp; (try go_bits); (try simp only [↓IntWalk.iteOmega]); with_reducible rfl)); simp only [Act.put, List.setIfInBounds_toArray, List.set_cons_zero, List.set_cons_succ]))
          refine ord_end ?_
          go_wp2
          go_ret
          exact ⟨rfl, hb.trans (below_grown hG4 hb.size (fun g e => by cases e))⟩
      · have e2 : (E == 0) = true := beq_iff_eq.2 e1
        have f2 : (F == 0) = false := beq_eq_false_iff_ne.2 f1
        subst v1
        replace e1 := Lib.hid e1; replace f1 := Lib.hid f1
        go_upto_region 7 with (first | (go_at_call 20; have _t := tok2; refine (rloose_any ⟨nodes, files, NA, nn, nc, FA, fn, fc⟩ _ (HT.out.tree.keep hb)).mono ?_; rintro e w4 ⟨rfl, hq⟩; rw [HE.out]; replace hB1 := hB1.below hq hB1.lt; replace hB2 := hB2.below hq hB2.lt; replace hb := hb.trans (hq.mono hb.size); have b0 := hB1.cell 0; have b1 := hB1.cell 1; have b2 := hB2.cell 0; have b3 := hB2.cell 1; clear tok2 _t hq) | (go_at_call 20; refine (rloose_any ⟨nodes', files', NB, mn, mc, FB, fm, md⟩ _ (HU.out.tree.keep hb)).mono ?_; rintro e w5 ⟨rfl, hq⟩; rw [HF.out]; replace hB1 := hB1.below hq hB1.lt; replace hB2 := hB2.below hq hB2.lt; replace hb := hb.trans (hq.mono hb.size); have b0 := hB1.cell 0; have b1 := hB1.cell 1; have b2 := hB2.cell 0; have b3 := hB2.cell 1; clear hq) | (go_at_call 21; refine (exact_any ⟨nodes, files, NA, nn, nc, FA, fn, fc⟩ ⟨nodes', files', NB, mn, mc, FB, fm, md⟩ ds es _ (HT.out.keep hb) (HU.out.keep hb)).mono ?_; rintro e w6 ⟨rfl, hq⟩; rw [HX.out]; replace hB1 := hB1.below hq hB1.lt; replace hB2 := hB2.below hq hB2.lt; replace hb := hb.trans (hq.mono hb.size); have b0 := hB1.cell 0; have b1 := hB1.cell 1; have b2 := hB2.cell 0; have b3 := hB2.cell 1; clear hq))
        have hl1 := hB1.lt
        have hl2 := hB2.lt
        refine wp_region_ordB (none) [(0, true), (1, true), (3, true), (2, false), (4, true), (5, true), (6, true), (7, true), (9, true), (8, false), (10, true), (11, true), (12, true), (13, true), (14, true), (16, true), (15, false), (17, false), (18, true), (19, true), (20, true), (21, true)] (by kernel_rfl) (by kernel_rfl) fun hG0 => ?_
        repeat (first
          | (refine ord_skipB rfl (by rfl) ?_; simp only [Act.put, List.setIfInBounds_toArray, List.set_cons_zero, List.set_cons_succ])
          | (refine ord_qE rfl (by rfl) ?_; apply Exists.intro; refine ⟨fun w' hc' => ?_, ?_⟩; (focus (go_simp; (try go_bits); (try simp only [↓IntWalk.iteOmega]); with_reducible rfl)); simp only [Act.put, List.setIfInBounds_toArray, List.set_cons_zero, List.set_cons_succ]))
        refine ord_eB rfl fun K hK => ?_
        go_wp2_with (go_at_call 22; refine (same_any ⟨nodes, files, NA, nn, nc, FA, fn, fc⟩ ⟨nodes', files', NB, mn, mc, FB, fm, md⟩ ds es _ (HT.out.keep (hb.trans (below_grown hG0 hb.size (fun g e => by cases e)))) (HU.out.keep (hb.trans (below_grown hG0 hb.size (fun g e => by cases e))))).mono ?_; rintro e w7 ⟨rfl, hb7⟩; rw [HV.out])
        have hG1 := grown_trans hG0 (grown_below hb7 (Nat.le_refl _))
        refine hK.out _ _ hG1 ?_
        clear hK K
        repeat (first
          | (refine ord_skipB rfl (by rfl) ?_; simp only [Act.put, List.setIfInBounds_toArray, List.set_cons_zero, List.set_cons_succ])
          | (refine ord_qE rfl (by rfl) ?_; apply Exists.intro; refine ⟨fun w' hc' => ?_, ?_⟩; (focus (go_simp; (try go_bits); (try simp only [↓IntWalk.iteOmega]); with_reducible rfl)); simp only [Act.put, List.setIfInBounds_toArray, List.set_cons_zero, List.set_cons_succ]))
        refine ord_eB rfl fun K hK => ?_
        go_wp2_with (go_at_call 22; refine (same_any ⟨nodes', files', NB, mn, mc, FB, fm, md⟩ ⟨nodes, files, NA, nn, nc, FA, fn, fc⟩ es ds _ (HU.out.keep (hb.trans (below_grown hG1 hb.size (fun g e => by cases e)))) (HT.out.keep (hb.trans (below_grown hG1 hb.size (fun g e => by cases e))))).mono ?_; rintro e w8 ⟨rfl, hb8⟩; rw [HS1.out])
        have hG2 := grown_trans hG1 (grown_below hb8 (Nat.le_refl _))
        refine hK.out _ _ hG2 ?_
        clear hK K
        repeat (first
          | (refine ord_skipB rfl (by rfl) ?_; simp only [Act.put, List.setIfInBounds_toArray, List.set_cons_zero, List.set_cons_succ])
          | (refine ord_qE rfl (by rfl) ?_; apply Exists.intro; refine ⟨fun w' hc' => ?_, ?_⟩; (focus (go_simp; (try go_bits); (try simp only [↓IntWalk.iteOmega]); with_reducible rfl)); simp only [Act.put, List.setIfInBounds_toArray, List.set_cons_zero, List.set_cons_succ]))
        refine ord_eB rfl fun K hK => ?_
        go_wp2_with (go_at_call 22; refine (same_any ⟨nodes, files, NA, nn, nc, FA, fn, fc⟩ ⟨nodes, files, NA, nn, nc, FA, fn, fc⟩ ds ds _ (HT.out.keep (hb.trans (below_grown hG2 hb.size (fun g e => by cases e)))) (HT.out.keep (hb.trans (below_grown hG2 hb.size (fun g e => by cases e))))).mono ?_; rintro e w9 ⟨rfl, hb9⟩; rw [HS3.out])
        have hG3 := grown_trans hG2 (grown_below hb9 (Nat.le_refl _))
        refine hK.out _ _ hG3 ?_
        clear hK K
        repeat (first
          | (refine ord_skipB rfl (by rfl) ?_; simp only [Act.put, List.setIfInBounds_toArray, List.set_cons_zero, List.set_cons_succ])
          | (refine ord_qE rfl (by rfl) ?_; apply Exists.intro; refine ⟨fun w' hc' => ?_, ?_⟩; (focus (go_simp; (try go_bits); (try simp only [↓IntWalk.iteOmega]); with_reducible rfl)); simp only [Act.put, List.setIfInBounds_toArray, List.set_cons_zero, List.set_cons_succ]))
        refine ord_eB rfl fun K hK => ?_
        go_wp2_with (go_at_call 20; refine (rloose_any ⟨nodes, files, NA, nn, nc, FA, fn, fc⟩ _ (HT.out.tree.keep (hb.trans (below_grown hG3 hb.size (fun g e => by cases e))))).mono ?_; rintro e w10 ⟨rfl, hb10⟩; rw [HE.out])
        have hG4 := grown_trans hG3 (grown_below hb10 (Nat.le_refl _))
        refine hK.out _ _ hG4 ?_
        clear hK K
        repeat (first
          | (refine ord_skipB rfl (by rfl) ?_; simp only [Act.put, List.setIfInBounds_toArray, List.set_cons_zero, List.set_cons_succ])
          | (refine ord_qE rfl (by rfl) ?_; apply Exists.intro; refine ⟨fun w' hc' => ?_, ?_⟩; (focus (go_simp; (try go_bits); (try simp only [↓IntWalk.iteOmega]); with_reducible rfl)); simp only [Act.put, List.setIfInBounds_toArray, List.set_cons_zero, List.set_cons_succ]))
        refine ord_end ?_
        go_wp2
        go_ret
        exact ⟨rfl, hb.trans (below_grown hG4 hb.size (fun g e => by cases e))⟩
      · have e2 : (E == 0) = false := beq_eq_false_iff_ne.2 e1
        subst v1
        replace e1 := Lib.hid e1
        go_upto_region 7 with (first | (go_at_call 20; have _t := tok2; refine (rloose_any ⟨nodes, files, NA, nn, nc, FA, fn, fc⟩ _ (HT.out.tree.keep hb)).mono ?_; rintro e w4 ⟨rfl, hq⟩; rw [HE.out]; replace hB1 := hB1.below hq hB1.lt; replace hB2 := hB2.below hq hB2.lt; replace hb := hb.trans (hq.mono hb.size); have b0 := hB1.cell 0; have b1 := hB1.cell 1; have b2 := hB2.cell 0; have b3 := hB2.cell 1; clear tok2 _t hq) | (go_at_call 20; refine (rloose_any ⟨nodes', files', NB, mn, mc, FB, fm, md⟩ _ (HU.out.tree.keep hb)).mono ?_; rintro e w5 ⟨rfl, hq⟩; rw [HF.out]; replace hB1 := hB1.below hq hB1.lt; replace hB2 := hB2.below hq hB2.lt; replace hb := hb.trans (hq.mono hb.size); have b0 := hB1.cell 0; have b1 := hB1.cell 1; have b2 := hB2.cell 0; have b3 := hB2.cell 1; clear hq) | (go_at_call 21; refine (exact_any ⟨nodes, files, NA, nn, nc, FA, fn, fc⟩ ⟨nodes', files', NB, mn, mc, FB, fm, md⟩ ds es _ (HT.out.keep hb) (HU.out.keep hb)).mono ?_; rintro e w6 ⟨rfl, hq⟩; rw [HX.out]; replace hB1 := hB1.below hq hB1.lt; replace hB2 := hB2.below hq hB2.lt; replace hb := hb.trans (hq.mono hb.size); have b0 := hB1.cell 0; have b1 := hB1.cell 1; have b2 := hB2.cell 0; have b3 := hB2.cell 1; clear hq))
        have hl1 := hB1.lt
        have hl2 := hB2.lt
        refine wp_region_ordB (none) [(0, true), (1, true), (3, true), (2, false), (4, true), (5, true), (6, true), (7, true), (9, true), (8, false), (10, true), (11, true), (12, true), (13, true), (14, true), (16, true), (15, false), (17, false), (18, true), (19, true), (20, true), (21, true)] (by kernel_rfl) (by kernel_rfl) fun hG0 => ?_
        repeat (first
          | (refine ord_skipB rfl (by rfl) ?_; simp only [Act.put, List.setIfInBounds_toArray, List.set_cons_zero, List.set_cons_succ])
          | (refine ord_qE rfl (by rfl) ?_; apply Exists.intro; refine ⟨fun w' hc' => ?_, ?_⟩; (focus (go_simp; (try go_bits); (try simp only [↓IntWalk.iteOmega]); with_reducible rfl)); simp only [Act.put, List.setIfInBounds_toArray, List.set_cons_zero, List.set_cons_succ]))
        refine ord_eB rfl fun K hK => ?_
        go_wp2_with (go_at_call 22; refine (same_any ⟨nodes, files, NA, nn, nc, FA, fn, fc⟩ ⟨nodes', files', NB, mn, mc, FB, fm, md⟩ ds es _ (HT.out.keep (hb.trans (below_grown hG0 hb.size (fun g e => by cases e)))) (HU.out.keep (hb.trans (below_grown hG0 hb.size (fun g e => by cases e))))).mono ?_; rintro e w7 ⟨rfl, hb7⟩; rw [HV.out])
        have hG1 := grown_trans hG0 (grown_below hb7 (Nat.le_refl _))
        refine hK.out _ _ hG1 ?_
        clear hK K
        repeat (first
          | (refine ord_skipB rfl (by rfl) ?_; simp only [Act.put, List.setIfInBounds_toArray, List.set_cons_zero, List.set_cons_succ])
          | (refine ord_qE rfl (by rfl) ?_; apply Exists.intro; refine ⟨fun w' hc' => ?_, ?_⟩; (focus (go_simp; (try go_bits); (try simp only [↓IntWalk.iteOmega]); with_reducible rfl)); simp only [Act.put, List.setIfInBounds_toArray, List.set_cons_zero, List.set_cons_succ]))
        refine ord_eB rfl fun K hK => ?_
        go_wp2_with (go_at_call 22; refine (same_any ⟨nodes', files', NB, mn, mc, FB, fm, md⟩ ⟨nodes, files, NA, nn, nc, FA, fn, fc⟩ es ds _ (HU.out.keep (hb.trans (below_grown hG1 hb.size (fun g e => by cases e)))) (HT.out.keep (hb.trans (below_grown hG1 hb.size (fun g e => by cases e))))).mono ?_; rintro e w8 ⟨rfl, hb8⟩; rw [HS1.out])
        have hG2 := grown_trans hG1 (grown_below hb8 (Nat.le_refl _))
        refine hK.out _ _ hG2 ?_
        clear hK K
        repeat (first
          | (refine ord_skipB rfl (by rfl) ?_; simp only [Act.put, List.setIfInBounds_toArray, List.set_cons_zero, List.set_cons_succ])
          | (refine ord_qE rfl (by rfl) ?_; apply Exists.intro; refine ⟨fun w' hc' => ?_, ?_⟩; (focus (go_simp; (try go_bits); (try simp only [↓IntWalk.iteOmega]); with_reducible rfl)); simp only [Act.put, List.setIfInBounds_toArray, List.set_cons_zero, List.set_cons_succ]))
        refine ord_eB rfl fun K hK => ?_
        go_wp2_with (go_at_call 22; refine (same_any ⟨nodes, files, NA, nn, nc, FA, fn, fc⟩ ⟨nodes, files, NA, nn, nc, FA, fn, fc⟩ ds ds _ (HT.out.keep (hb.trans (below_grown hG2 hb.size (fun g e => by cases e)))) (HT.out.keep (hb.trans (below_grown hG2 hb.size (fun g e => by cases e))))).mono ?_; rintro e w9 ⟨rfl, hb9⟩; rw [HS3.out])
        have hG3 := grown_trans hG2 (grown_below hb9 (Nat.le_refl _))
        refine hK.out _ _ hG3 ?_
        clear hK K
        repeat (first
          | (refine ord_skipB rfl (by rfl) ?_; simp only [Act.put, List.setIfInBounds_toArray, List.set_cons_zero, List.set_cons_succ])
          | (refine ord_qE rfl (by rfl) ?_; apply Exists.intro; refine ⟨fun w' hc' => ?_, ?_⟩; (focus (go_simp; (try go_bits); (try simp only [↓IntWalk.iteOmega]); with_reducible rfl)); simp only [Act.put, List.setIfInBounds_toArray, List.set_cons_zero, List.set_cons_succ]))
        refine ord_eB rfl fun K hK => ?_
        go_wp2_with (go_at_call 20; refine (rloose_any ⟨nodes, files, NA, nn, nc, FA, fn, fc⟩ _ (HT.out.tree.keep (hb.trans (below_grown hG3 hb.size (fun g e => by cases e))))).mono ?_; rintro e w10 ⟨rfl, hb10⟩; rw [HE.out])
        have hG4 := grown_trans hG3 (grown_below hb10 (Nat.le_refl _))
        refine hK.out _ _ hG4 ?_
        clear hK K
        repeat (first
          | (refine ord_skipB rfl (by rfl) ?_; simp only [Act.put, List.setIfInBounds_toArray, List.set_cons_zero, List.set_cons_succ])
          | (refine ord_qE rfl (by rfl) ?_; apply Exists.intro; refine ⟨fun w' hc' => ?_, ?_⟩; (focus (go_simp; (try go_bits); (try simp only [↓IntWalk.iteOmega]); with_reducible rfl)); simp only [Act.put, List.setIfInBounds_toArray, List.set_cons_zero, List.set_cons_succ]))
        refine ord_end ?_
        go_wp2
        go_ret
        exact ⟨rfl, hb.trans (below_grown hG4 hb.size (fun g e => by cases e))⟩


set_option maxRecDepth 100000 in
theorem lifted (os : Os) (started : os.Started) (H : Type) (enc : TypeId × Value → H) :
    ReturnsInHanded {} Try.checked os 5 .any (Rows.treeSameSpec.pre6 enc Try.prog Try.f5 Rows.treeSameRow.domain false) (Rows.treeSameSpec.post enc Try.prog Try.f5 false true false false) := by
  refine returnsInHanded_of_change (C := Try.checked) own started (by kernel_rfl) Try.func5
    (ChangeSpec.witness6 (enc := enc) (C := Try.checked) false ⟨#[], #[.agg #[.slice none 0 0, .slice none 0 0], .agg #[.slice none 0 0, .slice none 0 0]], []⟩ 8 (by kernel_rfl) (by kernel_rfl) (by kernel_rfl) (by kernel_rfl)) ?_
  intro W base args ds gs before hval0 hW hcnd _
  have hval : ∀ (j : Nat) t v, Try.f5.params[j]? = some t → args[j]? = some v → Value.okWide Try.prog W .any base t v := hval0
  have hW' := hW
  obtain ⟨p, q, hA0, hV, rfl, hfz, hnd⟩ := hW
  have hA : DataW.TrodAll enc Try.prog W 0 (fun _ => true) true Try.f5.params.toList args.toList ds p := hA0
  rw [Try.params5] at hA hval
  obtain ⟨v0, vs0, d0, ds0, p0, q0, hargs, rfl, rfl, h0, r0⟩ := trodAll_cons hA
  obtain ⟨v1, vs1, d1, ds1, p1, q1, rfl, rfl, rfl, h1, r1⟩ := trodAll_cons r0
  obtain ⟨rfl, rfl, rfl⟩ := trodAll_nil r1
  obtain rfl : args = #[v0, v1] := by cases args; simp_all
  obtain ⟨rfl, rfl⟩ := trodVars_none hV
  have k0 := h0
  have lt0 : ∀ x ∈ p0, x.block < W.heap.size := by obtain ⟨m, hm⟩ := k0; exact DataW.trod_lt m _ _ _ hm
  obtain ⟨t0, ds0', rfl, hT0⟩ := open_tree (hval 0 26 v0 rfl rfl) h0 lt0
  have k1 := h1
  have lt1 : ∀ x ∈ p1, x.block < W.heap.size := by obtain ⟨m, hm⟩ := k1; exact DataW.trod_lt m _ _ _ hm
  obtain ⟨t1, ds1', rfl, hT1⟩ := open_tree (hval 1 26 v1 rfl rfl) h1 lt1
  clear hA0 hval0
  refine (walk t0 ds0' t1 ds1' W hT0 hT1).mono fun e W' ⟨he, bel⟩ => ?_
  subst he
  exact ⟨_, rfl, _, _, _, [], _, [], hW', trodAll_mk1 (shut_bool Try.underlying4 _), (trodAll_cons_mk (Below.trod laidOut (by kernel_rfl) (of_decide_eq_true (by kernel_rfl)) k0 bel lt0) (trodAll_cons_mk (Below.trod laidOut (by kernel_rfl) (of_decide_eq_true (by kernel_rfl)) k1 bel lt1) trodAll_mk0)), rfl, bel.frame _, fun h => by cases h⟩

theorem over : Rows.treeSameRow.holds Try.pinned (OpenSpec.ofChange Rows.treeSameSpec) :=
  OpenClaim.holds_of_wide 5 Try.f5 rfl rfl rfl rfl rfl rfl rfl ⟨rfl, rfl, rfl, rfl, rfl⟩ rfl rfl rfl rfl rfl (by kernel_rfl) Try.func5 (by kernel_rfl)
    (of_decide_eq_true (by kernel_rfl)) (by unfold Func.isWrapper; first | (rw [if_pos (by decide +kernel)]; kernel_rfl) | (rw [if_neg (by decide +kernel)]; exact ⟨rfl, rfl⟩))
    (fun os started H enc _ => lifted os started H enc)

theorem proved : Rows.TreeSameSaid := over
#print axioms proved
end Go.Proofs.Ytdjlchbgdehccaa.treeSameDone
