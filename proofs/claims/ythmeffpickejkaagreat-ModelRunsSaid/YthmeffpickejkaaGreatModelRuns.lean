/- ModelRuns: Run, Curve and Peak of every tree, list and stock. -/
import Derived.Test.YthmeffpickejkaaGreatRunsP
import Derived.Test.YthmeffpickejkaaGreatMuch7
import Derived.ChangeMaps5
import Derived.Deep.DeepCutAuto
namespace Go.Proofs.YthmeffpickejkaaGreat.modelRunsDone
open Go.ChangeShapes Go.WideShapes Go.ChangeAt Go.ChangeMaps Go.RowKit Go.Deep

theorem cmdL_one (cs : List Cmd) : ∀ u ∈ cs.flatMap Cmd.list, u.oneCell' = true := by
  intro u hu
  obtain ⟨x, _, hx⟩ := List.mem_flatMap.1 hu
  simp only [Cmd.list, List.mem_cons, List.not_mem_nil, or_false] at hx
  rcases hx with rfl | rfl | rfl | rfl | rfl <;> rfl
theorem last_get (p : TV × List ByteArray) : ∀ (l : List (TV × List ByteArray)), (p :: l)[l.length]? = some (lastOf p l)
  | [] => rfl
  | q :: l => by rw [List.length_cons, List.getElem?_cons_succ]; exact last_get q l
theorem open_exact {u v : TV} {es fs : List ByteArray} {w w' : World} (hu : TreeD w u es) (hv : TreeD w' v fs) (lu : looseE u = 0) (lv : looseE v = 0) (hV : SameV (openM u es) (openM v fs)) : exactB u v es fs = true :=
  exact_of_view (looseP_of lu) (looseP_of lv) hu.tree.fl hv.tree.fl hu.dat.len hv.dat.len (fun p => (open_kind (good_of_loose lu) p).symm.trans ((hV.kind p).trans (open_kind (good_of_loose lv) p))) fun p q => hV.same p q
theorem eqSelf (a0 a3 a4 : Int) (a1 a2 : ByteArray) (w : World) :
    (Op.equalIn 10000 32 (.agg #[.int .i64 a0, .string a1, .string a2, .int .i64 a3, .int .i64 a4]) (.agg #[.int .i64 a0, .string a1, .string a2, .int .i64 a3, .int .i64 a4])).run Tryz.prog w = .ok true w := by
  have u3 := Tryz.underlying3
  have u9 := Tryz.underlying9
  have hS : Tryz.prog.underlying 32 = some (.struct (Tryz.prog.fieldsOf 32)) := by kernel_rfl
  rw [show (10000 : Nat) = 9999 + 1 from rfl, run_equalIn_agg w 9999 32 _ _ hS Tryz.stoodInHeld32]
  simp only [Program.fieldsOf, Tryz.underlying32]
  go_simp
def dummy : Cmd := ⟨-71, ByteArray.empty, ByteArray.empty, 0, 0, Nat.zero_le _, Nat.zero_le _⟩
set_option maxRecDepth 100000 in
set_option maxHeartbeats 8000000 in
theorem walk (t : TV) (ds : List ByteArray) (cs : List Cmd) (A : Option Addr) (n c : Nat) (SA : Option Addr) (sn sc : Nat) (ss : List SC) (sd : List ByteArray) (w : World) (hT : TreeD w t ds) (hn : cs.length = n) (hA : Sl w w.heap.size 5 A n (cs.flatMap Cmd.list)) (hC : ∀ c ∈ cs, OpOk c) (_ : n ≤ c) (_ : c ≤ maxLen) (hS : StockAt w SA sn ss sd) :
    Calls Tryz.prog 3 #[t.val, .slice A n c, .slice SA sn sc] w fun e w' => e = .returned (.bool true) ∧ Below w.heap.size w w' := by
  have HT := Lib.hid hT; have HS := Lib.hid hS; have HC := Lib.hid hC; have HA := Lib.hid hA; have HN := Lib.hid hn
  clear hT hS hC hA hn
  obtain ⟨nodes, files, NA, nn, nc, FA, fn, fc⟩ := t
  unfold TV.val
  have hB := Blk.new w 25 #[.slice NA nn nc, .slice FA fn fc]
  have hb := (Below.refl w.heap.size w).alloc (Nat.le_refl _) (.cells #[.slice NA nn nc, .slice FA fn fc] 25)
  by_cases hbig : (60 : Int) < n
  · go_enter Tryz.func3, Tryz.ntmps3
    go_upto_region 4 with (first | (go_at_call 4; refine (alive7 _).mono ?_; rintro e w1 ⟨rfl, hb1⟩; replace hB := hB.below hb1 hB.lt; replace hb := hb.trans (hb1.mono hb.size); have b0 := hB.cell 0; have b1 := hB.cell 1) | (go_at_call 5; refine (lbig_any ⟨nodes, files, NA, nn, nc, FA, fn, fc⟩ _ (HT.out.tree.keep hb)).mono ?_; rintro e w2 ⟨p, rfl, _, hb2⟩; replace hb := hb.trans (hb2.mono hb.size); replace hB := hB.below hb2 hB.lt) | (go_at_call 6; refine (much7 SA sn sc ss sd _ (HS.out.keep hb)).mono ?_; rintro e w3 ⟨q, rfl, hb3⟩; replace hb := hb.trans (hb3.mono hb.size); replace hB := hB.below hb3 hB.lt))
    cases p <;> cases q
    all_goals go_wp2
    all_goals go_ret
    all_goals exact ⟨rfl, hb⟩
  go_enter Tryz.func3, Tryz.ntmps3
  go_upto_region 4 with (first | (go_at_call 4; refine (alive7 _).mono ?_; rintro e w1 ⟨rfl, hb1⟩; replace hB := hB.below hb1 hB.lt; replace hb := hb.trans (hb1.mono hb.size); have b0 := hB.cell 0; have b1 := hB.cell 1) | (go_at_call 5; refine (lbig_any ⟨nodes, files, NA, nn, nc, FA, fn, fc⟩ _ (HT.out.tree.keep hb)).mono ?_; rintro e w2 ⟨p, rfl, _, hb2⟩; replace hb := hb.trans (hb2.mono hb.size); replace hB := hB.below hb2 hB.lt) | (go_at_call 6; refine (much7 SA sn sc ss sd _ (HS.out.keep hb)).mono ?_; rintro e w3 ⟨q, rfl, hb3⟩; replace hb := hb.trans (hb3.mono hb.size); replace hB := hB.below hb3 hB.lt))
  cases p
  rotate_left
  · cases q
    all_goals go_wp2
    all_goals go_ret
    all_goals exact ⟨rfl, hb⟩
  cases q
  rotate_left
  · go_wp2
    go_ret
    exact ⟨rfl, hb⟩
  clear b0 b1 hb1 hb2 hb3
  have hn60 : n ≤ 60 := by omega
  have b0 := hB.cell 0; have b1 := hB.cell 1
  have hw3 := hb.size
  go_upto_region 6 with (fail)
  go_upto_region 7 with (first | (at_builtin; refine wpList_append_sl (L2 := cs.flatMap Cmd.list) (m := n) rfl _ _ _ rfl Tryz.cmdT rfl (World.ownsRow_nil w3 (w3.heap.size) _ _) rfl (HA.out.below hb (Nat.le_refl _)) (cmdL_one cs) (by unfold maxLen; omega) (by omega) (Nat.le_refl _) ?_; intro A4 c4 w4 ho4 hg4 hat4; simp only [Nat.zero_add, List.nil_append] at ho4 ⊢; have hz4 := hg4.size) | (at_builtin; refine wpList_append_one rfl _ _ _ rfl Tryz.cmdT rfl ho4 #[.int .i64 (-71), .string ByteArray.empty, .string ByteArray.empty, .int .i64 0, .int .i64 0] rfl (by first | rfl | simp) rfl (by simp [Value.oneCell']) (by unfold maxLen; omega) (by omega) hz4 ?_; intro g5 c5 w5 ho5 hg5 hat5))
  have h35 := (below_grown hg4 (Nat.le_refl _) (fun g e => by cases e)).trans (below_grown hg5 hz4 (fun g e => by rcases hat4 g e with h | h <;> first | exact h | cases h))
  have ho5' : w5.ownsRow w3.heap.size 32 5 (.slice (some ⟨g5, 0, none⟩) (n + 1) c5) (n + 1) ((cs ++ [dummy]).flatMap Cmd.list) := by rw [List.flatMap_append]; exact ho5
  have hFl := Sl.of_own ho5'
  have hFr := (own_row ho5).2.2.2
  have HF := Lib.hid hFl
  have hfn : (cs ++ [dummy]).length = n + 1 := by rw [List.length_append, HN.out]; rfl
  have hFn := hFl.first (k := n) (by omega)
  rw [flat_take (f := Cmd.list) (fun _ => rfl), List.take_left' HN.out] at hFn
  have HFn := Lib.hid hFn; have HFN := Lib.hid hfn
  have hc5 : n ≤ c5 := by omega
  replace hB := hB.below h35 hB.lt
  replace hb := hb.trans (h35.mono hb.size)
  obtain ⟨W5, hW5⟩ : ∃ W, W = w5 := ⟨_, rfl⟩
  rw [← hW5] at hB hb HF HFn ⊢
  clear hW5 ho4 hg4 hat4 hz4 ho5 hg5 hat5 h35 ho5' hFl hFr hfn hFn b0 b1 hw3
  obtain ⟨R, hR⟩ : ∃ R, runR ⟨nodes, files, NA, nn, nc, FA, fn, fc⟩ ds cs sd = R := ⟨_, rfl⟩
  obtain ⟨CV, hCV⟩ : ∃ l, curveR ⟨nodes, files, NA, nn, nc, FA, fn, fc⟩ ds cs sd = l := ⟨_, rfl⟩
  have hsl : ∀ W, Below W5.heap.size W5 W → Sl W W.heap.size 5 (some ⟨g5, 0, none⟩) n (cs.flatMap Cmd.list) := fun W hW => (HFn.out.below hW (Nat.le_refl _)).more hW.size
  have hr := fun W (hW : Below W5.heap.size W5 W) => Run_any ⟨nodes, files, NA, nn, nc, FA, fn, fc⟩ ds cs HC.out (some ⟨g5, 0, none⟩) n c5 SA sn sc ss sd W (HT.out.keep (hb.trans (hW.mono hb.size))) (hsl W hW) HN.out (by omega) (HS.out.keep (hb.trans (hW.mono hb.size)))
  have hc := fun W (hW : Below W5.heap.size W5 W) => Curve_any ⟨nodes, files, NA, nn, nc, FA, fn, fc⟩ ds cs HC.out (some ⟨g5, 0, none⟩) n c5 SA sn sc ss sd W (HT.out.keep (hb.trans (hW.mono hb.size))) (hsl W hW) HN.out (by omega) (HS.out.keep (hb.trans (hW.mono hb.size)))
  have hp := fun W (hW : Below W5.heap.size W5 W) => mpeak_any ⟨nodes, files, NA, nn, nc, FA, fn, fc⟩ ds cs HC.out (some ⟨g5, 0, none⟩) n c5 SA sn sc ss sd W (HT.out.keep (hb.trans (hW.mono hb.size))) (hsl W hW) HN.out (by omega) (HS.out.keep (hb.trans (hW.mono hb.size)))
  have hok := runR_ok HT.out cs sd
  rw [hR] at hr hok
  rw [hR, hCV] at hc hp
  obtain ⟨M, r, E⟩ := R
  unfold CurveRes at hc
  unfold MPeakRes at hp
  unfold TV.val at hr hc hp
  simp only at hr hc hp hok
  have HR := Lib.hid hR; have HCV := Lib.hid hCV; have HRun := Lib.hid hr; have HCu := Lib.hid hc; have HPe := Lib.hid hp; have HOk := Lib.hid hok
  clear hR hCV hr hc hp hsl hok
  have b0 := hB.cell 0; have b1 := hB.cell 1
  have hBl := hB.lt
  have hbs := hb.size
  go_cut [11, 12, 13] from 48 to 58 (fun p v e wx => v = .int .i64 r ∧ e = .int .i64 E ∧ TreeCut M W5 p wx)
  case first =>
    refine wp_region_T none (.q 0 (.q 1 (.q 2 (.q 3 (.q 4 (.q 5 (.e2 6 11 (.q 7 (.q 8 (.q 9 (.q 10 (.e1 11 (.e1 12 (.q 13 (.q 14 .done)))))))) (.e1 6 (.q 7 (.q 8 (.q 9 (.q 10 (.e1 12 (.q 13 (.q 14 .done))))))))))))))) (by kernel_rfl) (by kernel_rfl) fun hG0 => ?_
    repeat (first
      | (refine tree_skip rfl (by rfl) ?_; simp only [Act.put, List.setIfInBounds_toArray, List.set_cons_zero, List.set_cons_succ])
      | (refine tree_qE rfl (by rfl) ?_; apply Exists.intro; refine ⟨fun w' hc' => ?_, ?_⟩; (focus (go_simp; (try go_bits); (try simp only [↓IntWalk.iteOmega]); with_reducible rfl)); simp only [Act.put, List.setIfInBounds_toArray, List.set_cons_zero, List.set_cons_succ]))
    refine tree_e2 (tree_step rfl fun K hK => ?_) (tree_step rfl fun K hK => ?_)
    · have hBc := below_grown hG0 (Nat.le_refl _) (fun g e => by cases e)
      go_wp2_with (go_at_call 7; refine (HRun.out _ hBc).mono ?_; rintro e w5 ⟨x, TT, rfl, hT5, hb5⟩)
      have hG1 := grown_trans hG0 (grown_below hb5 (Nat.le_refl _))
      refine hK.out _ _ hG1 ?_
      clear hK K
      repeat (first
        | (refine tree_skip rfl (by rfl) ?_; simp only [Act.put, List.setIfInBounds_toArray, List.set_cons_zero, List.set_cons_succ])
        | (refine tree_qE rfl (by rfl) ?_; apply Exists.intro; refine ⟨fun w' hc' => ?_, ?_⟩; (focus (go_simp; (try go_bits); (try simp only [↓IntWalk.iteOmega]); with_reducible rfl)); simp only [Act.put, List.setIfInBounds_toArray, List.set_cons_zero, List.set_cons_succ]))
      refine tree_e1 (tree_step rfl fun K hK => ?_)
      go_wp2_with (fail)
      have hG2 := grown_trans hG1 (World.grownBy_alloc w5 (.cells #[.slice none 0 0, .slice none 0 0] 25) none)
      refine hK.out _ _ hG2 ?_
      clear hK K
      repeat (first
        | (refine tree_skip rfl (by rfl) ?_; simp only [Act.put, List.setIfInBounds_toArray, List.set_cons_zero, List.set_cons_succ])
        | (refine tree_qE rfl (by rfl) ?_; apply Exists.intro; refine ⟨fun w' hc' => ?_, ?_⟩; (focus (go_simp; (try go_bits); (try simp only [↓IntWalk.iteOmega]); with_reducible rfl)); simp only [Act.put, List.setIfInBounds_toArray, List.set_cons_zero, List.set_cons_succ]))
      refine tree_e1 (tree_step rfl fun K hK => ?_)
      go_wp2_with (fail)
      have hG3 := grown_trans hG1 (World.grownBy_alloc w5 (.cells #[.slice x.NA x.nn x.nc, .slice x.FA x.fn x.fc] 25) none)
      refine hK.out _ _ hG3 ?_
      clear hK K
      repeat (first
        | (refine tree_skip rfl (by rfl) ?_; simp only [Act.put, List.setIfInBounds_toArray, List.set_cons_zero, List.set_cons_succ])
        | (refine tree_qE rfl (by rfl) ?_; apply Exists.intro; refine ⟨fun w' hc' => ?_, ?_⟩; (focus (go_simp; (try go_bits); (try simp only [↓IntWalk.iteOmega]); with_reducible rfl)); simp only [Act.put, List.setIfInBounds_toArray, List.set_cons_zero, List.set_cons_succ]))
      refine tree_end ?_
      go_wp2_with (fail)
      go_meet
      exact ⟨rfl, rfl, TreeCut.alloc hT5 (below_grown hG1 (Nat.le_refl _) (fun g e => by cases e))⟩
    · have hZ := Blk.new W5.drew 25 #[.slice none 0 0, .slice none 0 0]
      go_wp2_with (fail)
      have hG1 := grown_trans hG0 (World.grownBy_alloc W5.drew (.cells #[.slice none 0 0, .slice none 0 0] 25) none)
      refine hK.out _ _ hG1 ?_
      clear hK K
      repeat (first
        | (refine tree_skip rfl (by rfl) ?_; simp only [Act.put, List.setIfInBounds_toArray, List.set_cons_zero, List.set_cons_succ])
        | (refine tree_qE rfl (by rfl) ?_; apply Exists.intro; refine ⟨fun w' hc' => ?_, ?_⟩; (focus (go_simp; (try go_bits); (try simp only [↓IntWalk.iteOmega]); with_reducible rfl)); simp only [Act.put, List.setIfInBounds_toArray, List.set_cons_zero, List.set_cons_succ]))
      refine tree_e1 (tree_step rfl fun K hK => ?_)
      have hBc := below_grown hG1 (Nat.le_refl _) (fun g e => by cases e)
      go_wp2_with (go_at_call 7; refine (HRun.out _ hBc).mono ?_; rintro e w5 ⟨x, TT, rfl, hT5, hb5⟩)
      have hG2 := grown_trans hG1 (grown_below hb5 (Nat.le_refl _))
      refine hK.out _ _ hG2 ?_
      clear hK K
      repeat (first
        | (refine tree_skip rfl (by rfl) ?_; simp only [Act.put, List.setIfInBounds_toArray, List.set_cons_zero, List.set_cons_succ])
        | (refine tree_qE rfl (by rfl) ?_; apply Exists.intro; refine ⟨fun w' hc' => ?_, ?_⟩; (focus (go_simp; (try go_bits); (try simp only [↓IntWalk.iteOmega]); with_reducible rfl)); simp only [Act.put, List.setIfInBounds_toArray, List.set_cons_zero, List.set_cons_succ]))
      have hZ5 : Blk w5 W5.heap.size 25 #[.slice none 0 0, .slice none 0 0] := hZ.below hb5 hZ.lt
      refine tree_e1 (tree_step rfl fun K hK => ?_)
      go_wp2_with (refine wpList_store_blk rfl 25 (.tmp 11) (.tmp 56) rfl hZ5 #[.slice x.NA x.nn x.nc, .slice x.FA x.fn x.fc] rfl rfl (show (Tryz.prog.info? 25).map (·.size) = some 2 by kernel_rfl) rfl (by simp [Value.oneCell']) ?_; intro w6 hB6 hg6 hs6)
      have hG3 : W5.grownBy w6 none := grown_below ((below_grown hG2 (Nat.le_refl _) (fun g e => by cases e)).trans (below_grown hg6 hG2.size (fun g e => by injection e with e; omega))) (Nat.le_refl _)
      refine hK.out _ _ hG3 ?_
      clear hK K
      repeat (first
        | (refine tree_skip rfl (by rfl) ?_; simp only [Act.put, List.setIfInBounds_toArray, List.set_cons_zero, List.set_cons_succ])
        | (refine tree_qE rfl (by rfl) ?_; apply Exists.intro; refine ⟨fun w' hc' => ?_, ?_⟩; (focus (go_simp; (try go_bits); (try simp only [↓IntWalk.iteOmega]); with_reducible rfl)); simp only [Act.put, List.setIfInBounds_toArray, List.set_cons_zero, List.set_cons_succ]))
      refine tree_end ?_
      go_wp2_with (fail)
      go_meet
      exact ⟨rfl, rfl, TreeCut.store hT5 (below_grown hG2 (Nat.le_refl _) (fun g e => by cases e)) hZ5 hB6 hg6 (by simp)⟩
  case rest =>
  obtain ⟨rfl, rfl, x, es, gx, rfl, hX, hgl, hTx, hTell, h56⟩ := hcut
  obtain ⟨W6, hW6⟩ : ∃ W, W = wc := ⟨_, rfl⟩
  rw [← hW6] at hX hTx h56 ⊢
  have HTx := Lib.hid hTx; have HTell := Lib.hid hTell
  clear hW6 hTx hTell b0 b1
  have hB6 := hB.below h56 hBl
  have b0 := hB6.cell 0; have b1 := hB6.cell 1
  have hs6 := h56.size
  have hB6l := hB6.lt
  go_upto_region 8 with (fail)
  refine wp_region_ordB (none) [(0, true), (1, true), (2, true), (3, true), (4, true), (5, true), (6, false), (7, true), (8, true), (9, true), (10, true), (11, true), (12, true), (13, true)] (by kernel_rfl) (by kernel_rfl) fun hG0 => ?_
  repeat (first
    | (refine ord_skipB rfl (by rfl) ?_; simp only [Act.put, List.setIfInBounds_toArray, List.set_cons_zero, List.set_cons_succ])
    | (refine ord_qE rfl (by rfl) ?_; apply Exists.intro; refine ⟨fun w' hc' => ?_, ?_⟩; (focus (go_simp; (try go_bits); (try simp only [↓IntWalk.iteOmega]); with_reducible rfl)); simp only [Act.put, List.setIfInBounds_toArray, List.set_cons_zero, List.set_cons_succ]))
  refine ord_eB rfl fun K hK => ?_
  go_wp2_with (go_at_call 8; refine (HCu.out _ (h56.trans ((below_grown hG0 (Nat.le_refl _) (fun g e => by cases e)).mono hs6))).mono ?_; rintro e w7 ⟨A2, n2, c2, rfl, hrow, hln, hb7⟩)
  have hG1 := grown_trans hG0 (grown_below hb7 (Nat.le_refl _))
  refine hK.out _ _ hG1 ?_
  clear hK K
  repeat (first
    | (refine ord_skipB rfl (by rfl) ?_; simp only [Act.put, List.setIfInBounds_toArray, List.set_cons_zero, List.set_cons_succ])
    | (refine ord_qE rfl (by rfl) ?_; apply Exists.intro; refine ⟨fun w' hc' => ?_, ?_⟩; (focus (go_simp; (try go_bits); (try simp only [↓IntWalk.iteOmega]); with_reducible rfl)); simp only [Act.put, List.setIfInBounds_toArray, List.set_cons_zero, List.set_cons_succ]))
  refine ord_end ?_
  have h67 := below_grown hG1 (Nat.le_refl _) (fun g e => by cases e)
  have HCrow := Lib.hid (Sl.of_own hrow); have HCln := Lib.hid hln
  have h57 := h56.trans (h67.mono hs6)
  have hs7 := h57.size
  replace hB6 := hB6.below h67 hB6l
  have HX7 := Lib.hid (hX.below h67 hX.lt)
  have HTx7 := Lib.hid (HTx.out.keep h67)
  clear hG0 hG1 hb7 b0 b1 h56 h67 hrow hln hX HTx hB6l
  have b0 := hB6.cell 0; have b1 := hB6.cell 1
  have hB6l := hB6.lt
  go_upto_region 9 with (fail)
  refine wp_region_ordB (none) [(0, true), (1, true), (2, true), (3, true), (4, true), (5, true), (6, false), (7, true), (8, true), (9, true), (10, true), (11, true)] (by kernel_rfl) (by kernel_rfl) fun hG0 => ?_
  repeat (first
    | (refine ord_skipB rfl (by rfl) ?_; simp only [Act.put, List.setIfInBounds_toArray, List.set_cons_zero, List.set_cons_succ])
    | (refine ord_qE rfl (by rfl) ?_; apply Exists.intro; refine ⟨fun w' hc' => ?_, ?_⟩; (focus (go_simp; (try go_bits); (try simp only [↓IntWalk.iteOmega]); with_reducible rfl)); simp only [Act.put, List.setIfInBounds_toArray, List.set_cons_zero, List.set_cons_succ]))
  refine ord_eB rfl fun K hK => ?_
  go_wp2_with (go_at_call 9; refine (HPe.out _ (h57.trans ((below_grown hG0 (Nat.le_refl _) (fun g e => by cases e)).mono hs7))).mono ?_; rintro e w8 ⟨⟨p1, p2, rfl, hp0, hpk⟩, hb8⟩)
  have hG1 := grown_trans hG0 (grown_below hb8 (Nat.le_refl _))
  refine hK.out _ _ hG1 ?_
  clear hK K
  repeat (first
    | (refine ord_skipB rfl (by rfl) ?_; simp only [Act.put, List.setIfInBounds_toArray, List.set_cons_zero, List.set_cons_succ])
    | (refine ord_qE rfl (by rfl) ?_; apply Exists.intro; refine ⟨fun w' hc' => ?_, ?_⟩; (focus (go_simp; (try go_bits); (try simp only [↓IntWalk.iteOmega]); with_reducible rfl)); simp only [Act.put, List.setIfInBounds_toArray, List.set_cons_zero, List.set_cons_succ]))
  refine ord_end ?_
  have h78 := below_grown hG1 (Nat.le_refl _) (fun g e => by cases e)
  have h58 := h57.trans (h78.mono hs7)
  have HCrow8 := Lib.hid ((HCrow.out.below h78 (Nat.le_refl _)).more h78.size)
  replace hB6 := hB6.below h78 hB6l
  have HX8 := Lib.hid (HX7.out.below h78 HX7.out.lt)
  have HTx8 := Lib.hid (HTx7.out.keep h78)
  have HP0 := Lib.hid hp0; have HPK := Lib.hid hpk
  have hs8 := h58.size
  clear hG0 hG1 hb8 b0 b1 h57 h78 hp0 hpk HX7 HTx7 hB6l HCrow hs7 hs6 HRun HCu HPe
  go_wp2
  go_loopw [19] (fun v wr => ∃ i : Nat, i ≤ n ∧ v = .int .i64 i ∧ Below w8.heap.size w8 wr) (fun v _ => n - (intOf v).toNat)
  case atStart => exact ⟨0, Nat.zero_le _, rfl, Below.refl _ _⟩
  case round =>
  obtain ⟨i, hi, rfl, hbr⟩ := hrel
  have h5r := h58.trans (hbr.mono hs8)
  have hbW := hb.trans (h5r.mono hbs)
  by_cases hlt : i < n
  · have hii : (i : Int) < n := by omega
    obtain ⟨tb, to', x, rfl, htb, hp, hcp⟩ := (HA.out.below hbW (Nat.le_refl _)).get (f := Cmd.list) (fun _ => rfl) HN.out hlt
    obtain ⟨fb, fo, y, e2, hfb, hfp, hcf⟩ := (HF.out.below h5r (Nat.le_refl _)).get (f := Cmd.list) (fun _ => rfl) HFN.out (show i < n + 1 by omega)
    obtain ⟨rfl, rfl⟩ : g5 = fb ∧ 0 = fo := by injection e2 with e2; injection e2 with e3 e4; exact ⟨e3, e4⟩
    rw [List.getElem?_append_left (by rw [HN.out]; omega), hp] at hfp
    obtain rfl : x = y := by injection hfp
    have t0 := hcp 0 _ rfl; have t1 := hcp 1 _ rfl; have t2 := hcp 2 _ rfl; have t3 := hcp 3 _ rfl; have t4 := hcp 4 _ rfl
    have f0 := hcf 0 _ rfl; have f1 := hcf 1 _ rfl; have f2 := hcf 2 _ rfl; have f3 := hcf 3 _ rfl; have f4 := hcf 4 _ rfl
    simp only [Nat.add_zero, Nat.zero_add] at t0 t1 t2 t3 t4 f0 f1 f2 f3 f4
    have htl := Nat.lt_of_lt_of_le htb hbW.size
    have hfl := Nat.lt_of_lt_of_le hfb h5r.size
    have hi1 : (i : Int) < (n : Int) + 1 := by omega
    have hes := fun W => eqSelf x.op x.mode x.ref x.path x.dst W
    clear hcp hcf hp hfp e2 htb hfb
    go_upto_region 13 with (fail)
    refine wp_region_ordB (none) [(0, true), (1, true), (2, true), (3, true), (4, true), (5, true), (6, true), (7, true), (8, true)] (by kernel_rfl) (by kernel_rfl) fun hG0 => ?_
    repeat (first
      | (refine ord_skipB rfl (by rfl) ?_; simp only [Act.put, List.setIfInBounds_toArray, List.set_cons_zero, List.set_cons_succ])
      | (refine ord_qE rfl (by rfl) ?_; apply Exists.intro; refine ⟨fun w' hc' => ?_, ?_⟩; (focus (go_simp; (try go_bits); (try simp only [↓IntWalk.iteOmega]); with_reducible rfl)); simp only [Act.put, List.setIfInBounds_toArray, List.set_cons_zero, List.set_cons_succ]))
    refine ord_end ?_
    have hbn := hbr.trans (below_grown hG0 hbr.size (fun g e => by cases e))
    have Hbn := Lib.hid hbn
    clear hbn hG0 t0 t1 t2 t3 t4 f0 f1 f2 f3 f4
    go_wp2
    go_roundw
    case rel => exact ⟨i + 1, by omega, by go_num, Hbn.out⟩
    case measure => simp [intOf]; omega
  have hii : ¬ (i : Int) < n := by omega
  have hrs := h5r.size
  have hB9 := hB6.below hbr hB6.lt
  have b0 := hB9.cell 0; have b1 := hB9.cell 1
  have HCrow9 := Lib.hid ((HCrow8.out.below hbr (Nat.le_refl _)).more hbr.size)
  have HX9 := Lib.hid (HX8.out.below hbr HX8.out.lt)
  have HTx9 := Lib.hid (HTx8.out.keep hbr)
  have hTw := HT.out.keep hbW
  have hAw := (HA.out.below hbW (Nat.le_refl _)).more hbW.size
  have hSw := HS.out.keep hbW
  have hfd := (HF.out.below h5r (Nat.le_refl _)).get (f := Cmd.list) (fun _ => rfl) HFN.out (Nat.lt_succ_self n)
  obtain ⟨fb, fo, y, e2, hfb, hfp, hcf⟩ := hfd
  obtain ⟨rfl, rfl⟩ : g5 = fb ∧ 0 = fo := by injection e2 with e2; injection e2 with e3 e4; exact ⟨e3, e4⟩
  rw [List.getElem?_append_right (by rw [HN.out]; omega), HN.out, Nat.sub_self] at hfp
  obtain rfl : dummy = y := by injection hfp
  have f0 := hcf 0 _ rfl
  simp only [Nat.add_zero, Nat.zero_add] at f0
  have f0' : wr.cell? ⟨g5, n * 5, none⟩ = some (.int .i64 (-71)) := f0
  have hfl := Nat.lt_of_lt_of_le hfb h5r.size
  have hnn1 : (n : Int) < (n : Int) + 1 := by omega
  have hEE : (E != E) = false := by simp
  have hrr : ((r : Int) != r) = false := by simp
  clear hcf hfp e2 hfb f0 hB6 HX8 HTx8 HCrow8 HF HFn HFN hbr hi hlt hs8 h5r h58 hrs
  have hbWs := hbW.size
  by_cases hl : looseE ⟨nodes, files, NA, nn, nc, FA, fn, fc⟩ = 0
  · have ht := trace_any ⟨nodes, files, NA, nn, nc, FA, fn, fc⟩ ds cs A n c SA sn sc ss sd wr hTw hl hAw HN.out (by omega) hSw
    have htl := tellable_run ⟨nodes, files, NA, nn, nc, FA, fn, fc⟩ ds cs HC.out A n c SA sn sc ss sd wr hTw hl hAw HN.out (by omega) hSw
    have hch := fun (p0 : TV × List ByteArray) (tl : List (TV × List ByteArray)) (E : Int) (w' : World) (h0 : TreeD w' p0.1 p0.2) hx hc => chain_all (p0 := p0) (tl := tl) (E := E) hTw hl h0 hx htl hc
    rw [HR.out, HCV.out] at hch
    unfold TraceRes TV.val at ht
    simp only at ht hch
    have HTr := Lib.hid ht; have HCh := Lib.hid hch; have HTw := Lib.hid hTw
    clear ht htl hch hTw hAw hSw hl
    go_upto_region 16 with (go_at_call 10; refine HTr.out.mono ?_; rintro e wt ⟨p0, tl, A3, c3, E', rfl, htrow, hown, hx0, hcT, hbt⟩)
    obtain ⟨hmap, hfit, hE', hr', hll, hsv⟩ := HCh.out p0 tl E' wt (hown p0 List.mem_cons_self).tree hx0 hcT
    have hr60 : r ≤ 60 := by
      have h1 := runG_le sd cs (openM ⟨nodes, files, NA, nn, nc, FA, fn, fc⟩ ds) 0
      have h2 : r = (runR ⟨nodes, files, NA, nn, nc, FA, fn, fc⟩ ds cs sd).2.1 := by rw [HR.out]
      rw [HN.out] at h1
      unfold runR at h2
      split at h2
      · omega
      · simp only at h2; omega
    subst hE' hr'
    obtain ⟨k, hk⟩ : ∃ k, k = tl.length := ⟨_, rfl⟩
    rw [← hk] at htrow hrr hr60 ⊢
    have hmw : (p0 :: tl).map wgT = CV := hmap
    have hn2 : n2 = k + 1 := by rw [← HCln.out, ← hmw, List.length_map, List.length_cons, hk]
    rw [← hn2] at htrow ⊢
    have hn261 : n2 ≤ 61 := by omega
    have hwt := hbt.size
    have HTR := Lib.hid (Sl.of_own htrow); have HOwn := Lib.hid hown; have HFit := Lib.hid hfit; have HMW := Lib.hid hmw; have HK := Lib.hid hk; have HN2 := Lib.hid hn2; have HLL := Lib.hid hll; have HSV := Lib.hid hsv
    have HCrowT := Lib.hid ((HCrow9.out.below hbt (Nat.le_refl _)).more hwt)
    have HXt := Lib.hid (HX9.out.below hbt HX9.out.lt)
    have HTxt := Lib.hid (HTx9.out.keep hbt)
    have f0t : wt.cell? ⟨g5, n * 5, none⟩ = some (.int .i64 (-71)) := (hbt.cell (p := ⟨g5, n * 5, none⟩) hfl).trans f0'
    have hflt := Nat.lt_of_lt_of_le hfl hwt
    have hnn2 : ((n2 : Int) != n2) = false := by simp
    have hbT := hbW.trans (hbt.mono hbWs)
    clear htrow hown hfit hmap hmw hll hsv hcT hx0 hk HCrow9 HX9 HTx9 HCh HTr b0 b1 f0' hB9 hfl hn2 hbt
    go_upto_region 18 with (go_at_call 11; refine (num7 _ _).mono ?_; rintro e w7 ⟨rfl, hw⟩; rw [hw]; clear hw)
    go_wp2
    go_loopw [23] (fun v wr => ∃ i : Nat, i ≤ n2 ∧ v = .int .i64 i ∧ Below wt.heap.size wt wr) (fun v _ => n2 - (intOf v).toNat)
    case atStart => exact ⟨0, Nat.zero_le _, rfl, Below.refl _ _⟩
    case round =>
    obtain ⟨j, hj, rfl, hbj⟩ := hrel
    have hlnT : (p0 :: tl).length = n2 := by rw [HN2.out, List.length_cons, HK.out]
    by_cases hlt : j < n2
    · have hjj : (j : Int) < n2 := by omega
      obtain ⟨tb, to', p, rfl, htb, hp, hcp⟩ := (HTR.out.below hbj (Nat.le_refl _)).get (f := treeC) (fun _ => rfl) hlnT hlt
      obtain ⟨cb, co, cx, rfl, hcb, hcx, hcc⟩ := (HCrowT.out.below hbj (Nat.le_refl _)).get (f := cxC) (fun _ => rfl) HCln.out hlt
      have t0 := hcp 0 _ rfl
      have t1 := hcp 1 _ rfl
      have k0 := hcc 0 _ rfl
      simp only [Nat.add_zero, Nat.mul_one] at t0 t1 k0
      have hpm : p ∈ p0 :: tl := List.mem_of_getElem? hp
      have hcxe : cx = (wgtB p.1, wgtI p.1) := by
        have h1 := congrArg (fun l : List (Nat × Nat) => l[j]?) HMW.out
        simp only [List.getElem?_map, hp, hcx, Option.map_some, Option.some.injEq] at h1
        exact h1.symm
      subst hcxe
      obtain ⟨q1, q2, q3, ⟨q4, q5⟩, q6, q7⟩ := HFit.out p hpm
      have hwl := Nat.lt_of_lt_of_le htb hbj.size
      have hcl := Nat.lt_of_lt_of_le hcb hbj.size
      have D1 := Lib.hid (show ∀ W, Below wr.heap.size wr W → Calls Tryz.prog 13 #[.agg #[.slice p.1.NA p.1.nn p.1.nc, .slice p.1.FA p.1.fn p.1.fc]] W fun e w' => e = .returned (tollV (wgtB p.1 : Nat) (wgtI p.1 : Nat)) ∧ Below W.heap.size W w' from fun W hW => rweight_any p.1 W ((HOwn.out p hpm).tree.tree.keep (hbj.trans (hW.mono hbj.size))) q1 q2 q3)
      clear hcp hcc hp hcx q1 q2 q3 hpm
      go_upto_region 21 with (fail)
      refine wp_region_ordB (none) [(0, true), (1, true), (2, true), (3, true), (4, true), (5, true), (6, true), (7, true), (8, false), (9, false), (10, true)] (by kernel_rfl) (by kernel_rfl) fun hG0 => ?_
      repeat (first
        | (refine ord_skipB rfl (by rfl) ?_; simp only [Act.put, List.setIfInBounds_toArray, List.set_cons_zero, List.set_cons_succ])
        | (refine ord_qE rfl (by rfl) ?_; apply Exists.intro; refine ⟨fun w' hc' => ?_, ?_⟩; (focus (go_simp; (try go_bits); (try simp only [↓IntWalk.iteOmega]); with_reducible rfl)); simp only [Act.put, List.setIfInBounds_toArray, List.set_cons_zero, List.set_cons_succ]))
      refine ord_eB rfl fun K hK => ?_
      go_wp2_with (go_at_call 13; refine (D1.out _ (below_grown hG0 (Nat.le_refl _) (fun g e => by cases e))).mono ?_; rintro e wg ⟨rfl, hbg⟩)
      have hG1 := grown_trans hG0 (grown_below hbg (Nat.le_refl _))
      refine hK.out _ _ hG1 ?_
      clear hK K
      repeat (first
        | (refine ord_skipB rfl (by rfl) ?_; simp only [Act.put, List.setIfInBounds_toArray, List.set_cons_zero, List.set_cons_succ])
        | (refine ord_qE rfl (by rfl) ?_; apply Exists.intro; refine ⟨fun w' hc' => ?_, ?_⟩; (focus (go_simp; (try go_bits); (try simp only [↓IntWalk.iteOmega]); with_reducible rfl)); simp only [Act.put, List.setIfInBounds_toArray, List.set_cons_zero, List.set_cons_succ]))
      refine ord_eB rfl fun K hK => ?_
      go_wp2_with (go_at_call 12; refine (isT_any (wgtB p.1) (wgtI p.1) q5 q7 q4 q6 _).mono ?_; rintro e wh ⟨rfl, hbh⟩)
      have hG2 := grown_trans hG1 (grown_below hbh (Nat.le_refl _))
      refine hK.out _ _ hG2 ?_
      clear hK K
      repeat (first
        | (refine ord_skipB rfl (by rfl) ?_; simp only [Act.put, List.setIfInBounds_toArray, List.set_cons_zero, List.set_cons_succ])
        | (refine ord_qE rfl (by rfl) ?_; apply Exists.intro; refine ⟨fun w' hc' => ?_, ?_⟩; (focus (go_simp; (try go_bits); (try simp only [↓IntWalk.iteOmega]); with_reducible rfl)); simp only [Act.put, List.setIfInBounds_toArray, List.set_cons_zero, List.set_cons_succ]))
      refine ord_end ?_
      have hbn := hbj.trans ((below_grown hG2 (Nat.le_refl _) (fun g e => by cases e)).mono hbj.size)
      have Hbn := Lib.hid hbn
      clear hbn hG0 hG1 hG2 hbg hbh t0 t1 k0
      go_wp2
      go_roundw
      case rel => exact ⟨j + 1, by omega, by go_num, Hbn.out⟩
      case measure => simp [intOf]; omega
    · have hjj : ¬ (j : Int) < n2 := by omega
      have hn21 := HN2.out
      have hne : ((n2 : Int) == 0) = false := by
        refine beq_eq_false_iff_ne.2 ?_
        omega
      obtain ⟨tb, to', p, rfl, htb, hp, hcp⟩ := (HTR.out.below hbj (Nat.le_refl _)).get (f := treeC) (fun _ => rfl) hlnT (show k < n2 by omega)
      have hpl : lastOf p0 tl = p := by
        have h := last_get p0 tl
        rw [← HK.out, hp] at h
        injection h with h
        exact h.symm
      subst hpl
      have t0 := hcp 0 _ rfl
      have t1 := hcp 1 _ rfl
      simp only [Nat.add_zero] at t0 t1
      have hpm : lastOf p0 tl ∈ p0 :: tl := List.mem_of_getElem? hp
      have hwl := Nat.lt_of_lt_of_le htb hbj.size
      have hXj := HXt.out.below hbj HXt.out.lt
      have HTxj := Lib.hid (HTxt.out.keep hbj)
      have x0 := hXj.cell 0; have x1 := hXj.cell 1
      have hXl := hXj.lt
      have HLj := Lib.hid ((HOwn.out _ hpm).tree.keep hbj)
      have HXX := Lib.hid (open_exact HTxj.out HLj.out (told_opened HOk.out HTell.out).1 HLL.out ((told_opened HOk.out HTell.out).2.trans HSV.out.symm))
      have hsub : (n2 : Int) - 1 = k := by omega
      have hjs := hbj.size
      clear hcp hp hpm hn21
      go_upto_region 25 with (fail)
      refine wp_region_ordB (none) [(0, true), (1, true), (2, true), (3, true), (4, true), (5, true), (6, true), (7, false), (8, true)] (by kernel_rfl) (by kernel_rfl) fun hG0 => ?_
      repeat (first
        | (refine ord_skipB rfl (by rfl) ?_; simp only [Act.put, List.setIfInBounds_toArray, List.set_cons_zero, List.set_cons_succ])
        | (refine ord_qE rfl (by rfl) ?_; apply Exists.intro; refine ⟨fun w' hc' => ?_, ?_⟩; (focus (go_simp; (try go_bits); (try simp only [↓IntWalk.iteOmega]); with_reducible rfl)); simp only [Act.put, List.setIfInBounds_toArray, List.set_cons_zero, List.set_cons_succ]))
      refine ord_eB rfl fun K hK => ?_
      go_wp2_with (go_at_call 14; refine (exact_any x (lastOf p0 tl).1 es (lastOf p0 tl).2 _ (HTxj.out.keep (below_grown hG0 (Nat.le_refl _) (fun g e => by cases e))) (HLj.out.keep (below_grown hG0 (Nat.le_refl _) (fun g e => by cases e)))).mono ?_; rintro e w9 ⟨rfl, hb9⟩; rw [HXX.out])
      have hG1 := grown_trans hG0 (grown_below hb9 (Nat.le_refl _))
      refine hK.out _ _ hG1 ?_
      clear hK K
      repeat (first
        | (refine ord_skipB rfl (by rfl) ?_; simp only [Act.put, List.setIfInBounds_toArray, List.set_cons_zero, List.set_cons_succ])
        | (refine ord_qE rfl (by rfl) ?_; apply Exists.intro; refine ⟨fun w' hc' => ?_, ?_⟩; (focus (go_simp; (try go_bits); (try simp only [↓IntWalk.iteOmega]); with_reducible rfl)); simp only [Act.put, List.setIfInBounds_toArray, List.set_cons_zero, List.set_cons_succ]))
      refine ord_end ?_
      have hbz := hbj.trans ((below_grown hG1 (Nat.le_refl _) (fun g e => by cases e)).mono hjs)
      have hbE := hbT.trans (hbz.mono hbT.size)
      have hzs := hbz.size
      clear hG0 hG1 hb9 t0 t1 x0 x1 hXj hXl hwl HTxj HLj HXX hjj hjs hbj hsub
      by_cases h0 : E' = 0
      · obtain ⟨x0, rest, hcv, rfl, rfl⟩ := HPK.out h0
        have hm := HMW.out.trans hcv
        rw [List.map_cons] at hm
        obtain ⟨rfl, rfl⟩ : wgT p0 = x0 ∧ tl.map wgT = rest := by injection hm with h1 h2; exact ⟨h1, h2⟩
        have hpk := fun W (hW : Below wt.heap.size wt W) => rpeak_any p0 tl (some ⟨tb, to', none⟩) n2 c3 W ((HTR.out.below hW (Nat.le_refl _)).more hW.size) (by rw [HN2.out, HK.out]) (by omega) (fun p hp => ⟨(HOwn.out p hp).tree.keep hW, HFit.out p hp⟩)
        have hf0 := HFit.out p0 List.mem_cons_self
        have hpo := max_pos (a := wgT p0) (l := tl.map wgT) ⟨hf0.2.2.2.1.1, hf0.2.2.2.2.1⟩
        have hsm := max_small (a := wgT p0) (l := tl.map wgT) ⟨hf0.2.2.2.1.2, hf0.2.2.2.2.2⟩ (fun y hy => by
          obtain ⟨q, hq, rfl⟩ := List.mem_map.1 hy
          have hf := HFit.out q (List.mem_cons_of_mem _ hq)
          exact ⟨hf.2.2.2.1.2, hf.2.2.2.2.2⟩)
        obtain ⟨a, ha⟩ : ∃ a, ((tl.map wgT).foldl maxP (wgT p0)).1 = a := ⟨_, rfl⟩
        obtain ⟨b, hb'⟩ : ∃ a, ((tl.map wgT).foldl maxP (wgT p0)).2 = a := ⟨_, rfl⟩
        rw [ha, hb'] at hpk hpo hsm ⊢
        have Hpk := Lib.hid hpk
        obtain ⟨hp1, hp2⟩ := hpo
        obtain ⟨hs1, hs2⟩ := hsm
        have e0 : (E' != 0) = false := by simp [h0]
        clear hpk ha hb' hm hf0 hcv
        go_wp2_with (first | (go_at_call 15; refine (Hpk.out _ hbz).mono ?_; rintro e wa ⟨rfl, hba⟩; replace hbE := hbE.trans (hba.mono hbE.size)) | (go_at_call 12; refine (isT_any a b hs1 hs2 hp1 hp2 _).mono ?_; rintro e wb ⟨rfl, hbb⟩; replace hbE := hbE.trans (hbb.mono hbE.size)))
        go_ret
        exact ⟨rfl, hbE⟩
      · obtain ⟨rfl, rfl⟩ := HP0.out h0
        have e0 : (E' != 0) = true := bne_iff_ne.2 h0
        go_wp2
        go_ret
        exact ⟨rfl, hbE⟩
  · have hno := trace_no ⟨nodes, files, NA, nn, nc, FA, fn, fc⟩ A n c SA sn sc wr hTw.tree hl
    have hrn : (M, r, E) = (openM zeroTV [], 0, looseE ⟨nodes, files, NA, nn, nc, FA, fn, fc⟩) := by
      rw [← HR.out]
      unfold runR
      rw [if_neg hl]
    have hcn : CV = [] := by
      rw [← HCV.out]
      unfold curveR
      rw [if_neg hl]
    obtain ⟨hM0, hr0, hE0⟩ : M = openM zeroTV [] ∧ r = 0 ∧ looseE ⟨nodes, files, NA, nn, nc, FA, fn, fc⟩ = E := by
      injection hrn with h1 h2
      injection h2 with h3 h4
      exact ⟨h1, h3, h4.symm⟩
    rw [hE0] at hno hl
    have hn0 : n2 = 0 := by rw [← HCln.out, hcn]; rfl
    subst hr0 hn0
    obtain ⟨rfl, rfl⟩ := HP0.out hl
    have hTells0 : TellsM (openM zeroTV []) zeroTV [] := (zero_told 0 wr).tells
    have HTl := HTell.out
    rw [hM0] at HTl
    have HXX := Lib.hid (told_exactB zero_ok zero_ok (SameV.refl _) HTl hTells0)
    have hZ := fun W => (zero_told 0 W).tree
    unfold TV.val at hno
    have HNo := Lib.hid hno; have HZ := Lib.hid hZ
    have hXw := HX9.out
    have x0 := hXw.cell 0; have x1 := hXw.cell 1
    have hXl := hXw.lt
    clear hno hrn hcn hM0 hTells0 HTl hTw hAw hSw hZ hE0 hl
    go_upto_region 16 with (go_at_call 10; refine HNo.out.mono ?_; rintro e wt ⟨rfl, hbt⟩)
    have f0t : wt.cell? ⟨g5, n * 5, none⟩ = some (.int .i64 (-71)) := (hbt.cell (p := ⟨g5, n * 5, none⟩) hfl).trans f0'
    have hflt := Nat.lt_of_lt_of_le hfl hbt.size
    have hXt := hXw.below hbt hXl
    have HTxt := Lib.hid (HTx9.out.keep hbt)
    have hbT := hbW.trans (hbt.mono hbWs)
    clear x0 x1 b0 b1 f0' hfl hXw hXl hbt HX9 HTx9 hB9
    have x0 := hXt.cell 0; have x1 := hXt.cell 1
    have hXl := hXt.lt
    go_upto_region 18 with (go_at_call 11; refine (num7 _ _).mono ?_; rintro e w7 ⟨rfl, hw⟩; rw [hw]; clear hw)
    go_wp2
    go_loopw [23] (fun v wr => v = .int .i64 0 ∧ wr = wt) (fun _ _ => 0)
    case atStart => exact ⟨rfl, rfl⟩
    case round =>
    obtain ⟨rfl, rfl⟩ := hrel
    go_wp2_with (go_at_call 14; refine (exact_any x zeroTV es [] _ HTxt.out (HZ.out _)).mono ?_; rintro e w9 ⟨rfl, hb9⟩; rw [HXX.out]; replace hbT := hbT.trans (hb9.mono hbT.size))
    go_ret
    exact ⟨rfl, hbT⟩

set_option maxRecDepth 100000 in
theorem lifted (os : Os) (started : os.Started) (H : Type) (enc : TypeId × Value → H) :
    ReturnsInHanded {} Tryz.checked os 3 .any (Rows.modelRunsSpec.pre6 enc Tryz.prog Tryz.f3 Rows.modelRunsRow.domain false) (Rows.modelRunsSpec.post enc Tryz.prog Tryz.f3 false true false false) := by
  refine returnsInHanded_of_change (C := Tryz.checked) own started (by kernel_rfl) Tryz.func3
    (ChangeSpec.witness6 (enc := enc) (C := Tryz.checked) false ⟨#[], #[.agg #[.slice none 0 0, .slice none 0 0], .slice none 0 0, .slice none 0 0], []⟩ 8 (by kernel_rfl) (by kernel_rfl) (by kernel_rfl) (by kernel_rfl)) ?_
  intro W base args ds gs before hval0 hW hcnd _
  have hval : ∀ (j : Nat) t v, Tryz.f3.params[j]? = some t → args[j]? = some v → Value.okWide Tryz.prog W .any base t v := hval0
  have hW' := hW
  obtain ⟨p, q, hA0, hV, rfl, hfz, hnd⟩ := hW
  have hA : DataW.TrodAll enc Tryz.prog W 0 (fun _ => true) true Tryz.f3.params.toList args.toList ds p := hA0
  rw [Tryz.params3] at hA hval
  obtain ⟨v0, vs0, d0, ds0, p0, q0, hargs, rfl, rfl, h0, r0⟩ := trodAll_cons hA
  obtain ⟨v1, vs1, d1, ds1, p1, q1, rfl, rfl, rfl, h1, r1⟩ := trodAll_cons r0
  obtain ⟨v2, vs2, d2, ds2, p2, q2, rfl, rfl, rfl, h2, r2⟩ := trodAll_cons r1
  obtain ⟨rfl, rfl, rfl⟩ := trodAll_nil r2
  obtain rfl : args = #[v0, v1, v2] := by cases args; simp_all
  obtain ⟨rfl, rfl⟩ := trodVars_none hV
  have k0 := h0
  have lt0 : ∀ x ∈ p0, x.block < W.heap.size := by obtain ⟨m, hm⟩ := k0; exact DataW.trod_lt m _ _ _ hm
  obtain ⟨t0, ds0', rfl, hT0⟩ := open_tree (hval 0 25 v0 rfl rfl) h0 lt0
  obtain ⟨a1, len1, cap1, rfl⟩ := okWide_slice Tryz.underlying26 (hval 1 26 v1 rfl rfl)
  have k1 := h1
  have lt1 : ∀ x ∈ p1, x.block < W.heap.size := by obtain ⟨m, hm⟩ := k1; exact DataW.trod_lt m _ _ _ hm
  obtain ⟨xs1, hlen1, hS1, ho1, hcap1, hmax1⟩ : ∃ cs : List Cmd, cs.length = len1 ∧ Sl W W.heap.size 5 a1 len1 (cs.flatMap Cmd.list) ∧ (∀ c ∈ cs, OpOk c) ∧ len1 ≤ cap1 ∧ cap1 ≤ maxLen := by
    obtain ⟨fuel, hf⟩ := h1
    exact open_cmds hf lt1
  obtain ⟨a2, len2, cap2, rfl⟩ := okWide_slice Tryz.underlying27 (hval 2 27 v2 rfl rfl)
  have k2 := h2
  have lt2 : ∀ x ∈ p2, x.block < W.heap.size := by obtain ⟨m, hm⟩ := k2; exact DataW.trod_lt m _ _ _ hm
  obtain ⟨ss2, sd2, hK2⟩ : ∃ (ss : List SC) (sd : List ByteArray), StockAt W a2 len2 ss sd := by
    obtain ⟨fuel, hf⟩ := h2
    exact open_stock hf lt2
  clear hA0 hval0
  refine (walk t0 ds0' xs1 a1 len1 cap1 a2 len2 cap2 ss2 sd2 W hT0 hlen1 hS1 ho1 hcap1 hmax1 hK2).mono fun e W' ⟨he, bel⟩ => ?_
  subst he
  exact ⟨_, rfl, _, _, _, [], _, [], hW', trodAll_mk1 (shut_bool Tryz.underlying4 _), (trodAll_cons_mk (Below.trod laidOut (by kernel_rfl) (of_decide_eq_true (by kernel_rfl)) k0 bel lt0) (trodAll_cons_mk (Below.trod laidOut (by kernel_rfl) (of_decide_eq_true (by kernel_rfl)) k1 bel lt1) (trodAll_cons_mk (Below.trod laidOut (by kernel_rfl) (of_decide_eq_true (by kernel_rfl)) k2 bel lt2) trodAll_mk0))), rfl, bel.frame _, fun h => by cases h⟩

theorem over : Rows.modelRunsRow.holds Tryz.pinned (OpenSpec.ofChange Rows.modelRunsSpec) :=
  OpenClaim.holds_of_wide 3 Tryz.f3 rfl rfl rfl rfl rfl rfl rfl ⟨rfl, rfl, rfl, rfl, rfl⟩ rfl rfl rfl rfl rfl (by kernel_rfl) Tryz.func3 (by kernel_rfl)
    (of_decide_eq_true (by kernel_rfl)) (by unfold Func.isWrapper; first | (rw [if_pos (by decide +kernel)]; kernel_rfl) | (rw [if_neg (by decide +kernel)]; exact ⟨rfl, rfl⟩))
    (fun os started H enc _ => lifted os started H enc)

theorem proved : Rows.ModelRunsSaid := over
#print axioms proved
end Go.Proofs.YthmeffpickejkaaGreat.modelRunsDone
