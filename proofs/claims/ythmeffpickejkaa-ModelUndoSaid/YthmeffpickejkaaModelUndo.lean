/- ModelUndo. -/
import Derived.Test.YthmeffpickejkaaUndoP
import Derived.Test.YthmeffpickejkaaOrdT
import Derived.ChangeMaps5
import Derived.Deep.DeepCutAuto
namespace Go.Proofs.Ythmeffpickejkaa.modelUndoDone
open Go.ChangeShapes Go.WideShapes Go.ChangeAt Go.ChangeMaps Go.RowKit Go.Deep

def pairL (x : Cmd × Cmd) : List Value := x.1.list ++ x.2.list
theorem pairL_len (x : Cmd × Cmd) : (pairL x).length = 10 := rfl
def rowU (p q : ByteArray) (mode : Int) : Array Value := #[.int .i64 1, .string p, .string ByteArray.empty, .int .i64 mode, .int .i64 0, .int .i64 2, .string p, .string ByteArray.empty, .int .i64 0, .int .i64 0,
  .int .i64 4, .string q, .string p, .int .i64 0, .int .i64 0, .int .i64 5, .string p, .string ByteArray.empty, .int .i64 0, .int .i64 0,
  .int .i64 3, .string q, .string p, .int .i64 0, .int .i64 0, .int .i64 3, .string p, .string q, .int .i64 0, .int .i64 0,
  .int .i64 6, .string p, .string ByteArray.empty, .int .i64 mode, .int .i64 0, .int .i64 5, .string p, .string ByteArray.empty, .int .i64 0, .int .i64 0,
  .int .i64 7, .string q, .string p, .int .i64 mode, .int .i64 0, .int .i64 5, .string p, .string ByteArray.empty, .int .i64 0, .int .i64 0]
theorem rowU_list (p q : ByteArray) (mode : Int) (hp : p.size ≤ 9223372036854775807) (hq : q.size ≤ 9223372036854775807) : (rowU p q mode).toList = (undoP p q mode hp hq).flatMap pairL := by rfl
theorem rowU_sl {w : World} {g : Nat} {p q : ByteArray} {mode : Int} (hp : p.size ≤ 9223372036854775807) (hq : q.size ≤ 9223372036854775807) (h : Blk w g 44 (rowU p q mode)) : Sl w w.heap.size 10 (some ⟨g, 0, none⟩) 5 ((undoP p q mode hp hq).flatMap pairL) := by
  refine ⟨by rw [← rowU_list]; rfl, fun _ => ⟨g, 0, rfl, h.lt, fun i v hi => ?_⟩⟩
  rw [← rowU_list] at hi
  rw [Nat.zero_add, h.cell i]
  simpa using hi
theorem undo_op {p q : ByteArray} {mode : Int} {hp : p.size ≤ 9223372036854775807} {hq : q.size ≤ 9223372036854775807} {x : Cmd × Cmd} (hx : x ∈ undoP p q mode hp hq) : OpOk x.1 ∧ OpOk x.2 := by
  simp only [undoP, List.mem_cons, List.not_mem_nil, or_false] at hx
  unfold OpOk
  rcases hx with rfl | rfl | rfl | rfl | rfl <;> simp
set_option maxRecDepth 100000 in
set_option maxHeartbeats 8000000 in
theorem walk (t : TV) (ds : List ByteArray) (p q : ByteArray) (mode : Int) (SA : Option Addr) (sn sc : Nat) (ss : List SC) (sd : List ByteArray) (w : World) (hT : TreeD w t ds) (hp : p.size ≤ maxLen) (hq : q.size ≤ maxLen) (_ : (Lit.int .i64 mode).wf = true) (hS : StockAt w SA sn ss sd) :
    Calls Try.prog 4 #[t.val, .string p, .string q, .int .i64 mode, .slice SA sn sc] w fun e w' => e = .returned (.bool true) ∧ Below w.heap.size w w' := by
  have HT := Lib.hid hT; have HS := Lib.hid hS
  clear hT hS
  have hp' : p.size ≤ 9223372036854775807 := by unfold maxLen at hp; omega
  have hq' : q.size ≤ 9223372036854775807 := by unfold maxLen at hq; omega
  clear hp hq
  obtain ⟨nodes, files, NA, nn, nc, FA, fn, fc⟩ := t
  unfold TV.val
  have hB := Blk.new w 25 #[.slice NA nn nc, .slice FA fn fc]
  have hb := (Below.refl w.heap.size w).alloc (Nat.le_refl _) (.cells #[.slice NA nn nc, .slice FA fn fc] 25)
  by_cases h1 : (500 : Int) < p.size
  · go_enter Try.func4, Try.ntmps4
    go_upto_region 4 with (first | (go_at_call 13; refine (alive7 _).mono ?_; rintro e w1 ⟨rfl, hb1⟩; replace hB := hB.below hb1 hB.lt; replace hb := hb.trans (hb1.mono hb.size); have b0 := hB.cell 0; have b1 := hB.cell 1) | (go_at_call 14; refine (lbig_any ⟨nodes, files, NA, nn, nc, FA, fn, fc⟩ _ (HT.out.tree.keep hb)).mono ?_; rintro e w2 ⟨x, rfl, _, hb2⟩; replace hb := hb.trans (hb2.mono hb.size)) | (go_at_call 15; refine (much7 SA sn sc ss sd _ (HS.out.keep hb)).mono ?_; rintro e w3 ⟨y, rfl, hb3⟩; replace hb := hb.trans (hb3.mono hb.size)))
    cases x <;> cases y
    all_goals go_wp2
    all_goals go_ret
    all_goals exact ⟨rfl, hb⟩
  by_cases h2 : (500 : Int) < q.size
  · go_enter Try.func4, Try.ntmps4
    go_upto_region 4 with (first | (go_at_call 13; refine (alive7 _).mono ?_; rintro e w1 ⟨rfl, hb1⟩; replace hB := hB.below hb1 hB.lt; replace hb := hb.trans (hb1.mono hb.size); have b0 := hB.cell 0; have b1 := hB.cell 1) | (go_at_call 14; refine (lbig_any ⟨nodes, files, NA, nn, nc, FA, fn, fc⟩ _ (HT.out.tree.keep hb)).mono ?_; rintro e w2 ⟨x, rfl, _, hb2⟩; replace hb := hb.trans (hb2.mono hb.size)) | (go_at_call 15; refine (much7 SA sn sc ss sd _ (HS.out.keep hb)).mono ?_; rintro e w3 ⟨y, rfl, hb3⟩; replace hb := hb.trans (hb3.mono hb.size)))
    cases x <;> cases y
    all_goals go_wp2
    all_goals go_ret
    all_goals exact ⟨rfl, hb⟩
  go_enter Try.func4, Try.ntmps4
  go_upto_region 4 with (first | (go_at_call 13; refine (alive7 _).mono ?_; rintro e w1 ⟨rfl, hb1⟩; replace hB := hB.below hb1 hB.lt; replace hb := hb.trans (hb1.mono hb.size); have b0 := hB.cell 0; have b1 := hB.cell 1) | (go_at_call 14; refine (lbig_any ⟨nodes, files, NA, nn, nc, FA, fn, fc⟩ _ (HT.out.tree.keep hb)).mono ?_; rintro e w2 ⟨x, rfl, _, hb2⟩; replace hB := hB.below hb2 hB.lt; replace hb := hb.trans (hb2.mono hb.size)) | (go_at_call 15; refine (much7 SA sn sc ss sd _ (HS.out.keep hb)).mono ?_; rintro e w3 ⟨y, rfl, hb3⟩; replace hB := hB.below hb3 hB.lt; replace hb := hb.trans (hb3.mono hb.size)))
  cases x
  rotate_left
  · cases y
    all_goals go_wp2
    all_goals go_ret
    all_goals exact ⟨rfl, hb⟩
  cases y
  rotate_left
  · go_wp2
    go_ret
    exact ⟨rfl, hb⟩
  go_upto_region 7 with (fail)
  obtain ⟨W0, hW0⟩ : ∃ W, W = w3 := ⟨_, rfl⟩
  rw [← hW0] at hB hb ⊢
  clear hW0 b0 b1 hb1 hb2 hb3
  have hR := Blk.new W0 44 (rowU p q mode)
  have hB1 := hB.alloc (.cells (rowU p q mode) 44)
  have hv1 := hb.alloc hb.size (.cells (rowU p q mode) 44)
  obtain ⟨g, hg⟩ : ∃ g, W0.heap.size = g := ⟨_, rfl⟩
  rw [hg] at hR ⊢
  go_wp2
  go_loopw [15] (fun i wr => ∃ j : Nat, j ≤ 5 ∧ i = .int .i64 j ∧ Blk wr w.heap.size 25 #[.slice NA nn nc, .slice FA fn fc] ∧ Blk wr g 44 (rowU p q mode) ∧ Below w.heap.size w wr) (fun i _ => 5 - (intOf i).toNat)
  case atStart => exact ⟨0, Nat.zero_le _, rfl, hB1, hR, hv1⟩
  case round =>
    clear hB1 hR hv1 hB hb
    obtain ⟨j, hj, rfl, hB, hR, hb⟩ := hrel
    by_cases hlt : j < 5
    · have hji : (j : Int) < 5 := by omega
      obtain ⟨b, o, x, hA, _, hx, hc⟩ := (rowU_sl hp' hq' hR).get pairL_len rfl hlt
      injection hA with hA
      injection hA with e1 e2
      subst e1 e2
      have hxm := List.mem_of_getElem? hx
      have HX0 := Lib.hid hx
      have d0 := hc 0 _ rfl
      have d1 := hc 1 _ rfl
      have d2 := hc 2 _ rfl
      have d3 := hc 3 _ rfl
      have d4 := hc 4 _ rfl
      simp only [Nat.add_zero, Nat.zero_add] at d0 d1 d2 d3 d4
      obtain ⟨o1, o2⟩ := undo_op hxm
      have hlaw := fun h u es hu w' hU => undo_law (w' := w') HT.out hxm (sd := sd) h (u := u) (es := es) hu hU
      obtain ⟨x1, x2⟩ := x
      have HX := HX0
      clear HX0
      simp only at d0 d1 d2 d3 d4 o1 o2 hlaw
      have HO1 := Lib.hid o1; have HO2 := Lib.hid o2; have HLaw := Lib.hid hlaw
      obtain ⟨E, hE⟩ : ∃ E, DoE ⟨nodes, files, NA, nn, nc, FA, fn, fc⟩ ds x1 sd = E := ⟨_, rfl⟩
      have HE := Lib.hid hE
      have hc1 : ∀ W, Below w.heap.size w W → Calls Try.prog 18 #[.agg #[.slice NA nn nc, .slice FA fn fc], .agg #[.int .i64 x1.op, .string x1.path, .string x1.dst, .int .i64 x1.mode, .int .i64 x1.ref], .slice SA sn sc] W fun e w' => ∃ u S, e = .returned (.tuple #[u.val, .int .i64 E]) ∧ ToldAs (doW ⟨nodes, files, NA, nn, nc, FA, fn, fc⟩ ds x1 sd) W.heap.size w' S u ∧ Below W.heap.size W w' := fun W hW => by
        have h := Do_told ⟨nodes, files, NA, nn, nc, FA, fn, fc⟩ ds x1 o1 SA sn sc ss sd W (HT.out.keep hW) (HS.out.keep hW)
        rw [hE] at h
        exact h
      have C1 := Lib.hid hc1
      clear hc1 o1 o2 hlaw hE hx hc hxm
      have b0 := hB.cell 0; have b1 := hB.cell 1
      have hBl := hB.lt
      have hRl := hR.lt
      have hbs := hb.size
      go_upto_region 10 with (fail)
      go_cut [16, 17] from 83 to 93 (fun p e wx => e = .int .i64 E ∧ TreeCut (doW ⟨nodes, files, NA, nn, nc, FA, fn, fc⟩ ds x1 sd) wr p wx)
      case first =>
        refine wp_region_T none (.q 0 (.q 1 (.q 2 (.q 3 (.q 4 (.q 5 (.q 6 (.e2 7 11 (.q 8 (.q 9 (.q 10 (.e1 11 (.e1 12 (.q 13 .done)))))) (.e1 7 (.q 8 (.q 9 (.q 10 (.e1 12 (.q 13 .done)))))))))))))) (by kernel_rfl) (by kernel_rfl) fun hG0 => ?_
        repeat (first
          | (refine tree_skip rfl (by rfl) ?_; simp only [Act.put, List.setIfInBounds_toArray, List.set_cons_zero, List.set_cons_succ])
          | (refine tree_qE rfl (by rfl) ?_; apply Exists.intro; refine ⟨fun w' hc' => ?_, ?_⟩; (focus (go_simp; (try go_bits); (try simp only [↓IntWalk.iteOmega]); with_reducible rfl)); simp only [Act.put, List.setIfInBounds_toArray, List.set_cons_zero, List.set_cons_succ]))
        refine tree_e2 (tree_step rfl fun K hK => ?_) (tree_step rfl fun K hK => ?_)
        · have hBc := below_grown hG0 (Nat.le_refl _) (fun g e => by cases e)
          go_wp2_with (go_at_call 18; refine (C1.out _ (hb.trans (hBc.mono hbs))).mono ?_; rintro e w5 ⟨y, T, rfl, hT5, hb5⟩; unfold TV.val)
          have hG1 := grown_trans hG0 (grown_below hb5 (Nat.le_refl _))
          refine hK.out _ _ hG1 ?_
          clear hK K
          repeat (first
            | (refine tree_skip rfl (by rfl) ?_; simp only [Act.put, List.setIfInBounds_toArray, List.set_cons_zero, List.set_cons_succ])
            | (refine tree_qE rfl (by rfl) ?_; apply Exists.intro; refine ⟨fun w' hc' => ?_, ?_⟩; (focus (go_simp; (try go_bits); (try simp only [↓IntWalk.iteOmega]); with_reducible rfl)); simp only [Act.put, List.setIfInBounds_toArray, List.set_cons_zero, List.set_cons_succ]))
          refine tree_e1 (tree_step rfl fun K hK => ?_)
          go_wp2_with (fail)
          have hG2 := grown_trans hG1 (World.grownBy_alloc w5 (.cells #[.slice none 0 0, .slice none 0 0] 25) none)
          refine hK.out _ _ hG2 ?_
          clear hK K
          repeat (first
            | (refine tree_skip rfl (by rfl) ?_; simp only [Act.put, List.setIfInBounds_toArray, List.set_cons_zero, List.set_cons_succ])
            | (refine tree_qE rfl (by rfl) ?_; apply Exists.intro; refine ⟨fun w' hc' => ?_, ?_⟩; (focus (go_simp; (try go_bits); (try simp only [↓IntWalk.iteOmega]); with_reducible rfl)); simp only [Act.put, List.setIfInBounds_toArray, List.set_cons_zero, List.set_cons_succ]))
          refine tree_e1 (tree_step rfl fun K hK => ?_)
          go_wp2_with (fail)
          have hG3 := grown_trans hG1 (World.grownBy_alloc w5 (.cells #[.slice y.NA y.nn y.nc, .slice y.FA y.fn y.fc] 25) none)
          refine hK.out _ _ hG3 ?_
          clear hK K
          repeat (first
            | (refine tree_skip rfl (by rfl) ?_; simp only [Act.put, List.setIfInBounds_toArray, List.set_cons_zero, List.set_cons_succ])
            | (refine tree_qE rfl (by rfl) ?_; apply Exists.intro; refine ⟨fun w' hc' => ?_, ?_⟩; (focus (go_simp; (try go_bits); (try simp only [↓IntWalk.iteOmega]); with_reducible rfl)); simp only [Act.put, List.setIfInBounds_toArray, List.set_cons_zero, List.set_cons_succ]))
          refine tree_end ?_
          go_wp2_with (fail)
          go_meet
          exact ⟨rfl, TreeCut.alloc hT5 (below_grown hG1 (Nat.le_refl _) (fun g e => by cases e))⟩
        · have hZ := Blk.new wr.drew 25 #[.slice none 0 0, .slice none 0 0]
          go_wp2_with (fail)
          have hG1 := grown_trans hG0 (World.grownBy_alloc wr.drew (.cells #[.slice none 0 0, .slice none 0 0] 25) none)
          refine hK.out _ _ hG1 ?_
          clear hK K
          repeat (first
            | (refine tree_skip rfl (by rfl) ?_; simp only [Act.put, List.setIfInBounds_toArray, List.set_cons_zero, List.set_cons_succ])
            | (refine tree_qE rfl (by rfl) ?_; apply Exists.intro; refine ⟨fun w' hc' => ?_, ?_⟩; (focus (go_simp; (try go_bits); (try simp only [↓IntWalk.iteOmega]); with_reducible rfl)); simp only [Act.put, List.setIfInBounds_toArray, List.set_cons_zero, List.set_cons_succ]))
          refine tree_e1 (tree_step rfl fun K hK => ?_)
          have hBc := below_grown hG1 (Nat.le_refl _) (fun g e => by cases e)
          go_wp2_with (go_at_call 18; refine (C1.out _ (hb.trans (hBc.mono hbs))).mono ?_; rintro e w5 ⟨y, T, rfl, hT5, hb5⟩; unfold TV.val)
          have hG2 := grown_trans hG1 (grown_below hb5 (Nat.le_refl _))
          refine hK.out _ _ hG2 ?_
          clear hK K
          repeat (first
            | (refine tree_skip rfl (by rfl) ?_; simp only [Act.put, List.setIfInBounds_toArray, List.set_cons_zero, List.set_cons_succ])
            | (refine tree_qE rfl (by rfl) ?_; apply Exists.intro; refine ⟨fun w' hc' => ?_, ?_⟩; (focus (go_simp; (try go_bits); (try simp only [↓IntWalk.iteOmega]); with_reducible rfl)); simp only [Act.put, List.setIfInBounds_toArray, List.set_cons_zero, List.set_cons_succ]))
          have hZ5 : Blk w5 wr.heap.size 25 #[.slice none 0 0, .slice none 0 0] := hZ.below hb5 hZ.lt
          refine tree_e1 (tree_step rfl fun K hK => ?_)
          go_wp2_with (refine wpList_store_blk rfl 25 (.tmp 16) (.tmp 92) rfl hZ5 #[.slice y.NA y.nn y.nc, .slice y.FA y.fn y.fc] rfl rfl (show (Try.prog.info? 25).map (·.size) = some 2 by kernel_rfl) rfl (by simp [Value.oneCell']) ?_; intro w6 hB6 hg6 hs6)
          have hG3 : wr.grownBy w6 none := grown_below ((below_grown hG2 (Nat.le_refl _) (fun g e => by cases e)).trans (below_grown hg6 hG2.size (fun g e => by injection e with e; omega))) (Nat.le_refl _)
          refine hK.out _ _ hG3 ?_
          clear hK K
          repeat (first
            | (refine tree_skip rfl (by rfl) ?_; simp only [Act.put, List.setIfInBounds_toArray, List.set_cons_zero, List.set_cons_succ])
            | (refine tree_qE rfl (by rfl) ?_; apply Exists.intro; refine ⟨fun w' hc' => ?_, ?_⟩; (focus (go_simp; (try go_bits); (try simp only [↓IntWalk.iteOmega]); with_reducible rfl)); simp only [Act.put, List.setIfInBounds_toArray, List.set_cons_zero, List.set_cons_succ]))
          refine tree_end ?_
          go_wp2_with (fail)
          go_meet
          exact ⟨rfl, TreeCut.store hT5 (below_grown hG2 (Nat.le_refl _) (fun g e => by cases e)) hZ5 hB6 hg6 (by simp)⟩
      case rest =>
        obtain ⟨rfl, u, es, g1, rfl, hU, hgl, hTu, hTell, hb5⟩ := hcut
        obtain ⟨W4, hW4⟩ : ∃ W, W = wc := ⟨_, rfl⟩
        rw [← hW4] at hU hTu hb5 ⊢
        replace hB := hB.below hb5 hBl
        replace hR := hR.below hb5 hRl
        replace hb := hb.trans (hb5.mono hbs)
        clear hW4 b0 b1 d0 d1 d2 d3 d4 C1 hBl hRl hbs
        by_cases h0 : E = 0
        · obtain ⟨q1, q2, q3⟩ := HLaw.out (HE.out.trans h0) u es hTell _ hTu
          subst h0
          have hc2 : ∀ W, Below W4.heap.size W4 W → Calls Try.prog 18 #[.agg #[.slice u.NA u.nn u.nc, .slice u.FA u.fn u.fc], .agg #[.int .i64 x2.op, .string x2.path, .string x2.dst, .int .i64 x2.mode, .int .i64 x2.ref], .slice SA sn sc] W fun e w' => ∃ v S, e = .returned (.tuple #[v.val, .int .i64 0]) ∧ ToldAs (doW u es x2 sd) W.heap.size w' S v ∧ Below W.heap.size W w' := fun W hW => by
            have h := Do_told u es x2 HO2.out SA sn sc ss sd W (hTu.keep hW) (HS.out.keep (hb.trans (hW.mono hb.size)))
            rw [q1] at h
            exact h
          have C2 := Lib.hid hc2
          have HQ2 := Lib.hid q2; have HQ3 := Lib.hid q3; have HTu := Lib.hid hTu
          clear hc2 q1 q2 q3 hTell hTu
          obtain ⟨b, o, x, hA, _, hx, hc⟩ := (rowU_sl hp' hq' hR).get pairL_len rfl hlt
          injection hA with hA
          injection hA with e1 e2
          subst e1 e2
          have hxx : x = (x1, x2) := by
            have := HX.out
            rw [hx] at this
            exact Option.some.inj this
          subst hxx
          have d5 := hc 5 _ rfl
          have d6 := hc 6 _ rfl
          have d7 := hc 7 _ rfl
          have d8 := hc 8 _ rfl
          have d9 := hc 9 _ rfl
          rw [show 0 + j * 10 + 5 = j * 10 + 5 by omega] at d5
          rw [show 0 + j * 10 + 6 = j * 10 + 5 + 1 by omega] at d6
          rw [show 0 + j * 10 + 7 = j * 10 + 5 + 2 by omega] at d7
          rw [show 0 + j * 10 + 8 = j * 10 + 5 + 3 by omega] at d8
          rw [show 0 + j * 10 + 9 = j * 10 + 5 + 4 by omega] at d9
          simp only at d5 d6 d7 d8 d9
          clear hx hc
          have b0 := hU.cell 0; have b1 := hU.cell 1
          have hBl := hB.lt
          have hRl := hR.lt
          have hUl := hU.lt
          have hbs := hb.size
          go_upto_region 12 with (go_at_call 20; refine (num7 _ _).mono ?_; rintro e w7 ⟨rfl, hw⟩; rw [hw]; clear hw)
          go_cut [18, 19] from 97 to 107 (fun p e wx => e = .int .i64 0 ∧ TreeCut (doW u es x2 sd) W4 p wx)
          case first =>
            refine wp_region_T none (.q 0 (.q 1 (.q 2 (.q 3 (.q 4 (.q 5 (.q 6 (.e2 7 11 (.q 8 (.q 9 (.q 10 (.e1 11 (.e1 12 (.q 13 .done)))))) (.e1 7 (.q 8 (.q 9 (.q 10 (.e1 12 (.q 13 .done)))))))))))))) (by kernel_rfl) (by kernel_rfl) fun hG0 => ?_
            repeat (first
              | (refine tree_skip rfl (by rfl) ?_; simp only [Act.put, List.setIfInBounds_toArray, List.set_cons_zero, List.set_cons_succ])
              | (refine tree_qE rfl (by rfl) ?_; apply Exists.intro; refine ⟨fun w' hc' => ?_, ?_⟩; (focus (go_simp; (try go_bits); (try simp only [↓IntWalk.iteOmega]); with_reducible rfl)); simp only [Act.put, List.setIfInBounds_toArray, List.set_cons_zero, List.set_cons_succ]))
            refine tree_e2 (tree_step rfl fun K hK => ?_) (tree_step rfl fun K hK => ?_)
            · have hBc := below_grown hG0 (Nat.le_refl _) (fun g e => by cases e)
              go_wp2_with (go_at_call 18; refine (C2.out _ hBc).mono ?_; rintro e w5 ⟨y, T, rfl, hT5, hb6⟩; have hb5 := hb6; unfold TV.val)
              have hG1 := grown_trans hG0 (grown_below hb5 (Nat.le_refl _))
              refine hK.out _ _ hG1 ?_
              clear hK K
              repeat (first
                | (refine tree_skip rfl (by rfl) ?_; simp only [Act.put, List.setIfInBounds_toArray, List.set_cons_zero, List.set_cons_succ])
                | (refine tree_qE rfl (by rfl) ?_; apply Exists.intro; refine ⟨fun w' hc' => ?_, ?_⟩; (focus (go_simp; (try go_bits); (try simp only [↓IntWalk.iteOmega]); with_reducible rfl)); simp only [Act.put, List.setIfInBounds_toArray, List.set_cons_zero, List.set_cons_succ]))
              refine tree_e1 (tree_step rfl fun K hK => ?_)
              go_wp2_with (fail)
              have hG2 := grown_trans hG1 (World.grownBy_alloc w5 (.cells #[.slice none 0 0, .slice none 0 0] 25) none)
              refine hK.out _ _ hG2 ?_
              clear hK K
              repeat (first
                | (refine tree_skip rfl (by rfl) ?_; simp only [Act.put, List.setIfInBounds_toArray, List.set_cons_zero, List.set_cons_succ])
                | (refine tree_qE rfl (by rfl) ?_; apply Exists.intro; refine ⟨fun w' hc' => ?_, ?_⟩; (focus (go_simp; (try go_bits); (try simp only [↓IntWalk.iteOmega]); with_reducible rfl)); simp only [Act.put, List.setIfInBounds_toArray, List.set_cons_zero, List.set_cons_succ]))
              refine tree_e1 (tree_step rfl fun K hK => ?_)
              go_wp2_with (fail)
              have hG3 := grown_trans hG1 (World.grownBy_alloc w5 (.cells #[.slice y.NA y.nn y.nc, .slice y.FA y.fn y.fc] 25) none)
              refine hK.out _ _ hG3 ?_
              clear hK K
              repeat (first
                | (refine tree_skip rfl (by rfl) ?_; simp only [Act.put, List.setIfInBounds_toArray, List.set_cons_zero, List.set_cons_succ])
                | (refine tree_qE rfl (by rfl) ?_; apply Exists.intro; refine ⟨fun w' hc' => ?_, ?_⟩; (focus (go_simp; (try go_bits); (try simp only [↓IntWalk.iteOmega]); with_reducible rfl)); simp only [Act.put, List.setIfInBounds_toArray, List.set_cons_zero, List.set_cons_succ]))
              refine tree_end ?_
              go_wp2_with (fail)
              go_meet
              exact ⟨rfl, TreeCut.alloc hT5 (below_grown hG1 (Nat.le_refl _) (fun g e => by cases e))⟩
            · have hZ := Blk.new W4.drew 25 #[.slice none 0 0, .slice none 0 0]
              go_wp2_with (fail)
              have hG1 := grown_trans hG0 (World.grownBy_alloc W4.drew (.cells #[.slice none 0 0, .slice none 0 0] 25) none)
              refine hK.out _ _ hG1 ?_
              clear hK K
              repeat (first
                | (refine tree_skip rfl (by rfl) ?_; simp only [Act.put, List.setIfInBounds_toArray, List.set_cons_zero, List.set_cons_succ])
                | (refine tree_qE rfl (by rfl) ?_; apply Exists.intro; refine ⟨fun w' hc' => ?_, ?_⟩; (focus (go_simp; (try go_bits); (try simp only [↓IntWalk.iteOmega]); with_reducible rfl)); simp only [Act.put, List.setIfInBounds_toArray, List.set_cons_zero, List.set_cons_succ]))
              refine tree_e1 (tree_step rfl fun K hK => ?_)
              have hBc := below_grown hG1 (Nat.le_refl _) (fun g e => by cases e)
              go_wp2_with (go_at_call 18; refine (C2.out _ hBc).mono ?_; rintro e w5 ⟨y, T, rfl, hT5, hb6⟩; have hb5 := hb6; unfold TV.val)
              have hG2 := grown_trans hG1 (grown_below hb5 (Nat.le_refl _))
              refine hK.out _ _ hG2 ?_
              clear hK K
              repeat (first
                | (refine tree_skip rfl (by rfl) ?_; simp only [Act.put, List.setIfInBounds_toArray, List.set_cons_zero, List.set_cons_succ])
                | (refine tree_qE rfl (by rfl) ?_; apply Exists.intro; refine ⟨fun w' hc' => ?_, ?_⟩; (focus (go_simp; (try go_bits); (try simp only [↓IntWalk.iteOmega]); with_reducible rfl)); simp only [Act.put, List.setIfInBounds_toArray, List.set_cons_zero, List.set_cons_succ]))
              have hZ5 : Blk w5 W4.heap.size 25 #[.slice none 0 0, .slice none 0 0] := hZ.below hb5 hZ.lt
              refine tree_e1 (tree_step rfl fun K hK => ?_)
              go_wp2_with (refine wpList_store_blk rfl 25 (.tmp 18) (.tmp 106) rfl hZ5 #[.slice y.NA y.nn y.nc, .slice y.FA y.fn y.fc] rfl rfl (show (Try.prog.info? 25).map (·.size) = some 2 by kernel_rfl) rfl (by simp [Value.oneCell']) ?_; intro w6 hB6 hg6 hs6)
              have hG3 : W4.grownBy w6 none := grown_below ((below_grown hG2 (Nat.le_refl _) (fun g e => by cases e)).trans (below_grown hg6 hG2.size (fun g e => by injection e with e; omega))) (Nat.le_refl _)
              refine hK.out _ _ hG3 ?_
              clear hK K
              repeat (first
                | (refine tree_skip rfl (by rfl) ?_; simp only [Act.put, List.setIfInBounds_toArray, List.set_cons_zero, List.set_cons_succ])
                | (refine tree_qE rfl (by rfl) ?_; apply Exists.intro; refine ⟨fun w' hc' => ?_, ?_⟩; (focus (go_simp; (try go_bits); (try simp only [↓IntWalk.iteOmega]); with_reducible rfl)); simp only [Act.put, List.setIfInBounds_toArray, List.set_cons_zero, List.set_cons_succ]))
              refine tree_end ?_
              go_wp2_with (fail)
              go_meet
              exact ⟨rfl, TreeCut.store hT5 (below_grown hG2 (Nat.le_refl _) (fun g e => by cases e)) hZ5 hB6 hg6 (by simp)⟩
          case rest =>
            obtain ⟨rfl, v, fs, g2, rfl, hV, hgl2, hTv, hTell2, hb6⟩ := hcut
            obtain ⟨W5, hW5⟩ : ∃ W, W = wc := ⟨_, rfl⟩
            rw [← hW5] at hV hTv hb6 ⊢
            replace hB := hB.below hb6 hBl
            replace hR := hR.below hb6 hRl
            replace hU := hU.below hb6 hUl
            replace hb := hb.trans (hb6.mono hbs)
            have HTu5 := Lib.hid (HTu.out.keep hb6)
            have HTv := Lib.hid hTv
            have HTt := Lib.hid (HT.out.keep hb)
            have HE1 := Lib.hid (HQ2.out v fs hTell2)
            clear hW5 b0 b1 d5 d6 d7 d8 d9 C2 hBl hRl hUl hbs hTv HTu
            have b0 := hB.cell 0; have b1 := hB.cell 1; have u0 := hU.cell 0; have u1 := hU.cell 1; have v0 := hV.cell 0; have v1 := hV.cell 1
            have tok1 : True := trivial
            have hbl5 := (Below.refl W5.heap.size W5)
            go_wp2_with (first | (go_at_call 20; refine (num7 _ _).mono ?_; rintro e w7 ⟨rfl, hw⟩; rw [hw]; clear hw) | (have _t := tok1; go_at_call 21; refine (exact_any v ⟨nodes, files, NA, nn, nc, FA, fn, fc⟩ fs ds _ HTv.out HTt.out).mono ?_; rintro e w8 ⟨rfl, hb8⟩; rw [HE1.out]; replace hb := hb.trans (hb8.mono hb.size); replace hB := hB.below hb8 hB.lt; replace hU := hU.below hb8 hU.lt; replace hR := hR.below hb8 hR.lt; clear b0 b1 u0 u1 v0 v1; have b0 := hB.cell 0; have b1 := hB.cell 1; have u0 := hU.cell 0; have u1 := hU.cell 1; have HTu8 := Lib.hid (HTu5.out.keep hb8); have HTt8 := Lib.hid (HTt.out.keep hb8); clear tok1 _t) | (go_at_call 21; refine (exact_any u ⟨nodes, files, NA, nn, nc, FA, fn, fc⟩ es ds _ HTu8.out HTt8.out).mono ?_; rintro e w9 ⟨rfl, hb9⟩; rw [HQ3.out]; replace hb := hb.trans (hb9.mono hb.size); replace hB := hB.below hb9 hB.lt; replace hR := hR.below hb9 hR.lt))
            go_roundw
            case rel => exact ⟨j + 1, by omega, by go_num, hB, hR, hb⟩
            case measure => simp [intOf]; omega
        · have h0b := bne_iff_ne.2 h0
          have H0 := Lib.hid h0; clear h0
          go_wp2_with (go_at_call 20; refine (num7 _ _).mono ?_; rintro e w7 ⟨rfl, hw⟩; rw [hw]; clear hw)
          go_roundw
          case rel => exact ⟨j + 1, by omega, by go_num, hB, hR, hb⟩
          case measure => simp [intOf]; omega
    · obtain rfl : j = 5 := by omega
      go_wp2
      go_ret
      exact ⟨rfl, hb⟩

set_option maxRecDepth 100000 in
theorem lifted (os : Os) (started : os.Started) (H : Type) (enc : TypeId × Value → H) :
    ReturnsInHanded {} Try.checked os 4 .any (Rows.modelUndoSpec.pre6 enc Try.prog Try.f4 Rows.modelUndoRow.domain false) (Rows.modelUndoSpec.post enc Try.prog Try.f4 false true false false) := by
  refine returnsInHanded_of_change (C := Try.checked) own started (by kernel_rfl) Try.func4
    (ChangeSpec.witness6 (enc := enc) (C := Try.checked) false ⟨#[], #[.agg #[.slice none 0 0, .slice none 0 0], .string ByteArray.empty, .string ByteArray.empty, .int .i64 0, .slice none 0 0], []⟩ 8 (by kernel_rfl) (by kernel_rfl) (by kernel_rfl) (by kernel_rfl)) ?_
  intro W base args ds gs before hval0 hW hcnd _
  have hval : ∀ (j : Nat) t v, Try.f4.params[j]? = some t → args[j]? = some v → Value.okWide Try.prog W .any base t v := hval0
  have hW' := hW
  obtain ⟨p, q, hA0, hV, rfl, hfz, hnd⟩ := hW
  have hA : DataW.TrodAll enc Try.prog W 0 (fun _ => true) true Try.f4.params.toList args.toList ds p := hA0
  rw [Try.params4] at hA hval
  obtain ⟨v0, vs0, d0, ds0, p0, q0, hargs, rfl, rfl, h0, r0⟩ := trodAll_cons hA
  obtain ⟨v1, vs1, d1, ds1, p1, q1, rfl, rfl, rfl, h1, r1⟩ := trodAll_cons r0
  obtain ⟨v2, vs2, d2, ds2, p2, q2, rfl, rfl, rfl, h2, r2⟩ := trodAll_cons r1
  obtain ⟨v3, vs3, d3, ds3, p3, q3, rfl, rfl, rfl, h3, r3⟩ := trodAll_cons r2
  obtain ⟨v4, vs4, d4, ds4, p4, q4, rfl, rfl, rfl, h4, r4⟩ := trodAll_cons r3
  obtain ⟨rfl, rfl, rfl⟩ := trodAll_nil r4
  obtain rfl : args = #[v0, v1, v2, v3, v4] := by cases args; simp_all
  obtain ⟨rfl, rfl⟩ := trodVars_none hV
  have k0 := h0
  have lt0 : ∀ x ∈ p0, x.block < W.heap.size := by obtain ⟨m, hm⟩ := k0; exact DataW.trod_lt m _ _ _ hm
  obtain ⟨t0, ds0', rfl, hT0⟩ := open_tree (hval 0 25 v0 rfl rfl) h0 lt0
  obtain ⟨a1, rfl, rfl, rfl, w1⟩ := open_string Try.underlying9 (hval 1 9 v1 rfl rfl) h1
  obtain ⟨a2, rfl, rfl, rfl, w2⟩ := open_string Try.underlying9 (hval 2 9 v2 rfl rfl) h2
  obtain ⟨a3, rfl, rfl, rfl, w3⟩ := open_int Try.underlying3 (hval 3 3 v3 rfl rfl) h3
  obtain ⟨a4, len4, cap4, rfl⟩ := okWide_slice Try.underlying28 (hval 4 28 v4 rfl rfl)
  have k4 := h4
  have lt4 : ∀ x ∈ p4, x.block < W.heap.size := by obtain ⟨m, hm⟩ := k4; exact DataW.trod_lt m _ _ _ hm
  obtain ⟨ss4, sd4, hK4⟩ : ∃ (ss : List SC) (sd : List ByteArray), StockAt W a4 len4 ss sd := by
    obtain ⟨fuel, hf⟩ := h4
    exact open_stock hf lt4
  clear hA0 hval0
  refine (walk t0 ds0' a1 a2 a3 a4 len4 cap4 ss4 sd4 W hT0 w1 w2 w3 hK4).mono fun e W' ⟨he, bel⟩ => ?_
  subst he
  exact ⟨_, rfl, _, _, _, [], _, [], hW', trodAll_mk1 (shut_bool Try.underlying4 _), (trodAll_cons_mk (Below.trod laidOut (by kernel_rfl) (of_decide_eq_true (by kernel_rfl)) k0 bel lt0) (trodAll_cons_mk (shut_string Try.underlying9 w1) (trodAll_cons_mk (shut_string Try.underlying9 w2) (trodAll_cons_mk (shut_int Try.underlying3 w3) (trodAll_cons_mk (Below.trod laidOut (by kernel_rfl) (of_decide_eq_true (by kernel_rfl)) k4 bel lt4) trodAll_mk0))))), rfl, bel.frame _, fun h => by cases h⟩

theorem over : Rows.modelUndoRow.holds Try.pinned (OpenSpec.ofChange Rows.modelUndoSpec) :=
  OpenClaim.holds_of_wide 4 Try.f4 rfl rfl rfl rfl rfl rfl rfl ⟨rfl, rfl, rfl, rfl, rfl⟩ rfl rfl rfl rfl rfl (by kernel_rfl) Try.func4 (by kernel_rfl)
    (of_decide_eq_true (by kernel_rfl)) (by unfold Func.isWrapper; first | (rw [if_pos (by decide +kernel)]; kernel_rfl) | (rw [if_neg (by decide +kernel)]; exact ⟨rfl, rfl⟩))
    (fun os started H enc _ => lifted os started H enc)

theorem proved : Rows.ModelUndoSaid := over
#print axioms proved
end Go.Proofs.Ythmeffpickejkaa.modelUndoDone
