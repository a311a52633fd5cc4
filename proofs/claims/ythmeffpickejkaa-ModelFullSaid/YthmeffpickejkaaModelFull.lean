/- ModelFull. -/
import Derived.Test.YthmeffpickejkaaFullP
import Derived.Test.YthmeffpickejkaaOpenC
import Derived.Test.YthmeffpickejkaaOrdT
namespace Go.Proofs.Ythmeffpickejkaa.modelFullDone
open Go.ChangeShapes Go.WideShapes Go.ChangeAt Go.RowKit Go.Deep

theorem own_blk {w : World} {base e sz n c g : Nat} {A : Option Addr} {L : List Value} (h : w.ownsRow base e sz (.slice A n c) n L) (hg : blkOf A = some g) : base ≤ g ∧ ∃ cur, Blk w g e cur := by
  rcases h.2 with ⟨h', _⟩ | ⟨g', cap, cur, hv, hb, hh, _⟩
  · injection h' with e1
    rw [e1] at hg; cases hg
  · injection hv with e1
    rw [e1] at hg
    injection hg with e2
    subst e2
    exact ⟨hb, cur, hh⟩
theorem own_other {w w' : World} {base e sz n c base' e' sz' n' c' : Nat} {A A' : Option Addr} {L L' : List Value} (h : w.ownsRow base e sz (.slice A n c) n L) (h2 : w.ownsRow base' e' sz' (.slice A' n' c') n' L') (hne : e ≠ e') (hg : w.grownBy w' (blkOf A)) :
    w'.ownsRow base' e' sz' (.slice A' n' c') n' L' := own_keep h2 fun g o e1 => by
  obtain ⟨_, cur', hb'⟩ := own_blk (g := g) h2 (by rw [e1]; rfl)
  refine hg.block g hb'.lt fun e2 => ?_
  obtain ⟨_, cur, hb⟩ := own_blk h e2.symm
  have := hb.symm.trans hb'
  simp at this
  exact hne this.2
def FAt (base tb : Nat) (w wr : World) (k : Nat) : Prop :=
  ∃ A c FA fc, Blk wr tb 25 #[.slice A k c, .slice FA k fc] ∧ wr.ownsRow base 48 3 (.slice A k c) k ((fTo k).flatMap Node.list) ∧ wr.ownsRow base 52 2 (.slice FA k fc) k ((List.replicate k fF).flatMap FC.list) ∧ base ≤ wr.heap.size ∧ Below w.heap.size w wr
def cmds : List Cmd := [cA, cB, cC, cD]
def rowC : Array Value := #[.int .i64 1, .string ⟨#[97]⟩, .string ⟨#[]⟩, .int .i64 0, .int .i64 0, .int .i64 4, .string ⟨#[102, 48, 48, 48]⟩, .string ⟨#[97]⟩, .int .i64 0, .int .i64 0, .int .i64 6, .string ⟨#[97]⟩, .string ⟨#[]⟩, .int .i64 0, .int .i64 0, .int .i64 7, .string ⟨#[102, 48, 48, 48]⟩, .string ⟨#[97]⟩, .int .i64 0, .int .i64 0]
theorem rowC_list : rowC.toList = cmds.flatMap Cmd.list := by rfl
theorem row_sl {w : World} {g : Nat} (h : Blk w g 27 rowC) : Sl w w.heap.size 5 (some ⟨g, 0, none⟩) 4 (cmds.flatMap Cmd.list) := by
  refine ⟨by rw [← rowC_list]; rfl, fun _ => ⟨g, 0, rfl, h.lt, fun i v hi => ?_⟩⟩
  rw [← rowC_list] at hi
  rw [Nat.zero_add, h.cell i]
  simpa using hi
theorem stock_nil {w : World} {g : Nat} (h : Blk w g 50 #[.slice none 0 0]) : StockAt w (some ⟨g, 0, none⟩) 1 [⟨none, 0, 0⟩] [ByteArray.empty] := by
  refine ⟨rfl, ⟨rfl, fun _ => ⟨g, 0, rfl, h.lt, fun i v hi => ?_⟩⟩, rfl, fun k x d hx hd => ?_, by omega⟩
  · rw [Nat.zero_add, h.cell i]
    simpa [SC.list] using hi
  · cases k with
    | zero => simp at hx hd; subst hx hd; exact ⟨rfl, ⟨rfl, fun h => absurd h (by decide)⟩⟩
    | succ k => simp at hx
theorem cmds_E {A : Option Addr} {c : Nat} {FA : Option Addr} {fc n : Nat} (hn : n ≤ 256) (hn0 : 250 ≤ n) (ds : List ByteArray) {x : Cmd} (hx : x ∈ cmds) : DoE (fTV A c FA fc n) ds x [ByteArray.empty] = if 256 ≤ n then 31 else 0 := by
  rw [DoE_full hn]
  have hM : (openM (fTV A c FA fc n) ds).nodes = fTo n := rfl
  have hl : (openM (fTV A c FA fc n) ds).nodes.length = n := fTo_length n
  simp only [cmds, List.mem_cons, List.not_mem_nil, or_false] at hx
  rcases hx with rfl | rfl | rfl | rfl
  · rw [do_A hM, hl]
  · rw [do_B hM hn hn0, hl]
  · rw [do_C hM, hl]
  · rw [do_D hM hn hn0, hl]
theorem cmds_op {x : Cmd} (hx : x ∈ cmds) : -9223372036854775808 ≤ x.op ∧ x.op ≤ 9223372036854775807 := by
  simp only [cmds, List.mem_cons, List.not_mem_nil, or_false] at hx
  rcases hx with rfl | rfl | rfl | rfl <;> decide
/-- One call of Do, with a stock of one empty content. -/
theorem do_cmd {E : Int} {A : Option Addr} {c : Nat} {FA : Option Addr} {fc n g : Nat} (hE : (if 256 ≤ n then 31 else 0 : Int) = E) (hn : n ≤ 256) (hn0 : 250 ≤ n) {ds : List ByteArray} {x : Cmd} (hx : x ∈ cmds) {w : World} (h : TreeD w (fTV A c FA fc n) ds) (hS : Blk w g 50 #[.slice none 0 0]) :
    Calls Try.prog 18 #[.agg #[.slice A n c, .slice FA n fc], .agg #[.int .i64 x.op, .string x.path, .string x.dst, .int .i64 x.mode, .int .i64 x.ref], .slice (some ⟨g, 0, none⟩) 1 1] w fun e w' => ∃ u : TV, e = .returned (.tuple #[u.val, .int .i64 E]) ∧ Below w.heap.size w w' := by
  have hc := Do_any (fTV A c FA fc n) ds x (cmds_op hx) (some ⟨g, 0, none⟩) 1 1 _ _ w h (stock_nil hS)
  rw [cmds_E hn hn0 ds hx, hE] at hc
  exact hc.mono fun e w' ⟨u, he, _, _, hb⟩ => ⟨u, he, hb⟩
/-- One call of Do without a stock. -/
theorem do_bare {A : Option Addr} {c : Nat} {FA : Option Addr} {fc n : Nat} (hn : n ≤ 256) (hn0 : 250 ≤ n) {ds : List ByteArray} {x : Cmd} (hx : x = cE ∨ x = cF ∨ x = cG) {w : World} (h : TreeD w (fTV A c FA fc n) ds) :
    Calls Try.prog 18 #[.agg #[.slice A n c, .slice FA n fc], .agg x.cells, .slice none 0 0] w fun e w' => ∃ u : TV, e = .returned (.tuple #[u.val, .int .i64 0]) ∧ Below w.heap.size w w' := by
  have hop : -9223372036854775808 ≤ x.op ∧ x.op ≤ 9223372036854775807 := by rcases hx with rfl | rfl | rfl <;> decide
  have hM : (openM (fTV A c FA fc n) ds).nodes = fTo n := rfl
  have hE : DoE (fTV A c FA fc n) ds x [] = 0 := by
    rw [DoE_full hn]
    rcases hx with rfl | rfl | rfl
    · exact do_E hM hn hn0
    · exact do_F hM hn hn0
    · exact do_G hM hn hn0
  have hc := Do_any (fTV A c FA fc n) ds x hop none 0 0 [] [] w h (StockAt.nil w)
  rw [hE] at hc
  exact hc.mono fun e w' ⟨u, he, _, _, hb⟩ => ⟨u, he, hb⟩
set_option maxRecDepth 100000 in
set_option maxHeartbeats 4000000 in
theorem walk (n : Int) (w : World) (_ : (Lit.int .i64 n).wf = true) : Calls Try.prog 7 #[.int .i64 n] w fun e w' => e = .returned (.bool true) ∧ Below w.heap.size w w' := by
  by_cases h1 : n < 250
  · go_enter Try.func7, Try.ntmps7
    go_wp2_with (go_at_call 13; refine (alive7 _).mono ?_; rintro e w1 ⟨rfl, hb1⟩)
    go_ret
    exact ⟨rfl, hb1⟩
  by_cases h2 : 256 < n
  · go_enter Try.func7, Try.ntmps7
    go_wp2_with (go_at_call 13; refine (alive7 _).mono ?_; rintro e w1 ⟨rfl, hb1⟩)
    go_ret
    exact ⟨rfl, hb1⟩
  obtain ⟨n, rfl⟩ := Int.eq_ofNat_of_zero_le (show 0 ≤ n by omega)
  have hn : n ≤ 256 := by omega
  have hn0 : 250 ≤ n := by omega
  go_enter Try.func7, Try.ntmps7
  go_upto_region 5 with (go_at_call 13; refine (alive7 _).mono ?_; rintro e w1 ⟨rfl, hb1⟩)
  have hs1 := hb1.size
  go_wp2
  go_loopw [5] (fun i wr => ∃ k : Nat, k ≤ n ∧ i = .int .i64 k ∧ FAt (w1.heap.size + 1) w1.heap.size w wr k) (fun i _ => n - (intOf i).toNat)
  case atStart => exact ⟨0, Nat.zero_le _, rfl, none, 0, none, 0, Blk.new _ _ _, World.ownsRow_nil _ _ _ _, World.ownsRow_nil _ _ _ _, by simp, hb1.alloc hs1 _⟩
  case round =>
    obtain ⟨k, hk, rfl, A, c, FA, fc, hT, ho, hf, hbs, hb⟩ := hrel
    have t0 := hT.cell 0
    have t0f := hT.frozen 0
    by_cases hlt : k < n
    · have hki : (k : Int) < n := by omega
      have kc := conv_new [102, 48 + (k : Int) / 100, 48 + (k : Int) / 10 % 10, 48 + (k : Int) % 10] wr (n := 4) rfl
      rw [f_str] at kc
      simp only [List.map_cons, List.map_nil] at kc
      have hks := Lib.hid (fTo_succ k)
      have hba := hb.alloc (by have := hb.size; omega) (.cells #[.int .u8 102, .int .u8 (48 + (k : Int) / 100), .int .u8 (48 + (k : Int) / 10 % 10), .int .u8 (48 + (k : Int) % 10)] 5)
      have hwr := hb.size
      go_upto_region 9 with (at_builtin; go_must (refine wpList_append_one rfl _ _ _ rfl Try.nodeT rfl (ho.alloc _) #[.string (fB k), .int .i64 k, .int .i64 0] rfl (by simp) rfl (f3_one _ _ _) (by unfold maxLen; omega) (by omega) (by simp; omega) ?_); intro g1 c1 w4 ho4 hg4 hat4; simp only [Act.put, List.setIfInBounds_toArray, List.set_cons_zero, List.set_cons_succ]; have hT4 := (hT.alloc (.cells #[.int .u8 102, .int .u8 (48 + (k : Int) / 100), .int .u8 (48 + (k : Int) / 10 % 10), .int .u8 (48 + (k : Int) % 10)] 5)).grown hg4 (fun e => by have := (own_blk ho e.symm).1; omega); have q0 := hT4.cell 0; have q0f := hT4.frozen 0)
      have hs4 := hg4.size
      simp only [World.size_alloc] at hs4
      have hf4 := own_other (ho.alloc (.cells #[.int .u8 102, .int .u8 (48 + (k : Int) / 100), .int .u8 (48 + (k : Int) / 10 % 10), .int .u8 (48 + (k : Int) % 10)] 5)) (hf.alloc (.cells #[.int .u8 102, .int .u8 (48 + (k : Int) / 100), .int .u8 (48 + (k : Int) / 10 % 10), .int .u8 (48 + (k : Int) % 10)] 5)) (by decide) hg4
      have hb4 := hba.trans (below_grown hg4 (by simp; omega) (fun g e => by have := (own_blk ho e).1; omega))
      have hT5 := hT4.set 0 (.slice (some ⟨g1, 0, none⟩) (k + 1) c1)
      have ho5 := own_set ho4 ⟨w1.heap.size, 0, none⟩ (.slice (some ⟨g1, 0, none⟩) (k + 1) c1) (Nat.lt_succ_self _)
      have hf5 := own_set hf4 ⟨w1.heap.size, 0, none⟩ (.slice (some ⟨g1, 0, none⟩) (k + 1) c1) (Nat.lt_succ_self _)
      have hb5 := hb4.setCell (p := ⟨w1.heap.size, 0, none⟩) hs1 (.slice (some ⟨g1, 0, none⟩) (k + 1) c1)
      obtain ⟨W5, hW5⟩ : ∃ W, w4.setCell ⟨w1.heap.size, 0, none⟩ (.slice (some ⟨g1, 0, none⟩) (k + 1) c1) = W := ⟨_, rfl⟩
      have hs5 : w1.heap.size + 1 ≤ W5.heap.size := by rw [← hW5]; simp [World.setCell]; omega
      rw [hW5] at hT5 ho5 hf5 hb5 ⊢
      clear hW5 hf4 hb4 hT4 ho4 hg4 hat4 q0 q0f hba kc t0 t0f hT ho hf hb hbs hs4 hwr
      have r1 := hT5.cell 1
      have r1f := hT5.frozen 1
      have hs5b := hb5.size
      go_wp2_with (at_builtin; go_must (refine wpList_append_one rfl _ _ _ rfl Try.fileT rfl hf5 #[.int .i64 384, .slice none 0 0] rfl rfl rfl (file_one _ _ _ _) (by unfold maxLen; omega) (by omega) hs5 ?_); intro g2 c2 w6 hf6 hg6 hat6; simp only [Act.put, List.setIfInBounds_toArray, List.set_cons_zero, List.set_cons_succ]; have hT6 := hT5.grown hg6 (fun e => by have := (own_blk hf5 e.symm).1; omega); have q1 := hT6.cell 1; have q1f := hT6.frozen 1)
      have hs6 := hg6.size
      have ho6 := own_other hf5 ho5 (by decide) hg6
      go_roundw
      case rel =>
        refine ⟨k + 1, by omega, by go_num, some ⟨g1, 0, none⟩, c1, some ⟨g2, 0, none⟩, c2, hT6.set 1 _, ?_, ?_, by simp [World.setCell]; omega, (hb5.trans (below_grown hg6 hs5b (fun g e => by have := (own_blk hf5 e).1; omega))).setCell (p := ⟨w1.heap.size, 1, none⟩) hs1 _⟩
        · rw [hks.out, List.flatMap_append]; exact own_set ho6 ⟨w1.heap.size, 1, none⟩ _ (Nat.lt_succ_self _)
        · rw [List.replicate_succ', List.flatMap_append]; exact own_set hf6 ⟨w1.heap.size, 1, none⟩ _ (Nat.lt_succ_self _)
      case measure => simp [intOf]; omega
    · obtain rfl : k = n := by omega
      have hTD : TreeD wr (fTV A c FA fc k) (List.replicate k ByteArray.empty) := by
        refine ⟨⟨fTo_length k, by simp [fTV], Sl.of_own ho, Sl.of_own hf, by show k ≤ _; omega, by show k ≤ _; omega⟩, ⟨by simp [fTV], fun i x d hx hd => ?_⟩⟩
        obtain rfl := List.eq_of_mem_replicate (List.mem_of_getElem? hx)
        obtain rfl := List.eq_of_mem_replicate (List.mem_of_getElem? hd)
        exact ⟨rfl, ⟨rfl, fun h => absurd h (by decide)⟩⟩
      have HTD := Lib.hid hTD; clear hTD ho hf t0 t0f
      go_upto_region 11 with (fail)
      obtain ⟨W0, rfl⟩ : ∃ W, W = wr := ⟨_, rfl⟩
      have hTl := hT.lt
      have hR := Blk.new W0 27 rowC
      have hT1 := hT.alloc (.cells rowC 27)
      have hb1 := (Below.refl W0.heap.size W0).alloc (Nat.le_refl _) (.cells rowC 27)
      have hbs1 := hb.size
      go_wp2
      go_loopw [7] (fun i wv => ∃ j : Nat, j ≤ 4 ∧ i = .int .i64 j ∧ Blk wv w1.heap.size 25 #[.slice A k c, .slice FA k fc] ∧ Blk wv W0.heap.size 27 rowC ∧ Below W0.heap.size W0 wv) (fun i _ => 4 - (intOf i).toNat)
      case atStart => exact ⟨0, Nat.zero_le _, rfl, hT1, hR, hb1⟩
      case round =>
        clear hT1 hR hb1 hT
        obtain ⟨j, hj, rfl, hT, hR, hv⟩ := hrel
        by_cases hlt : j < 4
        · have hji : (j : Int) < 4 := by omega
          obtain ⟨b, o, x, hA, _, hx, hc⟩ := (row_sl hR).get (f := Cmd.list) (fun _ => rfl) rfl hlt
          injection hA with hA
          injection hA with e1 e2
          subst e1 e2
          have hxm := List.mem_of_getElem? hx
          have d0 := hc 0 _ rfl
          have d1 := hc 1 _ rfl
          have d2 := hc 2 _ rfl
          have d3 := hc 3 _ rfl
          have d4 := hc 4 _ rfl
          simp only [Nat.add_zero, Nat.zero_add] at d0 d1 d2 d3 d4
          have t0 := hT.cell 0
          have t1 := hT.cell 1
          have hTl2 := hT.lt
          have hRl := hR.lt
          clear hx hc
          by_cases h256 : k = 256
          · have e256 : ((k : Int) == 256) = true := by simp; omega
            have hEk : (if 256 ≤ k then 31 else 0 : Int) = 31 := if_pos (by omega)
            replace h256 := Lib.hid h256
            go_upto_region 14 with (fail)
            refine wp_region_T none (.q 0 (.q 1 (.q 2 (.q 3 (.q 4 (.e2 5 10 (.e2 6 10 (.q 7 (.q 8 (.q 9 (.e1 10 (.e1 11 (.q 12 .done)))))) (.e1 6 (.q 7 (.q 8 (.q 9 (.e1 11 (.q 12 .done))))))) (.e1 5 (.e1 6 (.q 7 (.q 8 (.q 9 (.e1 11 (.q 12 .done))))))))))))) (by kernel_rfl) (by kernel_rfl) fun hG0 => ?_
            repeat (first
              | (refine tree_skip rfl (by rfl) ?_; simp only [Act.put, List.setIfInBounds_toArray, List.set_cons_zero, List.set_cons_succ])
              | (refine tree_qE rfl (by rfl) ?_; apply Exists.intro; refine ⟨fun w' hc' => ?_, ?_⟩; (focus (go_simp; (try go_bits); (try simp only [↓IntWalk.iteOmega]); with_reducible rfl)); simp only [Act.put, List.setIfInBounds_toArray, List.set_cons_zero, List.set_cons_succ]))
            refine tree_e2 (tree_step rfl fun K hK => ?_) (tree_step rfl fun K hK => ?_)
            · have hN := Blk.new wr.drew 50 #[.slice none 0 0]
              go_wp2_with (fail)
              have hG1 := grown_trans hG0 (World.grownBy_alloc wr.drew (.cells #[.slice none 0 0] 50) none)
              refine hK.out _ _ hG1 ?_
              clear hK K
              repeat (first
                | (refine tree_skip rfl (by rfl) ?_; simp only [Act.put, List.setIfInBounds_toArray, List.set_cons_zero, List.set_cons_succ])
                | (refine tree_qE rfl (by rfl) ?_; apply Exists.intro; refine ⟨fun w' hc' => ?_, ?_⟩; (focus (go_simp; (try go_bits); (try simp only [↓IntWalk.iteOmega]); with_reducible rfl)); simp only [Act.put, List.setIfInBounds_toArray, List.set_cons_zero, List.set_cons_succ]))
              refine tree_e2 (tree_step rfl fun K hK => ?_) (tree_step rfl fun K hK => ?_)
              · have _t := hN.lt
                go_wp2_with (go_at_call 18; refine (do_cmd hEk hn hn0 hxm (HTD.out.keep (hv.trans (below_grown hG1 hv.size (fun g e => by cases e)))) hN).mono ?_; rintro e w5 ⟨u, rfl, hb5⟩; unfold TV.val)
                have hG2 := grown_trans hG1 (grown_below hb5 (Nat.le_refl _))
                refine hK.out _ _ hG2 ?_
                clear hK K
                repeat (first
                  | (refine tree_skip rfl (by rfl) ?_; simp only [Act.put, List.setIfInBounds_toArray, List.set_cons_zero, List.set_cons_succ])
                  | (refine tree_qE rfl (by rfl) ?_; apply Exists.intro; refine ⟨fun w' hc' => ?_, ?_⟩; (focus (go_simp; (try go_bits); (try simp only [↓IntWalk.iteOmega]); with_reducible rfl)); simp only [Act.put, List.setIfInBounds_toArray, List.set_cons_zero, List.set_cons_succ]))
                refine tree_e1 (tree_step rfl fun K hK => ?_)
                go_wp2_with (fail)
                have hG3 := grown_trans hG2 (World.grownBy_alloc w5 (.cells #[.slice none 0 0, .slice none 0 0] 25) none)
                refine hK.out _ _ hG3 ?_
                clear hK K
                repeat (first
                  | (refine tree_skip rfl (by rfl) ?_; simp only [Act.put, List.setIfInBounds_toArray, List.set_cons_zero, List.set_cons_succ])
                  | (refine tree_qE rfl (by rfl) ?_; apply Exists.intro; refine ⟨fun w' hc' => ?_, ?_⟩; (focus (go_simp; (try go_bits); (try simp only [↓IntWalk.iteOmega]); with_reducible rfl)); simp only [Act.put, List.setIfInBounds_toArray, List.set_cons_zero, List.set_cons_succ]))
                refine tree_e1 (tree_step rfl fun K hK => ?_)
                go_wp2_with (fail)
                have hG4 := grown_trans hG2 (World.grownBy_alloc w5 (.cells #[.slice u.NA u.nn u.nc, .slice u.FA u.fn u.fc] 25) none)
                refine hK.out _ _ hG4 ?_
                clear hK K
                repeat (first
                  | (refine tree_skip rfl (by rfl) ?_; simp only [Act.put, List.setIfInBounds_toArray, List.set_cons_zero, List.set_cons_succ])
                  | (refine tree_qE rfl (by rfl) ?_; apply Exists.intro; refine ⟨fun w' hc' => ?_, ?_⟩; (focus (go_simp; (try go_bits); (try simp only [↓IntWalk.iteOmega]); with_reducible rfl)); simp only [Act.put, List.setIfInBounds_toArray, List.set_cons_zero, List.set_cons_succ]))
                refine tree_end ?_
                have hv9 := hv.trans (below_grown hG4 hv.size (fun g e => by cases e))
                have hT9 := hT.grown hG4 (by simp)
                have hR9 := hR.grown hG4 (by simp)
                go_wp2_with (go_at_call 20; refine (num7 _ _).mono ?_; rintro e w7 ⟨rfl, hw⟩; rw [hw]; clear hw)
                go_roundw
                case rel => exact ⟨j + 1, by omega, by go_num, hT9, hR9, hv9⟩
                case measure => simp [intOf]; omega
              · have hZ := Blk.new (wr.drew.alloc (.cells #[.slice none 0 0] 50)) 25 #[.slice none 0 0, .slice none 0 0]
                go_wp2_with (fail)
                have hG2 := grown_trans hG1 (World.grownBy_alloc _ (.cells #[.slice none 0 0, .slice none 0 0] 25) none)
                refine hK.out _ _ hG2 ?_
                clear hK K
                repeat (first
                  | (refine tree_skip rfl (by rfl) ?_; simp only [Act.put, List.setIfInBounds_toArray, List.set_cons_zero, List.set_cons_succ])
                  | (refine tree_qE rfl (by rfl) ?_; apply Exists.intro; refine ⟨fun w' hc' => ?_, ?_⟩; (focus (go_simp; (try go_bits); (try simp only [↓IntWalk.iteOmega]); with_reducible rfl)); simp only [Act.put, List.setIfInBounds_toArray, List.set_cons_zero, List.set_cons_succ]))
                refine tree_e1 (tree_step rfl fun K hK => ?_)
                go_wp2_with (go_at_call 18; refine (do_cmd hEk hn hn0 hxm (HTD.out.keep (hv.trans (below_grown hG2 hv.size (fun g e => by cases e)))) (hN.alloc _)).mono ?_; rintro e w5 ⟨u, rfl, hb5⟩; unfold TV.val)
                have hG3 := grown_trans hG2 (grown_below hb5 (Nat.le_refl _))
                refine hK.out _ _ hG3 ?_
                clear hK K
                repeat (first
                  | (refine tree_skip rfl (by rfl) ?_; simp only [Act.put, List.setIfInBounds_toArray, List.set_cons_zero, List.set_cons_succ])
                  | (refine tree_qE rfl (by rfl) ?_; apply Exists.intro; refine ⟨fun w' hc' => ?_, ?_⟩; (focus (go_simp; (try go_bits); (try simp only [↓IntWalk.iteOmega]); with_reducible rfl)); simp only [Act.put, List.setIfInBounds_toArray, List.set_cons_zero, List.set_cons_succ]))
                have hZ5 : Blk w5 (wr.heap.size + 1) 25 #[.slice none 0 0, .slice none 0 0] := by have h := hZ.below hb5 hZ.lt; rw [World.size_alloc] at h; exact h
                refine tree_e1 (tree_step rfl fun K hK => ?_)
                go_wp2_with (refine wpList_store_blk rfl 25 (.tmp 8) (.tmp 80) rfl hZ5 #[.slice u.NA u.nn u.nc, .slice u.FA u.fn u.fc] rfl rfl (show (Try.prog.info? 25).map (·.size) = some 2 by kernel_rfl) rfl (by simp [Value.oneCell']) ?_; intro w6 hB6 hg6 hs6)
                have hG4 : wr.grownBy w6 none := grown_below ((below_grown hG3 (Nat.le_refl _) (fun g e => by cases e)).trans (below_grown hg6 hG3.size (fun g e => by injection e with e; omega))) (Nat.le_refl _)
                refine hK.out _ _ hG4 ?_
                clear hK K
                repeat (first
                  | (refine tree_skip rfl (by rfl) ?_; simp only [Act.put, List.setIfInBounds_toArray, List.set_cons_zero, List.set_cons_succ])
                  | (refine tree_qE rfl (by rfl) ?_; apply Exists.intro; refine ⟨fun w' hc' => ?_, ?_⟩; (focus (go_simp; (try go_bits); (try simp only [↓IntWalk.iteOmega]); with_reducible rfl)); simp only [Act.put, List.setIfInBounds_toArray, List.set_cons_zero, List.set_cons_succ]))
                refine tree_end ?_
                have hv9 := hv.trans (below_grown hG4 hv.size (fun g e => by cases e))
                have hT9 := hT.grown hG4 (by simp)
                have hR9 := hR.grown hG4 (by simp)
                go_wp2_with (go_at_call 20; refine (num7 _ _).mono ?_; rintro e w7 ⟨rfl, hw⟩; rw [hw]; clear hw)
                go_roundw
                case rel => exact ⟨j + 1, by omega, by go_num, hT9, hR9, hv9⟩
                case measure => simp [intOf]; omega
            · have hZ := Blk.new wr.drew 25 #[.slice none 0 0, .slice none 0 0]
              go_wp2_with (fail)
              have hG1 := grown_trans hG0 (World.grownBy_alloc wr.drew (.cells #[.slice none 0 0, .slice none 0 0] 25) none)
              refine hK.out _ _ hG1 ?_
              clear hK K
              repeat (first
                | (refine tree_skip rfl (by rfl) ?_; simp only [Act.put, List.setIfInBounds_toArray, List.set_cons_zero, List.set_cons_succ])
                | (refine tree_qE rfl (by rfl) ?_; apply Exists.intro; refine ⟨fun w' hc' => ?_, ?_⟩; (focus (go_simp; (try go_bits); (try simp only [↓IntWalk.iteOmega]); with_reducible rfl)); simp only [Act.put, List.setIfInBounds_toArray, List.set_cons_zero, List.set_cons_succ]))
              have hN : Blk ((wr.drew.alloc (.cells #[.slice none 0 0, .slice none 0 0] 25)).alloc (.cells #[.slice none 0 0] 50)) (wr.heap.size + 1) 50 #[.slice none 0 0] := by have h := Blk.new (wr.drew.alloc (.cells #[.slice none 0 0, .slice none 0 0] 25)) 50 #[.slice none 0 0]; rw [World.size_alloc] at h; exact h
              refine tree_e1 (tree_step rfl fun K hK => ?_)
              go_wp2_with (fail)
              have hG2 := grown_trans hG1 (World.grownBy_alloc _ (.cells #[.slice none 0 0] 50) none)
              refine hK.out _ _ hG2 ?_
              clear hK K
              repeat (first
                | (refine tree_skip rfl (by rfl) ?_; simp only [Act.put, List.setIfInBounds_toArray, List.set_cons_zero, List.set_cons_succ])
                | (refine tree_qE rfl (by rfl) ?_; apply Exists.intro; refine ⟨fun w' hc' => ?_, ?_⟩; (focus (go_simp; (try go_bits); (try simp only [↓IntWalk.iteOmega]); with_reducible rfl)); simp only [Act.put, List.setIfInBounds_toArray, List.set_cons_zero, List.set_cons_succ]))
              refine tree_e1 (tree_step rfl fun K hK => ?_)
              go_wp2_with (go_at_call 18; refine (do_cmd hEk hn hn0 hxm (HTD.out.keep (hv.trans (below_grown hG2 hv.size (fun g e => by cases e)))) hN).mono ?_; rintro e w5 ⟨u, rfl, hb5⟩; unfold TV.val)
              have hG3 := grown_trans hG2 (grown_below hb5 (Nat.le_refl _))
              refine hK.out _ _ hG3 ?_
              clear hK K
              repeat (first
                | (refine tree_skip rfl (by rfl) ?_; simp only [Act.put, List.setIfInBounds_toArray, List.set_cons_zero, List.set_cons_succ])
                | (refine tree_qE rfl (by rfl) ?_; apply Exists.intro; refine ⟨fun w' hc' => ?_, ?_⟩; (focus (go_simp; (try go_bits); (try simp only [↓IntWalk.iteOmega]); with_reducible rfl)); simp only [Act.put, List.setIfInBounds_toArray, List.set_cons_zero, List.set_cons_succ]))
              have hZ5 : Blk w5 wr.heap.size 25 #[.slice none 0 0, .slice none 0 0] := (hZ.alloc (.cells #[.slice none 0 0] 50)).below hb5 (by simp only [World.size_alloc]; omega)
              refine tree_e1 (tree_step rfl fun K hK => ?_)
              go_wp2_with (refine wpList_store_blk rfl 25 (.tmp 8) (.tmp 80) rfl hZ5 #[.slice u.NA u.nn u.nc, .slice u.FA u.fn u.fc] rfl rfl (show (Try.prog.info? 25).map (·.size) = some 2 by kernel_rfl) rfl (by simp [Value.oneCell']) ?_; intro w6 hB6 hg6 hs6)
              have hG4 : wr.grownBy w6 none := grown_below ((below_grown hG3 (Nat.le_refl _) (fun g e => by cases e)).trans (below_grown hg6 hG3.size (fun g e => by injection e with e; omega))) (Nat.le_refl _)
              refine hK.out _ _ hG4 ?_
              clear hK K
              repeat (first
                | (refine tree_skip rfl (by rfl) ?_; simp only [Act.put, List.setIfInBounds_toArray, List.set_cons_zero, List.set_cons_succ])
                | (refine tree_qE rfl (by rfl) ?_; apply Exists.intro; refine ⟨fun w' hc' => ?_, ?_⟩; (focus (go_simp; (try go_bits); (try simp only [↓IntWalk.iteOmega]); with_reducible rfl)); simp only [Act.put, List.setIfInBounds_toArray, List.set_cons_zero, List.set_cons_succ]))
              refine tree_end ?_
              have hv9 := hv.trans (below_grown hG4 hv.size (fun g e => by cases e))
              have hT9 := hT.grown hG4 (by simp)
              have hR9 := hR.grown hG4 (by simp)
              go_wp2_with (go_at_call 20; refine (num7 _ _).mono ?_; rintro e w7 ⟨rfl, hw⟩; rw [hw]; clear hw)
              go_roundw
              case rel => exact ⟨j + 1, by omega, by go_num, hT9, hR9, hv9⟩
              case measure => simp [intOf]; omega
          · have e256 : ((k : Int) == 256) = false := by simp; omega
            have hl256 : (k : Int) < 256 := by omega
            have hEk : (if 256 ≤ k then 31 else 0 : Int) = 0 := if_neg (by omega)
            replace h256 := Lib.hid h256
            go_upto_region 14 with (fail)
            refine wp_region_T none (.q 0 (.q 1 (.q 2 (.q 3 (.q 4 (.e2 5 10 (.e2 6 10 (.q 7 (.q 8 (.q 9 (.e1 10 (.e1 11 (.q 12 .done)))))) (.e1 6 (.q 7 (.q 8 (.q 9 (.e1 11 (.q 12 .done))))))) (.e1 5 (.e1 6 (.q 7 (.q 8 (.q 9 (.e1 11 (.q 12 .done))))))))))))) (by kernel_rfl) (by kernel_rfl) fun hG0 => ?_
            repeat (first
              | (refine tree_skip rfl (by rfl) ?_; simp only [Act.put, List.setIfInBounds_toArray, List.set_cons_zero, List.set_cons_succ])
              | (refine tree_qE rfl (by rfl) ?_; apply Exists.intro; refine ⟨fun w' hc' => ?_, ?_⟩; (focus (go_simp; (try go_bits); (try simp only [↓IntWalk.iteOmega]); with_reducible rfl)); simp only [Act.put, List.setIfInBounds_toArray, List.set_cons_zero, List.set_cons_succ]))
            refine tree_e2 (tree_step rfl fun K hK => ?_) (tree_step rfl fun K hK => ?_)
            · have hN := Blk.new wr.drew 50 #[.slice none 0 0]
              go_wp2_with (fail)
              have hG1 := grown_trans hG0 (World.grownBy_alloc wr.drew (.cells #[.slice none 0 0] 50) none)
              refine hK.out _ _ hG1 ?_
              clear hK K
              repeat (first
                | (refine tree_skip rfl (by rfl) ?_; simp only [Act.put, List.setIfInBounds_toArray, List.set_cons_zero, List.set_cons_succ])
                | (refine tree_qE rfl (by rfl) ?_; apply Exists.intro; refine ⟨fun w' hc' => ?_, ?_⟩; (focus (go_simp; (try go_bits); (try simp only [↓IntWalk.iteOmega]); with_reducible rfl)); simp only [Act.put, List.setIfInBounds_toArray, List.set_cons_zero, List.set_cons_succ]))
              refine tree_e2 (tree_step rfl fun K hK => ?_) (tree_step rfl fun K hK => ?_)
              · have _t := hN.lt
                go_wp2_with (go_at_call 18; refine (do_cmd hEk hn hn0 hxm (HTD.out.keep (hv.trans (below_grown hG1 hv.size (fun g e => by cases e)))) hN).mono ?_; rintro e w5 ⟨u, rfl, hb5⟩; unfold TV.val)
                have hG2 := grown_trans hG1 (grown_below hb5 (Nat.le_refl _))
                refine hK.out _ _ hG2 ?_
                clear hK K
                repeat (first
                  | (refine tree_skip rfl (by rfl) ?_; simp only [Act.put, List.setIfInBounds_toArray, List.set_cons_zero, List.set_cons_succ])
                  | (refine tree_qE rfl (by rfl) ?_; apply Exists.intro; refine ⟨fun w' hc' => ?_, ?_⟩; (focus (go_simp; (try go_bits); (try simp only [↓IntWalk.iteOmega]); with_reducible rfl)); simp only [Act.put, List.setIfInBounds_toArray, List.set_cons_zero, List.set_cons_succ]))
                refine tree_e1 (tree_step rfl fun K hK => ?_)
                go_wp2_with (fail)
                have hG3 := grown_trans hG2 (World.grownBy_alloc w5 (.cells #[.slice none 0 0, .slice none 0 0] 25) none)
                refine hK.out _ _ hG3 ?_
                clear hK K
                repeat (first
                  | (refine tree_skip rfl (by rfl) ?_; simp only [Act.put, List.setIfInBounds_toArray, List.set_cons_zero, List.set_cons_succ])
                  | (refine tree_qE rfl (by rfl) ?_; apply Exists.intro; refine ⟨fun w' hc' => ?_, ?_⟩; (focus (go_simp; (try go_bits); (try simp only [↓IntWalk.iteOmega]); with_reducible rfl)); simp only [Act.put, List.setIfInBounds_toArray, List.set_cons_zero, List.set_cons_succ]))
                refine tree_e1 (tree_step rfl fun K hK => ?_)
                go_wp2_with (fail)
                have hG4 := grown_trans hG2 (World.grownBy_alloc w5 (.cells #[.slice u.NA u.nn u.nc, .slice u.FA u.fn u.fc] 25) none)
                refine hK.out _ _ hG4 ?_
                clear hK K
                repeat (first
                  | (refine tree_skip rfl (by rfl) ?_; simp only [Act.put, List.setIfInBounds_toArray, List.set_cons_zero, List.set_cons_succ])
                  | (refine tree_qE rfl (by rfl) ?_; apply Exists.intro; refine ⟨fun w' hc' => ?_, ?_⟩; (focus (go_simp; (try go_bits); (try simp only [↓IntWalk.iteOmega]); with_reducible rfl)); simp only [Act.put, List.setIfInBounds_toArray, List.set_cons_zero, List.set_cons_succ]))
                refine tree_end ?_
                have hv9 := hv.trans (below_grown hG4 hv.size (fun g e => by cases e))
                have hT9 := hT.grown hG4 (by simp)
                have hR9 := hR.grown hG4 (by simp)
                go_wp2_with (go_at_call 20; refine (num7 _ _).mono ?_; rintro e w7 ⟨rfl, hw⟩; rw [hw]; clear hw)
                go_roundw
                case rel => exact ⟨j + 1, by omega, by go_num, hT9, hR9, hv9⟩
                case measure => simp [intOf]; omega
              · have hZ := Blk.new (wr.drew.alloc (.cells #[.slice none 0 0] 50)) 25 #[.slice none 0 0, .slice none 0 0]
                go_wp2_with (fail)
                have hG2 := grown_trans hG1 (World.grownBy_alloc _ (.cells #[.slice none 0 0, .slice none 0 0] 25) none)
                refine hK.out _ _ hG2 ?_
                clear hK K
                repeat (first
                  | (refine tree_skip rfl (by rfl) ?_; simp only [Act.put, List.setIfInBounds_toArray, List.set_cons_zero, List.set_cons_succ])
                  | (refine tree_qE rfl (by rfl) ?_; apply Exists.intro; refine ⟨fun w' hc' => ?_, ?_⟩; (focus (go_simp; (try go_bits); (try simp only [↓IntWalk.iteOmega]); with_reducible rfl)); simp only [Act.put, List.setIfInBounds_toArray, List.set_cons_zero, List.set_cons_succ]))
                refine tree_e1 (tree_step rfl fun K hK => ?_)
                go_wp2_with (go_at_call 18; refine (do_cmd hEk hn hn0 hxm (HTD.out.keep (hv.trans (below_grown hG2 hv.size (fun g e => by cases e)))) (hN.alloc _)).mono ?_; rintro e w5 ⟨u, rfl, hb5⟩; unfold TV.val)
                have hG3 := grown_trans hG2 (grown_below hb5 (Nat.le_refl _))
                refine hK.out _ _ hG3 ?_
                clear hK K
                repeat (first
                  | (refine tree_skip rfl (by rfl) ?_; simp only [Act.put, List.setIfInBounds_toArray, List.set_cons_zero, List.set_cons_succ])
                  | (refine tree_qE rfl (by rfl) ?_; apply Exists.intro; refine ⟨fun w' hc' => ?_, ?_⟩; (focus (go_simp; (try go_bits); (try simp only [↓IntWalk.iteOmega]); with_reducible rfl)); simp only [Act.put, List.setIfInBounds_toArray, List.set_cons_zero, List.set_cons_succ]))
                have hZ5 : Blk w5 (wr.heap.size + 1) 25 #[.slice none 0 0, .slice none 0 0] := by have h := hZ.below hb5 hZ.lt; rw [World.size_alloc] at h; exact h
                refine tree_e1 (tree_step rfl fun K hK => ?_)
                go_wp2_with (refine wpList_store_blk rfl 25 (.tmp 8) (.tmp 80) rfl hZ5 #[.slice u.NA u.nn u.nc, .slice u.FA u.fn u.fc] rfl rfl (show (Try.prog.info? 25).map (·.size) = some 2 by kernel_rfl) rfl (by simp [Value.oneCell']) ?_; intro w6 hB6 hg6 hs6)
                have hG4 : wr.grownBy w6 none := grown_below ((below_grown hG3 (Nat.le_refl _) (fun g e => by cases e)).trans (below_grown hg6 hG3.size (fun g e => by injection e with e; omega))) (Nat.le_refl _)
                refine hK.out _ _ hG4 ?_
                clear hK K
                repeat (first
                  | (refine tree_skip rfl (by rfl) ?_; simp only [Act.put, List.setIfInBounds_toArray, List.set_cons_zero, List.set_cons_succ])
                  | (refine tree_qE rfl (by rfl) ?_; apply Exists.intro; refine ⟨fun w' hc' => ?_, ?_⟩; (focus (go_simp; (try go_bits); (try simp only [↓IntWalk.iteOmega]); with_reducible rfl)); simp only [Act.put, List.setIfInBounds_toArray, List.set_cons_zero, List.set_cons_succ]))
                refine tree_end ?_
                have hv9 := hv.trans (below_grown hG4 hv.size (fun g e => by cases e))
                have hT9 := hT.grown hG4 (by simp)
                have hR9 := hR.grown hG4 (by simp)
                go_wp2_with (go_at_call 20; refine (num7 _ _).mono ?_; rintro e w7 ⟨rfl, hw⟩; rw [hw]; clear hw)
                go_roundw
                case rel => exact ⟨j + 1, by omega, by go_num, hT9, hR9, hv9⟩
                case measure => simp [intOf]; omega
            · have hZ := Blk.new wr.drew 25 #[.slice none 0 0, .slice none 0 0]
              go_wp2_with (fail)
              have hG1 := grown_trans hG0 (World.grownBy_alloc wr.drew (.cells #[.slice none 0 0, .slice none 0 0] 25) none)
              refine hK.out _ _ hG1 ?_
              clear hK K
              repeat (first
                | (refine tree_skip rfl (by rfl) ?_; simp only [Act.put, List.setIfInBounds_toArray, List.set_cons_zero, List.set_cons_succ])
                | (refine tree_qE rfl (by rfl) ?_; apply Exists.intro; refine ⟨fun w' hc' => ?_, ?_⟩; (focus (go_simp; (try go_bits); (try simp only [↓IntWalk.iteOmega]); with_reducible rfl)); simp only [Act.put, List.setIfInBounds_toArray, List.set_cons_zero, List.set_cons_succ]))
              have hN : Blk ((wr.drew.alloc (.cells #[.slice none 0 0, .slice none 0 0] 25)).alloc (.cells #[.slice none 0 0] 50)) (wr.heap.size + 1) 50 #[.slice none 0 0] := by have h := Blk.new (wr.drew.alloc (.cells #[.slice none 0 0, .slice none 0 0] 25)) 50 #[.slice none 0 0]; rw [World.size_alloc] at h; exact h
              refine tree_e1 (tree_step rfl fun K hK => ?_)
              go_wp2_with (fail)
              have hG2 := grown_trans hG1 (World.grownBy_alloc _ (.cells #[.slice none 0 0] 50) none)
              refine hK.out _ _ hG2 ?_
              clear hK K
              repeat (first
                | (refine tree_skip rfl (by rfl) ?_; simp only [Act.put, List.setIfInBounds_toArray, List.set_cons_zero, List.set_cons_succ])
                | (refine tree_qE rfl (by rfl) ?_; apply Exists.intro; refine ⟨fun w' hc' => ?_, ?_⟩; (focus (go_simp; (try go_bits); (try simp only [↓IntWalk.iteOmega]); with_reducible rfl)); simp only [Act.put, List.setIfInBounds_toArray, List.set_cons_zero, List.set_cons_succ]))
              refine tree_e1 (tree_step rfl fun K hK => ?_)
              go_wp2_with (go_at_call 18; refine (do_cmd hEk hn hn0 hxm (HTD.out.keep (hv.trans (below_grown hG2 hv.size (fun g e => by cases e)))) hN).mono ?_; rintro e w5 ⟨u, rfl, hb5⟩; unfold TV.val)
              have hG3 := grown_trans hG2 (grown_below hb5 (Nat.le_refl _))
              refine hK.out _ _ hG3 ?_
              clear hK K
              repeat (first
                | (refine tree_skip rfl (by rfl) ?_; simp only [Act.put, List.setIfInBounds_toArray, List.set_cons_zero, List.set_cons_succ])
                | (refine tree_qE rfl (by rfl) ?_; apply Exists.intro; refine ⟨fun w' hc' => ?_, ?_⟩; (focus (go_simp; (try go_bits); (try simp only [↓IntWalk.iteOmega]); with_reducible rfl)); simp only [Act.put, List.setIfInBounds_toArray, List.set_cons_zero, List.set_cons_succ]))
              have hZ5 : Blk w5 wr.heap.size 25 #[.slice none 0 0, .slice none 0 0] := (hZ.alloc (.cells #[.slice none 0 0] 50)).below hb5 (by simp only [World.size_alloc]; omega)
              refine tree_e1 (tree_step rfl fun K hK => ?_)
              go_wp2_with (refine wpList_store_blk rfl 25 (.tmp 8) (.tmp 80) rfl hZ5 #[.slice u.NA u.nn u.nc, .slice u.FA u.fn u.fc] rfl rfl (show (Try.prog.info? 25).map (·.size) = some 2 by kernel_rfl) rfl (by simp [Value.oneCell']) ?_; intro w6 hB6 hg6 hs6)
              have hG4 : wr.grownBy w6 none := grown_below ((below_grown hG3 (Nat.le_refl _) (fun g e => by cases e)).trans (below_grown hg6 hG3.size (fun g e => by injection e with e; omega))) (Nat.le_refl _)
              refine hK.out _ _ hG4 ?_
              clear hK K
              repeat (first
                | (refine tree_skip rfl (by rfl) ?_; simp only [Act.put, List.setIfInBounds_toArray, List.set_cons_zero, List.set_cons_succ])
                | (refine tree_qE rfl (by rfl) ?_; apply Exists.intro; refine ⟨fun w' hc' => ?_, ?_⟩; (focus (go_simp; (try go_bits); (try simp only [↓IntWalk.iteOmega]); with_reducible rfl)); simp only [Act.put, List.setIfInBounds_toArray, List.set_cons_zero, List.set_cons_succ]))
              refine tree_end ?_
              have hv9 := hv.trans (below_grown hG4 hv.size (fun g e => by cases e))
              have hT9 := hT.grown hG4 (by simp)
              have hR9 := hR.grown hG4 (by simp)
              go_wp2_with (go_at_call 20; refine (num7 _ _).mono ?_; rintro e w7 ⟨rfl, hw⟩; rw [hw]; clear hw)
              go_roundw
              case rel => exact ⟨j + 1, by omega, by go_num, hT9, hR9, hv9⟩
              case measure => simp [intOf]; omega
        · obtain rfl : j = 4 := by omega
          have CE : Hid (∀ w, TreeD w (fTV A c FA fc k) (List.replicate k ByteArray.empty) → Calls Try.prog 18 #[.agg #[.slice A k c, .slice FA k fc], .agg #[.int .i64 3, .string ⟨#[102, 48, 48, 48]⟩, .string ⟨#[97]⟩, .int .i64 0, .int .i64 0], .slice none 0 0] w fun e w' => ∃ u : TV, e = .returned (.tuple #[u.val, .int .i64 0]) ∧ Below w.heap.size w w') := Lib.hid fun w h => do_bare hn hn0 (x := cE) (.inl rfl) h
          have CF : Hid (∀ w, TreeD w (fTV A c FA fc k) (List.replicate k ByteArray.empty) → Calls Try.prog 18 #[.agg #[.slice A k c, .slice FA k fc], .agg #[.int .i64 5, .string ⟨#[102, 48, 48, 49]⟩, .string ⟨#[]⟩, .int .i64 0, .int .i64 0], .slice none 0 0] w fun e w' => ∃ u : TV, e = .returned (.tuple #[u.val, .int .i64 0]) ∧ Below w.heap.size w w') := Lib.hid fun w h => do_bare hn hn0 (x := cF) (.inr (.inl rfl)) h
          have CG : Hid (∀ w, TreeD w (fTV A c FA fc k) (List.replicate k ByteArray.empty) → Calls Try.prog 18 #[.agg #[.slice A k c, .slice FA k fc], .agg #[.int .i64 8, .string ⟨#[102, 48, 48, 50]⟩, .string ⟨#[]⟩, .int .i64 1, .int .i64 0], .slice none 0 0] w fun e w' => ∃ u : TV, e = .returned (.tuple #[u.val, .int .i64 0]) ∧ Below w.heap.size w w') := Lib.hid fun w h => do_bare hn hn0 (x := cG) (.inr (.inr rfl)) h
          have t0 := hT.cell 0
          have t1 := hT.cell 1
          go_upto_region 18 with (go_at_call 18; refine (CE.out _ (HTD.out.keep hv)).mono ?_; rintro e wa ⟨ua, rfl, hba⟩; replace hT := hT.below hba hT.lt; replace hv := hv.trans (hba.mono hv.size); unfold TV.val)
          replace hT := hT.alloc (.cells #[.slice ua.NA ua.nn ua.nc, .slice ua.FA ua.fn ua.fc] 25)
          replace hv := hv.alloc hv.size (.cells #[.slice ua.NA ua.nn ua.nc, .slice ua.FA ua.fn ua.fc] 25)
          clear t0 t1
          have t0 := hT.cell 0
          have t1 := hT.cell 1
          go_upto_region 19 with (go_at_call 18; refine (CF.out _ (HTD.out.keep hv)).mono ?_; rintro e wb ⟨ub, rfl, hbb⟩; replace hT := hT.below hbb hT.lt; replace hv := hv.trans (hbb.mono hv.size); unfold TV.val)
          replace hT := hT.alloc (.cells #[.slice ub.NA ub.nn ub.nc, .slice ub.FA ub.fn ub.fc] 25)
          replace hv := hv.alloc hv.size (.cells #[.slice ub.NA ub.nn ub.nc, .slice ub.FA ub.fn ub.fc] 25)
          clear t0 t1
          have t0 := hT.cell 0
          have t1 := hT.cell 1
          go_upto_region 20 with (go_at_call 18; refine (CG.out _ (HTD.out.keep hv)).mono ?_; rintro e wd ⟨ud, rfl, hbd⟩; replace hT := hT.below hbd hT.lt; replace hv := hv.trans (hbd.mono hv.size); unfold TV.val)
          replace hT := hT.alloc (.cells #[.slice ud.NA ud.nn ud.nc, .slice ud.FA ud.fn ud.fc] 25)
          replace hv := hv.alloc hv.size (.cells #[.slice ud.NA ud.nn ud.nc, .slice ud.FA ud.fn ud.fc] 25)
          clear t0 t1
          have t0 := hT.cell 0
          have t1 := hT.cell 1
          go_wp2_with (go_at_call 20; refine (num7 _ _).mono ?_; rintro e w7 ⟨rfl, hw⟩; rw [hw]; clear hw)
          go_ret
          exact ⟨rfl, hb.trans (hv.mono hbs1)⟩


set_option maxRecDepth 100000 in
theorem lifted (os : Os) (started : os.Started) (H : Type) (enc : TypeId × Value → H) :
    ReturnsInHanded {} Try.checked os 7 .any (Rows.modelFullSpec.pre6 enc Try.prog Try.f7 Rows.modelFullRow.domain false) (Rows.modelFullSpec.post enc Try.prog Try.f7 false true false false) := by
  refine returnsInHanded_of_change (C := Try.checked) own started (by kernel_rfl) Try.func7
    (ChangeSpec.witness6 (enc := enc) (C := Try.checked) false ⟨#[], #[.int .i64 0], []⟩ 8 (by kernel_rfl) (by kernel_rfl) (by kernel_rfl) (by kernel_rfl)) ?_
  intro W base args ds gs before hval0 hW hcnd _
  have hval : ∀ (j : Nat) t v, Try.f7.params[j]? = some t → args[j]? = some v → Value.okWide Try.prog W .any base t v := hval0
  have hW' := hW
  obtain ⟨p, q, hA0, hV, rfl, hfz, hnd⟩ := hW
  have hA : DataW.TrodAll enc Try.prog W 0 (fun _ => true) true Try.f7.params.toList args.toList ds p := hA0
  rw [Try.params7] at hA hval
  obtain ⟨v0, vs0, d0, ds0, p0, q0, hargs, rfl, rfl, h0, r0⟩ := trodAll_cons hA
  obtain ⟨rfl, rfl, rfl⟩ := trodAll_nil r0
  obtain rfl : args = #[v0] := by cases args; simp_all
  obtain ⟨rfl, rfl⟩ := trodVars_none hV
  obtain ⟨a0, rfl, rfl, rfl, w0⟩ := open_int Try.underlying3 (hval 0 3 v0 rfl rfl) h0
  clear hA0 hval0
  refine (walk a0 W w0).mono fun e W' ⟨he, bel⟩ => ?_
  subst he
  exact ⟨_, rfl, _, _, _, [], _, [], hW', trodAll_mk1 (shut_bool Try.underlying4 _), (trodAll_cons_mk (shut_int Try.underlying3 w0) trodAll_mk0), rfl, bel.frame _, fun h => by cases h⟩

theorem over : Rows.modelFullRow.holds Try.pinned (OpenSpec.ofChange Rows.modelFullSpec) :=
  OpenClaim.holds_of_wide 7 Try.f7 rfl rfl rfl rfl rfl rfl rfl ⟨rfl, rfl, rfl, rfl, rfl⟩ rfl rfl rfl rfl rfl (by kernel_rfl) Try.func7 (by kernel_rfl)
    (of_decide_eq_true (by kernel_rfl)) (by unfold Func.isWrapper; first | (rw [if_pos (by decide +kernel)]; kernel_rfl) | (rw [if_neg (by decide +kernel)]; exact ⟨rfl, rfl⟩))
    (fun os started H enc _ => lifted os started H enc)

theorem proved : Rows.ModelFullSaid := over
#print axioms proved
end Go.Proofs.Ythmeffpickejkaa.modelFullDone
