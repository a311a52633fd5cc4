/- ModelSwap. -/
import Derived.Test.YthmeffpickejkaaSwapP
import Derived.ChangeMaps5
namespace Go.Proofs.Ythmeffpickejkaa.modelSwapDone
open Go.ChangeShapes Go.WideShapes Go.ChangeAt Go.ChangeMaps Go.RowKit Go.Deep

/-- One of two. -/
def two (a b : ByteArray) (i : Nat) : ByteArray := if i = 0 then a else b
def Un (a b : ByteArray) : Prop := headB a ≠ headB b
theorem two_cell {w : World} {g : Nat} {a b : ByteArray} (h : Blk w g 9 #[.string a, .string b]) {i : Nat} (hi : i < 2) : w.cell? ⟨g, i, none⟩ = some (.string (two a b i)) := by
  rw [h.cell i]
  match i, hi with
  | 0, _ => rfl
  | 1, _ => rfl
theorem two_all {x : Cmd} {r : ByteArray} (h : x.at r) : ∃ i, i < 2 ∧ two x.path x.dst i = r := by
  rcases h with h | h
  · exact ⟨0, by omega, h.symm⟩
  · exact ⟨1, by omega, h.symm⟩
theorem head_ne {a b : ByteArray} (ha : 0 < a.size) (hb : 0 < b.size) (h : ((a[0]'ha).toNat : Int) ≠ (b[0]'hb).toNat) : Un a b := fun e => by
  unfold headB at e
  have k : ∀ (s : ByteArray) (hs : 0 < s.size), s.data.toList.head? = some (s[0]'hs) := fun s hs => by
    rw [List.head?_eq_getElem?, List.getElem?_eq_getElem (by rw [dlen]; exact hs)]
    congr 1
  rw [k a ha, k b hb] at e
  injection e with e
  exact h (by rw [e])
set_option maxRecDepth 100000 in
set_option maxHeartbeats 8000000 in
theorem walk (t : TV) (ds : List ByteArray) (x y : Cmd) (SA : Option Addr) (sn sc : Nat) (ss : List SC) (sd : List ByteArray) (w : World) (hT : TreeD w t ds) (hCx : OpOk x) (hCy : OpOk y) (hS : StockAt w SA sn ss sd) :
    Calls Try.prog 11 #[t.val, .agg x.cells, .agg y.cells, .slice SA sn sc] w fun e w' => e = .returned (.bool true) ∧ Below w.heap.size w w' := by
  have HT := Lib.hid hT; have HS := Lib.hid hS; have HCx := Lib.hid hCx; have HCy := Lib.hid hCy
  clear hT hS hCx hCy
  obtain ⟨nodes, files, NA, nn, nc, FA, fn, fc⟩ := t
  have hswap := fun (hn : nn ≤ 250) (hf : ∀ a b, x.at a → y.at b → headB a ≠ headB b) => swap_law (t := ⟨nodes, files, NA, nn, nc, FA, fn, fc⟩) HT.out hn hf (sd := sd)
  have HSW := Lib.hid hswap; clear hswap
  have hokx := runR_ok HT.out [x, y] sd
  have hoky := runR_ok HT.out [y, x] sd
  have HOX := Lib.hid hokx; have HOY := Lib.hid hoky; clear hokx hoky
  unfold TV.val Cmd.cells
  have hB := (Blk.new w 25 #[.slice NA nn nc, .slice FA fn fc]).alloc (.cells #[.int .i64 x.op, .string x.path, .string x.dst, .int .i64 x.mode, .int .i64 x.ref] 27) |>.alloc (.cells #[.int .i64 y.op, .string y.path, .string y.dst, .int .i64 y.mode, .int .i64 y.ref] 27)
  have hX := (Blk.new (w.alloc (.cells #[.slice NA nn nc, .slice FA fn fc] 25)) 27 #[.int .i64 x.op, .string x.path, .string x.dst, .int .i64 x.mode, .int .i64 x.ref]).alloc (.cells #[.int .i64 y.op, .string y.path, .string y.dst, .int .i64 y.mode, .int .i64 y.ref] 27)
  have hY := Blk.new ((w.alloc (.cells #[.slice NA nn nc, .slice FA fn fc] 25)).alloc (.cells #[.int .i64 x.op, .string x.path, .string x.dst, .int .i64 x.mode, .int .i64 x.ref] 27)) 27 #[.int .i64 y.op, .string y.path, .string y.dst, .int .i64 y.mode, .int .i64 y.ref]
  have hb := (((Below.refl w.heap.size w).alloc (Nat.le_refl _) (.cells #[.slice NA nn nc, .slice FA fn fc] 25)).alloc (by simp) (.cells #[.int .i64 x.op, .string x.path, .string x.dst, .int .i64 x.mode, .int .i64 x.ref] 27)).alloc (by simp; omega) (.cells #[.int .i64 y.op, .string y.path, .string y.dst, .int .i64 y.mode, .int .i64 y.ref] 27)
  simp only [World.size_alloc] at hX hY
  by_cases hs0 : (200 : Int) < x.path.size
  · go_enter Try.func11, Try.ntmps11
    go_upto_region 2 with ((go_at_call 13; refine (alive7 _).mono ?_; rintro e w1 ⟨rfl, hb1⟩; replace hB := hB.below hb1 hB.lt; replace hX := hX.below hb1 hX.lt; replace hY := hY.below hb1 hY.lt; replace hb := hb.trans (hb1.mono hb.size); have b0 := hB.cell 0; have b1 := hB.cell 1; have x1 := hX.cell 1; have x2 := hX.cell 2; have y1 := hY.cell 1; have y2 := hY.cell 2))
    go_wp2_with ((go_at_call 27; refine (heavy7 ⟨nodes, files, NA, nn, nc, FA, fn, fc⟩ none 0 0 SA sn sc ss sd _ (HT.out.tree.keep hb) (HS.out.keep hb)).mono ?_; rintro e w2 ⟨z, rfl, _, hb2⟩; replace hB := hB.below hb2 hB.lt; replace hX := hX.below hb2 hX.lt; replace hY := hY.below hb2 hY.lt; replace hb := hb.trans (hb2.mono hb.size); have b0 := hB.cell 0; have b1 := hB.cell 1; have x1 := hX.cell 1; have x2 := hX.cell 2; have y1 := hY.cell 1; have y2 := hY.cell 2; cases z))
    all_goals go_ret
    all_goals exact ⟨rfl, hb⟩
  by_cases hs1 : (200 : Int) < y.path.size
  · go_enter Try.func11, Try.ntmps11
    go_upto_region 2 with ((go_at_call 13; refine (alive7 _).mono ?_; rintro e w1 ⟨rfl, hb1⟩; replace hB := hB.below hb1 hB.lt; replace hX := hX.below hb1 hX.lt; replace hY := hY.below hb1 hY.lt; replace hb := hb.trans (hb1.mono hb.size); have b0 := hB.cell 0; have b1 := hB.cell 1; have x1 := hX.cell 1; have x2 := hX.cell 2; have y1 := hY.cell 1; have y2 := hY.cell 2))
    go_wp2_with ((go_at_call 27; refine (heavy7 ⟨nodes, files, NA, nn, nc, FA, fn, fc⟩ none 0 0 SA sn sc ss sd _ (HT.out.tree.keep hb) (HS.out.keep hb)).mono ?_; rintro e w2 ⟨z, rfl, _, hb2⟩; replace hB := hB.below hb2 hB.lt; replace hX := hX.below hb2 hX.lt; replace hY := hY.below hb2 hY.lt; replace hb := hb.trans (hb2.mono hb.size); have b0 := hB.cell 0; have b1 := hB.cell 1; have x1 := hX.cell 1; have x2 := hX.cell 2; have y1 := hY.cell 1; have y2 := hY.cell 2; cases z))
    all_goals go_ret
    all_goals exact ⟨rfl, hb⟩
  by_cases hs2 : (200 : Int) < x.dst.size
  · go_enter Try.func11, Try.ntmps11
    go_upto_region 2 with ((go_at_call 13; refine (alive7 _).mono ?_; rintro e w1 ⟨rfl, hb1⟩; replace hB := hB.below hb1 hB.lt; replace hX := hX.below hb1 hX.lt; replace hY := hY.below hb1 hY.lt; replace hb := hb.trans (hb1.mono hb.size); have b0 := hB.cell 0; have b1 := hB.cell 1; have x1 := hX.cell 1; have x2 := hX.cell 2; have y1 := hY.cell 1; have y2 := hY.cell 2))
    go_wp2_with ((go_at_call 27; refine (heavy7 ⟨nodes, files, NA, nn, nc, FA, fn, fc⟩ none 0 0 SA sn sc ss sd _ (HT.out.tree.keep hb) (HS.out.keep hb)).mono ?_; rintro e w2 ⟨z, rfl, _, hb2⟩; replace hB := hB.below hb2 hB.lt; replace hX := hX.below hb2 hX.lt; replace hY := hY.below hb2 hY.lt; replace hb := hb.trans (hb2.mono hb.size); have b0 := hB.cell 0; have b1 := hB.cell 1; have x1 := hX.cell 1; have x2 := hX.cell 2; have y1 := hY.cell 1; have y2 := hY.cell 2; cases z))
    all_goals go_ret
    all_goals exact ⟨rfl, hb⟩
  by_cases hs3 : (200 : Int) < y.dst.size
  · go_enter Try.func11, Try.ntmps11
    go_upto_region 2 with ((go_at_call 13; refine (alive7 _).mono ?_; rintro e w1 ⟨rfl, hb1⟩; replace hB := hB.below hb1 hB.lt; replace hX := hX.below hb1 hX.lt; replace hY := hY.below hb1 hY.lt; replace hb := hb.trans (hb1.mono hb.size); have b0 := hB.cell 0; have b1 := hB.cell 1; have x1 := hX.cell 1; have x2 := hX.cell 2; have y1 := hY.cell 1; have y2 := hY.cell 2))
    go_wp2_with ((go_at_call 27; refine (heavy7 ⟨nodes, files, NA, nn, nc, FA, fn, fc⟩ none 0 0 SA sn sc ss sd _ (HT.out.tree.keep hb) (HS.out.keep hb)).mono ?_; rintro e w2 ⟨z, rfl, _, hb2⟩; replace hB := hB.below hb2 hB.lt; replace hX := hX.below hb2 hX.lt; replace hY := hY.below hb2 hY.lt; replace hb := hb.trans (hb2.mono hb.size); have b0 := hB.cell 0; have b1 := hB.cell 1; have x1 := hX.cell 1; have x2 := hX.cell 2; have y1 := hY.cell 1; have y2 := hY.cell 2; cases z))
    all_goals go_ret
    all_goals exact ⟨rfl, hb⟩
  go_enter Try.func11, Try.ntmps11
  go_upto_region 2 with ((go_at_call 13; refine (alive7 _).mono ?_; rintro e w1 ⟨rfl, hb1⟩; replace hB := hB.below hb1 hB.lt; replace hX := hX.below hb1 hX.lt; replace hY := hY.below hb1 hY.lt; replace hb := hb.trans (hb1.mono hb.size); have b0 := hB.cell 0; have b1 := hB.cell 1; have x1 := hX.cell 1; have x2 := hX.cell 2; have y1 := hY.cell 1; have y2 := hY.cell 2))
  by_cases hn : (250 : Int) < nn
  · go_wp2_with ((go_at_call 27; refine (heavy7 ⟨nodes, files, NA, nn, nc, FA, fn, fc⟩ none 0 0 SA sn sc ss sd _ (HT.out.tree.keep hb) (HS.out.keep hb)).mono ?_; rintro e w2 ⟨z, rfl, _, hb2⟩; replace hB := hB.below hb2 hB.lt; replace hX := hX.below hb2 hX.lt; replace hY := hY.below hb2 hY.lt; replace hb := hb.trans (hb2.mono hb.size); have b0 := hB.cell 0; have b1 := hB.cell 1; have x1 := hX.cell 1; have x2 := hX.cell 2; have y1 := hY.cell 1; have y2 := hY.cell 2; cases z))
    all_goals go_ret
    all_goals exact ⟨rfl, hb⟩
  go_upto_region 6 with ((go_at_call 27; refine (heavy7 ⟨nodes, files, NA, nn, nc, FA, fn, fc⟩ none 0 0 SA sn sc ss sd _ (HT.out.tree.keep hb) (HS.out.keep hb)).mono ?_; rintro e w2 ⟨z, rfl, _, hb2⟩; replace hB := hB.below hb2 hB.lt; replace hX := hX.below hb2 hX.lt; replace hY := hY.below hb2 hY.lt; replace hb := hb.trans (hb2.mono hb.size); have b0 := hB.cell 0; have b1 := hB.cell 1; have x1 := hX.cell 1; have x2 := hX.cell 2; have y1 := hY.cell 1; have y2 := hY.cell 2; cases z))
  rotate_left
  · go_ret
    exact ⟨rfl, hb⟩
  clear hs0 hs1 hs2 hs3 hb1 hb2
  have hn250 : nn ≤ 250 := by omega
  clear hn
  obtain ⟨W0, hW0⟩ : ∃ W, W = w2 := ⟨_, rfl⟩
  rw [← hW0] at hB hX hY hb ⊢
  clear hW0 b0 b1 x1 x2 y1 y2
  have x1 := hX.cell 1; have x2 := hX.cell 2
  go_upto_region 7 with (fail)
  have hP := Blk.new W0 9 #[.string x.path, .string x.dst]
  replace hB := hB.alloc (.cells #[.string x.path, .string x.dst] 9)
  replace hX := hX.alloc (.cells #[.string x.path, .string x.dst] 9)
  replace hY := hY.alloc (.cells #[.string x.path, .string x.dst] 9)
  replace hb := hb.alloc hb.size (.cells #[.string x.path, .string x.dst] 9)
  obtain ⟨gP, hgP⟩ : ∃ g, W0.heap.size = g := ⟨_, rfl⟩
  obtain ⟨W1, hW1⟩ : ∃ W, W0.alloc (.cells #[.string x.path, .string x.dst] 9) = W := ⟨_, rfl⟩
  rw [hW1] at hP hB hX hY hb ⊢
  rw [hgP] at hP ⊢
  clear hW1 hgP x1 x2
  have y1 := hY.cell 1; have y2 := hY.cell 2
  go_upto_region 8 with (fail)
  have hQ := Blk.new W1 9 #[.string y.path, .string y.dst]
  replace hP := hP.alloc (.cells #[.string y.path, .string y.dst] 9)
  replace hB := hB.alloc (.cells #[.string y.path, .string y.dst] 9)
  replace hX := hX.alloc (.cells #[.string y.path, .string y.dst] 9)
  replace hY := hY.alloc (.cells #[.string y.path, .string y.dst] 9)
  replace hb := hb.alloc hb.size (.cells #[.string y.path, .string y.dst] 9)
  obtain ⟨gQ, hgQ⟩ : ∃ g, W1.heap.size = g := ⟨_, rfl⟩
  obtain ⟨W2, hW2⟩ : ∃ W, W1.alloc (.cells #[.string y.path, .string y.dst] 9) = W := ⟨_, rfl⟩
  rw [hW2] at hQ hP hB hX hY hb ⊢
  rw [hgQ] at hQ ⊢
  clear hW2 hgQ y1 y2
  obtain ⟨gX, hgX⟩ : ∃ g, w.heap.size + 1 = g := ⟨_, rfl⟩
  obtain ⟨gY, hgY⟩ : ∃ g, w.heap.size + 1 + 1 = g := ⟨_, rfl⟩
  rw [hgY] at hY ⊢
  rw [hgX] at hX ⊢
  clear hgX hgY
  go_wp2
  go_loopw [12] (fun i wr => ∃ j : Nat, j ≤ 2 ∧ i = .int .i64 j ∧ Hid (∀ a, a < j → ∀ b, b < 2 → Un (two x.path x.dst a) (two y.path y.dst b)) ∧ Blk wr w.heap.size 25 #[.slice NA nn nc, .slice FA fn fc] ∧ Blk wr gX 27 #[.int .i64 x.op, .string x.path, .string x.dst, .int .i64 x.mode, .int .i64 x.ref] ∧ Blk wr gY 27 #[.int .i64 y.op, .string y.path, .string y.dst, .int .i64 y.mode, .int .i64 y.ref] ∧ Blk wr gP 9 #[.string x.path, .string x.dst] ∧ Blk wr gQ 9 #[.string y.path, .string y.dst] ∧ Below w.heap.size w wr) (fun i _ => 2 - (intOf i).toNat)
  case atStart => exact ⟨0, Nat.zero_le _, rfl, Lib.hid (fun a ha => absurd ha (Nat.not_lt_zero _)), hB, hX, hY, hP, hQ, hb⟩
  case round =>
    clear hB hX hY hP hQ hb
    obtain ⟨j, hj, rfl, HU, hB, hX, hY, hP, hQ, hb⟩ := hrel
    by_cases hlt : j < 2
    · have hji : (j : Int) < 2 := by omega
      go_wp2
      go_loopw [13] (fun i wv => ∃ k : Nat, k ≤ 2 ∧ i = .int .i64 k ∧ Hid (∀ b, b < k → Un (two x.path x.dst j) (two y.path y.dst b)) ∧ Blk wv w.heap.size 25 #[.slice NA nn nc, .slice FA fn fc] ∧ Blk wv gX 27 #[.int .i64 x.op, .string x.path, .string x.dst, .int .i64 x.mode, .int .i64 x.ref] ∧ Blk wv gY 27 #[.int .i64 y.op, .string y.path, .string y.dst, .int .i64 y.mode, .int .i64 y.ref] ∧ Blk wv gP 9 #[.string x.path, .string x.dst] ∧ Blk wv gQ 9 #[.string y.path, .string y.dst] ∧ Below w.heap.size w wv) (fun i _ => 2 - (intOf i).toNat)
      case atStart => exact ⟨0, Nat.zero_le _, rfl, Lib.hid (fun a ha => absurd ha (Nat.not_lt_zero _)), hB, hX, hY, hP, hQ, hb⟩
      case round =>
        clear hB hX hY hP hQ hb
        obtain ⟨k, hk, rfl, HV, hB, hX, hY, hP, hQ, hb⟩ := hrel
        by_cases hlt2 : k < 2
        · have hki : (k : Int) < 2 := by omega
          have p0 := two_cell hP hlt
          have q0 := two_cell hQ hlt2
          obtain ⟨a, ha⟩ : ∃ a, two x.path x.dst j = a := ⟨_, rfl⟩
          obtain ⟨b, hb'⟩ : ∃ b, two y.path y.dst k = b := ⟨_, rfl⟩
          rw [ha] at p0
          rw [hb'] at q0
          have HA := Lib.hid ha; have HBB := Lib.hid hb'; clear ha hb'
          have hPl := hP.lt
          have hQl := hQ.lt
          by_cases ea : a.data.toList = []
          · obtain ⟨a1, a2⟩ := empty_b ea
            clear ea
            go_upto_region 14 with (fail)
            refine wp_region_ordB (none) [(0, true), (1, true), (2, true), (3, true), (4, true), (5, true), (6, true), (7, true), (8, true), (9, true), (10, true), (11, true), (12, true), (13, true), (14, true), (15, true), (16, true), (17, true), (18, true), (19, true), (20, true), (21, true), (22, true), (23, true), (24, true)] (by kernel_rfl) (by kernel_rfl) fun hG0 => ?_
            repeat (first
              | (refine ord_skipB rfl (by rfl) ?_; simp only [Act.put, List.setIfInBounds_toArray, List.set_cons_zero, List.set_cons_succ])
              | (refine ord_qE rfl (by rfl) ?_; apply Exists.intro; refine ⟨fun w' hc' => ?_, ?_⟩; (focus (go_simp; (try go_bits); (try simp only [↓IntWalk.iteOmega]); with_reducible rfl)); simp only [Act.put, List.setIfInBounds_toArray, List.set_cons_zero, List.set_cons_succ]))
            refine ord_end ?_
            go_wp2
            go_ret
            exact ⟨rfl, hb.trans (below_grown hG0 hb.size (fun g e => by cases e))⟩
          · obtain ⟨a1, a2, a3⟩ := nonempty_b ea
            by_cases eb : b.data.toList = []
            · obtain ⟨b1, b2⟩ := empty_b eb
              clear ea eb
              go_upto_region 14 with (fail)
              refine wp_region_ordB (none) [(0, true), (1, true), (2, true), (3, true), (4, true), (5, true), (6, true), (7, true), (8, true), (9, true), (10, true), (11, true), (12, true), (13, true), (14, true), (15, true), (16, true), (17, true), (18, true), (19, true), (20, true), (21, true), (22, true), (23, true), (24, true)] (by kernel_rfl) (by kernel_rfl) fun hG0 => ?_
              repeat (first
                | (refine ord_skipB rfl (by rfl) ?_; simp only [Act.put, List.setIfInBounds_toArray, List.set_cons_zero, List.set_cons_succ])
                | (refine ord_qE rfl (by rfl) ?_; apply Exists.intro; refine ⟨fun w' hc' => ?_, ?_⟩; (focus (go_simp; (try go_bits); (try simp only [↓IntWalk.iteOmega]); with_reducible rfl)); simp only [Act.put, List.setIfInBounds_toArray, List.set_cons_zero, List.set_cons_succ]))
              refine ord_end ?_
              go_wp2
              go_ret
              exact ⟨rfl, hb.trans (below_grown hG0 hb.size (fun g e => by cases e))⟩
            · obtain ⟨b1, b2, b3⟩ := nonempty_b eb
              have sa : 0 < a.size := by
                have : a.data.toList.length ≠ 0 := fun e => ea (List.eq_nil_of_length_eq_zero e)
                rw [dlen] at this; omega
              have sb : 0 < b.size := by
                have : b.data.toList.length ≠ 0 := fun e => eb (List.eq_nil_of_length_eq_zero e)
                rw [dlen] at this; omega
              clear ea eb
              have hUn := head_ne sa sb
              obtain ⟨ca, hca⟩ : ∃ c, a[0]'sa = c := ⟨_, rfl⟩
              obtain ⟨cb, hcb⟩ : ∃ c, b[0]'sb = c := ⟨_, rfl⟩
              rw [hca, hcb] at hUn
              have HUN := Lib.hid hUn; clear hUn
              by_cases hcc : (ca.toNat : Int) = cb.toNat
              · have hcc' : ((ca.toNat : Int) == cb.toNat) = true := by rw [hcc]; exact beq_self_eq_true _
                clear hcc
                go_upto_region 14 with (fail)
                refine wp_region_ordB (none) [(0, true), (1, true), (2, true), (3, true), (4, true), (5, true), (6, true), (7, true), (8, true), (9, true), (10, true), (11, true), (12, true), (13, true), (14, true), (15, true), (16, true), (17, true), (18, true), (19, true), (20, true), (21, true), (22, true), (23, true), (24, true)] (by kernel_rfl) (by kernel_rfl) fun hG0 => ?_
                repeat (first
                  | (refine ord_skipB rfl (by rfl) ?_; simp only [Act.put, List.setIfInBounds_toArray, List.set_cons_zero, List.set_cons_succ])
                  | (refine ord_qE rfl (by rfl) ?_; apply Exists.intro; refine ⟨fun w' hc' => ?_, ?_⟩; (focus (go_simp; (try go_bits); (try simp only [↓IntWalk.iteOmega]); with_reducible rfl)); simp only [Act.put, List.setIfInBounds_toArray, List.set_cons_zero, List.set_cons_succ]))
                refine ord_end ?_
                go_wp2
                go_ret
                exact ⟨rfl, hb.trans (below_grown hG0 hb.size (fun g e => by cases e))⟩
              · have hcc' : ((ca.toNat : Int) == cb.toNat) = false := beq_eq_false_iff_ne.2 hcc
                have HUU := Lib.hid (HUN.out hcc)
                clear hcc
                go_upto_region 14 with (fail)
                refine wp_region_ordB (none) [(0, true), (1, true), (2, true), (3, true), (4, true), (5, true), (6, true), (7, true), (8, true), (9, true), (10, true), (11, true), (12, true), (13, true), (14, true), (15, true), (16, true), (17, true), (18, true), (19, true), (20, true), (21, true), (22, true), (23, true), (24, true)] (by kernel_rfl) (by kernel_rfl) fun hG0 => ?_
                repeat (first
                  | (refine ord_skipB rfl (by rfl) ?_; simp only [Act.put, List.setIfInBounds_toArray, List.set_cons_zero, List.set_cons_succ])
                  | (refine ord_qE rfl (by rfl) ?_; apply Exists.intro; refine ⟨fun w' hc' => ?_, ?_⟩; (focus (go_simp; (try go_bits); (try simp only [↓IntWalk.iteOmega]); with_reducible rfl)); simp only [Act.put, List.setIfInBounds_toArray, List.set_cons_zero, List.set_cons_succ]))
                refine ord_end ?_
                replace hB := hB.grown hG0 (by simp)
                replace hX := hX.grown hG0 (by simp)
                replace hY := hY.grown hG0 (by simp)
                replace hP := hP.grown hG0 (by simp)
                replace hQ := hQ.grown hG0 (by simp)
                replace hb := hb.trans (below_grown hG0 hb.size (fun g e => by cases e))
                clear hG0 p0 q0
                go_wp2
                go_roundw
                case rel =>
                  refine ⟨k + 1, by omega, by go_num, Lib.hid (fun b' hb' => ?_), hB, hX, hY, hP, hQ, hb⟩
                  by_cases e : b' = k
                  · rw [e, HA.out, HBB.out]; exact HUU.out
                  · exact HV.out b' (by omega)
                case measure => simp [intOf]; omega
        · obtain rfl : k = 2 := by omega
          go_wp2
          go_roundw
          case rel =>
            refine ⟨j + 1, by omega, by go_num, Lib.hid (fun a' ha' => ?_), hB, hX, hY, hP, hQ, hb⟩
            by_cases e : a' = j
            · rw [e]; exact HV.out
            · exact HU.out a' (by omega)
          case measure => simp [intOf]; omega
    · obtain rfl : j = 2 := by omega
      have hfar : ∀ a b, x.at a → y.at b → headB a ≠ headB b := fun a b ha hb => by
        obtain ⟨i, hi, rfl⟩ := two_all ha
        obtain ⟨k, hk, rfl⟩ := two_all hb
        exact HU.out i hi k hk
      have hlaw := HSW.out hn250 hfar
      clear hfar HSW HU hP hQ
      obtain ⟨RX, hRX⟩ : ∃ R, runR ⟨nodes, files, NA, nn, nc, FA, fn, fc⟩ ds [x, y] sd = R := ⟨_, rfl⟩
      obtain ⟨RY, hRY⟩ : ∃ R, runR ⟨nodes, files, NA, nn, nc, FA, fn, fc⟩ ds [y, x] sd = R := ⟨_, rfl⟩
      have hox := HOX.out; have hoy := HOY.out
      rw [hRX] at hlaw hox
      rw [hRY] at hlaw hoy
      have HRX := Lib.hid hRX; have HRY := Lib.hid hRY; have HOX2 := Lib.hid hox; have HOY2 := Lib.hid hoy; have HLW := Lib.hid hlaw
      clear hRX hRY hox hoy hlaw HOX HOY
      obtain ⟨M1, r1, E1⟩ := RX
      obtain ⟨M2, r2, E2⟩ := RY
      obtain ⟨V0, hV0⟩ : ∃ W, W = wr := ⟨_, rfl⟩
      rw [← hV0] at hB hX hY hb ⊢
      clear hV0
      have two_sl : ∀ (W : World) (g : Nat) (a b : Cmd), Blk W g 27 #[.int .i64 a.op, .string a.path, .string a.dst, .int .i64 a.mode, .int .i64 a.ref, .int .i64 b.op, .string b.path, .string b.dst, .int .i64 b.mode, .int .i64 b.ref] → Sl W W.heap.size 5 (some ⟨g, 0, none⟩) 2 ([a, b].flatMap Cmd.list) := fun W g a b h => by
        refine ⟨rfl, fun _ => ⟨g, 0, rfl, h.lt, fun i v hi => ?_⟩⟩
        rw [Nat.zero_add, h.cell i]
        have e : (#[.int .i64 a.op, .string a.path, .string a.dst, .int .i64 a.mode, .int .i64 a.ref, .int .i64 b.op, .string b.path, .string b.dst, .int .i64 b.mode, .int .i64 b.ref] : Array Value).toList = [a, b].flatMap Cmd.list := rfl
        rw [← e] at hi
        simpa using hi
      have b0 := hB.cell 0; have b1 := hB.cell 1; have x0 := hX.cell 0; have x1 := hX.cell 1; have x2 := hX.cell 2; have x3 := hX.cell 3; have x4 := hX.cell 4; have y0 := hY.cell 0; have y1 := hY.cell 1; have y2 := hY.cell 2; have y3 := hY.cell 3; have y4 := hY.cell 4
      have hL := Blk.new V0 27 #[.int .i64 x.op, .string x.path, .string x.dst, .int .i64 x.mode, .int .i64 x.ref, .int .i64 y.op, .string y.path, .string y.dst, .int .i64 y.mode, .int .i64 y.ref]
      have hbL := hb.alloc hb.size (.cells #[.int .i64 x.op, .string x.path, .string x.dst, .int .i64 x.mode, .int .i64 x.ref, .int .i64 y.op, .string y.path, .string y.dst, .int .i64 y.mode, .int .i64 y.ref] 27)
      have c1 := Run_any ⟨nodes, files, NA, nn, nc, FA, fn, fc⟩ ds [x, y] (fun c hc => by rcases List.mem_cons.1 hc with rfl | hc; exact HCx.out; rw [List.mem_singleton.1 hc]; exact HCy.out) _ 2 2 SA sn sc ss sd _ (HT.out.keep hbL) (two_sl _ _ x y hL) rfl (by omega) (HS.out.keep hbL)
      rw [HRX.out] at c1
      unfold TV.val at c1
      have C1 := Lib.hid c1
      clear c1
      go_upto_region 17 with (go_at_call 34; refine C1.out.mono ?_; rintro e w3 ⟨u, S, rfl, hT3, hb3⟩)
      clear C1 b0 b1 x0 x1 x2 x3 x4 y0 y1 y2 y3 y4 hL
      replace hB := ((hB.alloc (.cells #[.int .i64 x.op, .string x.path, .string x.dst, .int .i64 x.mode, .int .i64 x.ref, .int .i64 y.op, .string y.path, .string y.dst, .int .i64 y.mode, .int .i64 y.ref] 27)).below hb3 (hB.alloc _).lt).alloc (.cells #[.slice u.NA u.nn u.nc, .slice u.FA u.fn u.fc] 25)
      replace hX := ((hX.alloc (.cells #[.int .i64 x.op, .string x.path, .string x.dst, .int .i64 x.mode, .int .i64 x.ref, .int .i64 y.op, .string y.path, .string y.dst, .int .i64 y.mode, .int .i64 y.ref] 27)).below hb3 (hX.alloc _).lt).alloc (.cells #[.slice u.NA u.nn u.nc, .slice u.FA u.fn u.fc] 25)
      replace hY := ((hY.alloc (.cells #[.int .i64 x.op, .string x.path, .string x.dst, .int .i64 x.mode, .int .i64 x.ref, .int .i64 y.op, .string y.path, .string y.dst, .int .i64 y.mode, .int .i64 y.ref] 27)).below hb3 (hY.alloc _).lt).alloc (.cells #[.slice u.NA u.nn u.nc, .slice u.FA u.fn u.fc] 25)
      replace hb := (hbL.trans (hb3.mono hbL.size)).alloc ((hbL.trans (hb3.mono hbL.size)).size) (.cells #[.slice u.NA u.nn u.nc, .slice u.FA u.fn u.fc] 25)
      have hU := Blk.new w3 25 #[.slice u.NA u.nn u.nc, .slice u.FA u.fn u.fc]
      have hTu := hT3.tree.keep ((Below.refl w3.heap.size w3).alloc (Nat.le_refl _) (.cells #[.slice u.NA u.nn u.nc, .slice u.FA u.fn u.fc] 25))
      have HTell := Lib.hid hT3.tells
      obtain ⟨es, hes⟩ : ∃ es, dsOf (M1, r1, E1).1 S = es := ⟨_, rfl⟩
      rw [hes] at HTell hTu
      obtain ⟨gU, hgU⟩ : ∃ g, w3.heap.size = g := ⟨_, rfl⟩
      obtain ⟨V3, hV3⟩ : ∃ W, w3.alloc (.cells #[.slice u.NA u.nn u.nc, .slice u.FA u.fn u.fc] 25) = W := ⟨_, rfl⟩
      rw [hV3] at hB hX hY hb hU hTu ⊢
      rw [hgU] at hU ⊢
      have HTu := Lib.hid hTu
      clear hes hgU hV3 hT3 hb3 hbL hTu
      have b0 := hB.cell 0; have b1 := hB.cell 1; have x0 := hX.cell 0; have x1 := hX.cell 1; have x2 := hX.cell 2; have x3 := hX.cell 3; have x4 := hX.cell 4; have y0 := hY.cell 0; have y1 := hY.cell 1; have y2 := hY.cell 2; have y3 := hY.cell 3; have y4 := hY.cell 4
      have hL := Blk.new V3 27 #[.int .i64 y.op, .string y.path, .string y.dst, .int .i64 y.mode, .int .i64 y.ref, .int .i64 x.op, .string x.path, .string x.dst, .int .i64 x.mode, .int .i64 x.ref]
      have hbL := hb.alloc hb.size (.cells #[.int .i64 y.op, .string y.path, .string y.dst, .int .i64 y.mode, .int .i64 y.ref, .int .i64 x.op, .string x.path, .string x.dst, .int .i64 x.mode, .int .i64 x.ref] 27)
      have hbV := (Below.refl V3.heap.size V3).alloc (Nat.le_refl _) (.cells #[.int .i64 y.op, .string y.path, .string y.dst, .int .i64 y.mode, .int .i64 y.ref, .int .i64 x.op, .string x.path, .string x.dst, .int .i64 x.mode, .int .i64 x.ref] 27)
      have c2 := Run_any ⟨nodes, files, NA, nn, nc, FA, fn, fc⟩ ds [y, x] (fun c hc => by rcases List.mem_cons.1 hc with rfl | hc; exact HCy.out; rw [List.mem_singleton.1 hc]; exact HCx.out) _ 2 2 SA sn sc ss sd _ (HT.out.keep hbL) (two_sl _ _ y x hL) rfl (by omega) (HS.out.keep hbL)
      rw [HRY.out] at c2
      unfold TV.val at c2
      have C2 := Lib.hid c2
      clear c2
      go_upto_region 18 with (go_at_call 34; refine C2.out.mono ?_; rintro e w4 ⟨v, S2, rfl, hT4, hb4⟩)
      clear C2 b0 b1 x0 x1 x2 x3 x4 y0 y1 y2 y3 y4 hL
      have hbV2 := hbV.trans (hb4.mono hbV.size)
      replace hbV2 := hbV2.alloc hbV2.size (.cells #[.slice v.NA v.nn v.nc, .slice v.FA v.fn v.fc] 25)
      have hV := Blk.new w4 25 #[.slice v.NA v.nn v.nc, .slice v.FA v.fn v.fc]
      have hTv := hT4.tree.keep ((Below.refl w4.heap.size w4).alloc (Nat.le_refl _) (.cells #[.slice v.NA v.nn v.nc, .slice v.FA v.fn v.fc] 25))
      have HTell2 := Lib.hid hT4.tells
      obtain ⟨fs, hfs⟩ : ∃ fs, dsOf (M2, r2, E2).1 S2 = fs := ⟨_, rfl⟩
      rw [hfs] at HTell2 hTv
      obtain ⟨gV, hgV⟩ : ∃ g, w4.heap.size = g := ⟨_, rfl⟩
      obtain ⟨V4, hV4⟩ : ∃ W, w4.alloc (.cells #[.slice v.NA v.nn v.nc, .slice v.FA v.fn v.fc] 25) = W := ⟨_, rfl⟩
      rw [hV4] at hbV2 hV hTv ⊢
      rw [hgV] at hV ⊢
      have HTv := Lib.hid hTv
      have HTu4 := Lib.hid (HTu.out.keep hbV2)
      replace hX := hX.below hbV2 hX.lt
      replace hY := hY.below hbV2 hY.lt
      replace hU := hU.below hbV2 hU.lt
      replace hb := hb.trans (hbV2.mono hb.size)
      clear hfs hgV hV4 hT4 hb4 hbV hbL hTv HTu hB hbV2
      have x0 := hX.cell 0; have y0 := hY.cell 0; have u0 := hU.cell 0; have u1 := hU.cell 1; have v0 := hV.cell 0; have v1 := hV.cell 1
      have hw := HLW.out
      by_cases h0 : E1 = 0
      · have h02 := hw.1.1 h0
        have HW2 := Lib.hid (hw.2 h0)
        clear hw
        subst h0 h02
        by_cases x7 : x.op = 7
        · have x7b : (x.op == 7) = true := by rw [x7]; rfl
          have X7 := Lib.hid x7; clear x7
          go_wp2_with (go_at_call 20; refine (num7 _ _).mono ?_; rintro e w7 ⟨rfl, hw⟩; rw [hw]; clear hw)
          go_ret
          exact ⟨rfl, hb⟩
        by_cases y7 : y.op = 7
        · have x7b : (x.op == 7) = false := beq_eq_false_iff_ne.2 x7
          have y7b : (y.op == 7) = true := by rw [y7]; rfl
          have X7 := Lib.hid x7; have Y7 := Lib.hid y7; clear x7 y7
          go_wp2_with (go_at_call 20; refine (num7 _ _).mono ?_; rintro e w7 ⟨rfl, hw⟩; rw [hw]; clear hw)
          go_ret
          exact ⟨rfl, hb⟩
        have x7b : (x.op == 7) = false := beq_eq_false_iff_ne.2 x7
        have y7b : (y.op == 7) = false := beq_eq_false_iff_ne.2 y7
        by_cases x8 : x.op = 8
        · have x8b : (x.op == 8) = true := by rw [x8]; rfl
          by_cases y8 : y.op = 8
          · have y8b : (y.op == 8) = true := by rw [y8]; rfl
            have X7 := Lib.hid x7; have Y7 := Lib.hid y7; have X8 := Lib.hid x8; have Y8 := Lib.hid y8; clear x7 y7 x8 y8
            go_wp2_with (go_at_call 20; refine (num7 _ _).mono ?_; rintro e w7 ⟨rfl, hw⟩; rw [hw]; clear hw)
            go_ret
            exact ⟨rfl, hb⟩
          · have y8b : (y.op == 8) = false := beq_eq_false_iff_ne.2 y8
            have HXX := Lib.hid (told_exactB HOX2.out HOY2.out (HW2.out ⟨x7, y7⟩ (fun h => y8 h.2)) HTell.out HTell2.out)
            have X7 := Lib.hid x7; have Y7 := Lib.hid y7; have X8 := Lib.hid x8; have Y8 := Lib.hid y8; clear x7 y7 x8 y8
            go_wp2_with (first | (go_at_call 20; refine (num7 _ _).mono ?_; rintro e w7 ⟨rfl, hw⟩; rw [hw]; clear hw) | (go_at_call 21; refine (exact_any u v es fs _ HTu4.out HTv.out).mono ?_; rintro e w8 ⟨rfl, hb8⟩; rw [HXX.out]; replace hb := hb.trans (hb8.mono hb.size)))
            go_ret
            exact ⟨rfl, hb⟩
        · have x8b : (x.op == 8) = false := beq_eq_false_iff_ne.2 x8
          have HXX := Lib.hid (told_exactB HOX2.out HOY2.out (HW2.out ⟨x7, y7⟩ (fun h => x8 h.1)) HTell.out HTell2.out)
          have X7 := Lib.hid x7; have Y7 := Lib.hid y7; have X8 := Lib.hid x8; clear x7 y7 x8
          go_wp2_with (first | (go_at_call 20; refine (num7 _ _).mono ?_; rintro e w7 ⟨rfl, hw⟩; rw [hw]; clear hw) | (go_at_call 21; refine (exact_any u v es fs _ HTu4.out HTv.out).mono ?_; rintro e w8 ⟨rfl, hb8⟩; rw [HXX.out]; replace hb := hb.trans (hb8.mono hb.size)))
          go_ret
          exact ⟨rfl, hb⟩
      · have h2 : ¬ E2 = 0 := fun e => h0 (hw.1.2 e)
        have h0b := bne_iff_ne.2 h0
        have h2b := bne_iff_ne.2 h2
        have H0 := Lib.hid h0; have H2 := Lib.hid h2
        clear hw h0 h2
        go_wp2_with (go_at_call 20; refine (num7 _ _).mono ?_; rintro e w7 ⟨rfl, hw⟩; rw [hw]; clear hw)
        go_ret
        exact ⟨rfl, hb⟩

set_option maxRecDepth 100000 in
theorem lifted (os : Os) (started : os.Started) (H : Type) (enc : TypeId × Value → H) :
    ReturnsInHanded {} Try.checked os 11 .any (Rows.modelSwapSpec.pre6 enc Try.prog Try.f11 Rows.modelSwapRow.domain false) (Rows.modelSwapSpec.post enc Try.prog Try.f11 false true false false) := by
  refine returnsInHanded_of_change (C := Try.checked) own started (by kernel_rfl) Try.func11
    (ChangeSpec.witness6 (enc := enc) (C := Try.checked) false ⟨#[], #[.agg #[.slice none 0 0, .slice none 0 0], .agg #[.int .i64 0, .string ByteArray.empty, .string ByteArray.empty, .int .i64 0, .int .i64 0], .agg #[.int .i64 0, .string ByteArray.empty, .string ByteArray.empty, .int .i64 0, .int .i64 0], .slice none 0 0], []⟩ 8 (by kernel_rfl) (by kernel_rfl) (by kernel_rfl) (by kernel_rfl)) ?_
  intro W base args ds gs before hval0 hW hcnd _
  have hval : ∀ (j : Nat) t v, Try.f11.params[j]? = some t → args[j]? = some v → Value.okWide Try.prog W .any base t v := hval0
  have hW' := hW
  obtain ⟨p, q, hA0, hV, rfl, hfz, hnd⟩ := hW
  have hA : DataW.TrodAll enc Try.prog W 0 (fun _ => true) true Try.f11.params.toList args.toList ds p := hA0
  rw [Try.params11] at hA hval
  obtain ⟨v0, vs0, d0, ds0, p0, q0, hargs, rfl, rfl, h0, r0⟩ := trodAll_cons hA
  obtain ⟨v1, vs1, d1, ds1, p1, q1, rfl, rfl, rfl, h1, r1⟩ := trodAll_cons r0
  obtain ⟨v2, vs2, d2, ds2, p2, q2, rfl, rfl, rfl, h2, r2⟩ := trodAll_cons r1
  obtain ⟨v3, vs3, d3, ds3, p3, q3, rfl, rfl, rfl, h3, r3⟩ := trodAll_cons r2
  obtain ⟨rfl, rfl, rfl⟩ := trodAll_nil r3
  obtain rfl : args = #[v0, v1, v2, v3] := by cases args; simp_all
  obtain ⟨rfl, rfl⟩ := trodVars_none hV
  have k0 := h0
  have lt0 : ∀ x ∈ p0, x.block < W.heap.size := by obtain ⟨m, hm⟩ := k0; exact DataW.trod_lt m _ _ _ hm
  obtain ⟨t0, ds0', rfl, hT0⟩ := open_tree (hval 0 25 v0 rfl rfl) h0 lt0
  have k1 := h1
  have lt1 : ∀ x ∈ p1, x.block < W.heap.size := by obtain ⟨m, hm⟩ := k1; exact DataW.trod_lt m _ _ _ hm
  obtain ⟨c1, rfl, ho1⟩ := open_cmd (hval 1 27 v1 rfl rfl) h1
  have k2 := h2
  have lt2 : ∀ x ∈ p2, x.block < W.heap.size := by obtain ⟨m, hm⟩ := k2; exact DataW.trod_lt m _ _ _ hm
  obtain ⟨c2, rfl, ho2⟩ := open_cmd (hval 2 27 v2 rfl rfl) h2
  obtain ⟨a3, len3, cap3, rfl⟩ := okWide_slice Try.underlying28 (hval 3 28 v3 rfl rfl)
  have k3 := h3
  have lt3 : ∀ x ∈ p3, x.block < W.heap.size := by obtain ⟨m, hm⟩ := k3; exact DataW.trod_lt m _ _ _ hm
  obtain ⟨ss3, sd3, hK3⟩ : ∃ (ss : List SC) (sd : List ByteArray), StockAt W a3 len3 ss sd := by
    obtain ⟨fuel, hf⟩ := h3
    exact open_stock hf lt3
  clear hA0 hval0
  refine (walk t0 ds0' c1 c2 a3 len3 cap3 ss3 sd3 W hT0 ho1 ho2 hK3).mono fun e W' ⟨he, bel⟩ => ?_
  subst he
  exact ⟨_, rfl, _, _, _, [], _, [], hW', trodAll_mk1 (shut_bool Try.underlying4 _), (trodAll_cons_mk (Below.trod laidOut (by kernel_rfl) (of_decide_eq_true (by kernel_rfl)) k0 bel lt0) (trodAll_cons_mk (Below.trod laidOut (by kernel_rfl) (of_decide_eq_true (by kernel_rfl)) k1 bel lt1) (trodAll_cons_mk (Below.trod laidOut (by kernel_rfl) (of_decide_eq_true (by kernel_rfl)) k2 bel lt2) (trodAll_cons_mk (Below.trod laidOut (by kernel_rfl) (of_decide_eq_true (by kernel_rfl)) k3 bel lt3) trodAll_mk0)))), rfl, bel.frame _, fun h => by cases h⟩

theorem over : Rows.modelSwapRow.holds Try.pinned (OpenSpec.ofChange Rows.modelSwapSpec) :=
  OpenClaim.holds_of_wide 11 Try.f11 rfl rfl rfl rfl rfl rfl rfl ⟨rfl, rfl, rfl, rfl, rfl⟩ rfl rfl rfl rfl rfl (by kernel_rfl) Try.func11 (by kernel_rfl)
    (of_decide_eq_true (by kernel_rfl)) (by unfold Func.isWrapper; first | (rw [if_pos (by decide +kernel)]; kernel_rfl) | (rw [if_neg (by decide +kernel)]; exact ⟨rfl, rfl⟩))
    (fun os started H enc _ => lifted os started H enc)

theorem proved : Rows.ModelSwapSaid := over
#print axioms proved
end Go.Proofs.Ythmeffpickejkaa.modelSwapDone
