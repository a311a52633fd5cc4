/- pack.reader.ins at a record of a sync. -/
import Derived.Test.YtgeiegjpnnbloaaDoorReader
import Derived.Laws.BytesString
namespace Go.Proofs.YtgeiegjpnnbloaaDoor
open Go.ChangeShapes Go.WideShapes Go.ChangeAt Go.ChangeMaps Go.RowKit Go.Deep

theorem conv_zero (p : Option Addr) (c : Nat) (w : World) : (convert 22 9 (.slice p 0 c)).run Tryd.prog w = .ok (.string ByteArray.empty) w := by
  rw [run_convert_bytes_string w _ _ _ _ 0 c Tryd.underlying22 Tryd.underlying5 Tryd.underlying9]
  cases p <;> simp [Conv.bytesToString, loadCells]
  all_goals rfl
theorem RdAt.other {w w' : World} {g B n c q : Nat} {A : Option Addr} {l : List UInt8} (h : RdAt w g B A n c l) (hg : w.grownBy w' (some q)) (hq : g ≠ q) (hB : B ≤ q) (hgl : g < w.heap.size) : RdAt w' g B A n c l :=
  ⟨h.blk.keep (hg.block g hgl (fun e => hq (by injection e))), h.sl.below (below_grown (B := B) hg (by have := h.Bg; omega) (fun r e => by injection e with e; omega)) (Nat.le_refl _), h.len, h.nc, h.cm, h.Bg⟩
theorem RdAt.none {w w' : World} {g B n c : Nat} {A : Option Addr} {l : List UInt8} (h : RdAt w g B A n c l) (hg : w.grownBy w' none) : RdAt w' g B A n c l :=
  ⟨h.blk.keep (hg.block g h.blk.lt (fun e => by cases e)), h.sl.below (below_grown (B := B) hg (by have := h.Bg; have := h.blk.lt; omega) (fun r e => by cases e)) (Nat.le_refl _), h.len, h.nc, h.cm, h.Bg⟩
theorem number_v (g B : Nat) (A : Option Addr) (n c : Nat) (l : List UInt8) (k : Nat) (w : World) (h : RdAt w g B A n c l) (hk : k ≤ n) (hk4 : k ≤ 4) {v n' c' : Nat} {l' : List UInt8} (hv : deN (l.take k) = v) (hl : l.drop k = l') (hn : n - k = n') (hc : c - k = c') :
    Calls Tryd.prog 22 #[.pointer (some ⟨g, 0, none⟩), .int .i64 k] w fun e w' => e = .returned (.int .i64 (v : Nat)) ∧ (∃ A', RdAt w' g B A' n' c' l') ∧ w.grownBy w' (some g) := by
  subst hv hl hn hc
  refine (number_ok g B A n c l k w h hk hk4).mono ?_
  rintro e w' ⟨he, hr, hg⟩
  exact ⟨he, ⟨_, hr⟩, hg⟩
theorem next_v (g B : Nat) (A : Option Addr) (n c : Nat) (l : List UInt8) (k : Nat) (w : World) (h : RdAt w g B A n c l) (hk : k ≤ n) {n' c' : Nat} {x l' : List UInt8} (hx : l.take k = x) (hl : l.drop k = l') (hn : n - k = n') (hc : c - k = c') :
    Calls Tryd.prog 23 #[.pointer (some ⟨g, 0, none⟩), .int .i64 k] w fun e w' => e = .returned (.slice A k k) ∧ Sl w' B 1 A k (x.flatMap u8L) ∧ (∃ A', RdAt w' g B A' n' c' l') ∧ w.grownBy w' (some g) := by
  subst hx hl hn hc
  refine (next_ok g B A n c l k w h hk).mono ?_
  rintro e w' ⟨he, hr, hg⟩
  have := (h.sl.first hk).grown hg h.Bg h.blk.lt
  rw [Nat.mul_one, u8_take] at this
  exact ⟨he, this, ⟨_, hr⟩, hg⟩
theorem rec_sync : recL syncI = 7 :: 9 :: 0 :: 0 :: 0 :: 0 :: 0 :: 0 :: leB (crcF (bodyL syncI)).toNat 4 := rfl
set_option maxRecDepth 100000 in
set_option maxHeartbeats 4000000 in
theorem ins_sync (g B : Nat) (A : Option Addr) (n c : Nat) (rest : List UInt8) (w : World) (h : RdAt w g B A n c (recL syncI ++ rest)) :
    Calls Tryd.prog 24 #[.pointer (some ⟨g, 0, none⟩)] w fun e w' => e = .returned (.agg syncI.cells) ∧ (∃ A', RdAt w' g B A' (n - 12) (c - 12) rest) ∧ w.grownBy w' (some g) := by
  have hn12 : 12 ≤ n := by
    have := h.len
    rw [List.length_append, recL_len] at this
    simp only [syncI] at this
    omega
  have h4 : (leB (crcF (bodyL syncI)).toNat 4).length = 4 := leB_len _ _
  have kz := conv_zero
  obtain ⟨R4, hR4⟩ : ∃ l, leB (crcF (bodyL syncI)).toNat 4 = l := ⟨_, rfl⟩
  rw [rec_sync, hR4] at h
  rw [hR4] at h4
  have hgl := h.blk.lt
  obtain ⟨W, hW⟩ : ∃ W, W = w.alloc (.cells #[.int .i64 0, .string ⟨#[]⟩, .string ⟨#[]⟩, .int .i64 0, .int .i64 0] 42) := ⟨_, rfl⟩
  have hg0 : w.grownBy W (some g) := by rw [hW]; exact World.grownBy_alloc w _ _
  have h0 : RdAt W g B A n c (7 :: 9 :: 0 :: 0 :: 0 :: 0 :: 0 :: 0 :: R4 ++ rest) := by rw [hW]; exact h.none (World.grownBy_alloc w _ none)
  have hRB : Blk W w.heap.size 42 #[.int .i64 0, .string ⟨#[]⟩, .string ⟨#[]⟩, .int .i64 0, .int .i64 0] := by rw [hW]; exact Blk.new w _ _
  have HW := Lib.hid hW
  clear hW h hR4
  have hWs : W.heap.size = w.heap.size + 1 := by rw [HW.out, World.size_alloc]
  go_enter Tryd.func24, Tryd.ntmps24
  go_upto_region 1 with (fail)
  rw [← HW.out]
  go_upto_region 2 with (first | (go_at_call 22; refine (number_v g B A n c _ 1 _ h0 (by omega) (by omega) (v := 7) rfl rfl rfl rfl).mono ?_; rintro e w1 ⟨rfl, ⟨A1, h1⟩, hg1⟩) | (go_at_call 23; refine (next_v g B A1 _ _ _ 7 _ h1 (by omega) (x := [9, 0, 0, 0, 0, 0, 0]) rfl rfl rfl rfl).mono ?_; rintro e w2 ⟨rfl, hs2, ⟨A2, h2⟩, hg2⟩))
  have hg12 : W.grownBy w2 (some g) := grown_trans hg1 hg2
  obtain ⟨W3, hW3⟩ : ∃ W3, W3 = w2.alloc (.cells #[.slice A1 7 7, .bool false] 64) := ⟨_, rfl⟩
  have hq : W.heap.size ≤ w2.heap.size := hg12.size
  obtain ⟨q, hqq⟩ : ∃ q, w2.heap.size = q := ⟨_, rfl⟩
  have hgq : g < q := by omega
  have hWq : W.heap.size ≤ q := by omega
  have hsB := h2.Bg
  have hq3 : RdAt W3 q B A1 7 7 [9, 0, 0, 0, 0, 0, 0] := by
    rw [hW3]
    exact ⟨by rw [← hqq]; exact Blk.new w2 _ _, hs2.below ((Below.refl _ _).alloc (by omega) _) (Nat.le_refl _), rfl, Nat.le_refl _, by unfold maxLen; omega, by omega⟩
  have h3 : RdAt W3 g B A2 (n - 1 - 7) (c - 1 - 7) (R4 ++ rest) := by rw [hW3]; exact h2.none (World.grownBy_alloc w2 _ none)
  have hg3 : W.grownBy W3 (some g) := by rw [hW3]; exact grown_trans hg12 (World.grownBy_alloc w2 _ _)
  have hW3s : W3.heap.size = q + 1 := by rw [hW3, World.size_alloc, hqq]
  rw [← hW3, hqq]
  have hne : q ≠ g := by omega
  have hR3 : Blk W3 w.heap.size 42 #[.int .i64 0, .string ⟨#[]⟩, .string ⟨#[]⟩, .int .i64 0, .int .i64 0] := hRB.keep (hg3.block _ hRB.lt (fun e => by injection e with e; omega))
  have Hg3 := Lib.hid hg3
  clear hW3 hqq hs2 h2 h1 h0 hg1 hg2 hg12 hRB hg3 hq
  have t1 : True := trivial
  have t2 : True := trivial
  go_upto_region 3 with (first
    | (go_at_call 22; have _t := t1; clear t1 _t; refine (number_v q B A1 7 7 _ 1 _ hq3 (by omega) (by omega) (v := 9) rfl rfl rfl rfl).mono ?_; rintro e w4 ⟨rfl, ⟨A4, hq4⟩, hg4⟩)
    | (go_at_call 22; have _t := t2; clear t2 _t; refine (number_v q B A4 _ _ _ 2 _ hq4 (by omega) (by omega) (v := 0) rfl rfl rfl rfl).mono ?_; rintro e w5 ⟨rfl, ⟨A5, hq5⟩, hg5⟩)
    | (go_at_call 22; refine (number_v q B A5 _ _ _ 2 _ hq5 (by omega) (by omega) (v := 0) rfl rfl rfl rfl).mono ?_; rintro e w6 ⟨rfl, ⟨A6, hq6⟩, hg6⟩)
    | (refine wpList_store_new rfl _ _ _ rfl _ _ _ rfl rfl (by kernel_rfl) (by rfl) (by kernel_rfl) ?_))
  obtain ⟨W7, hW7⟩ : ∃ W7, W7 = w6.alloc (.cells #[.int .i64 9, .string ⟨#[]⟩, .string ⟨#[]⟩, .int .i64 0, .int .i64 0] 42) := ⟨_, rfl⟩
  have hg46 : W3.grownBy w6 (some q) := grown_trans (grown_trans hg4 hg5) hg6
  have h46s := hg46.size
  have hq7 : RdAt W7 q B A6 2 2 [0, 0] := by rw [hW7]; exact hq6.none (World.grownBy_alloc w6 _ none)
  have h7 : RdAt W7 g B A2 (n - 1 - 7) (c - 1 - 7) (R4 ++ rest) := by rw [hW7]; exact (h3.other hg46 (fun e => hne e.symm) (by omega) (by omega)).none (World.grownBy_alloc w6 _ none)
  have hg37 : W3.grownBy W7 (some q) := by rw [hW7]; exact grown_trans hg46 (World.grownBy_alloc w6 _ _)
  obtain ⟨i, hi⟩ : ∃ i, w6.heap.size = i := ⟨_, rfl⟩
  have hI : Blk W7 i 42 #[.int .i64 9, .string ⟨#[]⟩, .string ⟨#[]⟩, .int .i64 0, .int .i64 0] := by rw [hW7, ← hi]; exact Blk.new w6 _ _
  have hWs7 : W7.heap.size = i + 1 := by rw [hW7, World.size_alloc, hi]
  rw [← hW7, hi]
  have hiq : q < i := by omega
  clear hW7 hi hq6 hq5 hq4 hq3 h3 hg4 hg5 hg6 hg46
  have t1 : True := trivial
  have hIl := hI.lt
  go_upto_region 4 with (first
    | (go_at_call 22; refine (number_v q B A6 2 2 _ 1 _ hq7 (by omega) (by omega) (v := 0) rfl rfl rfl rfl).mono ?_; rintro e w8 ⟨rfl, ⟨A8, hq8⟩, hg8⟩)
    | (go_at_call 23; refine (next_v q B A8 _ _ _ 0 _ hq8 (by omega) (x := []) rfl rfl rfl rfl).mono ?_; rintro e w9 ⟨rfl, _, ⟨A9, hq9⟩, hg9⟩; have hI9 : Blk w9 i 42 #[.int .i64 9, .string ⟨#[]⟩, .string ⟨#[]⟩, .int .i64 0, .int .i64 0] := hI.keep ((grown_trans hg8 hg9).block i hIl (fun e => by injection e with e; omega)); have hf9 := hI9.unfr 1; have hIl9 := hI9.lt; have i9 := hI9.cell 1))
  obtain ⟨W10, hW10⟩ : ∃ W, W = w9.setCell ⟨i, 1, none⟩ (.string ByteArray.empty) := ⟨_, rfl⟩
  have hgs := grown_put w9 i 1 (.string ByteArray.empty)
  have hg79 : W7.grownBy w9 (some q) := grown_trans hg8 hg9
  have hs9 := hg79.size
  have hBq := hq7.Bg
  have hql := hq7.blk.lt
  have hIX : Blk W10 i 42 #[.int .i64 9, .string ⟨#[]⟩, .string ⟨#[]⟩, .int .i64 0, .int .i64 0] := by rw [hW10]; exact hI9.set 1 (.string ByteArray.empty)
  have hqX : RdAt W10 q B A9 1 1 [0] := by rw [hW10]; exact hq9.other hgs (by omega) (by omega) (by omega)
  have hX : RdAt W10 g B A2 (n - 1 - 7) (c - 1 - 7) (R4 ++ rest) := by rw [hW10]; exact (h7.other hg79 (fun e => hne e.symm) (by omega) (by omega)).other hgs (by omega) (by omega) (by omega)
  have hbX : Below i W7 W10 → True := fun _ => trivial
  have hsX : W10.heap.size = w9.heap.size := by rw [hW10]; simp
  have hRX : Blk W10 w.heap.size 42 #[.int .i64 0, .string ⟨#[]⟩, .string ⟨#[]⟩, .int .i64 0, .int .i64 0] := by
    rw [hW10]
    exact ((hR3.keep (hg37.block w.heap.size (by omega) (fun e => by injection e with e; omega))).keep (hg79.block w.heap.size (by omega) (fun e => by injection e with e; omega))).keep (hgs.block w.heap.size (by omega) (fun e => by injection e with e; omega))
  have hbk : ∀ b, b < w.heap.size → W10.heap[b]? = W3.heap[b]? := fun b hb => by
    rw [hW10]
    exact ((hgs.block b (by omega) (fun e => by injection e with e; omega)).trans (hg79.block b (by omega) (fun e => by injection e with e; omega))).trans (hg37.block b (by omega) (fun e => by injection e with e; omega))
  have hos : W10.os = W3.os ∧ W10.tape = W3.tape ∧ W10.output = W3.output := by
    rw [hW10]
    exact ⟨(hgs.os.trans hg79.os).trans hg37.os, (hgs.tape.trans hg79.tape).trans hg37.tape, (hgs.output.trans hg79.output).trans hg37.output⟩
  rw [← hW10]
  have hIlX := hIX.lt
  clear hW10 hI9 hf9 hIl9 i9 hg8 hg9 hq8 hq9 hgs hg79 hs9 hq7 h7 hI hg37 hR3 hbX hIl hql
  go_upto_region 5 with (first
    | (go_at_call 22; refine (number_v q B A9 1 1 _ 1 _ hqX (by omega) (by omega) (v := 0) rfl rfl rfl rfl).mono ?_; rintro e w8 ⟨rfl, ⟨A8, hq8⟩, hg8⟩)
    | (go_at_call 23; refine (next_v q B A8 _ _ _ 0 _ hq8 (by omega) (x := []) rfl rfl rfl rfl).mono ?_; rintro e w9 ⟨rfl, _, ⟨A9, hq9⟩, hg9⟩; have hI9 : Blk w9 i 42 #[.int .i64 9, .string ⟨#[]⟩, .string ⟨#[]⟩, .int .i64 0, .int .i64 0] := hIX.keep ((grown_trans hg8 hg9).block i hIlX (fun e => by injection e with e; omega)); have hf9 := hI9.unfr 2; have hIl9 := hI9.lt; have i9 := hI9.cell 2))
  obtain ⟨W11, hW11⟩ : ∃ W, W = w9.setCell ⟨i, 2, none⟩ (.string ByteArray.empty) := ⟨_, rfl⟩
  have hgs := grown_put w9 i 2 (.string ByteArray.empty)
  have hg79 : W10.grownBy w9 (some q) := grown_trans hg8 hg9
  have hs9 := hg79.size
  have hIY : Blk W11 i 42 #[.int .i64 9, .string ⟨#[]⟩, .string ⟨#[]⟩, .int .i64 0, .int .i64 0] := by rw [hW11]; exact hI9.set 2 (.string ByteArray.empty)
  have hqY : Blk W11 q 64 #[.slice A9 0 0, .bool false] := by rw [hW11]; exact hq9.blk.keep (hgs.block q (by omega) (fun e => by injection e with e; omega))
  have hY : RdAt W11 g B A2 (n - 1 - 7) (c - 1 - 7) (R4 ++ rest) := by rw [hW11]; exact (hX.other hg79 (fun e => hne e.symm) (by omega) (by omega)).other hgs (by omega) (by omega) (by omega)
  have hRY : Blk W11 w.heap.size 42 #[.int .i64 0, .string ⟨#[]⟩, .string ⟨#[]⟩, .int .i64 0, .int .i64 0] := by
    rw [hW11]
    exact (hRX.keep (hg79.block w.heap.size (by omega) (fun e => by injection e with e; omega))).keep (hgs.block w.heap.size (by omega) (fun e => by injection e with e; omega))
  have hbk2 : ∀ b, b < w.heap.size → b ≠ g → W11.heap[b]? = W3.heap[b]? := fun b hb hbg => by
    rw [hW11]
    exact ((hgs.block b (by omega) (fun e => by injection e with e; omega)).trans (hg79.block b (by omega) (fun e => by injection e with e; omega))).trans (hbk b hb)
  have hos2 : W11.os = W3.os ∧ W11.tape = W3.tape ∧ W11.output = W3.output := by
    rw [hW11]
    exact ⟨(hgs.os.trans hg79.os).trans hos.1, (hgs.tape.trans hg79.tape).trans hos.2.1, (hgs.output.trans hg79.output).trans hos.2.2⟩
  have hsY : W11.heap.size = w9.heap.size := by rw [hW11]; simp
  rw [← hW11]
  have g1 := hY.blk.cell 1
  have q1 := hqY.cell 1
  have hfg := hY.blk.unfr 1
  have hgl2 := hY.blk.lt
  have hql2 := hqY.lt
  have hiY := hIY.lt
  clear hW11 hI9 hf9 hIl9 i9 hg8 hg9 hq8 hq9 hgs hg79 hs9 hqX hX hRX hbk hos hIX hIlX
  go_upto_region 6 with (fail)
  obtain ⟨W12, hW12⟩ : ∃ W, W = W11.setCell ⟨g, 1, none⟩ (.bool false) := ⟨_, rfl⟩
  have hgs := grown_put W11 g 1 (.bool false)
  have hZ : RdAt W12 g B A2 (n - 1 - 7) (c - 1 - 7) (R4 ++ rest) := by rw [hW12]; exact ⟨hY.blk.set 1 (.bool false), hY.sl.grown hgs hY.Bg hgl2, hY.len, hY.nc, hY.cm, hY.Bg⟩
  have hIZ : Blk W12 i 42 #[.int .i64 9, .string ⟨#[]⟩, .string ⟨#[]⟩, .int .i64 0, .int .i64 0] := by rw [hW12]; exact hIY.keep (hgs.block i (by omega) (fun e => by injection e with e; omega))
  have hRZ : Blk W12 w.heap.size 42 #[.int .i64 0, .string ⟨#[]⟩, .string ⟨#[]⟩, .int .i64 0, .int .i64 0] := by rw [hW12]; exact hRY.keep (hgs.block w.heap.size (by omega) (fun e => by injection e with e; omega))
  have hZs : W12.heap.size = W11.heap.size := by rw [hW12]; simp
  have hg1112 : W11.grownBy W12 (some g) := by rw [hW12]; exact hgs
  rw [← hW12]
  clear hW12 g1 q1 hfg hgl2 hql2 hgs
  have hdr : (R4 ++ rest).drop 4 = rest := List.drop_left' h4
  have hn44 : 4 ≤ n - 1 - 7 := by omega
  go_upto_region 7 with (go_at_call 22; refine (number_v g B A2 _ _ _ 4 W12 hZ hn44 (by omega) rfl hdr rfl rfl).mono ?_; rintro e w13 ⟨rfl, ⟨A13, h13⟩, hg13⟩)
  have hI13 := hIZ.keep (hg13.block i (by have := hIZ.lt; omega) (fun e => by injection e with e; omega))
  have hR13 := hRZ.keep (hg13.block w.heap.size (by omega) (fun e => by injection e with e; omega))
  have i0 := hI13.cell 0; have i1 := hI13.cell 1; have i2 := hI13.cell 2; have i3 := hI13.cell 3; have i4 := hI13.cell 4
  have hIl13 := hI13.lt
  go_wp2_with (refine wpList_store_blk rfl _ _ _ rfl hR13 #[.int .i64 9, .string ⟨#[]⟩, .string ⟨#[]⟩, .int .i64 0, .int .i64 0] rfl rfl (by kernel_rfl) (by kernel_rfl) (by kernel_rfl) ?_; intro w14 hB14 hg14 hs14)
  have hs13 := hg13.size
  have h14 : RdAt w14 g B A13 (n - 1 - 7 - 4) (c - 1 - 7 - 4) rest := h13.other hg14 (by omega) (by have := h13.Bg; omega) (by omega)
  have e1 : n - 1 - 7 - 4 = n - 12 := by omega
  have e2 : c - 1 - 7 - 4 = c - 12 := by omega
  rw [e1, e2] at h14
  refine ret_cell1 rfl rfl (load_blk hB14 Tryd.underlying42 rfl (by kernel_rfl)) rfl ⟨rfl, ⟨A13, h14⟩, ?_⟩
  have hg3 := Hg3.out
  refine ⟨(((hg14.os.trans hg13.os).trans hg1112.os).trans hos2.1).trans (hg3.os.trans hg0.os), (((hg14.tape.trans hg13.tape).trans hg1112.tape).trans hos2.2.1).trans (hg3.tape.trans hg0.tape), (((hg14.output.trans hg13.output).trans hg1112.output).trans hos2.2.2).trans (hg3.output.trans hg0.output), by omega, fun b hb hbg => ?_⟩
  have hbg' : b ≠ g := fun e => hbg (by rw [e])
  have k1 := hg14.block b (by omega) (fun e => by injection e with e; omega)
  have k2 := hg13.block b (by omega) hbg
  have k3 := hg1112.block b (by omega) hbg
  have k4 := hbk2 b hb hbg'
  have k5 := hg3.block b (by omega) hbg
  have k6 := hg0.block b hb hbg
  exact ((((k1.trans k2).trans k3).trans k4).trans k5).trans k6
end Go.Proofs.YtgeiegjpnnbloaaDoor
