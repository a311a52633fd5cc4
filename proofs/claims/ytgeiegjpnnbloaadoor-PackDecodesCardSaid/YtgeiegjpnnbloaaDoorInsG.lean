/- pack.reader.ins in general. -/
import Derived.Test.YtgeiegjpnnbloaaDoorNumG
namespace Go.Proofs.YtgeiegjpnnbloaaDoor
open Go.ChangeShapes Go.WideShapes Go.ChangeAt Go.ChangeMaps Go.RowKit Go.Deep

/-- The parts of a record, each by its name. -/
structure RecP (s : RS) (n op md rf p qn : Nat) (s1 s2 b1 b2 b3 b4 b5 b6 b7 : RS) (bl pl dl : List UInt8) : Prop where
  e_n : s.num 1 = n
  e_s1 : s.go 1 = s1
  e_bl : s1.get n = bl
  e_s2 : s1.go n = s2
  e_op : (⟨bl, false⟩ : RS).num 1 = op
  e_b1 : (⟨bl, false⟩ : RS).go 1 = b1
  e_md : b1.num 2 = md
  e_b2 : b1.go 2 = b2
  e_rf : b2.num 2 = rf
  e_b3 : b2.go 2 = b3
  e_p : b3.num 1 = p
  e_b4 : b3.go 1 = b4
  e_pl : b4.get p = pl
  e_b5 : b4.go p = b5
  e_qn : b5.num 1 = qn
  e_b6 : b5.go 1 = b6
  e_dl : b6.get qn = dl
  e_b7 : b6.go qn = b7
theorem rec_parts (s : RS) : ∃ (n op md rf p qn : Nat) (s1 s2 b1 b2 b3 b4 b5 b6 b7 : RS) (bl pl dl : List UInt8), RecP s n op md rf p qn s1 s2 b1 b2 b3 b4 b5 b6 b7 bl pl dl :=
  ⟨_, _, _, _, _, _, _, _, _, _, _, _, _, _, _, _, _, _, ⟨rfl, rfl, rfl, rfl, rfl, rfl, rfl, rfl, rfl, rfl, rfl, rfl, rfl, rfl, rfl, rfl, rfl, rfl⟩⟩
theorem RecP.val {s : RS} {n op md rf p qn : Nat} {s1 s2 b1 b2 b3 b4 b5 b6 b7 : RS} {bl pl dl : List UInt8} (h : RecP s n op md rf p qn s1 s2 b1 b2 b3 b4 b5 b6 b7 bl pl dl) :
    s.record = (⟨op, ⟨pl.toArray⟩, ⟨dl.toArray⟩, md, rf⟩, (⟨s2.l, s2.sh || b7.sh⟩ : RS).go 4) := by
  obtain ⟨rfl, rfl, rfl, rfl, rfl, rfl, rfl, rfl, rfl, rfl, rfl, rfl, rfl, rfl, rfl, rfl, rfl, rfl⟩ := h
  rfl
theorem RdG.short {w : World} {g B : Nat} {s : RS} (h : RdG w g B s) (x : Bool) : RdG (w.setCell ⟨g, 1, none⟩ (.bool x)) g B ⟨s.l, x⟩ := by
  obtain ⟨A, c, h1, h2, h3, h4, h5⟩ := h
  exact ⟨A, c, h1.set 1 (.bool x), h2.grown (grown_put w g 1 _) h5 h1.lt, h3, h4, h5⟩
theorem RdG.new {w : World} {B : Nat} {X : Option Addr} {k : Nat} {l : List UInt8} (h : Sl w B 1 X k (l.flatMap u8L)) (hl : l.length = k) (hB : B ≤ w.heap.size) (hk : k ≤ 65535) : RdG (w.alloc (.cells #[.slice X k k, .bool false] 64)) w.heap.size B ⟨l, false⟩ := by
  refine ⟨X, k, ?_, ?_, by show l.length ≤ k; omega, by unfold maxLen; omega, hB⟩
  · show Blk _ _ _ #[.slice X l.length k, _]
    rw [hl]
    exact Blk.new w _ _
  · show Sl _ B 1 X l.length _
    rw [hl]
    exact h.below ((Below.refl _ _).alloc hB _) (Nat.le_refl _)
theorem RdG.cell1 {w : World} {g B : Nat} {s : RS} (h : RdG w g B s) : w.cell? ⟨g, 1, none⟩ = some (.bool s.sh) ∧ w.frozen? ⟨g, 1, none⟩ = false := by
  obtain ⟨A, c, h1, _⟩ := h
  exact ⟨h1.cell 1, h1.unfr 1⟩
set_option maxRecDepth 100000 in
set_option maxHeartbeats 8000000 in
theorem ins_any (g B : Nat) (s : RS) (w : World) (h : RdG w g B s) :
    Calls Tryd.prog 24 #[.pointer (some ⟨g, 0, none⟩)] w fun e w' => e = .returned (.agg s.record.1.cells) ∧ RdG w' g B s.record.2 ∧ w.grownBy w' (some g) := by
  obtain ⟨n, op, md, rf, p, qn, s1, s2, b1, b2, b3, b4, b5, b6, b7, bl, pl, dl, hP⟩ := rec_parts s
  rw [hP.val]
  have hn : n ≤ 65535 := by rw [← hP.e_n]; have := RS.num_lt s 1; omega
  have hp : p ≤ 65535 := by rw [← hP.e_p]; have := RS.num_lt b3 1; omega
  have hqn : qn ≤ 65535 := by rw [← hP.e_qn]; have := RS.num_lt b5 1; omega
  have hbl : bl.length = n := by rw [← hP.e_bl, RS.get_len]
  have hpl : pl.length = p := by rw [← hP.e_pl, RS.get_len]
  have hdl : dl.length = qn := by rw [← hP.e_dl, RS.get_len]
  have HP := Lib.hid hP
  have Hbl := Lib.hid hbl; have Hpl := Lib.hid hpl; have Hdl := Lib.hid hdl
  have hgl := h.lt
  have hBg := h.Bg
  obtain ⟨z, hz⟩ : ∃ z, w.heap.size = z := ⟨_, rfl⟩
  obtain ⟨W, hW⟩ : ∃ W, W = w.alloc (.cells #[.int .i64 0, .string ⟨#[]⟩, .string ⟨#[]⟩, .int .i64 0, .int .i64 0] 42) := ⟨_, rfl⟩
  have hg0 : w.grownBy W (some g) := by rw [hW]; exact World.grownBy_alloc w _ _
  have h0 : RdG W g B s := by rw [hW]; exact h.grow0 (World.grownBy_alloc w _ none)
  have hR0 : Blk W z 42 #[.int .i64 0, .string ⟨#[]⟩, .string ⟨#[]⟩, .int .i64 0, .int .i64 0] := by rw [hW, ← hz]; exact Blk.new w _ _
  have HW := Lib.hid hW
  have hWs : W.heap.size = z + 1 := by rw [hW, World.size_alloc, hz]
  have hgz : g < z := by omega
  have HZ := Lib.hid hz
  clear hW h hP hbl hpl hdl
  go_enter Tryd.func24, Tryd.ntmps24
  go_upto_region 1 with (fail)
  rw [← HW.out]
  try rw [HZ.out]
  clear hz
  go_upto_region 2 with (first | (go_at_call 22; refine (number_n g B s 1 _ h0 (by omega) HP.out.e_n HP.out.e_s1).mono ?_; rintro e w1 ⟨rfl, h1, hg1⟩) | (go_at_call 23; refine (next_n g B s1 n _ h1 hn HP.out.e_bl HP.out.e_s2).mono ?_; rintro e w2 ⟨X, rfl, hs2, h2, hg2⟩))
  have hg02 := grew_own (grew_own hg0 hg1 (fun q e => .inl e)) hg2 (fun q e => .inl e)
  have hR2 := (hR0.keep (hg1.block z (by omega) (fun e => by injection e with e; omega))).keep (hg2.block z (by have := hg1.size; omega) (fun e => by injection e with e; omega))
  obtain ⟨W3, hW3⟩ : ∃ W3, W3 = w2.alloc (.cells #[.slice X n n, .bool false] 64) := ⟨_, rfl⟩
  obtain ⟨q, hqq⟩ : ∃ q, w2.heap.size = q := ⟨_, rfl⟩
  have hzq : z < q := by have := hR2.lt; omega
  have hq3 : RdG W3 q q ⟨bl, false⟩ := by
    have := RdG.new hs2 Hbl.out (Nat.le_refl _) hn
    rw [hqq] at this
    rw [hW3]
    exact this
  have h3 : RdG W3 g B s2 := by rw [hW3]; exact h2.grow0 (World.grownBy_alloc w2 _ none)
  have hR3 : Blk W3 z 42 #[.int .i64 0, .string ⟨#[]⟩, .string ⟨#[]⟩, .int .i64 0, .int .i64 0] := by rw [hW3]; exact hR2.alloc _
  have hg3 : w.grownBy W3 (some g) := by rw [hW3]; exact grew_own hg02 (World.grownBy_alloc w2 _ none) (fun q e => by cases e)
  have hW3s : W3.heap.size = q + 1 := by rw [hW3, World.size_alloc, hqq]
  rw [← hW3, hqq]
  have Hg3 := Lib.hid hg3
  clear hW3 hqq hs2 h2 h1 h0 hg1 hg2 hg02 hR0 hR2 hg3 hg0
  have t1 : True := trivial
  have t2 : True := trivial
  go_upto_region 3 with (first
    | (go_at_call 22; have _t := t1; clear t1 _t; refine (number_n q q _ 1 _ hq3 (by omega) HP.out.e_op HP.out.e_b1).mono ?_; rintro e w4 ⟨rfl, hq4, hg4⟩)
    | (go_at_call 22; have _t := t2; clear t2 _t; refine (number_n q q _ 2 _ hq4 (by omega) HP.out.e_md HP.out.e_b2).mono ?_; rintro e w5 ⟨rfl, hq5, hg5⟩)
    | (go_at_call 22; refine (number_n q q _ 2 _ hq5 (by omega) HP.out.e_rf HP.out.e_b3).mono ?_; rintro e w6 ⟨rfl, hq6, hg6⟩)
    | (refine wpList_store_new rfl _ _ _ rfl _ _ _ rfl rfl (by kernel_rfl) (by rfl) (by rfl) ?_))
  obtain ⟨W7, hW7⟩ : ∃ W7, W7 = w6.alloc (.cells #[.int .i64 op, .string ⟨#[]⟩, .string ⟨#[]⟩, .int .i64 md, .int .i64 rf] 42) := ⟨_, rfl⟩
  obtain ⟨i, hi⟩ : ∃ i, w6.heap.size = i := ⟨_, rfl⟩
  have hg46 : W3.grownBy w6 (some q) := grown_trans (grown_trans hg4 hg5) hg6
  have h46s := hg46.size
  have hiq : q < i := by omega
  have hq7 : RdG W7 q q b3 := by rw [hW7]; exact hq6.grow0 (World.grownBy_alloc w6 _ none)
  have h7 : RdG W7 g B s2 := by rw [hW7]; exact (h3.other hg46 (by omega) (by omega)).grow0 (World.grownBy_alloc w6 _ none)
  have hR7 : Blk W7 z 42 #[.int .i64 0, .string ⟨#[]⟩, .string ⟨#[]⟩, .int .i64 0, .int .i64 0] := by rw [hW7]; exact (hR3.keep (hg46.block z (by omega) (fun e => by injection e with e; omega))).alloc _
  have hI : Blk W7 i 42 #[.int .i64 op, .string ⟨#[]⟩, .string ⟨#[]⟩, .int .i64 md, .int .i64 rf] := by rw [hW7, ← hi]; exact Blk.new w6 _ _
  have hg7 : w.grownBy W7 (some g) := by rw [hW7]; exact grew_own (grew_own Hg3.out hg46 (fun r e => .inr (by injection e with e; have := HZ.out; omega))) (World.grownBy_alloc w6 _ none) (fun r e => by cases e)
  have hWs7 : W7.heap.size = i + 1 := by rw [hW7, World.size_alloc, hi]
  have Hg7 := Lib.hid hg7
  rw [← hW7, hi]
  clear hW7 hi hq6 hq5 hq4 hq3 h3 hg4 hg5 hg6 hg46 hR3 Hg3 hg7 h46s hW3s
  have hIl := hI.lt
  have kc := fun (w9 : World) (X : Option Addr) (hs : Sl w9 w9.heap.size 1 X p (pl.flatMap u8L)) => conv_any hs Hpl.out p
  go_upto_region 4 with (first
    | (go_at_call 22; refine (number_n q q _ 1 _ hq7 (by omega) HP.out.e_p HP.out.e_b4).mono ?_; rintro e w8 ⟨rfl, hq8, hg8⟩)
    | (go_at_call 23; refine (next_n q q _ p _ hq8 hp HP.out.e_pl HP.out.e_b5).mono ?_; rintro e w9 ⟨X9, rfl, hs9, hq9, hg9⟩; have cv := kc _ _ hs9; have hI9 := hI.keep ((grown_trans hg8 hg9).block i hIl (fun e => by injection e with e; omega)); have hf9 := hI9.unfr 1; have hIl9 := hI9.lt; have i9 := hI9.cell 1))
  obtain ⟨W10, hW10⟩ : ∃ W, W = w9.setCell ⟨i, 1, none⟩ (.string ⟨pl.toArray⟩) := ⟨_, rfl⟩
  have hgs := grown_put w9 i 1 (.string ⟨pl.toArray⟩)
  have hg79 : W7.grownBy w9 (some q) := grown_trans hg8 hg9
  have hs9 := hg79.size
  have hIX : Blk W10 i 42 #[.int .i64 op, .string ⟨pl.toArray⟩, .string ⟨#[]⟩, .int .i64 md, .int .i64 rf] := by rw [hW10]; exact hI9.set 1 (.string ⟨pl.toArray⟩)
  have hqX : RdG W10 q q b5 := by rw [hW10]; exact hq9.other hgs (by omega) (by omega)
  have hX : RdG W10 g B s2 := by rw [hW10]; exact (h7.other hg79 (by omega) (by omega)).other hgs (by omega) (by omega)
  have hRX : Blk W10 z 42 #[.int .i64 0, .string ⟨#[]⟩, .string ⟨#[]⟩, .int .i64 0, .int .i64 0] := by
    rw [hW10]
    exact (hR7.keep (hg79.block z (by omega) (fun e => by injection e with e; omega))).keep (hgs.block z (by omega) (fun e => by injection e with e; omega))
  have hgX : w.grownBy W10 (some g) := by rw [hW10]; exact grew_own (grew_own Hg7.out hg79 (fun r e => .inr (by injection e with e; have := HZ.out; omega))) hgs (fun r e => .inr (by injection e with e; have := HZ.out; omega))
  have hsX : W10.heap.size = w9.heap.size := by rw [hW10]; simp
  have HgX := Lib.hid hgX
  rw [← hW10]
  clear hW10 hI9 hf9 hIl9 i9 hg8 hg9 hq8 hq9 hgs hg79 hq7 h7 hI hR7 hIl Hg7 hgX kc cv
  have hIlX := hIX.lt
  have kc := fun (w9 : World) (X : Option Addr) (hs : Sl w9 w9.heap.size 1 X qn (dl.flatMap u8L)) => conv_any hs Hdl.out qn
  go_upto_region 5 with (first
    | (go_at_call 22; refine (number_n q q _ 1 _ hqX (by omega) HP.out.e_qn HP.out.e_b6).mono ?_; rintro e w11 ⟨rfl, hq8, hg8⟩)
    | (go_at_call 23; refine (next_n q q _ qn _ hq8 hqn HP.out.e_dl HP.out.e_b7).mono ?_; rintro e w12 ⟨X9, rfl, hs12, hq9, hg9⟩; have cv := kc _ _ hs12; have hI9 := hIX.keep ((grown_trans hg8 hg9).block i hIlX (fun e => by injection e with e; omega)); have hf9 := hI9.unfr 2; have hIl9 := hI9.lt; have i9 := hI9.cell 2))
  obtain ⟨W13, hW13⟩ : ∃ W, W = w12.setCell ⟨i, 2, none⟩ (.string ⟨dl.toArray⟩) := ⟨_, rfl⟩
  have hgs := grown_put w12 i 2 (.string ⟨dl.toArray⟩)
  have hg79 : W10.grownBy w12 (some q) := grown_trans hg8 hg9
  have hs13 := hg79.size
  have hIY : Blk W13 i 42 #[.int .i64 op, .string ⟨pl.toArray⟩, .string ⟨dl.toArray⟩, .int .i64 md, .int .i64 rf] := by rw [hW13]; exact hI9.set 2 (.string ⟨dl.toArray⟩)
  have hqY : RdG W13 q q b7 := by rw [hW13]; exact hq9.other hgs (by omega) (by omega)
  have hY : RdG W13 g B s2 := by rw [hW13]; exact (hX.other hg79 (by omega) (by omega)).other hgs (by omega) (by omega)
  have hRY : Blk W13 z 42 #[.int .i64 0, .string ⟨#[]⟩, .string ⟨#[]⟩, .int .i64 0, .int .i64 0] := by
    rw [hW13]
    exact (hRX.keep (hg79.block z (by omega) (fun e => by injection e with e; omega))).keep (hgs.block z (by omega) (fun e => by injection e with e; omega))
  have hgY : w.grownBy W13 (some g) := by rw [hW13]; exact grew_own (grew_own HgX.out hg79 (fun r e => .inr (by injection e with e; have := HZ.out; omega))) hgs (fun r e => .inr (by injection e with e; have := HZ.out; omega))
  have hsY : W13.heap.size = w12.heap.size := by rw [hW13]; simp
  have HgY := Lib.hid hgY
  rw [← hW13]
  clear hW13 hI9 hf9 hIl9 i9 hg8 hg9 hq8 hq9 hgs hg79 hqX hX hRX hIX hIlX HgX hgY kc cv hs9 hs12
  obtain ⟨g1, hfg⟩ := hY.cell1
  obtain ⟨q1, _⟩ := hqY.cell1
  have hgl2 := hY.lt; have hql2 := hqY.lt; have hil2 := hIY.lt
  obtain ⟨y, hy⟩ : ∃ y, b7.sh = y := ⟨_, rfl⟩
  rw [hy] at q1
  obtain ⟨x, hx⟩ : ∃ x, s2.sh = x := ⟨_, rfl⟩
  rw [hx] at g1
  have Hx := Lib.hid hx; have Hy := Lib.hid hy
  clear hy hx
  cases x with
  | false =>
go_upto_region 6 with (fail)
obtain ⟨W14, hW14⟩ : ∃ W, W = W13.setCell ⟨g, 1, none⟩ (.bool y) := ⟨_, rfl⟩
have hgs := grown_put W13 g 1 (.bool y)
have hZ14 : RdG W14 g B ⟨s2.l, y⟩ := by rw [hW14]; exact hY.short y
have hI14 := hIY.keep (w' := W14) (by rw [hW14]; exact hgs.block i (by omega) (fun e => by injection e with e; omega))
have hR14 := hRY.keep (w' := W14) (by rw [hW14]; exact hgs.block z (by omega) (fun e => by injection e with e; omega))
have hg14 : w.grownBy W14 (some g) := by rw [hW14]; exact grew_own HgY.out hgs (fun r e => .inl e)
have hs14 : W14.heap.size = W13.heap.size := by rw [hW14]; simp
have Hg14 := Lib.hid hg14
rw [← hW14]
clear hW14 hgs g1 q1 hfg hY hIY hRY hqY hgl2 hql2 hil2 HgY hg14
go_upto_region 7 with (go_at_call 22; refine (number_any g B _ 4 W14 hZ14 (by omega)).mono ?_; rintro e w15 ⟨rfl, h15, hg15⟩)
have hI15 := hI14.keep (hg15.block i (by have := hI14.lt; omega) (fun e => by injection e with e; omega))
have hR15 := hR14.keep (hg15.block z (by have := hR14.lt; omega) (fun e => by injection e with e; omega))
have hg15' := grew_own Hg14.out hg15 (fun r e => .inl e)
have Hg15 := Lib.hid hg15'
have i0 := hI15.cell 0; have i1 := hI15.cell 1; have i2 := hI15.cell 2; have i3 := hI15.cell 3; have i4 := hI15.cell 4
have hIl15 := hI15.lt
have H15 := Lib.hid h15
clear hg15 hg15' h15 hI14 hR14 hZ14 Hg14
go_wp2_with (refine wpList_store_blk rfl 42 (.tmp 2) (.tmp 45) rfl hR15 #[.int .i64 op, .string ⟨pl.toArray⟩, .string ⟨dl.toArray⟩, .int .i64 md, .int .i64 rf] rfl rfl (by kernel_rfl) (by kernel_rfl) (by kernel_rfl) ?_; intro w16 hB16 hg16 hs16)
refine ret_cell1 rfl rfl (load_blk hB16 Tryd.underlying42 rfl (by kernel_rfl)) rfl ⟨rfl, ?_, grew_own Hg15.out hg16 (fun r e => .inr (by injection e with e; have := HZ.out; omega))⟩
have hh := H15.out.other hg16 (by omega) (by omega)
rw [Hx.out, Hy.out]
exact hh
  | true =>
go_upto_region 6 with (fail)
obtain ⟨W14, hW14⟩ : ∃ W, W = W13.setCell ⟨g, 1, none⟩ (.bool true) := ⟨_, rfl⟩
have hgs := grown_put W13 g 1 (.bool true)
have hZ14 : RdG W14 g B ⟨s2.l, true⟩ := by rw [hW14]; exact hY.short true
have hI14 := hIY.keep (w' := W14) (by rw [hW14]; exact hgs.block i (by omega) (fun e => by injection e with e; omega))
have hR14 := hRY.keep (w' := W14) (by rw [hW14]; exact hgs.block z (by omega) (fun e => by injection e with e; omega))
have hg14 : w.grownBy W14 (some g) := by rw [hW14]; exact grew_own HgY.out hgs (fun r e => .inl e)
have hs14 : W14.heap.size = W13.heap.size := by rw [hW14]; simp
have Hg14 := Lib.hid hg14
rw [← hW14]
clear hW14 hgs g1 q1 hfg hY hIY hRY hqY hgl2 hql2 hil2 HgY hg14
go_upto_region 7 with (go_at_call 22; refine (number_any g B _ 4 W14 hZ14 (by omega)).mono ?_; rintro e w15 ⟨rfl, h15, hg15⟩)
have hI15 := hI14.keep (hg15.block i (by have := hI14.lt; omega) (fun e => by injection e with e; omega))
have hR15 := hR14.keep (hg15.block z (by have := hR14.lt; omega) (fun e => by injection e with e; omega))
have hg15' := grew_own Hg14.out hg15 (fun r e => .inl e)
have Hg15 := Lib.hid hg15'
have i0 := hI15.cell 0; have i1 := hI15.cell 1; have i2 := hI15.cell 2; have i3 := hI15.cell 3; have i4 := hI15.cell 4
have hIl15 := hI15.lt
have H15 := Lib.hid h15
clear hg15 hg15' h15 hI14 hR14 hZ14 Hg14
go_wp2_with (refine wpList_store_blk rfl 42 (.tmp 2) (.tmp 45) rfl hR15 #[.int .i64 op, .string ⟨pl.toArray⟩, .string ⟨dl.toArray⟩, .int .i64 md, .int .i64 rf] rfl rfl (by kernel_rfl) (by kernel_rfl) (by kernel_rfl) ?_; intro w16 hB16 hg16 hs16)
refine ret_cell1 rfl rfl (load_blk hB16 Tryd.underlying42 rfl (by kernel_rfl)) rfl ⟨rfl, ?_, grew_own Hg15.out hg16 (fun r e => .inr (by injection e with e; have := HZ.out; omega))⟩
have hh := H15.out.other hg16 (by omega) (by omega)
rw [Hx.out, Hy.out]
exact hh
end Go.Proofs.YtgeiegjpnnbloaaDoor
