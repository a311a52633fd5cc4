/- pack.Decode at bytes that Encode wrote of a script that only syncs, and at too few bytes. -/
import Derived.Test.YtgeiegjpnnbloaaDoorScriptW
import Derived.Test.YtgeiegjpnnbloaaDoorErrs
namespace Go.Proofs.YtgeiegjpnnbloaaDoor
open Go.ChangeShapes Go.WideShapes Go.ChangeAt Go.ChangeMaps Go.RowKit Go.Deep

abbrev errV (a : Addr) : Value := .iface 115 (.pointer (some a))
/-- What the package's variables hold. -/
structure ErrsAt (w : World) (a0 a1 a2 : Addr) : Prop where
  c0 : w.cell? ⟨0, 0, none⟩ = some (.iface 115 (.pointer (some a0)))
  c1 : w.cell? ⟨1, 0, none⟩ = some (.iface 115 (.pointer (some a1)))
  c2 : w.cell? ⟨2, 0, none⟩ = some (.iface 115 (.pointer (some a2)))
  size : 2 < w.heap.size
theorem ErrsAt.keep {w w' : World} {a0 a1 a2 : Addr} (h : ErrsAt w a0 a1 a2) (hb : Below w.heap.size w w') : ErrsAt w' a0 a1 a2 := by
  have hs := h.size
  exact ⟨(hb.cell (p := ⟨0, 0, none⟩) (by show 0 < _; omega)).trans h.c0, (hb.cell (p := ⟨1, 0, none⟩) (by show 1 < _; omega)).trans h.c1, (hb.cell (p := ⟨2, 0, none⟩) hs).trans h.c2, Nat.lt_of_lt_of_le hs hb.size⟩
theorem zsize : zeroScr.C.size = 67 := Scr.size (by simp [zeroScr, zero32]) (by simp [zeroScr, zero32])
def ShortAt (w : World) (a0 : Addr) (a : Act) (wr : World) : Prop := ∃ u : Nat → Value, a = ⟨List.toArray (u 0 :: u 1 :: .pointer (some ⟨w.heap.size, 0, none⟩) :: errV a0 :: u 4 :: u 5 :: u 6 :: u 7 :: u 8 :: u 9 :: u 10 :: u 11 :: u 12 :: u 13 :: u 14 :: u 15 :: u 16 :: u 17 :: u 18 :: u 19 :: u 20 :: u 21 :: u 22 :: u 23 :: u 24 :: u 25 :: u 26 :: u 27 :: u 28 :: u 29 :: u 30 :: u 31 :: u 32 :: u 33 :: u 34 :: u 35 :: u 36 :: u 37 :: u 38 :: u 39 :: u 40 :: u 41 :: u 42 :: u 43 :: u 44 :: u 45 :: u 46 :: u 47 :: u 48 :: u 49 :: u 50 :: u 51 :: u 52 :: u 53 :: u 54 :: u 55 :: u 56 :: u 57 :: u 58 :: u 59 :: u 60 :: u 61 :: u 62 :: u 63 :: u 64 :: u 65 :: u 66 :: u 67 :: u 68 :: u 69 :: u 70 :: u 71 :: u 72 :: u 73 :: u 74 :: u 75 :: u 76 :: u 77 :: u 78 :: u 79 :: u 80 :: u 81 :: u 82 :: u 83 :: u 84 :: u 85 :: u 86 :: u 87 :: u 88 :: u 89 :: u 90 :: u 91 :: u 92 :: u 93 :: u 94 :: u 95 :: u 96 :: u 97 :: u 98 :: u 99 :: u 100 :: u 101 :: u 102 :: u 103 :: u 104 :: u 105 :: u 106 :: u 107 :: u 108 :: u 109 :: u 110 :: u 111 :: u 112 :: u 113 :: u 114 :: u 115 :: u 116 :: u 117 :: u 118 :: u 119 :: u 120 :: u 121 :: u 122 :: u 123 :: u 124 :: u 125 :: u 126 :: u 127 :: u 128 :: u 129 :: []), []⟩ ∧ Blk wr w.heap.size 30 zeroScr.C ∧ Below w.heap.size w wr
theorem ShortAt.mk {w : World} {a0 : Addr} {a : Act} {wr : World} (h : a = ⟨List.toArray (a.tmps.getD 0 undef :: a.tmps.getD 1 undef :: .pointer (some ⟨w.heap.size, 0, none⟩) :: errV a0 :: a.tmps.getD 4 undef :: a.tmps.getD 5 undef :: a.tmps.getD 6 undef :: a.tmps.getD 7 undef :: a.tmps.getD 8 undef :: a.tmps.getD 9 undef :: a.tmps.getD 10 undef :: a.tmps.getD 11 undef :: a.tmps.getD 12 undef :: a.tmps.getD 13 undef :: a.tmps.getD 14 undef :: a.tmps.getD 15 undef :: a.tmps.getD 16 undef :: a.tmps.getD 17 undef :: a.tmps.getD 18 undef :: a.tmps.getD 19 undef :: a.tmps.getD 20 undef :: a.tmps.getD 21 undef :: a.tmps.getD 22 undef :: a.tmps.getD 23 undef :: a.tmps.getD 24 undef :: a.tmps.getD 25 undef :: a.tmps.getD 26 undef :: a.tmps.getD 27 undef :: a.tmps.getD 28 undef :: a.tmps.getD 29 undef :: a.tmps.getD 30 undef :: a.tmps.getD 31 undef :: a.tmps.getD 32 undef :: a.tmps.getD 33 undef :: a.tmps.getD 34 undef :: a.tmps.getD 35 undef :: a.tmps.getD 36 undef :: a.tmps.getD 37 undef :: a.tmps.getD 38 undef :: a.tmps.getD 39 undef :: a.tmps.getD 40 undef :: a.tmps.getD 41 undef :: a.tmps.getD 42 undef :: a.tmps.getD 43 undef :: a.tmps.getD 44 undef :: a.tmps.getD 45 undef :: a.tmps.getD 46 undef :: a.tmps.getD 47 undef :: a.tmps.getD 48 undef :: a.tmps.getD 49 undef :: a.tmps.getD 50 undef :: a.tmps.getD 51 undef :: a.tmps.getD 52 undef :: a.tmps.getD 53 undef :: a.tmps.getD 54 undef :: a.tmps.getD 55 undef :: a.tmps.getD 56 undef :: a.tmps.getD 57 undef :: a.tmps.getD 58 undef :: a.tmps.getD 59 undef :: a.tmps.getD 60 undef :: a.tmps.getD 61 undef :: a.tmps.getD 62 undef :: a.tmps.getD 63 undef :: a.tmps.getD 64 undef :: a.tmps.getD 65 undef :: a.tmps.getD 66 undef :: a.tmps.getD 67 undef :: a.tmps.getD 68 undef :: a.tmps.getD 69 undef :: a.tmps.getD 70 undef :: a.tmps.getD 71 undef :: a.tmps.getD 72 undef :: a.tmps.getD 73 undef :: a.tmps.getD 74 undef :: a.tmps.getD 75 undef :: a.tmps.getD 76 undef :: a.tmps.getD 77 undef :: a.tmps.getD 78 undef :: a.tmps.getD 79 undef :: a.tmps.getD 80 undef :: a.tmps.getD 81 undef :: a.tmps.getD 82 undef :: a.tmps.getD 83 undef :: a.tmps.getD 84 undef :: a.tmps.getD 85 undef :: a.tmps.getD 86 undef :: a.tmps.getD 87 undef :: a.tmps.getD 88 undef :: a.tmps.getD 89 undef :: a.tmps.getD 90 undef :: a.tmps.getD 91 undef :: a.tmps.getD 92 undef :: a.tmps.getD 93 undef :: a.tmps.getD 94 undef :: a.tmps.getD 95 undef :: a.tmps.getD 96 undef :: a.tmps.getD 97 undef :: a.tmps.getD 98 undef :: a.tmps.getD 99 undef :: a.tmps.getD 100 undef :: a.tmps.getD 101 undef :: a.tmps.getD 102 undef :: a.tmps.getD 103 undef :: a.tmps.getD 104 undef :: a.tmps.getD 105 undef :: a.tmps.getD 106 undef :: a.tmps.getD 107 undef :: a.tmps.getD 108 undef :: a.tmps.getD 109 undef :: a.tmps.getD 110 undef :: a.tmps.getD 111 undef :: a.tmps.getD 112 undef :: a.tmps.getD 113 undef :: a.tmps.getD 114 undef :: a.tmps.getD 115 undef :: a.tmps.getD 116 undef :: a.tmps.getD 117 undef :: a.tmps.getD 118 undef :: a.tmps.getD 119 undef :: a.tmps.getD 120 undef :: a.tmps.getD 121 undef :: a.tmps.getD 122 undef :: a.tmps.getD 123 undef :: a.tmps.getD 124 undef :: a.tmps.getD 125 undef :: a.tmps.getD 126 undef :: a.tmps.getD 127 undef :: a.tmps.getD 128 undef :: a.tmps.getD 129 undef :: []), []⟩) (hB : Blk wr w.heap.size 30 zeroScr.C) (hb : Below w.heap.size w wr) : ShortAt w a0 a wr := ⟨fun i => a.tmps.getD i undef, h, hB, hb⟩
def ShortRes (a0 : Addr) (w : World) (e : Ending) (w' : World) : Prop := e = .returned (.tuple #[.agg zeroScr.C, .iface 115 (.pointer (some a0))]) ∧ Below w.heap.size w w'
set_option maxRecDepth 100000 in
set_option maxHeartbeats 4000000 in
theorem script_short (A : Option Addr) (n c : Nat) (a0 a1 a2 : Addr) (w : World) (hE : ErrsAt w a0 a1 a2) (hn : n < 85) :
    Calls Tryd.prog 12 #[.slice A n c] w (ShortRes a0 w) := by
  have hni : (n : Int) < 85 := by omega
  obtain ⟨W0, hW0⟩ : ∃ W, W = w.alloc (.cells Tryd.zeroCells30 30) := ⟨_, rfl⟩
  have hb0 : Below w.heap.size w W0 := by rw [hW0]; exact (Below.refl _ _).alloc (Nat.le_refl _) _
  have hZ0 : Blk W0 w.heap.size 30 zeroScr.C := by rw [hW0, ← zero_cells]; exact Blk.new w _ _
  have HW := Lib.hid hW0
  have c0 := (hE.keep hb0).c0
  have hs := (hE.keep hb0).size
  have hone := Scr.one zeroScr
  clear hW0 hE
  go_enter Tryd.func12, Tryd.ntmps12
  go_upto_region 1 with (fail)
  rw [← HW.out]
  go_wp2
  refine wp_scope_J 0 (ShortAt w a0) (fun _ _ => 0) (by rfl) ?_ fun pass => ?_
  · rintro a wr ⟨u, rfl, hB, hb⟩
    rw [← zero_cells] at hB
    have hzs : Tryd.zeroCells30.size = 67 := by rw [zero_cells]; exact zsize
    go_wp2_with (refine wpList_store_blk rfl 30 (.tmp 2) (.tmp 128) rfl hB Tryd.zeroCells30 rfl rfl (by rw [hzs]; kernel_rfl) rfl (by rw [zero_cells]; exact hone) ?_; intro w3 hB3 hg3 hs3)
    change bodyPost Tryd.prog Tryd.f12 (ShortRes a0 w) Exit.ret _ _
    exact ret_cell_t rfl rfl (load_blk hB3 Tryd.underlying30 rfl (by rw [hzs]; kernel_rfl)) rfl ⟨by rw [zero_cells]; rfl, hb.trans (below_grown (B := w.heap.size) hg3 hb.size (fun q e => by injection e with e; omega))⟩
  · have Pass := Lib.hid pass
    clear pass
    go_wp2
    exact wp_goto (And.intro rfl (ShortAt.mk rfl hZ0 hb0))
set_option maxRecDepth 100000 in
set_option maxHeartbeats 4000000 in
theorem decode_short (A : Option Addr) (n c : Nat) (a0 a1 a2 : Addr) (w : World) (hE : ErrsAt w a0 a1 a2) (hn : n < 85) :
    Calls Tryd.prog 7 #[.slice A n c] w fun e w' => e = .returned (.tuple #[.agg zeroScr.C, .int .i64 40]) ∧ Below w.heap.size w w' := by
  obtain ⟨W0, hW0⟩ : ∃ W, W = w.alloc (.cells Tryd.zeroCells30 30) := ⟨_, rfl⟩
  have hb0 : Below w.heap.size w W0 := by rw [hW0]; exact (Below.refl _ _).alloc (Nat.le_refl _) _
  have hZ0 : Blk W0 w.heap.size 30 Tryd.zeroCells30 := by rw [hW0]; exact Blk.new w _ _
  have HW := Lib.hid hW0
  have hE0 := hE.keep hb0
  have hone := Scr.one zeroScr
  have HScr := Lib.hid (script_short A n c a0 a1 a2 W0 hE0 hn)
  have hzs : Tryd.zeroCells30.size = 67 := by rw [zero_cells]; exact zsize
  have hz67 := zsize
  have HE := Lib.hid hE0
  have hZl := hZ0.lt
  have hs0 := hb0.size
  clear hW0 hE hn hE0
  go_enter Tryd.func7, Tryd.ntmps7
  go_upto_region 1 with (fail)
  rw [← HW.out]
  go_upto_region 2 with (first | (go_at_call 12; refine HScr.out.mono ?_; rintro e w1 ⟨rfl, hb1⟩) | (refine wpList_store_blk rfl 30 (.tmp 4) (.tmp 9) rfl (Blk.new w1 30 Tryd.zeroCells30) zeroScr.C rfl rfl (by rw [hz67]; kernel_rfl) (by rw [hzs, hz67]) hone ?_; intro w2 hB2 hg2 hs2))
  have h12 : Below w1.heap.size w1 w2 := ((Below.refl _ _).alloc (Nat.le_refl _) (.cells Tryd.zeroCells30 30)).trans (below_grown hg2 (by simp) (fun q e => by injection e with e; omega))
  have h02 : Below W0.heap.size W0 w2 := hb1.trans (h12.mono hb1.size)
  have hZ2 := hZ0.below h02 hZl
  have hE2 := HE.out.keep h02
  have c0 := hE2.c0
  have hsz := hE2.size
  clear hB2 hg2 hs2 h12 hb1
  go_wp2_with (first | (go_at_call 13; refine (is_same a0 _).mono ?_; rintro e w3 ⟨rfl, hw⟩; rw [hw]; clear hw) | (refine wpList_store_blk rfl 30 (.tmp 2) (.tmp 15) rfl hZ2 Tryd.zeroCells30 rfl rfl (by rw [hzs]; kernel_rfl) rfl (by rw [zero_cells]; exact hone) ?_; intro w4 hB4 hg4 hs4))
  exact ret_cell_t rfl rfl (load_blk hB4 Tryd.underlying30 rfl (by rw [hzs]; kernel_rfl)) rfl ⟨by rw [zero_cells]; rfl, (hb0.trans (h02.mono hs0)).trans (below_grown (B := w.heap.size) hg4 (by have := h02.size; omega) (fun q e => by injection e with e; omega))⟩
def DecRes (s : Scr) (w : World) (e : Ending) (w' : World) : Prop := ∃ IA ic, e = .returned (.tuple #[.agg (stepScr s s.il IA ic).C, .int .i64 0]) ∧ ScrAt w' (stepScr s s.il IA ic) ∧ Below w.heap.size w w'
set_option maxRecDepth 100000 in
set_option maxHeartbeats 4000000 in
theorem decode_ok (s : Scr) (hs : ∀ x ∈ s.ins, x = syncI) (hr : s.rl = 0) (hfl : s.frm.length = 32) (hgl : s.goal.length = 32) (hp1 : 0 ≤ s.pb ∧ s.pb ≤ 4294967295) (hp2 : 0 ≤ s.pi ∧ s.pi ≤ 4294967295) (hil : s.il ≤ 4096) (hrf : s.refs = []) (hlen : s.ins.length = s.il) (A : Option Addr) (k c : Nat) (a0 a1 a2 : Addr) (w : World) (hE : ErrsAt w a0 a1 a2) (hS : Sl w w.heap.size 1 A (k + 4) ((encL s).flatMap u8L)) (hn : (bodyE s).length = k) (hnc : k + 4 ≤ c) (hcm : c ≤ maxLen) (h85 : 81 ≤ k) :
    Calls Tryd.prog 7 #[.slice A (k + 4) c] w (DecRes s w) := by
  obtain ⟨W0, hW0⟩ : ∃ W, W = w.alloc (.cells Tryd.zeroCells30 30) := ⟨_, rfl⟩
  have hb0 : Below w.heap.size w W0 := by rw [hW0]; exact (Below.refl _ _).alloc (Nat.le_refl _) _
  have hZ0 : Blk W0 w.heap.size 30 Tryd.zeroCells30 := by rw [hW0]; exact Blk.new w _ _
  have HW := Lib.hid hW0
  have hE0 := hE.keep hb0
  have hS0 := (hS.below hb0 (Nat.le_refl _)).more hb0.size
  have HScr := Lib.hid (script_ok s hs hr hfl hgl hp1 hp2 hil hrf hlen A k c W0 hS0 hn hnc hcm h85)
  have hzs : Tryd.zeroCells30.size = 67 := by rw [zero_cells]; exact zsize
  have HE := Lib.hid hE0
  have hZl := hZ0.lt
  have hs0 := hb0.size
  have Hfl := Lib.hid hfl; have Hgl := Lib.hid hgl
  clear hW0 hE hE0 hS hS0 hn hs hr hp1 hp2 hrf hlen hfl hgl hnc hcm h85 hil
  go_enter Tryd.func7, Tryd.ntmps7
  go_upto_region 1 with (fail)
  rw [← HW.out]
  go_upto_region 2 with (first | (go_at_call 12; refine HScr.out.mono ?_; rintro e w1 ⟨IA, ic, rfl, hsc, hrow, hb1⟩; have hz67 : (stepScr s s.il IA ic).C.size = 67 := Scr.size Hfl.out Hgl.out; have hone := Scr.one (stepScr s s.il IA ic)) | (refine wpList_store_blk rfl 30 (.tmp 4) (.tmp 9) rfl (Blk.new w1 30 Tryd.zeroCells30) (stepScr s s.il IA ic).C rfl rfl (by rw [hz67]; kernel_rfl) (by rw [hzs, hz67]) hone ?_; intro w2 hB2 hg2 hs2))
  have h12 : Below w1.heap.size w1 w2 := ((Below.refl _ _).alloc (Nat.le_refl _) (.cells Tryd.zeroCells30 30)).trans (below_grown hg2 (by simp) (fun q e => by injection e with e; omega))
  have h02 : Below W0.heap.size W0 w2 := hb1.trans (h12.mono hb1.size)
  have hZ2 := hZ0.below h02 hZl
  have hE2 := HE.out.keep h02
  have c0 := hE2.c0
  have c1 := hE2.c1
  have c2 := hE2.c2
  have hsz := hE2.size
  have hsc2 := hsc.keep h12
  have hrow2 := own_keep hrow (fun q o e => h12.block q (own_in hrow q o e))
  have HRow := Lib.hid hrow2
  have HSc := Lib.hid hsc2
  obtain ⟨q, hq⟩ : ∃ q, w1.heap.size = q := ⟨_, rfl⟩
  rw [hq] at hB2 ⊢
  obtain ⟨C, hC⟩ : ∃ C, (stepScr s s.il IA ic).C = C := ⟨_, rfl⟩
  have HC := Lib.hid hC
  rw [hC] at hB2 hz67 hone
  clear hg2 hs2 h12 hb1 hC hsc hsc2 hrow hrow2
  have hsz1 : 1 < w2.heap.size := by omega
  have hsz0 : 0 < w2.heap.size := by omega
  have t1 : True := trivial
  have t2 : True := trivial
  go_wp2_with (first
    | (go_at_call 13; have _t := t1; clear t1 _t; refine (is_nil a0 _).mono ?_; rintro e w3 ⟨rfl, hw⟩; rw [hw]; clear hw)
    | (go_at_call 13; have _t := t2; clear t2 _t; refine (is_nil a1 _).mono ?_; rintro e w3 ⟨rfl, hw⟩; rw [hw]; clear hw)
    | (go_at_call 13; refine (is_nil a2 _).mono ?_; rintro e w3 ⟨rfl, hw⟩; rw [hw]; clear hw)
    | (refine wpList_load_row rfl 30 (.tmp 4) rfl q rfl 30 C (0, 0) _ hB2 Tryd.underlying30 rfl (by rw [hz67]; kernel_rfl) ?_)
    | (refine wpList_store_blk rfl 30 (.tmp 2) (.tmp 26) rfl hZ2 C rfl rfl (by rw [hz67]; kernel_rfl) (by rw [hzs, hz67]) hone ?_; intro w4 hB4 hg4 hs4))
  have hneZ : Sl w4 w4.heap.size 5 (stepScr s s.il IA ic).IA (stepScr s s.il IA ic).il (insL (stepScr s s.il IA ic).ins) :=
    Sl.of_own (own_keep HRow.out (fun q o e => hg4.block q (own_in HRow.out q o e) (fun e2 => by
      have h1 := own_blkP HRow.out q (by have e3 : IA = some ⟨q, o, none⟩ := e; rw [e3]; rfl)
      injection e2 with e2
      omega)))
  refine ret_cell_t rfl rfl (load_blk hB4 Tryd.underlying30 rfl (by rw [hz67]; kernel_rfl)) rfl ⟨IA, ic, by rw [HC.out]; rfl, { HSc.out with is := hneZ, rs := Sl.nil _ _ _ _ }, (hb0.trans (h02.mono hs0)).trans (below_grown (B := w.heap.size) hg4 (by have := h02.size; omega) (fun q e => by injection e with e; omega))⟩
end Go.Proofs.YtgeiegjpnnbloaaDoor
