/- pack.record: an instruction's record. -/
import Derived.Test.YtgeiegjpnnbloaaDoorPut
import Derived.Test.YtgeiegjpnnbloaaDoorIns
namespace Go.Proofs.YtgeiegjpnnbloaaDoor
open Go.ChangeShapes Go.WideShapes Go.ChangeAt Go.ChangeMaps Go.RowKit Go.Deep

def bodyL (x : Ins) : List UInt8 := leB x.op 1 ++ leB x.mode 2 ++ leB x.ref 2 ++ leB x.path.size 1 ++ x.path.data.toList ++ leB x.dst.size 1 ++ x.dst.data.toList
def recL (x : Ins) : List UInt8 := leB (bodyL x).length 1 ++ bodyL x ++ leB (crcF (bodyL x)).toNat 4
theorem bodyL_len (x : Ins) : (bodyL x).length = 7 + x.path.size + x.dst.size := by
  unfold bodyL
  simp only [List.length_append, leB_len, Array.length_toList]
  show 1 + 2 + 2 + 1 + x.path.size + 1 + x.dst.size = _
  omega
theorem recL_len (x : Ins) : (recL x).length = 12 + x.path.size + x.dst.size := by
  unfold recL
  simp only [List.length_append, leB_len, bodyL_len]
  omega
theorem own_drewP {w : World} {base e sz n c : Nat} {A : Option Addr} {L : List Value} (h : w.ownsRow base e sz (.slice A n c) n L) : w.drew.ownsRow base e sz (.slice A n c) n L := h
theorem own_lower {w : World} {base b' e sz n c : Nat} {A : Option Addr} {L : List Value} (h : w.ownsRow base e sz (.slice A n c) n L) (hb : b' ≤ base) : w.ownsRow b' e sz (.slice A n c) n L := by
  refine ⟨h.1, ?_⟩
  rcases h.2 with h0 | ⟨g, cap, cur, hv, hg, r⟩
  · exact .inl h0
  · exact .inr ⟨g, cap, cur, hv, Nat.le_trans hb hg, r⟩
theorem own_in {w : World} {base e sz n c : Nat} {A : Option Addr} {L : List Value} (h : w.ownsRow base e sz (.slice A n c) n L) (g : Nat) (o : Nat) (e1 : A = some ⟨g, o, none⟩) : g < w.heap.size := by
  rcases h.2 with ⟨hv, _⟩ | ⟨g', cap, cur, hv, _, hg, _⟩
  · injection hv with h1; rw [h1] at e1; cases e1
  · injection hv with h1
    rw [h1] at e1
    injection e1 with e1
    injection e1 with e1
    subst e1
    exact (Array.getElem?_eq_some_iff.1 hg).1
theorem grow_more {W a b : World} (h : W.grownBy a none) (hb : Below W.heap.size a b) : W.grownBy b none := grown_below (row := none) ((below_grown h (Nat.le_refl _) (fun g e => by cases e)).trans hb) (Nat.le_refl _)
theorem u8_one (l : List UInt8) : ∀ u ∈ l.flatMap u8L, u.oneCell' = true := by
  intro u hu
  obtain ⟨x, _, hx⟩ := List.mem_flatMap.1 hu
  simp only [u8L, List.mem_cons, List.not_mem_nil, or_false] at hx
  subst hx
  rfl
set_option maxRecDepth 100000 in
set_option maxHeartbeats 4000000 in
theorem record_any (x : Ins) (hp : x.path.size ≤ 1000000) (hd : x.dst.size ≤ 1000000) (w : World) :
    Calls Tryd.prog 20 #[.agg x.cells] w (GrewRow w.heap.size none (12 + x.path.size + x.dst.size) (recL x) w) := by
  have hB := Blk.new w 42 x.cells
  have hb := (Below.refl w.heap.size w).alloc (Nat.le_refl _) (.cells x.cells 42)
  obtain ⟨op, p, d, md, rf⟩ := x
  unfold Ins.cells at hB hb ⊢
  simp only at hp hd hB hb ⊢
  obtain ⟨W, hW⟩ : ∃ W, W = w.alloc (.cells #[.int .i64 op, .string p, .string d, .int .i64 md, .int .i64 rf] 42) := ⟨_, rfl⟩
  have hWs : W.heap.size = w.heap.size + 1 := by rw [hW, World.size_alloc]
  rw [← hW] at hB hb
  have HW := Lib.hid hW
  clear hW
  have b0 := hB.cell 0; have b1 := hB.cell 1; have b2 := hB.cell 2; have b3 := hB.cell 3; have b4 := hB.cell 4
  have hBl := hB.lt
  have ho0 : ∀ W' : World, W'.ownsRow W.heap.size 5 1 (.slice none 0 0) 0 (([] : List UInt8).flatMap u8L) := fun W' => World.ownsRow_nil W' _ _ _
  go_enter Tryd.func20, Tryd.ntmps20
  go_upto_region 1 with (fail)
  rw [← HW.out]
  refine wp_region_ordB (none) [(0, true), (1, true), (3, true), (4, true), (6, true), (7, true), (2, false), (5, false), (8, false), (9, true)] (by kernel_rfl) (by kernel_rfl) fun hG0 => ?_
  repeat (first
    | (refine ord_skipB rfl (by rfl) ?_; simp only [Act.put, List.setIfInBounds_toArray, List.set_cons_zero, List.set_cons_succ])
    | (refine ord_qE rfl (by rfl) ?_; apply Exists.intro; refine ⟨fun w' hc' => ?_, ?_⟩; (focus (go_simp; (try go_bits); (try simp only [↓IntWalk.iteOmega]); with_reducible rfl)); simp only [Act.put, List.setIfInBounds_toArray, List.set_cons_zero, List.set_cons_succ]))
  refine ord_eB rfl fun K hK => ?_
  go_wp2_with (go_at_call 19; refine (put_any op 1 (by omega) W.heap.size [] none 0 0 _ (ho0 _) (by omega) hG0.size).mono ?_; rintro e w1 ⟨A1, c1, rfl, ho1, hb1, ha1⟩)
  have hG1 := grown_trans hG0 (hb1)
  refine hK.out _ _ hG1 ?_
  clear hK K
  repeat (first
    | (refine ord_skipB rfl (by rfl) ?_; simp only [Act.put, List.setIfInBounds_toArray, List.set_cons_zero, List.set_cons_succ])
    | (refine ord_qE rfl (by rfl) ?_; apply Exists.intro; refine ⟨fun w' hc' => ?_, ?_⟩; (focus (go_simp; (try go_bits); (try simp only [↓IntWalk.iteOmega]); with_reducible rfl)); simp only [Act.put, List.setIfInBounds_toArray, List.set_cons_zero, List.set_cons_succ]))
  refine ord_eB rfl fun K hK => ?_
  go_wp2_with (go_at_call 19; refine (put_any md 2 (by omega) W.heap.size _ A1 _ c1 _ ho1 (by omega) hG1.size).mono ?_; rintro e w2 ⟨A2, c2, rfl, ho2, hb2, ha2⟩)
  have hG2 := grew_own hG1 hb2 (fun g e => .inr (own_blkP ho1 g e))
  refine hK.out _ _ hG2 ?_
  clear hK K
  repeat (first
    | (refine ord_skipB rfl (by rfl) ?_; simp only [Act.put, List.setIfInBounds_toArray, List.set_cons_zero, List.set_cons_succ])
    | (refine ord_qE rfl (by rfl) ?_; apply Exists.intro; refine ⟨fun w' hc' => ?_, ?_⟩; (focus (go_simp; (try go_bits); (try simp only [↓IntWalk.iteOmega]); with_reducible rfl)); simp only [Act.put, List.setIfInBounds_toArray, List.set_cons_zero, List.set_cons_succ]))
  refine ord_eB rfl fun K hK => ?_
  go_wp2_with (go_at_call 19; refine (put_any rf 2 (by omega) W.heap.size _ A2 _ c2 _ ho2 (by omega) hG2.size).mono ?_; rintro e w3 ⟨A3, c3, rfl, ho3, hb3, ha3⟩)
  have hG3 := grew_own hG2 hb3 (fun g e => .inr (own_blkP ho2 g e))
  refine hK.out _ _ hG3 ?_
  clear hK K
  repeat (first
    | (refine ord_skipB rfl (by rfl) ?_; simp only [Act.put, List.setIfInBounds_toArray, List.set_cons_zero, List.set_cons_succ])
    | (refine ord_qE rfl (by rfl) ?_; apply Exists.intro; refine ⟨fun w' hc' => ?_, ?_⟩; (focus (go_simp; (try go_bits); (try simp only [↓IntWalk.iteOmega]); with_reducible rfl)); simp only [Act.put, List.setIfInBounds_toArray, List.set_cons_zero, List.set_cons_succ]))
  refine ord_end ?_
  have hW3 := below_grown hG3 (Nat.le_refl _) (fun g e => by cases e)
  obtain ⟨W3, hW3'⟩ : ∃ W, W = w3 := ⟨_, rfl⟩
  rw [← hW3'] at hW3 ho3 ⊢
  have hB3 := hB.below hW3 hBl
  have hs3 := hW3.size
  have HO3 := Lib.hid ho3
  clear hW3' ho1 ho2 ho3 hb1 hb2 hb3 ha1 ha2 ha3 hG0 hG1 hG2 hG3 b0 b1 b2 b3 b4
  have b1 := hB3.cell 1; have b2 := hB3.cell 2
  have hB3l := hB3.lt
  have hne : ¬ some w.heap.size = blkOf A3 := fun e => by have := own_blkP HO3.out _ e.symm; omega
  go_upto_region 2 with (fail)
  refine wp_region_ordB (blkOf A3) [(0, true), (1, true), (2, true), (4, true), (5, true), (3, false), (6, false), (7, true)] (by kernel_rfl) (by kernel_rfl) fun hG0 => ?_
  repeat (first
    | (refine ord_skipB rfl (by rfl) ?_; simp only [Act.put, List.setIfInBounds_toArray, List.set_cons_zero, List.set_cons_succ])
    | (refine ord_qE rfl (by rfl) ?_; apply Exists.intro; refine ⟨fun w' hc' => ?_, ?_⟩; (focus (go_simp; (try go_bits); (try simp only [↓IntWalk.iteOmega]); with_reducible rfl)); simp only [Act.put, List.setIfInBounds_toArray, List.set_cons_zero, List.set_cons_succ]))
  refine ord_eB rfl fun K hK => ?_
  go_wp2_with (go_at_call 36; refine (text_any p hp W.heap.size _ A3 _ c3 _ (own_drewP HO3.out) (by omega) (Nat.le_trans hs3 hG0.size)).mono ?_; rintro e w4 ⟨A4, c4, rfl, ho4, hb4, ha4⟩)
  have hG1 := grown_trans hG0 (hb4)
  refine hK.out _ _ hG1 ?_
  clear hK K
  repeat (first
    | (refine ord_skipB rfl (by rfl) ?_; simp only [Act.put, List.setIfInBounds_toArray, List.set_cons_zero, List.set_cons_succ])
    | (refine ord_qE rfl (by rfl) ?_; apply Exists.intro; refine ⟨fun w' hc' => ?_, ?_⟩; (focus (go_simp; (try go_bits); (try simp only [↓IntWalk.iteOmega]); with_reducible rfl)); simp only [Act.put, List.setIfInBounds_toArray, List.set_cons_zero, List.set_cons_succ]))
  refine ord_eB rfl fun K hK => ?_
  go_wp2_with (go_at_call 36; refine (text_any d hd W.heap.size _ A4 _ c4 _ ho4 (by omega) (Nat.le_trans hs3 hG1.size)).mono ?_; rintro e w5 ⟨A5, c5, rfl, ho5, hb5, ha5⟩)
  have hG2 := grew_own hG1 hb5 (fun g e => (ha4 g e).imp id (fun h => Nat.le_trans hG0.size h))
  refine hK.out _ _ hG2 ?_
  clear hK K
  repeat (first
    | (refine ord_skipB rfl (by rfl) ?_; simp only [Act.put, List.setIfInBounds_toArray, List.set_cons_zero, List.set_cons_succ])
    | (refine ord_qE rfl (by rfl) ?_; apply Exists.intro; refine ⟨fun w' hc' => ?_, ?_⟩; (focus (go_simp; (try go_bits); (try simp only [↓IntWalk.iteOmega]); with_reducible rfl)); simp only [Act.put, List.setIfInBounds_toArray, List.set_cons_zero, List.set_cons_succ]))
  refine ord_end ?_
  have hW5 : Below W.heap.size W w5 := hW3.trans (below_grown hG2 hs3 (own_blkP HO3.out))
  obtain ⟨W5, hW5'⟩ : ∃ W, W = w5 := ⟨_, rfl⟩
  obtain ⟨n5, hn5⟩ : ∃ m, 5 + 1 + p.size + 1 + d.size = m := ⟨_, rfl⟩
  rw [← hW5'] at hW5 ho5 ⊢
  have e5 : (3 + 2 + 1 + p.size + 1 + d.size) = n5 := by omega
  rw [e5] at ho5 ⊢
  have hbody : leB op 1 ++ leB md 2 ++ leB rf 2 ++ leB p.size 1 ++ p.data.toList ++ leB d.size 1 ++ d.data.toList = bodyL ⟨op, p, d, md, rf⟩ := rfl
  simp only [List.nil_append] at ho5
  rw [hbody] at ho5
  have hblen : (bodyL ⟨op, p, d, md, rf⟩).length = n5 := by rw [bodyL_len]; simp only; omega
  have hrec : recL ⟨op, p, d, md, rf⟩ = leB n5 1 ++ bodyL ⟨op, p, d, md, rf⟩ ++ leB (crcF (bodyL ⟨op, p, d, md, rf⟩)).toNat 4 := by unfold recL; rw [hblen]
  have hfin : 1 + n5 + 4 = 12 + p.size + d.size := by omega
  obtain ⟨BL, hBL⟩ : ∃ l, bodyL ⟨op, p, d, md, rf⟩ = l := ⟨_, rfl⟩
  rw [hBL] at ho5 hblen hrec
  have HSl := Lib.hid (Sl.of_own ho5)
  have HRec := Lib.hid hrec; have HLen := Lib.hid hblen
  have hs5 := hW5.size
  have hn5m : n5 ≤ 2000007 := by omega
  clear hW5' ho5 ho4 hb4 hb5 ha4 ha5 hG0 hG1 hG2 b1 b2 hB3 hW3 hs3 HO3 hB3l hne hB hBl hbody hBL hrec hblen e5 hn5
  have tok : True := trivial
  go_wp2_with (first | (go_at_call 19; have _t := tok; clear tok _t; refine (put_any n5 1 (by omega) W5.heap.size [] none 0 0 W5 (World.ownsRow_nil _ _ _ _) (by omega) (Nat.le_refl _)).mono ?_; rintro e w6 ⟨A6, c6, rfl, ho6, hb6, ha6⟩) | (at_builtin; refine wpList_append_sl (L2 := BL.flatMap u8L) (m := n5) rfl _ _ _ rfl Tryd.u8T rfl ho6 rfl (HSl.out.below (below_grown hb6 (Nat.le_refl _) (fun g e => by cases e)) (Nat.le_refl _)) (u8_one BL) (by unfold maxLen; omega) (by omega) hb6.size ?_; intro A7 c7 w7 ho7 hg7 ha7; have h7 := (below_grown hb6 (Nat.le_refl _) (fun g e => by cases e)).trans (below_grown hg7 hb6.size (own_blkP ho6)); have hs7 := h7.size) | (go_at_call 21; refine (crc_any BL A5 n5 c5 w7 ((HSl.out.below h7 (Nat.le_refl _)).more hs7) HLen.out (by unfold maxLen; omega)).mono ?_; rintro e w8 ⟨rfl, hb8⟩; have h8 := h7.trans (hb8.mono hs7); have ho8 := own_keep ho7 (fun g o e => hb8.block g (own_in ho7 g o e))))
  rw [← List.flatMap_append, List.nil_append] at ho8
  go_at_call 19
  refine (put_any _ 4 (by omega) W5.heap.size _ A7 _ c7 w8 ho8 (by omega) h8.size).mono ?_
  rintro e w9 ⟨A9, c9, rfl, ho9, hb9, ha9⟩
  go_wp2
  go_ret
  have h9 := h8.trans (below_grown hb9 h8.size (own_blkP ho8))
  have hbw := hb.trans (hW5.mono hb.size)
  have hW0 : w.heap.size ≤ W5.heap.size := hbw.size
  have hfb := hbw.trans (h9.mono hW0)
  rw [hfin] at ho9
  refine ⟨A9, c9, rfl, own_lower ?_ hW0, grown_below (row := none) hfb (Nat.le_refl _), fun g e => .inr (Nat.le_trans hW0 (own_blkP ho9 g e))⟩
  rw [HRec.out]
  exact ho9
end Go.Proofs.YtgeiegjpnnbloaaDoor
