/- shuntref19.Same of two scripts that are alike and have no refs. -/
import Derived.Test.YtgeiegjpnnbloaaDoorEncode
import Derived.Deep.MidRow
import Derived.ChangeKeysEq
namespace Go.Proofs.YtgeiegjpnnbloaaDoor
open Go.ChangeShapes Go.WideShapes Go.ChangeAt Go.ChangeMaps Go.RowKit Go.Deep

theorem u8_items (l : List UInt8) (W : World) : ∀ (is : List Nat), (∀ i ∈ is, i < l.length) →
    (Op.eqItems 9999 5 (Tryd.prog.cellsOf 5) (l.flatMap u8L).toArray (l.flatMap u8L).toArray is).run Tryd.prog W = .ok true W
  | [], _ => by simp [Op.eqItems]
  | i :: is, h => by
    have hc : Tryd.prog.cellsOf 5 = 1 := by kernel_rfl
    have hi := h i List.mem_cons_self
    have hg : (l.flatMap u8L).toArray[i]? = some (.int .u8 (l[i].toNat : Int)) := by
      rw [List.getElem?_toArray, ← map_u8, List.getElem?_map, List.getElem?_eq_getElem hi]
      rfl
    have hp := run_part_plain (P := Tryd.prog) W (e := 5) (by kernel_rfl) hg
    have ih := u8_items l W is fun j hj => h j (List.mem_cons_of_mem _ hj)
    rw [hc] at ih ⊢
    simp only [Op.eqItems, Sem.run_bind, Nat.mul_one, hp, Result.andThen_ok]
    rw [run_equalIn_int W 9998 5 .u8 .u8 _ _ Tryd.underlying5]
    simp only [Result.andThen_ok, beq_self_eq_true, Bool.not_true, Bool.false_eq_true, if_false]
    exact ih
theorem u8_same (l : List UInt8) (hl : l.length = 32) (W : World) : (Op.equalIn 10000 25 (.agg (l.flatMap u8L).toArray) (.agg (l.flatMap u8L).toArray)).run Tryd.prog W = .ok true W := by
  obtain ⟨i, hi⟩ : ∃ i, Tryd.prog.info? 5 = some i := Option.isSome_iff_exists.1 (show (Tryd.prog.info? 5).isSome = true by kernel_rfl)
  rw [run_equalIn_array W 9999 _ _ Tryd.underlying25 hi]
  exact u8_items l W _ fun i h => by rw [hl]; exact List.mem_range.1 h
theorem insSelf (a0 a3 a4 : Int) (a1 a2 : ByteArray) (w : World) :
    (Op.equalIn 10000 42 (.agg #[.int .i64 a0, .string a1, .string a2, .int .i64 a3, .int .i64 a4]) (.agg #[.int .i64 a0, .string a1, .string a2, .int .i64 a3, .int .i64 a4])).run Tryd.prog w = .ok true w := by
  rw [eqIns, Ins.eqb_self]
theorem dig_at {w : World} {g : Nat} {t : TypeId} {s : Scr} (hB : Blk w g t s.C) (h1 : s.frm.length = 32) (h2 : s.goal.length = 32) :
    w.rangeAt g 0 (s.frm.flatMap u8L) ∧ w.rangeAt g 32 (s.goal.flatMap u8L) := by
  have e1 : (s.frm.flatMap u8L).length = 32 := by rw [u8_len, h1]
  have e2 : (s.goal.flatMap u8L).length = 32 := by rw [u8_len, h2]
  refine ⟨fun j v hv => ?_, fun j v hv => ?_⟩
  · have hj := (List.getElem?_eq_some_iff.1 hv).1
    rw [hB.cell, Nat.zero_add, ← hv]
    unfold Scr.C Scr.L
    rw [List.getElem?_toArray, List.getElem?_append_left (by omega)]
  · have hj := (List.getElem?_eq_some_iff.1 hv).1
    rw [hB.cell, ← hv]
    unfold Scr.C Scr.L
    rw [List.getElem?_toArray, List.getElem?_append_right (by omega), List.getElem?_append_left (by omega)]
    congr 1
    omega
section
variable {ops : Array Oper} {rest : List Oper} {o : Oper} {a : Act} {Q : Exit → Act → World → Prop} {w : World}
/-- A digest out of the middle of a block, at a guarded operation too. -/
theorem wpList_load_dig (hw : Region.wanted o (yielded ops a.tmps) = true) (x : Operand) (ho : o.op = .load 25 x) (b k : Nat) (hx : a.eval x = .pointer (some ⟨b, k, none⟩)) (l : List UInt8) (hl : l.length = 32) (hc : w.rangeAt b k (l.flatMap u8L)) (v : Array Value) (hv : (l.flatMap u8L).toArray = v)
    (h : wpList Tryd.prog ops Q rest (a.put o.dst (.agg v)) w) : wpList Tryd.prog ops Q (o :: rest) a w := by
  subst hv
  rw [wpList, if_pos hw]
  exact .inl (wp_load_mid 25 x ho b k hx _ _ hc Tryd.underlying25 rfl (by rw [u8_len, hl]; kernel_rfl) h)
/-- A script out of its block, at a guarded operation too. -/
theorem wpList_load_scr (hw : Region.wanted o (yielded ops a.tmps) = true) (x : Operand) (ho : o.op = .load 30 x) (q : Nat) (hx : a.eval x = .pointer (some ⟨q, 0, none⟩)) (C : Array Value) (hz : C.size = 67) (hB : Blk w q 30 C)
    (h : wpList Tryd.prog ops Q rest (a.put o.dst (.agg C)) w) : wpList Tryd.prog ops Q (o :: rest) a w := by
  rw [wpList, if_pos hw]
  have hr : w.rangeAt q 0 C.toList := fun j v hv => by rw [hB.cell, Nat.zero_add, ← hv, Array.getElem?_toList]
  exact .inl (wp_load_mid 30 x ho q 0 hx _ _ hr Tryd.underlying30 rfl (by rw [Array.length_toList, hz]; kernel_rfl) (by rw [Array.toArray_toList]; exact h))
end
set_option maxRecDepth 100000 in
set_option maxHeartbeats 4000000 in
theorem same_ok (s t : Scr) (w : World) (hs : ScrAt w s) (ht : ScrAt w t) (hf : t.frm = s.frm) (hg : t.goal = s.goal) (hpb : t.pb = s.pb) (hpi : t.pi = s.pi) (hil : t.il = s.il) (hins : t.ins = s.ins) (hr : s.rl = 0) (hr' : t.rl = 0) :
    Calls Tryd.prog 10 #[.agg s.C, .agg t.C] w fun e w' => e = .returned (.bool true) ∧ Below w.heap.size w w' := by
  obtain ⟨W, hW⟩ : ∃ W, W = (w.alloc (.cells s.C 30)).alloc (.cells t.C 30) := ⟨_, rfl⟩
  have hb : Below w.heap.size w W := by rw [hW]; exact ((Below.refl _ _).alloc (Nat.le_refl _) _).alloc (by simp) _
  have hB : Blk W w.heap.size 30 s.C := by rw [hW]; exact (Blk.new w _ _).alloc _
  have hT : Blk W (w.heap.size + 1) 30 t.C := by rw [hW]; have := Blk.new (w.alloc (.cells s.C 30)) 30 t.C; rw [World.size_alloc] at this; exact this
  obtain ⟨c64, c65, c66⟩ := Scr.cell hs.fl hs.gl
  obtain ⟨d64, d65, d66⟩ := Scr.cell ht.fl ht.gl
  have b64 := (hB.cell 64).trans c64; have b65 := (hB.cell 65).trans c65; have b66 := (hB.cell 66).trans c66
  have t64 := (hT.cell 64).trans d64; have t65 := (hT.cell 65).trans d65; have t66 := (hT.cell 66).trans d66
  obtain ⟨r0, r32⟩ := dig_at hB hs.fl hs.gl
  obtain ⟨v0, v32⟩ := dig_at hT ht.fl ht.gl
  have e0 := fun W => u8_same s.frm hs.fl W
  have e32 := fun W => u8_same s.goal hs.gl W
  rw [hf] at v0
  rw [hg] at v32
  have ha := ord_eq hs.pb; have hb' := ord_eq hs.pi
  rw [hpb, hpi] at t64
  rw [hil] at t65
  rw [hr] at b66
  rw [hr'] at t66
  have HI := Lib.hid ((hs.is.below hb (Nat.le_refl _)).more hb.size)
  have HJ := (ht.is.below hb (Nat.le_refl _)).more hb.size
  rw [hil, hins] at HJ
  have HJ := Lib.hid HJ
  have HL := Lib.hid hs.il
  have hm := hs.im
  have hl := hB.lt; have hl' := hT.lt
  obtain ⟨fa, hfa⟩ : ∃ x, (s.frm.flatMap u8L).toArray = x := ⟨_, rfl⟩
  obtain ⟨ga, hga⟩ : ∃ x, (s.goal.flatMap u8L).toArray = x := ⟨_, rfl⟩
  have Hfa := Lib.hid hfa; have Hga := Lib.hid hga
  have R0 := Lib.hid r0; have R32 := Lib.hid r32; have V0 := Lib.hid v0; have V32 := Lib.hid v32
  have Hfl := Lib.hid hs.fl; have Hgl := Lib.hid hs.gl
  simp only [hfa] at e0
  simp only [hga] at e32
  obtain ⟨x, hx⟩ : ∃ x, F s.pb = x := ⟨_, rfl⟩
  obtain ⟨y, hy⟩ : ∃ x, F s.pi = x := ⟨_, rfl⟩
  rw [hx] at ha; rw [hy] at hb'
  rw [hx, hy] at b64 t64
  obtain ⟨IA, hIA⟩ : ∃ x, s.IA = x := ⟨_, rfl⟩
  obtain ⟨JA, hJA⟩ : ∃ x, t.IA = x := ⟨_, rfl⟩
  obtain ⟨n, hn⟩ : ∃ x, s.il = x := ⟨_, rfl⟩
  obtain ⟨ic, hic⟩ : ∃ x, s.ic = x := ⟨_, rfl⟩
  obtain ⟨jc, hjc⟩ : ∃ x, t.ic = x := ⟨_, rfl⟩
  obtain ⟨xs, hxs⟩ : ∃ x, s.ins = x := ⟨_, rfl⟩
  obtain ⟨ra, hra⟩ : ∃ x, s.RA = x := ⟨_, rfl⟩
  obtain ⟨rc, hrc⟩ : ∃ x, s.rc = x := ⟨_, rfl⟩
  obtain ⟨rb, hrb⟩ : ∃ x, t.RA = x := ⟨_, rfl⟩
  obtain ⟨rd, hrd⟩ : ∃ x, t.rc = x := ⟨_, rfl⟩
  obtain ⟨sC, hsC⟩ : ∃ x, s.C = x := ⟨_, rfl⟩
  obtain ⟨tC, htC⟩ : ∃ x, t.C = x := ⟨_, rfl⟩
  rw [hIA, hn, hic] at b65; rw [hJA, hn, hjc] at t65
  rw [hra, hrc] at b66; rw [hrb, hrd] at t66
  rw [hIA, hn, hxs] at HI; rw [hJA, hn, hxs] at HJ
  rw [hn, hxs] at HL; rw [hn] at hm
  rw [hsC] at hB hW ⊢
  rw [htC] at hT hW ⊢
  clear hfa hga hx hy hIA hJA hn hic hjc hxs hra hrc hrb hrd hsC htC c64 c65 c66 d64 d65 d66 r0 r32 v0 v32 hf hg hpb hpi hil hins hr hr' hs ht
  go_enter Tryd.func10, Tryd.ntmps10
  go_upto_region 1 with (fail)
  rw [← hW]
  clear hW
  go_upto_region 3 with (first | (refine wpList_load_dig rfl (.tmp 7) rfl _ _ rfl _ Hfl.out R0.out _ Hfa.out ?_) | (refine wpList_load_dig rfl (.tmp 9) rfl _ _ rfl _ Hfl.out V0.out _ Hfa.out ?_) | (refine wpList_load_dig rfl (.tmp 13) rfl _ _ rfl _ Hgl.out R32.out _ Hga.out ?_) | (refine wpList_load_dig rfl (.tmp 15) rfl _ _ rfl _ Hgl.out V32.out _ Hga.out ?_))
  clear e0 e32 ha hb' b64 t64
  go_wp2
  go_loopw [5] (fun v wr => ∃ i : Nat, i ≤ n ∧ v = .int .i64 i ∧ Below W.heap.size W wr) (fun v _ => n - (intOf v).toNat)
  case atStart => exact ⟨0, Nat.zero_le _, rfl, Below.refl _ _⟩
  case round =>
  unfold maxLen at hm
  obtain ⟨i, hi, rfl, hbr⟩ := hrel
  have hbW := hb.trans (hbr.mono hb.size)
  have hB' := hB.below hbr hl
  have hT' := hT.below hbr hl'
  have hrs := hbr.size
  have q65 := (hB'.cell 65).trans ((hB.cell 65).symm.trans b65); have q66 := (hB'.cell 66).trans ((hB.cell 66).symm.trans b66)
  have p65 := (hT'.cell 65).trans ((hT.cell 65).symm.trans t65); have p66 := (hT'.cell 66).trans ((hT.cell 66).symm.trans t66)
  have g1 := hB'.lt; have g2 := hT'.lt
  by_cases hlt : i < n
  · have hii : (i : Int) < n := by omega
    obtain ⟨tb, to', x, rfl, htb, hp, hcp⟩ := (HI.out.below hbr (Nat.le_refl _)).get (f := Ins.list) (fun _ => rfl) HL.out hlt
    obtain ⟨fb, fo, y, rfl, hfb, hfp, hcf⟩ := (HJ.out.below hbr (Nat.le_refl _)).get (f := Ins.list) (fun _ => rfl) HL.out hlt
    rw [hp] at hfp
    obtain rfl : x = y := by injection hfp
    have u0 := hcp 0 _ rfl; have u1 := hcp 1 _ rfl; have u2 := hcp 2 _ rfl; have u3 := hcp 3 _ rfl; have u4 := hcp 4 _ rfl
    have f0 := hcf 0 _ rfl; have f1 := hcf 1 _ rfl; have f2 := hcf 2 _ rfl; have f3 := hcf 3 _ rfl; have f4 := hcf 4 _ rfl
    simp only [Nat.add_zero] at u0 u1 u2 u3 u4 f0 f1 f2 f3 f4
    have htl := Nat.lt_of_lt_of_le htb hrs
    have hfl := Nat.lt_of_lt_of_le hfb hrs
    have hes := fun W => insSelf x.op x.mode x.ref x.path x.dst W
    clear hcp hcf hp hfp htb hfb b65 b66 t65 t66
    go_upto_region 6 with (fail)
    refine wp_region_ordB (none) [(0, true), (1, true), (2, true), (3, true), (4, true), (5, true), (6, true), (7, true), (8, true), (9, true), (10, true)] (by kernel_rfl) (by kernel_rfl) fun hG0 => ?_
    repeat (first
      | (refine ord_skipB rfl (by rfl) ?_; simp only [Act.put, List.setIfInBounds_toArray, List.set_cons_zero, List.set_cons_succ])
      | (refine ord_qE rfl (by rfl) ?_; apply Exists.intro; refine ⟨fun w' hc' => ?_, ?_⟩; (focus (go_simp; (try go_bits); (try simp only [↓IntWalk.iteOmega]); with_reducible rfl)); simp only [Act.put, List.setIfInBounds_toArray, List.set_cons_zero, List.set_cons_succ]))
    refine ord_end ?_
    have hbn := hbr.trans (below_grown hG0 hbr.size (fun g e => by cases e))
    have Hbn := Lib.hid hbn
    clear hbn hG0 u0 u1 u2 u3 u4 f0 f1 f2 f3 f4
    go_wp2
    go_roundw
    case rel => exact ⟨i + 1, by omega, by go_num, Hbn.out⟩
    case measure => simp [intOf]; omega
  have hii : ¬ (i : Int) < n := by omega
  clear b65 b66 t65 t66
  go_wp2
  refine wp_loop_rounds 1 ?_
  rw [rounds_succ]
  go_wp2
  go_ret
  exact ⟨rfl, hbW⟩
end Go.Proofs.YtgeiegjpnnbloaaDoor
