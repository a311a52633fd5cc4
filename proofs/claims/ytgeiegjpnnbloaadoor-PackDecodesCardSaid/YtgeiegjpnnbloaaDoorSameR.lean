/- shuntref19.Same of two scripts that are alike. -/
import Derived.Test.YtgeiegjpnnbloaaDoorDecP
import Derived.Test.YtgeiegjpnnbloaaDoorSameS
namespace Go.Proofs.YtgeiegjpnnbloaaDoor
open Go.ChangeShapes Go.WideShapes Go.ChangeAt Go.ChangeMaps Go.RowKit Go.Deep

theorem u8_itemsD (D : Nat) (l : List UInt8) (W : World) : ∀ (is : List Nat), (∀ i ∈ is, i < l.length) →
    (Op.eqItems (D + 1) 5 (Tryd.prog.cellsOf 5) (l.flatMap u8L).toArray (l.flatMap u8L).toArray is).run Tryd.prog W = .ok true W
  | [], _ => by simp [Op.eqItems]
  | i :: is, h => by
    have hc : Tryd.prog.cellsOf 5 = 1 := by kernel_rfl
    have hi := h i List.mem_cons_self
    have hg : (l.flatMap u8L).toArray[i]? = some (.int .u8 (l[i].toNat : Int)) := by
      rw [List.getElem?_toArray, ← map_u8, List.getElem?_map, List.getElem?_eq_getElem hi]
      rfl
    have hp := run_part_plain (P := Tryd.prog) W (e := 5) (by kernel_rfl) hg
    have ih := u8_itemsD D l W is fun j hj => h j (List.mem_cons_of_mem _ hj)
    rw [hc] at ih ⊢
    simp only [Op.eqItems, Sem.run_bind, Nat.mul_one, hp, Result.andThen_ok]
    rw [run_equalIn_int W D 5 .u8 .u8 _ _ Tryd.underlying5]
    simp only [Result.andThen_ok, beq_self_eq_true, Bool.not_true, Bool.false_eq_true, if_false]
    exact ih
theorem u8_sameD (D : Nat) (l : List UInt8) (hl : l.length = 32) (W : World) : (Op.equalIn (D + 2) 25 (.agg (l.flatMap u8L).toArray) (.agg (l.flatMap u8L).toArray)).run Tryd.prog W = .ok true W := by
  obtain ⟨i, hi⟩ : ∃ i, Tryd.prog.info? 5 = some i := Option.isSome_iff_exists.1 (show (Tryd.prog.info? 5).isSome = true by kernel_rfl)
  rw [run_equalIn_array W (D + 1) _ _ Tryd.underlying25 hi]
  exact u8_itemsD D l W _ fun i h => by rw [hl]; exact List.mem_range.1 h
theorem ref_sameD (D : Nat) (a : Int) (d : List UInt8) (hd : d.length = 32) (W : World) : (Op.equalIn (D + 3) 58 (.agg (refC (a, d)).toArray) (.agg (refC (a, d)).toArray)).run Tryd.prog W = .ok true W := by
  have hS : Tryd.prog.underlying 58 = some (.struct (Tryd.prog.fieldsOf 58)) := by kernel_rfl
  have hst : Tryd.prog.stoodInHeld 58 = false := by kernel_rfl
  have p0 := run_part_plain (P := Tryd.prog) W (e := 3) (by kernel_rfl) (xs := (refC (a, d)).toArray) (off := 0) (v := .int .i64 a) (by rw [List.getElem?_toArray]; rfl)
  have p1 : (part 25 (refC (a, d)).toArray 1).run Tryd.prog W = .ok (.agg (d.flatMap u8L).toArray) W := by
    have ht : (refC (a, d)).tail = d.flatMap u8L := rfl
    simp [part, isAgg, run_underlying Tryd.underlying25]
    rw [ht]
    exact List.take_of_length_le (by rw [u8_len, hd]; exact Nat.le_refl _)
  have e0 := run_equalIn_int (P := Tryd.prog) W (D + 1) 3 .i64 .i64 a a Tryd.underlying3
  have e1 := u8_sameD D d hd W
  rw [run_equalIn_agg W (D + 2) 58 _ _ hS hst]
  simp only [Program.fieldsOf, Tryd.underlying58]
  generalize (refC (a, d)).toArray = R at p0 p1
  generalize (d.flatMap u8L).toArray = G at p1 e1
  simp only [Op.eqFields]
  have n1 : ("At" : String) ≠ "_" := by decide
  have n2 : ("Sum" : String) ≠ "_" := by decide
  have e0' : (Op.equalIn (D + 2) 3 (.int .i64 a) (.int .i64 a)).run Tryd.prog W = .ok true W := by rw [show D + 2 = D + 1 + 1 from rfl, e0, beq_self_eq_true]
  rw [if_pos n1, if_pos n2]
  rw [Sem.run_bind, p0, Result.andThen_ok, Sem.run_bind, p0, Result.andThen_ok, Sem.run_bind, e0', Result.andThen_ok]
  rw [if_neg (by decide), Sem.run_bind, p1, Result.andThen_ok, Sem.run_bind, p1, Result.andThen_ok, Sem.run_bind, e1, Result.andThen_ok]
  rw [if_neg (by decide)]
  rfl
theorem ref_same (a : Int) (d : List UInt8) (hd : d.length = 32) (W : World) : (Op.equalIn 10000 58 (.agg (refC (a, d)).toArray) (.agg (refC (a, d)).toArray)).run Tryd.prog W = .ok true W := ref_sameD 9997 a d hd W
theorem exec_load_mid {o : Oper} {a : Act} {w : World} {ty : TypeId} {x : Operand} {b k : Nat} {d : TypeDesc} (ho : o.op = .load ty x) (hx : a.eval x = .pointer (some ⟨b, k, none⟩)) (cs : List Value) (hc : w.rangeAt b k cs)
    (hu : Tryd.prog.underlying ty = some d) (hd : d.isRow = true) (hi : (Tryd.prog.info? ty).map (·.size) = some cs.length) : (execOp a.eval o).run Tryd.prog w = .ok (.value (.agg cs.toArray)) w := by
  unfold execOp
  simp only [ho, hx, Instr.loadAt, Instr.sureAddr, Sem.run_bind, Sem.run_pure, Result.andThen_ok, run_loadVar_mid w b k ty cs d hc hu hd hi]
set_option maxRecDepth 100000 in
set_option maxHeartbeats 4000000 in
theorem same_all (s t : Scr) (w : World) (hs : ScrAt w s) (ht : ScrAt w t) (hf : t.frm = s.frm) (hg : t.goal = s.goal) (hpb : t.pb = s.pb) (hpi : t.pi = s.pi) (hil : t.il = s.il) (hins : t.ins = s.ins) (hrl : t.rl = s.rl) (hrefs : t.refs = s.refs) :
    Calls Tryd.prog 10 #[.agg s.C, .agg t.C] w fun e w' => e = .returned (.bool true) ∧ Below w.heap.size w w' := by
  obtain ⟨W, hW⟩ : ∃ W, W = (w.alloc (.cells s.C 30)).alloc (.cells t.C 30) := ⟨_, rfl⟩
  have hb : Below w.heap.size w W := by rw [hW]; exact ((Below.refl _ _).alloc (Nat.le_refl _) _).alloc (by simp) _
  have hB : Blk W w.heap.size 30 s.C := by rw [hW]; exact (Blk.new w _ _).alloc _
  have hT : Blk W (w.heap.size + 1) 30 t.C := by rw [hW]; have := Blk.new (w.alloc (.cells s.C 30)) 30 t.C; rw [World.size_alloc] at this; exact this
  obtain ⟨c64, c65, c66⟩ := Scr.cell hs.fl hs.gl
  obtain ⟨d64, d65, d66⟩ := Scr.cell ht.fl ht.gl
  have b64 := (hB.cell 64).trans c64; have b65 := (hB.cell 65).trans c65; have b66 := (hB.cell 66).trans c66
  have t64 := (hT.cell 64).trans d64; have t65 := (hT.cell 65).trans d65; have t66 := (hT.cell 66).trans d66
  obtain ⟨r0, r32⟩ := dig_at hB hs.fl hs.gl
  obtain ⟨v0, v32⟩ := dig_at hT ht.fl ht.gl
  have e0 := fun W => u8_same s.frm hs.fl W
  have e32 := fun W => u8_same s.goal hs.gl W
  rw [hf] at v0
  rw [hg] at v32
  have ha := ord_eq hs.pb; have hb' := ord_eq hs.pi
  rw [hpb, hpi] at t64
  rw [hil] at t65
  rw [hrl] at t66
  have HI := Lib.hid ((hs.is.below hb (Nat.le_refl _)).more hb.size)
  have HJ := (ht.is.below hb (Nat.le_refl _)).more hb.size
  rw [hil, hins] at HJ
  have HJ := Lib.hid HJ
  have HL := Lib.hid hs.il
  have hm := hs.im
  have hrm := hs.rm
  have HRI := Lib.hid ((hs.rs.below hb (Nat.le_refl _)).more hb.size)
  have HRJ := (ht.rs.below hb (Nat.le_refl _)).more hb.size
  rw [hrl, hrefs] at HRJ
  have HRJ := Lib.hid HRJ
  have HRL := Lib.hid hs.rl; have H32 := Lib.hid hs.r32
  have hl := hB.lt; have hl' := hT.lt
  obtain ⟨fa, hfa⟩ : ∃ x, (s.frm.flatMap u8L).toArray = x := ⟨_, rfl⟩
  obtain ⟨ga, hga⟩ : ∃ x, (s.goal.flatMap u8L).toArray = x := ⟨_, rfl⟩
  have Hfa := Lib.hid hfa; have Hga := Lib.hid hga
  have R0 := Lib.hid r0; have R32 := Lib.hid r32; have V0 := Lib.hid v0; have V32 := Lib.hid v32
  have Hfl := Lib.hid hs.fl; have Hgl := Lib.hid hs.gl
  simp only [hfa] at e0
  simp only [hga] at e32
  obtain ⟨x, hx⟩ : ∃ x, F s.pb = x := ⟨_, rfl⟩
  obtain ⟨y, hy⟩ : ∃ x, F s.pi = x := ⟨_, rfl⟩
  rw [hx] at ha; rw [hy] at hb'
  rw [hx, hy] at b64 t64
  obtain ⟨IA, hIA⟩ : ∃ x, s.IA = x := ⟨_, rfl⟩
  obtain ⟨JA, hJA⟩ : ∃ x, t.IA = x := ⟨_, rfl⟩
  obtain ⟨n, hn⟩ : ∃ x, s.il = x := ⟨_, rfl⟩
  obtain ⟨ic, hic⟩ : ∃ x, s.ic = x := ⟨_, rfl⟩
  obtain ⟨jc, hjc⟩ : ∃ x, t.ic = x := ⟨_, rfl⟩
  obtain ⟨xs, hxs⟩ : ∃ x, s.ins = x := ⟨_, rfl⟩
  obtain ⟨ra, hra⟩ : ∃ x, s.RA = x := ⟨_, rfl⟩
  obtain ⟨rc, hrc⟩ : ∃ x, s.rc = x := ⟨_, rfl⟩
  obtain ⟨rn, hrn⟩ : ∃ x, s.rl = x := ⟨_, rfl⟩
  obtain ⟨rs, hrs'⟩ : ∃ x, s.refs = x := ⟨_, rfl⟩
  obtain ⟨rb, hrb⟩ : ∃ x, t.RA = x := ⟨_, rfl⟩
  obtain ⟨rd, hrd⟩ : ∃ x, t.rc = x := ⟨_, rfl⟩
  obtain ⟨sC, hsC⟩ : ∃ x, s.C = x := ⟨_, rfl⟩
  obtain ⟨tC, htC⟩ : ∃ x, t.C = x := ⟨_, rfl⟩
  rw [hIA, hn, hic] at b65; rw [hJA, hn, hjc] at t65
  rw [hra, hrn, hrc] at b66; rw [hrb, hrn, hrd] at t66
  rw [hra, hrn, hrs'] at HRI; rw [hrb, hrn, hrs'] at HRJ
  rw [hrn, hrs'] at HRL; rw [hrs'] at H32; rw [hrn] at hrm
  rw [hIA, hn, hxs] at HI; rw [hJA, hn, hxs] at HJ
  rw [hn, hxs] at HL; rw [hn] at hm
  rw [hsC] at hB hW ⊢
  rw [htC] at hT hW ⊢
  clear hfa hga hx hy hIA hJA hn hic hjc hxs hra hrc hrb hrd hrn hrs' hsC htC c64 c65 c66 d64 d65 d66 r0 r32 v0 v32 hf hg hpb hpi hil hins hrl hrefs hs ht
  go_enter Tryd.func10, Tryd.ntmps10
  go_upto_region 1 with (fail)
  rw [← hW]
  clear hW
  go_upto_region 3 with (first | (refine wpList_load_dig rfl (.tmp 7) rfl _ _ rfl _ Hfl.out R0.out _ Hfa.out ?_) | (refine wpList_load_dig rfl (.tmp 9) rfl _ _ rfl _ Hfl.out V0.out _ Hfa.out ?_) | (refine wpList_load_dig rfl (.tmp 13) rfl _ _ rfl _ Hgl.out R32.out _ Hga.out ?_) | (refine wpList_load_dig rfl (.tmp 15) rfl _ _ rfl _ Hgl.out V32.out _ Hga.out ?_))
  clear e0 e32 ha hb' b64 t64
  go_wp2
  go_loopw [5] (fun v wr => ∃ i : Nat, i ≤ n ∧ v = .int .i64 i ∧ Below W.heap.size W wr) (fun v _ => n - (intOf v).toNat)
  case atStart => exact ⟨0, Nat.zero_le _, rfl, Below.refl _ _⟩
  case round =>
  unfold maxLen at hm
  obtain ⟨i, hi, rfl, hbr⟩ := hrel
  have hbW := hb.trans (hbr.mono hb.size)
  have hB' := hB.below hbr hl
  have hT' := hT.below hbr hl'
  have hrs := hbr.size
  have q65 := (hB'.cell 65).trans ((hB.cell 65).symm.trans b65); have q66 := (hB'.cell 66).trans ((hB.cell 66).symm.trans b66)
  have p65 := (hT'.cell 65).trans ((hT.cell 65).symm.trans t65); have p66 := (hT'.cell 66).trans ((hT.cell 66).symm.trans t66)
  have g1 := hB'.lt; have g2 := hT'.lt
  by_cases hlt : i < n
  · have hii : (i : Int) < n := by omega
    obtain ⟨tb, to', x, rfl, htb, hp, hcp⟩ := (HI.out.below hbr (Nat.le_refl _)).get (f := Ins.list) (fun _ => rfl) HL.out hlt
    obtain ⟨fb, fo, y, rfl, hfb, hfp, hcf⟩ := (HJ.out.below hbr (Nat.le_refl _)).get (f := Ins.list) (fun _ => rfl) HL.out hlt
    rw [hp] at hfp
    obtain rfl : x = y := by injection hfp
    have u0 := hcp 0 _ rfl; have u1 := hcp 1 _ rfl; have u2 := hcp 2 _ rfl; have u3 := hcp 3 _ rfl; have u4 := hcp 4 _ rfl
    have f0 := hcf 0 _ rfl; have f1 := hcf 1 _ rfl; have f2 := hcf 2 _ rfl; have f3 := hcf 3 _ rfl; have f4 := hcf 4 _ rfl
    simp only [Nat.add_zero] at u0 u1 u2 u3 u4 f0 f1 f2 f3 f4
    have htl := Nat.lt_of_lt_of_le htb hrs
    have hfl := Nat.lt_of_lt_of_le hfb hrs
    have hes := fun W => insSelf x.op x.mode x.ref x.path x.dst W
    clear hcp hcf hp hfp htb hfb b65 b66 t65 t66
    go_upto_region 6 with (fail)
    refine wp_region_ordB (none) [(0, true), (1, true), (2, true), (3, true), (4, true), (5, true), (6, true), (7, true), (8, true), (9, true), (10, true)] (by kernel_rfl) (by kernel_rfl) fun hG0 => ?_
    repeat (first
      | (refine ord_skipB rfl (by rfl) ?_; simp only [Act.put, List.setIfInBounds_toArray, List.set_cons_zero, List.set_cons_succ])
      | (refine ord_qE rfl (by rfl) ?_; apply Exists.intro; refine ⟨fun w' hc' => ?_, ?_⟩; (focus (go_simp; (try go_bits); (try simp only [↓IntWalk.iteOmega]); with_reducible rfl)); simp only [Act.put, List.setIfInBounds_toArray, List.set_cons_zero, List.set_cons_succ]))
    refine ord_end ?_
    have hbn := hbr.trans (below_grown hG0 hbr.size (fun g e => by cases e))
    have Hbn := Lib.hid hbn
    clear hbn hG0 u0 u1 u2 u3 u4 f0 f1 f2 f3 f4
    go_wp2
    go_roundw
    case rel => exact ⟨i + 1, by omega, by go_num, Hbn.out⟩
    case measure => simp [intOf]; omega
  have hii : ¬ (i : Int) < n := by omega
  have HQ66 := Lib.hid ((hB.cell 66).symm.trans b66); have HP66 := Lib.hid ((hT.cell 66).symm.trans t66)
  clear b65 b66 t65 t66
  have HbW := Lib.hid hbW
  obtain ⟨V, hV⟩ : ∃ V, V = wr := ⟨_, rfl⟩
  subst hV
  have Hbr := Lib.hid hbr
  have hVs := hbW.size
  clear hi hlt hbr
  go_wp2
  clear q65 q66 p65 p66
  go_loopw [6] (fun v wr => ∃ i : Nat, i ≤ rn ∧ v = .int .i64 i ∧ V.grownBy wr none) (fun v _ => rn - (intOf v).toNat)
  case atStart => exact ⟨0, Nat.zero_le _, rfl, World.grownBy.refl _ _⟩
  case round =>
  obtain ⟨j, hj, rfl, hgX⟩ := hrel
  unfold maxLen at hrm
  obtain ⟨X, hX⟩ : ∃ X, X = wr := ⟨_, rfl⟩
  subst hX
  have hbX : Below V.heap.size V X := below_grown hgX (Nat.le_refl _) (fun q e => by cases e)
  have hbWX := Hbr.out.trans (hbX.mono hrs)
  have hB2 := hB'.below hbX g1
  have hT2 := hT'.below hbX g2
  have q66 : X.cell? ⟨w.heap.size, 66, none⟩ = some (.slice ra rn rc) := (hB2.cell 66).trans HQ66.out
  have p66 : X.cell? ⟨w.heap.size + 1, 66, none⟩ = some (.slice rb rn rd) := (hT2.cell 66).trans HP66.out
  have g3 := hB2.lt; have g4 := hT2.lt
  have hxs := hbX.size
  by_cases hlt : j < rn
  · have hji : (j : Int) < rn := by omega
    obtain ⟨tb, to', r, rfl, htb, hr, hrr⟩ := Sl.getR (HRI.out.below hbWX (Nat.le_refl _)) HRL.out H32.out hlt
    obtain ⟨fb, fo, r', rfl, hfb, hr', hrr'⟩ := Sl.getR (HRJ.out.below hbWX (Nat.le_refl _)) HRL.out H32.out hlt
    rw [hr] at hr'
    injection hr' with hr'
    subst hr'
    have h32 := H32.out r (List.mem_of_getElem? hr)
    have hrlen := refC_len h32
    obtain ⟨rva, rvd⟩ := r
    have hes := fun W => ref_same rva rvd h32 W
    obtain ⟨LR, hLR⟩ : ∃ L, refC (rva, rvd) = L := ⟨_, rfl⟩
    rw [hLR] at hrr hrr' hrlen
    simp only [hLR] at hes
    have htl : tb < X.heap.size := by omega
    have hfl : fb < X.heap.size := by omega
    have HA1 := Lib.hid hrr; have HA2 := Lib.hid hrr'; have HLn := Lib.hid hrlen
    clear hr hrr hrr' hLR hrlen
    go_upto_region 11 with (fail)
    refine wp_region_ordB (none) [(0, true), (1, true), (2, true), (3, true), (4, true), (5, true), (6, true), (7, true), (8, true), (9, true), (10, true)] (by kernel_rfl) (by kernel_rfl) fun hG0 => ?_
    repeat (first
      | (refine ord_skipB rfl (by rfl) ?_; simp only [Act.put, List.setIfInBounds_toArray, List.set_cons_zero, List.set_cons_succ])
      | (first | (refine ord_qB rfl (by rfl) (fun w' hh => exec_load_mid (b := tb) (k := to' + j * 33) rfl rfl LR (fun i v hv => (hh _ _ htl (by simp)).trans (HA1.out i v hv)) Tryd.underlying58 rfl (by rw [HLn.out]; kernel_rfl)) ?_; simp only [Act.put, List.setIfInBounds_toArray, List.set_cons_zero, List.set_cons_succ]) | (refine ord_qB rfl (by rfl) (fun w' hh => exec_load_mid (b := fb) (k := fo + j * 33) rfl rfl LR (fun i v hv => (hh _ _ hfl (by simp)).trans (HA2.out i v hv)) Tryd.underlying58 rfl (by rw [HLn.out]; kernel_rfl)) ?_; simp only [Act.put, List.setIfInBounds_toArray, List.set_cons_zero, List.set_cons_succ]))
      | (refine ord_qE rfl (by rfl) ?_; apply Exists.intro; refine ⟨fun w' hc' => ?_, ?_⟩; (focus (go_simp; (try go_bits); (try simp only [↓IntWalk.iteOmega]); with_reducible rfl)); simp only [Act.put, List.setIfInBounds_toArray, List.set_cons_zero, List.set_cons_succ]))
    refine ord_end ?_
    have hgN := grown_trans hgX hG0
    go_wp2
    go_roundw
    case rel => exact ⟨j + 1, by omega, by go_num, hgN⟩
    case measure => simp [intOf]; omega
  have hji : ¬ (j : Int) < rn := by omega
  go_wp2
  go_ret
  exact ⟨rfl, HbW.out.trans (hbX.mono hVs)⟩
end Go.Proofs.YtgeiegjpnnbloaaDoor
