/- pack.script at bytes that Encode wrote of a script that only syncs: the walk. -/
import Derived.Test.YtgeiegjpnnbloaaDoorScript
import Derived.Test.YtgeiegjpnnbloaaDoorTreeD
namespace Go.Proofs.YtgeiegjpnnbloaaDoor
open Go.ChangeShapes Go.WideShapes Go.ChangeAt Go.ChangeMaps Go.RowKit Go.Deep

theorem Sl.grownN {w w' : World} {B sz n : Nat} {A : Option Addr} {L : List Value} (h : Sl w B sz A n L) (hg : w.grownBy w' none) (hB : B ≤ w.heap.size) : Sl w' B sz A n L := h.below (below_grown hg hB (fun g e => by cases e)) (Nat.le_refl _)
theorem copy_frm {t : Scr} (h : t.frm.length = 32) {l : List UInt8} : (t.C.toList.take 0 ++ l.flatMap u8L ++ t.C.toList.drop (0 + 32)).toArray = (⟨l, t.goal, t.pb, t.pi, t.ins, t.refs, t.IA, t.il, t.ic, t.RA, t.rl, t.rc⟩ : Scr).C := by
  have e1 : (t.frm.flatMap u8L).length = 32 := by rw [u8_len, h]
  unfold Scr.C Scr.L
  rw [List.take_zero, List.nil_append, Nat.zero_add]
  congr 1
  rw [List.drop_left' e1]
theorem copy_goal {t : Scr} (h : t.frm.length = 32) (hg : t.goal.length = 32) {l : List UInt8} : (t.C.toList.take 32 ++ l.flatMap u8L ++ t.C.toList.drop (32 + 32)).toArray = (⟨t.frm, l, t.pb, t.pi, t.ins, t.refs, t.IA, t.il, t.ic, t.RA, t.rl, t.rc⟩ : Scr).C := by
  have e1 : (t.frm.flatMap u8L).length = 32 := by rw [u8_len, h]
  have e2 : (t.goal.flatMap u8L).length = 32 := by rw [u8_len, hg]
  unfold Scr.C Scr.L
  congr 1
  simp only
  rw [List.take_left' e1, ← List.drop_drop, List.drop_left' e1, List.drop_left' e2, List.append_assoc]
theorem set_peak {t : Scr} (h : t.frm.length = 32) (hg : t.goal.length = 32) {p q : Int} : t.C.setIfInBounds 64 (.complex .f64 (F p) (F q)) = (⟨t.frm, t.goal, p, q, t.ins, t.refs, t.IA, t.il, t.ic, t.RA, t.rl, t.rc⟩ : Scr).C := by
  have e1 : (t.frm.flatMap u8L).length = 32 := by rw [u8_len, h]
  have e2 : (t.goal.flatMap u8L).length = 32 := by rw [u8_len, hg]
  unfold Scr.C Scr.L
  rw [List.setIfInBounds_toArray, List.set_append_right _ _ (by omega), List.set_append_right _ _ (by omega)]
  congr 3
  rw [show 64 - (t.frm.flatMap u8L).length - (t.goal.flatMap u8L).length = 0 by omega]
  rfl
theorem set_ins {t : Scr} (h : t.frm.length = 32) (hg : t.goal.length = 32) {l : List Ins} {A : Option Addr} {n c : Nat} : t.C.setIfInBounds 65 (.slice A n c) = (⟨t.frm, t.goal, t.pb, t.pi, l, t.refs, A, n, c, t.RA, t.rl, t.rc⟩ : Scr).C := by
  have e1 : (t.frm.flatMap u8L).length = 32 := by rw [u8_len, h]
  have e2 : (t.goal.flatMap u8L).length = 32 := by rw [u8_len, hg]
  unfold Scr.C Scr.L
  rw [List.setIfInBounds_toArray, List.set_append_right _ _ (by omega), List.set_append_right _ _ (by omega)]
  congr 3
  rw [show 65 - (t.frm.flatMap u8L).length - (t.goal.flatMap u8L).length = 1 by omega]
  rfl
theorem Blk.ne_rowP {w : World} {nb base e sz n c : Nat} {t : TypeId} {cs : Array Value} {A : Option Addr} {L : List Value} (hN : Blk w nb t cs) (ho : w.ownsRow base e sz (.slice A n c) n L) (hne : t ≠ e) : ¬ some nb = blkOf A := fun h => by
  rcases ho.2 with ⟨hv, _⟩ | ⟨g, cap, cur, hv, _, hg, _⟩
  · injection hv with h1; rw [h1] at h; cases h
  · injection hv with h1
    rw [h1] at h
    have e2 : some nb = some g := h
    injection e2 with e2
    subst e2
    unfold Blk at hN
    rw [hN] at hg
    injection hg with hg
    injection hg with _ h3
    exact hne h3
theorem RdAt.gen {w w' : World} {g B n c : Nat} {A : Option Addr} {l : List UInt8} {row : Option Nat} (h : RdAt w g B A n c l) (hg : w.grownBy w' row) (hq : row ≠ some g) (hB : ∀ q, row = some q → B ≤ q) : RdAt w' g B A n c l :=
  ⟨h.blk.keep (hg.block g h.blk.lt (fun e => hq e.symm)), h.sl.below (below_grown (B := B) hg (by have := h.Bg; have := h.blk.lt; omega) hB) (Nat.le_refl _), h.len, h.nc, h.cm, h.Bg⟩
theorem bytes_size (l : List UInt8) : (⟨l.toArray⟩ : ByteArray).size = l.length := List.size_toArray
theorem Scr.one (s : Scr) : s.C.all (·.oneCell') = true := by
  rw [Array.all_eq_true_iff_forall_mem]
  intro v hv
  unfold Scr.C Scr.L at hv
  rw [List.mem_toArray, List.mem_append, List.mem_append] at hv
  rcases hv with h | h | h
  · exact u8_one _ v h
  · exact u8_one _ v h
  · simp only [List.mem_cons, List.not_mem_nil, or_false] at h
    rcases h with rfl | rfl | rfl <;> rfl
theorem bytes_u8 (l : List UInt8) : bytesC ⟨l.toArray⟩ = l.flatMap u8L := map_u8 l
/-- While records are read. -/
def stepScr (s : Scr) (j : Nat) (IA : Option Addr) (ic : Nat) : Scr := ⟨s.frm, s.goal, s.pb, s.pi, s.ins.take j, [], IA, j, ic, none, 0, 0⟩
structure MoreW (s : Scr) (z : Nat) (w : World) (j g : Nat) (IA : Option Addr) (ic : Nat) (A' : Option Addr) (n' c' : Nat) (wr : World) : Prop where
  blk : Blk wr w.heap.size 30 (stepScr s j IA ic).C
  row : wr.ownsRow (w.heap.size + 1) 42 5 (.slice IA j ic) j (insL (s.ins.take j))
  rd : RdAt wr g w.heap.size A' n' c' ((s.ins.drop j).flatMap recL ++ leB (z : Int) 4)
  below : Below w.heap.size w wr
  gl : w.heap.size < g
def MoreAt (s : Scr) (z : Nat) (A : Option Addr) (k c : Nat) (w : World) (a : Act) (wr : World) : Prop :=
  ∃ (u : Nat → Value) (j g : Nat) (IA : Option Addr) (ic : Nat) (A' : Option Addr) (n' c' : Nat), a = ⟨List.toArray (.slice A (k + 4) c :: u 1 :: .pointer (some ⟨w.heap.size, 0, none⟩) :: .nilIface :: .pointer (some ⟨g, 0, none⟩) :: .int .i64 s.il :: .int .i64 0 :: u 7 :: u 8 :: u 9 :: u 10 :: u 11 :: u 12 :: u 13 :: u 14 :: u 15 :: u 16 :: u 17 :: u 18 :: u 19 :: u 20 :: u 21 :: u 22 :: u 23 :: u 24 :: u 25 :: u 26 :: u 27 :: u 28 :: u 29 :: u 30 :: u 31 :: u 32 :: u 33 :: u 34 :: u 35 :: u 36 :: u 37 :: u 38 :: u 39 :: u 40 :: u 41 :: u 42 :: u 43 :: u 44 :: u 45 :: u 46 :: u 47 :: u 48 :: u 49 :: u 50 :: u 51 :: u 52 :: u 53 :: u 54 :: u 55 :: u 56 :: u 57 :: u 58 :: u 59 :: u 60 :: u 61 :: u 62 :: u 63 :: u 64 :: u 65 :: u 66 :: u 67 :: u 68 :: u 69 :: u 70 :: u 71 :: u 72 :: u 73 :: u 74 :: u 75 :: u 76 :: u 77 :: u 78 :: u 79 :: u 80 :: u 81 :: u 82 :: u 83 :: u 84 :: u 85 :: u 86 :: u 87 :: u 88 :: u 89 :: u 90 :: u 91 :: u 92 :: u 93 :: u 94 :: u 95 :: u 96 :: u 97 :: u 98 :: u 99 :: u 100 :: u 101 :: u 102 :: u 103 :: u 104 :: u 105 :: u 106 :: u 107 :: u 108 :: u 109 :: u 110 :: u 111 :: u 112 :: u 113 :: u 114 :: u 115 :: u 116 :: u 117 :: u 118 :: u 119 :: u 120 :: u 121 :: u 122 :: u 123 :: u 124 :: u 125 :: u 126 :: u 127 :: u 128 :: u 129 :: []), []⟩ ∧ j ≤ s.il ∧ MoreW s z w j g IA ic A' n' c' wr
theorem MoreAt.mk {s : Scr} {z : Nat} {A : Option Addr} {k c : Nat} {w : World} {a : Act} {wr : World} (j g : Nat) (IA : Option Addr) (ic : Nat) (A' : Option Addr) (n' c' : Nat) (h : a = ⟨List.toArray (.slice A (k + 4) c :: a.tmps.getD 1 undef :: .pointer (some ⟨w.heap.size, 0, none⟩) :: .nilIface :: .pointer (some ⟨g, 0, none⟩) :: .int .i64 s.il :: .int .i64 0 :: a.tmps.getD 7 undef :: a.tmps.getD 8 undef :: a.tmps.getD 9 undef :: a.tmps.getD 10 undef :: a.tmps.getD 11 undef :: a.tmps.getD 12 undef :: a.tmps.getD 13 undef :: a.tmps.getD 14 undef :: a.tmps.getD 15 undef :: a.tmps.getD 16 undef :: a.tmps.getD 17 undef :: a.tmps.getD 18 undef :: a.tmps.getD 19 undef :: a.tmps.getD 20 undef :: a.tmps.getD 21 undef :: a.tmps.getD 22 undef :: a.tmps.getD 23 undef :: a.tmps.getD 24 undef :: a.tmps.getD 25 undef :: a.tmps.getD 26 undef :: a.tmps.getD 27 undef :: a.tmps.getD 28 undef :: a.tmps.getD 29 undef :: a.tmps.getD 30 undef :: a.tmps.getD 31 undef :: a.tmps.getD 32 undef :: a.tmps.getD 33 undef :: a.tmps.getD 34 undef :: a.tmps.getD 35 undef :: a.tmps.getD 36 undef :: a.tmps.getD 37 undef :: a.tmps.getD 38 undef :: a.tmps.getD 39 undef :: a.tmps.getD 40 undef :: a.tmps.getD 41 undef :: a.tmps.getD 42 undef :: a.tmps.getD 43 undef :: a.tmps.getD 44 undef :: a.tmps.getD 45 undef :: a.tmps.getD 46 undef :: a.tmps.getD 47 undef :: a.tmps.getD 48 undef :: a.tmps.getD 49 undef :: a.tmps.getD 50 undef :: a.tmps.getD 51 undef :: a.tmps.getD 52 undef :: a.tmps.getD 53 undef :: a.tmps.getD 54 undef :: a.tmps.getD 55 undef :: a.tmps.getD 56 undef :: a.tmps.getD 57 undef :: a.tmps.getD 58 undef :: a.tmps.getD 59 undef :: a.tmps.getD 60 undef :: a.tmps.getD 61 undef :: a.tmps.getD 62 undef :: a.tmps.getD 63 undef :: a.tmps.getD 64 undef :: a.tmps.getD 65 undef :: a.tmps.getD 66 undef :: a.tmps.getD 67 undef :: a.tmps.getD 68 undef :: a.tmps.getD 69 undef :: a.tmps.getD 70 undef :: a.tmps.getD 71 undef :: a.tmps.getD 72 undef :: a.tmps.getD 73 undef :: a.tmps.getD 74 undef :: a.tmps.getD 75 undef :: a.tmps.getD 76 undef :: a.tmps.getD 77 undef :: a.tmps.getD 78 undef :: a.tmps.getD 79 undef :: a.tmps.getD 80 undef :: a.tmps.getD 81 undef :: a.tmps.getD 82 undef :: a.tmps.getD 83 undef :: a.tmps.getD 84 undef :: a.tmps.getD 85 undef :: a.tmps.getD 86 undef :: a.tmps.getD 87 undef :: a.tmps.getD 88 undef :: a.tmps.getD 89 undef :: a.tmps.getD 90 undef :: a.tmps.getD 91 undef :: a.tmps.getD 92 undef :: a.tmps.getD 93 undef :: a.tmps.getD 94 undef :: a.tmps.getD 95 undef :: a.tmps.getD 96 undef :: a.tmps.getD 97 undef :: a.tmps.getD 98 undef :: a.tmps.getD 99 undef :: a.tmps.getD 100 undef :: a.tmps.getD 101 undef :: a.tmps.getD 102 undef :: a.tmps.getD 103 undef :: a.tmps.getD 104 undef :: a.tmps.getD 105 undef :: a.tmps.getD 106 undef :: a.tmps.getD 107 undef :: a.tmps.getD 108 undef :: a.tmps.getD 109 undef :: a.tmps.getD 110 undef :: a.tmps.getD 111 undef :: a.tmps.getD 112 undef :: a.tmps.getD 113 undef :: a.tmps.getD 114 undef :: a.tmps.getD 115 undef :: a.tmps.getD 116 undef :: a.tmps.getD 117 undef :: a.tmps.getD 118 undef :: a.tmps.getD 119 undef :: a.tmps.getD 120 undef :: a.tmps.getD 121 undef :: a.tmps.getD 122 undef :: a.tmps.getD 123 undef :: a.tmps.getD 124 undef :: a.tmps.getD 125 undef :: a.tmps.getD 126 undef :: a.tmps.getD 127 undef :: a.tmps.getD 128 undef :: a.tmps.getD 129 undef :: []), []⟩) (hj : j ≤ s.il) (hw : MoreW s z w j g IA ic A' n' c' wr) : MoreAt s z A k c w a wr :=
  ⟨fun i => a.tmps.getD i undef, j, g, IA, ic, A', n', c', h, hj, hw⟩
def moreMu (s : Scr) (z : Nat) (_ : Act) (wr : World) : Nat := s.il - (match wr.cell? ⟨z, 65, none⟩ with | some (.slice _ m _) => m | _ => 0)
def ScriptRes (s : Scr) (w : World) (e : Ending) (w' : World) : Prop := ∃ IA ic, e = .returned (.tuple #[.agg (stepScr s s.il IA ic).C, .nilIface]) ∧ ScrAt w' (stepScr s s.il IA ic) ∧ w'.ownsRow (w.heap.size + 1) 42 5 (.slice IA s.il ic) s.il (insL (s.ins.take s.il)) ∧ Below w.heap.size w w'
set_option maxRecDepth 100000 in
set_option maxHeartbeats 8000000 in
theorem script_ok (s : Scr) (hs : ∀ x ∈ s.ins, x = syncI) (hr : s.rl = 0) (hfl : s.frm.length = 32) (hgl : s.goal.length = 32) (hp1 : 0 ≤ s.pb ∧ s.pb ≤ 4294967295) (hp2 : 0 ≤ s.pi ∧ s.pi ≤ 4294967295) (hil : s.il ≤ 4096) (hrf : s.refs = []) (hlen : s.ins.length = s.il) (A : Option Addr) (k c : Nat) (w : World) (hS : Sl w w.heap.size 1 A (k + 4) ((encL s).flatMap u8L)) (hn : (bodyE s).length = k) (hnc : k + 4 ≤ c) (hcm : c ≤ maxLen) (h85 : 81 ≤ k) :
    Calls Tryd.prog 12 #[.slice A (k + 4) c] w (ScriptRes s w) := by
  unfold maxLen at hcm
  have hki : ¬ (k : Int) + 4 < 85 := by omega
  have hkc : k < c := by omega
  have hkc2 : (k : Int) < c := by omega
  have hkc3 : (k : Int) ≤ c := by omega
  have HN := Lib.hid hn
  have HS := Lib.hid hS
  have hS1 := hS.first (k := k) (by omega)
  rw [Nat.mul_one, u8_take] at hS1
  have htk : (encL s).take k = bodyE s := by unfold encL; exact List.take_left' hn
  have hdr : (encL s).drop k = leB (crcF (bodyE s)).toNat 4 := by unfold encL; exact List.drop_left' hn
  rw [htk] at hS1
  have hS2 := hS.rest1 (k := k) (c := c) (by omega) (by omega)
  rw [Nat.add_sub_cancel_left, u8_drop, hdr] at hS2
  have hcrc := (crcF (bodyE s)).isLt
  obtain ⟨z, hz⟩ : ∃ z, (crcF (bodyE s)).toNat = z := ⟨_, rfl⟩
  have hval : deN ((leB (z : Int) 4).take 4) = z := by
    rw [List.take_of_length_le (by rw [leB_len]; exact Nat.le_refl _), deN_leB]
    omega
  rw [hz] at hS2
  unfold restA at hS2
  rw [if_neg (show ¬ c = k by omega)] at hS2
  have hzz : ((z : Int) != z) = false := by simp
  have HS1 := Lib.hid hS1; have HS2 := Lib.hid hS2; have HV := Lib.hid hval; have HZ := Lib.hid hz
  clear hS hn hS1 hS2 htk hdr hz hval
  obtain ⟨W0, hW0⟩ : ∃ W, W = w.alloc (.cells Tryd.zeroCells30 30) := ⟨_, rfl⟩
  have hb0 : Below w.heap.size w W0 := by rw [hW0]; exact (Below.refl _ _).alloc (Nat.le_refl _) _
  have hZ0 : Blk W0 w.heap.size 30 zeroScr.C := by rw [hW0, ← zero_cells]; exact Blk.new w _ _
  have HW := Lib.hid hW0
  clear hW0
  have hs0 := hb0.size
  have hZl := hZ0.lt
  go_enter Tryd.func12, Tryd.ntmps12
  go_upto_region 1 with (fail)
  rw [← HW.out]
  go_wp2
  refine wp_scope_J 1 (MoreAt s z A k c w) (moreMu s w.heap.size) (by rfl) ?_ fun pass => ?_
  · rintro a wr ⟨u, j, g, IA, ic, A', n', c', rfl, hj, hM⟩
    obtain ⟨c64, c65, c66⟩ := Scr.cell (s := stepScr s j IA ic) hfl hgl
    obtain ⟨C, hC⟩ : ∃ C, (stepScr s j IA ic).C = C := ⟨_, rfl⟩
    rw [hC] at c65 c66
    simp only [stepScr] at c65 c66
    have HC := Lib.hid hC; have HM := Lib.hid hM
    have hBz := hM.blk
    rw [hC] at hBz
    have hgz := hM.gl
    have b65 := (hBz.cell 65).trans c65
    have b66 := (hBz.cell 66).trans c66
    have r1 := hM.rd.blk.cell 1
    have hBl := hBz.lt
    have hrl := hM.rd.blk.lt
    clear hC hM c64
    by_cases hlt : j < s.il
    · have hji : (j : Int) < s.il := by omega
      have HLt := Lib.hid hlt
      go_upto_region 22 with (fail)
      have hjl : j < s.ins.length := by omega
      have hxj : s.ins[j]? = some syncI := by rw [List.getElem?_eq_getElem hjl, hs _ (List.getElem_mem hjl)]
      have hdrop : (s.ins.drop j).flatMap recL ++ leB (z : Int) 4 = recL syncI ++ ((s.ins.drop (j + 1)).flatMap recL ++ leB (z : Int) 4) := by
        rw [List.drop_eq_getElem_cons hjl, hs _ (List.getElem_mem hjl), List.flatMap_cons, List.append_assoc]
      have htake : s.ins.take (j + 1) = s.ins.take j ++ [syncI] := by rw [List.take_add_one, hxj]; rfl
      have hrd := HM.out.rd
      rw [hdrop] at hrd
      have HTk := Lib.hid htake
      have hrow := HM.out.row
      have hneR : ¬ some g = blkOf IA := HM.out.rd.blk.ne_rowP hrow (by decide)
      have hneZ : ¬ some w.heap.size = blkOf IA := hBz.ne_rowP hrow (by decide)
      have HRow := Lib.hid hrow
      clear hdrop htake hxj hrow b65 b66 r1
      refine wp_region_tailS (fun w' => Blk w' w.heap.size 30 C) [(0, true), (1, true), (2, true), (3, false), (4, false), (5, false), (6, true)] 7 (by kernel_rfl) (by kernel_rfl) hBz ?_
      repeat (first
        | (refine ord_skipB rfl (by rfl) ?_; simp only [Act.put, List.setIfInBounds_toArray, List.set_cons_zero, List.set_cons_succ])
        | (refine ord_qS rfl (by rfl) ?_; apply Exists.intro; refine ⟨fun w' hc' => ?_, ?_⟩; (focus (have b65' := (Blk.cell hc' 65).trans c65; have bl' := Blk.lt hc'; go_simp; (try go_bits); (try simp only [↓IntWalk.iteOmega]); with_reducible rfl)); simp only [Act.put, List.setIfInBounds_toArray, List.set_cons_zero, List.set_cons_succ]))
      refine ord_eB rfl fun K hK => ?_
      go_wp2_with (go_at_call 24; refine (ins_sync g w.heap.size A' n' c' _ _ (hrd.none (grown_drew _ none))).mono ?_; rintro e w1 ⟨rfl, ⟨A1, hr1⟩, hg1⟩)
      replace hg1 : wr.grownBy w1 (some g) := grown_trans (grown_drew wr (some g)) hg1
      have hB1 := hBz.keep (hg1.block w.heap.size hBl (fun e => by injection e with e; omega))
      have ho1 := own_keep HRow.out (fun q o e => hg1.block q (own_in HRow.out q o e) (fun e2 => hneR (by rw [e]; exact e2.symm)))
      refine hK.out _ _ hB1 ?_
      clear hK K
      repeat (first
        | (refine ord_skipB rfl (by rfl) ?_; simp only [Act.put, List.setIfInBounds_toArray, List.set_cons_zero, List.set_cons_succ])
        | (refine ord_qS rfl (by rfl) ?_; apply Exists.intro; refine ⟨fun w' hc' => ?_, ?_⟩; (focus (have b65' := (Blk.cell hc' 65).trans c65; have bl' := Blk.lt hc'; go_simp; (try go_bits); (try simp only [↓IntWalk.iteOmega]); with_reducible rfl)); simp only [Act.put, List.setIfInBounds_toArray, List.set_cons_zero, List.set_cons_succ]))
      refine ord_eB rfl fun K hK => ?_
      go_wp2_with (fail)
      refine hK.out _ _ (hB1.alloc _) ?_
      clear hK K
      repeat (first
        | (refine ord_skipB rfl (by rfl) ?_; simp only [Act.put, List.setIfInBounds_toArray, List.set_cons_zero, List.set_cons_succ])
        | (refine ord_qS rfl (by rfl) ?_; apply Exists.intro; refine ⟨fun w' hc' => ?_, ?_⟩; (focus (have b65' := (Blk.cell hc' 65).trans c65; have bl' := Blk.lt hc'; go_simp; (try go_bits); (try simp only [↓IntWalk.iteOmega]); with_reducible rfl)); simp only [Act.put, List.setIfInBounds_toArray, List.set_cons_zero, List.set_cons_succ]))
      refine ord_eB rfl fun K hK => ?_
      have hw1 : w.heap.size + 1 ≤ w1.heap.size := by have := hg1.size; omega
      go_wp2_with (at_builtin; refine wpList_append_one rfl _ _ _ rfl Tryd.insT rfl ho1 syncI.cells rfl (by first | rfl | simp) rfl (Ins.cells_one _) (by unfold maxLen; omega) (by omega) hw1 ?_; intro g5 c5 w5 ho5 hg5 hat5)
      have hB5 := hB1.keep (hg5.block w.heap.size hB1.lt (fun e => hneZ e))
      refine hK.out _ _ hB5 ?_
      clear hK K
      repeat (first
        | (refine ord_skipB rfl (by rfl) ?_; simp only [Act.put, List.setIfInBounds_toArray, List.set_cons_zero, List.set_cons_succ])
        | (refine ord_qS rfl (by rfl) ?_; apply Exists.intro; refine ⟨fun w' hc' => ?_, ?_⟩; (focus (have b65' := (Blk.cell hc' 65).trans c65; have bl' := Blk.lt hc'; go_simp; (try go_bits); (try simp only [↓IntWalk.iteOmega]); with_reducible rfl)); simp only [Act.put, List.setIfInBounds_toArray, List.set_cons_zero, List.set_cons_succ]))
      refine ord_tail rfl fun K hK => ?_
      have b65 := (hB5.cell 65).trans c65
      have hf65 := hB5.unfr 65
      have hB5l := hB5.lt
      go_wp2_with (fail)
      refine hK.out _ _ ?_
      clear hK K
      obtain ⟨W6, hW6⟩ : ∃ W, W = w5.setCell ⟨w.heap.size, 65, none⟩ (.slice (some ⟨g5, 0, none⟩) (j + 1) c5) := ⟨_, rfl⟩
      have hgs := grown_put w5 w.heap.size 65 (.slice (some ⟨g5, 0, none⟩) (j + 1) c5)
      have hB6 : Blk W6 w.heap.size 30 (stepScr s (j + 1) (some ⟨g5, 0, none⟩) c5).C := by
        rw [hW6]
        have := hB5.set 65 (.slice (some ⟨g5, 0, none⟩) (j + 1) c5)
        rw [← HC.out, set_ins (t := stepScr s j IA ic) hfl hgl (l := s.ins.take (j + 1))] at this
        exact this
      have ho6 : W6.ownsRow (w.heap.size + 1) 42 5 (.slice (some ⟨g5, 0, none⟩) (j + 1) c5) (j + 1) (insL (s.ins.take (j + 1))) := by
        rw [hW6, HTk.out, insL_snoc]
        exact own_set ho5 _ _ (Nat.lt_succ_self _)
      have hr5 := hr1.gen hg5 (fun e => hneR e.symm) (fun q e => by have := own_blkP ho1 q e; omega)
      have hr6 := hr5.other hgs (by omega) (Nat.le_refl _) hr5.blk.lt
      have hbr := HM.out.below
      have hb6 : Below w.heap.size w W6 := by
        rw [hW6]
        exact ((hbr.trans (below_grown (B := w.heap.size) hg1 hbr.size (fun q e => by injection e with e; omega))).trans (below_grown (B := w.heap.size) hg5 (by omega) (fun q e => by have := own_blkP ho1 q e; omega))).trans (below_grown (B := w.heap.size) hgs (by have := hB5.lt; omega) (fun q e => by injection e with e; omega))
      have hmu : moreMu s w.heap.size { tmps := #[], defers := [] } W6 < moreMu s w.heap.size { tmps := #[], defers := [] } wr := by
        have m1 := (hB6.cell 65).trans (Scr.cell (s := stepScr s (j + 1) (some ⟨g5, 0, none⟩) c5) hfl hgl).2.1
        have m2 := (hBz.cell 65).trans c65
        simp only [stepScr] at m1
        simp only [moreMu, m1, m2]
        exact Nat.sub_lt_sub_left HLt.out (Nat.lt_succ_self _)
      rw [← hW6] at hr6 ⊢
      have hM6 : MoreW s z w (j + 1) g (some ⟨g5, 0, none⟩) c5 A1 _ _ W6 := ⟨hB6, ho6, hr6, hb6, hgz⟩
      go_wp2
      exact wp_goto (And.intro rfl (And.intro (MoreAt.mk (j + 1) g (some ⟨g5, 0, none⟩) c5 A1 _ _ rfl (by omega) hM6) hmu))
    · obtain rfl : j = s.il := by omega
      have hki2 : ¬ (s.il : Int) < s.il := by omega
      have hsT : ∀ x ∈ (stepScr s s.il IA ic).ins, x = syncI := fun x hx => hs x (List.mem_of_mem_take hx)
      have htall : s.ins.take s.il = s.ins := List.take_of_length_le (by rw [hlen]; exact Nat.le_refl _)
      have hScr : ScrAt wr (stepScr s s.il IA ic) := ⟨hfl, hgl, (by show s.pb.natAbs < 2 ^ 53; omega), (by show s.pi.natAbs < 2 ^ 53; omega), (by show (s.ins.take s.il).length = s.il; rw [htall, hlen]), rfl, Sl.of_own HM.out.row, Sl.nil _ _ _ _, (by show s.il ≤ maxLen; unfold maxLen; omega), Nat.zero_le _, fun r hr => nomatch hr⟩
      have hck : chkS (stepScr s s.il IA ic) = 0 := by
        show (if 4096 < s.il then (2 : Int) else if okPart s.pb = true ∧ okPart s.pi = true then 0 else 3) = 0
        rw [if_neg (show ¬ 4096 < s.il by omega), if_pos]
        show okPart s.pb = true ∧ okPart s.pi = true
        unfold okPart
        simp [hp1, hp2]
      have hencT : encL (stepScr s s.il IA ic) = encL s := by
        unfold encL bodyE headL stepScr
        rw [hrf, htall, hr]
      have hen := encode_ok (stepScr s s.il IA ic) wr hScr rfl hil (fun x hx => by rw [hsT x hx]; exact ⟨Nat.zero_le _, Nat.zero_le _⟩) (fun W hW => by
        have := check_sync (stepScr s s.il IA ic) hsT rfl W (hScr.keep hW)
        rw [hck] at this
        exact this)
      rw [HC.out] at hen
      unfold EncRes at hen
      rw [hencT] at hen
      have HEn := Lib.hid hen; have HScr := Lib.hid hScr
      have hsz : C.size = 67 := by rw [← HC.out]; exact Scr.size hfl hgl
      have hwr := HM.out.below.size
      clear hen hScr hsT htall hencT hck
      go_upto_region 24 with (first | (refine wpList_load_row rfl 30 (.tmp 2) rfl w.heap.size rfl 30 C (0, 0) _ hBz Tryd.underlying30 rfl (by rw [hsz]; kernel_rfl) ?_) | (go_at_call 11; refine HEn.out.mono ?_; rintro e w2 ⟨A2, m2, c2, rfl, _, hok, hb2⟩))
      obtain ⟨rfl, ho2⟩ := hok (by first | rfl | trivial)
      have hbw2 := HM.out.below.trans (hb2.mono hwr)
      have ka := run_conv (c := c2) (d := ⟨(encL s).toArray⟩) (show Sl w2 w2.heap.size 1 A2 (encL s).length _ by rw [bytes_u8]; exact Sl.of_own ho2) (bytes_size _)
      have kb := run_conv (c := c) (d := ⟨(encL s).toArray⟩) (show Sl w2 w.heap.size 1 A (k + 4) _ by rw [bytes_u8]; exact HS.out.below hbw2 (Nat.le_refl _)) (by rw [bytes_size]; unfold encL; rw [List.length_append, leB_len, HN.out])
      have r2 := (HM.out.rd.blk.below hb2 hrl).cell 1
      have hrl2 := (HM.out.rd.blk.below hb2 hrl).lt
      have hB2 := hBz.below hb2 hBl
      have HB2 := Lib.hid hb2
      obtain ⟨D, hD⟩ : ∃ D : ByteArray, (⟨(encL s).toArray⟩ : ByteArray) = D := ⟨_, rfl⟩
      rw [hD] at ka kb
      clear hok ho2 hD r1 b65 b66 hb2
      go_upto_region 26 with (fail)
      have hone : C.all (·.oneCell') = true := by rw [← HC.out]; exact Scr.one _
      go_wp2_with (first | (refine wpList_load_row rfl 30 (.tmp 2) rfl w.heap.size rfl 30 C (0, 0) _ hB2 Tryd.underlying30 rfl (by rw [hsz]; kernel_rfl) ?_) | (refine wpList_store_blk rfl 30 (.tmp 2) (.tmp 127) rfl hB2 C rfl rfl (by rw [hsz]; kernel_rfl) rfl hone ?_; intro w3 hB3 hg3 hs3))
      have hs2 := HB2.out.size
      have hrw := HScr.out.keep HB2.out
      have hneZ : ¬ some w.heap.size = blkOf IA := hBz.ne_rowP HM.out.row (by decide)
      have hrow2 := own_keep HM.out.row (fun q o e => HB2.out.block q (own_in HM.out.row q o e))
      have hrow3 := own_keep hrow2 (fun q o e => hg3.block q (own_in hrow2 q o e) (fun e2 => hneZ (by rw [e]; exact e2.symm)))
      have hkeep : ScrAt w3 (stepScr s s.il IA ic) := { hrw with is := Sl.of_own hrow3, rs := Sl.nil _ _ _ _ }
      change bodyPost Tryd.prog Tryd.f12 (ScriptRes s w) Exit.ret _ _
      refine ret_cell_t rfl rfl (load_blk hB3 Tryd.underlying30 rfl (by rw [hsz]; kernel_rfl)) rfl ⟨IA, ic, by rw [HC.out]; rfl, hkeep, hrow3, hbw2.trans (below_grown (B := w.heap.size) hg3 hbw2.size (fun q e => by injection e with e; omega))⟩
  · have Pass := Lib.hid pass
    clear pass
    go_upto_region 8 with (fail)
    go_cut [30] from 16 to 31 (fun v wx => v = .bool false ∧ Below W0.heap.size W0 wx)
    case first =>
      refine wp_region_T none (.q 0 (.q 1 (.q 2 (.q 3 (.q 4 (.q 6 (.q 7 (.q 8 (.q 9 (.q 10 (.q 11 (.e2 5 12 (.e1 12 (.e1 13 (.q 14 .done))) (.e1 5 (.e1 13 (.q 14 .done))))))))))))))) (by kernel_rfl) (by kernel_rfl) fun hG0 => ?_
      repeat (first
        | (refine tree_skip rfl (by rfl) ?_; simp only [Act.put, List.setIfInBounds_toArray, List.set_cons_zero, List.set_cons_succ])
        | (refine tree_qE rfl (by rfl) ?_; apply Exists.intro; refine ⟨fun w' hc' => ?_, ?_⟩; (focus (go_simp; (try go_bits); (try simp only [↓IntWalk.iteOmega]); with_reducible rfl)); simp only [Act.put, List.setIfInBounds_toArray, List.set_cons_zero, List.set_cons_succ]))
      refine tree_e2 (tree_step rfl fun K hK => ?_) (tree_step rfl fun K hK => ?_)
      · go_wp2_with (go_at_call 21; refine (crc_any (bodyE s) A k c _ (((HS1.out.below hb0 (Nat.le_refl _)).grownN hG0 hs0).more (Nat.le_trans hs0 hG0.size)) HN.out (by unfold maxLen; omega)).mono ?_; rintro e w5 ⟨rfl, hb5⟩; rw [HZ.out])
        have hG1 := grown_trans hG0 (grown_below (row := none) hb5 (Nat.le_refl _))
        refine hK.out _ _ hG1 ?_
        clear hK K
        repeat (first
          | (refine tree_skip rfl (by rfl) ?_; simp only [Act.put, List.setIfInBounds_toArray, List.set_cons_zero, List.set_cons_succ])
          | (refine tree_qE rfl (by rfl) ?_; apply Exists.intro; refine ⟨fun w' hc' => ?_, ?_⟩; (focus (go_simp; (try go_bits); (try simp only [↓IntWalk.iteOmega]); with_reducible rfl)); simp only [Act.put, List.setIfInBounds_toArray, List.set_cons_zero, List.set_cons_succ]))
        refine tree_e1 (tree_step rfl fun K hK => ?_)
        go_wp2_with (fail)
        have hG2 := grown_trans hG1 (World.grownBy_alloc w5 (.cells #[.slice (A.map fun x => x.add k) 4 (c - k), .bool false] 64) none)
        have hRd : RdAt (w5.alloc (.cells #[.slice (A.map fun x => x.add k) 4 (c - k), .bool false] 64)) w5.heap.size w.heap.size (A.map fun x => x.add k) 4 (c - k) (leB (z : Int) 4) := ⟨Blk.new w5 _ _, (HS2.out.below hb0 (Nat.le_refl _)).grownN hG2 hs0, leB_len _ _, by omega, by unfold maxLen; omega, by have := hG1.size; omega⟩
        refine hK.out _ _ hG2 ?_
        clear hK K
        repeat (first
          | (refine tree_skip rfl (by rfl) ?_; simp only [Act.put, List.setIfInBounds_toArray, List.set_cons_zero, List.set_cons_succ])
          | (refine tree_qE rfl (by rfl) ?_; apply Exists.intro; refine ⟨fun w' hc' => ?_, ?_⟩; (focus (go_simp; (try go_bits); (try simp only [↓IntWalk.iteOmega]); with_reducible rfl)); simp only [Act.put, List.setIfInBounds_toArray, List.set_cons_zero, List.set_cons_succ]))
        refine tree_e1 (tree_step rfl fun K hK => ?_)
        go_wp2_with (go_at_call 22; refine (number_v w5.heap.size w.heap.size _ 4 (c - k) _ 4 _ hRd (by omega) (by omega) HV.out rfl rfl rfl).mono ?_; rintro e w6 ⟨rfl, _, hg6⟩)
        have hG3 := grew_own hG2 hg6 (fun q e => by injection e with e; have := hG1.size; exact .inr (by omega))
        refine hK.out _ _ hG3 ?_
        clear hK K
        repeat (first
          | (refine tree_skip rfl (by rfl) ?_; simp only [Act.put, List.setIfInBounds_toArray, List.set_cons_zero, List.set_cons_succ])
          | (refine tree_qE rfl (by rfl) ?_; apply Exists.intro; refine ⟨fun w' hc' => ?_, ?_⟩; (focus (go_simp; (try go_bits); (try simp only [↓IntWalk.iteOmega]); with_reducible rfl)); simp only [Act.put, List.setIfInBounds_toArray, List.set_cons_zero, List.set_cons_succ]))
        refine tree_end ?_
        go_wp2_with (fail)
        go_meet
        exact ⟨rfl, below_grown hG3 (Nat.le_refl _) (fun g e => by cases e)⟩
      · go_wp2_with (fail)
        have hG1 := grown_trans hG0 (World.grownBy_alloc W0.drew (.cells #[.slice (A.map fun x => x.add k) 4 (c - k), .bool false] 64) none)
        have hRd : RdAt (W0.drew.alloc (.cells #[.slice (A.map fun x => x.add k) 4 (c - k), .bool false] 64)) W0.heap.size w.heap.size (A.map fun x => x.add k) 4 (c - k) (leB (z : Int) 4) := ⟨Blk.new W0.drew _ _, (HS2.out.below hb0 (Nat.le_refl _)).grownN hG1 hs0, leB_len _ _, by omega, by unfold maxLen; omega, hs0⟩
        refine hK.out _ _ hG1 ?_
        clear hK K
        repeat (first
          | (refine tree_skip rfl (by rfl) ?_; simp only [Act.put, List.setIfInBounds_toArray, List.set_cons_zero, List.set_cons_succ])
          | (refine tree_qE rfl (by rfl) ?_; apply Exists.intro; refine ⟨fun w' hc' => ?_, ?_⟩; (focus (go_simp; (try go_bits); (try simp only [↓IntWalk.iteOmega]); with_reducible rfl)); simp only [Act.put, List.setIfInBounds_toArray, List.set_cons_zero, List.set_cons_succ]))
        refine tree_e1 (tree_step rfl fun K hK => ?_)
        go_wp2_with (go_at_call 21; refine (crc_any (bodyE s) A k c _ (((HS1.out.below hb0 (Nat.le_refl _)).grownN hG1 hs0).more (Nat.le_trans hs0 hG1.size)) HN.out (by unfold maxLen; omega)).mono ?_; rintro e w5 ⟨rfl, hb5⟩; rw [HZ.out])
        have hG2 := grown_trans hG1 (grown_below (row := none) hb5 (Nat.le_refl _))
        have hRd5 := hRd.none (grown_below (row := none) hb5 (Nat.le_refl _))
        refine hK.out _ _ hG2 ?_
        clear hK K
        repeat (first
          | (refine tree_skip rfl (by rfl) ?_; simp only [Act.put, List.setIfInBounds_toArray, List.set_cons_zero, List.set_cons_succ])
          | (refine tree_qE rfl (by rfl) ?_; apply Exists.intro; refine ⟨fun w' hc' => ?_, ?_⟩; (focus (go_simp; (try go_bits); (try simp only [↓IntWalk.iteOmega]); with_reducible rfl)); simp only [Act.put, List.setIfInBounds_toArray, List.set_cons_zero, List.set_cons_succ]))
        refine tree_e1 (tree_step rfl fun K hK => ?_)
        go_wp2_with (go_at_call 22; refine (number_v W0.heap.size w.heap.size _ 4 (c - k) _ 4 _ hRd5 (by omega) (by omega) HV.out rfl rfl rfl).mono ?_; rintro e w6 ⟨rfl, _, hg6⟩)
        have hG3 := grew_own hG2 hg6 (fun q e => by injection e with e; exact .inr (by omega))
        refine hK.out _ _ hG3 ?_
        clear hK K
        repeat (first
          | (refine tree_skip rfl (by rfl) ?_; simp only [Act.put, List.setIfInBounds_toArray, List.set_cons_zero, List.set_cons_succ])
          | (refine tree_qE rfl (by rfl) ?_; apply Exists.intro; refine ⟨fun w' hc' => ?_, ?_⟩; (focus (go_simp; (try go_bits); (try simp only [↓IntWalk.iteOmega]); with_reducible rfl)); simp only [Act.put, List.setIfInBounds_toArray, List.set_cons_zero, List.set_cons_succ]))
        refine tree_end ?_
        go_wp2_with (fail)
        go_meet
        exact ⟨rfl, below_grown hG3 (Nat.le_refl _) (fun g e => by cases e)⟩
    case rest =>
    obtain ⟨rfl, hbc⟩ := hcut
    obtain ⟨W1, hW1⟩ : ∃ W, W = wc := ⟨_, rfl⟩
    rw [← hW1] at hbc ⊢
    have hZ1 := hZ0.below hbc hZl
    have hb1 := hb0.trans (hbc.mono hs0)
    have hs1 := hb1.size
    have hZl1 := hZ1.lt
    clear hW1 hbc hzz hZ0 hZl HS1 HS2 HV
    go_upto_region 11 with (fail)
    obtain ⟨W2, hW2⟩ : ∃ W, W = W1.alloc (.cells #[.slice A (k + 4) c, .bool false] 64) := ⟨_, rfl⟩
    obtain ⟨g, hg⟩ : ∃ g, W1.heap.size = g := ⟨_, rfl⟩
    obtain ⟨T7, hT7⟩ : ∃ l, s.ins.flatMap recL ++ leB (z : Int) 4 = l := ⟨_, rfl⟩
    have hEnc : encL s = markL ++ (s.frm ++ (s.goal ++ (leB s.pb 4 ++ (leB s.pi 4 ++ (leB s.il 2 ++ (leB s.rl 2 ++ T7)))))) := by
      rw [← hT7, ← HZ.out]
      unfold encL bodyE headL
      rw [hrf]
      simp only [List.flatMap_nil, List.append_nil, List.append_assoc]
    have hr2 : RdAt W2 g w.heap.size A (k + 4) c (markL ++ (s.frm ++ (s.goal ++ (leB s.pb 4 ++ (leB s.pi 4 ++ (leB s.il 2 ++ (leB s.rl 2 ++ T7))))))) := by
      rw [← hEnc, hW2, ← hg]
      exact ⟨Blk.new W1 _ _, (HS.out.below hb1 (Nat.le_refl _)).below ((Below.refl _ _).alloc hs1 _) (Nat.le_refl _), by unfold encL; rw [List.length_append, leB_len, HN.out], by omega, by unfold maxLen; omega, hs1⟩
    have hZ2 : Blk W2 w.heap.size 30 zeroScr.C := by rw [hW2]; exact hZ1.alloc _
    have hb2 : Below w.heap.size w W2 := by rw [hW2]; exact hb1.alloc hs1 _
    have hgz : w.heap.size < g := by omega
    rw [hg, ← hW2]
    clear hZ1 hb1 hs1 hZl1 hW2 hg HS hEnc
    have hm5 : markL.length = 5 := rfl
    have hf32 : s.frm.length = 32 := hfl
    have hg32 : s.goal.length = 32 := hgl
    go_upto_region 12 with (go_at_call 23; refine (next_v g w.heap.size A _ _ _ 5 _ hr2 (by omega) (x := markL) rfl rfl rfl rfl).mono ?_; rintro e w3 ⟨rfl, _, ⟨A3, hr3⟩, hg3⟩)
    have hZ3 := hZ2.keep (hg3.block w.heap.size hZ2.lt (fun e => by injection e with e; omega))
    have hb3 := hb2.trans (below_grown hg3 hb2.size (fun q e => by injection e with e; omega))
    clear hr2 hg3 hZ2 hb2
    have e1 : (s.frm ++ (s.goal ++ (leB s.pb 4 ++ (leB s.pi 4 ++ (leB s.il 2 ++ (leB s.rl 2 ++ T7)))))).take 32 = s.frm := List.take_left' hf32
    have e2 : (s.frm ++ (s.goal ++ (leB s.pb 4 ++ (leB s.pi 4 ++ (leB s.il 2 ++ (leB s.rl 2 ++ T7)))))).drop 32 = s.goal ++ (leB s.pb 4 ++ (leB s.pi 4 ++ (leB s.il 2 ++ (leB s.rl 2 ++ T7)))) := List.drop_left' hf32
    refine wp_region_tailS (fun _ => True) [(0, true), (1, true), (2, true), (3, false)] 4 (by kernel_rfl) (by kernel_rfl) trivial ?_
    repeat (first
      | (refine ord_skipB rfl (by rfl) ?_; simp only [Act.put, List.setIfInBounds_toArray, List.set_cons_zero, List.set_cons_succ])
      | (refine ord_qS rfl (by rfl) ?_; apply Exists.intro; refine ⟨fun w' hc' => ?_, ?_⟩; (focus (go_simp; (try go_bits); (try simp only [↓IntWalk.iteOmega]); with_reducible rfl)); simp only [Act.put, List.setIfInBounds_toArray, List.set_cons_zero, List.set_cons_succ]))
    refine ord_eB rfl fun K hK => ?_
    go_wp2_with (go_at_call 23; refine (next_v g w.heap.size A3 _ _ _ 32 _ (hr3.none (grown_drew _ none)) (by omega) e1 e2 rfl rfl).mono ?_; rintro e w4 ⟨rfl, hs4, ⟨A4, hr4⟩, hg4⟩)
    refine hK.out _ _ trivial ?_
    clear hK K
    repeat (first
      | (refine ord_skipB rfl (by rfl) ?_; simp only [Act.put, List.setIfInBounds_toArray, List.set_cons_zero, List.set_cons_succ])
      | (refine ord_qS rfl (by rfl) ?_; apply Exists.intro; refine ⟨fun w' hc' => ?_, ?_⟩; (focus (go_simp; (try go_bits); (try simp only [↓IntWalk.iteOmega]); with_reducible rfl)); simp only [Act.put, List.setIfInBounds_toArray, List.set_cons_zero, List.set_cons_succ]))
    refine ord_tail rfl fun K hK => ?_
    have hz32 : zeroScr.frm.length = 32 := by simp [zeroScr, zero32]
    have hzg32 : zeroScr.goal.length = 32 := by simp [zeroScr, zero32]
    replace hg4 : w3.grownBy w4 (some g) := grown_trans (grown_drew w3 (some g)) hg4
    have hZ4 : Blk w4 w.heap.size 30 zeroScr.C := hZ3.keep (hg4.block w.heap.size hZ3.lt (fun e => by injection e with e; omega))
    go_wp2_with (refine wpList_copy_blk rfl _ _ rfl hZ4 rfl rfl hs4 (by omega) (by rw [Scr.size hz32 hzg32]; omega) (u8_one _) ?_; intro w5 hZ5 hg5 hs5)
    refine hK.out _ _ ?_
    clear hK K
    have hb5 : Below w.heap.size w w5 := (hb3.trans (below_grown (B := w.heap.size) hg4 hb3.size (fun q e => by injection e with e; omega))).trans (below_grown (B := w.heap.size) hg5 (Nat.le_trans hb3.size hg4.size) (fun q e => by injection e with e; omega))
    have hr5 := hr4.other hg5 (by omega) (Nat.le_refl _) hr4.blk.lt
    rw [copy_frm hz32] at hZ5
    obtain ⟨t1, ht1⟩ : ∃ t : Scr, ⟨s.frm, zeroScr.goal, 0, 0, [], [], none, 0, 0, none, 0, 0⟩ = t := ⟨_, rfl⟩
    have h1f : t1.frm.length = 32 := by rw [← ht1]; exact hf32
    have h1g : t1.goal.length = 32 := by rw [← ht1]; exact hzg32
    replace hZ5 : Blk w5 w.heap.size 30 t1.C := by rw [← ht1]; exact hZ5
    clear hZ4 hZ3 hb3 hr3 hr4 hs4 hg4 hg5 e1 e2 hs5 hz32
    go_upto_region 13 with (fail)
    have e1 : (s.goal ++ (leB s.pb 4 ++ (leB s.pi 4 ++ (leB s.il 2 ++ (leB s.rl 2 ++ T7))))).take 32 = s.goal := List.take_left' hg32
    have e2 : (s.goal ++ (leB s.pb 4 ++ (leB s.pi 4 ++ (leB s.il 2 ++ (leB s.rl 2 ++ T7))))).drop 32 = leB s.pb 4 ++ (leB s.pi 4 ++ (leB s.il 2 ++ (leB s.rl 2 ++ T7))) := List.drop_left' hg32
    refine wp_region_tailS (fun _ => True) [(0, true), (1, true), (2, true), (3, false)] 4 (by kernel_rfl) (by kernel_rfl) trivial ?_
    repeat (first
      | (refine ord_skipB rfl (by rfl) ?_; simp only [Act.put, List.setIfInBounds_toArray, List.set_cons_zero, List.set_cons_succ])
      | (refine ord_qS rfl (by rfl) ?_; apply Exists.intro; refine ⟨fun w' hc' => ?_, ?_⟩; (focus (go_simp; (try go_bits); (try simp only [↓IntWalk.iteOmega]); with_reducible rfl)); simp only [Act.put, List.setIfInBounds_toArray, List.set_cons_zero, List.set_cons_succ]))
    refine ord_eB rfl fun K hK => ?_
    go_wp2_with (go_at_call 23; refine (next_v g w.heap.size A4 _ _ _ 32 _ (hr5.none (grown_drew _ none)) (by omega) e1 e2 rfl rfl).mono ?_; rintro e w6 ⟨rfl, hs6, ⟨A6, hr6⟩, hg6⟩)
    refine hK.out _ _ trivial ?_
    clear hK K
    repeat (first
      | (refine ord_skipB rfl (by rfl) ?_; simp only [Act.put, List.setIfInBounds_toArray, List.set_cons_zero, List.set_cons_succ])
      | (refine ord_qS rfl (by rfl) ?_; apply Exists.intro; refine ⟨fun w' hc' => ?_, ?_⟩; (focus (go_simp; (try go_bits); (try simp only [↓IntWalk.iteOmega]); with_reducible rfl)); simp only [Act.put, List.setIfInBounds_toArray, List.set_cons_zero, List.set_cons_succ]))
    refine ord_tail rfl fun K hK => ?_
    replace hg6 : w5.grownBy w6 (some g) := grown_trans (grown_drew w5 (some g)) hg6
    have hZ6 : Blk w6 w.heap.size 30 t1.C := hZ5.keep (hg6.block w.heap.size hZ5.lt (fun e => by injection e with e; omega))
    go_wp2_with (refine wpList_copy_blk rfl _ _ rfl hZ6 rfl rfl hs6 (by omega) (by rw [Scr.size h1f h1g]; omega) (u8_one _) ?_; intro w7 hZ7 hg7 hs7)
    refine hK.out _ _ ?_
    clear hK K
    have hb7 : Below w.heap.size w w7 := (hb5.trans (below_grown (B := w.heap.size) hg6 hb5.size (fun q e => by injection e with e; omega))).trans (below_grown (B := w.heap.size) hg7 (Nat.le_trans hb5.size hg6.size) (fun q e => by injection e with e; omega))
    have hr7 := hr6.other hg7 (by omega) (Nat.le_refl _) hr6.blk.lt
    rw [copy_goal h1f h1g] at hZ7
    clear hZ6 hZ5 hb5 hr5 hr6 hs6 hg6 hg7 e1 e2 hs7
    obtain ⟨pn, hpn⟩ : ∃ n : Nat, s.pb = n := ⟨s.pb.toNat, by omega⟩
    obtain ⟨qn, hqn⟩ : ∃ n : Nat, s.pi = n := ⟨s.pi.toNat, by omega⟩
    obtain ⟨ln, hln⟩ : ∃ n : Nat, s.il = n := ⟨_, rfl⟩
    have hr7' : RdAt w7 g w.heap.size A6 (k + 4 - 5 - 32 - 32) (c - 5 - 32 - 32) (leB (pn : Int) 4 ++ (leB (qn : Int) 4 ++ (leB (ln : Int) 2 ++ (leB (0 : Nat) 2 ++ T7)))) := by
      rw [← hpn, ← hqn, ← hln]
      have := hr7
      rw [hr] at this
      exact this
    have v1 : deN ((leB (pn : Int) 4 ++ (leB (qn : Int) 4 ++ (leB (ln : Int) 2 ++ (leB (0 : Nat) 2 ++ T7)))).take 4) = pn := by
      rw [List.take_left' (leB_len _ _), deN_leB]; omega
    have d1 : (leB (pn : Int) 4 ++ (leB (qn : Int) 4 ++ (leB (ln : Int) 2 ++ (leB (0 : Nat) 2 ++ T7)))).drop 4 = leB (qn : Int) 4 ++ (leB (ln : Int) 2 ++ (leB (0 : Nat) 2 ++ T7)) := List.drop_left' (leB_len _ _)
    have v2 : deN ((leB (qn : Int) 4 ++ (leB (ln : Int) 2 ++ (leB (0 : Nat) 2 ++ T7))).take 4) = qn := by
      rw [List.take_left' (leB_len _ _), deN_leB]; omega
    have d2 : (leB (qn : Int) 4 ++ (leB (ln : Int) 2 ++ (leB (0 : Nat) 2 ++ T7))).drop 4 = leB (ln : Int) 2 ++ (leB (0 : Nat) 2 ++ T7) := List.drop_left' (leB_len _ _)
    have v3 : deN ((leB (ln : Int) 2 ++ (leB (0 : Nat) 2 ++ T7)).take 2) = ln := by
      rw [List.take_left' (leB_len _ _), deN_leB]; omega
    have d3 : (leB (ln : Int) 2 ++ (leB (0 : Nat) 2 ++ T7)).drop 2 = leB (0 : Nat) 2 ++ T7 := List.drop_left' (leB_len _ _)
    have v4 : deN ((leB (0 : Nat) 2 ++ T7).take 2) = 0 := by
      rw [List.take_left' (leB_len _ _), deN_leB]
    have d4 : (leB (0 : Nat) 2 ++ T7).drop 2 = T7 := List.drop_left' (leB_len _ _)
    have V := Lib.hid (And.intro v1 (And.intro d1 (And.intro v2 (And.intro d2 (And.intro v3 (And.intro d3 (And.intro v4 d4)))))))
    have HP := Lib.hid hpn; have HQ := Lib.hid hqn; have HLn := Lib.hid hln; have HT1 := Lib.hid ht1; have HT7 := Lib.hid hT7; have HR0 := Lib.hid hr
    clear v1 d1 v2 d2 v3 d3 v4 d4 hr7 hpn hqn hln ht1 hT7 hr
    have tok : True := trivial
    go_upto_region 15 with (first
      | (go_at_call 22; have _t := tok; clear tok _t; refine (number_v g w.heap.size A6 _ _ _ 4 _ hr7' (by omega) (by omega) V.out.1 V.out.2.1 rfl rfl).mono ?_; rintro e w8 ⟨rfl, ⟨A8, hr8⟩, hg8⟩)
      | (go_at_call 22; refine (number_v g w.heap.size A8 _ _ _ 4 _ hr8 (by omega) (by omega) V.out.2.2.1 V.out.2.2.2.1 rfl rfl).mono ?_; rintro e w9 ⟨rfl, ⟨A9, hr9⟩, hg9⟩))
    have hg79 : w7.grownBy w9 (some g) := grown_trans hg8 hg9
    have hZ9 := hZ7.keep (hg79.block w.heap.size hZ7.lt (fun e => by injection e with e; omega))
    have hb9 : Below w.heap.size w w9 := hb7.trans (below_grown (B := w.heap.size) hg79 hb7.size (fun q e => by injection e with e; omega))
    have hf9 := hZ9.unfr 64
    have hZl9 := hZ9.lt
    obtain ⟨c64, _, _⟩ := Scr.cell (s := ⟨t1.frm, s.goal, t1.pb, t1.pi, t1.ins, t1.refs, t1.IA, t1.il, t1.ic, t1.RA, t1.rl, t1.rc⟩) h1f hg32
    have z64 := (hZ9.cell 64).trans c64
    clear hr7' hr8 hg8 hg9 hg79 hZ7 hb7 c64
    have hst : (store ⟨w.heap.size, 64, none⟩ (.complex .f64 (floatOfInt .f64 (pn : Int)) (floatOfInt .f64 (qn : Int)))).run Tryd.prog w9 = .ok () (w9.setCell ⟨w.heap.size, 64, none⟩ (.complex .f64 (floatOfInt .f64 (pn : Int)) (floatOfInt .f64 (qn : Int)))) := by
      rw [run_store Tryd.prog w9 _ _ _ rfl]
      simp [z64, hf9]
    go_upto_region 16 with (fail)
    obtain ⟨W10, hW10⟩ : ∃ W, W = w9.setCell ⟨w.heap.size, 64, none⟩ (.complex .f64 (floatOfInt .f64 (pn : Int)) (floatOfInt .f64 (qn : Int))) := ⟨_, rfl⟩
    have hgs := grown_put w9 w.heap.size 64 (.complex .f64 (floatOfInt .f64 (pn : Int)) (floatOfInt .f64 (qn : Int)))
    have hZX : Blk W10 w.heap.size 30 (stepScr s 0 none 0).C := by
      rw [hW10]
      have := hZ9.set 64 (.complex .f64 (floatOfInt .f64 (pn : Int)) (floatOfInt .f64 (qn : Int)))
      rw [show (Value.complex .f64 (floatOfInt .f64 (pn : Int)) (floatOfInt .f64 (qn : Int))) = .complex .f64 (F pn) (F qn) from rfl, set_peak (t := ⟨t1.frm, s.goal, t1.pb, t1.pi, t1.ins, t1.refs, t1.IA, t1.il, t1.ic, t1.RA, t1.rl, t1.rc⟩) h1f hg32, ← HT1.out] at this
      unfold stepScr
      rw [List.take_zero, HP.out, HQ.out]
      exact this
    have hrX := hr9.other hgs (by omega) (Nat.le_refl _) hr9.blk.lt
    rw [← hW10] at hrX
    have hbX : Below w.heap.size w W10 := by rw [hW10]; exact hb9.trans (below_grown (B := w.heap.size) hgs hb9.size (fun q e => by injection e with e; omega))
    rw [← hW10]
    clear hst hZ9 hr9 hb9 hf9 hZl9 z64 hgs hW10
    have tok : True := trivial
    go_wp2_with (first
      | (go_at_call 22; have _t := tok; clear tok _t; refine (number_v g w.heap.size A9 _ _ _ 2 _ hrX (by omega) (by omega) V.out.2.2.2.2.1 V.out.2.2.2.2.2.1 rfl rfl).mono ?_; rintro e w11 ⟨rfl, ⟨A11, hr11⟩, hg11⟩)
      | (go_at_call 22; refine (number_v g w.heap.size A11 _ _ _ 2 _ hr11 (by omega) (by omega) V.out.2.2.2.2.2.2.1 V.out.2.2.2.2.2.2.2 rfl rfl).mono ?_; rintro e w12 ⟨rfl, ⟨A12, hr12⟩, hg12⟩))
    have hg1012 : W10.grownBy w12 (some g) := grown_trans hg11 hg12
    have hZ12 := hZX.keep (hg1012.block w.heap.size hZX.lt (fun e => by injection e with e; omega))
    have hb12 : Below w.heap.size w w12 := hbX.trans (below_grown (B := w.heap.size) hg1012 hbX.size (fun q e => by injection e with e; omega))
    have hM : MoreW s z w 0 g none 0 A12 _ _ w12 := ⟨hZ12, World.ownsRow_nil _ _ _ _, by rw [List.drop_zero, HT7.out]; exact hr12, hb12, hgz⟩
    rename_i Kl hKl
    refine wp_label (hKl _ _ (Pass.out _ _ (MoreAt.mk 0 g none 0 A12 _ _ ?_ (Nat.zero_le _) hM)))
    rw [HLn.out]
    rfl
end Go.Proofs.YtgeiegjpnnbloaaDoor
