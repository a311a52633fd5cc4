/- model.rows: the row of an Op. model.first: the errors that hang on the instruction and the stock alone. -/
import Derived.Test.YtanaccoelifcpaaOpenS
import Derived.Test.YtanaccoelifcpaaOps

namespace Go.Proofs.Ytanaccoelifcpaa
open Go.RowKit

theorem Try.mtRows : MT 101 3 90 (.agg #[.bool false, .bool false, .nilFunc]) := ⟨Try.underlying101, fun w => by kernel_rfl⟩
def rowV (dst mode : Bool) (f : Value) : Array Value := #[.bool dst, .bool mode, f]
def fnV (k : Nat) : Value := .func (.func k) #[] #[]
/-- The row of an Op. -/
def rowOf (op : Int) : Array Value :=
  if op = 1 then rowV false true (fnV 49) else if op = 2 then rowV false false (fnV 50) else if op = 3 then rowV true false (fnV 51)
  else if op = 4 then rowV true false (fnV 52) else if op = 5 then rowV false false (fnV 53) else if op = 6 then rowV false true (fnV 54)
  else if op = 7 then rowV true true (fnV 55) else if op = 8 then rowV false true (fnV 56) else rowV false false .nilFunc
def isOp (op : Int) : Bool := decide (1 ≤ op ∧ op ≤ 9)
def RowRes (op : Int) (w : World) (e : Ending) (w' : World) : Prop := e = .returned (.tuple #[.agg (rowOf op), .bool (isOp op)]) ∧ Below w.heap.size w w'
def rowsL : List (Int × Value) := putV (putV (putV (putV (putV (putV (putV (putV (putV [] 1 (.agg (rowOf 1))) 2 (.agg (rowOf 2))) 3 (.agg (rowOf 3))) 4 (.agg (rowOf 4))) 5 (.agg (rowOf 5))) 6 (.agg (rowOf 6))) 7 (.agg (rowOf 7))) 8 (.agg (rowOf 8))) 9 (.agg (rowOf 9))
theorem rows_get (op : Int) : (getV rowsL op).getD (.agg #[.bool false, .bool false, .nilFunc]) = .agg (rowOf op) ∧ (getV rowsL op).isSome = isOp op := by
  have h0 : (keysV ([] : List (Int × Value))).Nodup := by simp [keysV]
  have e : getV rowsL op = if isOp op = true then some (.agg (rowOf op)) else none := by
    unfold rowsL
    repeat rw [putV_get (by repeat first | exact h0 | apply putV_nodup)]
    unfold isOp
    by_cases h : 1 ≤ op ∧ op ≤ 9
    · have : op = 1 ∨ op = 2 ∨ op = 3 ∨ op = 4 ∨ op = 5 ∨ op = 6 ∨ op = 7 ∨ op = 8 ∨ op = 9 := by omega
      rcases this with rfl | rfl | rfl | rfl | rfl | rfl | rfl | rfl | rfl <;> simp
    · simp [h, getV, show ¬ op = 1 by omega, show ¬ op = 2 by omega, show ¬ op = 3 by omega, show ¬ op = 4 by omega, show ¬ op = 5 by omega, show ¬ op = 6 by omega, show ¬ op = 7 by omega, show ¬ op = 8 by omega, show ¬ op = 9 by omega]
  rw [e]
  by_cases h : isOp op = true
  · rw [if_pos h]; exact ⟨rfl, h.symm⟩
  · rw [if_neg h]
    refine ⟨?_, by simp at h; rw [h]; rfl⟩
    simp only [isOp, decide_eq_true_eq] at h
    unfold rowOf
    rw [if_neg (by omega), if_neg (by omega), if_neg (by omega), if_neg (by omega), if_neg (by omega), if_neg (by omega), if_neg (by omega), if_neg (by omega)]
    rfl
set_option maxRecDepth 100000 in
set_option maxHeartbeats 2000000 in
theorem rows_any (op : Int) (ho : -9223372036854775808 ≤ op ∧ op ≤ 9223372036854775807) (w : World) : Calls Try.prog 40 #[.int .i64 op] w (RowRes op w) := by
  have hG := rows_get op
  obtain ⟨r, hr⟩ : ∃ r, rowOf op = r := ⟨_, rfl⟩
  obtain ⟨t, ht⟩ : ∃ t, isOp op = t := ⟨_, rfl⟩
  have hrs : ∃ a b f, r = #[.bool a, .bool b, f] ∧ f.oneCell' = true := by
    rw [← hr]
    unfold rowOf rowV fnV
    repeat (first | exact ⟨_, _, _, rfl, rfl⟩ | split)
  rw [hr, ht] at hG
  obtain ⟨a, b, f, rfl, hf1⟩ := hrs
  have HG := Lib.hid hG; have Hr := Lib.hid hr; have Ht := Lib.hid ht; clear hG hr ht
  have hmm := @run_makeMap Try.prog
  have hR0 := Blk.new w 90 #[.bool false, .bool false, .nilFunc]
  have hb0 : Below w.heap.size w (w.alloc (.cells #[.bool false, .bool false, .nilFunc] 90)) := (Below.refl _ _).alloc (Nat.le_refl _) _
  obtain ⟨W0, hW0⟩ : ∃ W0, W0 = w.alloc (.cells #[.bool false, .bool false, .nilFunc] 90) := ⟨_, rfl⟩
  have hm := MapV.new (T := intK) W0
  have hR := hR0.alloc (.map #[] 0)
  rw [← hW0] at hb0 hR hR0
  have hb := hb0.alloc hb0.size (.map #[] 0)
  have hsz : w.heap.size < W0.heap.size := by rw [hW0]; simp
  have hlen : ([] : List (Int × Value)).length ≤ 0 := Nat.le_refl _
  clear hR0 hb0
  go_enter Try.func40, Try.ntmps40
  go_upto_region 1 with (fail)
  rw [← hW0]
  clear hW0
  go_upto_region 2 with (first
    | (refine wpList_mv_put (a := _) (w := _) rfl Try.mtRows (.tmp 7) (.const (.int .i64 1)) (.tmp 8) (.inr rfl) rfl hm (T := intK) (q := 1) rfl (by show (Lit.int .i64 _).wf = true; decide) (v := .agg (rowOf 1)) rfl (by unfold maxLen; omega) ?_; replace hlen := Nat.le_trans (putV_len _ 1 (.agg (rowOf 1))) (Nat.succ_le_succ hlen); intro w1 hm' hg hs; replace hR := hR.grown hg (fun e => by injection e with e; omega); replace hb := hb.trans (below_grown hg hb.size (fun g e => by injection e with e; omega)); clear hm; have hm := hm'; clear hm' hg hs)
    | (refine wpList_mv_put (a := _) (w := _) rfl Try.mtRows (.tmp 7) (.const (.int .i64 2)) (.tmp 9) (.inr rfl) rfl hm (T := intK) (q := 2) rfl (by show (Lit.int .i64 _).wf = true; decide) (v := .agg (rowOf 2)) rfl (by unfold maxLen; omega) ?_; replace hlen := Nat.le_trans (putV_len _ 2 (.agg (rowOf 2))) (Nat.succ_le_succ hlen); intro w2 hm' hg hs; replace hR := hR.grown hg (fun e => by injection e with e; omega); replace hb := hb.trans (below_grown hg hb.size (fun g e => by injection e with e; omega)); clear hm; have hm := hm'; clear hm' hg hs)
    | (refine wpList_mv_put (a := _) (w := _) rfl Try.mtRows (.tmp 7) (.const (.int .i64 3)) (.tmp 10) (.inr rfl) rfl hm (T := intK) (q := 3) rfl (by show (Lit.int .i64 _).wf = true; decide) (v := .agg (rowOf 3)) rfl (by unfold maxLen; omega) ?_; replace hlen := Nat.le_trans (putV_len _ 3 (.agg (rowOf 3))) (Nat.succ_le_succ hlen); intro w3 hm' hg hs; replace hR := hR.grown hg (fun e => by injection e with e; omega); replace hb := hb.trans (below_grown hg hb.size (fun g e => by injection e with e; omega)); clear hm; have hm := hm'; clear hm' hg hs)
    | (refine wpList_mv_put (a := _) (w := _) rfl Try.mtRows (.tmp 7) (.const (.int .i64 4)) (.tmp 11) (.inr rfl) rfl hm (T := intK) (q := 4) rfl (by show (Lit.int .i64 _).wf = true; decide) (v := .agg (rowOf 4)) rfl (by unfold maxLen; omega) ?_; replace hlen := Nat.le_trans (putV_len _ 4 (.agg (rowOf 4))) (Nat.succ_le_succ hlen); intro w4 hm' hg hs; replace hR := hR.grown hg (fun e => by injection e with e; omega); replace hb := hb.trans (below_grown hg hb.size (fun g e => by injection e with e; omega)); clear hm; have hm := hm'; clear hm' hg hs)
    | (refine wpList_mv_put (a := _) (w := _) rfl Try.mtRows (.tmp 7) (.const (.int .i64 5)) (.tmp 12) (.inr rfl) rfl hm (T := intK) (q := 5) rfl (by show (Lit.int .i64 _).wf = true; decide) (v := .agg (rowOf 5)) rfl (by unfold maxLen; omega) ?_; replace hlen := Nat.le_trans (putV_len _ 5 (.agg (rowOf 5))) (Nat.succ_le_succ hlen); intro w5 hm' hg hs; replace hR := hR.grown hg (fun e => by injection e with e; omega); replace hb := hb.trans (below_grown hg hb.size (fun g e => by injection e with e; omega)); clear hm; have hm := hm'; clear hm' hg hs)
    | (refine wpList_mv_put (a := _) (w := _) rfl Try.mtRows (.tmp 7) (.const (.int .i64 6)) (.tmp 13) (.inr rfl) rfl hm (T := intK) (q := 6) rfl (by show (Lit.int .i64 _).wf = true; decide) (v := .agg (rowOf 6)) rfl (by unfold maxLen; omega) ?_; replace hlen := Nat.le_trans (putV_len _ 6 (.agg (rowOf 6))) (Nat.succ_le_succ hlen); intro w6 hm' hg hs; replace hR := hR.grown hg (fun e => by injection e with e; omega); replace hb := hb.trans (below_grown hg hb.size (fun g e => by injection e with e; omega)); clear hm; have hm := hm'; clear hm' hg hs)
    | (refine wpList_mv_put (a := _) (w := _) rfl Try.mtRows (.tmp 7) (.const (.int .i64 7)) (.tmp 14) (.inr rfl) rfl hm (T := intK) (q := 7) rfl (by show (Lit.int .i64 _).wf = true; decide) (v := .agg (rowOf 7)) rfl (by unfold maxLen; omega) ?_; replace hlen := Nat.le_trans (putV_len _ 7 (.agg (rowOf 7))) (Nat.succ_le_succ hlen); intro w7 hm' hg hs; replace hR := hR.grown hg (fun e => by injection e with e; omega); replace hb := hb.trans (below_grown hg hb.size (fun g e => by injection e with e; omega)); clear hm; have hm := hm'; clear hm' hg hs)
    | (refine wpList_mv_put (a := _) (w := _) rfl Try.mtRows (.tmp 7) (.const (.int .i64 8)) (.tmp 15) (.inr rfl) rfl hm (T := intK) (q := 8) rfl (by show (Lit.int .i64 _).wf = true; decide) (v := .agg (rowOf 8)) rfl (by unfold maxLen; omega) ?_; replace hlen := Nat.le_trans (putV_len _ 8 (.agg (rowOf 8))) (Nat.succ_le_succ hlen); intro w8 hm' hg hs; replace hR := hR.grown hg (fun e => by injection e with e; omega); replace hb := hb.trans (below_grown hg hb.size (fun g e => by injection e with e; omega)); clear hm; have hm := hm'; clear hm' hg hs)
    | (refine wpList_mv_put (a := _) (w := _) rfl Try.mtRows (.tmp 7) (.const (.int .i64 9)) (.tmp 16) (.inr rfl) rfl hm (T := intK) (q := 9) rfl (by show (Lit.int .i64 _).wf = true; decide) (v := .agg (rowOf 9)) rfl (by unfold maxLen; omega) ?_; replace hlen := Nat.le_trans (putV_len _ 9 (.agg (rowOf 9))) (Nat.succ_le_succ hlen); intro w9 hm' hg hs; replace hR := hR.grown hg (fun e => by injection e with e; omega); replace hb := hb.trans (below_grown hg hb.size (fun g e => by injection e with e; omega)); clear hm; have hm := hm'; clear hm' hg hs))
  have hm2 : MapV intK w9 W0.heap.size rowsL := hm
  have hok : intK.ok op := wf_i64 ho.1 ho.2
  clear hm hmm hlen
  have h1 : (#[.bool a, .bool b, f] : Array Value).all (·.oneCell') = true := by
    rw [Array.all_eq_true']
    intro u hu
    simp only [List.mem_toArray, List.mem_cons, List.not_mem_nil, or_false] at hu
    rcases hu with rfl | rfl | rfl
    · rfl
    · rfl
    · exact hf1
  go_upto_region 3 with (first | (refine wpList_store_new rfl 90 (.tmp 5) (.tmp 22) rfl 90 #[.bool false, .bool false, .nilFunc] #[.bool a, .bool b, f] rfl rfl (by kernel_rfl) rfl h1 ?_) | refine wpList_mv_ok (k := 3) rfl Try.mtRows (.tmp 19) (.tmp 20) rfl rfl hm2 (T := intK) (q := op) rfl hok (v := .agg #[.bool a, .bool b, f]) (ok := t) HG.out.1 HG.out.2 ?_)
  have hX := Blk.new w9 90 #[.bool a, .bool b, f]
  have hR2 := hR.alloc (.cells #[.bool a, .bool b, f] 90)
  have hb2 := hb.alloc hb.size (.cells #[.bool a, .bool b, f] 90)
  have x0 := hX.cell 0
  have x1 := hX.cell 1
  have x2 := hX.cell 2
  go_wp2_with (refine wpList_store_blk rfl 90 (.tmp 2) (.tmp 24) rfl hR2 #[.bool a, .bool b, f] rfl rfl (by kernel_rfl) rfl h1 ?_; intro w20 hB5 hg5 hs5)
  refine ret_cell_t rfl rfl (load_blk hB5 Try.underlying90 rfl (by kernel_rfl)) rfl ⟨?_, hb2.trans (below_grown hg5 hb2.size (fun g e => by injection e with e; omega))⟩
  rw [Hr.out, Ht.out]
  rfl
end Go.Proofs.Ytanaccoelifcpaa

namespace Go.Proofs.Ytanaccoelifcpaa
open Go.RowKit

/-- The errors that the tree does not matter for. -/
def firstE (T Md : Bool) (c : Cmd) (ds : List ByteArray) : Int :=
  if Md = true ∧ (c.mode < 0 ∨ 511 < c.mode) then 28
  else if c.path.data.toList = [] ∨ T = true ∧ c.dst.data.toList = [] then 26
  else if validL c.path.data.toList = false ∨ T = true ∧ validL c.dst.data.toList = false then 20
  else if c.op = 6 then (if c.ref < 0 ∨ ds.length ≤ c.ref then 32 else if 8192 < ((ds[c.ref.toNat]?).map (·.size)).getD 0 then 2 else 0)
  else 0
def FirstAt (E : Int) (w : World) (a : Act) (wr : World) : Prop := ∃ u : Nat → Value, a = ⟨List.toArray (u 0 :: u 1 :: u 2 :: u 3 :: u 4 :: u 5 :: u 6 :: u 7 :: u 8 :: u 9 :: u 10 :: u 11 :: u 12 :: u 13 :: u 14 :: u 15 :: u 16 :: u 17 :: u 18 :: u 19 :: u 20 :: u 21 :: u 22 :: u 23 :: u 24 :: u 25 :: u 26 :: u 27 :: u 28 :: u 29 :: u 30 :: u 31 :: u 32 :: u 33 :: u 34 :: u 35 :: u 36 :: u 37 :: u 38 :: u 39 :: u 40 :: u 41 :: u 42 :: u 43 :: u 44 :: u 45 :: u 46 :: u 47 :: u 48 :: u 49 :: u 50 :: u 51 :: u 52 :: u 53 :: u 54 :: u 55 :: u 56 :: u 57 :: u 58 :: u 59 :: u 60 :: u 61 :: u 62 :: u 63 :: u 64 :: u 65 :: []), []⟩ ∧ u 6 = .int .i64 E ∧ Below w.heap.size w wr
theorem FirstAt.mk {E : Int} {w wr : World} {a : Act} (h : a = ⟨List.toArray (a.tmps.getD 0 undef :: a.tmps.getD 1 undef :: a.tmps.getD 2 undef :: a.tmps.getD 3 undef :: a.tmps.getD 4 undef :: a.tmps.getD 5 undef :: a.tmps.getD 6 undef :: a.tmps.getD 7 undef :: a.tmps.getD 8 undef :: a.tmps.getD 9 undef :: a.tmps.getD 10 undef :: a.tmps.getD 11 undef :: a.tmps.getD 12 undef :: a.tmps.getD 13 undef :: a.tmps.getD 14 undef :: a.tmps.getD 15 undef :: a.tmps.getD 16 undef :: a.tmps.getD 17 undef :: a.tmps.getD 18 undef :: a.tmps.getD 19 undef :: a.tmps.getD 20 undef :: a.tmps.getD 21 undef :: a.tmps.getD 22 undef :: a.tmps.getD 23 undef :: a.tmps.getD 24 undef :: a.tmps.getD 25 undef :: a.tmps.getD 26 undef :: a.tmps.getD 27 undef :: a.tmps.getD 28 undef :: a.tmps.getD 29 undef :: a.tmps.getD 30 undef :: a.tmps.getD 31 undef :: a.tmps.getD 32 undef :: a.tmps.getD 33 undef :: a.tmps.getD 34 undef :: a.tmps.getD 35 undef :: a.tmps.getD 36 undef :: a.tmps.getD 37 undef :: a.tmps.getD 38 undef :: a.tmps.getD 39 undef :: a.tmps.getD 40 undef :: a.tmps.getD 41 undef :: a.tmps.getD 42 undef :: a.tmps.getD 43 undef :: a.tmps.getD 44 undef :: a.tmps.getD 45 undef :: a.tmps.getD 46 undef :: a.tmps.getD 47 undef :: a.tmps.getD 48 undef :: a.tmps.getD 49 undef :: a.tmps.getD 50 undef :: a.tmps.getD 51 undef :: a.tmps.getD 52 undef :: a.tmps.getD 53 undef :: a.tmps.getD 54 undef :: a.tmps.getD 55 undef :: a.tmps.getD 56 undef :: a.tmps.getD 57 undef :: a.tmps.getD 58 undef :: a.tmps.getD 59 undef :: a.tmps.getD 60 undef :: a.tmps.getD 61 undef :: a.tmps.getD 62 undef :: a.tmps.getD 63 undef :: a.tmps.getD 64 undef :: a.tmps.getD 65 undef :: []), []⟩) (h6 : a.tmps.getD 6 undef = .int .i64 E) (hb : Below w.heap.size w wr) : FirstAt E w a wr := ⟨fun i => a.tmps.getD i undef, h, h6, hb⟩
theorem empty_b {s : ByteArray} (h : s.data.toList = []) : (s == ByteArray.empty) = true ∧ s.toList = [] := by
  have : s = ByteArray.empty := ba_ext h
  subst this
  exact ⟨rfl, by rw [ByteArray.toList_eq]; rfl⟩
theorem nonempty_b {s : ByteArray} (h : ¬ s.data.toList = []) : ¬ s.toList = [] ∧ (!s.toList.isEmpty) = true ∧ (s.toList == []) = false := by
  rw [ByteArray.toList_eq]
  cases hl : s.data.toList with
  | nil => exact absurd hl h
  | cons a t => exact ⟨by simp, rfl, rfl⟩

set_option maxRecDepth 100000 in
set_option maxHeartbeats 4000000 in
theorem first_ff (c : Cmd) (f : Value) (SA : Option Addr) (sn sc : Nat) (ss : List SC) (ds : List ByteArray) (w : World) (hS : StockAt w SA sn ss ds) :
    Calls Try.prog 41 #[.agg c.cells, .agg #[.bool false, .bool false, f], .slice SA sn sc] w (NumRes (firstE false false c ds) w) := by
  obtain ⟨E, hE⟩ : ∃ E, firstE false false c ds = E := ⟨_, rfl⟩
  rw [hE]
  unfold firstE at hE
  have hdl := hS.dlen
  have hnm := hS.nm
  unfold Cmd.cells
  have hI := (Blk.new w 44 #[.int .i64 c.op, .string c.path, .string c.dst, .int .i64 c.mode, .int .i64 c.ref]).alloc (.cells #[.bool false, .bool false, f] 90)
  have hR := Blk.new (w.alloc (.cells #[.int .i64 c.op, .string c.path, .string c.dst, .int .i64 c.mode, .int .i64 c.ref] 44)) 90 #[.bool false, .bool false, f]
  rw [World.size_alloc] at hR
  have hb : Below w.heap.size w ((w.alloc (.cells #[.int .i64 c.op, .string c.path, .string c.dst, .int .i64 c.mode, .int .i64 c.ref] 44)).alloc (.cells #[.bool false, .bool false, f] 90)) := ((Below.refl _ _).alloc (Nat.le_refl _) _).alloc (by simp) _
  have i0 := hI.cell 0
  have i1 := hI.cell 1
  have i2 := hI.cell 2
  have i3 := hI.cell 3
  have i4 := hI.cell 4
  have r0 := hR.cell 0
  have r1 := hR.cell 1
  have HE := Lib.hid hE; clear hE
  have HS := Lib.hid hS; clear hS
  have Hdl := Lib.hid hdl; clear hdl
  go_enter Try.func41, Try.ntmps41
  go_wp2
  refine wp_scope_J 0 (FirstAt E w) (fun _ _ => 0) (by rfl) ?_ fun pass => ?_
  · rintro a wr ⟨u, rfl, h6, hbr⟩
    have H6 := Lib.hid h6; clear h6
    go_wp2
    exact And.intro rfl ⟨_, (results_tmp rfl _ _ _).trans rfl, by rw [← H6.out]; rfl, hbr⟩
  · replace pass := Lib.hid pass
    obtain ⟨W, hW⟩ : ∃ W, W = (w.alloc (.cells #[.int .i64 c.op, .string c.path, .string c.dst, .int .i64 c.mode, .int .i64 c.ref] 44)).alloc (.cells #[.bool false, .bool false, f] 90) := ⟨_, rfl⟩
    rw [← hW] at hI hR hb i0 i1 i2 i3 i4 r0 r1 ⊢
    have hWs : w.heap.size + 1 < W.heap.size := by rw [hW]; simp
    clear hW
    have hE1 := HE.out
    rw [if_neg (fun h => by cases h.1)] at hE1
    have HE1 := Lib.hid hE1; clear hE1
    go_upto_region 3 with (fail)
    by_cases p1 : c.path.data.toList = []
    · have hfin : E = 26 := by rw [← HE1.out, if_pos (.inl p1)]
      have HF := Lib.hid hfin; clear hfin
      obtain ⟨q1, q2⟩ := empty_b p1
      have P1 := Lib.hid p1; clear p1
      go_wp2
      refine wp_goto ?_
      exact And.intro (by trivial) (FirstAt.mk rfl (by rw [HF.out]; rfl) hb)
    obtain ⟨q1, q2, q3⟩ := nonempty_b p1
    have hE2 := HE1.out
    rw [if_neg (fun h => h.elim p1 fun h => by cases h.1)] at hE2
    have HE2 := Lib.hid hE2; clear hE2
    have P1 := Lib.hid p1; clear p1
    go_upto_region 5 with (fail)
    clear q1 q2 q3
    cases v1 : validL c.path.data.toList with
    | false =>
      have hfin : E = 20 := by rw [← HE2.out, if_pos (.inl v1)]
      have HF := Lib.hid hfin; clear hfin
      have V1 := Lib.hid v1; clear v1
      go_wp2_with (go_at_call 46; refine (valid_any c.path _ c.hp).mono ?_; rintro e w1 ⟨rfl, hb1⟩; rw [V1.out])
      refine wp_goto ?_
      exact And.intro (by trivial) (FirstAt.mk rfl (by rw [HF.out]; rfl) (hb.trans (hb1.mono (by omega))))
    | true =>
      have V1 := Lib.hid v1
      have hE3 := HE2.out
      rw [if_neg (by rw [v1]; simp)] at hE3
      have HE3 := Lib.hid hE3; clear hE3 v1
      go_upto_region 7 with (go_at_call 46; refine (valid_any c.path _ c.hp).mono ?_; rintro e w1 ⟨rfl, hb1⟩; rw [V1.out]; have d0 := (hR.below hb1 (by omega)).cell 0; replace hI := hI.below hb1 (by omega); replace hb := hb.trans (hb1.mono (by omega)); have hz1 := hb1.size)
      obtain ⟨W5, hW5⟩ : ∃ W5, W5 = w1 := ⟨_, rfl⟩
      rw [← hW5] at hb hI ⊢
      have hsz : W.heap.size ≤ W5.heap.size := by rw [hW5]; omega
      clear hW5 d0 hz1 hb1
      clear i0 i1 i2 i3 i4
      have i0 := hI.cell 0
      have i4 := hI.cell 4
      by_cases o6 : c.op = 6
      · have hE4 := HE3.out
        rw [if_pos o6] at hE4
        have O6 := (beq_iff_eq (a := c.op) (b := 6)).2 o6
        have HO6 := Lib.hid o6; clear o6
        by_cases f1 : c.ref < 0
        · have hfin : E = 32 := by rw [← hE4, if_pos (.inl f1)]
          have HF := Lib.hid hfin; clear hfin hE4
          go_wp2
          refine wp_goto ?_
          exact And.intro (by trivial) (FirstAt.mk rfl (by rw [HF.out]; rfl) hb)
        by_cases f2 : (sn : Int) ≤ c.ref
        · have hfin : E = 32 := by rw [← hE4, if_pos (.inr (by rw [Hdl.out]; exact f2))]
          have HF := Lib.hid hfin; clear hfin hE4
          go_wp2
          refine wp_goto ?_
          exact And.intro (by trivial) (FirstAt.mk rfl (by rw [HF.out]; rfl) hb)
        rw [if_neg (by rw [Hdl.out]; exact fun h => h.elim f1 f2)] at hE4
        obtain ⟨r, hr⟩ : ∃ r : Nat, c.ref = r := ⟨c.ref.toNat, by omega⟩
        have hrl : r < sn := by omega
        have HS5 := HS.out.keep (hb.mono (Nat.le_refl _))
        obtain ⟨b, off, x, hA, hbl, hx, hc⟩ := HS5.sl.get SC.len HS5.len hrl
        obtain ⟨d, hd⟩ : ∃ d, ds[r]? = some d := ⟨ds[r]'(by rw [Hdl.out]; exact hrl), List.getElem?_eq_getElem _⟩
        have hdz := (HS5.dat r x d hx hd).1
        have c0 := hc 0 _ rfl
        simp only [Nat.add_zero, Nat.mul_one] at c0
        have hv : ((ds[c.ref.toNat]?).map (·.size)).getD 0 = x.n := by rw [hr, Int.toNat_natCast, hd]; exact hdz
        rw [hv] at hE4
        clear hv
        rw [hr] at i4
        subst hA
        have Hx := Lib.hid hx; have Hr := Lib.hid hr; clear hx hd hc hdz HS5 hr f1 f2
        have hri : (r : Int) < sn := by omega
        have HE4 := Lib.hid hE4; clear hE4
        go_upto_region 10 with (fail)
        by_cases f3 : 8192 < x.n
        · have hfin : E = 2 := by rw [← HE4.out, if_pos f3]
          have HF := Lib.hid hfin; clear hfin
          have f3' : (8192 : Int) < x.n := by omega
          go_wp2
          refine wp_label ?_
          go_wp2
          exact And.intro rfl ⟨_, (results_tmp rfl _ _ _).trans rfl, by rw [HF.out]; rfl, hb⟩
        · have hfin : E = 0 := by rw [← HE4.out, if_neg f3]
          have HF := Lib.hid hfin; clear hfin
          have f3' : ¬ (8192 : Int) < x.n := by omega
          go_wp2
          refine wp_label ?_
          go_wp2
          exact And.intro rfl ⟨_, (results_tmp rfl _ _ _).trans rfl, by rw [HF.out]; rfl, hb⟩
      · have hfin : E = 0 := by rw [← HE3.out, if_neg o6]
        have HF := Lib.hid hfin; clear hfin
        have O6 := beq_eq_false_iff_ne.2 o6
        have HO6 := Lib.hid o6; clear o6
        go_wp2
        refine wp_label ?_
        go_wp2
        exact And.intro rfl ⟨_, (results_tmp rfl _ _ _).trans rfl, by rw [HF.out]; rfl, hb⟩

set_option maxRecDepth 100000 in
set_option maxHeartbeats 4000000 in
theorem first_ft (c : Cmd) (f : Value) (SA : Option Addr) (sn sc : Nat) (ss : List SC) (ds : List ByteArray) (w : World) (hS : StockAt w SA sn ss ds) :
    Calls Try.prog 41 #[.agg c.cells, .agg #[.bool true, .bool false, f], .slice SA sn sc] w (NumRes (firstE true false c ds) w) := by
  obtain ⟨E, hE⟩ : ∃ E, firstE true false c ds = E := ⟨_, rfl⟩
  rw [hE]
  unfold firstE at hE
  have hdl := hS.dlen
  have hnm := hS.nm
  unfold Cmd.cells
  have hI := (Blk.new w 44 #[.int .i64 c.op, .string c.path, .string c.dst, .int .i64 c.mode, .int .i64 c.ref]).alloc (.cells #[.bool true, .bool false, f] 90)
  have hR := Blk.new (w.alloc (.cells #[.int .i64 c.op, .string c.path, .string c.dst, .int .i64 c.mode, .int .i64 c.ref] 44)) 90 #[.bool true, .bool false, f]
  rw [World.size_alloc] at hR
  have hb : Below w.heap.size w ((w.alloc (.cells #[.int .i64 c.op, .string c.path, .string c.dst, .int .i64 c.mode, .int .i64 c.ref] 44)).alloc (.cells #[.bool true, .bool false, f] 90)) := ((Below.refl _ _).alloc (Nat.le_refl _) _).alloc (by simp) _
  have i0 := hI.cell 0
  have i1 := hI.cell 1
  have i2 := hI.cell 2
  have i3 := hI.cell 3
  have i4 := hI.cell 4
  have r0 := hR.cell 0
  have r1 := hR.cell 1
  have HE := Lib.hid hE; clear hE
  have HS := Lib.hid hS; clear hS
  have Hdl := Lib.hid hdl; clear hdl
  go_enter Try.func41, Try.ntmps41
  go_wp2
  refine wp_scope_J 0 (FirstAt E w) (fun _ _ => 0) (by rfl) ?_ fun pass => ?_
  · rintro a wr ⟨u, rfl, h6, hbr⟩
    have H6 := Lib.hid h6; clear h6
    go_wp2
    exact And.intro rfl ⟨_, (results_tmp rfl _ _ _).trans rfl, by rw [← H6.out]; rfl, hbr⟩
  · replace pass := Lib.hid pass
    obtain ⟨W, hW⟩ : ∃ W, W = (w.alloc (.cells #[.int .i64 c.op, .string c.path, .string c.dst, .int .i64 c.mode, .int .i64 c.ref] 44)).alloc (.cells #[.bool true, .bool false, f] 90) := ⟨_, rfl⟩
    rw [← hW] at hI hR hb i0 i1 i2 i3 i4 r0 r1 ⊢
    have hWs : w.heap.size + 1 < W.heap.size := by rw [hW]; simp
    clear hW
    have hE1 := HE.out
    rw [if_neg (fun h => by cases h.1)] at hE1
    have HE1 := Lib.hid hE1; clear hE1
    go_upto_region 3 with (fail)
    by_cases p1 : c.path.data.toList = []
    · have hfin : E = 26 := by rw [← HE1.out, if_pos (.inl p1)]
      have HF := Lib.hid hfin; clear hfin
      obtain ⟨q1, q2⟩ := empty_b p1
      have P1 := Lib.hid p1; clear p1
      go_wp2
      refine wp_goto ?_
      exact And.intro (by trivial) (FirstAt.mk rfl (by rw [HF.out]; rfl) hb)
    obtain ⟨q1, q2, q3⟩ := nonempty_b p1
    by_cases p2 : c.dst.data.toList = []
    · have hfin : E = 26 := by rw [← HE1.out, if_pos (.inr ⟨by trivial, p2⟩)]
      have HF := Lib.hid hfin; clear hfin
      obtain ⟨s1, s2⟩ := empty_b p2
      have P1 := Lib.hid p1; have P2 := Lib.hid p2; clear p1 p2
      go_wp2
      refine wp_goto ?_
      exact And.intro (by trivial) (FirstAt.mk rfl (by rw [HF.out]; rfl) hb)
    obtain ⟨s1, s2, s3⟩ := nonempty_b p2
    have hE2 := HE1.out
    rw [if_neg (fun h => h.elim p1 fun h => p2 h.2)] at hE2
    have P2 := Lib.hid p2; clear p2
    have HE2 := Lib.hid hE2; clear hE2
    have P1 := Lib.hid p1; clear p1
    go_upto_region 5 with (fail)
    clear q1 q2 q3
    cases v1 : validL c.path.data.toList with
    | false =>
      have hfin : E = 20 := by rw [← HE2.out, if_pos (.inl v1)]
      have HF := Lib.hid hfin; clear hfin
      have V1 := Lib.hid v1; clear v1
      go_wp2_with (go_at_call 46; refine (valid_any c.path _ c.hp).mono ?_; rintro e w1 ⟨rfl, hb1⟩; rw [V1.out])
      refine wp_goto ?_
      exact And.intro (by trivial) (FirstAt.mk rfl (by rw [HF.out]; rfl) (hb.trans (hb1.mono (by omega))))
    | true =>
      have V1 := Lib.hid v1
      have tok1 : True := trivial
      cases v2 : validL c.dst.data.toList with
      | false =>
        have hfin : E = 20 := by rw [← HE2.out, if_pos (.inr ⟨by trivial, v2⟩)]
        have HF := Lib.hid hfin; clear hfin
        have V2 := Lib.hid v2; clear v1 v2
        go_wp2_with (first
          | (have _t := tok1; go_at_call 46; refine (valid_any c.path _ c.hp).mono ?_; rintro e w1 ⟨rfl, hb1⟩; rw [V1.out]; clear tok1 _t; have d2 := (hI.below hb1 (by omega)).cell 2; have d0 := (hR.below hb1 (by omega)).cell 0; replace hb := hb.trans (hb1.mono (by omega)); have hz1 := hb1.size)
          | (go_at_call 46; refine (valid_any c.dst _ c.hd).mono ?_; rintro e w2 ⟨rfl, hb2⟩; rw [V2.out]; replace hb := hb.trans (hb2.mono (by omega))))
        refine wp_goto ?_
        exact And.intro (by trivial) (FirstAt.mk rfl (by rw [HF.out]; rfl) hb)
      | true =>
        have V2 := Lib.hid v2
        have hE3 := HE2.out
        rw [if_neg (by rw [v1, v2]; simp)] at hE3
        have HE3 := Lib.hid hE3; clear hE3 v1 v2
        go_upto_region 7 with (first
          | (have _t := tok1; go_at_call 46; refine (valid_any c.path _ c.hp).mono ?_; rintro e w1 ⟨rfl, hb1⟩; rw [V1.out]; clear tok1 _t; have d2 := (hI.below hb1 (by omega)).cell 2; have d0 := (hR.below hb1 (by omega)).cell 0; replace hI := hI.below hb1 (by omega); replace hb := hb.trans (hb1.mono (by omega)); have hz1 := hb1.size)
          | (go_at_call 46; refine (valid_any c.dst _ c.hd).mono ?_; rintro e w2 ⟨rfl, hb2⟩; rw [V2.out]; replace hI := hI.below hb2 (by omega); replace hb := hb.trans (hb2.mono (by omega)); have hz2 := hb2.size))
        obtain ⟨W5, hW5⟩ : ∃ W5, W5 = w2 := ⟨_, rfl⟩
        rw [← hW5] at hb hI ⊢
        have hsz : W.heap.size ≤ W5.heap.size := by rw [hW5]; omega
        clear hW5 d2 d0 hz2 hb2
        clear i0 i1 i2 i3 i4
        have i0 := hI.cell 0
        have i4 := hI.cell 4
        by_cases o6 : c.op = 6
        · have hE4 := HE3.out
          rw [if_pos o6] at hE4
          have O6 := (beq_iff_eq (a := c.op) (b := 6)).2 o6
          have HO6 := Lib.hid o6; clear o6
          by_cases f1 : c.ref < 0
          · have hfin : E = 32 := by rw [← hE4, if_pos (.inl f1)]
            have HF := Lib.hid hfin; clear hfin hE4
            go_wp2
            refine wp_goto ?_
            exact And.intro (by trivial) (FirstAt.mk rfl (by rw [HF.out]; rfl) hb)
          by_cases f2 : (sn : Int) ≤ c.ref
          · have hfin : E = 32 := by rw [← hE4, if_pos (.inr (by rw [Hdl.out]; exact f2))]
            have HF := Lib.hid hfin; clear hfin hE4
            go_wp2
            refine wp_goto ?_
            exact And.intro (by trivial) (FirstAt.mk rfl (by rw [HF.out]; rfl) hb)
          rw [if_neg (by rw [Hdl.out]; exact fun h => h.elim f1 f2)] at hE4
          obtain ⟨r, hr⟩ : ∃ r : Nat, c.ref = r := ⟨c.ref.toNat, by omega⟩
          have hrl : r < sn := by omega
          have HS5 := HS.out.keep (hb.mono (Nat.le_refl _))
          obtain ⟨b, off, x, hA, hbl, hx, hc⟩ := HS5.sl.get SC.len HS5.len hrl
          obtain ⟨d, hd⟩ : ∃ d, ds[r]? = some d := ⟨ds[r]'(by rw [Hdl.out]; exact hrl), List.getElem?_eq_getElem _⟩
          have hdz := (HS5.dat r x d hx hd).1
          have c0 := hc 0 _ rfl
          simp only [Nat.add_zero, Nat.mul_one] at c0
          have hv : ((ds[c.ref.toNat]?).map (·.size)).getD 0 = x.n := by rw [hr, Int.toNat_natCast, hd]; exact hdz
          rw [hv] at hE4
          clear hv
          rw [hr] at i4
          subst hA
          have Hx := Lib.hid hx; have Hr := Lib.hid hr; clear hx hd hc hdz HS5 hr f1 f2
          have hri : (r : Int) < sn := by omega
          have HE4 := Lib.hid hE4; clear hE4
          go_upto_region 10 with (fail)
          by_cases f3 : 8192 < x.n
          · have hfin : E = 2 := by rw [← HE4.out, if_pos f3]
            have HF := Lib.hid hfin; clear hfin
            have f3' : (8192 : Int) < x.n := by omega
            go_wp2
            refine wp_label ?_
            go_wp2
            exact And.intro rfl ⟨_, (results_tmp rfl _ _ _).trans rfl, by rw [HF.out]; rfl, hb⟩
          · have hfin : E = 0 := by rw [← HE4.out, if_neg f3]
            have HF := Lib.hid hfin; clear hfin
            have f3' : ¬ (8192 : Int) < x.n := by omega
            go_wp2
            refine wp_label ?_
            go_wp2
            exact And.intro rfl ⟨_, (results_tmp rfl _ _ _).trans rfl, by rw [HF.out]; rfl, hb⟩
        · have hfin : E = 0 := by rw [← HE3.out, if_neg o6]
          have HF := Lib.hid hfin; clear hfin
          have O6 := beq_eq_false_iff_ne.2 o6
          have HO6 := Lib.hid o6; clear o6
          go_wp2
          refine wp_label ?_
          go_wp2
          exact And.intro rfl ⟨_, (results_tmp rfl _ _ _).trans rfl, by rw [HF.out]; rfl, hb⟩

set_option maxRecDepth 100000 in
set_option maxHeartbeats 4000000 in
theorem first_tf (c : Cmd) (f : Value) (SA : Option Addr) (sn sc : Nat) (ss : List SC) (ds : List ByteArray) (w : World) (hS : StockAt w SA sn ss ds) :
    Calls Try.prog 41 #[.agg c.cells, .agg #[.bool false, .bool true, f], .slice SA sn sc] w (NumRes (firstE false true c ds) w) := by
  obtain ⟨E, hE⟩ : ∃ E, firstE false true c ds = E := ⟨_, rfl⟩
  rw [hE]
  unfold firstE at hE
  have hdl := hS.dlen
  have hnm := hS.nm
  unfold Cmd.cells
  have hI := (Blk.new w 44 #[.int .i64 c.op, .string c.path, .string c.dst, .int .i64 c.mode, .int .i64 c.ref]).alloc (.cells #[.bool false, .bool true, f] 90)
  have hR := Blk.new (w.alloc (.cells #[.int .i64 c.op, .string c.path, .string c.dst, .int .i64 c.mode, .int .i64 c.ref] 44)) 90 #[.bool false, .bool true, f]
  rw [World.size_alloc] at hR
  have hb : Below w.heap.size w ((w.alloc (.cells #[.int .i64 c.op, .string c.path, .string c.dst, .int .i64 c.mode, .int .i64 c.ref] 44)).alloc (.cells #[.bool false, .bool true, f] 90)) := ((Below.refl _ _).alloc (Nat.le_refl _) _).alloc (by simp) _
  have i0 := hI.cell 0
  have i1 := hI.cell 1
  have i2 := hI.cell 2
  have i3 := hI.cell 3
  have i4 := hI.cell 4
  have r0 := hR.cell 0
  have r1 := hR.cell 1
  have HE := Lib.hid hE; clear hE
  have HS := Lib.hid hS; clear hS
  have Hdl := Lib.hid hdl; clear hdl
  go_enter Try.func41, Try.ntmps41
  go_wp2
  refine wp_scope_J 0 (FirstAt E w) (fun _ _ => 0) (by rfl) ?_ fun pass => ?_
  · rintro a wr ⟨u, rfl, h6, hbr⟩
    have H6 := Lib.hid h6; clear h6
    go_wp2
    exact And.intro rfl ⟨_, (results_tmp rfl _ _ _).trans rfl, by rw [← H6.out]; rfl, hbr⟩
  · replace pass := Lib.hid pass
    obtain ⟨W, hW⟩ : ∃ W, W = (w.alloc (.cells #[.int .i64 c.op, .string c.path, .string c.dst, .int .i64 c.mode, .int .i64 c.ref] 44)).alloc (.cells #[.bool false, .bool true, f] 90) := ⟨_, rfl⟩
    rw [← hW] at hI hR hb i0 i1 i2 i3 i4 r0 r1 ⊢
    have hWs : w.heap.size + 1 < W.heap.size := by rw [hW]; simp
    clear hW
    by_cases m1 : c.mode < 0
    · have hfin : E = 28 := by rw [← HE.out, if_pos ⟨by trivial, .inl m1⟩]
      have HF := Lib.hid hfin; clear hfin
      go_wp2
      refine wp_goto ?_
      exact And.intro (by trivial) (FirstAt.mk rfl (by rw [HF.out]; rfl) hb)
    by_cases m2 : 511 < c.mode
    · have hfin : E = 28 := by rw [← HE.out, if_pos ⟨by trivial, .inr m2⟩]
      have HF := Lib.hid hfin; clear hfin
      go_wp2
      refine wp_goto ?_
      exact And.intro (by trivial) (FirstAt.mk rfl (by rw [HF.out]; rfl) hb)
    have hE1 := HE.out
    rw [if_neg (fun h => h.2.elim m1 m2)] at hE1
    have HE1 := Lib.hid hE1; clear hE1
    go_upto_region 3 with (fail)
    by_cases p1 : c.path.data.toList = []
    · have hfin : E = 26 := by rw [← HE1.out, if_pos (.inl p1)]
      have HF := Lib.hid hfin; clear hfin
      obtain ⟨q1, q2⟩ := empty_b p1
      have P1 := Lib.hid p1; clear p1
      go_wp2
      refine wp_goto ?_
      exact And.intro (by trivial) (FirstAt.mk rfl (by rw [HF.out]; rfl) hb)
    obtain ⟨q1, q2, q3⟩ := nonempty_b p1
    have hE2 := HE1.out
    rw [if_neg (fun h => h.elim p1 fun h => by cases h.1)] at hE2
    have HE2 := Lib.hid hE2; clear hE2
    have P1 := Lib.hid p1; clear p1
    go_upto_region 5 with (fail)
    clear q1 q2 q3
    cases v1 : validL c.path.data.toList with
    | false =>
      have hfin : E = 20 := by rw [← HE2.out, if_pos (.inl v1)]
      have HF := Lib.hid hfin; clear hfin
      have V1 := Lib.hid v1; clear v1
      go_wp2_with (go_at_call 46; refine (valid_any c.path _ c.hp).mono ?_; rintro e w1 ⟨rfl, hb1⟩; rw [V1.out])
      refine wp_goto ?_
      exact And.intro (by trivial) (FirstAt.mk rfl (by rw [HF.out]; rfl) (hb.trans (hb1.mono (by omega))))
    | true =>
      have V1 := Lib.hid v1
      have hE3 := HE2.out
      rw [if_neg (by rw [v1]; simp)] at hE3
      have HE3 := Lib.hid hE3; clear hE3 v1
      go_upto_region 7 with (go_at_call 46; refine (valid_any c.path _ c.hp).mono ?_; rintro e w1 ⟨rfl, hb1⟩; rw [V1.out]; have d0 := (hR.below hb1 (by omega)).cell 0; replace hI := hI.below hb1 (by omega); replace hb := hb.trans (hb1.mono (by omega)); have hz1 := hb1.size)
      obtain ⟨W5, hW5⟩ : ∃ W5, W5 = w1 := ⟨_, rfl⟩
      rw [← hW5] at hb hI ⊢
      have hsz : W.heap.size ≤ W5.heap.size := by rw [hW5]; omega
      clear hW5 d0 hz1 hb1
      clear i0 i1 i2 i3 i4
      have i0 := hI.cell 0
      have i4 := hI.cell 4
      by_cases o6 : c.op = 6
      · have hE4 := HE3.out
        rw [if_pos o6] at hE4
        have O6 := (beq_iff_eq (a := c.op) (b := 6)).2 o6
        have HO6 := Lib.hid o6; clear o6
        by_cases f1 : c.ref < 0
        · have hfin : E = 32 := by rw [← hE4, if_pos (.inl f1)]
          have HF := Lib.hid hfin; clear hfin hE4
          go_wp2
          refine wp_goto ?_
          exact And.intro (by trivial) (FirstAt.mk rfl (by rw [HF.out]; rfl) hb)
        by_cases f2 : (sn : Int) ≤ c.ref
        · have hfin : E = 32 := by rw [← hE4, if_pos (.inr (by rw [Hdl.out]; exact f2))]
          have HF := Lib.hid hfin; clear hfin hE4
          go_wp2
          refine wp_goto ?_
          exact And.intro (by trivial) (FirstAt.mk rfl (by rw [HF.out]; rfl) hb)
        rw [if_neg (by rw [Hdl.out]; exact fun h => h.elim f1 f2)] at hE4
        obtain ⟨r, hr⟩ : ∃ r : Nat, c.ref = r := ⟨c.ref.toNat, by omega⟩
        have hrl : r < sn := by omega
        have HS5 := HS.out.keep (hb.mono (Nat.le_refl _))
        obtain ⟨b, off, x, hA, hbl, hx, hc⟩ := HS5.sl.get SC.len HS5.len hrl
        obtain ⟨d, hd⟩ : ∃ d, ds[r]? = some d := ⟨ds[r]'(by rw [Hdl.out]; exact hrl), List.getElem?_eq_getElem _⟩
        have hdz := (HS5.dat r x d hx hd).1
        have c0 := hc 0 _ rfl
        simp only [Nat.add_zero, Nat.mul_one] at c0
        have hv : ((ds[c.ref.toNat]?).map (·.size)).getD 0 = x.n := by rw [hr, Int.toNat_natCast, hd]; exact hdz
        rw [hv] at hE4
        clear hv
        rw [hr] at i4
        subst hA
        have Hx := Lib.hid hx; have Hr := Lib.hid hr; clear hx hd hc hdz HS5 hr f1 f2
        have hri : (r : Int) < sn := by omega
        have HE4 := Lib.hid hE4; clear hE4
        go_upto_region 10 with (fail)
        by_cases f3 : 8192 < x.n
        · have hfin : E = 2 := by rw [← HE4.out, if_pos f3]
          have HF := Lib.hid hfin; clear hfin
          have f3' : (8192 : Int) < x.n := by omega
          go_wp2
          refine wp_label ?_
          go_wp2
          exact And.intro rfl ⟨_, (results_tmp rfl _ _ _).trans rfl, by rw [HF.out]; rfl, hb⟩
        · have hfin : E = 0 := by rw [← HE4.out, if_neg f3]
          have HF := Lib.hid hfin; clear hfin
          have f3' : ¬ (8192 : Int) < x.n := by omega
          go_wp2
          refine wp_label ?_
          go_wp2
          exact And.intro rfl ⟨_, (results_tmp rfl _ _ _).trans rfl, by rw [HF.out]; rfl, hb⟩
      · have hfin : E = 0 := by rw [← HE3.out, if_neg o6]
        have HF := Lib.hid hfin; clear hfin
        have O6 := beq_eq_false_iff_ne.2 o6
        have HO6 := Lib.hid o6; clear o6
        go_wp2
        refine wp_label ?_
        go_wp2
        exact And.intro rfl ⟨_, (results_tmp rfl _ _ _).trans rfl, by rw [HF.out]; rfl, hb⟩

set_option maxRecDepth 100000 in
set_option maxHeartbeats 4000000 in
theorem first_tt (c : Cmd) (f : Value) (SA : Option Addr) (sn sc : Nat) (ss : List SC) (ds : List ByteArray) (w : World) (hS : StockAt w SA sn ss ds) :
    Calls Try.prog 41 #[.agg c.cells, .agg #[.bool true, .bool true, f], .slice SA sn sc] w (NumRes (firstE true true c ds) w) := by
  obtain ⟨E, hE⟩ : ∃ E, firstE true true c ds = E := ⟨_, rfl⟩
  rw [hE]
  unfold firstE at hE
  have hdl := hS.dlen
  have hnm := hS.nm
  unfold Cmd.cells
  have hI := (Blk.new w 44 #[.int .i64 c.op, .string c.path, .string c.dst, .int .i64 c.mode, .int .i64 c.ref]).alloc (.cells #[.bool true, .bool true, f] 90)
  have hR := Blk.new (w.alloc (.cells #[.int .i64 c.op, .string c.path, .string c.dst, .int .i64 c.mode, .int .i64 c.ref] 44)) 90 #[.bool true, .bool true, f]
  rw [World.size_alloc] at hR
  have hb : Below w.heap.size w ((w.alloc (.cells #[.int .i64 c.op, .string c.path, .string c.dst, .int .i64 c.mode, .int .i64 c.ref] 44)).alloc (.cells #[.bool true, .bool true, f] 90)) := ((Below.refl _ _).alloc (Nat.le_refl _) _).alloc (by simp) _
  have i0 := hI.cell 0
  have i1 := hI.cell 1
  have i2 := hI.cell 2
  have i3 := hI.cell 3
  have i4 := hI.cell 4
  have r0 := hR.cell 0
  have r1 := hR.cell 1
  have HE := Lib.hid hE; clear hE
  have HS := Lib.hid hS; clear hS
  have Hdl := Lib.hid hdl; clear hdl
  go_enter Try.func41, Try.ntmps41
  go_wp2
  refine wp_scope_J 0 (FirstAt E w) (fun _ _ => 0) (by rfl) ?_ fun pass => ?_
  · rintro a wr ⟨u, rfl, h6, hbr⟩
    have H6 := Lib.hid h6; clear h6
    go_wp2
    exact And.intro rfl ⟨_, (results_tmp rfl _ _ _).trans rfl, by rw [← H6.out]; rfl, hbr⟩
  · replace pass := Lib.hid pass
    obtain ⟨W, hW⟩ : ∃ W, W = (w.alloc (.cells #[.int .i64 c.op, .string c.path, .string c.dst, .int .i64 c.mode, .int .i64 c.ref] 44)).alloc (.cells #[.bool true, .bool true, f] 90) := ⟨_, rfl⟩
    rw [← hW] at hI hR hb i0 i1 i2 i3 i4 r0 r1 ⊢
    have hWs : w.heap.size + 1 < W.heap.size := by rw [hW]; simp
    clear hW
    by_cases m1 : c.mode < 0
    · have hfin : E = 28 := by rw [← HE.out, if_pos ⟨by trivial, .inl m1⟩]
      have HF := Lib.hid hfin; clear hfin
      go_wp2
      refine wp_goto ?_
      exact And.intro (by trivial) (FirstAt.mk rfl (by rw [HF.out]; rfl) hb)
    by_cases m2 : 511 < c.mode
    · have hfin : E = 28 := by rw [← HE.out, if_pos ⟨by trivial, .inr m2⟩]
      have HF := Lib.hid hfin; clear hfin
      go_wp2
      refine wp_goto ?_
      exact And.intro (by trivial) (FirstAt.mk rfl (by rw [HF.out]; rfl) hb)
    have hE1 := HE.out
    rw [if_neg (fun h => h.2.elim m1 m2)] at hE1
    have HE1 := Lib.hid hE1; clear hE1
    go_upto_region 3 with (fail)
    by_cases p1 : c.path.data.toList = []
    · have hfin : E = 26 := by rw [← HE1.out, if_pos (.inl p1)]
      have HF := Lib.hid hfin; clear hfin
      obtain ⟨q1, q2⟩ := empty_b p1
      have P1 := Lib.hid p1; clear p1
      go_wp2
      refine wp_goto ?_
      exact And.intro (by trivial) (FirstAt.mk rfl (by rw [HF.out]; rfl) hb)
    obtain ⟨q1, q2, q3⟩ := nonempty_b p1
    by_cases p2 : c.dst.data.toList = []
    · have hfin : E = 26 := by rw [← HE1.out, if_pos (.inr ⟨by trivial, p2⟩)]
      have HF := Lib.hid hfin; clear hfin
      obtain ⟨s1, s2⟩ := empty_b p2
      have P1 := Lib.hid p1; have P2 := Lib.hid p2; clear p1 p2
      go_wp2
      refine wp_goto ?_
      exact And.intro (by trivial) (FirstAt.mk rfl (by rw [HF.out]; rfl) hb)
    obtain ⟨s1, s2, s3⟩ := nonempty_b p2
    have hE2 := HE1.out
    rw [if_neg (fun h => h.elim p1 fun h => p2 h.2)] at hE2
    have P2 := Lib.hid p2; clear p2
    have HE2 := Lib.hid hE2; clear hE2
    have P1 := Lib.hid p1; clear p1
    go_upto_region 5 with (fail)
    clear q1 q2 q3
    cases v1 : validL c.path.data.toList with
    | false =>
      have hfin : E = 20 := by rw [← HE2.out, if_pos (.inl v1)]
      have HF := Lib.hid hfin; clear hfin
      have V1 := Lib.hid v1; clear v1
      go_wp2_with (go_at_call 46; refine (valid_any c.path _ c.hp).mono ?_; rintro e w1 ⟨rfl, hb1⟩; rw [V1.out])
      refine wp_goto ?_
      exact And.intro (by trivial) (FirstAt.mk rfl (by rw [HF.out]; rfl) (hb.trans (hb1.mono (by omega))))
    | true =>
      have V1 := Lib.hid v1
      have tok1 : True := trivial
      cases v2 : validL c.dst.data.toList with
      | false =>
        have hfin : E = 20 := by rw [← HE2.out, if_pos (.inr ⟨by trivial, v2⟩)]
        have HF := Lib.hid hfin; clear hfin
        have V2 := Lib.hid v2; clear v1 v2
        go_wp2_with (first
          | (have _t := tok1; go_at_call 46; refine (valid_any c.path _ c.hp).mono ?_; rintro e w1 ⟨rfl, hb1⟩; rw [V1.out]; clear tok1 _t; have d2 := (hI.below hb1 (by omega)).cell 2; have d0 := (hR.below hb1 (by omega)).cell 0; replace hb := hb.trans (hb1.mono (by omega)); have hz1 := hb1.size)
          | (go_at_call 46; refine (valid_any c.dst _ c.hd).mono ?_; rintro e w2 ⟨rfl, hb2⟩; rw [V2.out]; replace hb := hb.trans (hb2.mono (by omega))))
        refine wp_goto ?_
        exact And.intro (by trivial) (FirstAt.mk rfl (by rw [HF.out]; rfl) hb)
      | true =>
        have V2 := Lib.hid v2
        have hE3 := HE2.out
        rw [if_neg (by rw [v1, v2]; simp)] at hE3
        have HE3 := Lib.hid hE3; clear hE3 v1 v2
        go_upto_region 7 with (first
          | (have _t := tok1; go_at_call 46; refine (valid_any c.path _ c.hp).mono ?_; rintro e w1 ⟨rfl, hb1⟩; rw [V1.out]; clear tok1 _t; have d2 := (hI.below hb1 (by omega)).cell 2; have d0 := (hR.below hb1 (by omega)).cell 0; replace hI := hI.below hb1 (by omega); replace hb := hb.trans (hb1.mono (by omega)); have hz1 := hb1.size)
          | (go_at_call 46; refine (valid_any c.dst _ c.hd).mono ?_; rintro e w2 ⟨rfl, hb2⟩; rw [V2.out]; replace hI := hI.below hb2 (by omega); replace hb := hb.trans (hb2.mono (by omega)); have hz2 := hb2.size))
        obtain ⟨W5, hW5⟩ : ∃ W5, W5 = w2 := ⟨_, rfl⟩
        rw [← hW5] at hb hI ⊢
        have hsz : W.heap.size ≤ W5.heap.size := by rw [hW5]; omega
        clear hW5 d2 d0 hz2 hb2
        clear i0 i1 i2 i3 i4
        have i0 := hI.cell 0
        have i4 := hI.cell 4
        by_cases o6 : c.op = 6
        · have hE4 := HE3.out
          rw [if_pos o6] at hE4
          have O6 := (beq_iff_eq (a := c.op) (b := 6)).2 o6
          have HO6 := Lib.hid o6; clear o6
          by_cases f1 : c.ref < 0
          · have hfin : E = 32 := by rw [← hE4, if_pos (.inl f1)]
            have HF := Lib.hid hfin; clear hfin hE4
            go_wp2
            refine wp_goto ?_
            exact And.intro (by trivial) (FirstAt.mk rfl (by rw [HF.out]; rfl) hb)
          by_cases f2 : (sn : Int) ≤ c.ref
          · have hfin : E = 32 := by rw [← hE4, if_pos (.inr (by rw [Hdl.out]; exact f2))]
            have HF := Lib.hid hfin; clear hfin hE4
            go_wp2
            refine wp_goto ?_
            exact And.intro (by trivial) (FirstAt.mk rfl (by rw [HF.out]; rfl) hb)
          rw [if_neg (by rw [Hdl.out]; exact fun h => h.elim f1 f2)] at hE4
          obtain ⟨r, hr⟩ : ∃ r : Nat, c.ref = r := ⟨c.ref.toNat, by omega⟩
          have hrl : r < sn := by omega
          have HS5 := HS.out.keep (hb.mono (Nat.le_refl _))
          obtain ⟨b, off, x, hA, hbl, hx, hc⟩ := HS5.sl.get SC.len HS5.len hrl
          obtain ⟨d, hd⟩ : ∃ d, ds[r]? = some d := ⟨ds[r]'(by rw [Hdl.out]; exact hrl), List.getElem?_eq_getElem _⟩
          have hdz := (HS5.dat r x d hx hd).1
          have c0 := hc 0 _ rfl
          simp only [Nat.add_zero, Nat.mul_one] at c0
          have hv : ((ds[c.ref.toNat]?).map (·.size)).getD 0 = x.n := by rw [hr, Int.toNat_natCast, hd]; exact hdz
          rw [hv] at hE4
          clear hv
          rw [hr] at i4
          subst hA
          have Hx := Lib.hid hx; have Hr := Lib.hid hr; clear hx hd hc hdz HS5 hr f1 f2
          have hri : (r : Int) < sn := by omega
          have HE4 := Lib.hid hE4; clear hE4
          go_upto_region 10 with (fail)
          by_cases f3 : 8192 < x.n
          · have hfin : E = 2 := by rw [← HE4.out, if_pos f3]
            have HF := Lib.hid hfin; clear hfin
            have f3' : (8192 : Int) < x.n := by omega
            go_wp2
            refine wp_label ?_
            go_wp2
            exact And.intro rfl ⟨_, (results_tmp rfl _ _ _).trans rfl, by rw [HF.out]; rfl, hb⟩
          · have hfin : E = 0 := by rw [← HE4.out, if_neg f3]
            have HF := Lib.hid hfin; clear hfin
            have f3' : ¬ (8192 : Int) < x.n := by omega
            go_wp2
            refine wp_label ?_
            go_wp2
            exact And.intro rfl ⟨_, (results_tmp rfl _ _ _).trans rfl, by rw [HF.out]; rfl, hb⟩
        · have hfin : E = 0 := by rw [← HE3.out, if_neg o6]
          have HF := Lib.hid hfin; clear hfin
          have O6 := beq_eq_false_iff_ne.2 o6
          have HO6 := Lib.hid o6; clear o6
          go_wp2
          refine wp_label ?_
          go_wp2
          exact And.intro rfl ⟨_, (results_tmp rfl _ _ _).trans rfl, by rw [HF.out]; rfl, hb⟩
theorem first_any (T Md : Bool) (c : Cmd) (f : Value) (SA : Option Addr) (sn sc : Nat) (ss : List SC) (ds : List ByteArray) (w : World) (hS : StockAt w SA sn ss ds) :
    Calls Try.prog 41 #[.agg c.cells, .agg #[.bool T, .bool Md, f], .slice SA sn sc] w (NumRes (firstE T Md c ds) w) := by
  cases T <;> cases Md
  · exact first_ff c f SA sn sc ss ds w hS
  · exact first_tf c f SA sn sc ss ds w hS
  · exact first_ft c f SA sn sc ss ds w hS
  · exact first_tt c f SA sn sc ss ds w hS
end Go.Proofs.Ytanaccoelifcpaa
