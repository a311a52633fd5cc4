/- model.rows: the row of an Op. -/
import Derived.Test.YthmeffpickejkaaOps
namespace Go.Proofs.Ythmeffpickejkaa
open Go.RowKit

theorem Try.mtRows : MT 124 3 111 (.agg #[.bool false, .bool false, .nilFunc]) := ⟨Try.underlying124, fun w => by kernel_rfl⟩
def rowV (dst mode : Bool) (f : Value) : Array Value := #[.bool dst, .bool mode, f]
def fnV (k : Nat) : Value := .func (.func k) #[] #[]
/-- The row of an Op. -/
def rowOf (op : Int) : Array Value :=
  if op = 1 then rowV false true (fnV 77) else if op = 2 then rowV false false (fnV 78) else if op = 3 then rowV true false (fnV 79)
  else if op = 4 then rowV true false (fnV 80) else if op = 5 then rowV false false (fnV 81) else if op = 6 then rowV false true (fnV 82)
  else if op = 7 then rowV true true (fnV 83) else if op = 8 then rowV false true (fnV 84) else rowV false false .nilFunc
def isOp (op : Int) : Bool := decide (1 ≤ op ∧ op ≤ 9)
def RowRes (op : Int) (w : World) (e : Ending) (w' : World) : Prop := e = .returned (.tuple #[.agg (rowOf op), .bool (isOp op)]) ∧ Below w.heap.size w w'
def rowsL : List (Int × Value) := putV (putV (putV (putV (putV (putV (putV (putV (putV [] 1 (.agg (rowOf 1))) 2 (.agg (rowOf 2))) 3 (.agg (rowOf 3))) 4 (.agg (rowOf 4))) 5 (.agg (rowOf 5))) 6 (.agg (rowOf 6))) 7 (.agg (rowOf 7))) 8 (.agg (rowOf 8))) 9 (.agg (rowOf 9))
theorem rows_get (op : Int) : (getV rowsL op).getD (.agg #[.bool false, .bool false, .nilFunc]) = .agg (rowOf op) ∧ (getV rowsL op).isSome = isOp op := by
  have h0 : (keysV ([] : List (Int × Value))).Nodup := by simp [keysV]
  have e : getV rowsL op = if isOp op = true then some (.agg (rowOf op)) else none := by
    unfold rowsL
    repeat rw [putV_get (by repeat first | exact h0 | apply putV_nodup)]
    unfold isOp
    by_cases h : 1 ≤ op ∧ op ≤ 9
    · have : op = 1 ∨ op = 2 ∨ op = 3 ∨ op = 4 ∨ op = 5 ∨ op = 6 ∨ op = 7 ∨ op = 8 ∨ op = 9 := by omega
      rcases this with rfl | rfl | rfl | rfl | rfl | rfl | rfl | rfl | rfl <;> simp
    · simp [h, getV, show ¬ op = 1 by omega, show ¬ op = 2 by omega, show ¬ op = 3 by omega, show ¬ op = 4 by omega, show ¬ op = 5 by omega, show ¬ op = 6 by omega, show ¬ op = 7 by omega, show ¬ op = 8 by omega, show ¬ op = 9 by omega]
  rw [e]
  by_cases h : isOp op = true
  · rw [if_pos h]; exact ⟨rfl, h.symm⟩
  · rw [if_neg h]
    refine ⟨?_, by simp at h; rw [h]; rfl⟩
    simp only [isOp, decide_eq_true_eq] at h
    unfold rowOf
    rw [if_neg (by omega), if_neg (by omega), if_neg (by omega), if_neg (by omega), if_neg (by omega), if_neg (by omega), if_neg (by omega), if_neg (by omega)]
    rfl
set_option maxRecDepth 100000 in
set_option maxHeartbeats 2000000 in
theorem rows_any (op : Int) (ho : -9223372036854775808 ≤ op ∧ op ≤ 9223372036854775807) (w : World) : Calls Try.prog 61 #[.int .i64 op] w (RowRes op w) := by
  have hG := rows_get op
  obtain ⟨r, hr⟩ : ∃ r, rowOf op = r := ⟨_, rfl⟩
  obtain ⟨t, ht⟩ : ∃ t, isOp op = t := ⟨_, rfl⟩
  have hrs : ∃ a b f, r = #[.bool a, .bool b, f] ∧ f.oneCell' = true := by
    rw [← hr]
    unfold rowOf rowV fnV
    repeat (first | exact ⟨_, _, _, rfl, rfl⟩ | split)
  rw [hr, ht] at hG
  obtain ⟨a, b, f, rfl, hf1⟩ := hrs
  have HG := Lib.hid hG; have Hr := Lib.hid hr; have Ht := Lib.hid ht; clear hG hr ht
  have hmm := @run_makeMap Try.prog
  have hR0 := Blk.new w 111 #[.bool false, .bool false, .nilFunc]
  have hb0 : Below w.heap.size w (w.alloc (.cells #[.bool false, .bool false, .nilFunc] 111)) := (Below.refl _ _).alloc (Nat.le_refl _) _
  obtain ⟨W0, hW0⟩ : ∃ W0, W0 = w.alloc (.cells #[.bool false, .bool false, .nilFunc] 111) := ⟨_, rfl⟩
  have hm := MapV.new (T := intK) W0
  have hR := hR0.alloc (.map #[] 0)
  rw [← hW0] at hb0 hR hR0
  have hb := hb0.alloc hb0.size (.map #[] 0)
  have hsz : w.heap.size < W0.heap.size := by rw [hW0]; simp
  have hlen : ([] : List (Int × Value)).length ≤ 0 := Nat.le_refl _
  clear hR0 hb0
  go_enter Try.func61, Try.ntmps61
  go_upto_region 1 with (fail)
  rw [← hW0]
  clear hW0
  go_upto_region 2 with (first
    | (refine wpList_mv_put (a := _) (w := _) rfl Try.mtRows (.tmp 7) (.const (.int .i64 1)) (.tmp 8) (.inr rfl) rfl hm (T := intK) (q := 1) rfl (by show (Lit.int .i64 _).wf = true; decide) (v := .agg (rowOf 1)) rfl (by unfold maxLen; omega) ?_; replace hlen := Nat.le_trans (putV_len _ 1 (.agg (rowOf 1))) (Nat.succ_le_succ hlen); intro w1 hm' hg hs; replace hR := hR.grown hg (fun e => by injection e with e; omega); replace hb := hb.trans (below_grown hg hb.size (fun g e => by injection e with e; omega)); clear hm; have hm := hm'; clear hm' hg hs)
    | (refine wpList_mv_put (a := _) (w := _) rfl Try.mtRows (.tmp 7) (.const (.int .i64 2)) (.tmp 9) (.inr rfl) rfl hm (T := intK) (q := 2) rfl (by show (Lit.int .i64 _).wf = true; decide) (v := .agg (rowOf 2)) rfl (by unfold maxLen; omega) ?_; replace hlen := Nat.le_trans (putV_len _ 2 (.agg (rowOf 2))) (Nat.succ_le_succ hlen); intro w2 hm' hg hs; replace hR := hR.grown hg (fun e => by injection e with e; omega); replace hb := hb.trans (below_grown hg hb.size (fun g e => by injection e with e; omega)); clear hm; have hm := hm'; clear hm' hg hs)
    | (refine wpList_mv_put (a := _) (w := _) rfl Try.mtRows (.tmp 7) (.const (.int .i64 3)) (.tmp 10) (.inr rfl) rfl hm (T := intK) (q := 3) rfl (by show (Lit.int .i64 _).wf = true; decide) (v := .agg (rowOf 3)) rfl (by unfold maxLen; omega) ?_; replace hlen := Nat.le_trans (putV_len _ 3 (.agg (rowOf 3))) (Nat.succ_le_succ hlen); intro w3 hm' hg hs; replace hR := hR.grown hg (fun e => by injection e with e; omega); replace hb := hb.trans (below_grown hg hb.size (fun g e => by injection e with e; omega)); clear hm; have hm := hm'; clear hm' hg hs)
    | (refine wpList_mv_put (a := _) (w := _) rfl Try.mtRows (.tmp 7) (.const (.int .i64 4)) (.tmp 11) (.inr rfl) rfl hm (T := intK) (q := 4) rfl (by show (Lit.int .i64 _).wf = true; decide) (v := .agg (rowOf 4)) rfl (by unfold maxLen; omega) ?_; replace hlen := Nat.le_trans (putV_len _ 4 (.agg (rowOf 4))) (Nat.succ_le_succ hlen); intro w4 hm' hg hs; replace hR := hR.grown hg (fun e => by injection e with e; omega); replace hb := hb.trans (below_grown hg hb.size (fun g e => by injection e with e; omega)); clear hm; have hm := hm'; clear hm' hg hs)
    | (refine wpList_mv_put (a := _) (w := _) rfl Try.mtRows (.tmp 7) (.const (.int .i64 5)) (.tmp 12) (.inr rfl) rfl hm (T := intK) (q := 5) rfl (by show (Lit.int .i64 _).wf = true; decide) (v := .agg (rowOf 5)) rfl (by unfold maxLen; omega) ?_; replace hlen := Nat.le_trans (putV_len _ 5 (.agg (rowOf 5))) (Nat.succ_le_succ hlen); intro w5 hm' hg hs; replace hR := hR.grown hg (fun e => by injection e with e; omega); replace hb := hb.trans (below_grown hg hb.size (fun g e => by injection e with e; omega)); clear hm; have hm := hm'; clear hm' hg hs)
    | (refine wpList_mv_put (a := _) (w := _) rfl Try.mtRows (.tmp 7) (.const (.int .i64 6)) (.tmp 13) (.inr rfl) rfl hm (T := intK) (q := 6) rfl (by show (Lit.int .i64 _).wf = true; decide) (v := .agg (rowOf 6)) rfl (by unfold maxLen; omega) ?_; replace hlen := Nat.le_trans (putV_len _ 6 (.agg (rowOf 6))) (Nat.succ_le_succ hlen); intro w6 hm' hg hs; replace hR := hR.grown hg (fun e => by injection e with e; omega); replace hb := hb.trans (below_grown hg hb.size (fun g e => by injection e with e; omega)); clear hm; have hm := hm'; clear hm' hg hs)
    | (refine wpList_mv_put (a := _) (w := _) rfl Try.mtRows (.tmp 7) (.const (.int .i64 7)) (.tmp 14) (.inr rfl) rfl hm (T := intK) (q := 7) rfl (by show (Lit.int .i64 _).wf = true; decide) (v := .agg (rowOf 7)) rfl (by unfold maxLen; omega) ?_; replace hlen := Nat.le_trans (putV_len _ 7 (.agg (rowOf 7))) (Nat.succ_le_succ hlen); intro w7 hm' hg hs; replace hR := hR.grown hg (fun e => by injection e with e; omega); replace hb := hb.trans (below_grown hg hb.size (fun g e => by injection e with e; omega)); clear hm; have hm := hm'; clear hm' hg hs)
    | (refine wpList_mv_put (a := _) (w := _) rfl Try.mtRows (.tmp 7) (.const (.int .i64 8)) (.tmp 15) (.inr rfl) rfl hm (T := intK) (q := 8) rfl (by show (Lit.int .i64 _).wf = true; decide) (v := .agg (rowOf 8)) rfl (by unfold maxLen; omega) ?_; replace hlen := Nat.le_trans (putV_len _ 8 (.agg (rowOf 8))) (Nat.succ_le_succ hlen); intro w8 hm' hg hs; replace hR := hR.grown hg (fun e => by injection e with e; omega); replace hb := hb.trans (below_grown hg hb.size (fun g e => by injection e with e; omega)); clear hm; have hm := hm'; clear hm' hg hs)
    | (refine wpList_mv_put (a := _) (w := _) rfl Try.mtRows (.tmp 7) (.const (.int .i64 9)) (.tmp 16) (.inr rfl) rfl hm (T := intK) (q := 9) rfl (by show (Lit.int .i64 _).wf = true; decide) (v := .agg (rowOf 9)) rfl (by unfold maxLen; omega) ?_; replace hlen := Nat.le_trans (putV_len _ 9 (.agg (rowOf 9))) (Nat.succ_le_succ hlen); intro w9 hm' hg hs; replace hR := hR.grown hg (fun e => by injection e with e; omega); replace hb := hb.trans (below_grown hg hb.size (fun g e => by injection e with e; omega)); clear hm; have hm := hm'; clear hm' hg hs))
  have hm2 : MapV intK w9 W0.heap.size rowsL := hm
  have hok : intK.ok op := wf_i64 ho.1 ho.2
  clear hm hmm hlen
  have h1 : (#[.bool a, .bool b, f] : Array Value).all (·.oneCell') = true := by
    rw [Array.all_eq_true']
    intro u hu
    simp only [List.mem_toArray, List.mem_cons, List.not_mem_nil, or_false] at hu
    rcases hu with rfl | rfl | rfl
    · rfl
    · rfl
    · exact hf1
  go_upto_region 3 with (first | (refine wpList_store_new rfl 111 (.tmp 5) (.tmp 22) rfl 111 #[.bool false, .bool false, .nilFunc] #[.bool a, .bool b, f] rfl rfl (by kernel_rfl) rfl h1 ?_) | refine wpList_mv_ok (k := 3) rfl Try.mtRows (.tmp 19) (.tmp 20) rfl rfl hm2 (T := intK) (q := op) rfl hok (v := .agg #[.bool a, .bool b, f]) (ok := t) HG.out.1 HG.out.2 ?_)
  have hX := Blk.new w9 111 #[.bool a, .bool b, f]
  have hR2 := hR.alloc (.cells #[.bool a, .bool b, f] 111)
  have hb2 := hb.alloc hb.size (.cells #[.bool a, .bool b, f] 111)
  have x0 := hX.cell 0
  have x1 := hX.cell 1
  have x2 := hX.cell 2
  go_wp2_with (refine wpList_store_blk rfl 111 (.tmp 2) (.tmp 24) rfl hR2 #[.bool a, .bool b, f] rfl rfl (by kernel_rfl) rfl h1 ?_; intro w20 hB5 hg5 hs5)
  refine ret_cell_t rfl rfl (load_blk hB5 Try.underlying111 rfl (by kernel_rfl)) rfl ⟨?_, hb2.trans (below_grown hg5 hb2.size (fun g e => by injection e with e; omega))⟩
  rw [Hr.out, Ht.out]
  rfl
end Go.Proofs.Ythmeffpickejkaa
