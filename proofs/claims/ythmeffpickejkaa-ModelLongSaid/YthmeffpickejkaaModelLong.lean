/- ModelLong. -/
import Derived.Test.YthmeffpickejkaaRun7
import Derived.Test.YthmeffpickejkaaOpenC
namespace Go.Proofs.Ythmeffpickejkaa.modelLongDone
open Go.ChangeShapes Go.WideShapes Go.ChangeAt Go.RowKit Go.Deep

def c0 : Cmd := ⟨0, ByteArray.empty, ByteArray.empty, 0, 0, by decide, by decide⟩
def c9 : Cmd := ⟨9, ByteArray.empty, ByteArray.empty, 0, 0, by decide, by decide⟩
theorem made_list (n : Nat) : (madeCells (Value.agg #[.int .i64 0, .string ByteArray.empty, .string ByteArray.empty, .int .i64 0, .int .i64 0]).cells (n * 5)).toList = (List.replicate n c0).flatMap Cmd.list := by
  induction n with
  | zero => simp [madeCells]
  | succ n ih =>
    rw [List.replicate_succ', List.flatMap_append, ← ih, Nat.succ_mul]
    simp only [madeCells, Array.toList_map, Array.toList_range, List.range_add, List.map_append, List.map_map]
    congr 1
    simp only [Value.cells, List.size_toArray, List.length_cons, List.length_nil, Nat.reduceAdd, List.flatMap_cons, List.flatMap_nil, List.append_nil]
    show List.map _ [0, 1, 2, 3, 4] = _
    simp only [List.map_cons, List.map_nil, Function.comp_apply, Nat.mul_add_mod_self_right]
    simp [Cmd.list, c0]
theorem own_setc {w : World} {base e sz g n c i : Nat} {L : List Value} (h : w.ownsRow base e sz (.slice (some ⟨g, 0, none⟩) n c) n L) (v : Value) :
    (w.setCell ⟨g, i, none⟩ v).ownsRow base e sz (.slice (some ⟨g, 0, none⟩) n c) n (L.set i v) := by
  refine ⟨by rw [List.length_set]; exact h.1, ?_⟩
  rcases h.2 with ⟨h', _⟩ | ⟨g', cap, cur, hv, hg, hh, hnc, hcm, hcs, ht⟩
  · cases h'
  · injection hv with hA _ hC
    injection hA with hA
    injection hA with hA
    subst hA hC
    refine .inr ⟨g, c, cur.setIfInBounds i v, rfl, hg, heap_setCell_same w g i cur e v hh, hnc, hcm, by simpa using hcs, ?_⟩
    rw [Array.toList_setIfInBounds, List.take_set, ht]
theorem own_blk {w : World} {base e sz g n c : Nat} {L : List Value} (h : w.ownsRow base e sz (.slice (some ⟨g, 0, none⟩) n c) n L) : ∃ cur, Blk w g e cur := by
  rcases h.2 with ⟨h', _⟩ | ⟨g', cap, cur, hv, hg, hh, _⟩
  · cases h'
  · injection hv with hA
    injection hA with hA
    injection hA with hA
    subst hA
    exact ⟨cur, hh⟩
theorem flat_setc {α : Type} {f : α → List Value} {sz : Nat} (hf : ∀ x, (f x).length = sz) : ∀ {xs : List α} {k : Nat} {x x' : α} {v : Value}, xs[k]? = some x → 0 < sz → f x' = (f x).set 0 v → (xs.flatMap f).set (k * sz) v = (xs.set k x').flatMap f
  | [], k, x, x', v, h, _, _ => by simp at h
  | y :: t, 0, x, x', v, h, hj, he => by
    simp at h; subst h
    rw [List.flatMap_cons, List.set_cons_zero, List.flatMap_cons, he, Nat.zero_mul, List.set_append_left _ _ (by rw [hf]; exact hj)]
  | y :: t, k + 1, x, x', v, h, hj, he => by
    rw [List.flatMap_cons, List.set_cons_succ, List.flatMap_cons, List.set_append_right _ _ (by rw [hf, Nat.succ_mul]; omega), hf, show (k + 1) * sz - sz = k * sz by rw [Nat.succ_mul]; omega, flat_setc hf (by simpa using h) hj he]
section
variable {ops : Array Oper} {rest : List Oper} {o : Oper} {a : Act} {Q : Exit → Act → World → Prop} {w : World}
/-- 'make([]api.Ins, n)': all are zero. -/
theorem wpList_make_z (hgd : o.guard = none) (x y : Operand) (ho : o.op = .makeSlice 62 x y) {base n : Nat} (hx : a.eval x = .int .i64 n) (hy : a.eval y = .int .i64 n) (hn : n ≤ 4100) (hbase : base ≤ w.heap.size)
    (h : ∀ g w', w'.ownsRow base 27 5 (.slice (some ⟨g, 0, none⟩) n n) n ((List.replicate n c0).flatMap Cmd.list) → w.grownBy w' none → wpList Try.prog ops Q rest (a.put o.dst (.slice (some ⟨g, 0, none⟩) n n)) w') : wpList Try.prog ops Q (o :: rest) a w := by
  obtain ⟨i, h2, h3, h4, h5⟩ := info_parts (P := Try.prog) (e := 27) (z := .agg #[.int .i64 0, .string ByteArray.empty, .string ByteArray.empty, .int .i64 0, .int .i64 0]) (size := 5) (bytes := 56) (by kernel_rfl)
  obtain ⟨w', hrun, h7, h8⟩ := run_make_full (P := Try.prog) w base 62 27 i _ 5 Try.underlying62 h2 h3 h4 .i64 .i64 n (by rw [h5]; omega) (by unfold maxLen; omega) hbase
  rw [made_list] at h7
  refine wpList_plain hgd fun K hK => ?_
  unfold Oper.wp execOp
  simp only [ho, hx, hy, Sem.run_bind, Sem.run_pure, Result.andThen_ok, hrun]
  exact hK _ _ (h _ w' h7 h8)
end
def fillL (n k : Nat) : List Cmd := List.replicate k c9 ++ List.replicate (n - k) c0
theorem fill_len {n k : Nat} (h : k ≤ n) : (fillL n k).length = n := by simp [fillL]; omega
theorem fill_get {n k : Nat} (h : k < n) : (fillL n k)[k]? = some c0 := by
  rw [fillL, List.getElem?_append_right (by simp), List.length_replicate, Nat.sub_self, List.getElem?_replicate, if_pos (by omega)]
theorem fill_set {n k : Nat} (h : k < n) : (fillL n k).set k c9 = fillL n (k + 1) := by
  obtain ⟨m, hm⟩ : ∃ m, n - k = m + 1 := ⟨n - k - 1, by omega⟩
  have h2 : n - (k + 1) = m := by omega
  rw [fillL, fillL, hm, h2, List.set_append_right _ _ (by simp), List.length_replicate, Nat.sub_self, List.replicate_succ, List.set_cons_zero, List.replicate_succ', List.append_assoc]; rfl
theorem fill_all (n : Nat) : fillL n n = List.replicate n c9 := by simp [fillL]
def FillN (w wr : World) (g n k : Nat) : Prop := wr.ownsRow w.heap.size 27 5 (.slice (some ⟨g, 0, none⟩) n n) n ((fillL n k).flatMap Cmd.list) ∧ Below w.heap.size w wr
theorem sync_do (M : PW) (sd : List ByteArray) : doE M c9 sd = 0 ∧ doM M c9 sd = M := by
  constructor
  · simp [doE, c9, isOp]
  · simp [doM, c9]
theorem sync_run (M : PW) (sd : List ByteArray) : ∀ (n k : Nat), runG sd (List.replicate n c9) M k = (M, k + n, 0)
  | 0, k => rfl
  | n + 1, k => by
    rw [List.replicate_succ, runG, if_pos (sync_do M sd).1, (sync_do M sd).2, sync_run M sd n (k + 1), Nat.add_right_comm, Nat.add_assoc]
theorem zero_loose : looseE zeroTV = 0 := by kernel_rfl
/-- Run of as many syncs on the empty tree. -/
theorem run_syncs (w wr : World) (g n : Nat) (h : FillN w wr g n n) (hn : n ≤ 4096) :
    Calls Try.prog 34 #[.agg #[.slice none 0 0, .slice none 0 0], .slice (some ⟨g, 0, none⟩) n n, .slice none 0 0] wr fun e w' => ∃ u : TV, e = .returned (.tuple #[u.val, .int .i64 n, .int .i64 0]) ∧ Below wr.heap.size wr w' := by
  have hr := run_any zeroTV [] (List.replicate n c9) (fun c hc => by rw [List.eq_of_mem_replicate hc]; decide) (some ⟨g, 0, none⟩) n n none 0 0 [] [] wr (zeroTV_at wr) zero_loose (by rw [← fill_all]; exact Sl.of_own h.1) (by simp) hn (StockAt.nil wr)
  refine hr.mono ?_
  rintro e w' ⟨u, rfl, _, hb⟩
  rw [sync_run, Nat.zero_add]
  exact ⟨u, rfl, hb⟩
theorem run_syncs_long (wr : World) (g n : Nat) (hn : 4096 < n) (hm : n ≤ 4100) :
    Calls Try.prog 34 #[.agg #[.slice none 0 0, .slice none 0 0], .slice (some ⟨g, 0, none⟩) n n, .slice none 0 0] wr fun e w' => e = .returned (.tuple #[.agg #[.slice none 0 0, .slice none 0 0], .int .i64 0, .int .i64 2]) ∧ Below wr.heap.size wr w' :=
  run_no 2 zeroTV _ n n none 0 0 wr (fun W _ => all_long zeroTV [] _ n n none 0 0 _ W (zeroTV_at W) zero_loose hn (by omega))
set_option maxRecDepth 100000 in
set_option maxHeartbeats 4000000 in
theorem walk (n : Int) (w : World) (_ : (Lit.int .i64 n).wf = true) : Calls Try.prog 9 #[.int .i64 n] w fun e w' => e = .returned (.bool true) ∧ Below w.heap.size w w' := by
  by_cases h1 : n < 4090
  · go_enter Try.func9, Try.ntmps9
    go_wp2_with (go_at_call 13; refine (alive7 _).mono ?_; rintro e w1 ⟨rfl, hb1⟩)
    go_ret
    exact ⟨rfl, hb1⟩
  by_cases h3 : 4100 < n
  · go_enter Try.func9, Try.ntmps9
    go_wp2_with (go_at_call 13; refine (alive7 _).mono ?_; rintro e w1 ⟨rfl, hb1⟩)
    go_ret
    exact ⟨rfl, hb1⟩
  obtain ⟨n, rfl⟩ := Int.eq_ofNat_of_zero_le (show 0 ≤ n by omega)
  have hn3 : n ≤ 4100 := by omega
  go_enter Try.func9, Try.ntmps9
  go_wp2_with (first | (go_at_call 13; refine (alive7 _).mono ?_; rintro e w1 ⟨rfl, hb1⟩; have hs1 := hb1.size) | (refine wpList_make_z rfl _ _ rfl rfl rfl (by omega) hs1 ?_; intro g w2 ho2 hg2))
  have hF0 : FillN w w2 g n 0 := ⟨by rw [fillL]; exact ho2, hb1.trans (below_grown hg2 hs1 (fun g e => by cases e))⟩
  clear ho2 hg2 hb1 hs1
  go_loopw [5] (fun i wr => ∃ k : Nat, k ≤ n ∧ i = .int .i64 k ∧ FillN w wr g n k) (fun i _ => n - (intOf i).toNat)
  case atStart => exact ⟨0, Nat.zero_le _, rfl, hF0⟩
  case round =>
    obtain ⟨k, hk, rfl, hF⟩ := hrel
    clear hF0
    by_cases hlt : k < n
    · have hki : (k : Int) < n := by omega
      have HF := Lib.hid hF
      obtain ⟨ho, hbw⟩ := hF
      obtain ⟨cur, hBk⟩ := own_blk ho
      obtain ⟨b, o, x, hA, _, hx, hc⟩ := (Sl.of_own ho).get (f := Cmd.list) (fun _ => rfl) (fill_len hk) hlt
      injection hA with hA
      injection hA with e1 e2
      subst e1 e2
      have d0 := hc 0 _ rfl
      simp only [Nat.add_zero, Nat.zero_add] at d0
      have f0 := hBk.frozen (k * 5)
      clear hc hx
      go_wp2
      go_roundw
      case rel => exact ⟨k + 1, by omega, by go_num, by have h := own_setc (i := k * 5) ho (.int .i64 9); rw [flat_setc (f := Cmd.list) (sz := 5) (fun _ => rfl) (fill_get hlt) (by omega) (x' := c9) (v := .int .i64 9) rfl, fill_set hlt] at h; exact h, hbw.setCell (p := ⟨g, k * 5, none⟩) (own_row ho).2.1 _⟩
      case measure => simp [intOf]; omega
    · obtain rfl : k = n := by omega
      have HF := Lib.hid hF
      have hbw := hF.2
      clear hF
      have hws := hbw.size
      by_cases h4 : 4096 < k
      · go_wp2_with (first | (go_at_call 34; refine (run_syncs_long _ _ _ h4 hn3).mono ?_; rintro e w6 ⟨rfl, hb6⟩; replace hbw := hbw.trans (hb6.mono hbw.size)) | (go_at_call 20; refine (num7 _ _).mono ?_; rintro e w7 ⟨rfl, hw⟩; rw [hw]; clear hw))
        go_ret
        exact ⟨rfl, hbw.alloc hbw.size _⟩
      · go_wp2_with (first | (go_at_call 34; refine (run_syncs w _ _ _ HF.out (by omega)).mono ?_; rintro e w6 ⟨u, rfl, hb6⟩; replace hbw := hbw.trans (hb6.mono hbw.size); unfold TV.val) | (go_at_call 20; refine (num7 _ _).mono ?_; rintro e w7 ⟨rfl, hw⟩; rw [hw]; clear hw))
        go_ret
        exact ⟨rfl, hbw.alloc hbw.size _⟩


set_option maxRecDepth 100000 in
theorem lifted (os : Os) (started : os.Started) (H : Type) (enc : TypeId × Value → H) :
    ReturnsInHanded {} Try.checked os 9 .any (Rows.modelLongSpec.pre6 enc Try.prog Try.f9 Rows.modelLongRow.domain false) (Rows.modelLongSpec.post enc Try.prog Try.f9 false true false false) := by
  refine returnsInHanded_of_change (C := Try.checked) own started (by kernel_rfl) Try.func9
    (ChangeSpec.witness6 (enc := enc) (C := Try.checked) false ⟨#[], #[.int .i64 0], []⟩ 8 (by kernel_rfl) (by kernel_rfl) (by kernel_rfl) (by kernel_rfl)) ?_
  intro W base args ds gs before hval0 hW hcnd _
  have hval : ∀ (j : Nat) t v, Try.f9.params[j]? = some t → args[j]? = some v → Value.okWide Try.prog W .any base t v := hval0
  have hW' := hW
  obtain ⟨p, q, hA0, hV, rfl, hfz, hnd⟩ := hW
  have hA : DataW.TrodAll enc Try.prog W 0 (fun _ => true) true Try.f9.params.toList args.toList ds p := hA0
  rw [Try.params9] at hA hval
  obtain ⟨v0, vs0, d0, ds0, p0, q0, hargs, rfl, rfl, h0, r0⟩ := trodAll_cons hA
  obtain ⟨rfl, rfl, rfl⟩ := trodAll_nil r0
  obtain rfl : args = #[v0] := by cases args; simp_all
  obtain ⟨rfl, rfl⟩ := trodVars_none hV
  obtain ⟨a0, rfl, rfl, rfl, w0⟩ := open_int Try.underlying3 (hval 0 3 v0 rfl rfl) h0
  clear hA0 hval0
  refine (walk a0 W w0).mono fun e W' ⟨he, bel⟩ => ?_
  subst he
  exact ⟨_, rfl, _, _, _, [], _, [], hW', trodAll_mk1 (shut_bool Try.underlying4 _), (trodAll_cons_mk (shut_int Try.underlying3 w0) trodAll_mk0), rfl, bel.frame _, fun h => by cases h⟩

theorem over : Rows.modelLongRow.holds Try.pinned (OpenSpec.ofChange Rows.modelLongSpec) :=
  OpenClaim.holds_of_wide 9 Try.f9 rfl rfl rfl rfl rfl rfl rfl ⟨rfl, rfl, rfl, rfl, rfl⟩ rfl rfl rfl rfl rfl (by kernel_rfl) Try.func9 (by kernel_rfl)
    (of_decide_eq_true (by kernel_rfl)) (by unfold Func.isWrapper; first | (rw [if_pos (by decide +kernel)]; kernel_rfl) | (rw [if_neg (by decide +kernel)]; exact ⟨rfl, rfl⟩))
    (fun os started H enc _ => lifted os started H enc)

theorem proved : Rows.ModelLongSaid := over
#print axioms proved
end Go.Proofs.Ythmeffpickejkaa.modelLongDone
