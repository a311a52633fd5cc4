/- PackMany. -/
import Derived.Test.YtgeiegjpnnbloaaDoorAliveK
import Derived.Test.YtgeiegjpnnbloaaDoorLaidK
import Derived.Test.YtgeiegjpnnbloaaDoorSameS
import Derived.Test.YtgeiegjpnnbloaaDoorCards
import Derived.Test.YtgeiegjpnnbloaaDoorTie
import Derived.SevenTiedAt
namespace Go.Proofs.YtgeiegjpnnbloaaDoor.packManyDone
open Go.ChangeShapes Go.WideShapes Go.ChangeAt Go.ChangeMaps Go.RowKit Go.Deep

def i0 : Ins := ⟨0, ByteArray.empty, ByteArray.empty, 0, 0⟩
theorem made_list (n : Nat) : (madeCells (Value.agg #[.int .i64 0, .string ByteArray.empty, .string ByteArray.empty, .int .i64 0, .int .i64 0]).cells (n * 5)).toList = (List.replicate n i0).flatMap Ins.list := by
  induction n with
  | zero => simp [madeCells]
  | succ n ih =>
    rw [List.replicate_succ', List.flatMap_append, ← ih, Nat.succ_mul]
    simp only [madeCells, Array.toList_map, Array.toList_range, List.range_add, List.map_append, List.map_map]
    congr 1
    simp only [Value.cells, List.size_toArray, List.length_cons, List.length_nil, Nat.reduceAdd, List.flatMap_cons, List.flatMap_nil, List.append_nil]
    show List.map _ [0, 1, 2, 3, 4] = _
    simp only [List.map_cons, List.map_nil, Function.comp_apply, Nat.mul_add_mod_self_right]
    simp [Ins.list, i0]
theorem own_setc {w : World} {base e sz g n c i : Nat} {L : List Value} (h : w.ownsRow base e sz (.slice (some ⟨g, 0, none⟩) n c) n L) (v : Value) :
    (w.setCell ⟨g, i, none⟩ v).ownsRow base e sz (.slice (some ⟨g, 0, none⟩) n c) n (L.set i v) := by
  refine ⟨by rw [List.length_set]; exact h.1, ?_⟩
  rcases h.2 with ⟨h', _⟩ | ⟨g', cap, cur, hv, hg, hh, hnc, hcm, hcs, ht⟩
  · cases h'
  · injection hv with hA _ hC
    injection hA with hA
    injection hA with hA
    subst hA hC
    refine .inr ⟨g, c, cur.setIfInBounds i v, rfl, hg, heap_setCell_same w g i cur e v hh, hnc, hcm, by simpa using hcs, ?_⟩
    rw [Array.toList_setIfInBounds, List.take_set, ht]
theorem own_blk {w : World} {base e sz g n c : Nat} {L : List Value} (h : w.ownsRow base e sz (.slice (some ⟨g, 0, none⟩) n c) n L) : ∃ cur, Blk w g e cur := by
  rcases h.2 with ⟨h', _⟩ | ⟨g', cap, cur, hv, hg, hh, _⟩
  · cases h'
  · injection hv with hA
    injection hA with hA
    injection hA with hA
    subst hA
    exact ⟨cur, hh⟩
theorem flat_setc {α : Type} {f : α → List Value} {sz : Nat} (hf : ∀ x, (f x).length = sz) : ∀ {xs : List α} {k : Nat} {x x' : α} {v : Value}, xs[k]? = some x → 0 < sz → f x' = (f x).set 0 v → (xs.flatMap f).set (k * sz) v = (xs.set k x').flatMap f
  | [], k, x, x', v, h, _, _ => by simp at h
  | y :: t, 0, x, x', v, h, hj, he => by
    simp at h; subst h
    rw [List.flatMap_cons, List.set_cons_zero, List.flatMap_cons, he, Nat.zero_mul, List.set_append_left _ _ (by rw [hf]; exact hj)]
  | y :: t, k + 1, x, x', v, h, hj, he => by
    rw [List.flatMap_cons, List.set_cons_succ, List.flatMap_cons, List.set_append_right _ _ (by rw [hf, Nat.succ_mul]; omega), hf, show (k + 1) * sz - sz = k * sz by rw [Nat.succ_mul]; omega, flat_setc hf (by simpa using h) hj he]
section
variable {ops : Array Oper} {rest : List Oper} {o : Oper} {a : Act} {Q : Exit → Act → World → Prop} {w : World}
/-- 'make([]api.Ins, n)': all are zero. -/
theorem wpList_make_z (hgd : o.guard = none) (x y : Operand) (ho : o.op = .makeSlice 27 x y) {base n : Nat} (hx : a.eval x = .int .i64 n) (hy : a.eval y = .int .i64 n) (hn : n ≤ 4100) (hbase : base ≤ w.heap.size)
    (h : ∀ g w', w'.ownsRow base 42 5 (.slice (some ⟨g, 0, none⟩) n n) n ((List.replicate n i0).flatMap Ins.list) → w.grownBy w' none → wpList Tryd.prog ops Q rest (a.put o.dst (.slice (some ⟨g, 0, none⟩) n n)) w') : wpList Tryd.prog ops Q (o :: rest) a w := by
  obtain ⟨i, h2, h3, h4, h5⟩ := info_parts (P := Tryd.prog) (e := 42) (z := .agg #[.int .i64 0, .string ByteArray.empty, .string ByteArray.empty, .int .i64 0, .int .i64 0]) (size := 5) (bytes := 56) (by kernel_rfl)
  obtain ⟨w', hrun, h7, h8⟩ := run_make_full (P := Tryd.prog) w base 27 42 i _ 5 Tryd.underlying27 h2 h3 h4 .i64 .i64 n (by rw [h5]; omega) (by unfold maxLen; omega) hbase
  rw [made_list] at h7
  refine wpList_plain hgd fun K hK => ?_
  unfold Oper.wp execOp
  simp only [ho, hx, hy, Sem.run_bind, Sem.run_pure, Result.andThen_ok, hrun]
  exact hK _ _ (h _ w' h7 h8)
end
def fillL (n k : Nat) : List Ins := List.replicate k syncI ++ List.replicate (n - k) i0
theorem fill_len {n k : Nat} (h : k ≤ n) : (fillL n k).length = n := by simp [fillL]; omega
theorem fill_get {n k : Nat} (h : k < n) : (fillL n k)[k]? = some i0 := by
  rw [fillL, List.getElem?_append_right (by simp), List.length_replicate, Nat.sub_self, List.getElem?_replicate, if_pos (by omega)]
theorem fill_set {n k : Nat} (h : k < n) : (fillL n k).set k syncI = fillL n (k + 1) := by
  obtain ⟨m, hm⟩ : ∃ m, n - k = m + 1 := ⟨n - k - 1, by omega⟩
  have h2 : n - (k + 1) = m := by omega
  rw [fillL, fillL, hm, h2, List.set_append_right _ _ (by simp), List.length_replicate, Nat.sub_self, List.replicate_succ, List.set_cons_zero, List.replicate_succ', List.append_assoc]; rfl
theorem fill_all (n : Nat) : fillL n n = List.replicate n syncI := by simp [fillL]
def manyScr (g n : Nat) (ins : List Ins) : Scr := ⟨zero32, zero32, 0, 0, ins, [], some ⟨g, 0, none⟩, n, n, none, 0, 0⟩
theorem many_cells (g n : Nat) (ins : List Ins) : Tryd.zeroCells30.setIfInBounds 65 (.slice (some ⟨g, 0, none⟩) n n) = (manyScr g n ins).C := by
  rw [zero_cells, set_ins (t := zeroScr) (l := ins) (by simp [zeroScr, zero32]) (by simp [zeroScr, zero32])]
  rfl
theorem rec_len (n : Nat) : ((List.replicate n syncI).flatMap recL).length = 12 * n := by
  induction n with
  | zero => rfl
  | succ n ih =>
    rw [List.replicate_succ, List.flatMap_cons, List.length_append, ih, recL_len]
    show 12 + 0 + 0 + 12 * n = _
    omega
def FillN (w wr : World) (g q n k : Nat) : Prop := wr.ownsRow w.heap.size 42 5 (.slice (some ⟨g, 0, none⟩) n n) n ((fillL n k).flatMap Ins.list) ∧ Blk wr q 30 (manyScr g n []).C ∧ Below w.heap.size w wr
set_option maxRecDepth 100000 in
set_option maxHeartbeats 8000000 in
theorem walk (n : Int) (a0 a1 a2 : Addr) (w : World) (hE : ErrsAt w a0 a1 a2) : Calls Tryd.prog 4 #[.int .i64 n] w fun e w' => e = .returned (.bool true) ∧ Below w.heap.size w w' := by
  have HE := Lib.hid hE
  clear hE
  go_enter Tryd.func4, Tryd.ntmps4
  go_upto_region 2 with (go_at_call 6; refine (alive19 a0 a1 a2 _ HE.out).mono ?_; rintro e w1 ⟨rfl, hb1⟩)
  have hs1 := hb1.size
  by_cases h1 : n < 0
  · go_wp2
    go_ret
    exact ⟨rfl, hb1⟩
  by_cases h2 : 4100 < n
  · go_wp2
    go_ret
    exact ⟨rfl, hb1⟩
  obtain ⟨n, rfl⟩ := Int.eq_ofNat_of_zero_le (show 0 ≤ n by omega)
  have hn3 : n ≤ 4100 := by omega
  have h32 : zero32.length = 32 := by simp [zero32]
  have hzs : Tryd.zeroCells30.size = 67 := by rw [zero_cells]; exact zsize
  have hz : ∀ g, (manyScr g n []).C.size = 67 := fun g => Scr.size h32 h32
  have hone : ∀ g, (manyScr g n []).C.all (·.oneCell') = true := fun g => Scr.one _
  have HZS := Lib.hid hzs; have HZ := Lib.hid hz; have HO := Lib.hid hone
  clear hzs hz hone
  go_upto_region 5 with (first | (refine wpList_make_z rfl _ _ rfl rfl rfl (by omega) hs1 ?_; intro g w2 ho2 hg2) | (refine wpList_store_blk rfl 30 (.tmp 4) (.tmp 24) rfl (Blk.new w2 30 Tryd.zeroCells30) (manyScr g n []).C rfl (congrArg Value.agg (many_cells g n [])) (by rw [HZ.out]; kernel_rfl) (by rw [HZS.out, HZ.out]) (HO.out g) ?_; intro w3 hB3 hg3 hs3))
  have hs2 : w.heap.size ≤ w2.heap.size := Nat.le_trans hs1 hg2.size
  have h23 : Below w2.heap.size w2 w3 := ((Below.refl _ _).alloc (Nat.le_refl _) (.cells Tryd.zeroCells30 30)).trans (below_grown hg3 (by simp) (fun q e => by injection e with e; omega))
  have h12 : Below w.heap.size w1 w2 := below_grown hg2 hs1 (fun g e => by cases e)
  have hbw3 : Below w.heap.size w w3 := (hb1.trans h12).trans (h23.mono hs2)
  obtain ⟨_, _, hgl, _, _⟩ := own_row ho2
  have ho3 := own_keep ho2 (fun g' o e => by injection e with e; injection e with e _; subst e; exact h23.block g hgl)
  obtain ⟨q, hq⟩ : ∃ q, w2.heap.size = q := ⟨_, rfl⟩
  rw [hq] at hB3 ⊢
  have hF0 : FillN w w3 g q n 0 := ⟨by rw [fillL]; exact ho3, hB3, hbw3⟩
  have H32 := Lib.hid h32
  clear ho2 hg2 hb1 hs1 hs2 h23 h12 hbw3 ho3 hq hB3 hg3 hs3 hgl h32
  go_wp2
  go_loopw [5] (fun i wr => ∃ k : Nat, k ≤ n ∧ i = .int .i64 k ∧ FillN w wr g q n k) (fun i _ => n - (intOf i).toNat)
  case atStart => exact ⟨0, Nat.zero_le _, rfl, hF0⟩
  case round =>
  obtain ⟨k, hk, rfl, hF⟩ := hrel
  clear hF0
  obtain ⟨ho, hBq, hbw⟩ := hF
  have hne : q ≠ g := Blk.ne_own hBq ho (by decide)
  have hql := hBq.lt
  by_cases hlt : k < n
  · have hki : (k : Int) < n := by omega
    have b65 : wr.cell? ⟨q, 65, none⟩ = some (.slice (some ⟨g, 0, none⟩) n n) := (hBq.cell 65).trans (Scr.cell (s := manyScr g n []) H32.out H32.out).2.1
    obtain ⟨cur, hBk⟩ := own_blk ho
    have hgl := hBk.lt
    obtain ⟨b, o, x, hA, _, hx, hc⟩ := (Sl.of_own ho).get (f := Ins.list) (fun _ => rfl) (fill_len hk) hlt
    injection hA with hA
    injection hA with e1 e2
    subst e1 e2
    have d0 := hc 0 _ rfl
    simp only [Nat.add_zero, Nat.zero_add] at d0
    have f0 := hBk.frozen (k * 5)
    clear hc hx
    go_wp2
    go_roundw
    case rel => exact ⟨k + 1, by omega, by go_num, by have h := own_setc (i := k * 5) ho (.int .i64 9); rw [flat_setc (f := Ins.list) (sz := 5) (fun _ => rfl) (fill_get hlt) (by omega) (x' := syncI) (v := .int .i64 9) rfl, fill_set hlt] at h; exact h, hBq.set_ne _ _ hne, hbw.setCell (p := ⟨g, k * 5, none⟩) (own_row ho).2.1 _⟩
    case measure => simp [intOf]; omega
  obtain rfl : k = n := by omega
  rw [fill_all] at ho
  have hI : Sl wr wr.heap.size 5 (some ⟨g, 0, none⟩) k ((List.replicate k syncI).flatMap Ins.list) := Sl.of_own ho
  obtain ⟨sc, hsc⟩ : ∃ s, manyScr g k (List.replicate k syncI) = s := ⟨_, rfl⟩
  have hC : (manyScr g k []).C = sc.C := by rw [← hsc]; rfl
  rw [hC] at hBq
  have hfl : sc.frm.length = 32 := by rw [← hsc]; exact H32.out
  have hgo : sc.goal.length = 32 := by rw [← hsc]; exact H32.out
  have hpb : sc.pb = 0 := by rw [← hsc]; rfl
  have hpi : sc.pi = 0 := by rw [← hsc]; rfl
  have hins : sc.ins = List.replicate k syncI := by rw [← hsc]; rfl
  have hrefs : sc.refs = [] := by rw [← hsc]; rfl
  have hil : sc.il = k := by rw [← hsc]; rfl
  have hrl : sc.rl = 0 := by rw [← hsc]; rfl
  have hsync : ∀ x ∈ sc.ins, x = syncI := fun x hx => by rw [hins] at hx; exact List.eq_of_mem_replicate hx
  have hat : ∀ W, Below wr.heap.size wr W → ScrAt W sc := fun W hW => by
    rw [← hsc]
    exact ⟨H32.out, H32.out, (by show Int.natAbs 0 < 2 ^ 53; decide), (by show Int.natAbs 0 < 2 ^ 53; decide), (by show (List.replicate k syncI).length = k; simp), rfl, (hI.below hW (Nat.le_refl _)).more hW.size, Sl.nil _ _ _ _, (by show k ≤ maxLen; unfold maxLen; omega), Nat.zero_le _, fun r hr => nomatch hr⟩
  have hone := Scr.one sc
  have hz67 : sc.C.size = 67 := Scr.size hfl hgo
  have hck : chkS sc = if 4096 < k then 2 else 0 := by
    unfold chkS
    rw [hil, hpb, hpi]
    rfl
  have hchk : ∀ W, Below wr.heap.size wr W → Calls Tryd.prog 18 #[.agg sc.C] W fun e w' => e = .returned (.int .i64 (chkS sc)) ∧ Below W.heap.size W w' := fun W hW => check_sync sc hsync hrl W (hat W hW)
  have HSc := Lib.hid hsc; have Hck := Lib.hid hck; have Hchk := Lib.hid hchk; have Hat := Lib.hid hat; have HSy := Lib.hid hsync
  have HPb := Lib.hid hpb; have HPi := Lib.hid hpi; have HIns := Lib.hid hins; have HRefs := Lib.hid hrefs; have HIl := Lib.hid hil; have HRl := Lib.hid hrl; have Hfl := Lib.hid hfl; have Hgl := Lib.hid hgo; have HZ67 := Lib.hid hz67; have HOne := Lib.hid hone
  clear hsc hck hchk hat hpb hpi hins hrefs hil hrl hfl hgo hC hI ho hne hsync hz67 hone HZ HO hk
  have hws := hbw.size
  by_cases h4 : (4096 : Int) < k
  · have hE2 : chkS sc = 2 := by rw [Hck.out, if_pos (by omega)]
    have hen := encode_bad sc wr 2 (by decide) Hfl.out Hgl.out (fun W hW => by have := Hchk.out W hW; rw [hE2] at this; exact this)
    have HEn := Lib.hid hen
    clear hen hE2
    go_upto_region 10 with (first | (refine wpList_load_row rfl 30 (.tmp 4) rfl q rfl 30 sc.C (0, 0) _ hBq Tryd.underlying30 rfl (by rw [HZ67.out]; kernel_rfl) ?_) | (go_at_call 11; refine HEn.out.mono ?_; rintro e w4 ⟨A, m, c, rfl, hno, _, hb4⟩))
    obtain ⟨rfl, rfl, rfl⟩ := hno (by decide)
    have hbx : Below w.heap.size w w4 := hbw.trans (hb4.mono hws)
    clear hBq hno hb4 hbw hql hws
    go_wp2_with (go_at_call 9; refine (num19 _ _).mono ?_; rintro e w7 ⟨rfl, hw⟩; rw [hw]; clear hw)
    go_ret
    exact ⟨rfl, hbx⟩
  have hE0 : chkS sc = 0 := by rw [Hck.out, if_neg (by omega)]
  have hk6 : k ≤ 4096 := by omega
  have hen := encode_ok sc wr (Hat.out wr (Below.refl _ _)) HRl.out (by rw [HIl.out]; exact hk6) (fun x hx => by rw [HSy.out x hx]; exact ⟨by decide, by decide⟩) (fun W hW => by have := Hchk.out W hW; rw [hE0] at this; exact this)
  have HEn := Lib.hid hen
  clear hen hE0
  go_upto_region 10 with (first | (refine wpList_load_row rfl 30 (.tmp 4) rfl q rfl 30 sc.C (0, 0) _ hBq Tryd.underlying30 rfl (by rw [HZ67.out]; kernel_rfl) ?_) | (go_at_call 11; refine HEn.out.mono ?_; rintro e w4 ⟨A, m, c, rfl, _, hok, hb4⟩))
  obtain ⟨rfl, ho⟩ := hok (by first | rfl | trivial)
  have hbl : (bodyE sc).length = 81 + 12 * k := by
    unfold bodyE headL
    rw [HIns.out, HRefs.out, List.length_append, rec_len]
    simp [leB_len, markL, Hfl.out, Hgl.out]
  have hlen : (encL sc).length = 81 + 12 * k + 4 := by
    unfold encL
    rw [List.length_append, leB_len, hbl]
  rw [hlen] at ho ⊢
  have hSl := Sl.of_own ho
  obtain ⟨gA, rfl⟩ : ∃ g, A = some ⟨g, 0, none⟩ := by
    rcases ho.2 with ⟨h', _⟩ | ⟨g', cap, cur, hv, _⟩
    · injection h' with _ h2
      omega
    · injection hv with hA
      exact ⟨g', hA⟩
  obtain ⟨_, _, _, hnc, hcm⟩ := own_row ho
  have hb3 : Below w.heap.size w w4 := hbw.trans (hb4.mono hws)
  have hE3 := HE.out.keep hb3
  have hde := decode_ok sc HSy.out HRl.out Hfl.out Hgl.out (by rw [HPb.out]; decide) (by rw [HPi.out]; decide) (by rw [HIl.out]; exact hk6) HRefs.out (by rw [HIns.out, HIl.out]; simp) (some ⟨gA, 0, none⟩) (81 + 12 * k) c a0 a1 a2 w4 hE3 hSl hbl hnc hcm (by omega)
  have HDe := Lib.hid hde
  have hB4 := hBq.below hb4 hql
  have hB4l := hB4.lt
  have Hat4 := Lib.hid ((Hat.out wr (Below.refl _ _)).keep hb4)
  obtain ⟨m, hm⟩ : ∃ m, 81 + 12 * k + 4 = m := ⟨_, rfl⟩
  rw [hm] at HDe ⊢
  have hmi : (m : Int) = 85 + 12 * (k : Int) := by omega
  have hbe : ((m : Int) == 85 + 12 * (k : Int)) = true := by rw [hmi]; simp
  clear hde hE3 hSl ho hok hbl hlen hm hmi hBq hql hws hbw HEn Hat Hchk Hck hnc hcm hb4
  go_upto_region 13 with (first | (go_at_call 7; refine HDe.out.mono ?_; rintro e w5 ⟨IA, ic, rfl, hat5, hb5⟩) | (refine wpList_store_blk rfl 30 (.tmp 8) (.tmp 53) rfl (Blk.new w5 30 Tryd.zeroCells30) (stepScr sc sc.il IA ic).C rfl rfl (by rw [Scr.size (s := stepScr sc sc.il IA ic) Hfl.out Hgl.out]; kernel_rfl) (by rw [HZS.out, Scr.size (s := stepScr sc sc.il IA ic) Hfl.out Hgl.out]) (Scr.one _) ?_; intro w6 hB6 hg6 hs6))
  have h56 : Below w5.heap.size w5 w6 := ((Below.refl _ _).alloc (Nat.le_refl _) (.cells Tryd.zeroCells30 30)).trans (below_grown hg6 (by simp) (fun q e => by injection e with e; omega))
  have h46 : Below w4.heap.size w4 w6 := hb5.trans (h56.mono hb5.size)
  have hb6 : Below w.heap.size w w6 := hb3.trans (h46.mono hb3.size)
  have hB4' := hB4.below h46 hB4l
  obtain ⟨q2, hq2⟩ : ∃ q, w5.heap.size = q := ⟨_, rfl⟩
  rw [hq2] at hB6 ⊢
  have hsame := same_ok sc (stepScr sc sc.il IA ic) w6 (Hat4.out.keep h46) (hat5.keep h56) rfl rfl rfl rfl rfl (by show sc.ins.take sc.il = sc.ins; rw [HIns.out, HIl.out, List.take_of_length_le (by simp)]) HRl.out rfl
  have HSame := Lib.hid hsame
  obtain ⟨tC, htC⟩ : ∃ C, (stepScr sc sc.il IA ic).C = C := ⟨_, rfl⟩
  have htz : tC.size = 67 := by rw [← htC]; exact Scr.size (s := stepScr sc sc.il IA ic) Hfl.out Hgl.out
  rw [htC] at hB6 HSame
  have hq1 := hB4'.lt; have hq3 := hB6.lt
  have hbs := hb6.size
  have HTz := Lib.hid htz
  clear h56 h46 hb5 hg6 hs6 hb3 hB4 hB4l hq2 hsame htC htz hat5 Hat4 HDe HSc
  go_wp2_with (first | (refine wpList_load_scr rfl (.tmp 4) rfl q rfl sc.C HZ67.out hB4' ?_) | (refine wpList_load_scr rfl (.tmp 8) rfl q2 rfl tC HTz.out hB6 ?_) | (go_at_call 9; refine (num19 _ _).mono ?_; rintro e w7 ⟨rfl, hw⟩; rw [hw]; clear hw) | (go_at_call 10; refine HSame.out.mono ?_; rintro e w8 ⟨rfl, hb8⟩))
  go_ret
  exact ⟨rfl, hb6.trans (hb8.mono hbs)⟩

set_option maxRecDepth 100000 in
theorem lifted (os : Os) (started : os.Started) (H : Type) (enc : TypeId × Value → H) :
    ReturnsInHanded {} Tryd.checked os 4 .any (fun w args => (Rows.packManySpec.pre enc Tryd.prog Tryd.f4 Rows.packManyRow.domain false w args ∧ laidMetH Tryd.prog laid3 w) ∧ sizedMet enc Tryd.prog Tryd.f4 (OpenSpec.ofChange Rows.packManySpec) false w args) (Rows.packManySpec.post enc Tryd.prog Tryd.f4 false true false false) := by
  refine returnsInHanded_of_change_and (C := Tryd.checked) (X := fun w _ => laidMetH Tryd.prog laid3 w) (fun _ _ _ hh h => h.of_heap hh) own started (by kernel_rfl) Tryd.func4
    (ChangeSpec.witness_shaped (enc := enc) (C := Tryd.checked) (os := os) (X := fun w _ => laidMetH Tryd.prog laid3 w) false (laidW os) #[.int .i64 0] 8 (laidW_os os) (World.shaped_of_ZipB (by kernel_rfl) (by kernel_rfl)) (by kernel_rfl) (by kernel_rfl) (by kernel_rfl) (laidW_met os _)) ?_
  intro W base args ds gs before hval0 hW _ _ hL _
  obtain ⟨ea0, ea1, ea2, hE⟩ := errs_of_laid hL
  have hval : ∀ (j : Nat) t v, Tryd.f4.params[j]? = some t → args[j]? = some v → Value.okWide Tryd.prog W .any base t v := hval0
  have hW' := hW
  obtain ⟨p, q, hA0, hV, rfl, hfz, hnd⟩ := hW
  have hA : DataW.TrodAll enc Tryd.prog W 0 (fun _ => true) true Tryd.f4.params.toList args.toList ds p := hA0
  rw [Tryd.params4] at hA hval
  obtain ⟨v0, vs0, d0, ds0, p0, q0, hargs, rfl, rfl, h0, r0⟩ := trodAll_cons hA
  obtain ⟨rfl, rfl, rfl⟩ := trodAll_nil r0
  obtain rfl : args = #[v0] := by cases args; simp_all
  obtain ⟨rfl, rfl⟩ := trodVars_none hV
  obtain ⟨a0, rfl, rfl, rfl, w0⟩ := open_int Tryd.underlying3 (hval 0 3 v0 rfl rfl) h0
  clear hA0 hval0
  refine (walk a0 ea0 ea1 ea2 W hE ).mono fun e W' ⟨he, bel⟩ => ?_
  subst he
  exact ⟨_, rfl, _, _, _, [], _, [], hW', trodAll_mk1 (shut_bool Tryd.underlying4 _), (trodAll_cons_mk (shut_int Tryd.underlying3 w0) trodAll_mk0), rfl, bel.frame _, fun h => by cases h⟩

theorem over : Rows.packManyRow.holds Tryd.pinned (OpenSpec.ofChange Rows.packManySpec) :=
  OpenClaim.holds_of_wide 4 Tryd.f4 rfl rfl rfl rfl rfl rfl rfl ⟨rfl, rfl, rfl, rfl, rfl⟩ rfl rfl rfl rfl rfl (by kernel_rfl) Tryd.func4 (by kernel_rfl)
    (of_decide_eq_true (by kernel_rfl)) (by unfold Func.isWrapper; first | (rw [if_pos (by decide +kernel)]; kernel_rfl) | (rw [if_neg (by decide +kernel)]; exact ⟨rfl, rfl⟩))
    (fun os started H enc _ => lifted os started H enc)

theorem proved : Rows.PackManyCardSaid :=
  Claim7.holds_tied_plain_at .later [] [.sentinel, .sentinel, .sentinel] true (true, "0110537f8734ceb01c7f38b15ff46ac1c9a62e7462910232cd926bc6ebd3e4ff") true
    over (fun _ h => by cases h) (by kernel_rfl) (fun _ h => by cases h) packMany_row_tie rfl ⟨rfl, rfl⟩ (by kernel_rfl) rfl
    (fun f fn hf hfn => by
      obtain rfl : f = 4 := Option.some.inj ((show Tryd.prog.funcNamed "shunt/shuntlaw19.PackMany" = some 4 by kernel_rfl).symm.trans hf) |>.symm
      obtain rfl : fn = Tryd.f4 := (Option.some.inj (Tryd.func4.symm.trans hfn)).symm
      exact ⟨by kernel_rfl, fun j t ht => by
        have hm : t ∈ Tryd.f4.params.toList := Array.mem_toList_iff.2 (Array.mem_of_getElem? ht)
        rw [Tryd.params4] at hm
        have hall : (#[3].toList.all fun u => !Tryd.prog.wantsStandIn u) = true := by kernel_rfl
        exact (Bool.not_eq_true' _).mp (List.all_eq_true.1 hall t hm)⟩)
    (by kernel_rfl)
#print axioms proved
end Go.Proofs.YtgeiegjpnnbloaaDoor.packManyDone
