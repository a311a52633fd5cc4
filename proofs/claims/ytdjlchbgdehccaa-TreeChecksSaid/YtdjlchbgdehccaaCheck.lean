/- tree.nodes and tree.Check. -/
import Derived.Test.YtdjlchbgdehccaaLoose
import Derived.Test.YtdjlchbgdehccaaEach
namespace Go.Proofs.Ytdjlchbgdehccaa
open Go.RowKit Go.Shelf

attribute [local go_sem] Oper.semAt_some
theorem cell_lt {w : World} {b o : Nat} {v : Value} (h : w.cell? ⟨b, o, none⟩ = some v) : b < w.heap.size := by
  rcases Nat.lt_or_ge b w.heap.size with h1 | h1
  · exact h1
  · exfalso
    simp [World.cell?, Array.getElem?_eq_none h1] at h
def encN (x : Node) : Array Value := #[.agg #[.string x.path, .int .i64 x.file, .int .i64 x.mode]]
/-- The nodes that the iterator tells. -/
def toldN (t : TV) : List Node := if looseE t = 0 then t.nodes else []
def TV.cells (t : TV) : Array Value := #[.slice t.NA t.nn t.nc, .slice t.FA t.fn t.fc]

set_option maxRecDepth 100000 in
set_option maxHeartbeats 2000000 in
/-- The closure of nodes, for every loop body that keeps what lay below n₀. -/
theorem nodes1_in (n : Nat) (hn : 1 ≤ n) (l Bs n₀ : Nat) (t : TV) (J Jx : List Node → World → Prop) (W : World) (ht : TreeAt W t) (hJ : AbidesFrom W.heap.size J) (hns : Sl W n₀ 3 t.NA t.nn (t.nodes.flatMap Node.list)) (hn0 : n₀ ≤ W.heap.size)
    (hY : ∀ pre x W1, J pre W1 → pre.length < (toldN t).length → YieldAt Fence.wide (n - 1) Try.prog l (encN x) W1 fun e W' => (e = .returned (.bool true) ∧ J (pre ++ [x]) W' ∧ Below n₀ W1 W') ∨ (e = .returned (.bool false) ∧ Jx (pre ++ [x]) W'))
    (hc : Blk W Bs 26 t.cells) (h0 : J [] W) :
    CallsIn Fence.wide n Try.prog 72 #[.func (.yield l) #[] #[], .pointer (some ⟨Bs, 0, none⟩)] W (IterRes (toldN t) J Jx) := by
  have hnl := ht.nl
  have hnm := ht.nm
  obtain ⟨nodes, files, NA, nn, nc, FA, fn, fc⟩ := t
  simp only [TV.cells] at hnl hns hnm hc
  have Hns := Lib.hid hns; clear hns
  have Hnl := Lib.hid hnl; clear hnl
  have Ht := Lib.hid ht; clear ht
  have b0 := hc.cell 0
  have b1 := hc.cell 1
  have hcl := hc.lt
  refine callsIn_of_wp Try.func72 rfl trivial ?_ rfl
  simp only [Try.ntmps72, List.size_toArray, List.length_cons, List.length_nil, Nat.reduceAdd, Nat.reduceSub, Array.replicate_succ, Array.replicate_zero, List.push_toArray, List.append_toArray, List.nil_append, List.cons_append]
  by_cases hl : looseE ⟨nodes, files, NA, nn, nc, FA, fn, fc⟩ = 0
  · have htold : toldN ⟨nodes, files, NA, nn, nc, FA, fn, fc⟩ = nodes := by simp [toldN, hl]
    rw [htold] at hY ⊢
    have Hl := Lib.hid hl; clear hl
    gi_wp2_with (refine ⟨trivial, ?_⟩; gi_at_call 16; refine (callsIn_wide.2 (loose_any ⟨nodes, files, NA, nn, nc, FA, fn, fc⟩ _ Ht.out)).mono ?_; rintro e w1 ⟨rfl, hb1⟩; rw [Hl.out]; replace hc := hc.below hb1 hcl; have d0 := hc.cell 0; have d1 := hc.cell 1)
    gi_loopw [11] (fun i wr => ∃ k : Nat, k ≤ nn ∧ i = .int .i64 k ∧ J (nodes.take k) wr ∧ Below n₀ W wr) (fun i _ => nn - (intOf i).toNat)
    case atStart => exact ⟨0, Nat.zero_le _, rfl, hJ _ _ _ none h0 (grown_below hb1 (Nat.le_refl _)) (fun r e => by cases e), hb1.mono hn0⟩
    case round =>
      obtain ⟨k, hk, rfl, hJs, hb⟩ := hrel
      by_cases hlt : k < nn
      · have hki : (k : Int) < nn := by omega
        obtain ⟨xb, xo, x, rfl, hxb, hx, hcx⟩ := (Hns.out.keep (Nat.le_refl _) hb.block).get Node.len Hnl.out hlt
        have c0 := hcx 0 _ rfl
        have c1 := hcx 1 _ rfl
        have c2 := hcx 2 _ rfl
        simp only [Nat.add_zero] at c0 c1 c2
        clear hcx
        have hts := take_snoc' hx
        have hklen : (nodes.take k).length < nodes.length := by rw [List.length_take, Hnl.out]; omega
        have Hts := Lib.hid hts; clear hts hx
        have hJa : J (nodes.take k) (wr.alloc (.cells #[.string x.path, .int .i64 x.file, .int .i64 x.mode] 29)) := hJ _ _ _ none hJs (World.grownBy_alloc _ _ none) (fun r e => by cases e)
        obtain ⟨fn', tmps, assign, body, hy, hR⟩ := hY (nodes.take k) x _ hJa hklen
        simp only [encN] at hy
        gi_wp2
        refine hR.mono ?_
        rintro e W3 (⟨rfl, hJ3, hk3⟩ | ⟨rfl, hJx3⟩)
        · gi_wp2
          go_roundw
          case rel => exact ⟨k + 1, by omega, by go_num, by rw [Hts.out]; exact hJ3, (hb.alloc (Nat.le_trans hn0 hb.size) _).trans hk3⟩
          case measure => simp [intOf]; omega
        · gi_wp2
          refine bodyPost_ret (results_none rfl _ _ _) rfl ?_
          exact ⟨⟨_, rfl⟩, .inr ⟨_, ⟨nodes.drop (k + 1), by rw [← Hts.out, List.take_append_drop]⟩, hJx3⟩⟩
      · obtain rfl : k = nn := by omega
        have hfin : nodes.take k = nodes := List.take_of_length_le (by rw [Hnl.out]; exact Nat.le_refl _)
        gi_wp2
        go_end0
        exact ⟨⟨_, rfl⟩, .inl ⟨_, hfin, hJs⟩⟩
  · have htold : toldN ⟨nodes, files, NA, nn, nc, FA, fn, fc⟩ = [] := by simp [toldN, hl]
    rw [htold]
    have hne : (looseE ⟨nodes, files, NA, nn, nc, FA, fn, fc⟩ != 0) = true := by simp [hl]
    obtain ⟨E, hE⟩ : ∃ E, looseE ⟨nodes, files, NA, nn, nc, FA, fn, fc⟩ = E := ⟨_, rfl⟩
    rw [hE] at hne
    have HE := Lib.hid hE; clear hE hl
    gi_wp2_with (refine ⟨trivial, ?_⟩; gi_at_call 16; refine (callsIn_wide.2 (loose_any ⟨nodes, files, NA, nn, nc, FA, fn, fc⟩ _ Ht.out)).mono ?_; rintro e w1 ⟨rfl, hb1⟩; rw [HE.out])
    refine bodyPost_ret (results_none rfl _ _ _) rfl ?_
    exact ⟨⟨_, rfl⟩, .inl ⟨[], rfl, hJ _ _ _ none h0 (grown_below hb1 (Nat.le_refl _)) (fun r e => by cases e)⟩⟩
set_option maxHeartbeats 1000000 in
theorem nodes_in (n : Nat) (t : TV) (w : World) :
    CallsIn Fence.wide n Try.prog 44 #[t.val] w fun e w' => e = .returned (.func (.func 72) #[] #[.pointer (some ⟨w.heap.size, 0, none⟩)]) ∧ w' = w.alloc (.cells t.cells 26) := by
  unfold TV.val TV.cells
  refine callsIn_of_wp Try.func44 rfl trivial ?_ rfl
  simp only [Try.ntmps44, List.size_toArray, List.length_cons, List.length_nil, Nat.reduceAdd, Nat.reduceSub, Array.replicate_succ, Array.replicate_zero, List.push_toArray, List.append_toArray, List.nil_append, List.cons_append]
  gi_wp2
  go_ret
  exact ⟨rfl, rfl⟩
/-- 'nodes(t)' tells the nodes, where a round keeps what lay below n₀. -/
theorem nodes_stops (n : Nat) (hn : 1 ≤ n) (Bs n₀ : Nat) (t : TV) (w : World) (ht : TreeAt w t) (hns : Sl w n₀ 3 t.NA t.nn (t.nodes.flatMap Node.list)) (hn0 : n₀ ≤ w.heap.size) (hc : Blk w Bs 26 t.cells) :
    SeqStopsK Fence.wide n Try.prog 72 #[.pointer (some ⟨Bs, 0, none⟩)] encN (Below n₀) (fun ys => ys = toldN t) (fun pre => pre <+: toldN t) (toldN t).length w := fun l J Jx W hW hJ _ hY h0 =>
  nodes1_in n hn l Bs n₀ t J Jx W (ht.keep hW) hJ (hns.keep (Nat.le_refl _) (fun k hk => hW.block k (by omega))) (Nat.le_trans hn0 hW.size) hY (hc.below hW hc.lt) h0

def anyKept (l : List Node) : Bool := l.any fun x => keptB x.path
def checkE (t : TV) : Int := if 128 < t.nn then 31 else if looseE t ≠ 0 then looseE t else if anyKept t.nodes = true then 30 else 0
/-- What a call that hands back a number and makes memory comes to. -/
def IntRes (x : Int) (w : World) (e : Ending) (w' : World) : Prop := e = .returned (.int .i64 x) ∧ Below w.heap.size w w'
set_option maxRecDepth 100000 in
set_option maxHeartbeats 4000000 in
theorem check_any (t : TV) (w : World) (h : TreeAt w t) : Calls Try.prog 15 #[t.val] w (IntRes (checkE t) w) := by
  have hns := h.ns
  have hnm := h.nm
  obtain ⟨T, hT⟩ : ∃ T : TV, T = t := ⟨_, rfl⟩
  obtain ⟨nodes, files, NA, nn, nc, FA, fn, fc⟩ := t
  simp only at hns hnm
  have Hns := Lib.hid hns; clear hns
  have Ht := Lib.hid h; clear h
  have c0 := cell_new_l (w.alloc (.cells #[.slice NA nn nc, .slice FA fn fc] 26)) (.int .i64 0) 30
  have hb0 := Blk.new w 26 #[.slice NA nn nc, .slice FA fn fc]
  rw [World.size_alloc] at c0
  have b0 := (hb0.alloc (.cells #[.int .i64 0] 30)).cell 0
  have b1 := (hb0.alloc (.cells #[.int .i64 0] 30)).cell 1
  have HW0 : Below w.heap.size w ((w.alloc (.cells #[.slice NA nn nc, .slice FA fn fc] 26)).alloc (.cells #[.int .i64 0] 30)) := ((Below.refl _ _).alloc (Nat.le_refl _) _).alloc (by simp) _
  by_cases h128 : 128 < nn
  · have hfin : checkE ⟨nodes, files, NA, nn, nc, FA, fn, fc⟩ = 31 := by simp [checkE, h128]
    rw [hfin]
    have hi : (128 : Int) < nn := by omega
    unfold TV.val
    clear hT hfin
    go_enter Try.func15, Try.ntmps15
    go_wp2
    have hc5 := (cell_new_l (w.alloc (.cells #[.slice NA nn nc, .slice FA fn fc] 26)) (.int .i64 31) 30).1
    rw [World.size_alloc] at hc5
    refine bodyPost_ret (v := .int .i64 31) (by simp [results, Try.f15, go_sem, hc5]) rfl ⟨rfl, ((Below.refl _ _).alloc (Nat.le_refl _) _).alloc (by simp) _⟩
  · have hi : ¬ (128 : Int) < nn := by omega
    obtain ⟨E, hE⟩ : ∃ E, looseE ⟨nodes, files, NA, nn, nc, FA, fn, fc⟩ = E := ⟨_, rfl⟩
    have hb0' := hb0.alloc (.cells #[.int .i64 0] 30)
    by_cases hl : E = 0
    · have hfin : checkE ⟨nodes, files, NA, nn, nc, FA, fn, fc⟩ = if anyKept nodes = true then 30 else 0 := by simp [checkE, h128, hE, hl]
      have htold : toldN ⟨nodes, files, NA, nn, nc, FA, fn, fc⟩ = nodes := by simp [toldN, hE, hl]
      obtain ⟨R, hR⟩ : ∃ R, checkE ⟨nodes, files, NA, nn, nc, FA, fn, fc⟩ = R := ⟨_, rfl⟩
      rw [hR] at hfin ⊢
      subst hl
      replace hE := Lib.hid hE
      replace hfin := Lib.hid hfin
      clear hT hR
      unfold TV.val
      refine (callsIn_wide (n := 5)).1 ?_
      refine callsIn_of_wp_marks Try.func15 rfl trivial ?_ rfl
      simp only [Try.ntmps15, List.size_toArray, List.length_cons, List.length_nil, Nat.reduceAdd, Nat.reduceSub, Array.replicate_succ, Array.replicate_zero, List.push_toArray, List.append_toArray, List.nil_append, List.cons_append]
      gi_wp2_with (first | (refine ⟨trivial, ?_⟩; gi_at_call 16; refine (callsIn_wide.2 (loose_any ⟨nodes, files, NA, nn, nc, FA, fn, fc⟩ _ (Ht.out.keep HW0))).mono ?_; rintro e w1 ⟨rfl, hb1⟩; rw [hE.out]; have d0 := (hb0'.below hb1 (by simp only [World.size_alloc]; omega)).cell 0; have d1 := (hb0'.below hb1 (by simp only [World.size_alloc]; omega)).cell 1; have hc1 := (hb1.cell (p := ⟨w.heap.size + 1, 0, none⟩) (by simp only [World.size_alloc]; omega)).trans c0.1; have hf1 := (hb1.frozen (p := ⟨w.heap.size + 1, 0, none⟩) (by simp only [World.size_alloc]; omega)).trans c0.2; have HW1 := HW0.trans (hb1.mono (by simp only [World.size_alloc]; omega)); have hs1 := hb1.size; simp only [World.size_alloc] at hs1) | (refine ⟨trivial, ?_⟩; gi_at_call 44; refine (nodes_in _ ⟨nodes, files, NA, nn, nc, FA, fn, fc⟩ _).mono ?_; rintro e w' ⟨rfl, rfl⟩))
      have HW2 := HW1.alloc HW1.size (.cells (TV.cells ⟨nodes, files, NA, nn, nc, FA, fn, fc⟩) 26)
      refine wpIn_rangeFunc_ownH rfl (by omega) (gf := 72) (lb := #[.pointer (some ⟨w1.heap.size, 0, none⟩)]) rfl trivial (enters_of Try.func72 (by kernel_rfl) rfl)
        (nodes_stops 4 (by omega) w1.heap.size w.heap.size ⟨nodes, files, NA, nn, nc, FA, fn, fc⟩ _ (Ht.out.keep HW2) (Hns.out.keep (Nat.le_refl _) (fun k hk => HW2.block k hk)) HW2.size (Blk.new _ _ _)) belowK_t (belowK_b HW2.size) (Below.refl _ _) (fun _ => rfl)
        (fun pre W => ((∀ y ∈ pre, keptB y.path = false) ∧ W.cell? ⟨w.heap.size + 1, 0, none⟩ = some (.int .i64 0) ∧ W.frozen? ⟨w.heap.size + 1, 0, none⟩ = false) ∧ Below w.heap.size w W)
        (fun c pre W => (c = .ret ∧ (∃ y ∈ pre, keptB y.path = true) ∧ W.cell? ⟨w.heap.size + 1, 0, none⟩ = some (.int .i64 30)) ∧ Below w.heap.size w W)
        (OwnFrom.and (Own.from (fun s A B row hs hg hr => ⟨hs.1, cell_kept hs.2.1 hg hr, (frozen_kept hs.2.1 hg hr).trans hs.2.2⟩) _) (ownFrom_below (Nat.le_refl _) HW2.size))
        (fun c => OwnFrom.and (Own.from (fun s A B row hs hg hr => ⟨hs.1, hs.2.1, cell_kept hs.2.2 hg hr⟩) _) (ownFrom_below (Nat.le_refl _) HW2.size))
        ⟨⟨by simp, cell_alloc_l _ hc1, frozen_alloc_l _ hc1 hf1⟩, HW2⟩
        (fun x a' W => ∃ nb, w.heap.size + 1 < nb ∧ Blk W nb 29 #[.string x.path, .int .i64 x.file, .int .i64 x.mode] ∧ a' = { tmps := #[.agg #[.slice NA nn nc, .slice FA fn fc], .pointer (some ⟨w.heap.size, 0, none⟩), .pointer (some ⟨w.heap.size + 1, 0, none⟩), .int .i64 0, .pointer (some ⟨nb, 0, none⟩), .pointer (some ⟨w.heap.size, 0, none⟩), .slice NA nn nc, .int .i64 nn, .bool false, .agg #[.slice NA nn nc, .slice FA fn fc], .int .i64 0, .int .i64 0, .bool false, undef, .agg #[.slice NA nn nc, .slice FA fn fc], .func (.func 72) #[] #[.pointer (some ⟨w1.heap.size, 0, none⟩)], .agg #[.string x.path, .int .i64 x.file, .int .i64 x.mode], undef, undef, undef], defers := [] })
        (fun x a' u W W' row hs hg hr => by
          obtain ⟨nb, h1, h2, h3⟩ := hs
          refine ⟨nb, h1, h2.grown hg (fun e => ?_), h3⟩
          obtain ⟨_, o, ho, hoc⟩ := hr nb e.symm
          rw [show W.heap[nb]? = _ from h2] at ho
          cases ho
          cases hoc) ?assign ?body ?done ?stop
      case assign =>
        rintro l pre x W K ⟨⟨hp, hc, hf⟩, hB⟩ hK
        have Hp := Lib.hid hp; clear hp
        have HK := Lib.hid hK; clear hK
        have hsB := hB.size
        simp only [encN]
        gi_wp2
        have HWa : Below w.heap.size W (W.alloc (.cells #[.string x.path, .int .i64 x.file, .int .i64 x.mode] 29)) := (Below.refl _ W).alloc hsB _
        have hcl := cell_lt hc
        exact HK.out _ _ ((KeepsOthers.alloc _ _).from _) HWa ⟨⟨Hp.out, cell_alloc_l _ hc, frozen_alloc_l _ hc hf⟩, hB.trans HWa⟩ ⟨W.heap.size, hcl, Blk.new _ _ _, rfl⟩
      case body =>
        rintro l pre x a' W _ _ ⟨⟨hp, hc, hf⟩, hB⟩ ⟨nb, hnb, hN, rfl⟩ _
        have Hp := Lib.hid hp; clear hp
        have n0 := hN.cell 0
        have hlt1 := cell_lt hc
        cases hq : keptB x.path with
        | true =>
          have Hq := Lib.hid hq; clear hq
          gi_wp2_with (refine ⟨trivial, ?_⟩; gi_at_call 45; refine (CallsIn.inRound l (callsIn_wide.2 (kept_any x.path _ x.hp))).mono ?_; rintro e wq ⟨rfl, hbq⟩; rw [Hq.out]; have e1 := (hbq.cell (p := ⟨w.heap.size + 1, 0, none⟩) hlt1).trans hc; have e2 := (hbq.frozen (p := ⟨w.heap.size + 1, 0, none⟩) hlt1).trans hf; have HBq := hB.trans (hbq.mono hB.size))
          exact ⟨((KeepsOthers.of_grownBy (row := none) (grown_below hbq (Nat.le_refl _)) (fun j o e => by cases e)).trans (KeepsOthers.setCell _ _ _)).from _, ⟨rfl, ⟨x, List.mem_append.2 (.inr (by simp)), Hq.out⟩, World.cell?_setCell_same' _ _ _ (by rw [e1]; rfl)⟩, HBq.setCell (p := ⟨w.heap.size + 1, 0, none⟩) (Nat.le_succ _) _⟩
        | false =>
          have Hq := Lib.hid hq; clear hq
          gi_wp2_with (refine ⟨trivial, ?_⟩; gi_at_call 45; refine (CallsIn.inRound l (callsIn_wide.2 (kept_any x.path _ x.hp))).mono ?_; rintro e wq ⟨rfl, hbq⟩; rw [Hq.out]; have e1 := (hbq.cell (p := ⟨w.heap.size + 1, 0, none⟩) hlt1).trans hc; have e2 := (hbq.frozen (p := ⟨w.heap.size + 1, 0, none⟩) hlt1).trans hf; have HBq := hB.trans (hbq.mono hB.size))
          exact ⟨(KeepsOthers.of_grownBy (row := none) (grown_below hbq (Nat.le_refl _)) (fun j o e => by cases e)).from _, hbq.mono hB.size, ⟨fun y hy => (List.mem_append.1 hy).elim (Hp.out y) (fun e => by rw [List.mem_singleton.1 e]; exact Hq.out), e1, e2⟩, HBq⟩
      case done =>
        rintro D ys W hD rfl ⟨⟨hne, hcr, hfr⟩, hB⟩ hK
        have Hne := Lib.hid hne; clear hne
        gi_wp2
        have hK' := (KeepsOthers.setCell W ⟨w.heap.size + 1, 0, none⟩ (.int .i64 0)).same D _ hK rfl
        refine ⟨by simp, .inl ⟨_, _, rfl, run_takeDeferred hK', ?_⟩⟩
        have hc5 := cell_kept (World.cell?_setCell_same' W ⟨w.heap.size + 1, 0, none⟩ (.int .i64 0) (by rw [hcr]; rfl)) (grownBy_putObj' _ D (.deferred none)) (fun r e => by cases e; exact ⟨_, hK', rfl⟩)
        refine ⟨.int .i64 0, ?_, by rw [hfin.out, if_neg (by rw [Bool.not_eq_true, anyKept, List.any_eq_false]; intro y hy; rw [Hne.out y (by rw [htold]; exact hy)]; simp)], (hB.setCell (p := ⟨w.heap.size + 1, 0, none⟩) (Nat.le_succ _) _).trans (belowK_b (w := w) (Nat.le_refl _) _ D _ _ (Nat.le_trans HW2.size hD) hK' rfl rfl)⟩
        simp [results, Try.f15, go_sem, hc5]
      case stop =>
        rintro D c pre W hD hpre ⟨⟨rfl, hin, hcr⟩, hB⟩ hK
        have Hin := Lib.hid hin; clear hin
        have Hpre := Lib.hid hpre; clear hpre
        gi_wp2
        refine ⟨by simp, .inl ⟨_, _, rfl, run_takeDeferred hK, ?_⟩⟩
        have hc5 := cell_kept hcr (grownBy_putObj' _ D (.deferred none)) (fun r e => by cases e; exact ⟨_, hK, rfl⟩)
        refine ⟨.int .i64 30, ?_, by rw [hfin.out, if_pos (by rw [anyKept, List.any_eq_true]; obtain ⟨y, hy, hy2⟩ := Hin.out; exact ⟨y, by rw [← htold]; exact Hpre.out.subset hy, hy2⟩)], hB.trans (belowK_b (w := w) (Nat.le_refl _) W D _ _ (Nat.le_trans HW2.size hD) hK rfl rfl)⟩
        simp [results, Try.f15, go_sem, hc5]
    · have hfin : checkE ⟨nodes, files, NA, nn, nc, FA, fn, fc⟩ = E := by simp [checkE, h128, hE, hl]
      rw [hfin]
      have hne : (E != 0) = true := by simp [hl]
      replace hE := Lib.hid hE
      clear hfin hT hl
      unfold TV.val
      go_enter Try.func15, Try.ntmps15
      go_wp2_with (go_at_call 16; refine (loose_any ⟨nodes, files, NA, nn, nc, FA, fn, fc⟩ _ (Ht.out.keep HW0)).mono ?_; rintro e w1 ⟨rfl, hb1⟩; rw [hE.out]; have d0 := (hb0'.below hb1 (by simp only [World.size_alloc]; omega)).cell 0; have d1 := (hb0'.below hb1 (by simp only [World.size_alloc]; omega)).cell 1; have hc1 := (hb1.cell (p := ⟨w.heap.size + 1, 0, none⟩) (by simp only [World.size_alloc]; omega)).trans c0.1; have hf1 := (hb1.frozen (p := ⟨w.heap.size + 1, 0, none⟩) (by simp only [World.size_alloc]; omega)).trans c0.2; have HW1 := HW0.trans (hb1.mono (by simp only [World.size_alloc]; omega)))
      have hc5 := World.cell?_setCell_same' w1 ⟨w.heap.size + 1, 0, none⟩ (.int .i64 E) (by rw [hc1]; rfl)
      exact bodyPost_ret (v := .int .i64 E) (by simp [results, Try.f15, go_sem, hc5]) rfl ⟨rfl, HW1.setCell (p := ⟨w.heap.size + 1, 0, none⟩) (Nat.le_succ _) _⟩
end Go.Proofs.Ytdjlchbgdehccaa
