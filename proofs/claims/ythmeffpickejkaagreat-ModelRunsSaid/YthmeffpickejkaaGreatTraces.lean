/- shuntref7.Trace: the trees ahead of the first instruction and behind each. What the law ModelHeld needs: Trace of one instruction, and that its trees weigh what Curve tells. -/
import Derived.Test.YthmeffpickejkaaGreatViews
import Derived.Test.YthmeffpickejkaaGreatDoesP
import Derived.Test.YthmeffpickejkaaGreatCurves
import Derived.Test.YthmeffpickejkaaGreatIs

namespace Go.Proofs.YthmeffpickejkaaGreat
open Go.RowKit

theorem Tryz.treeT : ElemT Tryz.prog 42 25 2 48 := ElemT.mk' (z := .agg #[.slice none 0 0, .slice none 0 0]) Tryz.underlying42 (by kernel_rfl) rfl (by omega)
/-- A tree in memory of the caller's own. -/
structure OwnTr (base : Nat) (w : World) (u : TV) (es : List ByteArray) : Prop where
  nl : u.nodes.length = u.nn
  fl : u.files.length = u.fn
  dl : es.length = u.files.length
  own : w.ownsRow base 56 3 (.slice u.NA u.nn u.nc) u.nn (u.nodes.flatMap Node.list)
  ownF : w.ownsRow base 59 2 (.slice u.FA u.fn u.fc) u.fn (u.files.flatMap FC.list)
  rows : FRows w base u.files es
theorem OwnTr.tree {base : Nat} {w : World} {u : TV} {es : List ByteArray} (h : OwnTr base w u es) : TreeD w u es := by
  have hm : ∀ {e sz n c : Nat} {A : Option Addr} {L : List Value}, w.ownsRow base e sz (.slice A n c) n L → n ≤ 9223372036854775807 := fun {e sz n c A L} h => by
    rcases h.2 with ⟨_, h0⟩ | ⟨g, cap, cur, hv, hg, hh, hnc, hcm, hcs, ht⟩
    · omega
    · unfold maxLen at hcm; omega
  refine ⟨⟨h.nl, h.fl, Sl.of_own h.own, Sl.of_own h.ownF, hm h.own, hm h.ownF⟩, ⟨h.dl, fun k x d hx hd => ?_⟩⟩
  have hr := h.rows.row k x d hx hd
  exact ⟨hr.1.symm, Sl.of_own hr.2⟩
theorem OwnTr.keep {base : Nat} {w w' : World} {u : TV} {es : List ByteArray} (h : OwnTr base w u es) (hb : Below w.heap.size w w') : OwnTr base w' u es :=
  { h with
    own := own_keep h.own fun g o (e : u.NA = _) => hb.block g (own_lt2 (by rw [← e]; exact h.own)).2.1
    ownF := own_keep h.ownF fun g o (e : u.FA = _) => hb.block g (own_lt2 (by rw [← e]; exact h.ownF)).2.1
    rows := h.rows.keep hb.size fun k f b hf hb' => hb.block b (h.rows.low k f b hf hb') }
theorem OwnTr.row {base b2 n c : Nat} {w w' : World} {u : TV} {es : List ByteArray} {A : Option Addr} {L : List Value} (h : OwnTr base w u es) (ho : w.ownsRow b2 25 2 (.slice A n c) n L) (hg : w.grownBy w' (blkOf A)) : OwnTr base w' u es :=
  { h with
    own := own_keep h.own fun g o (e : u.NA = _) => hg.block g (own_lt2 (by rw [← e]; exact h.own)).2.1 (row_ne_row h.own ho (by decide) (by rw [e]; rfl))
    ownF := own_keep h.ownF fun g o (e : u.FA = _) => hg.block g (own_lt2 (by rw [← e]; exact h.ownF)).2.1 (row_ne_row h.ownF ho (by decide) (by rw [e]; rfl))
    rows := h.rows.grown hg (h.rows.not_row (by rw [h.dl]; exact Nat.le_refl _) ho (by decide)) }
theorem OwnTr.base {b b' : Nat} {w : World} {u : TV} {es : List ByteArray} (h : OwnTr b w u es) (hb : b' ≤ b) : OwnTr b' w u es :=
  { h with own := own_base h.own hb, ownF := own_base h.ownF hb, rows := h.rows.base hb }
theorem OwnTr.told {M : PW} {b : Nat} {w : World} {S : List Node} {u : TV} (h : ToldAs M b w S u) : OwnTr b w u (dsOf M S) :=
  ⟨by rw [h.nodes, List.length_map, h.nn], h.fl, by rw [dsOf, List.length_map, h.fl, h.fn], h.own, h.ownF, h.rows⟩
/-- Trees with their bytes. -/
def treeC (p : TV × List ByteArray) : List Value := [.slice p.1.NA p.1.nn p.1.nc, .slice p.1.FA p.1.fn p.1.fc]
theorem treeC_snoc (l : List (TV × List ByteArray)) (p : TV × List ByteArray) : (l ++ [p]).flatMap treeC = l.flatMap treeC ++ [.slice p.1.NA p.1.nn p.1.nc, .slice p.1.FA p.1.fn p.1.fc] := by simp [treeC]
theorem treeC_one (p : TV × List ByteArray) : ∀ u ∈ treeC p, u.oneCell' = true := by
  intro u hu
  simp only [treeC, List.mem_cons, List.not_mem_nil, or_false] at hu
  rcases hu with rfl | rfl <;> rfl
/-- Each tree is what the one ahead of it becomes. -/
def ChainT (sd : List ByteArray) : List Cmd → TV × List ByteArray → List (TV × List ByteArray) → Int → Prop
  | [], _, rest, E => rest = [] ∧ E = 0
  | c :: cs, p, rest, E => if DoE p.1 p.2 c sd = 0 then ∃ q rest', rest = q :: rest' ∧ TellsM (doM (openM p.1 p.2) c sd) q.1 q.2 ∧ ChainT sd cs q rest' E else rest = [] ∧ E = DoE p.1 p.2 c sd
def TraceAt (sd : List ByteArray) (cs : List Cmd) (w : World) (p0 : TV × List ByteArray) (v i : Value) (wr : World) : Prop :=
  ∃ (k : Nat) (done : List (TV × List ByteArray)) (last : TV × List ByteArray) (A : Option Addr) (c : Nat), i = .int .i64 k ∧ v = .slice A (k + 1) c ∧ k ≤ cs.length ∧ done.length = k ∧
    wr.ownsRow w.heap.size 25 2 (.slice A (k + 1) c) (k + 1) ((done ++ [last]).flatMap treeC) ∧ (∀ p ∈ done ++ [last], OwnTr w.heap.size wr p.1 p.2) ∧ (done ++ [last]).head? = some p0 ∧
    (∀ rest E, ChainT sd (cs.drop k) last rest E → ChainT sd cs p0 ((done ++ last :: rest).tail) E) ∧ Below w.heap.size w wr
/-- The told tree in a block of its own. -/
def OwnCut (M : PW) (w : World) (p : Value) (wx : World) : Prop := ∃ (u : TV) (S : List Node) (g : Nat), p = .pointer (some ⟨g, 0, none⟩) ∧ Blk wx g 25 #[.slice u.NA u.nn u.nc, .slice u.FA u.fn u.fc] ∧ (∃ b, w.heap.size ≤ b ∧ ToldAs M b wx S u) ∧ Below w.heap.size w wx
theorem OwnCut.alloc {M : PW} {w w5 : World} {b : Nat} {S : List Node} {u : TV} (h : ToldAs M b w5 S u) (hwb : w.heap.size ≤ b) (hb : Below w.heap.size w w5) : OwnCut M w (.pointer (some ⟨w5.heap.size, 0, none⟩)) (w5.alloc (.cells #[.slice u.NA u.nn u.nc, .slice u.FA u.fn u.fc] 25)) :=
  ⟨u, S, _, rfl, Blk.new w5 _ _, ⟨b, hwb, h.keep ((Below.refl _ _).alloc (Nat.le_refl _) _)⟩, hb.alloc hb.size _⟩
theorem OwnCut.store {M : PW} {w w5 w6 : World} {b g : Nat} {S : List Node} {u : TV} {cs : Array Value} (h : ToldAs M b w5 S u) (hwb : w.heap.size ≤ b) (hb : Below w.heap.size w w5) (hZ : Blk w5 g 25 cs) (hB : Blk w6 g 25 #[.slice u.NA u.nn u.nc, .slice u.FA u.fn u.fc]) (hg : w5.grownBy w6 (some g)) (hw : w.heap.size ≤ g) : OwnCut M w (.pointer (some ⟨g, 0, none⟩)) w6 :=
  ⟨u, S, _, rfl, hB, ⟨b, hwb, h.store hZ hg⟩, hb.trans (below_grown hg hb.size (fun q e => by injection e with e; omega))⟩
theorem head_tail {l : List (TV × List ByteArray)} {p0 : TV × List ByteArray} (h : l.head? = some p0) : l = p0 :: l.tail := by
  cases l with
  | nil => simp at h
  | cons x t => simp at h; rw [h]; rfl
def TraceRes (t : TV) (ds sd : List ByteArray) (cs : List Cmd) (w : World) (e : Ending) (w' : World) : Prop :=
  ∃ (p0 : TV × List ByteArray) (tl : List (TV × List ByteArray)) (A : Option Addr) (c : Nat) (E : Int), e = .returned (.tuple #[.slice A (tl.length + 1) c, .int .i64 tl.length, .int .i64 E]) ∧
    w'.ownsRow w.heap.size 25 2 (.slice A (tl.length + 1) c) (tl.length + 1) ((p0 :: tl).flatMap treeC) ∧ (∀ p ∈ p0 :: tl, OwnTr w.heap.size w' p.1 p.2) ∧ exactB p0.1 t p0.2 ds = true ∧ ChainT sd cs p0 tl E ∧ Below w.heap.size w w'
set_option maxRecDepth 100000 in
set_option maxHeartbeats 8000000 in
theorem trace_any (t : TV) (ds : List ByteArray) (cs : List Cmd) (A : Option Addr) (n cap : Nat) (SA : Option Addr) (sn sc : Nat) (ss : List SC) (sd : List ByteArray) (w : World) (h : TreeD w t ds) (hl : looseE t = 0) (hA : Sl w w.heap.size 5 A n (cs.flatMap Cmd.list)) (hn : cs.length = n) (hn4 : n ≤ 4096) (hS : StockAt w SA sn ss sd) :
    Calls Tryz.prog 10 #[t.val, .slice A n cap, .slice SA sn sc] w (TraceRes t ds sd cs w) := by
  have G := good_of_loose hl
  have hnn := G.nn; have hfn := G.fn
  have HSM := Lib.hid (show ∀ x ∈ t.files, x.n ≤ 1000000 from fun x hx => Nat.le_trans (G.small x hx) (by omega))
  have HT := Lib.hid h; have HA := Lib.hid hA; have HN := Lib.hid hn; have HS := Lib.hid hS; have HL := Lib.hid hl
  clear G h hA hn hS hl
  obtain ⟨nodes, files, NA, nn, nc, FA, fn, fc⟩ := t
  simp only at hnn hfn
  unfold TV.val
  have hB := Blk.new w 25 #[.slice NA nn nc, .slice FA fn fc]
  have hb := (Below.refl w.heap.size w).alloc (Nat.le_refl _) (.cells #[.slice NA nn nc, .slice FA fn fc] 25)
  have b0 := hB.cell 0; have b1 := hB.cell 1
  have hn4' : ¬ (4096 : Int) < n := by omega
  go_enter Tryz.func10, Tryz.ntmps10
  go_upto_region 4 with (go_at_call 23; refine (rloose_any ⟨nodes, files, NA, nn, nc, FA, fn, fc⟩ _ (HT.out.tree.keep hb)).mono ?_; rintro e w1 ⟨rfl, hb1⟩; rw [HL.out])
  have hB1 := hB.below hb1 hB.lt
  replace hb := hb.trans (hb1.mono hb.size)
  clear b0 b1 hb1 hB
  have b0 := hB1.cell 0; have b1 := hB1.cell 1
  go_upto_region 7 with (go_at_call 24; refine (copy_any ⟨nodes, files, NA, nn, nc, FA, fn, fc⟩ ds _ (HT.out.keep hb) (by show nn ≤ 100000; omega) (by show fn ≤ 100000; omega) HSM.out).mono ?_; rintro e w2 ⟨⟨un, uf, uNA, unn, unc, uFA, ufn, ufc⟩, rfl, q1, q2, q3, q4, q5, q6, q7, q8, hb2⟩; unfold TV.val)
  subst un; subst unn; subst ufn
  have hw1 : w.heap.size ≤ w1.heap.size := hb.size
  have hb3 := (hb.trans (hb2.mono hw1)).alloc (Nat.le_trans hw1 hb2.size) (.cells #[.slice uNA nn unc, .slice uFA fn ufc] 25)
  have hdl : ds.length = uf.length := by rw [q4, HT.out.dat.len]; exact HT.out.tree.fl
  have hX0 : exactB ⟨nodes, uf, uNA, nn, unc, uFA, fn, ufc⟩ ⟨nodes, files, NA, nn, nc, FA, fn, fc⟩ ds ds = true := by
    unfold exactB
    simp [q5]
  have hO0 : OwnTr w.heap.size w2 ⟨nodes, uf, uNA, nn, unc, uFA, fn, ufc⟩ ds := ⟨HT.out.tree.nl, q4, hdl, own_base q6 hw1, own_base q7 hw1, q8.base hw1⟩
  have hO1 := hO0.keep ((Below.refl _ _).alloc (Nat.le_refl _) (.cells #[.slice uNA nn unc, .slice uFA fn ufc] 25))
  obtain ⟨p0, hp0⟩ : ∃ p : TV × List ByteArray, ((⟨nodes, uf, uNA, nn, unc, uFA, fn, ufc⟩ : TV), ds) = p := ⟨_, rfl⟩
  have H0 := Lib.hid (show TraceAt sd cs w p0 (.slice (some ⟨w2.heap.size, 0, none⟩) 1 1) (.int .i64 0) (w2.alloc (.cells #[.slice uNA nn unc, .slice uFA fn ufc] 25)) from
    ⟨0, [], p0, some ⟨w2.heap.size, 0, none⟩, 1, rfl, rfl, Nat.zero_le _, rfl, by
      rw [← hp0]
      exact ⟨rfl, .inr ⟨w2.heap.size, 1, #[.slice uNA nn unc, .slice uFA fn ufc], rfl, Nat.le_trans hw1 hb2.size, Blk.new w2 _ _, Nat.le_refl _, by unfold maxLen; omega, rfl, rfl⟩⟩, fun p hp => by
      rw [List.nil_append, List.mem_singleton] at hp
      rw [hp, ← hp0]; exact hO1, rfl, fun rest E h => h, hb3⟩)
  have HX0 := Lib.hid (show exactB p0.1 ⟨nodes, files, NA, nn, nc, FA, fn, fc⟩ p0.2 ds = true by rw [← hp0]; exact hX0)
  clear hb3 hX0 hO0 hO1 hp0 q4 q5 q6 q7 q8 hb2 hw1 hdl b0 b1 hB1 hb
  go_wp2
  go_loopw [10, 11] (fun v i wr => TraceAt sd cs w p0 v i wr) (fun _ i _ => n - (intOf i).toNat)
  case atStart => exact H0.out
  case round =>
  clear H0
  obtain ⟨k, done, last, A2, c2, rfl, rfl, hk, hdk, hrow, hown, hhd, hch, hb⟩ := hrel
  rw [HN.out] at hk
  have Hrow := Lib.hid hrow; have Hown := Lib.hid hown; have Hhd := Lib.hid hhd; have Hch := Lib.hid hch; have Hdk := Lib.hid hdk
  clear hrow hown hhd hch hdk
  have hbs := hb.size
  by_cases hlt : k < n
  · have hki : (k : Int) < n := by omega
    obtain ⟨b, o, x, rfl, hbq, hx2, hc⟩ := (HA.out.below hb (Nat.le_refl _)).get (f := Cmd.list) (fun _ => rfl) HN.out hlt
    have c0 := hc 0 _ rfl
    have c1 := hc 1 _ rfl
    have c2' := hc 2 _ rfl
    have c3 := hc 3 _ rfl
    have c4 := hc 4 _ rfl
    simp only [Nat.add_zero] at c0 c1 c2' c3 c4
    have hlen : (done ++ [last]).length = k + 1 := by rw [List.length_append, Hdk.out]; rfl
    have hlast : (done ++ [last])[k]? = some last := by rw [List.getElem?_append_right (by rw [Hdk.out]; exact Nat.le_refl _), Hdk.out, Nat.sub_self]; rfl
    obtain ⟨rb, ro, y, rfl, hrb, hy2, hcy⟩ := (Sl.of_own Hrow.out).get (f := treeC) (fun _ => rfl) hlen (Nat.lt_succ_self k)
    rw [hlast] at hy2
    obtain rfl : last = y := by injection hy2
    have y0 := hcy 0 _ rfl
    have y1 := hcy 1 _ rfl
    simp only [Nat.add_zero] at y0 y1
    obtain rfl : ro = 0 := (own_lt2 Hrow.out).2.2
    simp only [Nat.zero_add] at y0 y1
    have C2 := Lib.hid (show ∀ W, Below wr.heap.size wr W → Calls Tryz.prog 25 #[.agg #[.slice last.1.NA last.1.nn last.1.nc, .slice last.1.FA last.1.fn last.1.fc], .agg #[.int .i64 x.op, .string x.path, .string x.dst, .int .i64 x.mode, .int .i64 x.ref], .slice SA sn sc] W fun e w' => ∃ u S, e = .returned (.tuple #[u.val, .int .i64 (DoE last.1 last.2 x sd)]) ∧ (∃ b, wr.heap.size ≤ b ∧ ToldAs (doW last.1 last.2 x sd) b w' S u) ∧ Below W.heap.size W w' from fun W hW => by
      have ho := Hown.out last (by simp)
      refine (RDo_told last.1 last.2 x SA sn sc ss sd W (ho.tree.keep hW) (HS.out.keep (hb.trans (hW.mono hbs)))).mono ?_
      rintro e w' ⟨u, S, he, hT, hB⟩
      exact ⟨u, S, he, ⟨_, hW.size, hT⟩, hB⟩)
    obtain ⟨E, hE⟩ : ∃ E, DoE last.1 last.2 x sd = E := ⟨_, rfl⟩
    obtain ⟨M, hM⟩ : ∃ M, doW last.1 last.2 x sd = M := ⟨_, rfl⟩
    rw [hE, hM] at C2
    have HE := Lib.hid hE; have HM := Lib.hid hM; have Hx2 := Lib.hid hx2
    clear hE hM hc hcy hx2 hy2 hlast hlen
    have hbq' : b < wr.heap.size := Nat.lt_of_lt_of_le hbq hbs
    have hkk : (k : Int) < (k : Int) + 1 := by omega
    go_upto_region 10 with (fail)
    go_cut [12, 13] from 31 to 43 (fun p e wx => e = .int .i64 E ∧ OwnCut M wr p wx)
    case first =>
      refine wp_region_T none (.q 0 (.q 1 (.q 2 (.q 3 (.q 4 (.q 5 (.q 6 (.q 7 (.q 8 (.e2 9 13 (.q 10 (.q 11 (.q 12 (.e1 13 (.e1 14 (.q 15 .done)))))) (.e1 9 (.q 10 (.q 11 (.q 12 (.e1 14 (.q 15 .done)))))))))))))))) (by kernel_rfl) (by kernel_rfl) fun hG0 => ?_
      repeat (first
        | (refine tree_skip rfl (by rfl) ?_; simp only [Act.put, List.setIfInBounds_toArray, List.set_cons_zero, List.set_cons_succ])
        | (refine tree_qE rfl (by rfl) ?_; apply Exists.intro; refine ⟨fun w' hc' => ?_, ?_⟩; (focus (go_simp; (try go_bits); (try simp only [↓IntWalk.iteOmega]); with_reducible rfl)); simp only [Act.put, List.setIfInBounds_toArray, List.set_cons_zero, List.set_cons_succ]))
      refine tree_e2 (tree_step rfl fun K hK => ?_) (tree_step rfl fun K hK => ?_)
      · have hBc := below_grown hG0 (Nat.le_refl _) (fun g e => by cases e)
        go_wp2_with (go_at_call 25; refine (C2.out _ hBc).mono ?_; rintro e w5 ⟨y, T, rfl, ⟨bb, hbb, hT5⟩, hb5⟩; unfold TV.val)
        have hG1 := grown_trans hG0 (grown_below hb5 (Nat.le_refl _))
        refine hK.out _ _ hG1 ?_
        clear hK K
        repeat (first
          | (refine tree_skip rfl (by rfl) ?_; simp only [Act.put, List.setIfInBounds_toArray, List.set_cons_zero, List.set_cons_succ])
          | (refine tree_qE rfl (by rfl) ?_; apply Exists.intro; refine ⟨fun w' hc' => ?_, ?_⟩; (focus (go_simp; (try go_bits); (try simp only [↓IntWalk.iteOmega]); with_reducible rfl)); simp only [Act.put, List.setIfInBounds_toArray, List.set_cons_zero, List.set_cons_succ]))
        refine tree_e1 (tree_step rfl fun K hK => ?_)
        go_wp2_with (fail)
        have hG2 := grown_trans hG1 (World.grownBy_alloc w5 (.cells #[.slice none 0 0, .slice none 0 0] 25) none)
        refine hK.out _ _ hG2 ?_
        clear hK K
        repeat (first
          | (refine tree_skip rfl (by rfl) ?_; simp only [Act.put, List.setIfInBounds_toArray, List.set_cons_zero, List.set_cons_succ])
          | (refine tree_qE rfl (by rfl) ?_; apply Exists.intro; refine ⟨fun w' hc' => ?_, ?_⟩; (focus (go_simp; (try go_bits); (try simp only [↓IntWalk.iteOmega]); with_reducible rfl)); simp only [Act.put, List.setIfInBounds_toArray, List.set_cons_zero, List.set_cons_succ]))
        refine tree_e1 (tree_step rfl fun K hK => ?_)
        go_wp2_with (fail)
        have hG3 := grown_trans hG1 (World.grownBy_alloc w5 (.cells #[.slice y.NA y.nn y.nc, .slice y.FA y.fn y.fc] 25) none)
        refine hK.out _ _ hG3 ?_
        clear hK K
        repeat (first
          | (refine tree_skip rfl (by rfl) ?_; simp only [Act.put, List.setIfInBounds_toArray, List.set_cons_zero, List.set_cons_succ])
          | (refine tree_qE rfl (by rfl) ?_; apply Exists.intro; refine ⟨fun w' hc' => ?_, ?_⟩; (focus (go_simp; (try go_bits); (try simp only [↓IntWalk.iteOmega]); with_reducible rfl)); simp only [Act.put, List.setIfInBounds_toArray, List.set_cons_zero, List.set_cons_succ]))
        refine tree_end ?_
        go_wp2_with (fail)
        go_meet
        exact ⟨rfl, OwnCut.alloc hT5 hbb (below_grown hG1 (Nat.le_refl _) (fun g e => by cases e))⟩
      · have hZ := Blk.new wr.drew 25 #[.slice none 0 0, .slice none 0 0]
        go_wp2_with (fail)
        have hG1 := grown_trans hG0 (World.grownBy_alloc wr.drew (.cells #[.slice none 0 0, .slice none 0 0] 25) none)
        refine hK.out _ _ hG1 ?_
        clear hK K
        repeat (first
          | (refine tree_skip rfl (by rfl) ?_; simp only [Act.put, List.setIfInBounds_toArray, List.set_cons_zero, List.set_cons_succ])
          | (refine tree_qE rfl (by rfl) ?_; apply Exists.intro; refine ⟨fun w' hc' => ?_, ?_⟩; (focus (go_simp; (try go_bits); (try simp only [↓IntWalk.iteOmega]); with_reducible rfl)); simp only [Act.put, List.setIfInBounds_toArray, List.set_cons_zero, List.set_cons_succ]))
        refine tree_e1 (tree_step rfl fun K hK => ?_)
        have hBc := below_grown hG1 (Nat.le_refl _) (fun g e => by cases e)
        go_wp2_with (go_at_call 25; refine (C2.out _ hBc).mono ?_; rintro e w5 ⟨y, T, rfl, ⟨bb, hbb, hT5⟩, hb5⟩; unfold TV.val)
        have hG2 := grown_trans hG1 (grown_below hb5 (Nat.le_refl _))
        refine hK.out _ _ hG2 ?_
        clear hK K
        repeat (first
          | (refine tree_skip rfl (by rfl) ?_; simp only [Act.put, List.setIfInBounds_toArray, List.set_cons_zero, List.set_cons_succ])
          | (refine tree_qE rfl (by rfl) ?_; apply Exists.intro; refine ⟨fun w' hc' => ?_, ?_⟩; (focus (go_simp; (try go_bits); (try simp only [↓IntWalk.iteOmega]); with_reducible rfl)); simp only [Act.put, List.setIfInBounds_toArray, List.set_cons_zero, List.set_cons_succ]))
        have hZ5 : Blk w5 wr.heap.size 25 #[.slice none 0 0, .slice none 0 0] := hZ.below hb5 hZ.lt
        refine tree_e1 (tree_step rfl fun K hK => ?_)
        go_wp2_with (refine wpList_store_blk rfl 25 (.tmp 12) (.tmp 42) rfl hZ5 #[.slice y.NA y.nn y.nc, .slice y.FA y.fn y.fc] rfl rfl (show (Tryz.prog.info? 25).map (·.size) = some 2 by kernel_rfl) rfl (by simp [Value.oneCell']) ?_; intro w6 hB6 hg6 hs6)
        have hG3 : wr.grownBy w6 none := grown_below ((below_grown hG2 (Nat.le_refl _) (fun g e => by cases e)).trans (below_grown hg6 hG2.size (fun g e => by injection e with e; omega))) (Nat.le_refl _)
        refine hK.out _ _ hG3 ?_
        clear hK K
        repeat (first
          | (refine tree_skip rfl (by rfl) ?_; simp only [Act.put, List.setIfInBounds_toArray, List.set_cons_zero, List.set_cons_succ])
          | (refine tree_qE rfl (by rfl) ?_; apply Exists.intro; refine ⟨fun w' hc' => ?_, ?_⟩; (focus (go_simp; (try go_bits); (try simp only [↓IntWalk.iteOmega]); with_reducible rfl)); simp only [Act.put, List.setIfInBounds_toArray, List.set_cons_zero, List.set_cons_succ]))
        refine tree_end ?_
        go_wp2_with (fail)
        go_meet
        exact ⟨rfl, OwnCut.store hT5 hbb (below_grown hG2 (Nat.le_refl _) (fun g e => by cases e)) hZ5 hB6 hg6 (by simp)⟩
    case rest =>
      obtain ⟨rfl, u, S, g, rfl, hX, ⟨bb, hbb, hTo⟩, hb5⟩ := hcut
      have hOw := Lib.hid (fun p hp => (Hown.out p hp).keep hb5)
      have hrow5 := own_keep Hrow.out fun g' o' e => hb5.block g' (own_lt2 (by rw [← e]; exact Hrow.out)).2.1
      have hb6 := hb.trans (hb5.mono hbs)
      have hto := (OwnTr.told hTo).base (Nat.le_trans hbs hbb)
      have htl := hTo.tells
      have x0 := hX.cell 0; have x1 := hX.cell 1
      have hXl := hX.lt
      have hs5 := hb6.size
      have HRow := Lib.hid hrow5; have Hb6 := Lib.hid hb6; have Hto := Lib.hid hto; have Htl := Lib.hid htl
      clear hrow5 hb6 hto htl hb5 c0 c1 c2' c3 c4 y0 y1 C2 hTo hbb
      by_cases h0 : E = 0
      · have e2 : (E != 0) = false := by simp [h0]
        have hch2 := Hch.out
        have hxd := drop_at7 Hx2.out
        have hD := HE.out.trans h0
        have hMd : doM (openM last.1 last.2) x sd = M := by rw [← HM.out]; unfold doW; rw [if_pos hD]
        have Hch2 := Lib.hid (show ∀ rest E', ChainT sd (cs.drop (k + 1)) (u, dsOf M S) rest E' → ChainT sd cs p0 ((done ++ [last] ++ (u, dsOf M S) :: rest).tail) E' from fun rest E' hc => by
          have := hch2 ((u, dsOf M S) :: rest) E' (by
            rw [hxd, ChainT, if_pos hD]
            exact ⟨_, rest, rfl, by rw [hMd]; exact Htl.out, hc⟩)
          rw [List.append_assoc]
          exact this)
        clear h0 hch2 hxd hD hMd
        go_wp2_with (at_builtin; refine wpList_append_one rfl _ _ _ rfl Tryz.treeT rfl HRow.out #[.slice u.NA u.nn u.nc, .slice u.FA u.fn u.fc] rfl (by first | rfl | simp) rfl (treeC_one (u, [])) (by unfold maxLen; omega) (by omega) hs5 ?_; intro g6 c6 w6 ho6 hg6 hat6)
        go_roundw
        case rel =>
          have hnr : ∀ p ∈ done ++ [last], OwnTr w.heap.size w6 p.1 p.2 := fun p hp => (hOw.out p hp).row HRow.out hg6
          refine ⟨k + 1, done ++ [last], (u, dsOf M S), some ⟨g6, 0, none⟩, c6, by go_num, rfl, by rw [HN.out]; omega, by rw [List.length_append, Hdk.out]; rfl, ?_, ?_, ?_, Hch2.out, Hb6.out.trans (below_grown hg6 hs5 (fun g e => own_blk1 HRow.out g e))⟩
          · rw [treeC_snoc]; exact ho6
          · intro p hp
            rcases List.mem_append.1 hp with hp | hp
            · exact hnr p hp
            · rw [List.mem_singleton] at hp
              rw [hp]
              exact Hto.out.row HRow.out hg6
          · have := Hhd.out
            rw [head_tail this]
            rfl
        case measure => simp [intOf]; omega
      · have e2 : (E != 0) = true := bne_iff_ne.2 h0
        have hxd := drop_at7 Hx2.out
        have hc := Hch.out [] E (by rw [hxd, ChainT, if_neg (by rw [HE.out]; exact h0)]; exact ⟨rfl, HE.out.symm⟩)
        have hht := head_tail Hhd.out
        have hlen : (done ++ [last]).tail.length = k := by rw [List.length_tail, List.length_append, Hdk.out]; rfl
        have Hc := Lib.hid hc; have Hht := Lib.hid hht; have Hlen := Lib.hid hlen
        clear h0 hxd hc hht hlen
        go_wp2
        go_ret3
        refine ⟨p0, (done ++ [last]).tail, some ⟨rb, 0, none⟩, c2, E, ?_, ?_, ?_, HX0.out, Hc.out, Hb6.out⟩
        · rw [Hlen.out]; rfl
        · rw [Hlen.out, ← Hht.out]; exact HRow.out
        · rw [← Hht.out]; exact hOw.out
  · have hki : ¬ (k : Int) < n := by omega
    have hkn : k = n := by omega
    have hc := Hch.out [] 0 (by rw [List.drop_eq_nil_of_le (by rw [HN.out]; omega)]; exact ⟨rfl, rfl⟩)
    have hht := head_tail Hhd.out
    have hlen : (done ++ [last]).tail.length = k := by rw [List.length_tail, List.length_append, Hdk.out]; rfl
    have Hc := Lib.hid hc; have Hht := Lib.hid hht; have Hlen := Lib.hid hlen; have Hkn := Lib.hid hkn
    clear hc hht hlen hkn
    go_wp2
    go_ret3
    refine ⟨p0, (done ++ [last]).tail, A2, c2, 0, ?_, ?_, ?_, HX0.out, Hc.out, hb⟩
    · rw [Hlen.out, Hkn.out]; rfl
    · rw [Hlen.out, ← Hht.out]; exact Hrow.out
    · rw [← Hht.out]; exact Hown.out
end Go.Proofs.YthmeffpickejkaaGreat

namespace Go.Proofs.YthmeffpickejkaaGreat
open Go.RowKit

def Fit (u : TV) : Prop := u.nn ≤ 1000 ∧ u.fn ≤ 1000 ∧ (∀ f ∈ u.files, f.n ≤ 100000) ∧ (0 < wgtB u ∧ wgtB u < 1000000000) ∧ (0 < wgtI u ∧ wgtI u < 1000000000)
theorem m_pos (M : PW) : 0 < mB M ∧ 0 < mI M := by
  rw [mB_rest, mI_rest]
  unfold dW
  omega
theorem fit_loose {u : TV} {es : List ByteArray} {w : World} (hT : TreeD w u es) (hl : looseE u = 0) : Fit u := by
  have G := good_of_loose hl
  obtain ⟨e1, e2⟩ := open_weight hT hl
  have ho := open_ok hT hl
  obtain ⟨z1, z2⟩ := wgM_small ho.inv ho.len
  obtain ⟨p1, p2⟩ := m_pos (openM u es)
  exact ⟨Nat.le_trans G.nn (by omega), Nat.le_trans G.fn (by omega), fun f hf => Nat.le_trans (G.small f hf) (by omega), by rw [e1]; exact ⟨p1, z1⟩, by rw [e2]; exact ⟨p2, z2⟩⟩
theorem fit_told {M : PW} (hM : WOkP M) {q : TV} {es : List ByteArray} (h : TellsM M q es) : Fit q ∧ (wgtB q, wgtI q) = wgM M := by
  have hw := told_weight hM h
  refine ⟨?_, by rw [hw.1, hw.2]; rfl⟩
  obtain ⟨b, w, S, hT, rfl⟩ := h
  exact fit_loose hT.tree (loose_of_P (told_loose hM.inv hM.len hT))
/-- The trees of one instruction. -/
theorem one_chain {t : TV} {ds sd : List ByteArray} {w w' : World} (hT : TreeD w t ds) (hl : looseE t = 0) {x : Cmd} {p0 : TV × List ByteArray} {tl : List (TV × List ByteArray)} {E : Int} (h0 : TreeD w' p0.1 p0.2) (hx : exactB p0.1 t p0.2 ds = true) (hc : ChainT sd [x] p0 tl E) :
    (p0 :: tl).map (fun p => (wgtB p.1, wgtI p.1)) = curveR t ds [x] sd ∧ ∀ p ∈ p0 :: tl, Fit p.1 := by
  have hds := (exact_parts hx).2.2
  rw [hds] at hx h0
  obtain ⟨e1, e2⟩ := lent_same h0 hT hx
  have hl0 : looseE p0.1 = 0 := e1.trans hl
  obtain ⟨w1, w2⟩ := open_weight h0 hl0
  have hM := open_ok hT hl
  have hfit := fit_loose h0 hl0
  unfold ChainT at hc
  have hD : DoE p0.1 p0.2 x sd = doE (openM t ds) x sd := by unfold DoE; rw [if_pos hl0, hds, e2]
  unfold curveR curveT
  rw [if_pos hl]
  by_cases hE : DoE p0.1 p0.2 x sd = 0
  · rw [if_pos hE] at hc
    obtain ⟨q, rest, rfl, hq, hr⟩ := hc
    obtain ⟨rfl, _⟩ := hr
    rw [hds, e2] at hq
    obtain ⟨f1, f2⟩ := fit_told (hM.do x sd) hq
    rw [if_pos (by rw [← hD]; exact hE)]
    refine ⟨?_, fun p hp => ?_⟩
    · simp only [List.map_cons, List.map_nil, curveT, w1, w2, e2]
      rw [f2]
      rfl
    · rcases List.mem_cons.1 hp with rfl | hp
      · exact hfit
      · rw [List.mem_singleton] at hp; rw [hp]; exact f1
  · rw [if_neg hE] at hc
    obtain ⟨rfl, _⟩ := hc
    rw [if_neg (by rw [← hD]; exact hE)]
    refine ⟨?_, fun p hp => ?_⟩
    · simp only [List.map_cons, List.map_nil, w1, w2, e2]
      rfl
    · rw [List.mem_singleton] at hp; rw [hp]; exact hfit
def Trace1Res (t : TV) (ds sd : List ByteArray) (x : Cmd) (w : World) (e : Ending) (w' : World) : Prop :=
  ∃ (us : List (TV × List ByteArray)) (A : Option Addr) (n c : Nat) (k E : Int), e = .returned (.tuple #[.slice A n c, .int .i64 k, .int .i64 E]) ∧ w'.ownsRow w.heap.size 25 2 (.slice A n c) n (us.flatMap treeC) ∧ us.length = n ∧ n ≤ 2 ∧
    (∀ p ∈ us, OwnTr w.heap.size w' p.1 p.2) ∧ us.map (fun p => (wgtB p.1, wgtI p.1)) = curveR t ds [x] sd ∧ (∀ p ∈ us, Fit p.1) ∧ Below w.heap.size w w'
theorem curve_len (t : TV) (ds sd : List ByteArray) (x : Cmd) : (curveR t ds [x] sd).length ≤ 2 := by
  unfold curveR curveT
  split
  · split <;> simp [curveT]
  · simp
set_option maxHeartbeats 4000000 in
theorem trace_no (t : TV) (A : Option Addr) (n cap : Nat) (SA : Option Addr) (sn sc : Nat) (w : World) (h : TreeAt w t) (hl : looseE t ≠ 0) :
    Calls Tryz.prog 10 #[t.val, .slice A n cap, .slice SA sn sc] w fun e w' => e = .returned (.tuple #[.slice none 0 0, .int .i64 0, .int .i64 (looseE t)]) ∧ Below w.heap.size w w' := by
  have hO := fun w (h : TreeAt w t) => rloose_any t w h
  obtain ⟨E, hE⟩ : ∃ E, looseE t = E := ⟨_, rfl⟩
  rw [hE] at hO hl ⊢
  obtain ⟨e1, e2⟩ := ne_b hl
  unfold TV.val at *
  have hb1 := (Below.refl w.heap.size w).alloc (Nat.le_refl _) (.cells #[.slice t.NA t.nn t.nc, .slice t.FA t.fn t.fc] 25)
  have hB := Blk.new w 25 #[.slice t.NA t.nn t.nc, .slice t.FA t.fn t.fc]
  have b0 := hB.cell 0
  have b1 := hB.cell 1
  have HT := Lib.hid h; have HO := Lib.hid hO; have HL := Lib.hid hl
  clear h hO hl hE
  go_enter Tryz.func10, Tryz.ntmps10
  go_wp2_with (go_at_call 23; refine (HO.out _ (HT.out.keep hb1)).mono ?_; rintro e w1 ⟨rfl, hb2⟩)
  go_ret3
  exact ⟨rfl, hb1.trans (hb2.mono (by simp))⟩
theorem trace1_any (t : TV) (ds : List ByteArray) (x : Cmd) (A : Option Addr) (cap : Nat) (SA : Option Addr) (sn sc : Nat) (ss : List SC) (sd : List ByteArray) (w : World) (h : TreeD w t ds) (hA : Sl w w.heap.size 5 A 1 x.list) (hS : StockAt w SA sn ss sd) :
    Calls Tryz.prog 10 #[t.val, .slice A 1 cap, .slice SA sn sc] w (Trace1Res t ds sd x w) := by
  by_cases hl : looseE t = 0
  · refine (trace_any t ds [x] A 1 cap SA sn sc ss sd w h hl (by simpa using hA) rfl (by omega) hS).mono ?_
    rintro e w' ⟨p0, tl, A2, c2, E, he, hr, ho, hx, hc, hb⟩
    obtain ⟨g1, g2⟩ := one_chain h hl (ho p0 List.mem_cons_self).tree hx hc
    have hlen := congrArg List.length g1
    rw [List.length_map, List.length_cons] at hlen
    have := curve_len t ds sd x
    exact ⟨p0 :: tl, A2, tl.length + 1, c2, _, E, he, hr, rfl, by omega, ho, g1, g2, hb⟩
  · refine (trace_no t A 1 cap SA sn sc w h.tree hl).mono ?_
    rintro e w' ⟨he, hb⟩
    refine ⟨[], none, 0, 0, _, _, he, World.ownsRow_nil _ _ _ _, rfl, by omega, (fun p hp => nomatch hp), ?_, (fun p hp => nomatch hp), hb⟩
    unfold curveR
    rw [if_neg hl]
    rfl
end Go.Proofs.YthmeffpickejkaaGreat
