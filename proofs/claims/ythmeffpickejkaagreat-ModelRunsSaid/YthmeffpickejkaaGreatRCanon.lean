/- shuntref6.Canon: a tree put in order, in memory of its own. -/
import Derived.Test.YthmeffpickejkaaGreatCanonP
import Derived.Test.YthmeffpickejkaaGreatForm
import Derived.Test.YthmeffpickejkaaGreatKit
namespace Go.Proofs.YthmeffpickejkaaGreat
open Go.RowKit

/-- What stands ahead of each round of the insertions. -/
def InsAt (w wr : World) (tv : Array Value) (ub : Nat) (nodes : List Node) (i : Nat) : Prop :=
  ∃ (NA : Option Addr) (nc : Nat) (l : List Node), Blk wr ub 25 #[.slice NA i nc, .slice none 0 0] ∧ wr.ownsRow w.heap.size 56 3 (.slice NA i nc) i (l.flatMap Node.list) ∧ l.length = i ∧ l.Perm (nodes.take i) ∧ WS l ∧
    Blk wr w.heap.size 25 tv ∧ Blk wr (w.heap.size + 1) 25 #[.slice none 0 0, .slice none 0 0] ∧ Below w.heap.size w wr
theorem Tryz.toT : ElemT Tryz.prog 141 3 1 8 := ElemT.mk' (z := .int .i64 0) Tryz.underlying141 (by kernel_rfl) rfl (by decide)
/-- What stands ahead of each round that fills the table of the new numbers. -/
def ToAt (w wr : World) (tv : Array Value) (ub gt nn fn : Nat) (l : List Node) (j : Nat) : Prop :=
  ∃ (NA : Option Addr) (nc : Nat) (L : List Value), Blk wr ub 25 #[.slice NA nn nc, .slice none 0 0] ∧ wr.ownsRow w.heap.size 56 3 (.slice NA nn nc) nn (l.flatMap Node.list) ∧ wr.ownsRow w.heap.size 3 1 (.slice (some ⟨gt, 0, none⟩) fn fn) fn L ∧
    (∀ k, k < j → L[k]? = some (.int .i64 (-1))) ∧ Blk wr w.heap.size 25 tv ∧ Blk wr (w.heap.size + 1) 25 #[.slice none 0 0, .slice none 0 0] ∧ Below w.heap.size w wr
/-- What stands ahead of each round that numbers a node anew. -/
def RenAt (w wr : World) (tv : Array Value) (ub gt nn fn : Nat) (S : List Node) (F : Int → Int × ByteArray) (k : Nat) : Prop :=
  ∃ (NA FA : Option Addr) (nc fc fl : Nat) (fs : List FC), Blk wr ub 25 #[.slice NA nn nc, .slice FA fl fc] ∧ wr.ownsRow w.heap.size 56 3 (.slice NA nn nc) nn ((mixN S k).flatMap Node.list) ∧ wr.ownsRow w.heap.size 59 2 (.slice FA fl fc) fl (fs.flatMap FC.list) ∧
    fs.length = fl ∧ fl = (idsL (S.take k)).length ∧ fs.map (·.mode) = (idsL (S.take k)).map (fun i => (F i).1) ∧ FRows wr w.heap.size fs ((idsL S).map fun i => (F i).2) ∧ wr.ownsRow w.heap.size 3 1 (.slice (some ⟨gt, 0, none⟩) fn fn) fn (toL (idsL (S.take k)) fn) ∧
    (∀ x ∈ S.take k, badFile fn x = false) ∧ Blk wr w.heap.size 25 tv ∧ Blk wr (w.heap.size + 1) 25 #[.slice none 0 0, .slice none 0 0] ∧ Below w.heap.size w wr
/-- What Canon says. -/
def RCanonRes (t : TV) (ds : List ByteArray) (w : World) (e : Ending) (w' : World) : Prop :=
  Below w.heap.size w w' ∧ ∃ (u : TV) (E : Int), e = .returned (.tuple #[u.val, .int .i64 E]) ∧
    ((E = 31 ∧ boundB t = true ∧ u = ⟨[], [], none, 0, 0, none, 0, 0⟩) ∨
     (E = 30 ∧ boundB t = false ∧ u = ⟨[], [], none, 0, 0, none, 0, 0⟩ ∧ ((∃ x ∈ t.nodes, badFile t.fn x = true) ∨ ∃ (S : List Node) (v : TV) (w2 : World), Canoned t.nodes (treeF t ds) w.heap.size w2 S v ∧ formB v = false)) ∨
     (E = 0 ∧ boundB t = false ∧ (∀ x ∈ t.nodes, badFile t.fn x = false) ∧ ∃ S, Canoned t.nodes (treeF t ds) w.heap.size w' S u ∧ formB u = true))
theorem FRows.drew' {w : World} {base : Nat} {fs : List FC} {ds : List ByteArray} (h : FRows w base fs ds) : FRows w.drew base fs ds := ⟨fun k f d hf hd => h.row k f d hf hd, h.apart, h.low⟩
theorem reN_file' {ids : List Int} {x : Node} (h : 0 ≤ x.file) : (reN ids x).file = (ids.idxOf x.file : Nat) := by rw [reN, if_neg (by omega)]
theorem node_cells_one (p : ByteArray) (f m : Int) : ∀ u ∈ (#[.string p, .int .i64 f, .int .i64 m] : Array Value).toList, u.oneCell' = true := by
  intro u hu
  simp only [List.mem_cons, List.not_mem_nil, or_false] at hu
  rcases hu with rfl | rfl | rfl <;> rfl
set_option maxRecDepth 100000 in
set_option maxHeartbeats 8000000 in
theorem rcanon_any (t : TV) (ds : List ByteArray) (w : World) (h : TreeD w t ds) : Calls Tryz.prog 65 #[t.val] w (RCanonRes t ds w) := by
  have HD := Lib.hid h.dat
  have HT := Lib.hid h.tree
  have hns := h.tree.ns
  have hnl := h.tree.nl
  have hfs := h.tree.fs
  have hfl := h.tree.fl
  have hnm := h.tree.nm
  have hfm := h.tree.fm
  have hbig := fun (W : World) (H : TreeAt W t) => rbig_any t W H
  clear h
  cases hbb : boundB t with
  | true =>
    rw [hbb] at hbig
    have Hbb := Lib.hid hbb; clear hbb
    obtain ⟨nodes, files, NA, nn, nc, FA, fn, fc⟩ := t
    unfold TV.val at hbig ⊢
    have HBIG := Lib.hid hbig; clear hbig hns hnl hfs hfl
    have hR := Blk.new (w.alloc (.cells #[.slice NA nn nc, .slice FA fn fc] 25)) 25 #[.slice none 0 0, .slice none 0 0]
    have hB := (Blk.new w 25 #[.slice NA nn nc, .slice FA fn fc]).alloc (.cells #[.slice none 0 0, .slice none 0 0] 25)
    have hb := ((Below.refl w.heap.size w).alloc (Nat.le_refl _) (.cells #[.slice NA nn nc, .slice FA fn fc] 25)).alloc (by simp) (.cells #[.slice none 0 0, .slice none 0 0] 25)
    rw [World.size_alloc] at hR
    have b0 := hB.cell 0; have b1 := hB.cell 1
    go_enter Tryz.func65, Tryz.ntmps65
    go_wp2_with (first | (go_at_call 39; refine (HBIG.out _ (HT.out.keep hb)).mono ?_; rintro e w1 ⟨rfl, hb1⟩; replace hR := hR.below hb1 hR.lt; replace hb := hb.trans (hb1.mono hb.size)) | (refine wpList_store_blk rfl 25 (.tmp 2) (.tmp 18) rfl hR #[.slice none 0 0, .slice none 0 0] rfl rfl (by kernel_rfl) rfl (by simp [Value.oneCell']) ?_; intro w7 hB7 hg7 hs7))
    exact ret_cell_t rfl rfl (load_blk hB7 Tryz.underlying25 rfl (by kernel_rfl)) rfl ⟨hb.trans (below_grown hg7 hb.size (fun g e => by injection e with e; omega)), ⟨[], [], none, 0, 0, none, 0, 0⟩, 31, rfl, .inl ⟨rfl, Hbb.out, rfl⟩⟩
  | false =>
    rw [hbb] at hbig
    obtain ⟨hn1, hf1, hsm⟩ : t.nn ≤ 256 ∧ t.fn ≤ 256 ∧ ∀ x ∈ t.files, x.n ≤ 8192 := by
      simp only [boundB, Bool.or_eq_false_iff, decide_eq_false_iff_not, anyLong, List.any_eq_false] at hbb
      exact ⟨by omega, by omega, fun x hx => by have := hbb.2 x hx; simpa using this⟩
    have Hbb := Lib.hid hbb; clear hbb
    obtain ⟨nodes, files, NA, nn, nc, FA, fn, fc⟩ := t
    simp only at hns hnl hfs hfl hn1 hf1 hsm hnm hfm
    unfold TV.val at hbig ⊢
    have HBIG := Lib.hid hbig; clear hbig
    have HS := Lib.hid hns; clear hns
    have Hn := Lib.hid hnl; clear hnl
    have HFS := Lib.hid hfs; clear hfs
    have Hfl := Lib.hid hfl; clear hfl
    have HSM := Lib.hid hsm; clear hsm
    have hR := Blk.new (w.alloc (.cells #[.slice NA nn nc, .slice FA fn fc] 25)) 25 #[.slice none 0 0, .slice none 0 0]
    have hB := (Blk.new w 25 #[.slice NA nn nc, .slice FA fn fc]).alloc (.cells #[.slice none 0 0, .slice none 0 0] 25)
    have hb := ((Below.refl w.heap.size w).alloc (Nat.le_refl _) (.cells #[.slice NA nn nc, .slice FA fn fc] 25)).alloc (by simp) (.cells #[.slice none 0 0, .slice none 0 0] 25)
    rw [World.size_alloc] at hR
    have b0 := hB.cell 0; have b1 := hB.cell 1
    go_enter Tryz.func65, Tryz.ntmps65
    go_upto_region 4 with (go_at_call 39; refine (HBIG.out _ (HT.out.keep hb)).mono ?_; rintro e w1 ⟨rfl, hb1⟩; replace hR := hR.below hb1 hR.lt; replace hB := hB.below hb1 hB.lt; replace hb := hb.trans (hb1.mono hb.size))
    clear b0 b1
    have hRl := hR.lt
    have hU := Blk.new w1 25 #[.slice none 0 0, .slice none 0 0]
    replace hR := hR.alloc (.cells #[.slice none 0 0, .slice none 0 0] 25)
    replace hB := hB.alloc (.cells #[.slice none 0 0, .slice none 0 0] 25)
    replace hb := hb.alloc hb.size (.cells #[.slice none 0 0, .slice none 0 0] 25)
    obtain ⟨ub, hube⟩ : ∃ ub, w1.heap.size = ub := ⟨_, rfl⟩
    rw [hube] at hU hRl
    have h0 : InsAt w (w1.alloc (.cells #[.slice none 0 0, .slice none 0 0] 25)) #[.slice NA nn nc, .slice FA fn fc] ub nodes 0 := ⟨none, 0, [], hU, World.ownsRow_nil _ _ _ _, rfl, by simp, List.Pairwise.nil, hB, hR, hb⟩
    have H0 := Lib.hid h0
    clear h0 hU hB hR hb hb1
    go_wp2
    clear hube
    go_loopw [6] (fun v wr => ∃ i : Nat, i ≤ nn ∧ v = .int .i64 i ∧ InsAt w wr #[.slice NA nn nc, .slice FA fn fc] ub nodes i) (fun v _ => nn - (intOf v).toNat)
    case atStart => exact ⟨0, Nat.zero_le _, rfl, H0.out⟩
    case round =>
      clear H0
      obtain ⟨i, hi, rfl, MA, mc, l, hU, hO, hli, hp, hw, hB, hR, hb⟩ := hrel
      have HO := Lib.hid hO; have Hli := Lib.hid hli; have Hp := Lib.hid hp; have Hw := Lib.hid hw
      clear hO hli hp hw
      have b0 := hB.cell 0
      by_cases hlt : i < nn
      · have hki : (i : Int) < nn := by omega
        obtain ⟨xb, xo, x, rfl, hxb, hx, hc⟩ := (HS.out.below hb (Nat.le_refl _)).get Node.len Hn.out hlt
        have c0 := hc 0 _ rfl
        have c1 := hc 1 _ rfl
        have c2 := hc 2 _ rfl
        simp only [Nat.add_zero] at c0 c1 c2
        have Hx := Lib.hid hx
        clear hc hx
        go_upto_region 9 with (fail)
        have hX := Blk.new wr 56 #[.string x.path, .int .i64 x.file, .int .i64 x.mode]
        have hg0 := World.grownBy_alloc wr (.cells #[.string x.path, .int .i64 x.file, .int .i64 x.mode] 56) none
        have hws := hb.size
        obtain ⟨V, hV⟩ : ∃ W, wr.alloc (.cells #[.string x.path, .int .i64 x.file, .int .i64 x.mode] 56) = W := ⟨_, rfl⟩
        obtain ⟨nb, hnb⟩ : ∃ g, wr.heap.size = g := ⟨_, rfl⟩
        have hUl := hU.lt; have hBl := hB.lt; have hRl2 := hR.lt
        rw [hV] at hX hg0 ⊢
        rw [hnb] at hX hws hUl hBl hRl2 ⊢
        have hU1 := hU.grown hg0 (by simp)
        have hB1 := hB.grown hg0 (by simp)
        have hR1 := hR.grown hg0 (by simp)
        have hb1 := hb.trans (below_grown hg0 hb.size (fun g e => by cases e))
        have HO1 := Lib.hid (own_keep HO.out fun g o e => hg0.block g (own_lt2 (by rw [← e]; exact HO.out)).2.1 (by simp))
        have hMn : ∀ g, blkOf MA = some g → g < nb := fun g hg => by
          rcases MA with _ | ⟨b', o', s'⟩
          · cases hg
          · simp only [blkOf, Option.some.injEq] at hg
            subst hg
            rw [← hnb]
            exact (own_lt2 HO.out).2.1
        have HMn := Lib.hid hMn
        clear hg0 hU hB hR hb c0 c1 c2 HO b0 hV hMn
        go_wp2
        go_loopw [8] (fun v wv => ∃ k : Nat, k ≤ i ∧ v = .int .i64 k ∧ (∀ y ∈ l.take k, pathL y < pathL x) ∧ V.grownBy wv none) (fun v _ => i - (intOf v).toNat)
        case atStart => exact ⟨0, Nat.zero_le _, rfl, fun y hy => by simp at hy, rfl, rfl, rfl, Nat.le_refl _, fun _ _ _ => rfl⟩
        case round =>
          obtain ⟨k, hk, rfl, hlk, hgv⟩ := hrel
          have Hlk := Lib.hid hlk; clear hlk
          have hUv := hU1.grown hgv (by simp)
          have hXv := hX.grown hgv (by simp)
          have hvs := hgv.size
          have u0 := hUv.cell 0
          have x0 := hXv.cell 0
          have hUl := hUv.lt
          have hXl := hXv.lt
          have HOv := Lib.hid (own_keep HO1.out fun g o e => hgv.block g (own_lt2 (by rw [← e]; exact HO1.out)).2.1 (by simp))
          by_cases hlt2 : k < i
          · have hki2 : (k : Int) < i := by omega
            have hkd : decide (k < i) = true := decide_eq_true hlt2
            obtain ⟨yb, yo, y, rfl, hyb, hy, hc⟩ := (Sl.of_own HOv.out).get Node.len Hli.out hlt2
            obtain ⟨_, _, rfl⟩ := own_lt2 HOv.out
            have c0 := hc 0 _ rfl
            simp only [Nat.add_zero, Nat.zero_add] at c0
            have Hy := Lib.hid hy
            clear hc hy
            cases hls : Op.bytesLess y.path.toList x.path.toList with
            | true =>
              have Hls := Lib.hid hls
              go_upto_region 10 with (fail)
              refine wp_region_ordB (none) [(0, true), (1, true), (2, true), (3, true), (4, true), (5, true), (6, true), (7, true), (8, true), (9, true), (10, true), (11, true), (12, true), (13, true), (14, true), (15, true)] (by kernel_rfl) (by kernel_rfl) fun hG0 => ?_
              repeat (first
                | (refine ord_skipB rfl (by rfl) ?_; simp only [Act.put, List.setIfInBounds_toArray, List.set_cons_zero, List.set_cons_succ])
                | (refine ord_qE rfl (by rfl) ?_; apply Exists.intro; refine ⟨fun w' hc' => ?_, ?_⟩; (focus (go_simp; (try go_bits); (try simp only [↓IntWalk.iteOmega]); with_reducible rfl)); simp only [Act.put, List.setIfInBounds_toArray, List.set_cons_zero, List.set_cons_succ]))
              refine ord_end ?_
              go_wp2
              go_roundw
              case rel =>
                refine ⟨k + 1, by omega, by go_num, fun z hz => ?_, grown_trans hgv hG0⟩
                rw [take_snoc' Hy.out] at hz
                rcases List.mem_append.1 hz with hz | hz
                · exact Hlk.out z hz
                · rw [List.mem_singleton.1 hz]
                  have := Hls.out
                  rw [less_lt, decide_eq_true_eq] at this
                  exact this
              case measure => simp [intOf]; omega
            | false =>
              have Hls := Lib.hid hls
              go_upto_region 10 with (fail)
              refine wp_region_ordB (none) [(0, true), (1, true), (2, true), (3, true), (4, true), (5, true), (6, true), (7, true), (8, true), (9, true), (10, true), (11, true), (12, true), (13, true), (14, true), (15, true)] (by kernel_rfl) (by kernel_rfl) fun hG0 => ?_
              repeat (first
                | (refine ord_skipB rfl (by rfl) ?_; simp only [Act.put, List.setIfInBounds_toArray, List.set_cons_zero, List.set_cons_succ])
                | (refine ord_qE rfl (by rfl) ?_; apply Exists.intro; refine ⟨fun w' hc' => ?_, ?_⟩; (focus (go_simp; (try go_bits); (try simp only [↓IntWalk.iteOmega]); with_reducible rfl)); simp only [Act.put, List.setIfInBounds_toArray, List.set_cons_zero, List.set_cons_succ]))
              refine ord_end ?_
              have hstop : ∀ z, l[k]? = some z → ¬ pathL z < pathL x := fun z hz => by
                have e : z = y := by have := Hy.out; rw [hz] at this; exact Option.some.inj this
                rw [e]
                have := Hls.out
                rw [less_lt, decide_eq_false_iff_not] at this
                exact this
              have Hst := Lib.hid hstop
              clear hstop hls c0
              obtain ⟨V1, hV1⟩ : ∃ W, wr.drew = W := ⟨_, rfl⟩
              rw [hV1] at hG0 ⊢
              clear hV1 u0 x0
              have hg1 := grown_trans hgv hG0
              have hU2 := hU1.grown hg1 (by simp)
              have hX2 := hX.grown hg1 (by simp)
              have hb2 := hb1.trans (below_grown hg1 hb1.size (fun g e => by cases e))
              have HO2 := Lib.hid (own_keep HO1.out fun g o e => hg1.block g (own_lt2 (by rw [← e]; exact HO1.out)).2.1 (by simp))
              have u0 := hU2.cell 0
              have hs2 := hb2.size
              have HPRE := Lib.hid (show V1.ownsRow w.heap.size 56 3 (.slice (some ⟨yb, 0, none⟩) k mc) k ((l.take k).flatMap Node.list) by rw [← flat_take Node.len]; exact own_prefix HO2.out hk)
              have hsuf : Sl V1 V1.heap.size 3 (some ⟨yb, k * 3, none⟩) (i - k) ((l.drop k).flatMap Node.list) := ⟨by rw [flat_length Node.len, List.length_drop, Hli.out], fun _ => ⟨yb, k * 3, rfl, (own_row HO2.out).2.2.1, by rw [← flat_drop Node.len]; have := (own_row HO2.out).1.drop (k * 3); rwa [Nat.zero_add] at this⟩⟩
              have HSUF := Lib.hid hsuf
              clear hsuf
              have hki3 : (k : Int) ≤ i := by omega
              have hkc : i ≤ mc := (own_row HO2.out).2.2.2.1
              go_upto_region 13 with (at_builtin; refine wpList_append_sl (B := V1.heap.size) (m := (i - k)) (c2 := mc - k) (L2 := (l.drop k).flatMap Node.list) rfl _ _ _ rfl Tryz.nodeT rfl (World.ownsRow_nil V1 w.heap.size _ _) rfl HSUF.out (node_one _) (by unfold maxLen; omega) (by omega) hs2 ?_; intro A4 c4 w4 ho4 hg4 hat4)
              simp only [Nat.zero_add, List.nil_append] at ho4 ⊢
              have hg4w : V1.grownBy w4 none := hg4
              have hU4 := hU2.grown hg4w (by simp)
              have hX4 := hX2.grown hg4w (by simp)
              have hb4 := hb2.trans (below_grown hg4w hb2.size (fun g e => by cases e))
              have HP4 := Lib.hid (own_keep1 HPRE.out (below_grown hg4w (Nat.le_refl _) (fun g e => by cases e)) (Nat.le_refl _))
              have hneU : ¬ some ub = blkOf (some ⟨yb, 0, none⟩) := hU4.ne_row HP4.out (by decide)
              have hneX : ¬ some nb = blkOf (some ⟨yb, 0, none⟩) := fun e => by have := HMn.out nb e.symm; omega
              have hne4 : ∀ g, blkOf A4 = some g → some g ≠ blkOf (some ⟨yb, 0, none⟩) := fun g hg e => by
                rcases hat4 g hg with h1 | h1
                · cases h1
                · (simp only [blkOf, Option.some.injEq] at e; have := (own_row HO2.out).2.2.1; omega)
              have Hn4 := Lib.hid hne4
              have hs4 := hb4.size
              clear u0 hne4 hat4 hg4
              have u0 := hU4.cell 0
              have x0 := hX4.cell 0; have x1 := hX4.cell 1; have x2 := hX4.cell 2
              have hUl4 := hU4.lt; have hXl4 := hX4.lt
              have Hn7 := Lib.hid (show k + 1 + (i - k) = i + 1 by omega)
              have hki4 : (((k : Nat) : Int)) ≤ (i : Nat) := by omega
              refine wp_region_ordG (blkOf (some ⟨yb, 0, none⟩)) [(0, true), (1, true), (2, true), (3, true), (4, true), (7, true), (5, false), (6, false), (8, false), (9, true)] 10 (by kernel_rfl) (by kernel_rfl) fun hG0 => ?_
              repeat (first
                | (refine ord_skipB rfl (by rfl) ?_; simp only [Act.put, List.setIfInBounds_toArray, List.set_cons_zero, List.set_cons_succ])
                | (refine ord_qE rfl (by rfl) ?_; apply Exists.intro; refine ⟨fun w' hc' => ?_, ?_⟩; (focus (go_simp; (try go_bits); (try simp only [↓IntWalk.iteOmega]); with_reducible rfl)); simp only [Act.put, List.setIfInBounds_toArray, List.set_cons_zero, List.set_cons_succ]))
              refine ord_eB rfl fun K hK => ?_
              go_wp2_with (fail)
              have hG1 := grown_trans hG0 (World.grownBy_alloc w4.drew (.cells #[.string x.path, .int .i64 x.file, .int .i64 x.mode] 56) (blkOf (some ⟨yb, 0, none⟩)))
              refine hK.out _ _ hG1 ?_
              clear hK K
              repeat (first
                | (refine ord_skipB rfl (by rfl) ?_; simp only [Act.put, List.setIfInBounds_toArray, List.set_cons_zero, List.set_cons_succ])
                | (refine ord_qE rfl (by rfl) ?_; apply Exists.intro; refine ⟨fun w' hc' => ?_, ?_⟩; (focus (go_simp; (try go_bits); (try simp only [↓IntWalk.iteOmega]); with_reducible rfl)); simp only [Act.put, List.setIfInBounds_toArray, List.set_cons_zero, List.set_cons_succ]))
              refine ord_eB rfl fun K hK => ?_
              go_wp2_with (at_builtin; refine wpList_append_one (w := w4.drew) rfl _ _ _ rfl Tryz.nodeT rfl (own_drew HP4.out) #[.string x.path, .int .i64 x.file, .int .i64 x.mode] rfl (by simp) rfl (node_cells_one _ _ _) (by unfold maxLen; omega) (by omega) hs4 ?_; intro g6 c6 w6 ho6 hg6 hat6)
              have hG2 := grown_trans hG0 hg6
              refine hK.out _ _ hG2 ?_
              clear hK K
              repeat (first
                | (refine ord_skipB rfl (by rfl) ?_; simp only [Act.put, List.setIfInBounds_toArray, List.set_cons_zero, List.set_cons_succ])
                | (refine ord_qE rfl (by rfl) ?_; apply Exists.intro; refine ⟨fun w' hc' => ?_, ?_⟩; (focus (go_simp; (try go_bits); (try simp only [↓IntWalk.iteOmega]); with_reducible rfl)); simp only [Act.put, List.setIfInBounds_toArray, List.set_cons_zero, List.set_cons_succ]))
              have HR6 := Lib.hid (Sl.of_own (own_keep ho4 fun g o e => hg6.block g (own_lt2 (by rw [← e]; exact ho4)).2.1 (Hn4.out g (by rw [e]; rfl))))
              refine ord_eB rfl fun K hK => ?_
              go_wp2_with (at_builtin; refine wpList_append_sl rfl _ _ _ rfl Tryz.nodeT rfl ho6 rfl HR6.out (node_one _) (by unfold maxLen; omega) (by omega) (Nat.le_trans hs4 hG2.size) ?_; intro A7 c7 w7 ho7 hg7 hat7; (first | rw [Hn7.out] at ho7 ⊢ | skip))
              have hG3 := grown_own hG2 hg7 (fun g e => by injection e with e; subst e; exact hat6.imp id (fun h => Nat.le_of_lt h))
              refine hK.out _ _ hG3 ?_
              clear hK K
              repeat (first
                | (refine ord_skipB rfl (by rfl) ?_; simp only [Act.put, List.setIfInBounds_toArray, List.set_cons_zero, List.set_cons_succ])
                | (refine ord_qE rfl (by rfl) ?_; apply Exists.intro; refine ⟨fun w' hc' => ?_, ?_⟩; (focus (go_simp; (try go_bits); (try simp only [↓IntWalk.iteOmega]); with_reducible rfl)); simp only [Act.put, List.setIfInBounds_toArray, List.set_cons_zero, List.set_cons_succ]))
              have hU7 := hU4.grown hG3 hneU
              have q1 := hU7.cell 0
              have q1f := hU7.frozen 0
              refine ord_tail rfl fun K hK => ?_
              go_wp2_with (fail)
              refine hK.out _ _ ?_
              clear hK K
              have hB7 := ((hB1.grown hg1 (by simp)).grown hg4w (by simp)).grown hG3 (((hB1.grown hg1 (by simp)).grown hg4w (by simp)).ne_row HP4.out (by decide))
              have hR7 := ((hR1.grown hg1 (by simp)).grown hg4w (by simp)).grown hG3 (((hR1.grown hg1 (by simp)).grown hg4w (by simp)).ne_row HP4.out (by decide))
              have hb7 := hb4.trans (below_grown hG3 hb4.size (fun g e => own_blk1 HP4.out g e))
              have HL := Lib.hid (show (l.take k ++ x :: l.drop k).flatMap Node.list = (l.take k).flatMap Node.list ++ (#[.string x.path, .int .i64 x.file, .int .i64 x.mode] : Array Value).toList ++ (l.drop k).flatMap Node.list by simp [Node.list])
              have HLn := Lib.hid (show (l.take k ++ x :: l.drop k).length = i + 1 by rw [List.length_append, List.length_cons, List.length_take, List.length_drop, Hli.out]; omega)
              have Ho7 := Lib.hid ho7
              clear ho7 ho6 hg6 hg7 hat6 hat7 hG0 hG1 hG2 u0 x0 x1 x2 q1 q1f
              go_wp2
              go_roundw
              case rel => exact ⟨i + 1, by omega, by go_num, A7, c7, l.take k ++ x :: l.drop k, hU7.set 0 _, by rw [HL.out]; exact own_blkset Ho7.out hU7 (by decide) _ _, HLn.out, by rw [take_snoc' Hx.out]; exact perm_ins k Hp.out, ws_ins Hw.out Hlk.out Hst.out, hB7.set_ne _ _ (by show w.heap.size ≠ ub; omega), hR7.set_ne _ _ (by show w.heap.size + 1 ≠ ub; omega), hb7.setCell (p := ⟨ub, 0, none⟩) (by show w.heap.size ≤ ub; omega) _⟩
              case measure => simp [intOf]; omega
          · obtain rfl : k = i := by omega
            have hki2 : ¬ (k : Int) < k := by omega
            have hkd : decide (k < k) = false := decide_eq_false hlt2
            have hstop : ∀ z, l[k]? = some z → ¬ pathL z < pathL x := fun z hz => by
              rw [List.getElem?_eq_none (by rw [Hli.out]; exact Nat.le_refl _)] at hz; cases hz
            have Hst := Lib.hid hstop
            clear hstop
            rcases HO1.out.2 with ⟨e0, _⟩ | ⟨yb, cap, cur, hv, _⟩
            · injection e0 with e1 e2 e3
              subst e1 e2 e3
              go_upto_region 10 with (fail)
              refine wp_region_ordB (none) [(0, true), (1, true), (2, true), (3, true), (4, true), (5, true), (6, true), (7, true), (8, true), (9, true), (10, true), (11, true), (12, true), (13, true), (14, true), (15, true)] (by kernel_rfl) (by kernel_rfl) fun hG0 => ?_
              repeat (first
                | (refine ord_skipB rfl (by rfl) ?_; simp only [Act.put, List.setIfInBounds_toArray, List.set_cons_zero, List.set_cons_succ])
                | (refine ord_qE rfl (by rfl) ?_; apply Exists.intro; refine ⟨fun w' hc' => ?_, ?_⟩; (focus (go_simp; (try go_bits); (try simp only [↓IntWalk.iteOmega]); with_reducible rfl)); simp only [Act.put, List.setIfInBounds_toArray, List.set_cons_zero, List.set_cons_succ]))
              refine ord_end ?_
              obtain ⟨V1, hV1⟩ : ∃ W, wr.drew = W := ⟨_, rfl⟩
              rw [hV1] at hG0 ⊢
              clear hV1 u0 x0
              have hg1 := grown_trans hgv hG0
              have hU2 := hU1.grown hg1 (by simp)
              have hX2 := hX.grown hg1 (by simp)
              have hb2 := hb1.trans (below_grown hg1 hb1.size (fun g e => by cases e))
              have HO2 := Lib.hid (own_keep HO1.out fun g o e => hg1.block g (own_lt2 (by rw [← e]; exact HO1.out)).2.1 (by simp))
              have u0 := hU2.cell 0
              have hs2 := hb2.size
              have HPRE := Lib.hid (show V1.ownsRow w.heap.size 56 3 (.slice none 0 0) 0 ((l.take 0).flatMap Node.list) from World.ownsRow_nil _ _ _ _)
              have HSUF := Lib.hid (show Sl V1 V1.heap.size 3 none 0 ((l.drop 0).flatMap Node.list) from ⟨by rw [flat_length Node.len, List.length_drop, Hli.out], fun h => absurd h (by omega)⟩)
              have hki3 : (0 : Int) ≤ 0 := by omega
              have hkc : 0 ≤ 0 := Nat.le_refl _
              go_upto_region 13 with (at_builtin; refine wpList_append_sl (B := V1.heap.size) (m := 0) (c2 := 0 - 0) (L2 := (l.drop 0).flatMap Node.list) rfl _ _ _ rfl Tryz.nodeT rfl (World.ownsRow_nil V1 w.heap.size _ _) rfl HSUF.out (node_one _) (by unfold maxLen; omega) (by omega) hs2 ?_; intro A4 c4 w4 ho4 hg4 hat4)
              simp only [Nat.zero_add, List.nil_append] at ho4 ⊢
              have hg4w : V1.grownBy w4 none := hg4
              have hU4 := hU2.grown hg4w (by simp)
              have hX4 := hX2.grown hg4w (by simp)
              have hb4 := hb2.trans (below_grown hg4w hb2.size (fun g e => by cases e))
              have HP4 := Lib.hid (own_keep1 HPRE.out (below_grown hg4w (Nat.le_refl _) (fun g e => by cases e)) (Nat.le_refl _))
              have hneU : ¬ some ub = blkOf (none : Option Addr) := hU4.ne_row HP4.out (by decide)
              have hneX : ¬ some nb = blkOf (none : Option Addr) := fun e => by cases e
              have hne4 : ∀ g, blkOf A4 = some g → some g ≠ blkOf (none : Option Addr) := fun g hg e => by
                rcases hat4 g hg with h1 | h1
                · cases h1
                · cases e
              have Hn4 := Lib.hid hne4
              have hs4 := hb4.size
              clear u0 hne4 hat4 hg4
              have u0 := hU4.cell 0
              have x0 := hX4.cell 0; have x1 := hX4.cell 1; have x2 := hX4.cell 2
              have hUl4 := hU4.lt; have hXl4 := hX4.lt
              have Hn7 := Lib.hid (show 0 + 1 + 0 = 0 + 1 by omega)
              have hki4 : (((0 : Nat) : Int)) ≤ (0 : Nat) := by omega
              refine wp_region_ordG (blkOf (none : Option Addr)) [(0, true), (1, true), (2, true), (3, true), (4, true), (7, true), (5, false), (6, false), (8, false), (9, true)] 10 (by kernel_rfl) (by kernel_rfl) fun hG0 => ?_
              repeat (first
                | (refine ord_skipB rfl (by rfl) ?_; simp only [Act.put, List.setIfInBounds_toArray, List.set_cons_zero, List.set_cons_succ])
                | (refine ord_qE rfl (by rfl) ?_; apply Exists.intro; refine ⟨fun w' hc' => ?_, ?_⟩; (focus (go_simp; (try go_bits); (try simp only [↓IntWalk.iteOmega]); with_reducible rfl)); simp only [Act.put, List.setIfInBounds_toArray, List.set_cons_zero, List.set_cons_succ]))
              refine ord_eB rfl fun K hK => ?_
              go_wp2_with (fail)
              have hG1 := grown_trans hG0 (World.grownBy_alloc w4.drew (.cells #[.string x.path, .int .i64 x.file, .int .i64 x.mode] 56) (blkOf (none : Option Addr)))
              refine hK.out _ _ hG1 ?_
              clear hK K
              repeat (first
                | (refine ord_skipB rfl (by rfl) ?_; simp only [Act.put, List.setIfInBounds_toArray, List.set_cons_zero, List.set_cons_succ])
                | (refine ord_qE rfl (by rfl) ?_; apply Exists.intro; refine ⟨fun w' hc' => ?_, ?_⟩; (focus (go_simp; (try go_bits); (try simp only [↓IntWalk.iteOmega]); with_reducible rfl)); simp only [Act.put, List.setIfInBounds_toArray, List.set_cons_zero, List.set_cons_succ]))
              refine ord_eB rfl fun K hK => ?_
              go_wp2_with (at_builtin; refine wpList_append_one (w := w4.drew) rfl _ _ _ rfl Tryz.nodeT rfl (own_drew HP4.out) #[.string x.path, .int .i64 x.file, .int .i64 x.mode] rfl (by simp) rfl (node_cells_one _ _ _) (by unfold maxLen; omega) (by omega) hs4 ?_; intro g6 c6 w6 ho6 hg6 hat6)
              have hG2 := grown_trans hG0 hg6
              refine hK.out _ _ hG2 ?_
              clear hK K
              repeat (first
                | (refine ord_skipB rfl (by rfl) ?_; simp only [Act.put, List.setIfInBounds_toArray, List.set_cons_zero, List.set_cons_succ])
                | (refine ord_qE rfl (by rfl) ?_; apply Exists.intro; refine ⟨fun w' hc' => ?_, ?_⟩; (focus (go_simp; (try go_bits); (try simp only [↓IntWalk.iteOmega]); with_reducible rfl)); simp only [Act.put, List.setIfInBounds_toArray, List.set_cons_zero, List.set_cons_succ]))
              have HR6 := Lib.hid (Sl.of_own (own_keep ho4 fun g o e => hg6.block g (own_lt2 (by rw [← e]; exact ho4)).2.1 (Hn4.out g (by rw [e]; rfl))))
              refine ord_eB rfl fun K hK => ?_
              go_wp2_with (at_builtin; refine wpList_append_sl rfl _ _ _ rfl Tryz.nodeT rfl ho6 rfl HR6.out (node_one _) (by unfold maxLen; omega) (by omega) (Nat.le_trans hs4 hG2.size) ?_; intro A7 c7 w7 ho7 hg7 hat7; (first | rw [Hn7.out] at ho7 ⊢ | skip))
              have hG3 := grown_own hG2 hg7 (fun g e => by injection e with e; subst e; exact hat6.imp id (fun h => Nat.le_of_lt h))
              refine hK.out _ _ hG3 ?_
              clear hK K
              repeat (first
                | (refine ord_skipB rfl (by rfl) ?_; simp only [Act.put, List.setIfInBounds_toArray, List.set_cons_zero, List.set_cons_succ])
                | (refine ord_qE rfl (by rfl) ?_; apply Exists.intro; refine ⟨fun w' hc' => ?_, ?_⟩; (focus (go_simp; (try go_bits); (try simp only [↓IntWalk.iteOmega]); with_reducible rfl)); simp only [Act.put, List.setIfInBounds_toArray, List.set_cons_zero, List.set_cons_succ]))
              have hU7 := hU4.grown hG3 hneU
              have q1 := hU7.cell 0
              have q1f := hU7.frozen 0
              refine ord_tail rfl fun K hK => ?_
              go_wp2_with (fail)
              refine hK.out _ _ ?_
              clear hK K
              have hB7 := ((hB1.grown hg1 (by simp)).grown hg4w (by simp)).grown hG3 (((hB1.grown hg1 (by simp)).grown hg4w (by simp)).ne_row HP4.out (by decide))
              have hR7 := ((hR1.grown hg1 (by simp)).grown hg4w (by simp)).grown hG3 (((hR1.grown hg1 (by simp)).grown hg4w (by simp)).ne_row HP4.out (by decide))
              have hb7 := hb4.trans (below_grown hG3 hb4.size (fun g e => own_blk1 HP4.out g e))
              have HL := Lib.hid (show (l.take 0 ++ x :: l.drop 0).flatMap Node.list = (l.take 0).flatMap Node.list ++ (#[.string x.path, .int .i64 x.file, .int .i64 x.mode] : Array Value).toList ++ (l.drop 0).flatMap Node.list by simp [Node.list])
              have HLn := Lib.hid (show (l.take 0 ++ x :: l.drop 0).length = 0 + 1 by rw [List.length_append, List.length_cons, List.length_take, List.length_drop, Hli.out]; omega)
              have Ho7 := Lib.hid ho7
              clear ho7 ho6 hg6 hg7 hat6 hat7 hG0 hG1 hG2 u0 x0 x1 x2 q1 q1f
              go_wp2
              go_roundw
              case rel => exact ⟨0 + 1, by omega, by go_num, A7, c7, l.take 0 ++ x :: l.drop 0, hU7.set 0 _, by rw [HL.out]; exact own_blkset Ho7.out hU7 (by decide) _ _, HLn.out, by rw [take_snoc' Hx.out]; exact perm_ins 0 Hp.out, ws_ins Hw.out Hlk.out Hst.out, hB7.set_ne _ _ (by show w.heap.size ≠ ub; omega), hR7.set_ne _ _ (by show w.heap.size + 1 ≠ ub; omega), hb7.setCell (p := ⟨ub, 0, none⟩) (by show w.heap.size ≤ ub; omega) _⟩
              case measure => simp [intOf]; omega
            · injection hv with hA _ hC
              subst hA hC
              go_upto_region 10 with (fail)
              refine wp_region_ordB (none) [(0, true), (1, true), (2, true), (3, true), (4, true), (5, true), (6, true), (7, true), (8, true), (9, true), (10, true), (11, true), (12, true), (13, true), (14, true), (15, true)] (by kernel_rfl) (by kernel_rfl) fun hG0 => ?_
              repeat (first
                | (refine ord_skipB rfl (by rfl) ?_; simp only [Act.put, List.setIfInBounds_toArray, List.set_cons_zero, List.set_cons_succ])
                | (refine ord_qE rfl (by rfl) ?_; apply Exists.intro; refine ⟨fun w' hc' => ?_, ?_⟩; (focus (go_simp; (try go_bits); (try simp only [↓IntWalk.iteOmega]); with_reducible rfl)); simp only [Act.put, List.setIfInBounds_toArray, List.set_cons_zero, List.set_cons_succ]))
              refine ord_end ?_
              obtain ⟨V1, hV1⟩ : ∃ W, wr.drew = W := ⟨_, rfl⟩
              rw [hV1] at hG0 ⊢
              clear hV1 u0 x0
              have hg1 := grown_trans hgv hG0
              have hU2 := hU1.grown hg1 (by simp)
              have hX2 := hX.grown hg1 (by simp)
              have hb2 := hb1.trans (below_grown hg1 hb1.size (fun g e => by cases e))
              have HO2 := Lib.hid (own_keep HO1.out fun g o e => hg1.block g (own_lt2 (by rw [← e]; exact HO1.out)).2.1 (by simp))
              have u0 := hU2.cell 0
              have hs2 := hb2.size
              have hkd2 : (l.drop k).flatMap Node.list = [] := by rw [List.drop_of_length_le (by rw [Hli.out]; exact Nat.le_refl _)]; rfl
              have ho4 : V1.ownsRow w.heap.size 56 3 (.slice none 0 0) 0 ((l.drop k).flatMap Node.list) := by rw [hkd2]; exact World.ownsRow_nil _ _ _ _
              have hg4 : V1.grownBy V1 none := ⟨rfl, rfl, rfl, Nat.le_refl _, fun _ _ _ => rfl⟩
              have hat4 : ∀ g, blkOf (none : Option Addr) = some g → blkOf (none : Option Addr) = some g ∨ V1.heap.size ≤ g := fun g e => by cases e
              have Ho4 := Lib.hid ho4; have Hat4 := Lib.hid hat4
              clear hkd2 ho4 hat4
              have HPRE := Lib.hid (show V1.ownsRow w.heap.size 56 3 (.slice (some ⟨yb, 0, none⟩) k mc) k ((l.take k).flatMap Node.list) by rw [← flat_take Node.len]; exact own_prefix HO2.out hk)
              have hmk := (own_row HO2.out).2.2.2.1
              by_cases hmc : k < mc
              · have hkc : (k : Int) ≤ mc := by omega
                go_upto_region 13 with (fail)
                have ho4 := Ho4.out; have hat4 := Hat4.out
                have hg4w : V1.grownBy V1 none := hg4
                have hU4 := hU2.grown hg4w (by simp)
                have hX4 := hX2.grown hg4w (by simp)
                have hb4 := hb2.trans (below_grown hg4w hb2.size (fun g e => by cases e))
                have HP4 := Lib.hid (own_keep1 HPRE.out (below_grown hg4w (Nat.le_refl _) (fun g e => by cases e)) (Nat.le_refl _))
                have hneU : ¬ some ub = blkOf (some ⟨yb, 0, none⟩) := hU4.ne_row HP4.out (by decide)
                have hneX : ¬ some nb = blkOf (some ⟨yb, 0, none⟩) := fun e => by have := HMn.out nb e.symm; omega
                have hne4 : ∀ g, blkOf (none : Option Addr) = some g → some g ≠ blkOf (some ⟨yb, 0, none⟩) := fun g hg e => by
                  rcases hat4 g hg with h1 | h1
                  · cases h1
                  · cases hg
                have Hn4 := Lib.hid hne4
                have hs4 := hb4.size
                clear u0 hne4 hat4 hg4
                have u0 := hU4.cell 0
                have x0 := hX4.cell 0; have x1 := hX4.cell 1; have x2 := hX4.cell 2
                have hUl4 := hU4.lt; have hXl4 := hX4.lt
                have Hn7 := Lib.hid (show k + 1 + 0 = k + 1 by omega)
                have hki4 : (((k : Nat) : Int)) ≤ (k : Nat) := by omega
                refine wp_region_ordG (blkOf (some ⟨yb, 0, none⟩)) [(0, true), (1, true), (2, true), (3, true), (4, true), (7, true), (5, false), (6, false), (8, false), (9, true)] 10 (by kernel_rfl) (by kernel_rfl) fun hG0 => ?_
                repeat (first
                  | (refine ord_skipB rfl (by rfl) ?_; simp only [Act.put, List.setIfInBounds_toArray, List.set_cons_zero, List.set_cons_succ])
                  | (refine ord_qE rfl (by rfl) ?_; apply Exists.intro; refine ⟨fun w' hc' => ?_, ?_⟩; (focus (go_simp; (try go_bits); (try simp only [↓IntWalk.iteOmega]); with_reducible rfl)); simp only [Act.put, List.setIfInBounds_toArray, List.set_cons_zero, List.set_cons_succ]))
                refine ord_eB rfl fun K hK => ?_
                go_wp2_with (fail)
                have hG1 := grown_trans hG0 (World.grownBy_alloc V1.drew (.cells #[.string x.path, .int .i64 x.file, .int .i64 x.mode] 56) (blkOf (some ⟨yb, 0, none⟩)))
                refine hK.out _ _ hG1 ?_
                clear hK K
                repeat (first
                  | (refine ord_skipB rfl (by rfl) ?_; simp only [Act.put, List.setIfInBounds_toArray, List.set_cons_zero, List.set_cons_succ])
                  | (refine ord_qE rfl (by rfl) ?_; apply Exists.intro; refine ⟨fun w' hc' => ?_, ?_⟩; (focus (go_simp; (try go_bits); (try simp only [↓IntWalk.iteOmega]); with_reducible rfl)); simp only [Act.put, List.setIfInBounds_toArray, List.set_cons_zero, List.set_cons_succ]))
                refine ord_eB rfl fun K hK => ?_
                go_wp2_with (at_builtin; refine wpList_append_one (w := V1.drew) rfl _ _ _ rfl Tryz.nodeT rfl (own_drew HP4.out) #[.string x.path, .int .i64 x.file, .int .i64 x.mode] rfl (by simp) rfl (node_cells_one _ _ _) (by unfold maxLen; omega) (by omega) hs4 ?_; intro g6 c6 w6 ho6 hg6 hat6)
                have hG2 := grown_trans hG0 hg6
                refine hK.out _ _ hG2 ?_
                clear hK K
                repeat (first
                  | (refine ord_skipB rfl (by rfl) ?_; simp only [Act.put, List.setIfInBounds_toArray, List.set_cons_zero, List.set_cons_succ])
                  | (refine ord_qE rfl (by rfl) ?_; apply Exists.intro; refine ⟨fun w' hc' => ?_, ?_⟩; (focus (go_simp; (try go_bits); (try simp only [↓IntWalk.iteOmega]); with_reducible rfl)); simp only [Act.put, List.setIfInBounds_toArray, List.set_cons_zero, List.set_cons_succ]))
                have HR6 := Lib.hid (Sl.of_own (own_keep ho4 fun g o e => hg6.block g (own_lt2 (by rw [← e]; exact ho4)).2.1 (Hn4.out g (by rw [e]; rfl))))
                refine ord_eB rfl fun K hK => ?_
                go_wp2_with (at_builtin; refine wpList_append_sl rfl _ _ _ rfl Tryz.nodeT rfl ho6 rfl HR6.out (node_one _) (by unfold maxLen; omega) (by omega) (Nat.le_trans hs4 hG2.size) ?_; intro A7 c7 w7 ho7 hg7 hat7; (first | rw [Hn7.out] at ho7 ⊢ | skip))
                have hG3 := grown_own hG2 hg7 (fun g e => by injection e with e; subst e; exact hat6.imp id (fun h => Nat.le_of_lt h))
                refine hK.out _ _ hG3 ?_
                clear hK K
                repeat (first
                  | (refine ord_skipB rfl (by rfl) ?_; simp only [Act.put, List.setIfInBounds_toArray, List.set_cons_zero, List.set_cons_succ])
                  | (refine ord_qE rfl (by rfl) ?_; apply Exists.intro; refine ⟨fun w' hc' => ?_, ?_⟩; (focus (go_simp; (try go_bits); (try simp only [↓IntWalk.iteOmega]); with_reducible rfl)); simp only [Act.put, List.setIfInBounds_toArray, List.set_cons_zero, List.set_cons_succ]))
                have hU7 := hU4.grown hG3 hneU
                have q1 := hU7.cell 0
                have q1f := hU7.frozen 0
                refine ord_tail rfl fun K hK => ?_
                go_wp2_with (fail)
                refine hK.out _ _ ?_
                clear hK K
                have hB7 := ((hB1.grown hg1 (by simp)).grown hg4w (by simp)).grown hG3 (((hB1.grown hg1 (by simp)).grown hg4w (by simp)).ne_row HP4.out (by decide))
                have hR7 := ((hR1.grown hg1 (by simp)).grown hg4w (by simp)).grown hG3 (((hR1.grown hg1 (by simp)).grown hg4w (by simp)).ne_row HP4.out (by decide))
                have hb7 := hb4.trans (below_grown hG3 hb4.size (fun g e => own_blk1 HP4.out g e))
                have HL := Lib.hid (show (l.take k ++ x :: l.drop k).flatMap Node.list = (l.take k).flatMap Node.list ++ (#[.string x.path, .int .i64 x.file, .int .i64 x.mode] : Array Value).toList ++ (l.drop k).flatMap Node.list by simp [Node.list])
                have HLn := Lib.hid (show (l.take k ++ x :: l.drop k).length = k + 1 by rw [List.length_append, List.length_cons, List.length_take, List.length_drop, Hli.out]; omega)
                have Ho7 := Lib.hid ho7
                clear ho7 ho6 hg6 hg7 hat6 hat7 hG0 hG1 hG2 u0 x0 x1 x2 q1 q1f
                go_wp2
                go_roundw
                case rel => exact ⟨k + 1, by omega, by go_num, A7, c7, l.take k ++ x :: l.drop k, hU7.set 0 _, by rw [HL.out]; exact own_blkset Ho7.out hU7 (by decide) _ _, HLn.out, by rw [take_snoc' Hx.out]; exact perm_ins k Hp.out, ws_ins Hw.out Hlk.out Hst.out, hB7.set_ne _ _ (by show w.heap.size ≠ ub; omega), hR7.set_ne _ _ (by show w.heap.size + 1 ≠ ub; omega), hb7.setCell (p := ⟨ub, 0, none⟩) (by show w.heap.size ≤ ub; omega) _⟩
                case measure => simp [intOf]; omega
              · obtain rfl : k = mc := by omega
                go_upto_region 13 with (fail)
                have ho4 := Ho4.out; have hat4 := Hat4.out
                have hg4w : V1.grownBy V1 none := hg4
                have hU4 := hU2.grown hg4w (by simp)
                have hX4 := hX2.grown hg4w (by simp)
                have hb4 := hb2.trans (below_grown hg4w hb2.size (fun g e => by cases e))
                have HP4 := Lib.hid (own_keep1 HPRE.out (below_grown hg4w (Nat.le_refl _) (fun g e => by cases e)) (Nat.le_refl _))
                have hneU : ¬ some ub = blkOf (some ⟨yb, 0, none⟩) := hU4.ne_row HP4.out (by decide)
                have hneX : ¬ some nb = blkOf (some ⟨yb, 0, none⟩) := fun e => by have := HMn.out nb e.symm; omega
                have hne4 : ∀ g, blkOf (none : Option Addr) = some g → some g ≠ blkOf (some ⟨yb, 0, none⟩) := fun g hg e => by
                  rcases hat4 g hg with h1 | h1
                  · cases h1
                  · cases hg
                have Hn4 := Lib.hid hne4
                have hs4 := hb4.size
                clear u0 hne4 hat4 hg4
                have u0 := hU4.cell 0
                have x0 := hX4.cell 0; have x1 := hX4.cell 1; have x2 := hX4.cell 2
                have hUl4 := hU4.lt; have hXl4 := hX4.lt
                have Hn7 := Lib.hid (show k + 1 + 0 = k + 1 by omega)
                have hki4 : (((k : Nat) : Int)) ≤ (k : Nat) := by omega
                refine wp_region_ordG (blkOf (some ⟨yb, 0, none⟩)) [(0, true), (1, true), (2, true), (3, true), (4, true), (7, true), (5, false), (6, false), (8, false), (9, true)] 10 (by kernel_rfl) (by kernel_rfl) fun hG0 => ?_
                repeat (first
                  | (refine ord_skipB rfl (by rfl) ?_; simp only [Act.put, List.setIfInBounds_toArray, List.set_cons_zero, List.set_cons_succ])
                  | (refine ord_qE rfl (by rfl) ?_; apply Exists.intro; refine ⟨fun w' hc' => ?_, ?_⟩; (focus (go_simp; (try go_bits); (try simp only [↓IntWalk.iteOmega]); with_reducible rfl)); simp only [Act.put, List.setIfInBounds_toArray, List.set_cons_zero, List.set_cons_succ]))
                refine ord_eB rfl fun K hK => ?_
                go_wp2_with (fail)
                have hG1 := grown_trans hG0 (World.grownBy_alloc V1.drew (.cells #[.string x.path, .int .i64 x.file, .int .i64 x.mode] 56) (blkOf (some ⟨yb, 0, none⟩)))
                refine hK.out _ _ hG1 ?_
                clear hK K
                repeat (first
                  | (refine ord_skipB rfl (by rfl) ?_; simp only [Act.put, List.setIfInBounds_toArray, List.set_cons_zero, List.set_cons_succ])
                  | (refine ord_qE rfl (by rfl) ?_; apply Exists.intro; refine ⟨fun w' hc' => ?_, ?_⟩; (focus (go_simp; (try go_bits); (try simp only [↓IntWalk.iteOmega]); with_reducible rfl)); simp only [Act.put, List.setIfInBounds_toArray, List.set_cons_zero, List.set_cons_succ]))
                refine ord_eB rfl fun K hK => ?_
                go_wp2_with (at_builtin; refine wpList_append_one (w := V1.drew) rfl _ _ _ rfl Tryz.nodeT rfl (own_drew HP4.out) #[.string x.path, .int .i64 x.file, .int .i64 x.mode] rfl (by simp) rfl (node_cells_one _ _ _) (by unfold maxLen; omega) (by omega) hs4 ?_; intro g6 c6 w6 ho6 hg6 hat6)
                have hG2 := grown_trans hG0 hg6
                refine hK.out _ _ hG2 ?_
                clear hK K
                repeat (first
                  | (refine ord_skipB rfl (by rfl) ?_; simp only [Act.put, List.setIfInBounds_toArray, List.set_cons_zero, List.set_cons_succ])
                  | (refine ord_qE rfl (by rfl) ?_; apply Exists.intro; refine ⟨fun w' hc' => ?_, ?_⟩; (focus (go_simp; (try go_bits); (try simp only [↓IntWalk.iteOmega]); with_reducible rfl)); simp only [Act.put, List.setIfInBounds_toArray, List.set_cons_zero, List.set_cons_succ]))
                have HR6 := Lib.hid (Sl.of_own (own_keep ho4 fun g o e => hg6.block g (own_lt2 (by rw [← e]; exact ho4)).2.1 (Hn4.out g (by rw [e]; rfl))))
                refine ord_eB rfl fun K hK => ?_
                go_wp2_with (at_builtin; refine wpList_append_sl rfl _ _ _ rfl Tryz.nodeT rfl ho6 rfl HR6.out (node_one _) (by unfold maxLen; omega) (by omega) (Nat.le_trans hs4 hG2.size) ?_; intro A7 c7 w7 ho7 hg7 hat7; (first | rw [Hn7.out] at ho7 ⊢ | skip))
                have hG3 := grown_own hG2 hg7 (fun g e => by injection e with e; subst e; exact hat6.imp id (fun h => Nat.le_of_lt h))
                refine hK.out _ _ hG3 ?_
                clear hK K
                repeat (first
                  | (refine ord_skipB rfl (by rfl) ?_; simp only [Act.put, List.setIfInBounds_toArray, List.set_cons_zero, List.set_cons_succ])
                  | (refine ord_qE rfl (by rfl) ?_; apply Exists.intro; refine ⟨fun w' hc' => ?_, ?_⟩; (focus (go_simp; (try go_bits); (try simp only [↓IntWalk.iteOmega]); with_reducible rfl)); simp only [Act.put, List.setIfInBounds_toArray, List.set_cons_zero, List.set_cons_succ]))
                have hU7 := hU4.grown hG3 hneU
                have q1 := hU7.cell 0
                have q1f := hU7.frozen 0
                refine ord_tail rfl fun K hK => ?_
                go_wp2_with (fail)
                refine hK.out _ _ ?_
                clear hK K
                have hB7 := ((hB1.grown hg1 (by simp)).grown hg4w (by simp)).grown hG3 (((hB1.grown hg1 (by simp)).grown hg4w (by simp)).ne_row HP4.out (by decide))
                have hR7 := ((hR1.grown hg1 (by simp)).grown hg4w (by simp)).grown hG3 (((hR1.grown hg1 (by simp)).grown hg4w (by simp)).ne_row HP4.out (by decide))
                have hb7 := hb4.trans (below_grown hG3 hb4.size (fun g e => own_blk1 HP4.out g e))
                have HL := Lib.hid (show (l.take k ++ x :: l.drop k).flatMap Node.list = (l.take k).flatMap Node.list ++ (#[.string x.path, .int .i64 x.file, .int .i64 x.mode] : Array Value).toList ++ (l.drop k).flatMap Node.list by simp [Node.list])
                have HLn := Lib.hid (show (l.take k ++ x :: l.drop k).length = k + 1 by rw [List.length_append, List.length_cons, List.length_take, List.length_drop, Hli.out]; omega)
                have Ho7 := Lib.hid ho7
                clear ho7 ho6 hg6 hg7 hat6 hat7 hG0 hG1 hG2 u0 x0 x1 x2 q1 q1f
                go_wp2
                go_roundw
                case rel => exact ⟨k + 1, by omega, by go_num, A7, c7, l.take k ++ x :: l.drop k, hU7.set 0 _, by rw [HL.out]; exact own_blkset Ho7.out hU7 (by decide) _ _, HLn.out, by rw [take_snoc' Hx.out]; exact perm_ins k Hp.out, ws_ins Hw.out Hlk.out Hst.out, hB7.set_ne _ _ (by show w.heap.size ≠ ub; omega), hR7.set_ne _ _ (by show w.heap.size + 1 ≠ ub; omega), hb7.setCell (p := ⟨ub, 0, none⟩) (by show w.heap.size ≤ ub; omega) _⟩
                case measure => simp [intOf]; omega
      · obtain rfl : i = nn := by omega
        have hki : ¬ (i : Int) < i := by omega
        have hpS : l.Perm nodes := by have := Hp.out; rwa [List.take_of_length_le (by rw [Hn.out]; exact Nat.le_refl _)] at this
        have HpS := Lib.hid hpS; clear hpS
        have b1 := hB.cell 1
        have hws := hb.size
        have hws' := hws
        go_upto_region 15 with (refine wpList_make_own (base := wr.heap.size) rfl _ _ rfl Tryz.toT rfl rfl (by omega) (by unfold maxLen; omega) (Nat.le_refl _) ?_; intro gt w2 L2 ho2 hg2)
        have hU2 := hU.grown hg2 (by simp)
        have hB2 := hB.grown hg2 (by simp)
        have hR2 := hR.grown hg2 (by simp)
        have hb2 := hb.trans (below_grown hg2 hb.size (fun g e => by cases e))
        have HO2 := Lib.hid (own_keep HO.out fun g o e => hg2.block g (own_lt2 (by rw [← e]; exact HO.out)).2.1 (by simp))
        have hgt : wr.heap.size ≤ gt := (own_row ho2).2.1
        have hUl := hU.lt; have hBl := hB.lt; have hRl := hR.lt
        have h0 : ToAt w w2 #[.slice NA i nc, .slice FA fn fc] ub gt i fn l 0 := ⟨MA, mc, L2, hU2, HO2.out, own_low ho2 hws, fun j hj => absurd hj (Nat.not_lt_zero _), hB2, hR2, hb2⟩
        have H0 := Lib.hid h0
        clear h0 hU2 hB2 hR2 hb2 HO2 ho2 hg2 hU hB hR hb b0 b1 HO
        go_wp2
        go_loopw [11] (fun v wr => ∃ j : Nat, j ≤ fn ∧ v = .int .i64 j ∧ ToAt w wr #[.slice NA i nc, .slice FA fn fc] ub gt i fn l j) (fun v _ => fn - (intOf v).toNat)
        case atStart => exact ⟨0, Nat.zero_le _, rfl, H0.out⟩
        case round =>
          clear H0
          obtain ⟨j, hj, rfl, MA, mc, L2, hU, hO, hT, hL, hB, hR, hb⟩ := hrel
          have HO := Lib.hid hO; have HTo := Lib.hid hT; have HL := Lib.hid hL
          clear hO hT hL
          by_cases hlt2 : j < fn
          · have hkj : (j : Int) < fn := by omega
            obtain ⟨cur, hTc⟩ := own_cur HTo.out
            obtain ⟨q, hq⟩ : ∃ q, L2[j]? = some q := ⟨_, List.getElem?_eq_getElem (by have := HTo.out.1; omega)⟩
            have c0 := (own_row HTo.out).1 j q hq
            simp only [Nat.zero_add] at c0
            have f0 := hTc.frozen j
            go_wp2
            go_roundw
            case rel =>
              refine ⟨j + 1, by omega, by go_num, MA, mc, L2.set j (.int .i64 (-1)), hU.set_ne _ _ (by show ub ≠ gt; omega), own_blkset HO.out hTc (by decide) _ _, setc_own HTo.out _, fun k hk => ?_, hB.set_ne _ _ (by show w.heap.size ≠ gt; omega), hR.set_ne _ _ (by show w.heap.size + 1 ≠ gt; omega), hb.setCell (p := ⟨gt, j, none⟩) (by show w.heap.size ≤ gt; omega) _⟩
              rw [List.getElem?_set]
              by_cases e : j = k
              · rw [if_pos e, if_pos (by have := HTo.out.1; omega)]
              · rw [if_neg e]; exact HL.out k (by omega)
            case measure => simp [intOf]; omega
          · obtain rfl : j = fn := by omega
            have hkj : ¬ (j : Int) < j := by omega
            have hLt := toL_new (by have := HTo.out.1; omega) HL.out
            subst hLt
            obtain ⟨F, hF⟩ : ∃ F, treeF ⟨nodes, files, NA, i, nc, FA, j, fc⟩ ds = F := ⟨_, rfl⟩
            have HF := Lib.hid hF
            have hLn : (idsL l).length ≤ i := by have := idsL_le l; have := Hli.out; omega
            have h0 : RenAt w wr #[.slice NA i nc, .slice FA j fc] ub gt i j l F 0 := ⟨MA, none, mc, 0, 0, [], hU, HO.out, World.ownsRow_nil _ _ _ _, rfl, rfl, rfl, FRows.nil _ _ _, HTo.out, by simp, hB, hR, hb⟩
            have H0 := Lib.hid h0
            clear h0 hU hB hR hb HO HTo HL hF
            go_wp2
            go_loopw [12] (fun v wr => ∃ k : Nat, k ≤ i ∧ v = .int .i64 k ∧ RenAt w wr #[.slice NA i nc, .slice FA j fc] ub gt i j l F k) (fun v _ => i - (intOf v).toNat)
            case atStart => exact ⟨0, Nat.zero_le _, rfl, H0.out⟩
            case round =>
              clear H0
              obtain ⟨k, hk, rfl, NB, FB, nd, fd, fl, fs, hU, hoN, hoF, hfsl, hflI, hfm, hFR, hoT, hgd, hB, hR, hb⟩ := hrel
              have HoN := Lib.hid hoN; have HoF := Lib.hid hoF; have HoT := Lib.hid hoT; have HFR := Lib.hid hFR; have Hfsl := Lib.hid hfsl; have HflI := Lib.hid hflI; have Hfm := Lib.hid hfm; have Hgd := Lib.hid hgd
              clear hoN hoF hoT hFR hfsl hflI hfm hgd
              have b1 := hB.cell 1
              have u0 := hU.cell 0
              have hws := hb.size
              have hIle : (idsL (l.take k)).length ≤ (idsL l).length := by
                obtain ⟨r, hr⟩ := idsL_pre (l.take k) (l.drop k)
                rw [List.take_append_drop] at hr
                rw [hr]; simp
              have hfl6 : fl ≤ i := by rw [HflI.out]; omega
              have hDS : fs.length ≤ ((idsL l).map fun i => (F i).2).length := by rw [List.length_map, Hfsl.out, HflI.out]; exact hIle
              have HDS := Lib.hid hDS; clear hDS
              by_cases hlt3 : k < i
              · have hkk : (k : Int) < i := by omega
                obtain ⟨g, rfl⟩ := own_some HoN.out (by omega)
                obtain ⟨x, hx⟩ : ∃ x, l[k]? = some x := ⟨_, List.getElem?_eq_getElem (by rw [Hli.out]; exact hlt3)⟩
                have c1 := (own_row HoN.out).1 (k * 3 + 1) _ (flat_get Node.len (mix_get hx) (j := 1) (by omega))
                simp only [Nat.zero_add] at c1
                have hid1 := idsL_snoc (l.take k) x
                rw [← take_snoc' hx] at hid1
                have Hx := Lib.hid hx; have Hid1 := Lib.hid hid1
                have hglt := (own_row HoN.out).2.2.1
                clear hx hid1
                by_cases hdir : x.file = -1
                · rw [hdir] at c1
                  have hids : idsL (l.take (k + 1)) = idsL (l.take k) := by rw [Hid1.out, idStep, if_pos (.inl (by omega))]
                  have hre : reN (idsL (l.take (k + 1))) x = x := by rw [reN, if_pos (by omega)]
                  have Hids := Lib.hid hids; have Hre := Lib.hid hre
                  have hbf : badFile j x = false := by simp [badFile, hdir]; omega
                  have Hbf := Lib.hid hbf
                  clear hids hre hbf hdir
                  go_wp2
                  go_roundw
                  case rel =>
                    refine ⟨k + 1, by omega, by go_num, some ⟨g, 0, none⟩, FB, nd, fd, fl, fs, hU, by rw [← mix_same Hx.out Hre.out]; exact HoN.out, HoF.out, Hfsl.out, by rw [Hids.out]; exact HflI.out, by rw [Hids.out]; exact Hfm.out, HFR.out, by rw [Hids.out]; exact HoT.out, fun y hy => ?_, hB, hR, hb⟩
                    rw [take_snoc' Hx.out] at hy
                    rcases List.mem_append.1 hy with hy | hy
                    · exact Hgd.out y hy
                    · rw [List.mem_singleton.1 hy]; exact Hbf.out
                  case measure => simp [intOf]; omega
                · by_cases hbad : badFile j x = true
                  · have hres : Below w.heap.size w wr := hb
                    have hxm : x ∈ nodes := HpS.out.mem_iff.1 (List.mem_of_getElem? Hx.out)
                    have Hbad := Lib.hid hbad; have Hxm := Lib.hid hxm
                    simp only [badFile, Bool.or_eq_true, decide_eq_true_eq] at hbad
                    clear hxm
                    by_cases h1 : x.file < 0
                    · go_wp2_with (refine wpList_store_blk rfl 25 (.tmp 2) (.tmp 101) rfl hR #[.slice none 0 0, .slice none 0 0] rfl rfl (by kernel_rfl) rfl (by simp [Value.oneCell']) ?_; intro w7 hB7 hg7 hs7)
                      exact ret_cell_t rfl rfl (load_blk hB7 Tryz.underlying25 rfl (by kernel_rfl)) rfl ⟨hres.trans (below_grown hg7 hres.size (fun g e => by injection e with e; omega)), ⟨[], [], none, 0, 0, none, 0, 0⟩, 30, rfl, .inr (.inl ⟨rfl, Hbb.out, rfl, .inl ⟨x, Hxm.out, Hbad.out⟩⟩)⟩
                    · have h2 : (j : Int) ≤ x.file := by omega
                      go_wp2_with (refine wpList_store_blk rfl 25 (.tmp 2) (.tmp 101) rfl hR #[.slice none 0 0, .slice none 0 0] rfl rfl (by kernel_rfl) rfl (by simp [Value.oneCell']) ?_; intro w7 hB7 hg7 hs7)
                      exact ret_cell_t rfl rfl (load_blk hB7 Tryz.underlying25 rfl (by kernel_rfl)) rfl ⟨hres.trans (below_grown hg7 hres.size (fun g e => by injection e with e; omega)), ⟨[], [], none, 0, 0, none, 0, 0⟩, 30, rfl, .inr (.inl ⟨rfl, Hbb.out, rfl, .inl ⟨x, Hxm.out, Hbad.out⟩⟩)⟩
                  · have hbf : badFile j x = false := by simpa using hbad
                    have Hbf := Lib.hid hbf
                    simp only [badFile, Bool.or_eq_false_iff, decide_eq_false_iff_not] at hbf
                    obtain ⟨f, hf⟩ := Int.eq_ofNat_of_zero_le (show 0 ≤ x.file by omega)
                    have hfj : f < j := by omega
                    have hfi : (f : Int) < j := by omega
                    have hf0 : ¬ (f : Int) < 0 := by omega
                    have hfm1 : ¬ (f : Int) = -1 := by omega
                    rw [hf] at c1
                    have d0 := (own_row HoT.out).1 f _ (toL_get hfj)
                    simp only [Nat.zero_add] at d0
                    have Hf := Lib.hid hf
                    clear hf hdir hbad hbf
                    have Hgd2 := Lib.hid (show ∀ y ∈ l.take (k + 1), badFile j y = false from fun y hy => by
                      rw [take_snoc' Hx.out] at hy
                      rcases List.mem_append.1 hy with hy | hy
                      · exact Hgd.out y hy
                      · rw [List.mem_singleton.1 hy]; exact Hbf.out)
                    by_cases hin : (f : Int) ∈ idsL (l.take k)
                    · obtain ⟨ix, hix⟩ : ∃ ix, (idsL (l.take k)).idxOf (f : Int) = ix := ⟨_, rfl⟩
                      have hixl : ix ≤ 256 := by have := List.idxOf_le_length (a := (f : Int)) (l := idsL (l.take k)); omega
                      have hids : idsL (l.take (k + 1)) = idsL (l.take k) := by rw [Hid1.out, idStep, if_pos (.inr (by rw [Hf.out]; exact hin))]
                      have hre : reN (idsL (l.take (k + 1))) x = ⟨x.path, (ix : Int), x.mode, x.hp⟩ := by rw [reN, if_neg (by rw [Hf.out]; omega), hids, Hf.out, hix]
                      have htv : toF (idsL (l.take k)) f = .int .i64 (ix : Nat) := by unfold toF; rw [if_pos hin, hix]
                      rw [htv] at d0
                      have Hids := Lib.hid hids; have Hre := Lib.hid hre
                      clear hids hre htv hix hin
                      have kU := hU; have kB := hB; have kR := hR; have kb := hb
                      have KN := HoN; have KF := HoF; have KR := HFR
                      have KT := Lib.hid (show wr.ownsRow w.heap.size 3 1 (.slice (some ⟨gt, 0, none⟩) j j) j (toL (idsL (l.take (k + 1))) j) by rw [Hids.out]; exact HoT.out)
                      have Kfl := Hfsl
                      have KflI := Lib.hid (show fl = (idsL (l.take (k + 1))).length by rw [Hids.out]; exact HflI.out)
                      have Kfm := Lib.hid (show fs.map (·.mode) = (idsL (l.take (k + 1))).map (fun i => (F i).1) by rw [Hids.out]; exact Hfm.out)
                      have KDS := HDS
                      clear HoN HoF HoT HFR Hfsl HflI Hfm hU hB hR hb HDS
                      go_upto_region 29 with (fail)
                      clear b1
                      obtain ⟨curN, hNc⟩ := own_cur KN.out
                      obtain ⟨q9, hq9⟩ : ∃ q, wr.cell? ⟨g, k * 3 + 1, none⟩ = some q := ⟨_, by have := (own_row KN.out).1 (k * 3 + 1) _ (flat_get Node.len (mix_get Hx.out) (j := 1) (by omega)); rwa [Nat.zero_add] at this⟩
                      have e0 := (own_row KT.out).1 f _ (toL_get hfj)
                      have e1 : toF (idsL (l.take (k + 1))) f = .int .i64 (ix : Nat) := by
                        have h1 := (reN_file' (x := x) (ids := idsL (l.take (k + 1))) (by rw [Hf.out]; omega))
                        rw [Hre.out, Hf.out] at h1
                        have h2 : (f : Int) ∈ idsL (l.take (k + 1)) := (idsL_mem _ _).2 ⟨by omega, x, by rw [take_snoc' Hx.out]; simp, Hf.out⟩
                        unfold toF
                        rw [if_pos h2, ← h1]
                      rw [e1, Nat.zero_add] at e0
                      have f9 := hNc.frozen (k * 3 + 1)
                      have u0 := kU.cell 0
                      have hglt := hNc.lt; have hgtl := (own_row KT.out).2.2.1; have hubl := kU.lt
                      clear e1
                      refine wp_region_ordG (none) [(0, true), (1, true), (2, true), (3, true), (4, true), (5, true), (6, true), (7, true), (8, true)] 9 (by kernel_rfl) (by kernel_rfl) fun hG0 => ?_
                      repeat (first
                        | (refine ord_skipB rfl (by rfl) ?_; simp only [Act.put, List.setIfInBounds_toArray, List.set_cons_zero, List.set_cons_succ])
                        | (refine ord_qE rfl (by rfl) ?_; apply Exists.intro; refine ⟨fun w' hc' => ?_, ?_⟩; (focus (go_simp; (try go_bits); (try simp only [↓IntWalk.iteOmega]); with_reducible rfl)); simp only [Act.put, List.setIfInBounds_toArray, List.set_cons_zero, List.set_cons_succ]))
                      refine ord_tail rfl fun K hK => ?_
                      go_wp2_with (fail)
                      refine hK.out _ _ ?_
                      clear hK K
                      have HNm := Lib.hid (show ((mixN l k).flatMap Node.list).set (k * 3 + 1) (.int .i64 (ix : Nat)) = (mixN l (k + 1)).flatMap Node.list by
                        rw [flat_setj Node.len (mix_get Hx.out) (by omega) (x' := reN (idsL (l.take (k + 1))) x) (by rw [Hre.out]; rfl), mix_set Hx.out])
                      have hne1 : ub ≠ g := fun e => by subst e; exact kU.ne_row KN.out (by decide) rfl
                      have hne2 : w.heap.size ≠ g := fun e => by subst e; exact kB.ne_row KN.out (by decide) rfl
                      have hne3 : w.heap.size + 1 ≠ g := fun e => by subst e; exact kR.ne_row KN.out (by decide) rfl
                      have hgb := (own_row KN.out).2.1
                      clear q9 hq9 e0 f9 u0
                      go_wp2
                      go_roundw
                      case rel => exact ⟨k + 1, by omega, by go_num, some ⟨g, 0, none⟩, FB, nd, fd, fl, fs, kU.set_ne _ _ (by show ub ≠ g; exact hne1), by rw [← HNm.out]; exact setc_own (own_drew KN.out) _, own_blkset (own_drew KF.out) hNc (by decide) _ _, Kfl.out, KflI.out, Kfm.out, (KR.out.blkset KDS.out hNc (by decide) _ _).drew', own_blkset (own_drew KT.out) hNc (by decide) _ _, Hgd2.out, kB.set_ne _ _ (by show w.heap.size ≠ g; exact hne2), kR.set_ne _ _ (by show w.heap.size + 1 ≠ g; exact hne3), kb.drew.setCell (p := ⟨g, k * 3 + 1, none⟩) hgb _⟩
                      case measure => simp [intOf]; omega
                    · have hids : idsL (l.take (k + 1)) = idsL (l.take k) ++ [(f : Int)] := by rw [Hid1.out, idStep, if_neg (fun h => h.elim (by rw [Hf.out]; omega) (by rw [Hf.out]; exact hin)), Hf.out]
                      have hre : reN (idsL (l.take (k + 1))) x = ⟨x.path, (fl : Int), x.mode, x.hp⟩ := by
                        rw [reN, if_neg (by rw [Hf.out]; omega), hids, Hf.out]
                        congr 2
                        rw [List.idxOf_append, if_neg hin, HflI.out]
                        simp
                      have htv : toF (idsL (l.take k)) f = .int .i64 (-1) := by unfold toF; rw [if_neg hin]
                      rw [htv] at d0
                      have hts := toL_set hin hfj
                      rw [← hids, ← HflI.out] at hts
                      obtain ⟨curT, hTc⟩ := own_cur HoT.out
                      have f1 := hTc.frozen f
                      have u1 := hU.cell 1
                      have Hids := Lib.hid hids; have Hre := Lib.hid hre; have Hts := Lib.hid hts
                      clear hids hre htv hin hts
                      go_upto_region 28 with (fail)
                      have HT1 := Lib.hid (show (wr.setCell ⟨gt, f, none⟩ (.int .i64 (fl : Nat))).ownsRow w.heap.size 3 1 (.slice (some ⟨gt, 0, none⟩) j j) j (toL (idsL (l.take (k + 1))) j) by rw [← Hts.out]; exact setc_own HoT.out _)
                      have hU1 := hU.set_ne ⟨gt, f, none⟩ (.int .i64 (fl : Nat)) (by show ub ≠ gt; omega)
                      have hB1 := hB.set_ne ⟨gt, f, none⟩ (.int .i64 (fl : Nat)) (by show w.heap.size ≠ gt; omega)
                      have hR1 := hR.set_ne ⟨gt, f, none⟩ (.int .i64 (fl : Nat)) (by show w.heap.size + 1 ≠ gt; omega)
                      have hb1 := hb.setCell (p := ⟨gt, f, none⟩) (by show w.heap.size ≤ gt; omega) (.int .i64 (fl : Nat))
                      have HN1 := Lib.hid (own_blkset HoN.out hTc (by decide) f (.int .i64 (fl : Nat)))
                      have HF1 := Lib.hid (own_blkset HoF.out hTc (by decide) f (.int .i64 (fl : Nat)))
                      have HR1 := Lib.hid (HFR.out.blkset HDS.out hTc (by decide) f (.int .i64 (fl : Nat)))
                      obtain ⟨V, hV⟩ : ∃ V, wr.setCell ⟨gt, f, none⟩ (.int .i64 (fl : Nat)) = V := ⟨_, rfl⟩
                      rw [hV] at HT1 hU1 hB1 hR1 hb1 HN1 HF1 HR1 ⊢
                      clear hV HoN HoF HoT HFR hU hB hR hb b1 u0 u1 c1 d0 f1 hTc hws hglt
                      obtain ⟨y, hy⟩ : ∃ y, files[f]? = some y := ⟨_, List.getElem?_eq_getElem (by rw [Hfl.out]; exact hfj)⟩
                      obtain ⟨fb, fo, y', hFA, hfb, hy', hc⟩ := (HFS.out.below hb1 (Nat.le_refl _)).get FC.len Hfl.out hfj
                      obtain rfl : y = y' := by rw [hy] at hy'; exact Option.some.inj hy'
                      obtain ⟨d, hdx, hdn, hds⟩ := HD.out.get hy
                      have c0 := hc 0 _ rfl
                      have c1 := hc 1 _ rfl
                      simp only [Nat.add_zero] at c0 c1
                      subst hFA
                      have hyn : y.n ≤ 8192 := HSM.out y (List.mem_of_getElem? hy)
                      have hFy : F (f : Int) = (y.mode, d) := by
                        rw [← HF.out]
                        simp only [treeF, Int.toNat_natCast, hy, hdx, Option.map_some, Option.getD_some]
                      have HFy := Lib.hid hFy; have HDN := Lib.hid hdn
                      rw [bytesC_i8] at hds
                      have HDSs := Lib.hid hds
                      clear hc hdx hdn hds hFy hy'
                      have u0 := hU1.cell 0
                      have u1 := hU1.cell 1
                      have b1 := hB1.cell 1
                      have hws1 := hb1.size
                      have hUl1 := hU1.lt; have hBl1 := hB1.lt; have hRl1 := hR1.lt
                      have hxw : fb < V.heap.size := Nat.lt_of_lt_of_le hfb hws1
                      have hneU : ¬ some ub = blkOf FB := hU1.ne_row HF1.out (by decide)
                      have hneB : ¬ some w.heap.size = blkOf FB := hB1.ne_row HF1.out (by decide)
                      have hneR : ¬ some (w.heap.size + 1) = blkOf FB := hR1.ne_row HF1.out (by decide)
                      have hneX : ¬ some fb = blkOf FB := fun e => by have := own_blk1 HF1.out fb e.symm; omega
                      refine wp_region_ordG (blkOf FB) [(0, true), (1, true), (2, true), (3, true), (4, true), (5, true), (6, true), (7, true), (8, true), (9, true), (10, true), (11, true), (12, true), (13, true), (14, false), (15, true), (16, false), (17, false), (18, true)] 19 (by kernel_rfl) (by kernel_rfl) fun hG0 => ?_
                      repeat (first
                        | (refine ord_skipB rfl (by rfl) ?_; simp only [Act.put, List.setIfInBounds_toArray, List.set_cons_zero, List.set_cons_succ])
                        | (refine ord_qE rfl (by rfl) ?_; apply Exists.intro; refine ⟨fun w' hc' => ?_, ?_⟩; (focus (go_simp; (try go_bits); (try simp only [↓IntWalk.iteOmega]); with_reducible rfl)); simp only [Act.put, List.setIfInBounds_toArray, List.set_cons_zero, List.set_cons_succ]))
                      refine ord_eB rfl fun K hK => ?_
                      go_wp2_with (at_builtin; (refine wpList_append_sl rfl _ _ _ rfl Tryz.u8T rfl (World.ownsRow_nil V.drew w.heap.size _ _) rfl (HDSs.out.below hb1.drew (Nat.le_refl _)) (i8C_one _) (by unfold maxLen; omega) (by omega) hws1 ?_); intro A4 c4 w4 ho4 hg4 hat4)
                      have hG1 := grown_trans hG0 (grown_any hg4)
                      refine hK.out _ _ hG1 ?_
                      clear hK K
                      repeat (first
                        | (refine ord_skipB rfl (by rfl) ?_; simp only [Act.put, List.setIfInBounds_toArray, List.set_cons_zero, List.set_cons_succ])
                        | (refine ord_qE rfl (by rfl) ?_; apply Exists.intro; refine ⟨fun w' hc' => ?_, ?_⟩; (focus (go_simp; (try go_bits); (try simp only [↓IntWalk.iteOmega]); with_reducible rfl)); simp only [Act.put, List.setIfInBounds_toArray, List.set_cons_zero, List.set_cons_succ]))
                      simp only [Nat.zero_add, List.nil_append] at ho4 ⊢
                      have hg4w : V.grownBy w4 none := ⟨hg4.os, hg4.tape, hg4.output, hg4.size, hg4.block⟩
                      have HF4 := Lib.hid (own_keep1 HF1.out (below_grown hg4w (Nat.le_refl _) (fun g e => by cases e)) (Nat.le_refl _))
                      repeat (first
                        | (refine ord_skipB rfl (by rfl) ?_; simp only [Act.put, List.setIfInBounds_toArray, List.set_cons_zero, List.set_cons_succ])
                        | (refine ord_qE rfl (by rfl) ?_; apply Exists.intro; refine ⟨fun w' hc' => ?_, ?_⟩; (focus (go_simp; (try go_bits); (try simp only [↓IntWalk.iteOmega]); with_reducible rfl)); simp only [Act.put, List.setIfInBounds_toArray, List.set_cons_zero, List.set_cons_succ]))
                      refine ord_eB rfl fun K hK => ?_
                      go_wp2_with (fail)
                      have hG2 := grown_trans hG1 (World.grownBy_alloc w4 (.cells #[.int .i64 y.mode, .slice A4 y.n c4] 59) (blkOf FB))
                      refine hK.out _ _ hG2 ?_
                      clear hK K
                      repeat (first
                        | (refine ord_skipB rfl (by rfl) ?_; simp only [Act.put, List.setIfInBounds_toArray, List.set_cons_zero, List.set_cons_succ])
                        | (refine ord_qE rfl (by rfl) ?_; apply Exists.intro; refine ⟨fun w' hc' => ?_, ?_⟩; (focus (go_simp; (try go_bits); (try simp only [↓IntWalk.iteOmega]); with_reducible rfl)); simp only [Act.put, List.setIfInBounds_toArray, List.set_cons_zero, List.set_cons_succ]))
                      refine ord_eB rfl fun K hK => ?_
                      go_wp2_with (at_builtin; refine wpList_append_one rfl _ _ _ rfl Tryz.fileT rfl HF4.out #[.int .i64 y.mode, .slice A4 y.n c4] rfl (by simp) rfl (file_one _ _ _ _) (by unfold maxLen; omega) (by omega) (Nat.le_trans hws1 hG1.size) ?_; intro g6 c6 w6 ho6 hg6 hat6)
                      have hG3 := grown_trans hG1 hg6
                      refine hK.out _ _ hG3 ?_
                      clear hK K
                      repeat (first
                        | (refine ord_skipB rfl (by rfl) ?_; simp only [Act.put, List.setIfInBounds_toArray, List.set_cons_zero, List.set_cons_succ])
                        | (refine ord_qE rfl (by rfl) ?_; apply Exists.intro; refine ⟨fun w' hc' => ?_, ?_⟩; (focus (go_simp; (try go_bits); (try simp only [↓IntWalk.iteOmega]); with_reducible rfl)); simp only [Act.put, List.setIfInBounds_toArray, List.set_cons_zero, List.set_cons_succ]))
                      have hU6 := hU1.grown hG3 hneU
                      have q1 := hU6.cell 1
                      have q1f := hU6.frozen 1
                      refine ord_tail rfl fun K hK => ?_
                      go_wp2_with (fail)
                      refine hK.out _ _ ?_
                      clear hK K
                      have hs6 := hG3.size
                      have HN6 := Lib.hid (own_keep HN1.out fun g o e => hG3.block g (own_lt2 (by rw [← e]; exact HN1.out)).2.1 (row_ne_row HN1.out HF1.out (by decide) (by rw [e]; rfl)))
                      have HT6 := Lib.hid (own_keep HT1.out fun g o e => hG3.block g (own_lt2 (by rw [← e]; exact HT1.out)).2.1 (row_ne_row HT1.out HF1.out (by decide) (by rw [e]; rfl)))
                      have HR4 := Lib.hid (HR1.out.grown hg4w (fun k f b _ _ e => by cases e))
                      have HR6 := Lib.hid (HR4.out.grown hg6 (HR4.out.not_row HDS.out HF4.out (by decide)))
                      have HA6 := Lib.hid (own_keep ho4 fun g o e => hg6.block g (own_lt2 (by rw [← e]; exact ho4)).2.1 (row_ne_row ho4 HF4.out (by decide) (by rw [e]; rfl)))
                      have hlow : ∀ b, blkOf A4 = some b → b < w6.heap.size ∧ ∀ (k : Nat) (g : FC), fs[k]? = some g → blkOf g.A ≠ some b := fun b hb => by
                        refine ⟨?_, fun k g hk hg => ?_⟩
                        · have h1 : b < w4.heap.size := by
                            rcases A4 with _ | ⟨b', o, s⟩
                            · cases hb
                            · simp only [blkOf, Option.some.injEq] at hb
                              subst hb
                              exact (own_lt2 ho4).2.1
                          exact Nat.lt_of_lt_of_le h1 hg6.size
                        · rcases hat4 b hb with h1 | h1
                          · cases h1
                          · have := HR1.out.low k g b hk hg
                            simp only [World.drew] at h1
                            omega
                      rw [← bytesC_i8] at HA6
                      have hidl : ∃ r, idsL l = idsL (l.take (k + 1)) ++ r := by
                        obtain ⟨r, hr⟩ := idsL_pre (l.take (k + 1)) (l.drop (k + 1))
                        rw [List.take_append_drop] at hr
                        exact ⟨r, hr⟩
                      have hdl1 : ((idsL l).map fun i => (F i).2)[fs.length]? = some d := by
                        obtain ⟨r, hr⟩ := hidl
                        rw [hr, Hids.out, List.getElem?_map, List.append_assoc, Hfsl.out, HflI.out, List.getElem?_append_right (Nat.le_refl _), Nat.sub_self]
                        simp [HFy.out]
                      have hR7 := HR6.out.snoc (f := ⟨y.mode, A4, y.n, c4⟩) hdl1 HDN.out.symm HA6.out hlow
                      have hdl2 : (fs ++ [(⟨y.mode, A4, y.n, c4⟩ : FC)]).length ≤ ((idsL l).map fun i => (F i).2).length := by
                        obtain ⟨r, hr⟩ := hidl
                        rw [List.length_append, List.length_map, hr, List.length_append, Hids.out, List.length_append, Hfsl.out, HflI.out]
                        simp
                      have HFS2 := (show (fs ++ [(⟨y.mode, A4, y.n, c4⟩ : FC)]).flatMap FC.list = fs.flatMap FC.list ++ [.int .i64 y.mode, .slice A4 y.n c4] by simp [FC.list])
                      have KDS := Lib.hid hdl2
                      have kU := hU6.set 1 (.slice (some ⟨g6, 0, none⟩) (fl + 1) c6)
                      have KN := Lib.hid (own_blkset HN6.out hU6 (by decide) 1 (.slice (some ⟨g6, 0, none⟩) (fl + 1) c6))
                      have KT := Lib.hid (own_blkset HT6.out hU6 (by decide) 1 (.slice (some ⟨g6, 0, none⟩) (fl + 1) c6))
                      have KF := Lib.hid (show (w6.setCell ⟨ub, 1, none⟩ (.slice (some ⟨g6, 0, none⟩) (fl + 1) c6)).ownsRow w.heap.size 59 2 (.slice (some ⟨g6, 0, none⟩) (fl + 1) c6) (fl + 1) ((fs ++ [(⟨y.mode, A4, y.n, c4⟩ : FC)]).flatMap FC.list) by rw [HFS2]; exact own_blkset ho6 hU6 (by decide) 1 _)
                      have KR := Lib.hid (hR7.blkset hdl2 hU6 (by decide) 1 (.slice (some ⟨g6, 0, none⟩) (fl + 1) c6))
                      have kB := (hB1.grown hG3 hneB).set_ne ⟨ub, 1, none⟩ (.slice (some ⟨g6, 0, none⟩) (fl + 1) c6) (by show w.heap.size ≠ ub; omega)
                      have kR := (hR1.grown hG3 hneR).set_ne ⟨ub, 1, none⟩ (.slice (some ⟨g6, 0, none⟩) (fl + 1) c6) (by show w.heap.size + 1 ≠ ub; omega)
                      have kb := (hb1.trans (below_grown hG3 hb1.size (fun g e => by have := own_blk1 HF1.out g e; omega))).setCell (p := ⟨ub, 1, none⟩) (by show w.heap.size ≤ ub; omega) (.slice (some ⟨g6, 0, none⟩) (fl + 1) c6)
                      have Kfl := Lib.hid (show (fs ++ [(⟨y.mode, A4, y.n, c4⟩ : FC)]).length = fl + 1 by rw [List.length_append, Hfsl.out]; rfl)
                      have KflI := Lib.hid (show fl + 1 = (idsL (l.take (k + 1))).length by rw [Hids.out, List.length_append, ← HflI.out]; rfl)
                      have Kfm := Lib.hid (show (fs ++ [(⟨y.mode, A4, y.n, c4⟩ : FC)]).map (·.mode) = (idsL (l.take (k + 1))).map (fun i => (F i).1) by rw [Hids.out, List.map_append, List.map_append, Hfm.out]; simp [HFy.out])
                      obtain ⟨V2, hV2⟩ : ∃ V2, w6.setCell ⟨ub, 1, none⟩ (.slice (some ⟨g6, 0, none⟩) (fl + 1) c6) = V2 := ⟨_, rfl⟩
                      have HX2 := HFS2
                      rw [hV2] at KN KT KF KR kB kR kb ⊢
                      replace kU := hV2 ▸ kU
                      clear hV2 HX2 q1 q1f u0 u1 b1 c0 c1 hG0 hG1 hG2 hG3 hlow hg4 hg4w hg6 hat4 hat6 ho4 ho6 HN6 HT6 HR4 HR6 HA6 hR7 hdl1 hdl2 HFS2 hU6 hidl hU1 hB1 hR1 hb1 HN1 HT1 HF1 HR1 HF4
                      go_upto_region 29 with (fail)
                      obtain ⟨curN, hNc⟩ := own_cur KN.out
                      obtain ⟨q9, hq9⟩ : ∃ q, V2.cell? ⟨g, k * 3 + 1, none⟩ = some q := ⟨_, by have := (own_row KN.out).1 (k * 3 + 1) _ (flat_get Node.len (mix_get Hx.out) (j := 1) (by omega)); rwa [Nat.zero_add] at this⟩
                      have e0 := (own_row KT.out).1 f _ (toL_get hfj)
                      have e1 : toF (idsL (l.take (k + 1))) f = .int .i64 (fl : Nat) := by
                        have h1 := (reN_file' (x := x) (ids := idsL (l.take (k + 1))) (by rw [Hf.out]; omega))
                        rw [Hre.out, Hf.out] at h1
                        have h2 : (f : Int) ∈ idsL (l.take (k + 1)) := (idsL_mem _ _).2 ⟨by omega, x, by rw [take_snoc' Hx.out]; simp, Hf.out⟩
                        unfold toF
                        rw [if_pos h2, ← h1]
                      rw [e1, Nat.zero_add] at e0
                      have f9 := hNc.frozen (k * 3 + 1)
                      have u0 := kU.cell 0
                      have hglt := hNc.lt; have hgtl := (own_row KT.out).2.2.1; have hubl := kU.lt
                      clear e1
                      refine wp_region_ordG (none) [(0, true), (1, true), (2, true), (3, true), (4, true), (5, true), (6, true), (7, true), (8, true)] 9 (by kernel_rfl) (by kernel_rfl) fun hG0 => ?_
                      repeat (first
                        | (refine ord_skipB rfl (by rfl) ?_; simp only [Act.put, List.setIfInBounds_toArray, List.set_cons_zero, List.set_cons_succ])
                        | (refine ord_qE rfl (by rfl) ?_; apply Exists.intro; refine ⟨fun w' hc' => ?_, ?_⟩; (focus (go_simp; (try go_bits); (try simp only [↓IntWalk.iteOmega]); with_reducible rfl)); simp only [Act.put, List.setIfInBounds_toArray, List.set_cons_zero, List.set_cons_succ]))
                      refine ord_tail rfl fun K hK => ?_
                      go_wp2_with (fail)
                      refine hK.out _ _ ?_
                      clear hK K
                      have HNm := Lib.hid (show ((mixN l k).flatMap Node.list).set (k * 3 + 1) (.int .i64 (fl : Nat)) = (mixN l (k + 1)).flatMap Node.list by
                        rw [flat_setj Node.len (mix_get Hx.out) (by omega) (x' := reN (idsL (l.take (k + 1))) x) (by rw [Hre.out]; rfl), mix_set Hx.out])
                      have hne1 : ub ≠ g := fun e => by subst e; exact kU.ne_row KN.out (by decide) rfl
                      have hne2 : w.heap.size ≠ g := fun e => by subst e; exact kB.ne_row KN.out (by decide) rfl
                      have hne3 : w.heap.size + 1 ≠ g := fun e => by subst e; exact kR.ne_row KN.out (by decide) rfl
                      have hgb := (own_row KN.out).2.1
                      clear q9 hq9 e0 f9 u0
                      go_wp2
                      go_roundw
                      case rel => exact ⟨k + 1, by omega, by go_num, some ⟨g, 0, none⟩, (some ⟨g6, 0, none⟩), nd, c6, (fl + 1), (fs ++ [(⟨y.mode, A4, y.n, c4⟩ : FC)]), kU.set_ne _ _ (by show ub ≠ g; exact hne1), by rw [← HNm.out]; exact setc_own (own_drew KN.out) _, own_blkset (own_drew KF.out) hNc (by decide) _ _, Kfl.out, KflI.out, Kfm.out, (KR.out.blkset KDS.out hNc (by decide) _ _).drew', own_blkset (own_drew KT.out) hNc (by decide) _ _, Hgd2.out, kB.set_ne _ _ (by show w.heap.size ≠ g; exact hne2), kR.set_ne _ _ (by show w.heap.size + 1 ≠ g; exact hne3), kb.drew.setCell (p := ⟨g, k * 3 + 1, none⟩) hgb _⟩
                      case measure => simp [intOf]; omega
              · obtain rfl : k = i := by omega
                have hkk : ¬ (k : Int) < k := by omega
                have hta : l.take k = l := List.take_of_length_le (by rw [Hli.out]; exact Nat.le_refl _)
                rw [hta] at HflI Hfm HoT Hgd
                rw [mix_all Hli.out] at HoN
                have hC : Canoned nodes F w.heap.size wr l ⟨l.map (reN (idsL l)), fs, NB, k, nd, FB, fl, fd⟩ := ⟨HpS.out, Hw.out, rfl, Hli.out.symm, HflI.out, Hfsl.out, Hfm.out, HoN.out, HoF.out, HFR.out⟩
                have HC := Lib.hid hC
                have hform := rform_any _ wr hC.tree.tree
                have hbf : ∀ x ∈ nodes, badFile j x = false := fun x hx => Hgd.out x (HpS.out.mem_iff.2 hx)
                have Hbf := Lib.hid hbf
                have u1 := hU.cell 1
                clear hC hta hbf
                cases hfb : formB ⟨l.map (reN (idsL l)), fs, NB, k, nd, FB, fl, fd⟩ with
                | false =>
                  rw [hfb] at hform
                  unfold TV.val at hform
                  have HFO := Lib.hid hform
                  have Hfb := Lib.hid hfb
                  clear hform hfb
                  go_wp2_with (first | (go_at_call 40; refine HFO.out.mono ?_; rintro e w3 ⟨rfl, hb3⟩; replace hR := hR.below hb3 hR.lt; replace hb := hb.trans (hb3.mono hb.size)) | (refine wpList_store_blk rfl 25 (.tmp 2) (.tmp 145) rfl hR #[.slice none 0 0, .slice none 0 0] rfl rfl (by kernel_rfl) rfl (by simp [Value.oneCell']) ?_; intro w7 hB7 hg7 hs7))
                  exact ret_cell_t rfl rfl (load_blk hB7 Tryz.underlying25 rfl (by kernel_rfl)) rfl ⟨hb.trans (below_grown hg7 hb.size (fun g e => by injection e with e; omega)), ⟨[], [], none, 0, 0, none, 0, 0⟩, 30, rfl, .inr (.inl ⟨rfl, Hbb.out, rfl, .inr ⟨l, _, wr, by rw [HF.out]; exact HC.out, Hfb.out⟩⟩)⟩
                | true =>
                  rw [hfb] at hform
                  unfold TV.val at hform
                  have HFO := Lib.hid hform
                  have Hfb := Lib.hid hfb
                  clear hform hfb
                  go_wp2_with (first | (go_at_call 40; refine HFO.out.mono ?_; rintro e w3 ⟨rfl, hb3⟩; have HC3 := Lib.hid (HC.out.move (grown_below hb3 (Nat.le_refl _) (row := none)) (fun _ e => by cases e)); replace hR := hR.below hb3 hR.lt; replace hU := hU.below hb3 hU.lt; have v0 := hU.cell 0; have v1 := hU.cell 1; replace hb := hb.trans (hb3.mono hb.size)) | (refine wpList_store_blk rfl 25 (.tmp 2) (.tmp 146) rfl hR #[.slice NB k nd, .slice FB fl fd] rfl rfl (by kernel_rfl) rfl (by simp [Value.oneCell']) ?_; intro w7 hB7 hg7 hs7))
                  exact ret_cell_t rfl rfl (load_blk hB7 Tryz.underlying25 rfl (by kernel_rfl)) rfl ⟨hb.trans (below_grown hg7 hb.size (fun g e => by injection e with e; omega)), ⟨l.map (reN (idsL l)), fs, NB, k, nd, FB, fl, fd⟩, 0, rfl, .inr (.inr ⟨rfl, Hbb.out, Hbf.out, l, by rw [HF.out]; exact HC3.out.move hg7 (fun rb e => by injection e with e; subst e; exact ⟨_, hR⟩), Hfb.out⟩)⟩
end Go.Proofs.YthmeffpickejkaaGreat
