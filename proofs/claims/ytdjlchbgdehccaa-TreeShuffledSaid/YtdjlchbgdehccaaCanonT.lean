/- tree.Canon: a tree put in order, in memory of its own. -/
import Derived.Test.YtdjlchbgdehccaaStable7
import Derived.Test.YtdjlchbgdehccaaCloneN
import Derived.Test.YtdjlchbgdehccaaClone
import Derived.Test.YtdjlchbgdehccaaLoose
import Derived.Test.YtdjlchbgdehccaaMapV
namespace Go.Proofs.Ytdjlchbgdehccaa
open Go.RowKit

/-- The map of the new numbers. -/
def IdxOf (w : World) (b N : Nat) (ids : List Int) : Prop :=
  ∃ es : List (Int × Value), MapV intK w b es ∧ es.length ≤ N ∧ ∀ f : Int, getV es f = if f ∈ ids then some (.int .i64 (ids.idxOf f : Nat)) else none
/-- What stands ahead of each round that numbers a node anew. -/
def CanAt (w wr : World) (tv : Array Value) (ub fm nn : Nat) (fn : Nat) (NA : Option Addr) (nc : Nat) (S : List Node) (F : Int → Int × ByteArray) (k : Nat) : Prop :=
  ∃ (FA : Option Addr) (fc fl : Nat) (fs : List FC), Blk wr ub 26 #[.slice NA nn nc, .slice FA fl fc] ∧ wr.ownsRow w.heap.size 29 3 (.slice NA nn nc) nn ((mixN S k).flatMap Node.list) ∧ wr.ownsRow w.heap.size 39 2 (.slice FA fl fc) fl (fs.flatMap FC.list) ∧
    fs.length = fl ∧ fl = (idsL (S.take k)).length ∧ fs.map (·.mode) = (idsL (S.take k)).map (fun i => (F i).1) ∧ FRows wr w.heap.size fs ((idsL S).map fun i => (F i).2) ∧ IdxOf wr fm k (idsL (S.take k)) ∧
    (∀ x ∈ S.take k, badFile fn x = false) ∧ Blk wr w.heap.size 26 tv ∧ Blk wr (w.heap.size + 1) 26 #[.slice none 0 0, .slice none 0 0] ∧ Below w.heap.size w wr
theorem CanAt.quiet {w wr W : World} {tv : Array Value} {ub fm nn fn : Nat} {NA : Option Addr} {nc : Nat} {S : List Node} {F : Int → Int × ByteArray} {k : Nat} (h : CanAt w wr tv ub fm nn fn NA nc S F k) (hg : wr.grownBy W none) : CanAt w W tv ub fm nn fn NA nc S F k := by
  obtain ⟨FA, fc, fl, fs, hU, hoN, hoF, h1, h2, h3, hR, ⟨es, hM, h4, h5⟩, h6, hB, hRb, hb⟩ := h
  exact ⟨FA, fc, fl, fs, hU.grown hg (by simp), own_keep hoN fun g o e => hg.block g (own_lt2 (by rw [← e]; exact hoN)).2.1 (by simp), own_keep hoF fun g o e => hg.block g (own_lt2 (by rw [← e]; exact hoF)).2.1 (by simp), h1, h2, h3, hR.grown hg (fun k f b _ _ e => by cases e), ⟨es, hM.kept hg (by simp), h4, h5⟩, h6, hB.grown hg (by simp), hRb.grown hg (by simp), hb.trans (below_grown hg hb.size (fun g e => by cases e))⟩
theorem CanAt.row {w wr : World} {tv : Array Value} {ub fm nn fn : Nat} {NA : Option Addr} {nc : Nat} {S : List Node} {F : Int → Int × ByteArray} {k : Nat} (h : CanAt w wr tv ub fm nn fn NA nc S F k) : wr.ownsRow w.heap.size 29 3 (.slice NA nn nc) nn ((mixN S k).flatMap Node.list) ∧ w.heap.size ≤ wr.heap.size := by
  obtain ⟨FA, fc, fl, fs, hU, hoN, hoF, h1, h2, h3, hR, hI, h6, hB, hRb, hb⟩ := h
  exact ⟨hoN, hb.size⟩
/-- A node is numbered anew. -/
theorem CanAt.renumber {w V : World} {tv : Array Value} {ub fm nn fn g nc k fl fc : Nat} {FA : Option Addr} {S : List Node} {F : Int → Int × ByteArray} {fs : List FC} {x : Node} {ix : Int} (hx : S[k]? = some x) (hre : reN (idsL (S.take (k + 1))) x = ⟨x.path, ix, x.mode, x.hp⟩)
    (hU : Blk V ub 26 #[.slice (some ⟨g, 0, none⟩) nn nc, .slice FA fl fc]) (hoN : V.ownsRow w.heap.size 29 3 (.slice (some ⟨g, 0, none⟩) nn nc) nn ((mixN S k).flatMap Node.list)) (hoF : V.ownsRow w.heap.size 39 2 (.slice FA fl fc) fl (fs.flatMap FC.list))
    (h1 : fs.length = fl) (h2 : fl = (idsL (S.take (k + 1))).length) (h3 : fs.map (·.mode) = (idsL (S.take (k + 1))).map (fun i => (F i).1)) (hR : FRows V w.heap.size fs ((idsL S).map fun i => (F i).2)) (hI : IdxOf V fm (k + 1) (idsL (S.take (k + 1))))
    (h6 : ∀ y ∈ S.take (k + 1), badFile fn y = false) (hB : Blk V w.heap.size 26 tv) (hRb : Blk V (w.heap.size + 1) 26 #[.slice none 0 0, .slice none 0 0]) (hb : Below w.heap.size w V) :
    CanAt w (V.setCell ⟨g, k * 3 + 1, none⟩ (.int .i64 ix)) tv ub fm nn fn (some ⟨g, 0, none⟩) nc S F (k + 1) := by
  obtain ⟨curN, hNc⟩ := own_cur hoN
  have hdl : fs.length ≤ ((idsL S).map fun i => (F i).2).length := by
    obtain ⟨r, hr⟩ := idsL_pre (S.take (k + 1)) (S.drop (k + 1))
    rw [List.take_append_drop] at hr
    rw [List.length_map, hr, h1, h2]; simp
  have hnm : ((mixN S k).flatMap Node.list).set (k * 3 + 1) (.int .i64 ix) = (mixN S (k + 1)).flatMap Node.list := by
    rw [flat_setj Node.len (mix_get hx) (by omega) (x' := reN (idsL (S.take (k + 1))) x) (by rw [hre]; rfl), mix_set hx]
  have hne1 : ub ≠ g := fun e => by subst e; exact hU.ne_row hoN (by decide) rfl
  have hne2 : w.heap.size ≠ g := fun e => by subst e; exact hB.ne_row hoN (by decide) rfl
  have hne3 : w.heap.size + 1 ≠ g := fun e => by subst e; exact hRb.ne_row hoN (by decide) rfl
  obtain ⟨es, hM, h4, h5⟩ := hI
  have hne4 : fm ≠ g := fun e => by
    obtain ⟨ms, ck, hmm⟩ := hM.isMap
    have := hNc
    unfold Blk at this
    rw [← e, hmm] at this
    cases this
  exact ⟨FA, fc, fl, fs, hU.set_ne _ _ hne1, by rw [← hnm]; exact setc_own hoN _, own_blkset hoF hNc (by decide) _ _, h1, h2, h3, hR.blkset hdl hNc (by decide) _ _, ⟨es, hM.keep (heap_setCell_other V ⟨g, k * 3 + 1, none⟩ fm _ hne4), h4, h5⟩, h6, hB.set_ne _ _ hne2, hRb.set_ne _ _ hne3, hb.setCell (p := ⟨g, k * 3 + 1, none⟩) (own_row hoN).2.1 _⟩
theorem own_ne_map {w : World} {base e sz n c b : Nat} {A : Option Addr} {L : List Value} {es : List (Int × Value)} (h : w.ownsRow base e sz (.slice A n c) n L) (hM : MapV intK w b es) : ¬ some b = blkOf A := fun e2 => by
  obtain ⟨ms, ck, hmm⟩ := hM.isMap
  rcases h.2 with ⟨h', _⟩ | ⟨g', cap, cur, hv, _, hh, _⟩
  · injection h' with h'; rw [h'] at e2; cases e2
  · injection hv with hv
    rw [hv] at e2
    injection e2 with e2
    rw [e2, hh] at hmm
    cases hmm
theorem blk_ne_map {w : World} {g b : Nat} {t : TypeId} {cs : Array Value} {es : List (Int × Value)} (h : Blk w g t cs) (hM : MapV intK w b es) : some g ≠ some b := fun e2 => by
  injection e2 with e2
  obtain ⟨ms, ck, hmm⟩ := hM.isMap
  unfold Blk at h
  rw [e2, hmm] at h
  cases h
theorem Try.mtII : MT 87 3 3 (.int .i64 0) := ⟨Try.underlying87, fun w => by kernel_rfl⟩
/-- What Canon says. -/
def TCanonRes (t : TV) (ds : List ByteArray) (w : World) (e : Ending) (w' : World) : Prop :=
  Below w.heap.size w w' ∧ ∃ (u : TV) (E : Int), e = .returned (.tuple #[u.val, .int .i64 E]) ∧
    ((E = 31 ∧ boundB t = true ∧ u = ⟨[], [], none, 0, 0, none, 0, 0⟩) ∨
     (E = 30 ∧ boundB t = false ∧ u = ⟨[], [], none, 0, 0, none, 0, 0⟩ ∧ ((∃ x ∈ t.nodes, badFile t.fn x = true) ∨ ∃ (S : List Node) (v : TV) (w2 : World), Canoned t.nodes (treeF t ds) w.heap.size w2 S v ∧ looseE v ≠ 0)) ∨
     (E = 0 ∧ boundB t = false ∧ (∀ x ∈ t.nodes, badFile t.fn x = false) ∧ ∃ S, Canoned t.nodes (treeF t ds) w.heap.size w' S u ∧ looseE u = 0))
/-- Where a tree is refused. -/
def CanonBad (t : TV) (ds : List ByteArray) (w : World) (a : Act) (wr : World) : Prop := ∃ u : Nat → Value, a = ⟨List.toArray (u 0 :: u 1 :: u 2 :: u 3 :: u 4 :: u 5 :: u 6 :: u 7 :: u 8 :: u 9 :: u 10 :: u 11 :: u 12 :: u 13 :: u 14 :: u 15 :: u 16 :: u 17 :: u 18 :: u 19 :: u 20 :: u 21 :: u 22 :: u 23 :: u 24 :: u 25 :: u 26 :: u 27 :: u 28 :: u 29 :: u 30 :: u 31 :: u 32 :: u 33 :: u 34 :: u 35 :: u 36 :: u 37 :: u 38 :: u 39 :: u 40 :: u 41 :: u 42 :: u 43 :: u 44 :: u 45 :: u 46 :: u 47 :: u 48 :: u 49 :: u 50 :: u 51 :: u 52 :: u 53 :: u 54 :: u 55 :: u 56 :: u 57 :: u 58 :: u 59 :: u 60 :: u 61 :: u 62 :: u 63 :: u 64 :: u 65 :: u 66 :: u 67 :: u 68 :: u 69 :: u 70 :: u 71 :: u 72 :: u 73 :: u 74 :: u 75 :: u 76 :: u 77 :: u 78 :: u 79 :: u 80 :: u 81 :: u 82 :: u 83 :: u 84 :: u 85 :: u 86 :: u 87 :: u 88 :: u 89 :: u 90 :: []), []⟩ ∧ u 2 = .pointer (some ⟨w.heap.size + 1, 0, none⟩) ∧ Blk wr (w.heap.size + 1) 26 #[.slice none 0 0, .slice none 0 0] ∧ Below w.heap.size w wr ∧ boundB t = false ∧
  ((∃ x ∈ t.nodes, badFile t.fn x = true) ∨ ∃ (S : List Node) (v : TV) (w2 : World), Canoned t.nodes (treeF t ds) w.heap.size w2 S v ∧ looseE v ≠ 0)
theorem CanonBad.mk {t : TV} {ds : List ByteArray} {w wr : World} {a : Act} (h : a = ⟨List.toArray (a.tmps.getD 0 undef :: a.tmps.getD 1 undef :: a.tmps.getD 2 undef :: a.tmps.getD 3 undef :: a.tmps.getD 4 undef :: a.tmps.getD 5 undef :: a.tmps.getD 6 undef :: a.tmps.getD 7 undef :: a.tmps.getD 8 undef :: a.tmps.getD 9 undef :: a.tmps.getD 10 undef :: a.tmps.getD 11 undef :: a.tmps.getD 12 undef :: a.tmps.getD 13 undef :: a.tmps.getD 14 undef :: a.tmps.getD 15 undef :: a.tmps.getD 16 undef :: a.tmps.getD 17 undef :: a.tmps.getD 18 undef :: a.tmps.getD 19 undef :: a.tmps.getD 20 undef :: a.tmps.getD 21 undef :: a.tmps.getD 22 undef :: a.tmps.getD 23 undef :: a.tmps.getD 24 undef :: a.tmps.getD 25 undef :: a.tmps.getD 26 undef :: a.tmps.getD 27 undef :: a.tmps.getD 28 undef :: a.tmps.getD 29 undef :: a.tmps.getD 30 undef :: a.tmps.getD 31 undef :: a.tmps.getD 32 undef :: a.tmps.getD 33 undef :: a.tmps.getD 34 undef :: a.tmps.getD 35 undef :: a.tmps.getD 36 undef :: a.tmps.getD 37 undef :: a.tmps.getD 38 undef :: a.tmps.getD 39 undef :: a.tmps.getD 40 undef :: a.tmps.getD 41 undef :: a.tmps.getD 42 undef :: a.tmps.getD 43 undef :: a.tmps.getD 44 undef :: a.tmps.getD 45 undef :: a.tmps.getD 46 undef :: a.tmps.getD 47 undef :: a.tmps.getD 48 undef :: a.tmps.getD 49 undef :: a.tmps.getD 50 undef :: a.tmps.getD 51 undef :: a.tmps.getD 52 undef :: a.tmps.getD 53 undef :: a.tmps.getD 54 undef :: a.tmps.getD 55 undef :: a.tmps.getD 56 undef :: a.tmps.getD 57 undef :: a.tmps.getD 58 undef :: a.tmps.getD 59 undef :: a.tmps.getD 60 undef :: a.tmps.getD 61 undef :: a.tmps.getD 62 undef :: a.tmps.getD 63 undef :: a.tmps.getD 64 undef :: a.tmps.getD 65 undef :: a.tmps.getD 66 undef :: a.tmps.getD 67 undef :: a.tmps.getD 68 undef :: a.tmps.getD 69 undef :: a.tmps.getD 70 undef :: a.tmps.getD 71 undef :: a.tmps.getD 72 undef :: a.tmps.getD 73 undef :: a.tmps.getD 74 undef :: a.tmps.getD 75 undef :: a.tmps.getD 76 undef :: a.tmps.getD 77 undef :: a.tmps.getD 78 undef :: a.tmps.getD 79 undef :: a.tmps.getD 80 undef :: a.tmps.getD 81 undef :: a.tmps.getD 82 undef :: a.tmps.getD 83 undef :: a.tmps.getD 84 undef :: a.tmps.getD 85 undef :: a.tmps.getD 86 undef :: a.tmps.getD 87 undef :: a.tmps.getD 88 undef :: a.tmps.getD 89 undef :: a.tmps.getD 90 undef :: []), []⟩) (h2 : a.tmps.getD 2 undef = .pointer (some ⟨w.heap.size + 1, 0, none⟩)) (hR : Blk wr (w.heap.size + 1) 26 #[.slice none 0 0, .slice none 0 0]) (hb : Below w.heap.size w wr) (hbb : boundB t = false)
    (hr : (∃ x ∈ t.nodes, badFile t.fn x = true) ∨ ∃ (S : List Node) (v : TV) (w2 : World), Canoned t.nodes (treeF t ds) w.heap.size w2 S v ∧ looseE v ≠ 0) : CanonBad t ds w a wr := ⟨fun i => a.tmps.getD i undef, h, h2, hR, hb, hbb, hr⟩
set_option maxRecDepth 100000 in
set_option maxHeartbeats 8000000 in
theorem tcanon_any (t : TV) (ds : List ByteArray) (w : World) (h : TreeD w t ds) : Calls Try.prog 41 #[t.val] w (TCanonRes t ds w) := by
  have HD := Lib.hid h.dat
  have HT := Lib.hid h.tree
  have hns := h.tree.ns
  have hnl := h.tree.nl
  have hfs := h.tree.fs
  have hfl := h.tree.fl
  have hnm := h.tree.nm
  have hfm := h.tree.fm
  have hbig := fun (W : World) (H : TreeAt W t) => bound_any t W H
  have hmm := @run_makeMap Try.prog
  clear h
  obtain ⟨bb, hbb⟩ : ∃ b, boundB t = b := ⟨_, rfl⟩
  rw [hbb] at hbig
  have Hbb := Lib.hid hbb
  obtain ⟨nodes, files, NA, nn, nc, FA, fn, fc⟩ := t
  unfold TV.val at hbig ⊢
  simp only at hns hnl hfs hfl hnm hfm
  have HBIG := Lib.hid hbig; clear hbig
  have HS := Lib.hid hns; have Hn := Lib.hid hnl; have HFS := Lib.hid hfs; have Hfl := Lib.hid hfl
  clear hns hnl hfs hfl hbb
  have hR := Blk.new (w.alloc (.cells #[.slice NA nn nc, .slice FA fn fc] 26)) 26 #[.slice none 0 0, .slice none 0 0]
  have hB := (Blk.new w 26 #[.slice NA nn nc, .slice FA fn fc]).alloc (.cells #[.slice none 0 0, .slice none 0 0] 26)
  have hb := ((Below.refl w.heap.size w).alloc (Nat.le_refl _) (.cells #[.slice NA nn nc, .slice FA fn fc] 26)).alloc (by simp) (.cells #[.slice none 0 0, .slice none 0 0] 26)
  rw [World.size_alloc] at hR
  go_enter Try.func41, Try.ntmps41
  go_wp2
  refine wp_scope_J 0 (CanonBad ⟨nodes, files, NA, nn, nc, FA, fn, fc⟩ ds w) (fun _ _ => 0) (by rfl) ?_ fun pass => ?_
  · rintro a wr ⟨u, rfl, h2, hR, hb, hbb, hr⟩
    have HR := Lib.hid hr; have HB2 := Lib.hid hbb
    clear hr hbb hB
    go_wp2_with (refine wpList_store_blk rfl 26 (.tmp 2) (.tmp 90) rfl hR #[.slice none 0 0, .slice none 0 0] h2 rfl (by kernel_rfl) rfl (by simp [Value.oneCell']) ?_; intro w7 hB7 hg7 hs7)
    exact ret_cell_t rfl rfl (load_blk hB7 Try.underlying26 rfl (by kernel_rfl)) rfl ⟨hb.trans (below_grown hg7 hb.size (fun g e => by injection e with e; omega)), ⟨[], [], none, 0, 0, none, 0, 0⟩, 30, rfl, .inr (.inl ⟨rfl, HB2.out, rfl, HR.out⟩)⟩
  · have Pass := Lib.hid pass
    clear pass
    have hRl := hR.lt
    have hU := Blk.new ((w.alloc (.cells #[.slice NA nn nc, .slice FA fn fc] 26)).alloc (.cells #[.slice none 0 0, .slice none 0 0] 26)) 26 #[.slice none 0 0, .slice none 0 0]
    obtain ⟨W1, hW1⟩ : ∃ W, (w.alloc (.cells #[.slice NA nn nc, .slice FA fn fc] 26)).alloc (.cells #[.slice none 0 0, .slice none 0 0] 26) = W := ⟨_, rfl⟩
    rw [hW1] at hR hB hb hU hRl ⊢
    have hM := MapV.new (T := intK) (W1.alloc (.cells #[.slice none 0 0, .slice none 0 0] 26))
    replace hR := (hR.alloc (.cells #[.slice none 0 0, .slice none 0 0] 26)).alloc (.map #[] 0)
    replace hB := (hB.alloc (.cells #[.slice none 0 0, .slice none 0 0] 26)).alloc (.map #[] 0)
    replace hU := hU.alloc (.map #[] 0)
    replace hb := (hb.alloc hb.size (.cells #[.slice none 0 0, .slice none 0 0] 26)).alloc (by have := hb.size; simp; omega) (.map #[] 0)
    have b0 := hB.cell 0; have b1 := hB.cell 1
    clear hW1
    cases bb with
    | true =>
      go_wp2_with (first | (go_at_call 46; refine (HBIG.out _ (HT.out.keep hb)).mono ?_; rintro e w1 ⟨rfl, hb1⟩; replace hR := hR.below hb1 hR.lt; replace hb := hb.trans (hb1.mono hb.size)) | (refine wpList_store_blk rfl 26 (.tmp 2) (.tmp 14) rfl hR #[.slice none 0 0, .slice none 0 0] rfl rfl (by kernel_rfl) rfl (by simp [Value.oneCell']) ?_; intro w7 hB7 hg7 hs7))
      exact ret_cell_t rfl rfl (load_blk hB7 Try.underlying26 rfl (by kernel_rfl)) rfl ⟨hb.trans (below_grown hg7 hb.size (fun g e => by injection e with e; omega)), ⟨[], [], none, 0, 0, none, 0, 0⟩, 31, rfl, .inl ⟨rfl, Hbb.out, rfl⟩⟩
    | false =>
      go_upto_region 5 with (go_at_call 46; refine (HBIG.out _ (HT.out.keep hb)).mono ?_; rintro e w1 ⟨rfl, hb1⟩; replace hR := hR.below hb1 hR.lt; replace hB := hB.below hb1 hB.lt; replace hU := hU.below hb1 hU.lt; replace hb := hb.trans (hb1.mono hb.size))
      have hbnd : nn ≤ 256 ∧ fn ≤ 256 ∧ ∀ x ∈ files, x.n ≤ 8192 := by
        have hbb := Hbb.out
        simp only [boundB, Bool.or_eq_false_iff, decide_eq_false_iff_not, anyLong, List.any_eq_false] at hbb
        exact ⟨by omega, by omega, fun x hx => by have := hbb.2 x hx; simpa using this⟩
      obtain ⟨hn1, hf1, hsm⟩ := hbnd
      have HSM := Lib.hid hsm
      have hM1 := hM.keep (w' := w1) (hb1.block _ hM.lt)
      obtain ⟨ub, hube⟩ : ∃ u, W1.heap.size = u := ⟨_, rfl⟩
      have hfmlt := hM.lt
      rw [World.size_alloc, hube] at hM1 hfmlt
      rw [hube] at hU ⊢
      have HM := Lib.hid hM1
      clear hsm hM hM1 b0 b1
      have hMl : ub + 1 < w1.heap.size := HM.out.lt
      rw [hube] at hRl
      clear hube hfmlt hb1
      have b0 := hB.cell 0; have b1 := hB.cell 1
      have u0 := hU.cell 0
      have u0f := hU.frozen 0
      have hUl := hU.lt; have hBl := hB.lt; have hRl2 := hR.lt
      go_upto_region 6 with (go_at_call 67; refine (cloneN_any nodes NA nn nc _ Hn.out (by omega) (HT.out.keep hb).ns).mono ?_; rintro e w3 ⟨A3, c3, rfl, ho3, hb3⟩; have u3 := (hU.below hb3 hUl).cell 0; have u3f := (hU.below hb3 hUl).frozen 0; have hUl3 := (hU.below hb3 hUl).lt)
      have hs1 := hb.size
      have hU3 := hU.below hb3 hUl; have hB3 := hB.below hb3 hBl; have hR3 := hR.below hb3 hRl2
      have hM3 := HM.out.keep (hb3.block _ hMl)
      have ho3' := own_low ho3 hs1
      have ho4 := own_blkset ho3' hU3 (by decide) 0 (.slice A3 nn c3)
      have hU4 := hU3.set 0 (.slice A3 nn c3)
      have hB4 := hB3.set_ne ⟨ub, 0, none⟩ (.slice A3 nn c3) (by show w.heap.size ≠ ub; omega)
      have hR4 := hR3.set_ne ⟨ub, 0, none⟩ (.slice A3 nn c3) (by show w.heap.size + 1 ≠ ub; omega)
      have hb4 := (hb.trans (hb3.mono hs1)).setCell (p := ⟨ub, 0, none⟩) (by show w.heap.size ≤ ub; omega) (.slice A3 nn c3)
      have hM4 : MapV intK (w3.setCell ⟨ub, 0, none⟩ (.slice A3 nn c3)) (ub + 1) [] := hM3.keep (heap_setCell_other w3 ⟨ub, 0, none⟩ (ub + 1) _ (by show ub + 1 ≠ ub; omega))
      obtain ⟨W4, hW4⟩ : ∃ W, w3.setCell ⟨ub, 0, none⟩ (.slice A3 nn c3) = W := ⟨_, rfl⟩
      rw [hW4] at ho4 hU4 hB4 hR4 hb4 hM4 ⊢
      have hsort := sortStable_any W4 w.heap.size nn c3 A3 nodes W4 (by omega) ⟨ho4, ⟨rfl, rfl, rfl, Nat.le_refl _, fun _ _ _ => rfl⟩, Hn.out⟩
      unfold cmpV at hsort
      have HSort := Lib.hid hsort
      have HO4 := Lib.hid ho4; have HM4 := Lib.hid hM4
      clear hsort ho4 hM4 hW4 ho3 ho3' hU hB hR hU3 hB3 hR3 hM3 hb3 hb u0 u0f u3 u3f hUl3 b0 b1
      have v0 := hU4.cell 0
      go_upto_region 7 with (go_at_call 68; refine HSort.out.mono ?_; rintro e w5 ⟨rfl, S, hp, hs, hst⟩)
      have hU5 := hU4.grown hst.grown (hU4.ne_row HO4.out (by decide))
      have hB5 := hB4.grown hst.grown (hB4.ne_row HO4.out (by decide))
      have hR5 := hR4.grown hst.grown (hR4.ne_row HO4.out (by decide))
      have hb5 := hb4.trans (below_grown hst.grown hb4.size (fun g e => own_blk1 HO4.out g e))
      have hMne : ¬ some (ub + 1) = blkOf A3 := fun e => by
        obtain ⟨ms, ck, hmm⟩ := HM4.out.isMap
        rcases HO4.out.2 with ⟨h', _⟩ | ⟨g', cap, cur, hv, _, hh, _⟩
        · injection h' with h'; rw [h'] at e; cases e
        · injection hv with hv
          rw [hv] at e
          injection e with e
          rw [e, hh] at hmm
          cases hmm
      have hM5 := HM4.out.kept hst.grown hMne
      have hlen := hst.len
      obtain ⟨F, hF⟩ : ∃ F, treeF ⟨nodes, files, NA, nn, nc, FA, fn, fc⟩ ds = F := ⟨_, rfl⟩
      have hmix : mixN S 0 = S := by simp [mixN]
      have h0 : CanAt w w5 #[.slice NA nn nc, .slice FA fn fc] ub (ub + 1) nn fn A3 c3 S F 0 :=
        ⟨none, 0, 0, [], hU5, by rw [hmix]; exact hst.own, World.ownsRow_nil _ _ _ _, rfl, rfl, rfl, FRows.nil _ _ _, ⟨[], hM5, Nat.le_refl _, fun f => by rw [show idsL (S.take 0) = [] from rfl, if_neg (by simp)]; rfl⟩, by simp, hB5, hR5, hb5⟩
      have H0 := Lib.hid h0; have HP := Lib.hid hp; have HSrt := Lib.hid hs; have Hli := Lib.hid hlen; have HF := Lib.hid hF
      have hv5 := hU5.cell 0
      have hUl5 := hU5.lt
      clear h0 hp hs hst hB5 hR5 hb5 hM5 hMne hmix hF hlen hU4 hB4 hR4 hb4 HSort HO4 HM4 v0
      go_wp2
      clear hv5 hUl5 hU5
      go_loopw [25] (fun v wr => ∃ k : Nat, k ≤ nn ∧ v = .int .i64 k ∧ CanAt w wr #[.slice NA nn nc, .slice FA fn fc] ub (ub + 1) nn fn A3 c3 S F k) (fun v _ => nn - (intOf v).toNat)
      case atStart => exact ⟨0, Nat.zero_le _, rfl, H0.out⟩
      case round =>
        clear H0
        obtain ⟨k, hk, rfl, hC⟩ := hrel
        by_cases hlt : k < nn
        · have hki : (k : Int) < nn := by omega
          obtain ⟨x, hx⟩ : ∃ x, S[k]? = some x := ⟨_, List.getElem?_eq_getElem (by rw [Hli.out]; exact hlt)⟩
          have HC := Lib.hid hC
          obtain ⟨hoN, hws⟩ := hC.row
          obtain ⟨g, rfl⟩ := own_some hoN (by omega)
          have hrow := (own_row hoN).1
          have c0 := hrow (k * 3 + 0) _ (flat_get Node.len (mix_get hx) (j := 0) (by omega))
          have c1 := hrow (k * 3 + 1) _ (flat_get Node.len (mix_get hx) (j := 1) (by omega))
          have c2 := hrow (k * 3 + 2) _ (flat_get Node.len (mix_get hx) (j := 2) (by omega))
          simp only [Nat.zero_add, Nat.add_zero] at c0 c1 c2
          have Hx := Lib.hid hx
          have hgl := (own_row hoN).2.2.1
          clear hoN hrow hx hC
          have hg1 := World.grownBy_alloc wr (.cells #[.string x.path, .int .i64 x.file, .int .i64 x.mode] 29) none
          have hN := Blk.new wr 29 #[.string x.path, .int .i64 x.file, .int .i64 x.mode]
          go_upto_region 10 with (fail)
          obtain ⟨W1, hW1⟩ : ∃ W, wr.alloc (.cells #[.string x.path, .int .i64 x.file, .int .i64 x.mode] 29) = W := ⟨_, rfl⟩
          obtain ⟨nb, hnb⟩ : ∃ q, wr.heap.size = q := ⟨_, rfl⟩
          rw [hW1] at hg1 hN ⊢
          rw [hnb] at hN ⊢
          have HC1 := Lib.hid (HC.out.quiet hg1)
          have hnbb : w.heap.size ≤ nb := by omega
          clear hW1 hnb hg1 c0 c1 c2 HC hws hgl
          have n1 := hN.cell 1
          have hid1 := idsL_snoc (S.take k) x
          rw [← take_snoc' Hx.out] at hid1
          have Hid1 := Lib.hid hid1
          clear hid1
          by_cases hdir : x.file = -1
          · rw [hdir] at n1
            have hids : idsL (S.take (k + 1)) = idsL (S.take k) := by rw [Hid1.out, idStep, if_pos (.inl (by omega))]
            have hre : reN (idsL (S.take (k + 1))) x = x := by rw [reN, if_pos (by omega)]
            have hbf : badFile fn x = false := by simp [badFile, hdir]; omega
            have hnext : CanAt w W1 #[.slice NA nn nc, .slice FA fn fc] ub (ub + 1) nn fn (some ⟨g, 0, none⟩) c3 S F (k + 1) := by
              obtain ⟨FA', fc', fl, fs, hU, hoN, hoF, h1, h2, h3, hR, ⟨es, hM, h4, h5⟩, h6, hB, hRb, hb⟩ := HC1.out
              refine ⟨FA', fc', fl, fs, hU, by rw [← mix_same Hx.out hre]; exact hoN, hoF, h1, by rw [hids]; exact h2, by rw [hids]; exact h3, hR, ⟨es, hM, by omega, by rw [hids]; exact h5⟩, fun y hy => ?_, hB, hRb, hb⟩
              rw [take_snoc' Hx.out] at hy
              rcases List.mem_append.1 hy with hy | hy
              · exact h6 y hy
              · rw [List.mem_singleton.1 hy]; exact hbf
            have HNext := Lib.hid hnext
            clear hids hre hbf hnext hdir
            go_wp2
            go_roundw
            case rel => exact ⟨k + 1, by omega, by go_num, HNext.out⟩
            case measure => simp [intOf]; omega
          by_cases hbad : badFile fn x = true
          · have hxm : x ∈ nodes := HP.out.mem_iff.1 (List.mem_of_getElem? Hx.out)
            have hres : Below w.heap.size w W1 ∧ Blk W1 (w.heap.size + 1) 26 #[.slice none 0 0, .slice none 0 0] ∧ Blk W1 w.heap.size 26 #[.slice NA nn nc, .slice FA fn fc] := by
              obtain ⟨FA', fc', fl, fs, hU, hoN, hoF, h1, h2, h3, hR, hI, h6, hB, hRb, hb⟩ := HC1.out
              exact ⟨hb, hRb, hB⟩
            have b1 := hres.2.2.cell 1
            have HRes := Lib.hid hres; have HBad := Lib.hid hbad; have HXm := Lib.hid hxm
            simp only [badFile, Bool.or_eq_true, decide_eq_true_eq] at hbad
            clear hres hxm
            by_cases h1 : x.file < -1
            · go_wp2
              refine wp_goto ?_
              exact And.intro rfl (CanonBad.mk rfl rfl HRes.out.2.1 HRes.out.1 Hbb.out (.inl ⟨x, HXm.out, HBad.out⟩))
            · have h2 : (fn : Int) ≤ x.file := by omega
              go_wp2
              refine wp_goto ?_
              exact And.intro rfl (CanonBad.mk rfl rfl HRes.out.2.1 HRes.out.1 Hbb.out (.inl ⟨x, HXm.out, HBad.out⟩))
          have hbf : badFile fn x = false := by simpa using hbad
          have Hbf := Lib.hid hbf
          simp only [badFile, Bool.or_eq_false_iff, decide_eq_false_iff_not] at hbf
          obtain ⟨f, hf⟩ := Int.eq_ofNat_of_zero_le (show 0 ≤ x.file by omega)
          have hfj : f < fn := by omega
          have hfi : (f : Int) < fn := by omega
          have hfl1 : ¬ (f : Int) < -1 := by omega
          have hfm1 : ¬ (f : Int) = -1 := by omega
          have hfge : ¬ (fn : Int) ≤ f := by omega
          rw [hf] at n1
          have Hf := Lib.hid hf
          clear hf hdir hbad hbf
          have Hgd2 := Lib.hid (show ∀ y ∈ S.take (k + 1), (∀ z ∈ S.take k, badFile fn z = false) → badFile fn y = false from fun y hy hz => by
            rw [take_snoc' Hx.out] at hy
            rcases List.mem_append.1 hy with hy | hy
            · exact hz y hy
            · rw [List.mem_singleton.1 hy]; exact Hbf.out)
          obtain ⟨FB, fd, fl, fs, hU, hoN, hoF, hfsl, hflI, hfm9, hFR, ⟨es, hM, hes, hget⟩, hgd, hB, hR, hb⟩ := HC1.out
          have hok : intK.ok (f : Int) := by
            show (Lit.int .i64 (f : Int)).wf = true
            have e1 : IntKind.i64.min = -9223372036854775808 := by decide
            have e2 : IntKind.i64.max = 9223372036854775807 := by decide
            simp only [Lit.wf, Bool.and_eq_true, decide_eq_true_eq, e1, e2]
            omega
          have hlk := hM.look_ok Try.mtII hok
          rw [hget] at hlk
          have b1 := hB.cell 1
          by_cases hin : (f : Int) ∈ idsL (S.take k)
          · rw [if_pos hin] at hlk
            have hrun : (Instr.lookup 87 (.map (some (ub + 1))) (.int .i64 f) true).run Try.prog W1 = .ok (.tuple #[.int .i64 ((idsL (S.take k)).idxOf (f : Int) : Nat), .bool true]) W1 := hlk
            obtain ⟨ix, hix⟩ : ∃ ix, (idsL (S.take k)).idxOf (f : Int) = ix := ⟨_, rfl⟩
            rw [hix] at hrun
            have hids : idsL (S.take (k + 1)) = idsL (S.take k) := by rw [Hid1.out, idStep, if_pos (.inr (by rw [Hf.out]; exact hin))]
            have hre : reN (idsL (S.take (k + 1))) x = ⟨x.path, (ix : Int), x.mode, x.hp⟩ := by rw [reN, if_neg (by rw [Hf.out]; omega), hids, Hf.out, hix]
            have hnext : CanAt w (W1.setCell ⟨g, k * 3 + 1, none⟩ (.int .i64 ix)) #[.slice NA nn nc, .slice FA fn fc] ub (ub + 1) nn fn (some ⟨g, 0, none⟩) c3 S F (k + 1) :=
              CanAt.renumber Hx.out hre hU hoN hoF hfsl (by rw [hids]; exact hflI) (by rw [hids]; exact hfm9) hFR ⟨es, hM, by omega, by rw [hids]; exact hget⟩ (fun y hy => Hgd2.out y hy hgd) hB hR hb
            have HNext := Lib.hid hnext
            have u0 := hU.cell 0
            have q9 := (own_row hoN).1 (k * 3 + 1) _ (flat_get Node.len (mix_get Hx.out) (j := 1) (by omega))
            rw [Nat.zero_add] at q9
            obtain ⟨curN, hNc⟩ := own_cur hoN
            have f9 := hNc.frozen (k * 3 + 1)
            have hgl := hNc.lt
            clear hids hre hnext hlk hix hin hoN hoF hfsl hflI hfm9 hFR hM hes hget hgd hNc
            go_wp2
            go_roundw
            case rel => exact ⟨k + 1, by omega, by go_num, HNext.out⟩
            case measure => simp [intOf]; omega
          · rw [if_neg hin] at hlk
            have hrun : (Instr.lookup 87 (.map (some (ub + 1))) (.int .i64 f) true).run Try.prog W1 = .ok (.tuple #[.int .i64 0, .bool false]) W1 := hlk
            obtain ⟨w8, hput, hm8, hg8, hs8⟩ := hM.put Try.mtII hok (.int .i64 (fl : Nat)) (by unfold maxLen; omega)
            have hputr : (Instr.mapUpdate 87 (.map (some (ub + 1))) (.int .i64 f) (.int .i64 (fl : Nat))).run Try.prog W1 = .ok () w8 := hput
            have hdl : fs.length ≤ ((idsL S).map fun i => (F i).2).length := by
              obtain ⟨r, hr⟩ := idsL_pre (S.take k) (S.drop k)
              rw [List.take_append_drop] at hr
              rw [List.length_map, hr, hfsl, hflI]; simp
            have hU8 := hU.grown hg8 (blk_ne_map hU hM); have hB8 := hB.grown hg8 (blk_ne_map hB hM); have hR8 := hR.grown hg8 (blk_ne_map hR hM); have hN8 := hN.grown hg8 (blk_ne_map hN hM)
            have ho8 := own_keep hoN fun q o e => hg8.block q (own_lt2 (by rw [← e]; exact hoN)).2.1 (fun e2 => own_ne_map hoN hM (by rw [e]; exact e2.symm))
            have hf8 := own_keep hoF fun q o e => hg8.block q (own_lt2 (by rw [← e]; exact hoF)).2.1 (fun e2 => own_ne_map hoF hM (by rw [e]; exact e2.symm))
            have hFR8 := hFR.grown hg8 fun i y b hy hyb e2 => by
              have hk9 : i < ((idsL S).map fun i => (F i).2).length := by have := (List.getElem?_eq_some_iff.1 hy).1; omega
              exact own_ne_map (hFR.row i y _ hy (List.getElem?_eq_getElem hk9)).2 hM (by rw [hyb, e2])
            have hb8 := hb.trans (below_grown hg8 hb.size (fun q e => by injection e with e; have := hU.lt; omega))
            have u1 := hU.cell 1
            have n8 := hN8.cell 1
            simp only [Hf.out] at n8
            have b8 := hB8.cell 1
            obtain ⟨fb, fo, y, hFA, hfbl, hy, hyc⟩ := (HFS.out.below hb8 (Nat.le_refl _)).get FC.len Hfl.out hfj
            rw [hFA] at b8
            have y0 := hyc 0 _ rfl; have y1 := hyc 1 _ rfl
            simp only [Nat.add_zero] at y0
            have hids : idsL (S.take (k + 1)) = idsL (S.take k) ++ [(f : Int)] := by rw [Hid1.out, idStep, if_neg (by rw [Hf.out]; exact fun h => h.elim (fun h => by omega) hin), Hf.out]
            have hput9 : ∀ q : Int, getV (putV es (f : Int) (.int .i64 (fl : Nat))) q = if q ∈ idsL (S.take (k + 1)) then some (.int .i64 ((idsL (S.take (k + 1))).idxOf q : Nat)) else none := fun q => by
              rw [putV_get hM.1, hids]
              by_cases e : q = (f : Int)
              · subst e
                rw [if_pos rfl, if_pos (by simp), List.idxOf_append, if_neg hin, hflI]; simp
              · rw [if_neg e, hget q]
                by_cases h9 : q ∈ idsL (S.take k)
                · rw [if_pos h9, if_pos (List.mem_append_left _ h9), List.idxOf_append, if_pos h9]
                · rw [if_neg h9, if_neg (by simp [h9, e])]
            have hlen9 : (putV es (f : Int) (.int .i64 (fl : Nat))).length ≤ k + 1 := by
              unfold putV
              split
              · rw [List.length_map]; omega
              · rw [List.length_append]; simp; omega
            have HM8 := Lib.hid hm8; have HPut := Lib.hid hput9; have HLen9 := Lib.hid hlen9; have Hids := Lib.hid hids; have HN8' := Lib.hid ho8; have HF8 := Lib.hid hf8; have HFR8 := Lib.hid hFR8; have Hfsl := Lib.hid hfsl; have HflI := Lib.hid hflI; have Hfm9 := Lib.hid hfm9; have HDS := Lib.hid hdl; have Hy := Lib.hid hy; have Hgd := Lib.hid hgd
            have hub8 : ub < w8.heap.size := hU8.lt
            clear hlk hput hm8 hs8 hput9 hlen9 hids ho8 hf8 hFR8 hfsl hflI hfm9 hdl hy hgd hoN hoF hFR hes hget hyc hU hB hR hN hFA
            go_upto_region 17 with (fail)
            have hgv := World.grownBy_alloc w8 (.cells #[.int .i64 y.mode, .slice y.A y.n y.c] 39) none
            have hPv := Blk.new w8 39 #[.int .i64 y.mode, .slice y.A y.n y.c]
            obtain ⟨V, hV⟩ : ∃ V, w8.alloc (.cells #[.int .i64 y.mode, .slice y.A y.n y.c] 39) = V := ⟨_, rfl⟩
            obtain ⟨pb, hpb⟩ : ∃ q, w8.heap.size = q := ⟨_, rfl⟩
            rw [hV] at hgv hPv ⊢
            rw [hpb] at hPv ⊢
            have hFlt : ∀ q, blkOf FB = some q → q < pb := fun q e => by
              rw [← hpb]
              rcases FB with _ | ⟨b', o, s⟩
              · cases e
              · simp only [blkOf, Option.some.injEq] at e
                subst e
                exact (own_lt2 HF8.out).2.1
            clear hpb
            have hUv := hU8.grown hgv (by simp); have hBv := hB8.grown hgv (by simp); have hRv := hR8.grown hgv (by simp)
            have hbv := hb8.trans (below_grown hgv hb8.size (fun g e => by cases e))
            have HNv := Lib.hid (own_keep HN8'.out fun q o e => hgv.block q (own_lt2 (by rw [← e]; exact HN8'.out)).2.1 (by simp))
            have HFv := Lib.hid (own_keep HF8.out fun q o e => hgv.block q (own_lt2 (by rw [← e]; exact HF8.out)).2.1 (by simp))
            have HRv := Lib.hid (HFR8.out.grown hgv (fun k f b _ _ e => by cases e))
            have HMv := Lib.hid (HM8.out.kept hgv (by simp))
            clear hV hgv hU8 hB8 hR8 hN8 hb8 HN8' HF8 HFR8 HM8 u1 n8 b8 y0 y1 hfbl hrun hputr
            obtain ⟨d, hd, hdn, hds⟩ := HD.out.get Hy.out
            have hyn : y.n ≤ 8192 := HSM.out y (List.mem_of_getElem? Hy.out)
            have hFf : F (f : Int) = (y.mode, d) := by
              rw [← HF.out]
              simp only [treeF, Int.toNat_natCast, Hy.out, hd, Option.map_some, Option.getD_some]
            have HFf := Lib.hid hFf; have HDN := Lib.hid hdn; have HDs := Lib.hid hds
            have hfl6 : fl ≤ 256 := by
              have h1 := HflI.out
              have h2 := idsL_le (S.take k)
              rw [List.length_take] at h2
              omega
            have hws1 := hbv.size
            have u1 := hUv.cell 1
            have p0 := hPv.cell 0; have p1 := hPv.cell 1
            have hUl1 := hUv.lt; have hPl := hPv.lt; have hBl1 := hBv.lt; have hRl1 := hRv.lt
            have hneU : ¬ some ub = blkOf FB := hUv.ne_row HFv.out (by decide)
            have hneP : ¬ some pb = blkOf FB := fun e => absurd (hFlt pb e.symm) (Nat.lt_irrefl _)
            clear hd hdn hds hFf
            refine wp_region_ordG (blkOf FB) [(0, true), (1, true), (2, true), (3, true), (4, true), (5, true), (6, false), (7, true), (8, false), (9, false), (10, true)] 11 (by kernel_rfl) (by kernel_rfl) fun hG0 => ?_
            repeat (first
              | (refine ord_skipB rfl (by rfl) ?_; simp only [Act.put, List.setIfInBounds_toArray, List.set_cons_zero, List.set_cons_succ])
              | (refine ord_qE rfl (by rfl) ?_; apply Exists.intro; refine ⟨fun w' hc' => ?_, ?_⟩; (focus (go_simp; (try go_bits); (try simp only [↓IntWalk.iteOmega]); with_reducible rfl)); simp only [Act.put, List.setIfInBounds_toArray, List.set_cons_zero, List.set_cons_succ]))
            refine ord_eB rfl fun K hK => ?_
            go_wp2_with (go_at_call 71; refine (clone_any d y.A y.n y.c _ HDN.out (by omega) (HDs.out.keep hbv.drew.size hbv.drew.block)).mono ?_; rintro e w9 ⟨A4, c4, rfl, ho9, hb9⟩)
            have hG1 := grown_trans hG0 (grown_any (grown_below hb9 (Nat.le_refl _)))
            refine hK.out _ _ hG1 ?_
            clear hK K
            repeat (first
              | (refine ord_skipB rfl (by rfl) ?_; simp only [Act.put, List.setIfInBounds_toArray, List.set_cons_zero, List.set_cons_succ])
              | (refine ord_qE rfl (by rfl) ?_; apply Exists.intro; refine ⟨fun w' hc' => ?_, ?_⟩; (focus (go_simp; (try go_bits); (try simp only [↓IntWalk.iteOmega]); with_reducible rfl)); simp only [Act.put, List.setIfInBounds_toArray, List.set_cons_zero, List.set_cons_succ]))
            have hg9 : V.grownBy w9 none := grown_trans (grown_drew V none) (grown_below hb9 (Nat.le_refl _))
            have HF9 := Lib.hid (own_keep HFv.out fun q o e => hg9.block q (own_lt2 (by rw [← e]; exact HFv.out)).2.1 (by simp))
            repeat (first
              | (refine ord_skipB rfl (by rfl) ?_; simp only [Act.put, List.setIfInBounds_toArray, List.set_cons_zero, List.set_cons_succ])
              | (refine ord_qE rfl (by rfl) ?_; apply Exists.intro; refine ⟨fun w' hc' => ?_, ?_⟩; (focus (go_simp; (try go_bits); (try simp only [↓IntWalk.iteOmega]); with_reducible rfl)); simp only [Act.put, List.setIfInBounds_toArray, List.set_cons_zero, List.set_cons_succ]))
            refine ord_eB rfl fun K hK => ?_
            go_wp2_with (fail)
            have hG2 := grown_trans hG1 (World.grownBy_alloc w9 (.cells #[.int .i64 y.mode, .slice A4 y.n c4] 39) (blkOf FB))
            refine hK.out _ _ hG2 ?_
            clear hK K
            repeat (first
              | (refine ord_skipB rfl (by rfl) ?_; simp only [Act.put, List.setIfInBounds_toArray, List.set_cons_zero, List.set_cons_succ])
              | (refine ord_qE rfl (by rfl) ?_; apply Exists.intro; refine ⟨fun w' hc' => ?_, ?_⟩; (focus (go_simp; (try go_bits); (try simp only [↓IntWalk.iteOmega]); with_reducible rfl)); simp only [Act.put, List.setIfInBounds_toArray, List.set_cons_zero, List.set_cons_succ]))
            refine ord_eB rfl fun K hK => ?_
            go_wp2_with (at_builtin; refine wpList_append_one rfl _ _ _ rfl Try.fileT rfl HF9.out #[.int .i64 y.mode, .slice A4 y.n c4] rfl (by simp) rfl (file_one _ _ _ _) (by unfold maxLen; omega) (by omega) (Nat.le_trans hws1 hG1.size) ?_; intro g6 c6 w6 ho6 hg6 hat6)
            have hG3 := grown_trans hG1 hg6
            refine hK.out _ _ hG3 ?_
            clear hK K
            repeat (first
              | (refine ord_skipB rfl (by rfl) ?_; simp only [Act.put, List.setIfInBounds_toArray, List.set_cons_zero, List.set_cons_succ])
              | (refine ord_qE rfl (by rfl) ?_; apply Exists.intro; refine ⟨fun w' hc' => ?_, ?_⟩; (focus (go_simp; (try go_bits); (try simp only [↓IntWalk.iteOmega]); with_reducible rfl)); simp only [Act.put, List.setIfInBounds_toArray, List.set_cons_zero, List.set_cons_succ]))
            have hU6 := hUv.grown hG3 hneU
            have q1 := hU6.cell 1
            have q1f := hU6.frozen 1
            refine ord_tail rfl fun K hK => ?_
            go_wp2_with (fail)
            refine hK.out _ _ ?_
            clear hK K
            have hB6 := hBv.grown hG3 (hBv.ne_row HFv.out (by decide)); have hR6 := hRv.grown hG3 (hRv.ne_row HFv.out (by decide))
            have hN6 := own_keep HNv.out fun q o e => hG3.block q (own_lt2 (by rw [← e]; exact HNv.out)).2.1 (row_ne_row HNv.out HFv.out (by decide) (by rw [e]; rfl))
            have hRw9 := HRv.out.grown hg9 (fun k f b _ _ e => by cases e)
            have hRw6 := hRw9.grown hg6 (hRw9.not_row HDS.out HF9.out (by decide))
            have hA6 := own_low (base' := w.heap.size) (own_keep ho9 fun q o e => hg6.block q (own_lt2 (by rw [← e]; exact ho9)).2.1 (row_ne_row ho9 HF9.out (by decide) (by rw [e]; rfl))) hws1
            have hM9 := HMv.out.kept hg9 (by simp)
            have hM6 := hM9.kept hg6 (own_ne_map HF9.out hM9)
            have hb6 := hbv.trans (below_grown hG3 hbv.size (fun q e => own_blk1 HFv.out q e))
            have hlow : ∀ b, blkOf A4 = some b → b < w6.heap.size ∧ ∀ (k : Nat) (g : FC), fs[k]? = some g → blkOf g.A ≠ some b := fun b hb => by
              refine ⟨?_, fun k g hk hg => ?_⟩
              · have h1 : b < w9.heap.size := by
                  rcases A4 with _ | ⟨b', o, s⟩
                  · cases hb
                  · simp only [blkOf, Option.some.injEq] at hb
                    subst hb
                    exact (own_lt2 ho9).2.1
                exact Nat.lt_of_lt_of_le h1 hg6.size
              · have h1 : V.heap.size ≤ b := own_blk1 ho9 b hb
                have := HRv.out.low k g b hk hg
                omega
            have hpre : ∃ r, idsL S = idsL (S.take (k + 1)) ++ r := by
              obtain ⟨r, hr⟩ := idsL_pre (S.take (k + 1)) (S.drop (k + 1))
              rw [List.take_append_drop] at hr
              exact ⟨r, hr⟩
            have hdl1 : ((idsL S).map fun i => (F i).2)[fs.length]? = some d := by
              obtain ⟨r, hr⟩ := hpre
              rw [hr, Hids.out, List.getElem?_map, List.append_assoc, Hfsl.out, HflI.out, List.getElem?_append_right (Nat.le_refl _), Nat.sub_self]
              simp [HFf.out]
            have hR7 := hRw6.snoc (f := ⟨y.mode, A4, y.n, c4⟩) hdl1 HDN.out.symm hA6 hlow
            have hdl2 : (fs ++ [(⟨y.mode, A4, y.n, c4⟩ : FC)]).length ≤ ((idsL S).map fun i => (F i).2).length := by
              obtain ⟨r, hr⟩ := hpre
              rw [List.length_append, List.length_map, hr, List.length_append, Hids.out, List.length_append, Hfsl.out, HflI.out]
              simp
            have hfs2 : (fs ++ [(⟨y.mode, A4, y.n, c4⟩ : FC)]).flatMap FC.list = fs.flatMap FC.list ++ [.int .i64 y.mode, .slice A4 y.n c4] := by simp [FC.list]
            have kU := hU6.set 1 (.slice (some ⟨g6, 0, none⟩) (fl + 1) c6)
            have kN := own_blkset hN6 hU6 (by decide) 1 (.slice (some ⟨g6, 0, none⟩) (fl + 1) c6)
            have kF : (w6.setCell ⟨ub, 1, none⟩ (.slice (some ⟨g6, 0, none⟩) (fl + 1) c6)).ownsRow w.heap.size 39 2 (.slice (some ⟨g6, 0, none⟩) (fl + 1) c6) (fl + 1) ((fs ++ [(⟨y.mode, A4, y.n, c4⟩ : FC)]).flatMap FC.list) := by rw [hfs2]; exact own_blkset ho6 hU6 (by decide) 1 _
            have kR := hR7.blkset hdl2 hU6 (by decide) 1 (.slice (some ⟨g6, 0, none⟩) (fl + 1) c6)
            have kB := hB6.set_ne ⟨ub, 1, none⟩ (.slice (some ⟨g6, 0, none⟩) (fl + 1) c6) (by show w.heap.size ≠ ub; omega)
            have kRb := hR6.set_ne ⟨ub, 1, none⟩ (.slice (some ⟨g6, 0, none⟩) (fl + 1) c6) (by show w.heap.size + 1 ≠ ub; omega)
            have kb := hb6.setCell (p := ⟨ub, 1, none⟩) (by show w.heap.size ≤ ub; omega) (.slice (some ⟨g6, 0, none⟩) (fl + 1) c6)
            have kM := hM6.keep (heap_setCell_other w6 ⟨ub, 1, none⟩ (ub + 1) (.slice (some ⟨g6, 0, none⟩) (fl + 1) c6) (by show ub + 1 ≠ ub; omega))
            have hre : reN (idsL (S.take (k + 1))) x = ⟨x.path, (fl : Int), x.mode, x.hp⟩ := by
              have hnin : (f : Int) ∉ idsL (S.take k) := hin
              rw [reN, if_neg (by rw [Hf.out]; omega), Hids.out, Hf.out, List.idxOf_append, if_neg hnin, HflI.out]; simp
            obtain ⟨V2, hV2⟩ : ∃ V2, w6.setCell ⟨ub, 1, none⟩ (.slice (some ⟨g6, 0, none⟩) (fl + 1) c6) = V2 := ⟨_, rfl⟩
            rw [hV2] at kN kF kR kB kRb kb kM ⊢
            replace kU := hV2 ▸ kU
            have hnext : CanAt w (V2.setCell ⟨g, k * 3 + 1, none⟩ (.int .i64 (fl : Nat))) #[.slice NA nn nc, .slice FA fn fc] ub (ub + 1) nn fn (some ⟨g, 0, none⟩) c3 S F (k + 1) :=
              CanAt.renumber Hx.out hre kU kN kF (by rw [List.length_append, Hfsl.out]; rfl) (by rw [Hids.out, List.length_append, ← HflI.out]; rfl) (by rw [Hids.out, List.map_append, List.map_append, Hfm9.out]; simp [HFf.out]) kR ⟨_, kM, HLen9.out, HPut.out⟩ (fun y hy => Hgd2.out y hy Hgd.out) kB kRb kb
            have HNext := Lib.hid hnext
            have u0 := kU.cell 0
            have q9 := (own_row kN).1 (k * 3 + 1) _ (flat_get Node.len (mix_get Hx.out) (j := 1) (by omega))
            rw [Nat.zero_add] at q9
            obtain ⟨curN, hNc⟩ := own_cur kN
            have f9 := hNc.frozen (k * 3 + 1)
            have hgl := hNc.lt
            clear hV2 hnext kN kF kR kB kRb kb kM hre hfs2 hdl2 hR7 hdl1 hpre hlow hb6 hM6 hM9 hA6 hRw6 hRw9 hN6 hB6 hR6 hNc u1 p0 p1 q1 q1f hG0 hG1 hG2 hG3 hg9 hg6 ho6 ho9 hat6
            go_wp2
            go_roundw
            case rel => exact ⟨k + 1, by omega, by go_num, HNext.out⟩
            case measure => simp [intOf]; omega
        · obtain rfl : k = nn := by omega
          have hki : ¬ ((k : Nat) : Int) < k := by omega
          obtain ⟨FB, fd, fl, fs, hU, hoN, hoF, hfsl, hflI, hfm9, hFR, hI, hgd, hB, hR, hb⟩ := hC
          have hta : S.take k = S := List.take_of_length_le (by rw [Hli.out]; exact Nat.le_refl _)
          rw [hta] at hflI hfm9 hgd
          rw [mix_all Hli.out] at hoN
          have hCn : Canoned nodes F w.heap.size wr S ⟨S.map (reN (idsL S)), fs, A3, k, c3, FB, fl, fd⟩ := ⟨HP.out, HSrt.out, rfl, Hli.out.symm, hflI, hfsl, hfm9, hoN, hoF, hFR⟩
          have HC := Lib.hid hCn
          have hloose := loose_any _ wr hCn.tree.tree
          have hbf : ∀ x ∈ nodes, badFile fn x = false := fun x hx => hgd x (HP.out.mem_iff.2 hx)
          have Hbf := Lib.hid hbf
          have u0 := hU.cell 0; have u1 := hU.cell 1
          obtain ⟨E, hE⟩ : ∃ E, looseE ⟨S.map (reN (idsL S)), fs, A3, k, c3, FB, fl, fd⟩ = E := ⟨_, rfl⟩
          rw [hE] at hloose
          unfold TV.val at hloose
          have HL := Lib.hid hloose; have HE := Lib.hid hE
          clear hCn hta hbf hloose hE hoN hoF hfsl hflI hfm9 hFR hI hgd
          by_cases h0 : E = 0
          · have h0b : (E == 0) = true := beq_iff_eq.2 h0
            have H0' := Lib.hid h0; clear h0
            go_wp2_with (first | (go_at_call 16; refine HL.out.mono ?_; rintro e w3 ⟨rfl, hb3⟩; have HC3 := Lib.hid (HC.out.move (grown_below hb3 (Nat.le_refl _) (row := none)) (fun _ e => by cases e)); replace hR := hR.below hb3 hR.lt; replace hU := hU.below hb3 hU.lt; have v0 := hU.cell 0; have v1 := hU.cell 1; replace hb := hb.trans (hb3.mono hb.size)) | (refine wpList_store_blk rfl 26 (.tmp 2) (.tmp 89) rfl hR #[.slice A3 k c3, .slice FB fl fd] rfl rfl (by kernel_rfl) rfl (by simp [Value.oneCell']) ?_; intro w7 hB7 hg7 hs7))
            exact ret_cell_t rfl rfl (load_blk hB7 Try.underlying26 rfl (by kernel_rfl)) rfl ⟨hb.trans (below_grown hg7 hb.size (fun g e => by injection e with e; omega)), ⟨S.map (reN (idsL S)), fs, A3, k, c3, FB, fl, fd⟩, 0, rfl, .inr (.inr ⟨rfl, Hbb.out, Hbf.out, S, by rw [HF.out]; exact HC3.out.move hg7 (fun rb e => by injection e with e; subst e; exact ⟨_, hR⟩), HE.out.trans H0'.out⟩)⟩
          · have h0b : (E == 0) = false := beq_eq_false_iff_ne.2 h0
            have H0' := Lib.hid h0; clear h0
            go_wp2_with (go_at_call 16; refine HL.out.mono ?_; rintro e w3 ⟨rfl, hb3⟩; replace hR := hR.below hb3 hR.lt; replace hb := hb.trans (hb3.mono hb.size))
            refine wp_label ?_
            go_wp2_with (refine wpList_store_blk rfl 26 (.tmp 2) (.tmp 90) rfl hR #[.slice none 0 0, .slice none 0 0] rfl rfl (by kernel_rfl) rfl (by simp [Value.oneCell']) ?_; intro w7 hB7 hg7 hs7)
            exact ret_cell_t rfl rfl (load_blk hB7 Try.underlying26 rfl (by kernel_rfl)) rfl ⟨hb.trans (below_grown hg7 hb.size (fun g e => by injection e with e; omega)), ⟨[], [], none, 0, 0, none, 0, 0⟩, 30, rfl, .inr (.inl ⟨rfl, Hbb.out, rfl, .inr ⟨S, _, wr, by rw [HF.out]; exact HC.out, fun h => H0'.out (HE.out.symm.trans h)⟩⟩)⟩
end Go.Proofs.Ytdjlchbgdehccaa
