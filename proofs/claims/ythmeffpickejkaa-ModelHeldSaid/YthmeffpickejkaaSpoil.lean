/- shuntlaw6.Spoil: a tree of the caller's own is written over; nothing else is. -/
import Derived.Test.YthmeffpickejkaaCanonP
import Derived.Test.YthmeffpickejkaaKit
namespace Go.Proofs.Ythmeffpickejkaa
open Go.RowKit

/-- Rows of bytes of the caller's own, each in a block of its own. -/
structure SpRows (w : World) (base : Nat) (fs : List FC) : Prop where
  row : ∀ (k : Nat) (f : FC), fs[k]? = some f → ∃ xs : List Int, w.ownsRow base 5 1 (.slice f.A f.n f.c) f.n (xs.map (Value.int .u8))
  apart : ∀ (i j : Nat) (f g : FC), fs[i]? = some f → fs[j]? = some g → i ≠ j → ∀ b, blkOf f.A = some b → blkOf g.A ≠ some b
theorem SpRows.of {w : World} {base : Nat} {fs : List FC} {ds : List ByteArray} (h : FRows w base fs ds) (hl : ds.length = fs.length) : SpRows w base fs :=
  ⟨fun k f hf => by
    have hk : k < ds.length := by have := (List.getElem?_eq_some_iff.1 hf).1; omega
    have := (h.row k f _ hf (List.getElem?_eq_getElem hk)).2
    exact ⟨ds[k].data.toList.map fun b => (b.toNat : Int), by rw [List.map_map]; exact this⟩, h.apart⟩
theorem SpRows.keep {w w' : World} {base : Nat} {fs : List FC} (h : SpRows w base fs) (hk : ∀ (k : Nat) (f : FC) (b : Nat), fs[k]? = some f → blkOf f.A = some b → w'.heap[b]? = w.heap[b]?) : SpRows w' base fs :=
  ⟨fun k f hf => by
    obtain ⟨xs, h1⟩ := h.row k f hf
    exact ⟨xs, own_keep h1 fun g o e => hk k f g hf (by rw [e]; rfl)⟩, h.apart⟩
/-- A row of another kind is written over. -/
theorem SpRows.grown {w w' : World} {base : Nat} {fs : List FC} {base' e' sz' n' c' : Nat} {A' : Option Addr} {L' : List Value} (h : SpRows w base fs) (ho : w.ownsRow base' e' sz' (.slice A' n' c') n' L') (hne : 5 ≠ e') (hg : w.grownBy w' (blkOf A')) : SpRows w' base fs :=
  h.keep fun k f b hf hb => by
    obtain ⟨xs, h1⟩ := h.row k f hf
    refine hg.block b ?_ (row_ne_row h1 ho hne hb)
    rcases hA : f.A with _ | ⟨b', o, s⟩
    · rw [hA] at hb; cases hb
    · rw [hA] at hb h1
      simp only [blkOf, Option.some.injEq] at hb
      subst hb
      exact (own_lt2 h1).2.1
/-- A byte is written over. -/
theorem SpRows.set {w : World} {base : Nat} {fs : List FC} {k i g : Nat} {f : FC} (h : SpRows w base fs) (hf : fs[k]? = some f) (hA : f.A = some ⟨g, 0, none⟩) (v : Int) : SpRows (w.setCell ⟨g, i, none⟩ (.int .u8 v)) base fs := by
  refine ⟨fun k' f' hf' => ?_, h.apart⟩
  obtain ⟨xs, h1⟩ := h.row k' f' hf'
  by_cases e : k' = k
  · subst e
    obtain rfl : f = f' := by rw [hf] at hf'; exact Option.some.inj hf'
    rw [hA] at h1
    rw [hA]
    refine ⟨xs.set i v, ?_⟩
    rw [List.map_set]
    exact setc_own h1 _
  · exact ⟨xs, own_keep h1 fun g' o e2 => heap_setCell_other w _ g' _ (fun e3 => h.apart k' k f' f hf' hf e g' (by rw [e2]; rfl) (by rw [hA, e3]; rfl))⟩
theorem SpRows.drew' {w : World} {base : Nat} {fs : List FC} (h : SpRows w base fs) : SpRows w.drew base fs := ⟨h.row, h.apart⟩
theorem SpRows.mode {w : World} {base : Nat} {fs : List FC} (h : SpRows w base fs) {k : Nat} {f : FC} (hk : fs[k]? = some f) (m : Int) : SpRows w base (fs.set k ⟨m, f.A, f.n, f.c⟩) := by
  have key : ∀ (i : Nat) (g : FC), (fs.set k ⟨m, f.A, f.n, f.c⟩)[i]? = some g → ∃ g', fs[i]? = some g' ∧ g.A = g'.A ∧ g.n = g'.n ∧ g.c = g'.c := fun i g hg => by
    rw [List.getElem?_set] at hg
    by_cases e : k = i
    · subst e
      rw [if_pos rfl, if_pos (List.getElem?_eq_some_iff.1 hk).1] at hg
      simp only [Option.some.injEq] at hg
      subst hg
      exact ⟨f, hk, rfl, rfl, rfl⟩
    · rw [if_neg e] at hg; exact ⟨g, hg, rfl, rfl, rfl⟩
  refine ⟨fun i g hg => ?_, fun i j g1 g2 h1 h2 hij b hb => ?_⟩
  · obtain ⟨g', h1, e1, e2, e3⟩ := key i g hg
    rw [e1, e2, e3]; exact h.row i g' h1
  · obtain ⟨g1', k1, e1, _⟩ := key i g1 h1
    obtain ⟨g2', k2, e2, _⟩ := key j g2 h2
    rw [e1] at hb; rw [e2]; exact h.apart i j g1' g2' k1 k2 hij b hb
theorem setCell_grown (w : World) (a : Addr) (v : Value) : w.grownBy (w.setCell a v) (some a.block) :=
  ⟨rfl, rfl, rfl, by simp [World.setCell], fun k _ hne => heap_setCell_other w a k v fun e => hne (by rw [e])⟩
/-- What lies from a block on is as it was. -/
def Mid (top : Nat) (w wr : World) : Prop := w.heap.size ≤ wr.heap.size ∧ ∀ k, top ≤ k → k < w.heap.size → wr.heap[k]? = w.heap[k]?
theorem Mid.grown {top : Nat} {w a b : World} {row : Option Nat} (h : Mid top w a) (hg : a.grownBy b row) (hr : ∀ k, row = some k → k < top) : Mid top w b :=
  ⟨Nat.le_trans h.1 hg.size, fun k hk hl => (hg.block k (Nat.lt_of_lt_of_le hl h.1) fun e => by have := hr k e.symm; omega).trans (h.2 k hk hl)⟩
theorem Mid.setCell {top : Nat} {w a : World} (h : Mid top w a) (p : Addr) (v : Value) (hp : p.block < top) : Mid top w (a.setCell p v) := h.grown (setCell_grown a p v) fun k e => by injection e with e; omega
theorem Mid.drew {top : Nat} {w a : World} (h : Mid top w a) : Mid top w a.drew := h
/-- The rows of the files' bytes lie below a block. -/
def LowF (top : Nat) (gs : List FC) : Prop := ∀ (k : Nat) (f : FC) (b : Nat), gs[k]? = some f → blkOf f.A = some b → b < top
theorem LowF.set {top : Nat} {gs : List FC} (h : LowF top gs) {j : Nat} {f : FC} (hj : gs[j]? = some f) (m : Int) : LowF top (gs.set j ⟨m, f.A, f.n, f.c⟩) := by
  intro k g b hg hb
  rw [List.getElem?_set] at hg
  by_cases e : j = k
  · subst e
    rw [if_pos rfl, if_pos (List.getElem?_eq_some_iff.1 hj).1] at hg
    simp only [Option.some.injEq] at hg
    subst hg
    exact h j f b hj hb
  · rw [if_neg e] at hg; exact h k g b hg hb
def SpAt (w wr : World) (base top : Nat) (tv : Array Value) (NA : Option Addr) (nn nc : Nat) (FA : Option Addr) (fn fc : Nat) : Prop :=
  ∃ (L : List Value) (gs : List FC), wr.ownsRow base 48 3 (.slice NA nn nc) nn L ∧ wr.ownsRow base 52 2 (.slice FA fn fc) fn (gs.flatMap FC.list) ∧ gs.length = fn ∧ SpRows wr base gs ∧ Blk wr w.heap.size 25 tv ∧ Below base w wr ∧ Mid top w wr ∧ LowF top gs
theorem spoil_cells_one : ∀ u ∈ (#[.string ⟨#[63]⟩, .int .i64 (-9), .int .i64 (-9)] : Array Value).toList, u.oneCell' = true := by
  intro u hu
  simp only [List.mem_cons, List.not_mem_nil, or_false] at hu
  rcases hu with rfl | rfl | rfl <;> rfl
set_option maxRecDepth 100000 in
set_option maxHeartbeats 4000000 in
theorem spoil_mid (t : TV) (ds : List ByteArray) (base top : Nat) (w : World) (hN : w.ownsRow base 48 3 (.slice t.NA t.nn t.nc) t.nn (t.nodes.flatMap Node.list)) (hF : w.ownsRow base 52 2 (.slice t.FA t.fn t.fc) t.fn (t.files.flatMap FC.list)) (hl : t.files.length = t.fn) (hdl : ds.length = t.files.length)
    (hR : FRows w base t.files ds) (hb : base ≤ w.heap.size) (hn1 : t.nn ≤ 100000) (hf1 : t.fn ≤ 100000) (hsm : ∀ x ∈ t.files, x.n ≤ 1000000)
    (hNt : ∀ b, blkOf t.NA = some b → b < top) (hFt : ∀ b, blkOf t.FA = some b → b < top) (hRt : LowF top t.files) :
    Calls Try.prog 22 #[t.val] w fun e w' => (∃ v, e = .returned v) ∧ Below base w w' ∧ Mid top w w' := by
  have hS := SpRows.of hR hdl
  obtain ⟨nodes, files, NA, nn, nc, FA, fn, fc⟩ := t
  simp only at hN hF hl hn1 hf1 hS hsm hNt hFt hRt
  unfold TV.val
  have hB := Blk.new w 25 #[.slice NA nn nc, .slice FA fn fc]
  have hg0 := World.grownBy_alloc w (.cells #[.slice NA nn nc, .slice FA fn fc] 25) none
  have h0 : SpAt w (w.alloc (.cells #[.slice NA nn nc, .slice FA fn fc] 25)) base top #[.slice NA nn nc, .slice FA fn fc] NA nn nc FA fn fc :=
    ⟨_, files, own_keep hN fun g o e => hg0.block g (own_lt2 (by rw [← e]; exact hN)).2.1 (by simp), own_keep hF fun g o e => hg0.block g (own_lt2 (by rw [← e]; exact hF)).2.1 (by simp), hl, hS.grown hN (by decide) (grown_any hg0), hB, below_grown hg0 hb (fun g e => by cases e), ⟨hg0.size, fun k _ hk => hg0.block k hk (by simp)⟩, hRt⟩
  have H0 := Lib.hid h0
  have HNt := Lib.hid hNt; have HFt := Lib.hid hFt
  clear h0 hg0 hB hN hF hS hR hdl hl hNt hFt hRt
  go_enter Try.func22, Try.ntmps22
  go_wp2
  go_loopw [2] (fun v wr => ∃ i : Nat, i ≤ nn ∧ v = .int .i64 i ∧ SpAt w wr base top #[.slice NA nn nc, .slice FA fn fc] NA nn nc FA fn fc) (fun v _ => nn - (intOf v).toNat)
  case atStart => exact ⟨0, Nat.zero_le _, rfl, H0.out⟩
  case round =>
    clear H0
    obtain ⟨i, hi, rfl, L, gs, hoN, hoF, hgl, hSR, hB, hbw, hmd, hlw⟩ := hrel
    have HoN := Lib.hid hoN; have HoF := Lib.hid hoF; have Hgl := Lib.hid hgl; have HSR := Lib.hid hSR; have HMd := Lib.hid hmd; have HLw := Lib.hid hlw
    clear hoN hoF hgl hSR hmd hlw
    have b0 := hB.cell 0
    by_cases hlt : i < nn
    · have hki : (i : Int) < nn := by omega
      obtain ⟨g, rfl⟩ := own_some HoN.out (by omega)
      have hone := spoil_cells_one
      go_wp2_with (refine wpList_store_own (sz := 3) (k := i) (off := i * 3) rfl 48 _ _ rfl HoN.out hlt rfl rfl #[.string ⟨#[63]⟩, .int .i64 (-9), .int .i64 (-9)] rfl rfl (by kernel_rfl) hone ?_; intro w5 ho5 hg5)
      go_roundw
      case rel => exact ⟨i + 1, by omega, by go_num, _, gs, ho5, own_keep HoF.out fun g' o e => hg5.block g' (own_lt2 (by rw [← e]; exact HoF.out)).2.1 (row_ne_row HoF.out HoN.out (by decide) (by rw [e]; rfl)), Hgl.out, HSR.out.grown HoN.out (by decide) hg5, hB.grown hg5 (hB.ne_row HoN.out (by decide)), hbw.trans (below_grown hg5 (Nat.le_trans hb hbw.size) (fun g' e => own_blk1 HoN.out g' e)), HMd.out.grown hg5 (fun k e => HNt.out k e), HLw.out⟩
      case measure => simp [intOf]; omega
    · obtain rfl : i = nn := by omega
      have hki : ¬ (i : Int) < i := by omega
      have H1 := Lib.hid (show SpAt w wr base top #[.slice NA i nc, .slice FA fn fc] NA i nc FA fn fc from ⟨L, gs, HoN.out, HoF.out, Hgl.out, HSR.out, hB, hbw, HMd.out, HLw.out⟩)
      clear HoN HoF Hgl HSR hB hbw HMd HLw
      go_wp2
      go_loopw [3] (fun v wr => ∃ j : Nat, j ≤ fn ∧ v = .int .i64 j ∧ SpAt w wr base top #[.slice NA i nc, .slice FA fn fc] NA i nc FA fn fc) (fun v _ => fn - (intOf v).toNat)
      case atStart => exact ⟨0, Nat.zero_le _, rfl, H1.out⟩
      case round =>
        clear H1 b0
        obtain ⟨j, hj, rfl, L, gs, hoN, hoF, hgl, hSR, hB, hbw, hmd, hlw⟩ := hrel
        have HoN := Lib.hid hoN; have HoF := Lib.hid hoF; have Hgl := Lib.hid hgl; have HSR := Lib.hid hSR; have HMd := Lib.hid hmd; have HLw := Lib.hid hlw
        clear hoN hoF hgl hSR hmd hlw
        have b1 := hB.cell 1
        by_cases hlt2 : j < fn
        · have hkj : (j : Int) < fn := by omega
          have H2 := Lib.hid (show SpAt w wr base top #[.slice NA i nc, .slice FA fn fc] NA i nc FA fn fc from ⟨L, gs, HoN.out, HoF.out, Hgl.out, HSR.out, hB, hbw, HMd.out, HLw.out⟩)
          clear HoN HoF Hgl HSR hB hbw HMd HLw
          go_wp2
          go_loopw [4] (fun v wr => ∃ (k : Nat), k ≤ 9223372036854775807 ∧ v = .int .i64 k ∧ SpAt w wr base top #[.slice NA i nc, .slice FA fn fc] NA i nc FA fn fc) (fun v _ => 9223372036854775807 - (intOf v).toNat)
          case atStart => exact ⟨0, Nat.zero_le _, rfl, H2.out⟩
          case round =>
            clear H2 b1
            obtain ⟨k, hk, rfl, L, gs, hoN, hoF, hgl, hSR, hB, hbw, hmd, hlw⟩ := hrel
            have HoN := Lib.hid hoN; have HoF := Lib.hid hoF; have Hgl := Lib.hid hgl; have HSR := Lib.hid hSR; have HMd := Lib.hid hmd; have HLw := Lib.hid hlw
            clear hoN hoF hgl hSR hmd hlw
            have b1 := hB.cell 1
            obtain ⟨g2, rfl⟩ := own_some HoF.out (by omega)
            obtain ⟨y, hy⟩ : ∃ y, gs[j]? = some y := ⟨_, List.getElem?_eq_getElem (by rw [Hgl.out]; exact hlt2)⟩
            have c0 := (own_row HoF.out).1 (j * 2 + 0) _ (flat_get FC.len hy (j := 0) (by omega))
            have c1 := (own_row HoF.out).1 (j * 2 + 1) _ (flat_get FC.len hy (j := 1) (by omega))
            simp only [Nat.zero_add, Nat.add_zero] at c0 c1
            have Hy := Lib.hid hy
            clear hy
            obtain ⟨ym, yA, yn, yc⟩ := y
            simp only at c0 c1
            by_cases hlt3 : k < yn
            · have hkk : (k : Int) < yn := by omega
              obtain ⟨xs, ho⟩ := HSR.out.row j _ Hy.out
              simp only at ho
              obtain ⟨g3, rfl⟩ := own_some ho (by omega)
              have hxl := ho.1
              rw [List.length_map] at hxl
              obtain ⟨v, hv⟩ : ∃ v, xs[k]? = some v := ⟨_, List.getElem?_eq_getElem (by omega)⟩
              have d0 := (own_row ho).1 k (.int .u8 v) (by rw [List.getElem?_map, hv]; rfl)
              simp only [Nat.zero_add] at d0
              obtain ⟨cur, hBc⟩ := own_cur ho
              have f9 := hBc.frozen k
              have hgb := (own_row ho).2.1
              have hnm := (own_row ho).2.2.2
              have hg3l := hBc.lt
              have hg2l := (own_row HoF.out).2.2.1
              have hBl := hB.lt
              unfold maxLen at hnm
              have Ho := Lib.hid ho
              clear ho hv hxl
              go_upto_region 11 with (fail)
              refine wp_region_ordG (none) [(0, true), (1, true), (2, true), (3, true), (4, true), (5, true), (6, true), (7, true), (8, true), (9, true), (10, true), (11, true), (12, true), (13, true), (14, true), (15, true), (16, true), (17, true)] 18 (by kernel_rfl) (by kernel_rfl) fun hG0 => ?_
              repeat (first
                | (refine ord_skipB rfl (by rfl) ?_; simp only [Act.put, List.setIfInBounds_toArray, List.set_cons_zero, List.set_cons_succ])
                | (refine ord_qE rfl (by rfl) ?_; apply Exists.intro; refine ⟨fun w' hc' => ?_, ?_⟩; (focus (go_simp; (try go_bits); (try simp only [↓IntWalk.iteOmega]); with_reducible rfl)); simp only [Act.put, List.setIfInBounds_toArray, List.set_cons_zero, List.set_cons_succ]))
              refine ord_tail rfl fun K hK => ?_
              go_wp2_with (fail)
              refine hK.out _ _ ?_
              clear hK K
              have hub : w.heap.size ≠ g3 := fun e => by subst e; exact hB.ne_row Ho.out (by decide) rfl
              go_wp2
              go_roundw
              case rel => exact ⟨k + 1, by omega, by go_num, L, gs, own_drew (own_blkset HoN.out hBc (by decide) _ _), own_drew (own_blkset HoF.out hBc (by decide) _ _), Hgl.out, (HSR.out.set Hy.out rfl _).drew', hB.set_ne _ _ hub, (hbw.setCell (p := ⟨g3, k, none⟩) hgb _).drew, (HMd.out.setCell ⟨g3, k, none⟩ _ (HLw.out j _ g3 Hy.out rfl)).drew, HLw.out⟩
              case measure => simp [intOf]; omega
            · have hkk : ¬ (k : Int) < yn := by omega
              obtain ⟨cur, hBc⟩ := own_cur HoF.out
              have f9 := hBc.frozen (j * 2)
              have hgl := hBc.lt
              have hub : w.heap.size ≠ g2 := fun e => by subst e; exact hB.ne_row HoF.out (by decide) rfl
              go_wp2
              go_roundw
              case rel =>
                refine ⟨j + 1, by omega, by go_num, L, gs.set j ⟨-9, yA, yn, yc⟩, own_blkset HoN.out hBc (by decide) _ _, ?_, by rw [List.length_set]; exact Hgl.out, (HSR.out.grown HoF.out (by decide) (setCell_grown wr ⟨g2, j * 2, none⟩ (.int .i64 (-9)))).mode Hy.out (-9), hB.set_ne _ _ hub, hbw.setCell (p := ⟨g2, j * 2, none⟩) (own_row HoF.out).2.1 _, HMd.out.setCell ⟨g2, j * 2, none⟩ _ (HFt.out g2 rfl), HLw.out.set Hy.out (-9)⟩
                have h := setc_own (i := j * 2 + 0) HoF.out (.int .i64 (-9))
                rw [flat_setj FC.len Hy.out (j := 0) (by omega) (x' := ⟨-9, yA, yn, yc⟩) (v := .int .i64 (-9)) rfl] at h
                exact h
              case measure => simp [intOf]; omega
        · obtain rfl : j = fn := by omega
          have hkj : ¬ (j : Int) < j := by omega
          go_wp2
          exact bodyPost_end (results_none rfl _ _ _) rfl ⟨⟨_, rfl⟩, hbw, HMd.out⟩
theorem own_low' {w : World} {base e sz n c : Nat} {A : Option Addr} {L : List Value} (h : w.ownsRow base e sz (.slice A n c) n L) (b : Nat) (hb : blkOf A = some b) : b < w.heap.size := by
  rcases A with _ | ⟨g, o, s⟩
  · cases hb
  · simp only [blkOf, Option.some.injEq] at hb
    subst hb
    exact (own_lt2 h).2.1
theorem spoil_any (t : TV) (ds : List ByteArray) (base : Nat) (w : World) (hN : w.ownsRow base 48 3 (.slice t.NA t.nn t.nc) t.nn (t.nodes.flatMap Node.list)) (hF : w.ownsRow base 52 2 (.slice t.FA t.fn t.fc) t.fn (t.files.flatMap FC.list)) (hl : t.files.length = t.fn) (hdl : ds.length = t.files.length)
    (hR : FRows w base t.files ds) (hb : base ≤ w.heap.size) (hn1 : t.nn ≤ 100000) (hf1 : t.fn ≤ 100000) (hsm : ∀ x ∈ t.files, x.n ≤ 1000000) :
    Calls Try.prog 22 #[t.val] w fun e w' => (∃ v, e = .returned v) ∧ Below base w w' :=
  (spoil_mid t ds base w.heap.size w hN hF hl hdl hR hb hn1 hf1 hsm (own_low' hN) (own_low' hF) hR.low).mono fun _ _ h => ⟨h.1, h.2.1⟩
end Go.Proofs.Ythmeffpickejkaa
