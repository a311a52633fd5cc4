/- Bytes as numbers, rows of bytes. shuntref6.Copy: a tree in memory of its own. -/
import Derived.Test.YthmeffpickejkaaGreatTreeD
import Derived.Test.YthmeffpickejkaaGreatKit
import Derived.Test.YthmeffpickejkaaGreatNamesR
import Derived.Lib.AppendStr

namespace Go.Proofs.YthmeffpickejkaaGreat
open Go.RowKit

def i8C (xs : List Int) : List Value := xs.map (Value.int .u8)
theorem i8C_append (xs ys : List Int) : i8C (xs ++ ys) = i8C xs ++ i8C ys := by simp [i8C]
theorem i8C_one (xs : List Int) : ∀ u ∈ i8C xs, u.oneCell' = true := by
  intro u hu
  obtain ⟨b, _, rfl⟩ := List.mem_map.1 hu
  rfl
def bytesI (d : ByteArray) : List Int := d.data.toList.map fun b => (b.toNat : Int)
theorem bytesI_len (d : ByteArray) : (bytesI d).length = d.size := by simp [bytesI]
theorem bytesC_i8 (d : ByteArray) : bytesC d = i8C (bytesI d) := by rw [bytesC, i8C, bytesI, List.map_map]; rfl
theorem strCells_i8 (d : ByteArray) : Lib.strCells d = i8C (bytesI d) := by rw [Lib.strCells, i8C, bytesI, List.map_map]; rfl
/-- A number in two bytes. -/
theorem Tryz.u8T : ElemT Tryz.prog 57 5 1 1 := ElemT.mk' (z := .int .u8 0) Tryz.underlying57 (by kernel_rfl) rfl (by omega)
theorem grown_own {a b c : World} {row r' : Option Nat} (h : a.grownBy b row) (k : b.grownBy c r') (hr : ∀ g, r' = some g → row = some g ∨ a.heap.size ≤ g) : a.grownBy c row :=
  ⟨k.os.trans h.os, k.tape.trans h.tape, k.output.trans h.output, Nat.le_trans h.size k.size, fun i hi hne => (k.block i (Nat.lt_of_lt_of_le hi h.size) (fun e => (hr i e.symm).elim (fun e2 => hne e2.symm) (fun e2 => by omega))).trans (h.block i hi hne)⟩
theorem own_drew {w : World} {base e sz n c : Nat} {A : Option Addr} {L : List Value} (h : w.ownsRow base e sz (.slice A n c) n L) : w.drew.ownsRow base e sz (.slice A n c) n L := h
theorem own_lt2 {w : World} {base e sz g o n c : Nat} {s : _} {L : List Value} (h : w.ownsRow base e sz (.slice (some ⟨g, o, s⟩) n c) n L) : base ≤ g ∧ g < w.heap.size ∧ o = 0 := by
  rcases h.2 with ⟨h', _⟩ | ⟨g', cap, cur, hv, hg, hh, hnc, hcm, hcs, ht⟩
  · cases h'
  · injection hv with hA _ hC
    injection hA with hA
    injection hA with hA ho
    subst hA ho
    exact ⟨hg, (Array.getElem?_eq_some_iff.1 hh).1, rfl⟩
theorem Blk.ne_row {w : World} {nb base e sz n c : Nat} {t : TypeId} {cs : Array Value} {A : Option Addr} {L : List Value} (hN : Blk w nb t cs) (ho : w.ownsRow base e sz (.slice A n c) n L) (hne : t ≠ e) : ¬ some nb = blkOf A := fun h => by
  rcases A with _ | ⟨g', off, sp⟩
  · cases h
  · simp only [blkOf, Option.some.injEq] at h
    rcases ho.2 with ⟨h', _⟩ | ⟨g2, _, _, h', _, hh, _⟩
    · cases h'
    · injection h' with h'; injection h' with h'; injection h' with h' _ _
      have h3 : w.heap[nb]? = _ := hN
      rw [h, h'] at h3
      rw [h3] at hh
      injection hh with hh
      injection hh with _ hh
      exact hne hh
end Go.Proofs.YthmeffpickejkaaGreat

namespace Go.Proofs.YthmeffpickejkaaGreat
open Go.RowKit

theorem Tryz.nodeT : ElemT Tryz.prog 22 56 3 32 := ElemT.mk' (z := .agg #[.string ByteArray.empty, .int .i64 0, .int .i64 0]) Tryz.underlying22 (by kernel_rfl) rfl (by omega)
theorem Tryz.fileT : ElemT Tryz.prog 23 59 2 32 := ElemT.mk' (z := .agg #[.int .i64 0, .slice none 0 0]) Tryz.underlying23 (by kernel_rfl) rfl (by omega)
theorem node_one (l : List Node) : ∀ u ∈ l.flatMap Node.list, u.oneCell' = true := by
  intro u hu
  obtain ⟨x, _, hx⟩ := List.mem_flatMap.1 hu
  simp only [Node.list, List.mem_cons, List.not_mem_nil, or_false] at hx
  rcases hx with rfl | rfl | rfl <;> rfl
/-- The files' bytes in rows of the call's own, each in a block of its own. -/
structure FRows (w : World) (base : Nat) (fs : List FC) (ds : List ByteArray) : Prop where
  row : ∀ (k : Nat) (f : FC) (d : ByteArray), fs[k]? = some f → ds[k]? = some d → f.n = d.size ∧ w.ownsRow base 5 1 (.slice f.A f.n f.c) f.n (bytesC d)
  apart : ∀ (i j : Nat) (f g : FC), fs[i]? = some f → fs[j]? = some g → i ≠ j → ∀ b, blkOf f.A = some b → blkOf g.A ≠ some b
  low : ∀ (k : Nat) (f : FC) (b : Nat), fs[k]? = some f → blkOf f.A = some b → b < w.heap.size
theorem FRows.nil (w : World) (base : Nat) (ds : List ByteArray) : FRows w base [] ds := ⟨fun k f d h _ => (by simp at h), fun i j f g h _ => (by simp at h), fun k f b h => (by simp at h)⟩
theorem FRows.keep {w w' : World} {base : Nat} {fs : List FC} {ds : List ByteArray} (h : FRows w base fs ds) (hs : w.heap.size ≤ w'.heap.size) (hk : ∀ (k : Nat) (f : FC) (b : Nat), fs[k]? = some f → blkOf f.A = some b → w'.heap[b]? = w.heap[b]?) : FRows w' base fs ds :=
  ⟨fun k f d hf hd => ⟨(h.row k f d hf hd).1, own_keep (h.row k f d hf hd).2 fun g o e => hk k f g hf (by rw [e]; rfl)⟩, h.apart, fun k f b hf hb => Nat.lt_of_lt_of_le (h.low k f b hf hb) hs⟩
theorem FRows.grown {w w' : World} {base : Nat} {fs : List FC} {ds : List ByteArray} {row : Option Nat} (h : FRows w base fs ds) (hg : w.grownBy w' row) (hne : ∀ (k : Nat) (f : FC) (b : Nat), fs[k]? = some f → blkOf f.A = some b → some b ≠ row) : FRows w' base fs ds :=
  h.keep hg.size fun k f b hf hb => hg.block b (h.low k f b hf hb) (hne k f b hf hb)
theorem FRows.snoc {w : World} {base : Nat} {fs : List FC} {ds : List ByteArray} {f : FC} {d : ByteArray} (h : FRows w base fs ds) (hd : ds[fs.length]? = some d) (h1 : f.n = d.size) (h2 : w.ownsRow base 5 1 (.slice f.A f.n f.c) f.n (bytesC d)) (h3 : ∀ b, blkOf f.A = some b → b < w.heap.size ∧ ∀ (k : Nat) (g : FC), fs[k]? = some g → blkOf g.A ≠ some b) : FRows w base (fs ++ [f]) ds := by
  have split : ∀ (k : Nat) (g : FC), (fs ++ [f])[k]? = some g → (k < fs.length ∧ fs[k]? = some g) ∨ (k = fs.length ∧ g = f) := fun k g hk => by
    rcases Nat.lt_trichotomy k fs.length with h | h | h
    · left; rw [List.getElem?_append_left h] at hk; exact ⟨h, hk⟩
    · right; subst h; simp at hk; exact ⟨rfl, hk.symm⟩
    · rw [List.getElem?_eq_none (by simp; omega)] at hk; cases hk
  refine ⟨fun k g e hk he => ?_, fun i j g1 g2 hi hj hij b hb hb2 => ?_, fun k g b hk hb => ?_⟩
  · rcases split k g hk with ⟨_, hk⟩ | ⟨rfl, rfl⟩
    · exact h.row k g e hk he
    · rw [hd] at he; injection he with he; subst he; exact ⟨h1, h2⟩
  · rcases split i g1 hi with ⟨li, hi2⟩ | ⟨ei, eg⟩
    · rcases split j g2 hj with ⟨lj, hj2⟩ | ⟨ej, eg⟩
      · exact h.apart i j g1 g2 hi2 hj2 hij b hb hb2
      · rw [eg] at hb2; exact (h3 b hb2).2 i g1 hi2 hb
    · rcases split j g2 hj with ⟨lj, hj2⟩ | ⟨ej, eg2⟩
      · rw [eg] at hb; exact (h3 b hb).2 j g2 hj2 hb2
      · omega
  · rcases split k g hk with ⟨_, hk2⟩ | ⟨ek, eg⟩
    · exact h.low k g b hk2 hb
    · rw [eg] at hb; exact (h3 b hb).1
/-- A block of one element type is no row of another. -/
theorem row_ne_row {w : World} {base base' e e' sz sz' n n' c c' b : Nat} {A A' : Option Addr} {L L' : List Value} (h : w.ownsRow base e sz (.slice A n c) n L) (h' : w.ownsRow base' e' sz' (.slice A' n' c') n' L') (hne : e ≠ e') (hb : blkOf A = some b) : some b ≠ blkOf A' := fun hb' => by
  rcases h.2 with ⟨hv, _⟩ | ⟨g, _, _, hv, _, hh, _⟩
  · injection hv with hv; subst hv; cases hb
  · injection hv with hA; subst hA
    simp only [blkOf, Option.some.injEq] at hb
    subst hb
    rcases h'.2 with ⟨hv', _⟩ | ⟨g', _, _, hv', _, hh', _⟩
    · injection hv' with hv'; subst hv'; cases hb'
    · injection hv' with hA'; subst hA'
      simp only [blkOf, Option.some.injEq] at hb'
      subst hb'
      rw [hh] at hh'
      injection hh' with hh'
      injection hh' with _ hh'
      exact hne hh'
theorem file_one (m : Int) (A : Option Addr) (n c : Nat) : ∀ u ∈ (#[.int .i64 m, .slice A n c] : Array Value).toList, u.oneCell' = true := by
  intro u hu
  simp only [List.mem_cons, List.not_mem_nil, or_false] at hu
  rcases hu with rfl | rfl <;> rfl
theorem own_blkset {w : World} {base e sz n c ub : Nat} {A : Option Addr} {L : List Value} {t : TypeId} {cs : Array Value} (h : w.ownsRow base e sz (.slice A n c) n L) (hU : Blk w ub t cs) (hne : t ≠ e) (i : Nat) (v : Value) : (w.setCell ⟨ub, i, none⟩ v).ownsRow base e sz (.slice A n c) n L :=
  own_keep h fun g o e1 => heap_setCell_other w _ g v fun hg => hU.ne_row h hne (by rw [e1]; simp only [blkOf]; rw [hg])
theorem FRows.blkset {w : World} {base ub : Nat} {fs : List FC} {ds : List ByteArray} {t : TypeId} {cs : Array Value} (h : FRows w base fs ds) (hl : fs.length ≤ ds.length) (hU : Blk w ub t cs) (hne : t ≠ 5) (i : Nat) (v : Value) : FRows (w.setCell ⟨ub, i, none⟩ v) base fs ds :=
  h.keep (by simp [World.setCell]) fun k f b hf hb => heap_setCell_other w _ b v fun hg => by
    have hk : k < ds.length := by have := (List.getElem?_eq_some_iff.1 hf).1; omega
    exact hU.ne_row (h.row k f _ hf (List.getElem?_eq_getElem hk)).2 hne (by rw [hb, hg])
theorem FRows.not_row {w : World} {base base' e' sz' n' c' : Nat} {A' : Option Addr} {L' : List Value} {fs : List FC} {ds : List ByteArray} (h : FRows w base fs ds) (hl : fs.length ≤ ds.length) (h' : w.ownsRow base' e' sz' (.slice A' n' c') n' L') (hne : 5 ≠ e') : ∀ (k : Nat) (f : FC) (b : Nat), fs[k]? = some f → blkOf f.A = some b → some b ≠ blkOf A' := fun k f b hf hb => by
  have hk : k < ds.length := by have := (List.getElem?_eq_some_iff.1 hf).1; omega
  exact row_ne_row (h.row k f _ hf (List.getElem?_eq_getElem hk)).2 h' hne hb
/-- What the copy under way is. -/
def CopyAt (base : Nat) (w wr : World) (nodes : List Node) (files : List FC) (ds : List ByteArray) (tv : Array Value) (tb rb ub nn j : Nat) : Prop :=
  ∃ (NA FA : Option Addr) (nc fc : Nat) (fs : List FC), Blk wr ub 25 #[.slice NA nn nc, .slice FA j fc] ∧ wr.ownsRow base 56 3 (.slice NA nn nc) nn (nodes.flatMap Node.list) ∧ wr.ownsRow base 59 2 (.slice FA j fc) j (fs.flatMap FC.list) ∧
    fs.length = j ∧ fs.map (·.mode) = (files.take j).map (·.mode) ∧ FRows wr base fs ds ∧ Blk wr tb 25 tv ∧ Blk wr rb 25 #[.slice none 0 0, .slice none 0 0] ∧ base ≤ wr.heap.size ∧ Below w.heap.size w wr
def CopyRes (t : TV) (ds : List ByteArray) (w : World) (e : Ending) (w' : World) : Prop :=
  ∃ u : TV, e = .returned u.val ∧ u.nodes = t.nodes ∧ u.nn = t.nn ∧ u.fn = t.fn ∧ u.files.length = t.fn ∧ u.files.map (·.mode) = t.files.map (·.mode) ∧ w'.ownsRow w.heap.size 56 3 (.slice u.NA u.nn u.nc) u.nn (u.nodes.flatMap Node.list) ∧
    w'.ownsRow w.heap.size 59 2 (.slice u.FA u.fn u.fc) u.fn (u.files.flatMap FC.list) ∧ FRows w' w.heap.size u.files ds ∧ Below w.heap.size w w'
set_option maxRecDepth 100000 in
set_option maxHeartbeats 4000000 in
theorem copy_any (t : TV) (ds : List ByteArray) (w : World) (h : TreeD w t ds) (hn1 : t.nn ≤ 100000) (hf1 : t.fn ≤ 100000) (hsm : ∀ x ∈ t.files, x.n ≤ 1000000) : Calls Tryz.prog 24 #[t.val] w (CopyRes t ds w) := by
  have HD := Lib.hid h.dat
  have hns := h.tree.ns
  have hnl := h.tree.nl
  have hfs := h.tree.fs
  have hfl := h.tree.fl
  clear h
  obtain ⟨nodes, files, NA, nn, nc, FA, fn, fc⟩ := t
  simp only at hns hnl hfs hfl hn1 hf1
  have HS := Lib.hid hns; clear hns
  have Hn := Lib.hid hnl; clear hnl
  have HFS := Lib.hid hfs; clear hfs
  have Hfl := Lib.hid hfl; clear hfl
  have HSM := Lib.hid hsm; clear hsm
  unfold TV.val
  go_enter Tryz.func24, Tryz.ntmps24
  have hB := Blk.new w 25 #[.slice NA nn nc, .slice FA fn fc]
  replace hB := hB.alloc (.cells #[.slice none 0 0, .slice none 0 0] 25)
  have hR := Blk.new (w.alloc (.cells #[.slice NA nn nc, .slice FA fn fc] 25)) 25 #[.slice none 0 0, .slice none 0 0]
  rw [World.size_alloc] at hR
  have hb := ((Below.refl w.heap.size w).alloc (Nat.le_refl _) (.cells #[.slice NA nn nc, .slice FA fn fc] 25)).alloc (by simp) (.cells #[.slice none 0 0, .slice none 0 0] 25)
  have hs := hb.size
  go_upto_region 1 with (fail)
  obtain ⟨W0, hW0⟩ : ∃ W0, W0 = (w.alloc (.cells #[.slice NA nn nc, .slice FA fn fc] 25)).alloc (.cells #[.slice none 0 0, .slice none 0 0] 25) := ⟨_, rfl⟩
  rw [← hW0] at hB hR hb hs ⊢
  clear hW0
  have b0 := hB.cell 0
  go_upto_region 2 with (at_builtin; refine wpList_append_sl rfl _ _ _ rfl Tryz.nodeT rfl (World.ownsRow_nil W0 w.heap.size _ _) rfl (HS.out.below hb (Nat.le_refl _)) (node_one nodes) (by unfold maxLen; omega) (by omega) hs ?_; intro A1 c1 w4 ho4 hg4 hat4)
  simp only [Nat.zero_add, List.nil_append] at ho4
  have hg4' : W0.grownBy w4 none := hg4
  have hub0 := hR.lt
  have hub : W0.heap.size ≤ w4.heap.size := hg4.size
  replace hB := (hB.grown hg4' (by simp)).alloc (.cells #[.slice A1 nn c1, .slice none 0 0] 25)
  replace hR := (hR.grown hg4' (by simp)).alloc (.cells #[.slice A1 nn c1, .slice none 0 0] 25)
  have hU := Blk.new w4 25 #[.slice A1 nn c1, .slice none 0 0]
  have ho := ho4.alloc (.cells #[.slice A1 nn c1, .slice none 0 0] 25)
  replace hb := (hb.trans (below_grown hg4' hs (fun g e => by cases e))).alloc (by omega) (.cells #[.slice A1 nn c1, .slice none 0 0] 25)
  clear hg4 hg4' ho4 hat4 b0
  go_wp2
  obtain ⟨ub, hube⟩ : ∃ ub, ub = w4.heap.size := ⟨_, rfl⟩
  rw [← hube] at hU ⊢
  have hubl : w.heap.size + 1 < ub := by omega
  have hs0 := hb.size
  clear hube hub hub0 hs
  have HO := Lib.hid ho; clear ho
  go_loopw [4] (fun i wr => ∃ j : Nat, j ≤ fn ∧ i = .int .i64 j ∧ CopyAt w.heap.size w wr nodes files ds #[.slice NA nn nc, .slice FA fn fc] w.heap.size (w.heap.size + 1) ub nn j) (fun i _ => fn - (intOf i).toNat)
  case atStart => exact ⟨0, Nat.zero_le _, rfl, A1, none, c1, 0, [], hU, HO.out, World.ownsRow_nil _ _ _ _, rfl, rfl, FRows.nil _ _ _, hB, hR, hs0, hb⟩
  case round =>
    clear hU HO hB hR hs0 hb
    obtain ⟨j, hj, rfl, NA', FA', nc', fc', fs, hU, hoN, hoF, hfsl, hfm, hFR, hB, hR, hs, hb⟩ := hrel
    have HoN := Lib.hid hoN; have HoF := Lib.hid hoF; have HFL := Lib.hid hfsl; have HFM := Lib.hid hfm; have HFR := Lib.hid hFR
    clear hoN hoF hfsl hfm hFR
    have b0 := hB.cell 0
    have b1 := hB.cell 1
    by_cases hlt : j < fn
    · have hki : (j : Int) < fn := by omega
      obtain ⟨xb, xo, x, rfl, hxb, hx, hc⟩ := (HFS.out.keep (Nat.le_refl _) hb.block).get FC.len Hfl.out hlt
      obtain ⟨d, hdx, hdn, hds⟩ := HD.out.get hx
      have c0 := hc 0 _ rfl
      have c1 := hc 1 _ rfl
      simp only [Nat.add_zero] at c0 c1
      clear hc
      have hxn : x.n ≤ 1000000 := HSM.out x (List.mem_of_getElem? hx)
      have HX := Lib.hid (take_snoc' hx)
      have HDX := Lib.hid hdx; have HDN := Lib.hid hdn
      rw [bytesC_i8] at hds
      have HDS := Lib.hid hds
      clear hx hdx hdn hds
      have hxw : xb < wr.heap.size := Nat.lt_of_lt_of_le hxb hs
      have u1 := hU.cell 1
      have hUl := hU.lt
      have hBl := hB.lt
      have hRl := hR.lt
      have hneU : ¬ some ub = blkOf FA' := hU.ne_row HoF.out (by decide)
      have hneB : ¬ some w.heap.size = blkOf FA' := hB.ne_row HoF.out (by decide)
      have hneR : ¬ some (w.heap.size + 1) = blkOf FA' := hR.ne_row HoF.out (by decide)
      have hneX : ¬ some xb = blkOf FA' := fun e => by have := own_blk1 HoF.out xb e.symm; omega
      go_upto_region 5 with (fail)
      refine wp_region_ordG (blkOf FA') [(0, true), (1, true), (2, true), (3, true), (4, true), (5, true), (6, true), (7, true), (8, true), (9, true), (10, true), (11, true), (12, true), (13, true), (14, false), (15, true), (16, false), (17, false), (18, true)] 19 (by kernel_rfl) (by kernel_rfl) fun hG0 => ?_
      repeat (first
        | (refine ord_skipB rfl (by rfl) ?_; simp only [Act.put, List.setIfInBounds_toArray, List.set_cons_zero, List.set_cons_succ])
        | (refine ord_qE rfl (by rfl) ?_; apply Exists.intro; refine ⟨fun w' hc' => ?_, ?_⟩; (focus (go_simp; (try go_bits); (try simp only [↓IntWalk.iteOmega]); with_reducible rfl)); simp only [Act.put, List.setIfInBounds_toArray, List.set_cons_zero, List.set_cons_succ]))
      refine ord_eB rfl fun K hK => ?_
      go_wp2_with (at_builtin; (refine wpList_append_sl rfl _ _ _ rfl Tryz.u8T rfl (World.ownsRow_nil wr.drew w.heap.size _ _) rfl (HDS.out.below hb.drew (Nat.le_refl _)) (i8C_one _) (by unfold maxLen; omega) (by omega) hs ?_); intro A4 c4 w4 ho4 hg4 hat4)
      have hG1 := grown_trans hG0 (grown_any hg4)
      refine hK.out _ _ hG1 ?_
      clear hK K
      repeat (first
        | (refine ord_skipB rfl (by rfl) ?_; simp only [Act.put, List.setIfInBounds_toArray, List.set_cons_zero, List.set_cons_succ])
        | (refine ord_qE rfl (by rfl) ?_; apply Exists.intro; refine ⟨fun w' hc' => ?_, ?_⟩; (focus (go_simp; (try go_bits); (try simp only [↓IntWalk.iteOmega]); with_reducible rfl)); simp only [Act.put, List.setIfInBounds_toArray, List.set_cons_zero, List.set_cons_succ]))
      simp only [Nat.zero_add, List.nil_append] at ho4 ⊢
      have hg4w : wr.grownBy w4 none := ⟨hg4.os, hg4.tape, hg4.output, hg4.size, hg4.block⟩
      have HoF4 := Lib.hid (own_keep1 HoF.out (below_grown hg4w (Nat.le_refl _) (fun g e => by cases e)) (Nat.le_refl _))
      repeat (first
        | (refine ord_skipB rfl (by rfl) ?_; simp only [Act.put, List.setIfInBounds_toArray, List.set_cons_zero, List.set_cons_succ])
        | (refine ord_qE rfl (by rfl) ?_; apply Exists.intro; refine ⟨fun w' hc' => ?_, ?_⟩; (focus (go_simp; (try go_bits); (try simp only [↓IntWalk.iteOmega]); with_reducible rfl)); simp only [Act.put, List.setIfInBounds_toArray, List.set_cons_zero, List.set_cons_succ]))
      refine ord_eB rfl fun K hK => ?_
      go_wp2_with (fail)
      have hG2 := grown_trans hG1 (World.grownBy_alloc w4 (.cells #[.int .i64 x.mode, .slice A4 x.n c4] 59) (blkOf FA'))
      refine hK.out _ _ hG2 ?_
      clear hK K
      repeat (first
        | (refine ord_skipB rfl (by rfl) ?_; simp only [Act.put, List.setIfInBounds_toArray, List.set_cons_zero, List.set_cons_succ])
        | (refine ord_qE rfl (by rfl) ?_; apply Exists.intro; refine ⟨fun w' hc' => ?_, ?_⟩; (focus (go_simp; (try go_bits); (try simp only [↓IntWalk.iteOmega]); with_reducible rfl)); simp only [Act.put, List.setIfInBounds_toArray, List.set_cons_zero, List.set_cons_succ]))
      refine ord_eB rfl fun K hK => ?_
      go_wp2_with (at_builtin; refine wpList_append_one rfl _ _ _ rfl Tryz.fileT rfl HoF4.out #[.int .i64 x.mode, .slice A4 x.n c4] rfl (by simp) rfl (file_one _ _ _ _) (by unfold maxLen; omega) (by omega) (Nat.le_trans hs hG1.size) ?_; intro g6 c6 w6 ho6 hg6 hat6)
      have hG3 := grown_trans hG1 hg6
      refine hK.out _ _ hG3 ?_
      clear hK K
      repeat (first
        | (refine ord_skipB rfl (by rfl) ?_; simp only [Act.put, List.setIfInBounds_toArray, List.set_cons_zero, List.set_cons_succ])
        | (refine ord_qE rfl (by rfl) ?_; apply Exists.intro; refine ⟨fun w' hc' => ?_, ?_⟩; (focus (go_simp; (try go_bits); (try simp only [↓IntWalk.iteOmega]); with_reducible rfl)); simp only [Act.put, List.setIfInBounds_toArray, List.set_cons_zero, List.set_cons_succ]))
      have hU6 := hU.grown hG3 hneU
      have q1 := hU6.cell 1
      have q1f := hU6.frozen 1
      refine ord_tail rfl fun K hK => ?_
      go_wp2_with (fail)
      refine hK.out _ _ ?_
      clear hK K
      have hdl : fs.length ≤ ds.length := by rw [HD.out.len, HFL.out, Hfl.out]; exact hj
      have hs6 := hG3.size
      have HN6 := Lib.hid (own_keep HoN.out fun g o e => hG3.block g (own_lt2 (by rw [← e]; exact HoN.out)).2.1 (row_ne_row HoN.out HoF.out (by decide) (by rw [e]; rfl)))
      have HR4 := Lib.hid (HFR.out.grown hg4w (fun k f b _ _ e => by cases e))
      have HR6 := Lib.hid (HR4.out.grown hg6 (HR4.out.not_row hdl HoF4.out (by decide)))
      have HA6 := Lib.hid (own_keep ho4 fun g o e => hg6.block g (own_lt2 (by rw [← e]; exact ho4)).2.1 (row_ne_row ho4 HoF4.out (by decide) (by rw [e]; rfl)))
      have hlow : ∀ b, blkOf A4 = some b → b < w6.heap.size ∧ ∀ (k : Nat) (g : FC), fs[k]? = some g → blkOf g.A ≠ some b := fun b hb => by
        refine ⟨?_, fun k g hk hg => ?_⟩
        · have h1 : b < w4.heap.size := by
            rcases A4 with _ | ⟨b', o, s⟩
            · cases hb
            · simp only [blkOf, Option.some.injEq] at hb
              subst hb
              exact (own_lt2 ho4).2.1
          exact Nat.lt_of_lt_of_le h1 hg6.size
        · rcases hat4 b hb with h1 | h1
          · cases h1
          · have := HFR.out.low k g b hk hg
            simp only [World.drew] at h1
            omega
      rw [← bytesC_i8] at HA6
      have HR7 := Lib.hid (HR6.out.snoc (f := ⟨x.mode, A4, x.n, c4⟩) (by rw [HFL.out]; exact HDX.out) HDN.out.symm HA6.out hlow)
      have hdl2 : (fs ++ [(⟨x.mode, A4, x.n, c4⟩ : FC)]).length ≤ ds.length := by rw [List.length_append, HD.out.len, HFL.out, Hfl.out]; exact hlt
      have hB6 := hB.grown hG3 hneB
      have hR6 := hR.grown hG3 hneR
      have hb6 := hb.trans (below_grown hG3 hb.size (fun g e => by have := own_blk1 HoF.out g e; omega))
      have HO6 := Lib.hid ho6
      have HFS2 := Lib.hid (show (fs ++ [(⟨x.mode, A4, x.n, c4⟩ : FC)]).flatMap FC.list = fs.flatMap FC.list ++ [.int .i64 x.mode, .slice A4 x.n c4] by simp [FC.list])
      have HFM2 := Lib.hid (show (fs ++ [(⟨x.mode, A4, x.n, c4⟩ : FC)]).map (·.mode) = (files.take (j + 1)).map (·.mode) by rw [HX.out, List.map_append, List.map_append, HFM.out]; rfl)
      have HFL2 := Lib.hid (show (fs ++ [(⟨x.mode, A4, x.n, c4⟩ : FC)]).length = j + 1 by rw [List.length_append, HFL.out]; rfl)
      clear q1 q1f u1 c0 c1 b0 b1 hG0 hG1 hG2 hlow hg4 hg4w hg6 hat4 hat6 ho4 ho6
      go_wp2
      go_roundw
      case rel => exact ⟨j + 1, by omega, by go_num, NA', some ⟨g6, 0, none⟩, nc', c6, _, hU6.set 1 _, own_blkset HN6.out hU6 (by decide) _ _, by rw [HFS2.out]; exact own_blkset HO6.out hU6 (by decide) _ _, HFL2.out, HFM2.out, HR7.out.blkset hdl2 hU6 (by decide) _ _, hB6.set_ne _ _ (by show w.heap.size ≠ ub; omega), hR6.set_ne _ _ (by show w.heap.size + 1 ≠ ub; omega), by simp [World.setCell]; omega, hb6.setCell (p := ⟨ub, 1, none⟩) (by show w.heap.size ≤ ub; omega) _⟩
      case measure => simp [intOf]; omega
    · obtain rfl : j = fn := by omega
      have hki : ¬ (j : Int) < j := by omega
      rw [List.take_of_length_le (by rw [Hfl.out]; exact Nat.le_refl _)] at HFM
      have u0 := hU.cell 0
      have u1 := hU.cell 1
      go_wp2_with (refine wpList_store_row rfl 25 (.tmp 2) (.tmp 35) rfl (w.heap.size + 1) #[.slice NA' nn nc', .slice FA' j fc'] rfl rfl 25 #[.slice none 0 0, .slice none 0 0] hR (show (Tryz.prog.info? 25).map (·.size) = some 2 by kernel_rfl) rfl (by simp [Value.oneCell']) ?_)
      have hdl : fs.length ≤ ds.length := by rw [HD.out.len, HFL.out, Hfl.out]; exact Nat.le_refl _
      have hsz : wr.heap.size ≤ (wr.setRow (w.heap.size + 1) #[.slice NA' nn nc', .slice FA' j fc']).heap.size := by simp
      have hgr : wr.grownBy (wr.setRow (w.heap.size + 1) #[.slice NA' nn nc', .slice FA' j fc']) (some (w.heap.size + 1)) := ⟨rfl, rfl, rfl, hsz, fun q _ hq => setRow_other wr _ q _ (fun e => hq (by rw [e]))⟩
      refine ret_cell1 (v := .agg #[.slice NA' nn nc', .slice FA' j fc']) (ad := ⟨w.heap.size + 1, 0, none⟩) rfl rfl (run_loadVar_row _ (w.heap.size + 1) 25 _ _ (0, 0) _ (setRow_heap wr _ _ _ _ _ hR) Tryz.underlying25 rfl (show (Tryz.prog.info? 25).map (·.size) = some 2 by kernel_rfl)) rfl ?_
      exact ⟨⟨nodes, fs, NA', nn, nc', FA', j, fc'⟩, rfl, rfl, rfl, rfl, HFL.out, HFM.out,
        own_keep HoN.out fun g o (e : NA' = _) => hgr.block g (own_lt2 (by rw [← e]; exact HoN.out)).2.1 (fun e2 => hR.ne_row HoN.out (by decide) (by rw [← e2, e]; rfl)),
        own_keep HoF.out fun g o (e : FA' = _) => hgr.block g (own_lt2 (by rw [← e]; exact HoF.out)).2.1 (fun e2 => hR.ne_row HoF.out (by decide) (by rw [← e2, e]; rfl)),
        HFR.out.grown hgr (fun k f b hf hb e2 => by
          have hk : k < ds.length := by have := (List.getElem?_eq_some_iff.1 hf).1; omega
          exact hR.ne_row (HFR.out.row k f _ hf (List.getElem?_eq_getElem hk)).2 (by decide) (by rw [← e2, hb])),
        hb.trans (below_grown hgr hs (fun g e => by injection e with e; omega))⟩
end Go.Proofs.YthmeffpickejkaaGreat
