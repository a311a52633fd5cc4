/- TreeTurned. -/
import Derived.Test.YtdjlchbgdehccaaAliveT
import Derived.Test.YtdjlchbgdehccaaBig
import Derived.Test.YtdjlchbgdehccaaOpenT
import Derived.Test.YtdjlchbgdehccaaTurnP
namespace Go.Proofs.Ytdjlchbgdehccaa.treeTurnedDone
open Go.ChangeShapes Go.WideShapes Go.ChangeAt Go.RowKit Go.Deep

theorem own_some {w : World} {base e sz n c : Nat} {A : Option Addr} {L : List Value} (h : w.ownsRow base e sz (.slice A n c) n L) (hn : 0 < n) : ∃ g, A = some ⟨g, 0, none⟩ := by
  rcases h.2 with ⟨_, h0⟩ | ⟨g, _, _, hv, _⟩
  · omega
  · injection hv with hA; exact ⟨g, hA⟩
theorem own_frozen {w : World} {base e sz g n c : Nat} {L : List Value} (h : w.ownsRow base e sz (.slice (some ⟨g, 0, none⟩) n c) n L) (i : Nat) : w.frozen? ⟨g, i, none⟩ = false := by
  rcases h.2 with ⟨h', _⟩ | ⟨g', cap, cur, hv, hg, hh, _⟩
  · cases h'
  · injection hv with hA
    injection hA with hA
    injection hA with hA
    subst hA
    exact Blk.frozen (t := e) (cs := cur) hh i
theorem set_ne' {α : Type} {l : List α} {k : Nat} {x x' : α} (hx : l[k]? = some x) (hne : x ≠ x') : l ≠ l.set k x' := fun h => by
  have hk : k < l.length := (List.getElem?_eq_some_iff.1 hx).1
  rw [h, List.getElem?_set_self hk] at hx
  injection hx with hx
  exact hne hx.symm
theorem xor_mode : ∀ m < 512, Go.bits .xor .i64 (m : Nat) 1 ≠ (m : Nat) := by decide +kernel
theorem xor_ne {m : Int} (h : 0 ≤ m ∧ m ≤ 511) : Go.bits .xor .i64 m 1 ≠ m := by
  obtain ⟨n, rfl⟩ := Int.eq_ofNat_of_zero_le h.1
  exact xor_mode n (by omega)
theorem xor_byte : ∀ b < 256, 0 ≤ Go.bits .xor .u8 (b : Nat) 64 ∧ Go.bits .xor .u8 (b : Nat) 64 < 256 ∧ Go.bits .xor .u8 (b : Nat) 64 ≠ (b : Nat) := by decide +kernel
def setB (d : ByteArray) (p v : Nat) : ByteArray := ⟨(d.data.toList.set p (UInt8.ofNat v)).toArray⟩
theorem setB_size (d : ByteArray) (p v : Nat) : (setB d p v).size = d.size := by
  have h : (setB d p v).data.toList.length = d.data.toList.length := by simp [setB]
  rwa [dlen, dlen] at h
theorem setB_cells (d : ByteArray) (p v : Nat) (hv : v < 256) : bytesC (setB d p v) = (bytesC d).set p (.int .u8 v) := by
  simp only [bytesC, setB, List.map_set]
  congr 2
  simp
  omega
theorem setB_ne {d : ByteArray} {p v : Nat} {b : UInt8} (hb : d.data.toList[p]? = some b) (hv : v < 256) (hne : v ≠ b.toNat) : d ≠ setB d p v := fun h => by
  have h1 := congrArg (fun e : ByteArray => e.data.toList[p]?) h
  simp only [setB] at h1
  rw [hb, List.getElem?_set_self (List.getElem?_eq_some_iff.1 hb).1] at h1
  injection h1 with h1
  apply hne
  rw [h1]; simp; omega
theorem snoc_cells (d : ByteArray) : bytesC (d ++ ⟨#[1]⟩) = bytesC d ++ i8C [1] := by
  rw [bytesC, bytesC, snoc_data, List.map_append]; rfl
theorem exact_no_nodes {t u : TV} {ds es : List ByteArray} (h : t.nodes ≠ u.nodes) : exactB t u ds es = false := by rw [exactB, decide_eq_false h]; rfl
theorem exact_no_modes {t u : TV} {ds es : List ByteArray} (h : t.files.map (·.mode) ≠ u.files.map (·.mode)) : exactB t u ds es = false := by rw [exactB, decide_eq_false h]; simp
theorem exact_no_data {t u : TV} {ds es : List ByteArray} (h : ds ≠ es) : exactB t u ds es = false := by rw [exactB, decide_eq_false h]; simp
theorem dat_small {w : World} {t : TV} {ds : List ByteArray} (h : TreeD w t ds) (G : Good t) : ∀ d ∈ ds, d.size ≤ 8192 := fun d hd => by
  obtain ⟨k, hk⟩ := List.getElem?_of_mem hd
  have hkl : k < t.files.length := by rw [← h.dat.len]; exact (List.getElem?_eq_some_iff.1 hk).1
  have := (h.dat.at_ k _ d (List.getElem?_eq_getElem hkl) hk).1
  rw [this]
  exact G.small _ (List.getElem_mem hkl)
theorem dat_rows {w : World} {base : Nat} {fs : List FC} {ds : List ByteArray} (h : FRows w base fs ds) (hl : ds.length = fs.length) : DatAt w fs ds :=
  ⟨hl, fun k x d hx hd => ⟨(h.row k x d hx hd).1.symm, Sl.of_own (h.row k x d hx hd).2⟩⟩
theorem twoI_pos (k : Int) (l : List Int) : 0 < (twoI k ++ l).length := by simp [twoI]
theorem tree_pos (t : TV) (ds : List ByteArray) : 0 < (treeI t ds).length := twoI_pos _ _
set_option maxRecDepth 100000 in
set_option maxHeartbeats 8000000 in
theorem walk (t : TV) (ds : List ByteArray) (what at_ : Int) (w : World) (ht : TreeD w t ds) (_ : (Lit.int .i64 what).wf = true) (hw2 : (Lit.int .i64 at_).wf = true) : Calls Try.prog 8 #[t.val, .int .i64 what, .int .i64 at_] w fun e w' => e = .returned (.bool true) ∧ Below w.heap.size w w' := by
  have HTD := Lib.hid ht
  have hns := ht.tree.ns
  have hnl := ht.tree.nl
  have hnm := ht.tree.nm
  have hat : at_ ≤ 9223372036854775807 := by
    have h2 : IntKind.i64.max = 9223372036854775807 := by decide
    simp only [Lit.wf, h2, Bool.and_eq_true, decide_eq_true_eq] at hw2
    exact hw2.2
  clear hw2
  obtain ⟨E, hE⟩ : ∃ E, looseE t = E := ⟨_, rfl⟩
  have HE := Lib.hid hE
  have HG0 := Lib.hid (show E = 0 → Good t from fun h => good_of_loose (hE.trans h))
  clear hE ht
  obtain ⟨nodes, files, NA, nn, nc, FA, fn, fc⟩ := t
  simp only at hns hnl hnm
  have HS := Lib.hid hns; clear hns
  have Hn := Lib.hid hnl; clear hnl
  unfold TV.val
  have hB := Blk.new w 26 #[.slice NA nn nc, .slice FA fn fc]
  have hb := (Below.refl w.heap.size w).alloc (Nat.le_refl _) (.cells #[.slice NA nn nc, .slice FA fn fc] 26)
  have b0 := hB.cell 0
  have b1 := hB.cell 1
  go_enter Try.func8, Try.ntmps8
  go_upto_region 3 with (first | (go_at_call 14; refine (alive_t _).mono ?_; rintro e w1 ⟨rfl, hb1⟩; replace hB := hB.below hb1 hB.lt; replace hb := hb.trans (hb1.mono hb.size); have b0 := hB.cell 0; have b1 := hB.cell 1) | (go_at_call 19; refine (lbig_any ⟨nodes, files, NA, nn, nc, FA, fn, fc⟩ _ (HTD.out.tree.keep hb)).mono ?_; rintro e w2 ⟨x, rfl, hx, hb2⟩; replace hB := hB.below hb2 hB.lt; replace hb := hb.trans (hb2.mono hb.size); have b0 := hB.cell 0; have b1 := hB.cell 1))
  cases x with
  | true =>
    go_wp2
    go_ret
    exact ⟨rfl, hb⟩
  | false =>
    clear hx
    by_cases h0 : nn = 0
    · have h1 : ((nn : Int) == 0) = true := by simp [h0]
      have h2 : (nn == 0) = true := by simp [h0]
      have H0 := Lib.hid h0; clear h0
      go_wp2
      go_ret
      exact ⟨rfl, hb⟩
    have h1 : ((nn : Int) == 0) = false := beq_eq_false_iff_ne.2 (by omega)
    have h2 : (nn == 0) = false := beq_eq_false_iff_ne.2 h0
    by_cases ha : at_ < 0
    · go_wp2
      go_ret
      exact ⟨rfl, hb⟩
    obtain ⟨a, rfl⟩ := Int.eq_ofNat_of_zero_le (show 0 ≤ at_ by omega)
    have ha1 : ¬ (a : Int) < 0 := by omega
    by_cases e1 : E = 0
    case neg =>
      have e2 : (E == 0) = false := beq_eq_false_iff_ne.2 e1
      have e3 : (E != 0) = true := bne_iff_ne.2 e1
      clear HG0
      go_wp2_with (first | (go_at_call 16; refine (loose_any ⟨nodes, files, NA, nn, nc, FA, fn, fc⟩ _ (HTD.out.tree.keep hb)).mono ?_; rintro e w3 ⟨rfl, hb3⟩; rw [HE.out]) | (go_at_call 18; refine (numT _ _).mono ?_; rintro e w6 ⟨rfl, rfl⟩))
      go_ret
      exact ⟨rfl, hb.trans (hb3.mono hb.size)⟩
    case pos =>
      have HG := Lib.hid (HG0.out e1)
      have hn256 : nn ≤ 256 := HG.out.nn
      have hf256 : fn ≤ 256 := HG.out.fn
      have HL := Lib.hid (HE.out.trans e1)
      have e2 : (E == 0) = true := beq_iff_eq.2 e1
      have e3 : (E != 0) = false := by rw [bne, e2]; rfl
      clear HG0
      replace e1 := Lib.hid e1
      go_upto_region 5 with (first | (go_at_call 16; refine (loose_any ⟨nodes, files, NA, nn, nc, FA, fn, fc⟩ _ (HTD.out.tree.keep hb)).mono ?_; rintro e w3 ⟨rfl, hb3⟩; rw [HE.out]; replace hB := hB.below hb3 hB.lt; replace hb := hb.trans (hb3.mono hb.size); have b0 := hB.cell 0; have b1 := hB.cell 1) | (go_at_call 18; refine (numT _ _).mono ?_; rintro e w6 ⟨rfl, rfl⟩))
      have hs3 := hb.size
      have hBl0 := hB.lt
      go_upto_region 6 with (go_at_call 31; refine (copy_any ⟨nodes, files, NA, nn, nc, FA, fn, fc⟩ ds _ (HTD.out.keep hb) (by show nn ≤ _; omega) (by show fn ≤ _; omega) (fun x hx => Nat.le_trans (HG.out.small x hx) (by omega))).mono ?_; rintro e w4 ⟨⟨un, ufs, NB, unn, nc2, FB, ufn, fc2⟩, rfl, en, enn, efn, hul, hum, hoN, hoF, hFR, hb4⟩; simp only [TV.val])
      simp only at en enn efn hul hum hoN hoF hFR
      replace en := en.symm; replace enn := enn.symm; replace efn := efn.symm
      subst en enn efn
      have HUL := Lib.hid hul; have HUM := Lib.hid hum
      have hs4 := hb4.size
      replace hB := (hB.below hb4 hB.lt).alloc (.cells #[.slice NB nn nc2, .slice FB fn fc2] 26)
      replace hb := (hb.trans (hb4.mono hb.size)).alloc (by omega) (.cells #[.slice NB nn nc2, .slice FB fn fc2] 26)
      have hU := Blk.new w4 26 #[.slice NB nn nc2, .slice FB fn fc2]
      have HoN := Lib.hid (hoN.alloc (.cells #[.slice NB nn nc2, .slice FB fn fc2] 26))
      have HoF := Lib.hid (hoF.alloc (.cells #[.slice NB nn nc2, .slice FB fn fc2] 26))
      have HFR := Lib.hid (hFR.grown (World.grownBy_alloc w4 (.cells #[.slice NB nn nc2, .slice FB fn fc2] 26) none) (fun k f b _ _ e => by cases e))
      clear hul hum hoN hoF hFR hb4 b0 b1
      obtain ⟨W5, hW5⟩ : ∃ W5, W5 = w4.alloc (.cells #[.slice NB nn nc2, .slice FB fn fc2] 26) := ⟨_, rfl⟩
      rw [← hW5] at hB hb hU HoN HoF HFR ⊢
      obtain ⟨ub, hub⟩ : ∃ ub, ub = w4.heap.size := ⟨_, rfl⟩
      rw [← hub] at hU ⊢
      have hubl : w.heap.size < ub := by omega
      clear hW5 hub
      have b0 := hB.cell 0
      have b1 := hB.cell 1
      have hbs := hb.size
      obtain ⟨k, hk⟩ : ∃ k, k = a % nn := ⟨_, rfl⟩
      have hlt : k < nn := by rw [hk]; exact Nat.mod_lt _ (by omega)
      have hki : (k : Int) < nn := by omega
      have hmod : (a : Int) % (nn : Int) = (k : Int) := by rw [hk]; omega
      clear hk
      obtain ⟨xb, xo, x, rfl, hxb, hx, hc⟩ := (HS.out.keep (Nat.le_refl _) hb.block).get Node.len Hn.out hlt
      have c1 := hc 1 _ rfl
      clear hc
      have HX := Lib.hid hx
      have hkind := HG.out.kind x (List.mem_of_getElem? hx)
      clear hx
      obtain ⟨gN, rfl⟩ := own_some HoN.out (by omega)
      go_upto_region 9 with (fail)
      clear c1
      simp only [hmod]
      have HM := Lib.hid hmod; clear hmod
      have v0 := hU.cell 0
      have v1 := hU.cell 1
      have hUl := hU.lt
      have hgN := (own_lt2 HoN.out).2.1
      have hgb := (own_lt2 HoN.out).1
      obtain ⟨hrowN, _⟩ := own_row HoN.out
      have HrowN := Lib.hid hrowN; clear hrowN
      have y0 := HrowN.out.get Node.len HX.out (j := 0) (v := .string x.path) rfl
      have y1 := HrowN.out.get Node.len HX.out (j := 1) (v := .int .i64 x.file) rfl
      have y2 := HrowN.out.get Node.len HX.out (j := 2) (v := .int .i64 x.mode) rfl
      simp only [Nat.zero_add, Nat.add_zero] at y0 y1 y2
      by_cases hw : what = 0
      · have hw2 : (what == 0) = true := beq_iff_eq.2 hw
        have HW := Lib.hid hw; clear hw
        by_cases hf : x.file = -1
        · have hf2 : (x.file == -1) = true := beq_iff_eq.2 hf
          have HF := Lib.hid hf; clear hf
          clear y0 y1 v1
          have y2f := own_frozen HoN.out (k * 3 + 2)
          go_upto_region 10 with (fail)
          refine wp_region_ordG (none) [(0, true), (1, true), (2, true), (3, true), (4, true), (5, true), (6, true), (7, true), (8, true), (9, true), (10, true), (11, true)] 12 (by kernel_rfl) (by kernel_rfl) fun hG0 => ?_
          repeat (first
            | (refine ord_skipB rfl (by rfl) ?_; simp only [Act.put, List.setIfInBounds_toArray, List.set_cons_zero, List.set_cons_succ])
            | (refine ord_qE rfl (by rfl) ?_; apply Exists.intro; refine ⟨fun w' hc' => ?_, ?_⟩; (focus (go_simp; (try go_bits); (try simp only [↓IntWalk.iteOmega]); with_reducible rfl)); simp only [Act.put, List.setIfInBounds_toArray, List.set_cons_zero, List.set_cons_succ]))
          refine ord_tail rfl fun K hK => ?_
          go_wp2_with (fail)
          refine hK.out _ _ ?_
          clear hK K
          obtain ⟨M, hM⟩ : ∃ M, Go.bits .xor .i64 x.mode 1 = M := ⟨_, rfl⟩
          have hMne : x.mode ≠ M := by
            rw [← hM]
            rcases hkind with ⟨_, h5⟩ | ⟨h5, _, _⟩
            · exact fun e => xor_ne (okMode_le h5) e.symm
            · have := HF.out; omega
          have hXne : x ≠ ⟨x.path, x.file, M, x.hp⟩ := fun e => hMne (congrArg Node.mode e)
          rw [hM]
          clear hM y2 y2f v0 b0 b1 hG0
          have hgne : gN ≠ ub := fun e => hU.ne_row HoN.out (by decide) (by rw [e]; rfl)
          have HO8 := Lib.hid (own_setcell (i := k * 3 + 2) HoN.out (.int .i64 M))
          rw [flat_set (x' := ⟨x.path, x.file, M, x.hp⟩) Node.len HX.out (by omega) rfl] at HO8
          obtain ⟨W8, hW8⟩ : ∃ W8, W8 = (W5.setCell ⟨gN, k * 3 + 2, none⟩ (.int .i64 M)).drew := ⟨_, rfl⟩
          rw [← hW8]
          have hb8 : Below w.heap.size w W8 := by rw [hW8]; exact (hb.setCell (p := ⟨gN, k * 3 + 2, none⟩) (by show w.heap.size ≤ gN; omega) _).drew
          have hB8 : Blk W8 w.heap.size 26 #[.slice (some ⟨xb, xo, none⟩) nn nc, .slice FA fn fc] := by rw [hW8]; exact hB.set_ne ⟨gN, k * 3 + 2, none⟩ _ (by show w.heap.size ≠ gN; omega)
          have hU8 : Blk W8 ub 26 #[.slice (some ⟨gN, 0, none⟩) nn nc2, .slice FB fn fc2] := by rw [hW8]; exact hU.set_ne ⟨gN, k * 3 + 2, none⟩ _ (fun e => hgne e.symm)
          have hgd : ufs.length ≤ ds.length := by rw [HUL.out, HTD.out.dat.len]; exact Nat.le_of_eq HTD.out.tree.fl.symm
          obtain ⟨es', hes'⟩ : ∃ es', es' = ds := ⟨_, rfl⟩
          have HUT : Hid (TreeD W8 ⟨nodes.set k ⟨x.path, x.file, M, x.hp⟩, ufs, some ⟨gN, 0, none⟩, nn, nc2, FB, fn, fc2⟩ es') := Lib.hid (by
            rw [hes', hW8]
            refine ⟨⟨by rw [List.length_set]; exact Hn.out, HUL.out, Sl.of_own HO8.out, ?_, by show nn ≤ _; omega, by show fn ≤ _; omega⟩, ?_⟩
            · exact Sl.of_own (own_keep HoF.out fun g o (e : FB = _) => heap_setCell_other W5 ⟨gN, k * 3 + 2, none⟩ g _ (fun e2 => row_ne_row HoF.out HoN.out (by decide) (b := g) (by rw [e]; rfl) (by rw [e2]; rfl)))
            · exact dat_rows (HFR.out.keep (by simp [World.setCell]) fun i f b hf hbb => heap_setCell_other W5 ⟨gN, k * 3 + 2, none⟩ b _ (fun e2 => HFR.out.not_row hgd HoN.out (by decide) i f b hf hbb (by rw [e2]; rfl))) (by rw [HUL.out, HTD.out.dat.len]; exact HTD.out.tree.fl))
          have HNE : Hid (exactB ⟨nodes, files, some ⟨xb, xo, none⟩, nn, nc, FA, fn, fc⟩ ⟨nodes.set k ⟨x.path, x.file, M, x.hp⟩, ufs, some ⟨gN, 0, none⟩, nn, nc2, FB, fn, fc2⟩ ds es' = false) := Lib.hid (exact_no_nodes (set_ne' HX.out hXne))
          clear hW8 hes' hB hU HO8 HoN HoF HFR hb
          obtain ⟨u', hu'⟩ : ∃ u' : TV, u' = ⟨nodes.set k ⟨x.path, x.file, M, x.hp⟩, ufs, some ⟨gN, 0, none⟩, nn, nc2, FB, fn, fc2⟩ := ⟨_, rfl⟩
          rw [← hu'] at HUT HNE
          have HU' := Lib.hid hu'
          have hes := HUT.out.dat.len
          have hul2 := HUT.out.tree.nl; have hfl2 := HUT.out.tree.fl
          have hdl := HTD.out.dat.len
          have hval : Value.agg #[.slice (some ⟨gN, 0, none⟩) nn nc2, .slice FB fn fc2] = u'.val := by rw [hu']; rfl
          have HVAL := Lib.hid hval; clear hval hu'
          have b8 := hB8.cell 0
          have b9 := hB8.cell 1
          have u8 := hU8.cell 0
          have u9 := hU8.cell 1
          by_cases e7 : looseE u' = 0
          · have G2 := good_of_loose e7
            have hstr := tree_str (t := ⟨nodes, files, some ⟨xb, xo, none⟩, nn, nc, FA, fn, fc⟩) (u := u') hdl hes (treeI_range HG.out Hn.out HTD.out.tree.fl (dat_small HTD.out HG.out)) (treeI_range G2 hul2 hfl2 (dat_small HUT.out G2)) HNE.out
            have hsame : sameB ⟨nodes, files, some ⟨xb, xo, none⟩, nn, nc, FA, fn, fc⟩ u' ds es' = false := by rw [sameB, HNE.out]; simp
            have HE7 := Lib.hid e7; have HSTR := Lib.hid hstr; have HSAME := Lib.hid hsame
            clear e7 hstr hsame hes hul2 hfl2 hdl G2
            go_upto_region 18 with (go_at_call 32; refine (bytes_yes ⟨nodes, files, some ⟨xb, xo, none⟩, nn, nc, FA, fn, fc⟩ ds _ (HTD.out.keep hb8) HL.out).mono ?_; rintro e w9 ⟨A7, n7, c7, rfl, hn7, ho7, hq⟩; have HN7 := Lib.hid hn7; have HO7 := Lib.hid (Sl.of_own ho7); clear hn7 ho7)
            replace hB8 := hB8.below hq hB8.lt; replace hU8 := hU8.below hq hU8.lt
            have hb9 := hb8.trans (hq.mono hb8.size)
            replace HUT := Lib.hid (HUT.out.keep hq)
            clear b8 b9 u8 u9 hq
            have u8 := hU8.cell 0; have u9 := hU8.cell 1
            go_upto_region 19 with (go_at_call 32; rw [HVAL.out]; refine (bytes_yes u' es' _ HUT.out HE7.out).mono ?_; rintro e w10 ⟨A8, n8, c8, rfl, hn8, ho8, hq⟩; have HN8 := Lib.hid hn8; have HO8 := Lib.hid (Sl.of_own ho8); clear hn8 ho8)
            replace HO7 := Lib.hid (HO7.out.keep hq.size hq.block)
            replace hB8 := hB8.below hq hB8.lt; replace hU8 := hU8.below hq hU8.lt
            have hb10 := hb9.trans (hq.mono hb9.size)
            replace HUT := Lib.hid (HUT.out.keep hq)
            clear u8 u9 hq
            have b8 := hB8.cell 0; have b9 := hB8.cell 1
            have u8 := hU8.cell 0; have u9 := hU8.cell 1
            have k7 := run_convI (c := c7) HO7.out HN7.out (by rw [← HN7.out]; exact tree_pos _ _)
            have k8 := run_convI (c := c8) HO8.out HN8.out (by rw [← HN8.out]; exact tree_pos _ _)
            obtain ⟨S7, hS7⟩ : ∃ S7, strOfNums (treeI ⟨nodes, files, some ⟨xb, xo, none⟩, nn, nc, FA, fn, fc⟩ ds) = S7 := ⟨_, rfl⟩
            obtain ⟨S8, hS8⟩ : ∃ S8, strOfNums (treeI u' es') = S8 := ⟨_, rfl⟩
            have hs78 := HSTR.out
            rw [hS8, show strOfNums (treeI ⟨nodes, files, some ⟨xb, xo, none⟩, nn, nc, FA, fn, fc⟩ ds) = S7 from hS7] at hs78
            rw [hS7] at k7; rw [hS8] at k8
            have HS7 := Lib.hid hS7; have HS8 := Lib.hid hS8; clear hS7 hS8
            go_upto_region 21 with (go_at_call 18; refine (numT _ _).mono ?_; rintro e w11 ⟨rfl, rfl⟩)
            go_wp2_with (go_at_call 22; rw [HVAL.out]; refine (same_any ⟨nodes, files, some ⟨xb, xo, none⟩, nn, nc, FA, fn, fc⟩ u' ds es' _ (HTD.out.keep hb10) HUT.out).mono ?_; rintro e w12 ⟨rfl, hq⟩; rw [HSAME.out])
            go_ret
            exact ⟨rfl, hb10.trans (hq.mono hb10.size)⟩
          · have hsame : sameB ⟨nodes, files, some ⟨xb, xo, none⟩, nn, nc, FA, fn, fc⟩ u' ds es' = false := by rw [sameB, HNE.out]; simp
            obtain ⟨F, hF⟩ : ∃ F, looseE u' = F := ⟨_, rfl⟩
            rw [hF] at e7
            have f2 : (F == 0) = false := beq_eq_false_iff_ne.2 e7
            have f3 : (F != 0) = true := bne_iff_ne.2 e7
            have HF7 := Lib.hid hF; have HSAME := Lib.hid hsame; have HE7 := Lib.hid (show looseE u' ≠ 0 by rw [hF]; exact e7)
            clear e7 hsame hF hes hul2 hfl2 hdl
            go_upto_region 18 with (go_at_call 32; refine (bytes_yes ⟨nodes, files, some ⟨xb, xo, none⟩, nn, nc, FA, fn, fc⟩ ds _ (HTD.out.keep hb8) HL.out).mono ?_; rintro e w9 ⟨A7, n7, c7, rfl, hn7, ho7, hq⟩; clear hn7 ho7)
            replace hB8 := hB8.below hq hB8.lt; replace hU8 := hU8.below hq hU8.lt
            have hb9 := hb8.trans (hq.mono hb8.size)
            replace HUT := Lib.hid (HUT.out.keep hq)
            clear b8 b9 u8 u9 hq
            have u8 := hU8.cell 0; have u9 := hU8.cell 1
            go_upto_region 19 with (go_at_call 32; rw [HVAL.out]; refine (bytes_no u' _ HUT.out.tree HE7.out).mono ?_; rintro e w10 ⟨rfl, hq⟩; rw [HF7.out])
            replace hB8 := hB8.below hq hB8.lt; replace hU8 := hU8.below hq hU8.lt
            have hb10 := hb9.trans (hq.mono hb9.size)
            replace HUT := Lib.hid (HUT.out.keep hq)
            clear u8 u9 hq
            have b8 := hB8.cell 0; have b9 := hB8.cell 1
            have u8 := hU8.cell 0; have u9 := hU8.cell 1
            go_wp2_with (first | (go_at_call 18; refine (numT _ _).mono ?_; rintro e w11 ⟨rfl, rfl⟩) | (go_at_call 22; rw [HVAL.out]; refine (same_any ⟨nodes, files, some ⟨xb, xo, none⟩, nn, nc, FA, fn, fc⟩ u' ds es' _ (HTD.out.keep hb10) HUT.out).mono ?_; rintro e w12 ⟨rfl, hq⟩; rw [HSAME.out]))
            go_ret
            exact ⟨rfl, hb10.trans (hq.mono hb10.size)⟩
        ·
          have hf2 : (x.file == -1) = false := beq_eq_false_iff_ne.2 hf
          have hf3 : (x.file != -1) = true := bne_iff_ne.2 hf
          obtain ⟨f, hff⟩ : ∃ f : Nat, x.file = f := by
            rcases hkind with ⟨h5, _⟩ | ⟨h5, _, _⟩
            · exact absurd h5 hf
            · exact Int.eq_ofNat_of_zero_le h5
          have hfn : f < fn := by
            rcases hkind with ⟨h5, _⟩ | ⟨_, h5, _⟩
            · exact absurd h5 hf
            · have h6 : x.file < fn := h5
              omega
          have hfi : (f : Int) < fn := by omega
          rw [hff] at hf2 hf3 ⊢
          have HFF := Lib.hid hff; clear hff hf
          obtain ⟨gF, rfl⟩ := own_some HoF.out (by omega)
          obtain ⟨y, hy⟩ : ∃ y, ufs[f]? = some y := ⟨_, List.getElem?_eq_getElem (by rw [HUL.out]; exact hfn)⟩
          have HY := Lib.hid hy; clear hy
          have hgF := (own_lt2 HoF.out).2.1
          have hgFb := (own_lt2 HoF.out).1
          obtain ⟨hrowF, _⟩ := own_row HoF.out
          have HrowF := Lib.hid hrowF; clear hrowF
          have z0 := HrowF.out.get FC.len HY.out (j := 0) (v := .int .i64 y.mode) rfl
          have z1 := HrowF.out.get FC.len HY.out (j := 1) (v := .slice y.A y.n y.c) rfl
          simp only [Nat.zero_add, Nat.add_zero] at z0 z1
          clear y0 y1 y2 v0
          have z0f := own_frozen HoF.out (f * 2)
          go_upto_region 12 with (fail)
          refine wp_region_ordG (none) [(0, true), (1, true), (2, true), (3, true), (4, true), (5, true), (6, true), (7, true), (8, true), (9, true), (10, true), (11, true)] 12 (by kernel_rfl) (by kernel_rfl) fun hG0 => ?_
          repeat (first
            | (refine ord_skipB rfl (by rfl) ?_; simp only [Act.put, List.setIfInBounds_toArray, List.set_cons_zero, List.set_cons_succ])
            | (refine ord_qE rfl (by rfl) ?_; apply Exists.intro; refine ⟨fun w' hc' => ?_, ?_⟩; (focus (go_simp; (try go_bits); (try simp only [↓IntWalk.iteOmega]); with_reducible rfl)); simp only [Act.put, List.setIfInBounds_toArray, List.set_cons_zero, List.set_cons_succ]))
          refine ord_tail rfl fun K hK => ?_
          go_wp2_with (fail)
          refine hK.out _ _ ?_
          clear hK K
          obtain ⟨M, hM⟩ : ∃ M, Go.bits .xor .i64 y.mode 1 = M := ⟨_, rfl⟩
          have hym : (files.map (·.mode))[f]? = some y.mode := by rw [← HUM.out, List.getElem?_map, HY.out]; rfl
          have hMne : y.mode ≠ M := by
            rw [← hM]
            obtain ⟨z, hz, hz2⟩ := List.mem_map.1 (List.mem_of_getElem? hym)
            have h5 := okMode_le (HG.out.modes z hz)
            rw [hz2] at h5
            exact fun e => xor_ne h5 e.symm
          rw [hM]
          clear hM z0 z1 z0f v1 b0 b1 hG0
          have hgne : gF ≠ ub := fun e => hU.ne_row HoF.out (by decide) (by rw [e]; rfl)
          have HO8 := Lib.hid (own_setcell (i := f * 2 + 0) HoF.out (.int .i64 M))
          rw [flat_set (x' := ⟨M, y.A, y.n, y.c⟩) FC.len HY.out (by omega) rfl] at HO8
          obtain ⟨W8, hW8⟩ : ∃ W8, W8 = (W5.setCell ⟨gF, f * 2, none⟩ (.int .i64 M)).drew := ⟨_, rfl⟩
          rw [← hW8]
          have hb8 : Below w.heap.size w W8 := by rw [hW8]; exact (hb.setCell (p := ⟨gF, f * 2, none⟩) (by show w.heap.size ≤ gF; omega) _).drew
          have hB8 : Blk W8 w.heap.size 26 #[.slice (some ⟨xb, xo, none⟩) nn nc, .slice FA fn fc] := by rw [hW8]; exact hB.set_ne ⟨gF, f * 2, none⟩ _ (by show w.heap.size ≠ gF; omega)
          have hU8 : Blk W8 ub 26 #[.slice (some ⟨gN, 0, none⟩) nn nc2, .slice (some ⟨gF, 0, none⟩) fn fc2] := by rw [hW8]; exact hU.set_ne ⟨gF, f * 2, none⟩ _ (fun e => hgne e.symm)
          have hgd : ufs.length ≤ ds.length := by rw [HUL.out, HTD.out.dat.len]; exact Nat.le_of_eq HTD.out.tree.fl.symm
          obtain ⟨es', hes'⟩ : ∃ es', es' = ds := ⟨_, rfl⟩
          have hdat : DatAt (W5.setCell ⟨gF, f * 2, none⟩ (.int .i64 M)) ufs ds := dat_rows (HFR.out.keep (by simp [World.setCell]) fun i f' b hf hbb => heap_setCell_other W5 ⟨gF, f * 2, none⟩ b _ (fun e2 => HFR.out.not_row hgd HoF.out (by decide) i f' b hf hbb (by rw [e2]; rfl))) (by rw [HUL.out, HTD.out.dat.len]; exact HTD.out.tree.fl)
          have HUT : Hid (TreeD W8 ⟨nodes, ufs.set f ⟨M, y.A, y.n, y.c⟩, some ⟨gN, 0, none⟩, nn, nc2, some ⟨gF, 0, none⟩, fn, fc2⟩ es') := Lib.hid (by
            rw [hes', hW8]
            refine ⟨⟨Hn.out, by rw [List.length_set]; exact HUL.out, ?_, Sl.of_own HO8.out, by show nn ≤ _; omega, by show fn ≤ _; omega⟩, ⟨by rw [List.length_set]; exact hdat.len, fun i z d hz hd => ?_⟩⟩
            · exact Sl.of_own (own_keep HoN.out fun g o (e : (some ⟨gN, 0, none⟩ : Option Addr) = _) => heap_setCell_other W5 ⟨gF, f * 2, none⟩ g _ (fun e2 => row_ne_row HoN.out HoF.out (by decide) (b := g) (by rw [e]; rfl) (by rw [e2]; rfl)))
            · by_cases hi : i = f
              · subst hi
                rw [List.getElem?_set_self (by rw [HUL.out]; exact hfn)] at hz
                injection hz with hz
                subst hz
                exact hdat.at_ i y d HY.out hd
              · rw [List.getElem?_set_ne (fun e => hi e.symm)] at hz
                exact hdat.at_ i z d hz hd)
          have HNE : Hid (exactB ⟨nodes, files, some ⟨xb, xo, none⟩, nn, nc, FA, fn, fc⟩ ⟨nodes, ufs.set f ⟨M, y.A, y.n, y.c⟩, some ⟨gN, 0, none⟩, nn, nc2, some ⟨gF, 0, none⟩, fn, fc2⟩ ds es' = false) := Lib.hid (exact_no_modes (by
            show files.map (·.mode) ≠ (ufs.set f ⟨M, y.A, y.n, y.c⟩).map (·.mode)
            rw [List.map_set, HUM.out]
            exact set_ne' hym hMne))
          clear hW8 hes' hB hU HO8 HoN HoF HFR hb hdat hym
          obtain ⟨u', hu'⟩ : ∃ u' : TV, u' = ⟨nodes, ufs.set f ⟨M, y.A, y.n, y.c⟩, some ⟨gN, 0, none⟩, nn, nc2, (some ⟨gF, 0, none⟩), fn, fc2⟩ := ⟨_, rfl⟩
          rw [← hu'] at HUT HNE
          have HU' := Lib.hid hu'
          have hes := HUT.out.dat.len
          have hul2 := HUT.out.tree.nl; have hfl2 := HUT.out.tree.fl
          have hdl := HTD.out.dat.len
          have hval : Value.agg #[.slice (some ⟨gN, 0, none⟩) nn nc2, .slice (some ⟨gF, 0, none⟩) fn fc2] = u'.val := by rw [hu']; rfl
          have HVAL := Lib.hid hval; clear hval hu'
          have b8 := hB8.cell 0
          have b9 := hB8.cell 1
          have u8 := hU8.cell 0
          have u9 := hU8.cell 1
          by_cases e7 : looseE u' = 0
          · have G2 := good_of_loose e7
            have hstr := tree_str (t := ⟨nodes, files, some ⟨xb, xo, none⟩, nn, nc, FA, fn, fc⟩) (u := u') hdl hes (treeI_range HG.out Hn.out HTD.out.tree.fl (dat_small HTD.out HG.out)) (treeI_range G2 hul2 hfl2 (dat_small HUT.out G2)) HNE.out
            have hsame : sameB ⟨nodes, files, some ⟨xb, xo, none⟩, nn, nc, FA, fn, fc⟩ u' ds es' = false := by rw [sameB, HNE.out]; simp
            have HE7 := Lib.hid e7; have HSTR := Lib.hid hstr; have HSAME := Lib.hid hsame
            clear e7 hstr hsame hes hul2 hfl2 hdl G2
            go_upto_region 18 with (go_at_call 32; refine (bytes_yes ⟨nodes, files, some ⟨xb, xo, none⟩, nn, nc, FA, fn, fc⟩ ds _ (HTD.out.keep hb8) HL.out).mono ?_; rintro e w9 ⟨A7, n7, c7, rfl, hn7, ho7, hq⟩; have HN7 := Lib.hid hn7; have HO7 := Lib.hid (Sl.of_own ho7); clear hn7 ho7)
            replace hB8 := hB8.below hq hB8.lt; replace hU8 := hU8.below hq hU8.lt
            have hb9 := hb8.trans (hq.mono hb8.size)
            replace HUT := Lib.hid (HUT.out.keep hq)
            clear b8 b9 u8 u9 hq
            have u8 := hU8.cell 0; have u9 := hU8.cell 1
            go_upto_region 19 with (go_at_call 32; rw [HVAL.out]; refine (bytes_yes u' es' _ HUT.out HE7.out).mono ?_; rintro e w10 ⟨A8, n8, c8, rfl, hn8, ho8, hq⟩; have HN8 := Lib.hid hn8; have HO8 := Lib.hid (Sl.of_own ho8); clear hn8 ho8)
            replace HO7 := Lib.hid (HO7.out.keep hq.size hq.block)
            replace hB8 := hB8.below hq hB8.lt; replace hU8 := hU8.below hq hU8.lt
            have hb10 := hb9.trans (hq.mono hb9.size)
            replace HUT := Lib.hid (HUT.out.keep hq)
            clear u8 u9 hq
            have b8 := hB8.cell 0; have b9 := hB8.cell 1
            have u8 := hU8.cell 0; have u9 := hU8.cell 1
            have k7 := run_convI (c := c7) HO7.out HN7.out (by rw [← HN7.out]; exact tree_pos _ _)
            have k8 := run_convI (c := c8) HO8.out HN8.out (by rw [← HN8.out]; exact tree_pos _ _)
            obtain ⟨S7, hS7⟩ : ∃ S7, strOfNums (treeI ⟨nodes, files, some ⟨xb, xo, none⟩, nn, nc, FA, fn, fc⟩ ds) = S7 := ⟨_, rfl⟩
            obtain ⟨S8, hS8⟩ : ∃ S8, strOfNums (treeI u' es') = S8 := ⟨_, rfl⟩
            have hs78 := HSTR.out
            rw [hS8, show strOfNums (treeI ⟨nodes, files, some ⟨xb, xo, none⟩, nn, nc, FA, fn, fc⟩ ds) = S7 from hS7] at hs78
            rw [hS7] at k7; rw [hS8] at k8
            have HS7 := Lib.hid hS7; have HS8 := Lib.hid hS8; clear hS7 hS8
            go_upto_region 21 with (go_at_call 18; refine (numT _ _).mono ?_; rintro e w11 ⟨rfl, rfl⟩)
            go_wp2_with (go_at_call 22; rw [HVAL.out]; refine (same_any ⟨nodes, files, some ⟨xb, xo, none⟩, nn, nc, FA, fn, fc⟩ u' ds es' _ (HTD.out.keep hb10) HUT.out).mono ?_; rintro e w12 ⟨rfl, hq⟩; rw [HSAME.out])
            go_ret
            exact ⟨rfl, hb10.trans (hq.mono hb10.size)⟩
          · have hsame : sameB ⟨nodes, files, some ⟨xb, xo, none⟩, nn, nc, FA, fn, fc⟩ u' ds es' = false := by rw [sameB, HNE.out]; simp
            obtain ⟨F, hF⟩ : ∃ F, looseE u' = F := ⟨_, rfl⟩
            rw [hF] at e7
            have f2 : (F == 0) = false := beq_eq_false_iff_ne.2 e7
            have f3 : (F != 0) = true := bne_iff_ne.2 e7
            have HF7 := Lib.hid hF; have HSAME := Lib.hid hsame; have HE7 := Lib.hid (show looseE u' ≠ 0 by rw [hF]; exact e7)
            clear e7 hsame hF hes hul2 hfl2 hdl
            go_upto_region 18 with (go_at_call 32; refine (bytes_yes ⟨nodes, files, some ⟨xb, xo, none⟩, nn, nc, FA, fn, fc⟩ ds _ (HTD.out.keep hb8) HL.out).mono ?_; rintro e w9 ⟨A7, n7, c7, rfl, hn7, ho7, hq⟩; clear hn7 ho7)
            replace hB8 := hB8.below hq hB8.lt; replace hU8 := hU8.below hq hU8.lt
            have hb9 := hb8.trans (hq.mono hb8.size)
            replace HUT := Lib.hid (HUT.out.keep hq)
            clear b8 b9 u8 u9 hq
            have u8 := hU8.cell 0; have u9 := hU8.cell 1
            go_upto_region 19 with (go_at_call 32; rw [HVAL.out]; refine (bytes_no u' _ HUT.out.tree HE7.out).mono ?_; rintro e w10 ⟨rfl, hq⟩; rw [HF7.out])
            replace hB8 := hB8.below hq hB8.lt; replace hU8 := hU8.below hq hU8.lt
            have hb10 := hb9.trans (hq.mono hb9.size)
            replace HUT := Lib.hid (HUT.out.keep hq)
            clear u8 u9 hq
            have b8 := hB8.cell 0; have b9 := hB8.cell 1
            have u8 := hU8.cell 0; have u9 := hU8.cell 1
            go_wp2_with (first | (go_at_call 18; refine (numT _ _).mono ?_; rintro e w11 ⟨rfl, rfl⟩) | (go_at_call 22; rw [HVAL.out]; refine (same_any ⟨nodes, files, some ⟨xb, xo, none⟩, nn, nc, FA, fn, fc⟩ u' ds es' _ (HTD.out.keep hb10) HUT.out).mono ?_; rintro e w12 ⟨rfl, hq⟩; rw [HSAME.out]))
            go_ret
            exact ⟨rfl, hb10.trans (hq.mono hb10.size)⟩
      · have hw2 : (what == 0) = false := beq_eq_false_iff_ne.2 hw
        have HW := Lib.hid hw; clear hw
        by_cases hw3 : what = 1
        · have hw4 : (what == 1) = true := beq_iff_eq.2 hw3
          have hw5 : (what == 2) = false := beq_eq_false_iff_ne.2 (by omega)
          have HW3 := Lib.hid hw3; clear hw3
          by_cases hf : x.file = -1
          · have hf3 : (x.file != -1) = false := by rw [hf]; rfl
            have HF := Lib.hid hf; clear hf
            clear y1 y2
            have hx89 : x.path.size ≤ 89 := by
              have h1 := valid_len (HG.out.valid x (List.mem_of_getElem? HX.out))
              rwa [dlen] at h1
            have y0f := own_frozen HoN.out (k * 3)
            go_upto_region 8 with (fail)
            refine wp_region_ordG (none) [(0, true), (1, true), (2, true), (3, true), (4, true), (5, true), (6, true), (7, true), (8, true), (9, true), (10, true), (11, true)] 12 (by kernel_rfl) (by kernel_rfl) fun hG0 => ?_
            repeat (first
              | (refine ord_skipB rfl (by rfl) ?_; simp only [Act.put, List.setIfInBounds_toArray, List.set_cons_zero, List.set_cons_succ])
              | (refine ord_qE rfl (by rfl) ?_; apply Exists.intro; refine ⟨fun w' hc' => ?_, ?_⟩; (focus (go_simp; (try go_bits); (try simp only [↓IntWalk.iteOmega]); with_reducible rfl)); simp only [Act.put, List.setIfInBounds_toArray, List.set_cons_zero, List.set_cons_succ]))
            refine ord_tail rfl fun K hK => ?_
            go_wp2_with (fail)
            refine hK.out _ _ ?_
            clear hK K
            have hXp : (x.path ++ ⟨#[122]⟩).size ≤ 9223372036854775807 := by
              have h1 := valid_len (HG.out.valid x (List.mem_of_getElem? HX.out))
              rw [dlen] at h1
              rw [snoc_size]; omega
            have hXne : x ≠ ⟨x.path ++ ⟨#[122]⟩, x.file, x.mode, hXp⟩ := fun e => by
              have h1 := congrArg (fun y : Node => y.path.size) e
              simp only [snoc_size] at h1
              omega
            clear y0 y0f v0 b0 b1 hG0
            have hgne : gN ≠ ub := fun e => hU.ne_row HoN.out (by decide) (by rw [e]; rfl)
            have HO8 := Lib.hid (own_setcell (i := k * 3 + 0) HoN.out (.string (x.path ++ ⟨#[122]⟩)))
            rw [flat_set (x' := ⟨x.path ++ ⟨#[122]⟩, x.file, x.mode, hXp⟩) Node.len HX.out (by omega) rfl] at HO8
            obtain ⟨W8, hW8⟩ : ∃ W8, W8 = (W5.setCell ⟨gN, k * 3, none⟩ (.string (x.path ++ ⟨#[122]⟩))).drew := ⟨_, rfl⟩
            rw [← hW8]
            have hb8 : Below w.heap.size w W8 := by rw [hW8]; exact (hb.setCell (p := ⟨gN, k * 3, none⟩) (by show w.heap.size ≤ gN; omega) _).drew
            have hB8 : Blk W8 w.heap.size 26 #[.slice (some ⟨xb, xo, none⟩) nn nc, .slice FA fn fc] := by rw [hW8]; exact hB.set_ne ⟨gN, k * 3, none⟩ _ (by show w.heap.size ≠ gN; omega)
            have hU8 : Blk W8 ub 26 #[.slice (some ⟨gN, 0, none⟩) nn nc2, .slice FB fn fc2] := by rw [hW8]; exact hU.set_ne ⟨gN, k * 3, none⟩ _ (fun e => hgne e.symm)
            have hgd : ufs.length ≤ ds.length := by rw [HUL.out, HTD.out.dat.len]; exact Nat.le_of_eq HTD.out.tree.fl.symm
            obtain ⟨es', hes'⟩ : ∃ es', es' = ds := ⟨_, rfl⟩
            have HUT : Hid (TreeD W8 ⟨nodes.set k ⟨x.path ++ ⟨#[122]⟩, x.file, x.mode, hXp⟩, ufs, some ⟨gN, 0, none⟩, nn, nc2, FB, fn, fc2⟩ es') := Lib.hid (by
              rw [hes', hW8]
              refine ⟨⟨by rw [List.length_set]; exact Hn.out, HUL.out, Sl.of_own HO8.out, ?_, by show nn ≤ _; omega, by show fn ≤ _; omega⟩, ?_⟩
              · exact Sl.of_own (own_keep HoF.out fun g o (e : FB = _) => heap_setCell_other W5 ⟨gN, k * 3, none⟩ g _ (fun e2 => row_ne_row HoF.out HoN.out (by decide) (b := g) (by rw [e]; rfl) (by rw [e2]; rfl)))
              · exact dat_rows (HFR.out.keep (by simp [World.setCell]) fun i f b hf hbb => heap_setCell_other W5 ⟨gN, k * 3, none⟩ b _ (fun e2 => HFR.out.not_row hgd HoN.out (by decide) i f b hf hbb (by rw [e2]; rfl))) (by rw [HUL.out, HTD.out.dat.len]; exact HTD.out.tree.fl))
            have HNE : Hid (exactB ⟨nodes, files, some ⟨xb, xo, none⟩, nn, nc, FA, fn, fc⟩ ⟨nodes.set k ⟨x.path ++ ⟨#[122]⟩, x.file, x.mode, hXp⟩, ufs, some ⟨gN, 0, none⟩, nn, nc2, FB, fn, fc2⟩ ds es' = false) := Lib.hid (exact_no_nodes (set_ne' HX.out hXne))
            clear hW8 hes' hB hU HO8 HoN HoF HFR hb
            obtain ⟨u', hu'⟩ : ∃ u' : TV, u' = ⟨nodes.set k ⟨x.path ++ ⟨#[122]⟩, x.file, x.mode, hXp⟩, ufs, some ⟨gN, 0, none⟩, nn, nc2, FB, fn, fc2⟩ := ⟨_, rfl⟩
            rw [← hu'] at HUT HNE
            have HU' := Lib.hid hu'
            have hes := HUT.out.dat.len
            have hul2 := HUT.out.tree.nl; have hfl2 := HUT.out.tree.fl
            have hdl := HTD.out.dat.len
            have hval : Value.agg #[.slice (some ⟨gN, 0, none⟩) nn nc2, .slice FB fn fc2] = u'.val := by rw [hu']; rfl
            have HVAL := Lib.hid hval; clear hval hu'
            have b8 := hB8.cell 0
            have b9 := hB8.cell 1
            have u8 := hU8.cell 0
            have u9 := hU8.cell 1
            by_cases e7 : looseE u' = 0
            · have G2 := good_of_loose e7
              have hstr := tree_str (t := ⟨nodes, files, some ⟨xb, xo, none⟩, nn, nc, FA, fn, fc⟩) (u := u') hdl hes (treeI_range HG.out Hn.out HTD.out.tree.fl (dat_small HTD.out HG.out)) (treeI_range G2 hul2 hfl2 (dat_small HUT.out G2)) HNE.out
              have hsame : sameB ⟨nodes, files, some ⟨xb, xo, none⟩, nn, nc, FA, fn, fc⟩ u' ds es' = false := by rw [sameB, HNE.out]; simp
              have HE7 := Lib.hid e7; have HSTR := Lib.hid hstr; have HSAME := Lib.hid hsame
              clear e7 hstr hsame hes hul2 hfl2 hdl G2
              go_upto_region 18 with (go_at_call 32; refine (bytes_yes ⟨nodes, files, some ⟨xb, xo, none⟩, nn, nc, FA, fn, fc⟩ ds _ (HTD.out.keep hb8) HL.out).mono ?_; rintro e w9 ⟨A7, n7, c7, rfl, hn7, ho7, hq⟩; have HN7 := Lib.hid hn7; have HO7 := Lib.hid (Sl.of_own ho7); clear hn7 ho7)
              replace hB8 := hB8.below hq hB8.lt; replace hU8 := hU8.below hq hU8.lt
              have hb9 := hb8.trans (hq.mono hb8.size)
              replace HUT := Lib.hid (HUT.out.keep hq)
              clear b8 b9 u8 u9 hq
              have u8 := hU8.cell 0; have u9 := hU8.cell 1
              go_upto_region 19 with (go_at_call 32; rw [HVAL.out]; refine (bytes_yes u' es' _ HUT.out HE7.out).mono ?_; rintro e w10 ⟨A8, n8, c8, rfl, hn8, ho8, hq⟩; have HN8 := Lib.hid hn8; have HO8 := Lib.hid (Sl.of_own ho8); clear hn8 ho8)
              replace HO7 := Lib.hid (HO7.out.keep hq.size hq.block)
              replace hB8 := hB8.below hq hB8.lt; replace hU8 := hU8.below hq hU8.lt
              have hb10 := hb9.trans (hq.mono hb9.size)
              replace HUT := Lib.hid (HUT.out.keep hq)
              clear u8 u9 hq
              have b8 := hB8.cell 0; have b9 := hB8.cell 1
              have u8 := hU8.cell 0; have u9 := hU8.cell 1
              have k7 := run_convI (c := c7) HO7.out HN7.out (by rw [← HN7.out]; exact tree_pos _ _)
              have k8 := run_convI (c := c8) HO8.out HN8.out (by rw [← HN8.out]; exact tree_pos _ _)
              obtain ⟨S7, hS7⟩ : ∃ S7, strOfNums (treeI ⟨nodes, files, some ⟨xb, xo, none⟩, nn, nc, FA, fn, fc⟩ ds) = S7 := ⟨_, rfl⟩
              obtain ⟨S8, hS8⟩ : ∃ S8, strOfNums (treeI u' es') = S8 := ⟨_, rfl⟩
              have hs78 := HSTR.out
              rw [hS8, show strOfNums (treeI ⟨nodes, files, some ⟨xb, xo, none⟩, nn, nc, FA, fn, fc⟩ ds) = S7 from hS7] at hs78
              rw [hS7] at k7; rw [hS8] at k8
              have HS7 := Lib.hid hS7; have HS8 := Lib.hid hS8; clear hS7 hS8
              go_upto_region 21 with (go_at_call 18; refine (numT _ _).mono ?_; rintro e w11 ⟨rfl, rfl⟩)
              go_wp2_with (go_at_call 22; rw [HVAL.out]; refine (same_any ⟨nodes, files, some ⟨xb, xo, none⟩, nn, nc, FA, fn, fc⟩ u' ds es' _ (HTD.out.keep hb10) HUT.out).mono ?_; rintro e w12 ⟨rfl, hq⟩; rw [HSAME.out])
              go_ret
              exact ⟨rfl, hb10.trans (hq.mono hb10.size)⟩
            · have hsame : sameB ⟨nodes, files, some ⟨xb, xo, none⟩, nn, nc, FA, fn, fc⟩ u' ds es' = false := by rw [sameB, HNE.out]; simp
              obtain ⟨F, hF⟩ : ∃ F, looseE u' = F := ⟨_, rfl⟩
              rw [hF] at e7
              have f2 : (F == 0) = false := beq_eq_false_iff_ne.2 e7
              have f3 : (F != 0) = true := bne_iff_ne.2 e7
              have HF7 := Lib.hid hF; have HSAME := Lib.hid hsame; have HE7 := Lib.hid (show looseE u' ≠ 0 by rw [hF]; exact e7)
              clear e7 hsame hF hes hul2 hfl2 hdl
              go_upto_region 18 with (go_at_call 32; refine (bytes_yes ⟨nodes, files, some ⟨xb, xo, none⟩, nn, nc, FA, fn, fc⟩ ds _ (HTD.out.keep hb8) HL.out).mono ?_; rintro e w9 ⟨A7, n7, c7, rfl, hn7, ho7, hq⟩; clear hn7 ho7)
              replace hB8 := hB8.below hq hB8.lt; replace hU8 := hU8.below hq hU8.lt
              have hb9 := hb8.trans (hq.mono hb8.size)
              replace HUT := Lib.hid (HUT.out.keep hq)
              clear b8 b9 u8 u9 hq
              have u8 := hU8.cell 0; have u9 := hU8.cell 1
              go_upto_region 19 with (go_at_call 32; rw [HVAL.out]; refine (bytes_no u' _ HUT.out.tree HE7.out).mono ?_; rintro e w10 ⟨rfl, hq⟩; rw [HF7.out])
              replace hB8 := hB8.below hq hB8.lt; replace hU8 := hU8.below hq hU8.lt
              have hb10 := hb9.trans (hq.mono hb9.size)
              replace HUT := Lib.hid (HUT.out.keep hq)
              clear u8 u9 hq
              have b8 := hB8.cell 0; have b9 := hB8.cell 1
              have u8 := hU8.cell 0; have u9 := hU8.cell 1
              go_wp2_with (first | (go_at_call 18; refine (numT _ _).mono ?_; rintro e w11 ⟨rfl, rfl⟩) | (go_at_call 22; rw [HVAL.out]; refine (same_any ⟨nodes, files, some ⟨xb, xo, none⟩, nn, nc, FA, fn, fc⟩ u' ds es' _ (HTD.out.keep hb10) HUT.out).mono ?_; rintro e w12 ⟨rfl, hq⟩; rw [HSAME.out]))
              go_ret
              exact ⟨rfl, hb10.trans (hq.mono hb10.size)⟩
          ·
            have hf2 : (x.file == -1) = false := beq_eq_false_iff_ne.2 hf
            have hf3 : (x.file != -1) = true := bne_iff_ne.2 hf
            obtain ⟨f, hff⟩ : ∃ f : Nat, x.file = f := by
              rcases hkind with ⟨h5, _⟩ | ⟨h5, _, _⟩
              · exact absurd h5 hf
              · exact Int.eq_ofNat_of_zero_le h5
            have hfn : f < fn := by
              rcases hkind with ⟨h5, _⟩ | ⟨_, h5, _⟩
              · exact absurd h5 hf
              · have h6 : x.file < fn := h5
                omega
            have hfi : (f : Int) < fn := by omega
            rw [hff] at hf2 hf3 ⊢
            have HFF := Lib.hid hff; clear hff hf
            obtain ⟨gF, rfl⟩ := own_some HoF.out (by omega)
            obtain ⟨y, hy⟩ : ∃ y, ufs[f]? = some y := ⟨_, List.getElem?_eq_getElem (by rw [HUL.out]; exact hfn)⟩
            have HY := Lib.hid hy; clear hy
            have hgF := (own_lt2 HoF.out).2.1
            have hgFb := (own_lt2 HoF.out).1
            obtain ⟨hrowF, _⟩ := own_row HoF.out
            have HrowF := Lib.hid hrowF; clear hrowF
            have z0 := HrowF.out.get FC.len HY.out (j := 0) (v := .int .i64 y.mode) rfl
            have z1 := HrowF.out.get FC.len HY.out (j := 1) (v := .slice y.A y.n y.c) rfl
            simp only [Nat.zero_add, Nat.add_zero] at z0 z1
            have hgd : ufs.length ≤ ds.length := by rw [HUL.out, HTD.out.dat.len]; exact Nat.le_of_eq HTD.out.tree.fl.symm
            obtain ⟨d, hdx⟩ : ∃ d, ds[f]? = some d := ⟨_, List.getElem?_eq_getElem (by rw [HTD.out.dat.len]; exact Nat.lt_of_lt_of_le hfn (Nat.le_of_eq HTD.out.tree.fl.symm))⟩
            obtain ⟨hyn, hoY⟩ := HFR.out.row f y d HY.out hdx
            have hyd : y.n ≤ 8192 := by rw [hyn]; exact dat_small HTD.out HG.out d (List.mem_of_getElem? hdx)
            have HoY := Lib.hid hoY; have HYN := Lib.hid hyn; have HDX := Lib.hid hdx
            clear hoY hyn hdx
            clear y0 y1 y2 v0 z0
            have hneU : ¬ some ub = blkOf y.A := hU.ne_row HoY.out (by decide)
            have hneF : ¬ some gF = blkOf y.A := row_ne_row HoF.out HoY.out (by decide) rfl
            have hneB : ¬ some w.heap.size = blkOf y.A := hB.ne_row HoY.out (by decide)
            go_upto_region 14 with (fail)
            refine wp_region_ordG (blkOf y.A) [(0, true), (1, true), (2, true), (3, true), (4, true), (5, true), (6, true), (7, true), (8, true), (9, false), (10, false), (11, true), (12, true)] 13 (by kernel_rfl) (by kernel_rfl) fun hG0 => ?_
            repeat (first
              | (refine ord_skipB rfl (by rfl) ?_; simp only [Act.put, List.setIfInBounds_toArray, List.set_cons_zero, List.set_cons_succ])
              | (refine ord_qE rfl (by rfl) ?_; apply Exists.intro; refine ⟨fun w' hc' => ?_, ?_⟩; (focus (go_simp; (try go_bits); (try simp only [↓IntWalk.iteOmega]); with_reducible rfl)); simp only [Act.put, List.setIfInBounds_toArray, List.set_cons_zero, List.set_cons_succ]))
            refine ord_eB rfl fun K hK => ?_
            go_wp2_with (fail)
            have hG1 := grown_trans hG0 (World.grownBy_alloc W5.drew (.cells #[.int .u8 1] 5) (blkOf y.A))
            refine hK.out _ _ hG1 ?_
            clear hK K
            repeat (first
              | (refine ord_skipB rfl (by rfl) ?_; simp only [Act.put, List.setIfInBounds_toArray, List.set_cons_zero, List.set_cons_succ])
              | (refine ord_qE rfl (by rfl) ?_; apply Exists.intro; refine ⟨fun w' hc' => ?_, ?_⟩; (focus (go_simp; (try go_bits); (try simp only [↓IntWalk.iteOmega]); with_reducible rfl)); simp only [Act.put, List.setIfInBounds_toArray, List.set_cons_zero, List.set_cons_succ]))
            refine ord_eB rfl fun K hK => ?_
            go_wp2_with (at_builtin; refine wpList_append_sl rfl _ _ _ rfl Try.u8T rfl ((own_drew HoY.out).alloc _) rfl (Sl.blk (L := i8C [1]) (Blk.new W5.drew 5 #[.int .u8 1]) rfl rfl (Nat.lt_succ_self _)) (i8C_one _) (by unfold maxLen; omega) (by omega) (by simp; omega) ?_; intro A9 c9 w9 ho9 hg9 hat9)
            have hG2 := grown_trans hG1 (hg9)
            refine hK.out _ _ hG2 ?_
            clear hK K
            repeat (first
              | (refine ord_skipB rfl (by rfl) ?_; simp only [Act.put, List.setIfInBounds_toArray, List.set_cons_zero, List.set_cons_succ])
              | (refine ord_qE rfl (by rfl) ?_; apply Exists.intro; refine ⟨fun w' hc' => ?_, ?_⟩; (focus (go_simp; (try go_bits); (try simp only [↓IntWalk.iteOmega]); with_reducible rfl)); simp only [Act.put, List.setIfInBounds_toArray, List.set_cons_zero, List.set_cons_succ]))
            have HoF9 := Lib.hid (own_keep HoF.out fun g o (e : (some ⟨gF, 0, none⟩ : Option Addr) = _) => hG2.block g (by injection e with e; injection e with e; omega) (by injection e with e; injection e with e; rw [← e]; exact hneF))
            have z9 := (World.cell?_of_block (w := W5) (w' := w9) (a := ⟨gF, f * 2 + 1, none⟩) (hG2.block gF hgF hneF)).trans z1
            have z9f := own_frozen HoF9.out (f * 2 + 1)
            refine ord_tail rfl fun K hK => ?_
            go_wp2_with (fail)
            refine hK.out _ _ ?_
            clear hK K
            have hb9 := hb.trans (below_grown hG2 hbs (fun g e => by have := own_blk1 HoY.out g e; omega))
            have hB9 := hB.grown hG2 hneB
            have hU9 := hU.grown hG2 hneU
            have hgne : gF ≠ ub := fun e => hU9.ne_row HoF9.out (by decide) (by rw [e]; rfl)
            have HO8 := Lib.hid (own_setcell (i := f * 2 + 1) HoF9.out (.slice A9 (y.n + 1) c9))
            rw [flat_set (x' := ⟨y.mode, A9, y.n + 1, c9⟩) FC.len HY.out (by omega) rfl] at HO8
            clear z9 z9f z1 v1 b0 b1
            obtain ⟨W8, hW8⟩ : ∃ W8, W8 = w9.setCell ⟨gF, f * 2 + 1, none⟩ (.slice A9 (y.n + 1) c9) := ⟨_, rfl⟩
            rw [← hW8]
            have hb8 : Below w.heap.size w W8 := by rw [hW8]; exact hb9.setCell (p := ⟨gF, f * 2 + 1, none⟩) (by show w.heap.size ≤ gF; omega) _
            have hB8 : Blk W8 w.heap.size 26 #[.slice (some ⟨xb, xo, none⟩) nn nc, .slice FA fn fc] := by rw [hW8]; exact hB9.set_ne ⟨gF, f * 2 + 1, none⟩ _ (by show w.heap.size ≠ gF; omega)
            have hU8 : Blk W8 ub 26 #[.slice (some ⟨gN, 0, none⟩) nn nc2, .slice (some ⟨gF, 0, none⟩) fn fc2] := by rw [hW8]; exact hU9.set_ne ⟨gF, f * 2 + 1, none⟩ _ (fun e => hgne e.symm)
            obtain ⟨es', hes'⟩ : ∃ es', es' = ds.set f (d ++ ⟨#[1]⟩) := ⟨_, rfl⟩
            have HUT : Hid (TreeD W8 ⟨nodes, ufs.set f ⟨y.mode, A9, y.n + 1, c9⟩, some ⟨gN, 0, none⟩, nn, nc2, some ⟨gF, 0, none⟩, fn, fc2⟩ es') := Lib.hid (by
              rw [hes', hW8]
              refine ⟨⟨Hn.out, by rw [List.length_set]; exact HUL.out, ?_, Sl.of_own HO8.out, by show nn ≤ _; omega, by show fn ≤ _; omega⟩, ⟨by rw [List.length_set, List.length_set, HUL.out, HTD.out.dat.len]; exact HTD.out.tree.fl, fun i z d2 hz hd => ?_⟩⟩
              · exact Sl.of_own (own_keep HoN.out fun g o (e : (some ⟨gN, 0, none⟩ : Option Addr) = _) => (heap_setCell_other w9 ⟨gF, f * 2 + 1, none⟩ g _ (fun e2 => row_ne_row HoN.out HoF.out (by decide) (b := g) (by rw [e]; rfl) (by rw [e2]; rfl))).trans (hG2.block g (by injection e with e; injection e with e; omega) (fun e2 => row_ne_row HoN.out HoY.out (by decide) (b := g) (by rw [e]; rfl) e2)))
              · by_cases hi : i = f
                · subst hi
                  rw [List.getElem?_set_self (by rw [HUL.out]; exact hfn)] at hz
                  rw [List.getElem?_set_self (List.getElem?_eq_some_iff.1 HDX.out).1] at hd
                  injection hz with hz; injection hd with hd
                  subst hz hd
                  exact ⟨by show (d ++ ⟨#[1]⟩).size = y.n + 1; rw [snoc_size, HYN.out], Sl.of_own (own_keep (by rw [snoc_cells]; exact ho9) fun g o (e : A9 = _) => heap_setCell_other w9 ⟨gF, i * 2 + 1, none⟩ g _ (fun e2 => row_ne_row ho9 HoF9.out (by decide) (b := g) (by rw [e]; rfl) (by rw [e2]; rfl)))⟩
                · rw [List.getElem?_set_ne (fun e => hi e.symm)] at hz
                  rw [List.getElem?_set_ne (fun e => hi e.symm)] at hd
                  have hr := HFR.out.row i z d2 hz hd
                  exact ⟨hr.1.symm, Sl.of_own (own_keep hr.2 fun g o e => (heap_setCell_other w9 ⟨gF, f * 2 + 1, none⟩ g _ (fun e2 => row_ne_row hr.2 HoF.out (by decide) (b := g) (by rw [e]; rfl) (by rw [e2]; rfl))).trans (hG2.block g (HFR.out.low i z g hz (by rw [e]; rfl)) (fun e2 => HFR.out.apart i f z y hz HY.out hi g (by rw [e]; rfl) e2.symm)))⟩)
            have HNE : Hid (exactB ⟨nodes, files, some ⟨xb, xo, none⟩, nn, nc, FA, fn, fc⟩ ⟨nodes, ufs.set f ⟨y.mode, A9, y.n + 1, c9⟩, some ⟨gN, 0, none⟩, nn, nc2, some ⟨gF, 0, none⟩, fn, fc2⟩ ds es' = false) := Lib.hid (exact_no_data (by
              rw [hes']
              exact set_ne' HDX.out (fun e => by have := congrArg ByteArray.size e; rw [snoc_size] at this; omega)))
            clear hW8 hes' hB hU hB9 hU9 HO8 HoN HoF HoF9 HoY HFR hb hb9 hG0 hG1 hG2 hg9 hat9 ho9
            obtain ⟨u', hu'⟩ : ∃ u' : TV, u' = ⟨nodes, ufs.set f ⟨y.mode, A9, y.n + 1, c9⟩, some ⟨gN, 0, none⟩, nn, nc2, (some ⟨gF, 0, none⟩), fn, fc2⟩ := ⟨_, rfl⟩
            rw [← hu'] at HUT HNE
            have HU' := Lib.hid hu'
            have hes := HUT.out.dat.len
            have hul2 := HUT.out.tree.nl; have hfl2 := HUT.out.tree.fl
            have hdl := HTD.out.dat.len
            have hval : Value.agg #[.slice (some ⟨gN, 0, none⟩) nn nc2, .slice (some ⟨gF, 0, none⟩) fn fc2] = u'.val := by rw [hu']; rfl
            have HVAL := Lib.hid hval; clear hval hu'
            have b8 := hB8.cell 0
            have b9 := hB8.cell 1
            have u8 := hU8.cell 0
            have u9 := hU8.cell 1
            by_cases e7 : looseE u' = 0
            · have G2 := good_of_loose e7
              have hstr := tree_str (t := ⟨nodes, files, some ⟨xb, xo, none⟩, nn, nc, FA, fn, fc⟩) (u := u') hdl hes (treeI_range HG.out Hn.out HTD.out.tree.fl (dat_small HTD.out HG.out)) (treeI_range G2 hul2 hfl2 (dat_small HUT.out G2)) HNE.out
              have hsame : sameB ⟨nodes, files, some ⟨xb, xo, none⟩, nn, nc, FA, fn, fc⟩ u' ds es' = false := by rw [sameB, HNE.out]; simp
              have HE7 := Lib.hid e7; have HSTR := Lib.hid hstr; have HSAME := Lib.hid hsame
              clear e7 hstr hsame hes hul2 hfl2 hdl G2
              go_upto_region 18 with (go_at_call 32; refine (bytes_yes ⟨nodes, files, some ⟨xb, xo, none⟩, nn, nc, FA, fn, fc⟩ ds _ (HTD.out.keep hb8) HL.out).mono ?_; rintro e w9 ⟨A7, n7, c7, rfl, hn7, ho7, hq⟩; have HN7 := Lib.hid hn7; have HO7 := Lib.hid (Sl.of_own ho7); clear hn7 ho7)
              replace hB8 := hB8.below hq hB8.lt; replace hU8 := hU8.below hq hU8.lt
              have hb9 := hb8.trans (hq.mono hb8.size)
              replace HUT := Lib.hid (HUT.out.keep hq)
              clear b8 b9 u8 u9 hq
              have u8 := hU8.cell 0; have u9 := hU8.cell 1
              go_upto_region 19 with (go_at_call 32; rw [HVAL.out]; refine (bytes_yes u' es' _ HUT.out HE7.out).mono ?_; rintro e w10 ⟨A8, n8, c8, rfl, hn8, ho8, hq⟩; have HN8 := Lib.hid hn8; have HO8 := Lib.hid (Sl.of_own ho8); clear hn8 ho8)
              replace HO7 := Lib.hid (HO7.out.keep hq.size hq.block)
              replace hB8 := hB8.below hq hB8.lt; replace hU8 := hU8.below hq hU8.lt
              have hb10 := hb9.trans (hq.mono hb9.size)
              replace HUT := Lib.hid (HUT.out.keep hq)
              clear u8 u9 hq
              have b8 := hB8.cell 0; have b9 := hB8.cell 1
              have u8 := hU8.cell 0; have u9 := hU8.cell 1
              have k7 := run_convI (c := c7) HO7.out HN7.out (by rw [← HN7.out]; exact tree_pos _ _)
              have k8 := run_convI (c := c8) HO8.out HN8.out (by rw [← HN8.out]; exact tree_pos _ _)
              obtain ⟨S7, hS7⟩ : ∃ S7, strOfNums (treeI ⟨nodes, files, some ⟨xb, xo, none⟩, nn, nc, FA, fn, fc⟩ ds) = S7 := ⟨_, rfl⟩
              obtain ⟨S8, hS8⟩ : ∃ S8, strOfNums (treeI u' es') = S8 := ⟨_, rfl⟩
              have hs78 := HSTR.out
              rw [hS8, show strOfNums (treeI ⟨nodes, files, some ⟨xb, xo, none⟩, nn, nc, FA, fn, fc⟩ ds) = S7 from hS7] at hs78
              rw [hS7] at k7; rw [hS8] at k8
              have HS7 := Lib.hid hS7; have HS8 := Lib.hid hS8; clear hS7 hS8
              go_upto_region 21 with (go_at_call 18; refine (numT _ _).mono ?_; rintro e w11 ⟨rfl, rfl⟩)
              go_wp2_with (go_at_call 22; rw [HVAL.out]; refine (same_any ⟨nodes, files, some ⟨xb, xo, none⟩, nn, nc, FA, fn, fc⟩ u' ds es' _ (HTD.out.keep hb10) HUT.out).mono ?_; rintro e w12 ⟨rfl, hq⟩; rw [HSAME.out])
              go_ret
              exact ⟨rfl, hb10.trans (hq.mono hb10.size)⟩
            · have hsame : sameB ⟨nodes, files, some ⟨xb, xo, none⟩, nn, nc, FA, fn, fc⟩ u' ds es' = false := by rw [sameB, HNE.out]; simp
              obtain ⟨F, hF⟩ : ∃ F, looseE u' = F := ⟨_, rfl⟩
              rw [hF] at e7
              have f2 : (F == 0) = false := beq_eq_false_iff_ne.2 e7
              have f3 : (F != 0) = true := bne_iff_ne.2 e7
              have HF7 := Lib.hid hF; have HSAME := Lib.hid hsame; have HE7 := Lib.hid (show looseE u' ≠ 0 by rw [hF]; exact e7)
              clear e7 hsame hF hes hul2 hfl2 hdl
              go_upto_region 18 with (go_at_call 32; refine (bytes_yes ⟨nodes, files, some ⟨xb, xo, none⟩, nn, nc, FA, fn, fc⟩ ds _ (HTD.out.keep hb8) HL.out).mono ?_; rintro e w9 ⟨A7, n7, c7, rfl, hn7, ho7, hq⟩; clear hn7 ho7)
              replace hB8 := hB8.below hq hB8.lt; replace hU8 := hU8.below hq hU8.lt
              have hb9 := hb8.trans (hq.mono hb8.size)
              replace HUT := Lib.hid (HUT.out.keep hq)
              clear b8 b9 u8 u9 hq
              have u8 := hU8.cell 0; have u9 := hU8.cell 1
              go_upto_region 19 with (go_at_call 32; rw [HVAL.out]; refine (bytes_no u' _ HUT.out.tree HE7.out).mono ?_; rintro e w10 ⟨rfl, hq⟩; rw [HF7.out])
              replace hB8 := hB8.below hq hB8.lt; replace hU8 := hU8.below hq hU8.lt
              have hb10 := hb9.trans (hq.mono hb9.size)
              replace HUT := Lib.hid (HUT.out.keep hq)
              clear u8 u9 hq
              have b8 := hB8.cell 0; have b9 := hB8.cell 1
              have u8 := hU8.cell 0; have u9 := hU8.cell 1
              go_wp2_with (first | (go_at_call 18; refine (numT _ _).mono ?_; rintro e w11 ⟨rfl, rfl⟩) | (go_at_call 22; rw [HVAL.out]; refine (same_any ⟨nodes, files, some ⟨xb, xo, none⟩, nn, nc, FA, fn, fc⟩ u' ds es' _ (HTD.out.keep hb10) HUT.out).mono ?_; rintro e w12 ⟨rfl, hq⟩; rw [HSAME.out]))
              go_ret
              exact ⟨rfl, hb10.trans (hq.mono hb10.size)⟩
        · have hw4 : (what == 1) = false := beq_eq_false_iff_ne.2 hw3
          by_cases hw6 : what = 2
          · have hw5 : (what == 2) = true := beq_iff_eq.2 hw6
            have HW3 := Lib.hid hw3; have HW6 := Lib.hid hw6; clear hw3 hw6
            by_cases hf : x.file = -1
            · have hf3 : (x.file != -1) = false := by rw [hf]; rfl
              have HF := Lib.hid hf; clear hf
              clear y1 y2
              have hx89 : x.path.size ≤ 89 := by
                have h1 := valid_len (HG.out.valid x (List.mem_of_getElem? HX.out))
                rwa [dlen] at h1
              have y0f := own_frozen HoN.out (k * 3)
              go_upto_region 8 with (fail)
              refine wp_region_ordG (none) [(0, true), (1, true), (2, true), (3, true), (4, true), (5, true), (6, true), (7, true), (8, true), (9, true), (10, true), (11, true)] 12 (by kernel_rfl) (by kernel_rfl) fun hG0 => ?_
              repeat (first
                | (refine ord_skipB rfl (by rfl) ?_; simp only [Act.put, List.setIfInBounds_toArray, List.set_cons_zero, List.set_cons_succ])
                | (refine ord_qE rfl (by rfl) ?_; apply Exists.intro; refine ⟨fun w' hc' => ?_, ?_⟩; (focus (go_simp; (try go_bits); (try simp only [↓IntWalk.iteOmega]); with_reducible rfl)); simp only [Act.put, List.setIfInBounds_toArray, List.set_cons_zero, List.set_cons_succ]))
              refine ord_tail rfl fun K hK => ?_
              go_wp2_with (fail)
              refine hK.out _ _ ?_
              clear hK K
              have hXp : (x.path ++ ⟨#[122]⟩).size ≤ 9223372036854775807 := by
                have h1 := valid_len (HG.out.valid x (List.mem_of_getElem? HX.out))
                rw [dlen] at h1
                rw [snoc_size]; omega
              have hXne : x ≠ ⟨x.path ++ ⟨#[122]⟩, x.file, x.mode, hXp⟩ := fun e => by
                have h1 := congrArg (fun y : Node => y.path.size) e
                simp only [snoc_size] at h1
                omega
              clear y0 y0f v0 b0 b1 hG0
              have hgne : gN ≠ ub := fun e => hU.ne_row HoN.out (by decide) (by rw [e]; rfl)
              have HO8 := Lib.hid (own_setcell (i := k * 3 + 0) HoN.out (.string (x.path ++ ⟨#[122]⟩)))
              rw [flat_set (x' := ⟨x.path ++ ⟨#[122]⟩, x.file, x.mode, hXp⟩) Node.len HX.out (by omega) rfl] at HO8
              obtain ⟨W8, hW8⟩ : ∃ W8, W8 = (W5.setCell ⟨gN, k * 3, none⟩ (.string (x.path ++ ⟨#[122]⟩))).drew := ⟨_, rfl⟩
              rw [← hW8]
              have hb8 : Below w.heap.size w W8 := by rw [hW8]; exact (hb.setCell (p := ⟨gN, k * 3, none⟩) (by show w.heap.size ≤ gN; omega) _).drew
              have hB8 : Blk W8 w.heap.size 26 #[.slice (some ⟨xb, xo, none⟩) nn nc, .slice FA fn fc] := by rw [hW8]; exact hB.set_ne ⟨gN, k * 3, none⟩ _ (by show w.heap.size ≠ gN; omega)
              have hU8 : Blk W8 ub 26 #[.slice (some ⟨gN, 0, none⟩) nn nc2, .slice FB fn fc2] := by rw [hW8]; exact hU.set_ne ⟨gN, k * 3, none⟩ _ (fun e => hgne e.symm)
              have hgd : ufs.length ≤ ds.length := by rw [HUL.out, HTD.out.dat.len]; exact Nat.le_of_eq HTD.out.tree.fl.symm
              obtain ⟨es', hes'⟩ : ∃ es', es' = ds := ⟨_, rfl⟩
              have HUT : Hid (TreeD W8 ⟨nodes.set k ⟨x.path ++ ⟨#[122]⟩, x.file, x.mode, hXp⟩, ufs, some ⟨gN, 0, none⟩, nn, nc2, FB, fn, fc2⟩ es') := Lib.hid (by
                rw [hes', hW8]
                refine ⟨⟨by rw [List.length_set]; exact Hn.out, HUL.out, Sl.of_own HO8.out, ?_, by show nn ≤ _; omega, by show fn ≤ _; omega⟩, ?_⟩
                · exact Sl.of_own (own_keep HoF.out fun g o (e : FB = _) => heap_setCell_other W5 ⟨gN, k * 3, none⟩ g _ (fun e2 => row_ne_row HoF.out HoN.out (by decide) (b := g) (by rw [e]; rfl) (by rw [e2]; rfl)))
                · exact dat_rows (HFR.out.keep (by simp [World.setCell]) fun i f b hf hbb => heap_setCell_other W5 ⟨gN, k * 3, none⟩ b _ (fun e2 => HFR.out.not_row hgd HoN.out (by decide) i f b hf hbb (by rw [e2]; rfl))) (by rw [HUL.out, HTD.out.dat.len]; exact HTD.out.tree.fl))
              have HNE : Hid (exactB ⟨nodes, files, some ⟨xb, xo, none⟩, nn, nc, FA, fn, fc⟩ ⟨nodes.set k ⟨x.path ++ ⟨#[122]⟩, x.file, x.mode, hXp⟩, ufs, some ⟨gN, 0, none⟩, nn, nc2, FB, fn, fc2⟩ ds es' = false) := Lib.hid (exact_no_nodes (set_ne' HX.out hXne))
              clear hW8 hes' hB hU HO8 HoN HoF HFR hb
              obtain ⟨u', hu'⟩ : ∃ u' : TV, u' = ⟨nodes.set k ⟨x.path ++ ⟨#[122]⟩, x.file, x.mode, hXp⟩, ufs, some ⟨gN, 0, none⟩, nn, nc2, FB, fn, fc2⟩ := ⟨_, rfl⟩
              rw [← hu'] at HUT HNE
              have HU' := Lib.hid hu'
              have hes := HUT.out.dat.len
              have hul2 := HUT.out.tree.nl; have hfl2 := HUT.out.tree.fl
              have hdl := HTD.out.dat.len
              have hval : Value.agg #[.slice (some ⟨gN, 0, none⟩) nn nc2, .slice FB fn fc2] = u'.val := by rw [hu']; rfl
              have HVAL := Lib.hid hval; clear hval hu'
              have b8 := hB8.cell 0
              have b9 := hB8.cell 1
              have u8 := hU8.cell 0
              have u9 := hU8.cell 1
              by_cases e7 : looseE u' = 0
              · have G2 := good_of_loose e7
                have hstr := tree_str (t := ⟨nodes, files, some ⟨xb, xo, none⟩, nn, nc, FA, fn, fc⟩) (u := u') hdl hes (treeI_range HG.out Hn.out HTD.out.tree.fl (dat_small HTD.out HG.out)) (treeI_range G2 hul2 hfl2 (dat_small HUT.out G2)) HNE.out
                have hsame : sameB ⟨nodes, files, some ⟨xb, xo, none⟩, nn, nc, FA, fn, fc⟩ u' ds es' = false := by rw [sameB, HNE.out]; simp
                have HE7 := Lib.hid e7; have HSTR := Lib.hid hstr; have HSAME := Lib.hid hsame
                clear e7 hstr hsame hes hul2 hfl2 hdl G2
                go_upto_region 18 with (go_at_call 32; refine (bytes_yes ⟨nodes, files, some ⟨xb, xo, none⟩, nn, nc, FA, fn, fc⟩ ds _ (HTD.out.keep hb8) HL.out).mono ?_; rintro e w9 ⟨A7, n7, c7, rfl, hn7, ho7, hq⟩; have HN7 := Lib.hid hn7; have HO7 := Lib.hid (Sl.of_own ho7); clear hn7 ho7)
                replace hB8 := hB8.below hq hB8.lt; replace hU8 := hU8.below hq hU8.lt
                have hb9 := hb8.trans (hq.mono hb8.size)
                replace HUT := Lib.hid (HUT.out.keep hq)
                clear b8 b9 u8 u9 hq
                have u8 := hU8.cell 0; have u9 := hU8.cell 1
                go_upto_region 19 with (go_at_call 32; rw [HVAL.out]; refine (bytes_yes u' es' _ HUT.out HE7.out).mono ?_; rintro e w10 ⟨A8, n8, c8, rfl, hn8, ho8, hq⟩; have HN8 := Lib.hid hn8; have HO8 := Lib.hid (Sl.of_own ho8); clear hn8 ho8)
                replace HO7 := Lib.hid (HO7.out.keep hq.size hq.block)
                replace hB8 := hB8.below hq hB8.lt; replace hU8 := hU8.below hq hU8.lt
                have hb10 := hb9.trans (hq.mono hb9.size)
                replace HUT := Lib.hid (HUT.out.keep hq)
                clear u8 u9 hq
                have b8 := hB8.cell 0; have b9 := hB8.cell 1
                have u8 := hU8.cell 0; have u9 := hU8.cell 1
                have k7 := run_convI (c := c7) HO7.out HN7.out (by rw [← HN7.out]; exact tree_pos _ _)
                have k8 := run_convI (c := c8) HO8.out HN8.out (by rw [← HN8.out]; exact tree_pos _ _)
                obtain ⟨S7, hS7⟩ : ∃ S7, strOfNums (treeI ⟨nodes, files, some ⟨xb, xo, none⟩, nn, nc, FA, fn, fc⟩ ds) = S7 := ⟨_, rfl⟩
                obtain ⟨S8, hS8⟩ : ∃ S8, strOfNums (treeI u' es') = S8 := ⟨_, rfl⟩
                have hs78 := HSTR.out
                rw [hS8, show strOfNums (treeI ⟨nodes, files, some ⟨xb, xo, none⟩, nn, nc, FA, fn, fc⟩ ds) = S7 from hS7] at hs78
                rw [hS7] at k7; rw [hS8] at k8
                have HS7 := Lib.hid hS7; have HS8 := Lib.hid hS8; clear hS7 hS8
                go_upto_region 21 with (go_at_call 18; refine (numT _ _).mono ?_; rintro e w11 ⟨rfl, rfl⟩)
                go_wp2_with (go_at_call 22; rw [HVAL.out]; refine (same_any ⟨nodes, files, some ⟨xb, xo, none⟩, nn, nc, FA, fn, fc⟩ u' ds es' _ (HTD.out.keep hb10) HUT.out).mono ?_; rintro e w12 ⟨rfl, hq⟩; rw [HSAME.out])
                go_ret
                exact ⟨rfl, hb10.trans (hq.mono hb10.size)⟩
              · have hsame : sameB ⟨nodes, files, some ⟨xb, xo, none⟩, nn, nc, FA, fn, fc⟩ u' ds es' = false := by rw [sameB, HNE.out]; simp
                obtain ⟨F, hF⟩ : ∃ F, looseE u' = F := ⟨_, rfl⟩
                rw [hF] at e7
                have f2 : (F == 0) = false := beq_eq_false_iff_ne.2 e7
                have f3 : (F != 0) = true := bne_iff_ne.2 e7
                have HF7 := Lib.hid hF; have HSAME := Lib.hid hsame; have HE7 := Lib.hid (show looseE u' ≠ 0 by rw [hF]; exact e7)
                clear e7 hsame hF hes hul2 hfl2 hdl
                go_upto_region 18 with (go_at_call 32; refine (bytes_yes ⟨nodes, files, some ⟨xb, xo, none⟩, nn, nc, FA, fn, fc⟩ ds _ (HTD.out.keep hb8) HL.out).mono ?_; rintro e w9 ⟨A7, n7, c7, rfl, hn7, ho7, hq⟩; clear hn7 ho7)
                replace hB8 := hB8.below hq hB8.lt; replace hU8 := hU8.below hq hU8.lt
                have hb9 := hb8.trans (hq.mono hb8.size)
                replace HUT := Lib.hid (HUT.out.keep hq)
                clear b8 b9 u8 u9 hq
                have u8 := hU8.cell 0; have u9 := hU8.cell 1
                go_upto_region 19 with (go_at_call 32; rw [HVAL.out]; refine (bytes_no u' _ HUT.out.tree HE7.out).mono ?_; rintro e w10 ⟨rfl, hq⟩; rw [HF7.out])
                replace hB8 := hB8.below hq hB8.lt; replace hU8 := hU8.below hq hU8.lt
                have hb10 := hb9.trans (hq.mono hb9.size)
                replace HUT := Lib.hid (HUT.out.keep hq)
                clear u8 u9 hq
                have b8 := hB8.cell 0; have b9 := hB8.cell 1
                have u8 := hU8.cell 0; have u9 := hU8.cell 1
                go_wp2_with (first | (go_at_call 18; refine (numT _ _).mono ?_; rintro e w11 ⟨rfl, rfl⟩) | (go_at_call 22; rw [HVAL.out]; refine (same_any ⟨nodes, files, some ⟨xb, xo, none⟩, nn, nc, FA, fn, fc⟩ u' ds es' _ (HTD.out.keep hb10) HUT.out).mono ?_; rintro e w12 ⟨rfl, hq⟩; rw [HSAME.out]))
                go_ret
                exact ⟨rfl, hb10.trans (hq.mono hb10.size)⟩
            ·
              have hf2 : (x.file == -1) = false := beq_eq_false_iff_ne.2 hf
              have hf3 : (x.file != -1) = true := bne_iff_ne.2 hf
              obtain ⟨f, hff⟩ : ∃ f : Nat, x.file = f := by
                rcases hkind with ⟨h5, _⟩ | ⟨h5, _, _⟩
                · exact absurd h5 hf
                · exact Int.eq_ofNat_of_zero_le h5
              have hfn : f < fn := by
                rcases hkind with ⟨h5, _⟩ | ⟨_, h5, _⟩
                · exact absurd h5 hf
                · have h6 : x.file < fn := h5
                  omega
              have hfi : (f : Int) < fn := by omega
              rw [hff] at hf2 hf3 ⊢
              have HFF := Lib.hid hff; clear hff hf
              obtain ⟨gF, rfl⟩ := own_some HoF.out (by omega)
              obtain ⟨y, hy⟩ : ∃ y, ufs[f]? = some y := ⟨_, List.getElem?_eq_getElem (by rw [HUL.out]; exact hfn)⟩
              have HY := Lib.hid hy; clear hy
              have hgF := (own_lt2 HoF.out).2.1
              have hgFb := (own_lt2 HoF.out).1
              obtain ⟨hrowF, _⟩ := own_row HoF.out
              have HrowF := Lib.hid hrowF; clear hrowF
              have z0 := HrowF.out.get FC.len HY.out (j := 0) (v := .int .i64 y.mode) rfl
              have z1 := HrowF.out.get FC.len HY.out (j := 1) (v := .slice y.A y.n y.c) rfl
              simp only [Nat.zero_add, Nat.add_zero] at z0 z1

              by_cases hy0 : y.n = 0
              · have hyi : ¬ (0 : Int) < y.n := by omega
                have hyi2 : ¬ 0 < y.n := by omega
                have HY0 := Lib.hid hy0; clear hy0
                clear y1 y2
                have hx89 : x.path.size ≤ 89 := by
                  have h1 := valid_len (HG.out.valid x (List.mem_of_getElem? HX.out))
                  rwa [dlen] at h1
                have y0f := own_frozen HoN.out (k * 3)
                go_upto_region 8 with (fail)
                refine wp_region_ordG (none) [(0, true), (1, true), (2, true), (3, true), (4, true), (5, true), (6, true), (7, true), (8, true), (9, true), (10, true), (11, true)] 12 (by kernel_rfl) (by kernel_rfl) fun hG0 => ?_
                repeat (first
                  | (refine ord_skipB rfl (by rfl) ?_; simp only [Act.put, List.setIfInBounds_toArray, List.set_cons_zero, List.set_cons_succ])
                  | (refine ord_qE rfl (by rfl) ?_; apply Exists.intro; refine ⟨fun w' hc' => ?_, ?_⟩; (focus (go_simp; (try go_bits); (try simp only [↓IntWalk.iteOmega]); with_reducible rfl)); simp only [Act.put, List.setIfInBounds_toArray, List.set_cons_zero, List.set_cons_succ]))
                refine ord_tail rfl fun K hK => ?_
                go_wp2_with (fail)
                refine hK.out _ _ ?_
                clear hK K
                have hXp : (x.path ++ ⟨#[122]⟩).size ≤ 9223372036854775807 := by
                  have h1 := valid_len (HG.out.valid x (List.mem_of_getElem? HX.out))
                  rw [dlen] at h1
                  rw [snoc_size]; omega
                have hXne : x ≠ ⟨x.path ++ ⟨#[122]⟩, x.file, x.mode, hXp⟩ := fun e => by
                  have h1 := congrArg (fun y : Node => y.path.size) e
                  simp only [snoc_size] at h1
                  omega
                clear y0 y0f v0 b0 b1 hG0
                have hgne : gN ≠ ub := fun e => hU.ne_row HoN.out (by decide) (by rw [e]; rfl)
                have HO8 := Lib.hid (own_setcell (i := k * 3 + 0) HoN.out (.string (x.path ++ ⟨#[122]⟩)))
                rw [flat_set (x' := ⟨x.path ++ ⟨#[122]⟩, x.file, x.mode, hXp⟩) Node.len HX.out (by omega) rfl] at HO8
                obtain ⟨W8, hW8⟩ : ∃ W8, W8 = (W5.setCell ⟨gN, k * 3, none⟩ (.string (x.path ++ ⟨#[122]⟩))).drew := ⟨_, rfl⟩
                rw [← hW8]
                have hb8 : Below w.heap.size w W8 := by rw [hW8]; exact (hb.setCell (p := ⟨gN, k * 3, none⟩) (by show w.heap.size ≤ gN; omega) _).drew
                have hB8 : Blk W8 w.heap.size 26 #[.slice (some ⟨xb, xo, none⟩) nn nc, .slice FA fn fc] := by rw [hW8]; exact hB.set_ne ⟨gN, k * 3, none⟩ _ (by show w.heap.size ≠ gN; omega)
                have hU8 : Blk W8 ub 26 #[.slice (some ⟨gN, 0, none⟩) nn nc2, .slice (some ⟨gF, 0, none⟩ : Option Addr) fn fc2] := by rw [hW8]; exact hU.set_ne ⟨gN, k * 3, none⟩ _ (fun e => hgne e.symm)
                have hgd : ufs.length ≤ ds.length := by rw [HUL.out, HTD.out.dat.len]; exact Nat.le_of_eq HTD.out.tree.fl.symm
                obtain ⟨es', hes'⟩ : ∃ es', es' = ds := ⟨_, rfl⟩
                have HUT : Hid (TreeD W8 ⟨nodes.set k ⟨x.path ++ ⟨#[122]⟩, x.file, x.mode, hXp⟩, ufs, some ⟨gN, 0, none⟩, nn, nc2, (some ⟨gF, 0, none⟩ : Option Addr), fn, fc2⟩ es') := Lib.hid (by
                  rw [hes', hW8]
                  refine ⟨⟨by rw [List.length_set]; exact Hn.out, HUL.out, Sl.of_own HO8.out, ?_, by show nn ≤ _; omega, by show fn ≤ _; omega⟩, ?_⟩
                  · exact Sl.of_own (own_keep HoF.out fun g o (e : (some ⟨gF, 0, none⟩ : Option Addr) = _) => heap_setCell_other W5 ⟨gN, k * 3, none⟩ g _ (fun e2 => row_ne_row HoF.out HoN.out (by decide) (b := g) (by rw [e]; rfl) (by rw [e2]; rfl)))
                  · exact dat_rows (HFR.out.keep (by simp [World.setCell]) fun i f b hf hbb => heap_setCell_other W5 ⟨gN, k * 3, none⟩ b _ (fun e2 => HFR.out.not_row hgd HoN.out (by decide) i f b hf hbb (by rw [e2]; rfl))) (by rw [HUL.out, HTD.out.dat.len]; exact HTD.out.tree.fl))
                have HNE : Hid (exactB ⟨nodes, files, some ⟨xb, xo, none⟩, nn, nc, FA, fn, fc⟩ ⟨nodes.set k ⟨x.path ++ ⟨#[122]⟩, x.file, x.mode, hXp⟩, ufs, some ⟨gN, 0, none⟩, nn, nc2, (some ⟨gF, 0, none⟩ : Option Addr), fn, fc2⟩ ds es' = false) := Lib.hid (exact_no_nodes (set_ne' HX.out hXne))
                clear hW8 hes' hB hU HO8 HoN HoF HFR hb
                obtain ⟨u', hu'⟩ : ∃ u' : TV, u' = ⟨nodes.set k ⟨x.path ++ ⟨#[122]⟩, x.file, x.mode, hXp⟩, ufs, some ⟨gN, 0, none⟩, nn, nc2, (some ⟨gF, 0, none⟩ : Option Addr), fn, fc2⟩ := ⟨_, rfl⟩
                rw [← hu'] at HUT HNE
                have HU' := Lib.hid hu'
                have hes := HUT.out.dat.len
                have hul2 := HUT.out.tree.nl; have hfl2 := HUT.out.tree.fl
                have hdl := HTD.out.dat.len
                have hval : Value.agg #[.slice (some ⟨gN, 0, none⟩) nn nc2, .slice (some ⟨gF, 0, none⟩ : Option Addr) fn fc2] = u'.val := by rw [hu']; rfl
                have HVAL := Lib.hid hval; clear hval hu'
                have b8 := hB8.cell 0
                have b9 := hB8.cell 1
                have u8 := hU8.cell 0
                have u9 := hU8.cell 1
                by_cases e7 : looseE u' = 0
                · have G2 := good_of_loose e7
                  have hstr := tree_str (t := ⟨nodes, files, some ⟨xb, xo, none⟩, nn, nc, FA, fn, fc⟩) (u := u') hdl hes (treeI_range HG.out Hn.out HTD.out.tree.fl (dat_small HTD.out HG.out)) (treeI_range G2 hul2 hfl2 (dat_small HUT.out G2)) HNE.out
                  have hsame : sameB ⟨nodes, files, some ⟨xb, xo, none⟩, nn, nc, FA, fn, fc⟩ u' ds es' = false := by rw [sameB, HNE.out]; simp
                  have HE7 := Lib.hid e7; have HSTR := Lib.hid hstr; have HSAME := Lib.hid hsame
                  clear e7 hstr hsame hes hul2 hfl2 hdl G2
                  go_upto_region 18 with (go_at_call 32; refine (bytes_yes ⟨nodes, files, some ⟨xb, xo, none⟩, nn, nc, FA, fn, fc⟩ ds _ (HTD.out.keep hb8) HL.out).mono ?_; rintro e w9 ⟨A7, n7, c7, rfl, hn7, ho7, hq⟩; have HN7 := Lib.hid hn7; have HO7 := Lib.hid (Sl.of_own ho7); clear hn7 ho7)
                  replace hB8 := hB8.below hq hB8.lt; replace hU8 := hU8.below hq hU8.lt
                  have hb9 := hb8.trans (hq.mono hb8.size)
                  replace HUT := Lib.hid (HUT.out.keep hq)
                  clear b8 b9 u8 u9 hq
                  have u8 := hU8.cell 0; have u9 := hU8.cell 1
                  go_upto_region 19 with (go_at_call 32; rw [HVAL.out]; refine (bytes_yes u' es' _ HUT.out HE7.out).mono ?_; rintro e w10 ⟨A8, n8, c8, rfl, hn8, ho8, hq⟩; have HN8 := Lib.hid hn8; have HO8 := Lib.hid (Sl.of_own ho8); clear hn8 ho8)
                  replace HO7 := Lib.hid (HO7.out.keep hq.size hq.block)
                  replace hB8 := hB8.below hq hB8.lt; replace hU8 := hU8.below hq hU8.lt
                  have hb10 := hb9.trans (hq.mono hb9.size)
                  replace HUT := Lib.hid (HUT.out.keep hq)
                  clear u8 u9 hq
                  have b8 := hB8.cell 0; have b9 := hB8.cell 1
                  have u8 := hU8.cell 0; have u9 := hU8.cell 1
                  have k7 := run_convI (c := c7) HO7.out HN7.out (by rw [← HN7.out]; exact tree_pos _ _)
                  have k8 := run_convI (c := c8) HO8.out HN8.out (by rw [← HN8.out]; exact tree_pos _ _)
                  obtain ⟨S7, hS7⟩ : ∃ S7, strOfNums (treeI ⟨nodes, files, some ⟨xb, xo, none⟩, nn, nc, FA, fn, fc⟩ ds) = S7 := ⟨_, rfl⟩
                  obtain ⟨S8, hS8⟩ : ∃ S8, strOfNums (treeI u' es') = S8 := ⟨_, rfl⟩
                  have hs78 := HSTR.out
                  rw [hS8, show strOfNums (treeI ⟨nodes, files, some ⟨xb, xo, none⟩, nn, nc, FA, fn, fc⟩ ds) = S7 from hS7] at hs78
                  rw [hS7] at k7; rw [hS8] at k8
                  have HS7 := Lib.hid hS7; have HS8 := Lib.hid hS8; clear hS7 hS8
                  go_upto_region 21 with (go_at_call 18; refine (numT _ _).mono ?_; rintro e w11 ⟨rfl, rfl⟩)
                  go_wp2_with (go_at_call 22; rw [HVAL.out]; refine (same_any ⟨nodes, files, some ⟨xb, xo, none⟩, nn, nc, FA, fn, fc⟩ u' ds es' _ (HTD.out.keep hb10) HUT.out).mono ?_; rintro e w12 ⟨rfl, hq⟩; rw [HSAME.out])
                  go_ret
                  exact ⟨rfl, hb10.trans (hq.mono hb10.size)⟩
                · have hsame : sameB ⟨nodes, files, some ⟨xb, xo, none⟩, nn, nc, FA, fn, fc⟩ u' ds es' = false := by rw [sameB, HNE.out]; simp
                  obtain ⟨F, hF⟩ : ∃ F, looseE u' = F := ⟨_, rfl⟩
                  rw [hF] at e7
                  have f2 : (F == 0) = false := beq_eq_false_iff_ne.2 e7
                  have f3 : (F != 0) = true := bne_iff_ne.2 e7
                  have HF7 := Lib.hid hF; have HSAME := Lib.hid hsame; have HE7 := Lib.hid (show looseE u' ≠ 0 by rw [hF]; exact e7)
                  clear e7 hsame hF hes hul2 hfl2 hdl
                  go_upto_region 18 with (go_at_call 32; refine (bytes_yes ⟨nodes, files, some ⟨xb, xo, none⟩, nn, nc, FA, fn, fc⟩ ds _ (HTD.out.keep hb8) HL.out).mono ?_; rintro e w9 ⟨A7, n7, c7, rfl, hn7, ho7, hq⟩; clear hn7 ho7)
                  replace hB8 := hB8.below hq hB8.lt; replace hU8 := hU8.below hq hU8.lt
                  have hb9 := hb8.trans (hq.mono hb8.size)
                  replace HUT := Lib.hid (HUT.out.keep hq)
                  clear b8 b9 u8 u9 hq
                  have u8 := hU8.cell 0; have u9 := hU8.cell 1
                  go_upto_region 19 with (go_at_call 32; rw [HVAL.out]; refine (bytes_no u' _ HUT.out.tree HE7.out).mono ?_; rintro e w10 ⟨rfl, hq⟩; rw [HF7.out])
                  replace hB8 := hB8.below hq hB8.lt; replace hU8 := hU8.below hq hU8.lt
                  have hb10 := hb9.trans (hq.mono hb9.size)
                  replace HUT := Lib.hid (HUT.out.keep hq)
                  clear u8 u9 hq
                  have b8 := hB8.cell 0; have b9 := hB8.cell 1
                  have u8 := hU8.cell 0; have u9 := hU8.cell 1
                  go_wp2_with (first | (go_at_call 18; refine (numT _ _).mono ?_; rintro e w11 ⟨rfl, rfl⟩) | (go_at_call 22; rw [HVAL.out]; refine (same_any ⟨nodes, files, some ⟨xb, xo, none⟩, nn, nc, FA, fn, fc⟩ u' ds es' _ (HTD.out.keep hb10) HUT.out).mono ?_; rintro e w12 ⟨rfl, hq⟩; rw [HSAME.out]))
                  go_ret
                  exact ⟨rfl, hb10.trans (hq.mono hb10.size)⟩
              ·
                have hgd : ufs.length ≤ ds.length := by rw [HUL.out, HTD.out.dat.len]; exact Nat.le_of_eq HTD.out.tree.fl.symm
                obtain ⟨d, hdx⟩ : ∃ d, ds[f]? = some d := ⟨_, List.getElem?_eq_getElem (by rw [HTD.out.dat.len]; exact Nat.lt_of_lt_of_le hfn (Nat.le_of_eq HTD.out.tree.fl.symm))⟩
                obtain ⟨hyn, hoY⟩ := HFR.out.row f y d HY.out hdx
                have hyd : y.n ≤ 8192 := by rw [hyn]; exact dat_small HTD.out HG.out d (List.mem_of_getElem? hdx)
                have HoY := Lib.hid hoY; have HYN := Lib.hid hyn; have HDX := Lib.hid hdx
                clear hoY hyn hdx
                obtain ⟨gD, hyA⟩ := own_some HoY.out (by omega)
                obtain ⟨ym, yA, yn, yc⟩ := y
                simp only at hyA z0 z1 HoY HYN HY hyd hy0
                subst hyA
                obtain ⟨p, hp⟩ : ∃ p, p = a % yn := ⟨_, rfl⟩
                have hpl : p < yn := by rw [hp]; exact Nat.mod_lt _ (by omega)
                have hpi : (p : Int) < yn := by omega
                have hmp : (a : Int) % (yn : Int) = (p : Int) := by rw [hp]; omega
                clear hp
                have hgD := (own_lt2 HoY.out).2.1
                have hgDb := (own_lt2 HoY.out).1
                obtain ⟨b, hbp⟩ : ∃ b, d.data.toList[p]? = some b := ⟨_, List.getElem?_eq_getElem (by rw [dlen, ← HYN.out]; exact hpl)⟩
                obtain ⟨hrowD, _⟩ := own_row HoY.out
                have q0 := hrowD p (.int .u8 b.toNat) (by rw [bytesC, List.getElem?_map, hbp]; rfl)
                rw [Nat.zero_add] at q0
                have q0f := own_frozen HoY.out p
                clear hrowD y0 y1 y2 v0 z0
                have hyi : (0 : Int) < yn := by omega
                go_upto_region 16 with (fail)
                refine wp_region_ordG (none) [(0, true), (1, true), (2, true), (3, true), (4, true), (5, true), (6, true), (7, true), (8, true), (9, true), (10, true), (11, true), (12, true), (13, true), (14, true), (15, true), (16, true), (17, true), (18, true), (19, true), (20, true), (21, true), (22, true), (23, true), (24, true), (25, true), (26, true), (27, true), (28, true), (29, true), (30, true), (31, true), (32, true), (33, true)] 34 (by kernel_rfl) (by kernel_rfl) fun hG0 => ?_
                repeat (first
                  | (refine ord_skipB rfl (by rfl) ?_; simp only [Act.put, List.setIfInBounds_toArray, List.set_cons_zero, List.set_cons_succ])
                  | (refine ord_qE rfl (by rfl) ?_; apply Exists.intro; refine ⟨fun w' hc' => ?_, ?_⟩; (focus (go_simp; (try go_bits); (try simp only [↓IntWalk.iteOmega]); with_reducible rfl)); simp only [Act.put, List.setIfInBounds_toArray, List.set_cons_zero, List.set_cons_succ]))
                refine ord_tail rfl fun K hK => ?_
                go_wp2_with (fail)
                refine hK.out _ _ ?_
                clear hK K
                obtain ⟨hx0, hx1, hx2⟩ := xor_byte b.toNat b.toNat_lt
                obtain ⟨v, hv⟩ := Int.eq_ofNat_of_zero_le hx0
                rw [hv] at hx1 hx2 ⊢
                have hv1 : v < 256 := by omega
                have hv2 : v ≠ b.toNat := by omega
                clear hx0 hx1 hx2 hv q0 q0f z1 v1 b0 b1 hG0
                have hgne : gD ≠ ub := fun e => hU.ne_row HoY.out (by decide) (by rw [e]; rfl)
                have HO8 := Lib.hid (own_setcell (i := p) HoY.out (.int .u8 v))
                rw [← setB_cells d p v hv1] at HO8
                obtain ⟨W8, hW8⟩ : ∃ W8, W8 = (W5.setCell ⟨gD, p, none⟩ (.int .u8 v)).drew := ⟨_, rfl⟩
                rw [← hW8]
                have hb8 : Below w.heap.size w W8 := by rw [hW8]; exact (hb.setCell (p := ⟨gD, p, none⟩) (by show w.heap.size ≤ gD; omega) _).drew
                have hB8 : Blk W8 w.heap.size 26 #[.slice (some ⟨xb, xo, none⟩) nn nc, .slice FA fn fc] := by rw [hW8]; exact hB.set_ne ⟨gD, p, none⟩ _ (by show w.heap.size ≠ gD; omega)
                have hU8 : Blk W8 ub 26 #[.slice (some ⟨gN, 0, none⟩) nn nc2, .slice (some ⟨gF, 0, none⟩) fn fc2] := by rw [hW8]; exact hU.set_ne ⟨gD, p, none⟩ _ (fun e => hgne e.symm)
                have hgd : ufs.length ≤ ds.length := by rw [HUL.out, HTD.out.dat.len]; exact Nat.le_of_eq HTD.out.tree.fl.symm
                obtain ⟨es', hes'⟩ : ∃ es', es' = ds.set f (setB d p v) := ⟨_, rfl⟩
                have HUT : Hid (TreeD W8 ⟨nodes, ufs, some ⟨gN, 0, none⟩, nn, nc2, some ⟨gF, 0, none⟩, fn, fc2⟩ es') := Lib.hid (by
                  rw [hes', hW8]
                  refine ⟨⟨Hn.out, HUL.out, ?_, ?_, by show nn ≤ _; omega, by show fn ≤ _; omega⟩, ⟨by rw [List.length_set, HUL.out, HTD.out.dat.len]; exact HTD.out.tree.fl, fun i z d2 hz hd => ?_⟩⟩
                  · exact Sl.of_own (own_keep HoN.out fun g o (e : (some ⟨gN, 0, none⟩ : Option Addr) = _) => heap_setCell_other W5 ⟨gD, p, none⟩ g _ (fun e2 => row_ne_row HoN.out HoY.out (by decide) (b := g) (by rw [e]; rfl) (by rw [e2]; rfl)))
                  · exact Sl.of_own (own_keep HoF.out fun g o (e : (some ⟨gF, 0, none⟩ : Option Addr) = _) => heap_setCell_other W5 ⟨gD, p, none⟩ g _ (fun e2 => row_ne_row HoF.out HoY.out (by decide) (b := g) (by rw [e]; rfl) (by rw [e2]; rfl)))
                  · by_cases hi : i = f
                    · subst hi
                      rw [HY.out] at hz
                      rw [List.getElem?_set_self (List.getElem?_eq_some_iff.1 HDX.out).1] at hd
                      injection hz with hz; injection hd with hd
                      subst hz hd
                      exact ⟨by rw [setB_size]; exact HYN.out.symm, Sl.of_own HO8.out⟩
                    · rw [List.getElem?_set_ne (fun e => hi e.symm)] at hd
                      have hr := HFR.out.row i z d2 hz hd
                      exact ⟨hr.1.symm, Sl.of_own (own_keep hr.2 fun g o e => heap_setCell_other W5 ⟨gD, p, none⟩ g _ (fun e2 => HFR.out.apart i f z _ hz HY.out hi g (by rw [e]; rfl) (by rw [e2]; rfl)))⟩)
                have HNE : Hid (exactB ⟨nodes, files, some ⟨xb, xo, none⟩, nn, nc, FA, fn, fc⟩ ⟨nodes, ufs, some ⟨gN, 0, none⟩, nn, nc2, some ⟨gF, 0, none⟩, fn, fc2⟩ ds es' = false) := Lib.hid (exact_no_data (by
                  rw [hes']
                  exact set_ne' HDX.out (setB_ne hbp hv1 hv2)))
                clear hW8 hes' hB hU HO8 HoN HoF HoY HFR hb hbp
                obtain ⟨u', hu'⟩ : ∃ u' : TV, u' = ⟨nodes, ufs, some ⟨gN, 0, none⟩, nn, nc2, (some ⟨gF, 0, none⟩), fn, fc2⟩ := ⟨_, rfl⟩
                rw [← hu'] at HUT HNE
                have HU' := Lib.hid hu'
                have hes := HUT.out.dat.len
                have hul2 := HUT.out.tree.nl; have hfl2 := HUT.out.tree.fl
                have hdl := HTD.out.dat.len
                have hval : Value.agg #[.slice (some ⟨gN, 0, none⟩) nn nc2, .slice (some ⟨gF, 0, none⟩) fn fc2] = u'.val := by rw [hu']; rfl
                have HVAL := Lib.hid hval; clear hval hu'
                have b8 := hB8.cell 0
                have b9 := hB8.cell 1
                have u8 := hU8.cell 0
                have u9 := hU8.cell 1
                by_cases e7 : looseE u' = 0
                · have G2 := good_of_loose e7
                  have hstr := tree_str (t := ⟨nodes, files, some ⟨xb, xo, none⟩, nn, nc, FA, fn, fc⟩) (u := u') hdl hes (treeI_range HG.out Hn.out HTD.out.tree.fl (dat_small HTD.out HG.out)) (treeI_range G2 hul2 hfl2 (dat_small HUT.out G2)) HNE.out
                  have hsame : sameB ⟨nodes, files, some ⟨xb, xo, none⟩, nn, nc, FA, fn, fc⟩ u' ds es' = false := by rw [sameB, HNE.out]; simp
                  have HE7 := Lib.hid e7; have HSTR := Lib.hid hstr; have HSAME := Lib.hid hsame
                  clear e7 hstr hsame hes hul2 hfl2 hdl G2
                  go_upto_region 18 with (go_at_call 32; refine (bytes_yes ⟨nodes, files, some ⟨xb, xo, none⟩, nn, nc, FA, fn, fc⟩ ds _ (HTD.out.keep hb8) HL.out).mono ?_; rintro e w9 ⟨A7, n7, c7, rfl, hn7, ho7, hq⟩; have HN7 := Lib.hid hn7; have HO7 := Lib.hid (Sl.of_own ho7); clear hn7 ho7)
                  replace hB8 := hB8.below hq hB8.lt; replace hU8 := hU8.below hq hU8.lt
                  have hb9 := hb8.trans (hq.mono hb8.size)
                  replace HUT := Lib.hid (HUT.out.keep hq)
                  clear b8 b9 u8 u9 hq
                  have u8 := hU8.cell 0; have u9 := hU8.cell 1
                  go_upto_region 19 with (go_at_call 32; rw [HVAL.out]; refine (bytes_yes u' es' _ HUT.out HE7.out).mono ?_; rintro e w10 ⟨A8, n8, c8, rfl, hn8, ho8, hq⟩; have HN8 := Lib.hid hn8; have HO8 := Lib.hid (Sl.of_own ho8); clear hn8 ho8)
                  replace HO7 := Lib.hid (HO7.out.keep hq.size hq.block)
                  replace hB8 := hB8.below hq hB8.lt; replace hU8 := hU8.below hq hU8.lt
                  have hb10 := hb9.trans (hq.mono hb9.size)
                  replace HUT := Lib.hid (HUT.out.keep hq)
                  clear u8 u9 hq
                  have b8 := hB8.cell 0; have b9 := hB8.cell 1
                  have u8 := hU8.cell 0; have u9 := hU8.cell 1
                  have k7 := run_convI (c := c7) HO7.out HN7.out (by rw [← HN7.out]; exact tree_pos _ _)
                  have k8 := run_convI (c := c8) HO8.out HN8.out (by rw [← HN8.out]; exact tree_pos _ _)
                  obtain ⟨S7, hS7⟩ : ∃ S7, strOfNums (treeI ⟨nodes, files, some ⟨xb, xo, none⟩, nn, nc, FA, fn, fc⟩ ds) = S7 := ⟨_, rfl⟩
                  obtain ⟨S8, hS8⟩ : ∃ S8, strOfNums (treeI u' es') = S8 := ⟨_, rfl⟩
                  have hs78 := HSTR.out
                  rw [hS8, show strOfNums (treeI ⟨nodes, files, some ⟨xb, xo, none⟩, nn, nc, FA, fn, fc⟩ ds) = S7 from hS7] at hs78
                  rw [hS7] at k7; rw [hS8] at k8
                  have HS7 := Lib.hid hS7; have HS8 := Lib.hid hS8; clear hS7 hS8
                  go_upto_region 21 with (go_at_call 18; refine (numT _ _).mono ?_; rintro e w11 ⟨rfl, rfl⟩)
                  go_wp2_with (go_at_call 22; rw [HVAL.out]; refine (same_any ⟨nodes, files, some ⟨xb, xo, none⟩, nn, nc, FA, fn, fc⟩ u' ds es' _ (HTD.out.keep hb10) HUT.out).mono ?_; rintro e w12 ⟨rfl, hq⟩; rw [HSAME.out])
                  go_ret
                  exact ⟨rfl, hb10.trans (hq.mono hb10.size)⟩
                · have hsame : sameB ⟨nodes, files, some ⟨xb, xo, none⟩, nn, nc, FA, fn, fc⟩ u' ds es' = false := by rw [sameB, HNE.out]; simp
                  obtain ⟨F, hF⟩ : ∃ F, looseE u' = F := ⟨_, rfl⟩
                  rw [hF] at e7
                  have f2 : (F == 0) = false := beq_eq_false_iff_ne.2 e7
                  have f3 : (F != 0) = true := bne_iff_ne.2 e7
                  have HF7 := Lib.hid hF; have HSAME := Lib.hid hsame; have HE7 := Lib.hid (show looseE u' ≠ 0 by rw [hF]; exact e7)
                  clear e7 hsame hF hes hul2 hfl2 hdl
                  go_upto_region 18 with (go_at_call 32; refine (bytes_yes ⟨nodes, files, some ⟨xb, xo, none⟩, nn, nc, FA, fn, fc⟩ ds _ (HTD.out.keep hb8) HL.out).mono ?_; rintro e w9 ⟨A7, n7, c7, rfl, hn7, ho7, hq⟩; clear hn7 ho7)
                  replace hB8 := hB8.below hq hB8.lt; replace hU8 := hU8.below hq hU8.lt
                  have hb9 := hb8.trans (hq.mono hb8.size)
                  replace HUT := Lib.hid (HUT.out.keep hq)
                  clear b8 b9 u8 u9 hq
                  have u8 := hU8.cell 0; have u9 := hU8.cell 1
                  go_upto_region 19 with (go_at_call 32; rw [HVAL.out]; refine (bytes_no u' _ HUT.out.tree HE7.out).mono ?_; rintro e w10 ⟨rfl, hq⟩; rw [HF7.out])
                  replace hB8 := hB8.below hq hB8.lt; replace hU8 := hU8.below hq hU8.lt
                  have hb10 := hb9.trans (hq.mono hb9.size)
                  replace HUT := Lib.hid (HUT.out.keep hq)
                  clear u8 u9 hq
                  have b8 := hB8.cell 0; have b9 := hB8.cell 1
                  have u8 := hU8.cell 0; have u9 := hU8.cell 1
                  go_wp2_with (first | (go_at_call 18; refine (numT _ _).mono ?_; rintro e w11 ⟨rfl, rfl⟩) | (go_at_call 22; rw [HVAL.out]; refine (same_any ⟨nodes, files, some ⟨xb, xo, none⟩, nn, nc, FA, fn, fc⟩ u' ds es' _ (HTD.out.keep hb10) HUT.out).mono ?_; rintro e w12 ⟨rfl, hq⟩; rw [HSAME.out]))
                  go_ret
                  exact ⟨rfl, hb10.trans (hq.mono hb10.size)⟩
          · have hw5 : (what == 2) = false := beq_eq_false_iff_ne.2 hw6
            have HW3 := Lib.hid hw3; have HW6 := Lib.hid hw6; clear hw3 hw6
            clear y1 y2
            have hx89 : x.path.size ≤ 89 := by
              have h1 := valid_len (HG.out.valid x (List.mem_of_getElem? HX.out))
              rwa [dlen] at h1
            have y0f := own_frozen HoN.out (k * 3)
            go_upto_region 8 with (fail)
            refine wp_region_ordG (none) [(0, true), (1, true), (2, true), (3, true), (4, true), (5, true), (6, true), (7, true), (8, true), (9, true), (10, true), (11, true)] 12 (by kernel_rfl) (by kernel_rfl) fun hG0 => ?_
            repeat (first
              | (refine ord_skipB rfl (by rfl) ?_; simp only [Act.put, List.setIfInBounds_toArray, List.set_cons_zero, List.set_cons_succ])
              | (refine ord_qE rfl (by rfl) ?_; apply Exists.intro; refine ⟨fun w' hc' => ?_, ?_⟩; (focus (go_simp; (try go_bits); (try simp only [↓IntWalk.iteOmega]); with_reducible rfl)); simp only [Act.put, List.setIfInBounds_toArray, List.set_cons_zero, List.set_cons_succ]))
            refine ord_tail rfl fun K hK => ?_
            go_wp2_with (fail)
            refine hK.out _ _ ?_
            clear hK K
            have hXp : (x.path ++ ⟨#[122]⟩).size ≤ 9223372036854775807 := by
              have h1 := valid_len (HG.out.valid x (List.mem_of_getElem? HX.out))
              rw [dlen] at h1
              rw [snoc_size]; omega
            have hXne : x ≠ ⟨x.path ++ ⟨#[122]⟩, x.file, x.mode, hXp⟩ := fun e => by
              have h1 := congrArg (fun y : Node => y.path.size) e
              simp only [snoc_size] at h1
              omega
            clear y0 y0f v0 b0 b1 hG0
            have hgne : gN ≠ ub := fun e => hU.ne_row HoN.out (by decide) (by rw [e]; rfl)
            have HO8 := Lib.hid (own_setcell (i := k * 3 + 0) HoN.out (.string (x.path ++ ⟨#[122]⟩)))
            rw [flat_set (x' := ⟨x.path ++ ⟨#[122]⟩, x.file, x.mode, hXp⟩) Node.len HX.out (by omega) rfl] at HO8
            obtain ⟨W8, hW8⟩ : ∃ W8, W8 = (W5.setCell ⟨gN, k * 3, none⟩ (.string (x.path ++ ⟨#[122]⟩))).drew := ⟨_, rfl⟩
            rw [← hW8]
            have hb8 : Below w.heap.size w W8 := by rw [hW8]; exact (hb.setCell (p := ⟨gN, k * 3, none⟩) (by show w.heap.size ≤ gN; omega) _).drew
            have hB8 : Blk W8 w.heap.size 26 #[.slice (some ⟨xb, xo, none⟩) nn nc, .slice FA fn fc] := by rw [hW8]; exact hB.set_ne ⟨gN, k * 3, none⟩ _ (by show w.heap.size ≠ gN; omega)
            have hU8 : Blk W8 ub 26 #[.slice (some ⟨gN, 0, none⟩) nn nc2, .slice FB fn fc2] := by rw [hW8]; exact hU.set_ne ⟨gN, k * 3, none⟩ _ (fun e => hgne e.symm)
            have hgd : ufs.length ≤ ds.length := by rw [HUL.out, HTD.out.dat.len]; exact Nat.le_of_eq HTD.out.tree.fl.symm
            obtain ⟨es', hes'⟩ : ∃ es', es' = ds := ⟨_, rfl⟩
            have HUT : Hid (TreeD W8 ⟨nodes.set k ⟨x.path ++ ⟨#[122]⟩, x.file, x.mode, hXp⟩, ufs, some ⟨gN, 0, none⟩, nn, nc2, FB, fn, fc2⟩ es') := Lib.hid (by
              rw [hes', hW8]
              refine ⟨⟨by rw [List.length_set]; exact Hn.out, HUL.out, Sl.of_own HO8.out, ?_, by show nn ≤ _; omega, by show fn ≤ _; omega⟩, ?_⟩
              · exact Sl.of_own (own_keep HoF.out fun g o (e : FB = _) => heap_setCell_other W5 ⟨gN, k * 3, none⟩ g _ (fun e2 => row_ne_row HoF.out HoN.out (by decide) (b := g) (by rw [e]; rfl) (by rw [e2]; rfl)))
              · exact dat_rows (HFR.out.keep (by simp [World.setCell]) fun i f b hf hbb => heap_setCell_other W5 ⟨gN, k * 3, none⟩ b _ (fun e2 => HFR.out.not_row hgd HoN.out (by decide) i f b hf hbb (by rw [e2]; rfl))) (by rw [HUL.out, HTD.out.dat.len]; exact HTD.out.tree.fl))
            have HNE : Hid (exactB ⟨nodes, files, some ⟨xb, xo, none⟩, nn, nc, FA, fn, fc⟩ ⟨nodes.set k ⟨x.path ++ ⟨#[122]⟩, x.file, x.mode, hXp⟩, ufs, some ⟨gN, 0, none⟩, nn, nc2, FB, fn, fc2⟩ ds es' = false) := Lib.hid (exact_no_nodes (set_ne' HX.out hXne))
            clear hW8 hes' hB hU HO8 HoN HoF HFR hb
            obtain ⟨u', hu'⟩ : ∃ u' : TV, u' = ⟨nodes.set k ⟨x.path ++ ⟨#[122]⟩, x.file, x.mode, hXp⟩, ufs, some ⟨gN, 0, none⟩, nn, nc2, FB, fn, fc2⟩ := ⟨_, rfl⟩
            rw [← hu'] at HUT HNE
            have HU' := Lib.hid hu'
            have hes := HUT.out.dat.len
            have hul2 := HUT.out.tree.nl; have hfl2 := HUT.out.tree.fl
            have hdl := HTD.out.dat.len
            have hval : Value.agg #[.slice (some ⟨gN, 0, none⟩) nn nc2, .slice FB fn fc2] = u'.val := by rw [hu']; rfl
            have HVAL := Lib.hid hval; clear hval hu'
            have b8 := hB8.cell 0
            have b9 := hB8.cell 1
            have u8 := hU8.cell 0
            have u9 := hU8.cell 1
            by_cases e7 : looseE u' = 0
            · have G2 := good_of_loose e7
              have hstr := tree_str (t := ⟨nodes, files, some ⟨xb, xo, none⟩, nn, nc, FA, fn, fc⟩) (u := u') hdl hes (treeI_range HG.out Hn.out HTD.out.tree.fl (dat_small HTD.out HG.out)) (treeI_range G2 hul2 hfl2 (dat_small HUT.out G2)) HNE.out
              have hsame : sameB ⟨nodes, files, some ⟨xb, xo, none⟩, nn, nc, FA, fn, fc⟩ u' ds es' = false := by rw [sameB, HNE.out]; simp
              have HE7 := Lib.hid e7; have HSTR := Lib.hid hstr; have HSAME := Lib.hid hsame
              clear e7 hstr hsame hes hul2 hfl2 hdl G2
              go_upto_region 18 with (go_at_call 32; refine (bytes_yes ⟨nodes, files, some ⟨xb, xo, none⟩, nn, nc, FA, fn, fc⟩ ds _ (HTD.out.keep hb8) HL.out).mono ?_; rintro e w9 ⟨A7, n7, c7, rfl, hn7, ho7, hq⟩; have HN7 := Lib.hid hn7; have HO7 := Lib.hid (Sl.of_own ho7); clear hn7 ho7)
              replace hB8 := hB8.below hq hB8.lt; replace hU8 := hU8.below hq hU8.lt
              have hb9 := hb8.trans (hq.mono hb8.size)
              replace HUT := Lib.hid (HUT.out.keep hq)
              clear b8 b9 u8 u9 hq
              have u8 := hU8.cell 0; have u9 := hU8.cell 1
              go_upto_region 19 with (go_at_call 32; rw [HVAL.out]; refine (bytes_yes u' es' _ HUT.out HE7.out).mono ?_; rintro e w10 ⟨A8, n8, c8, rfl, hn8, ho8, hq⟩; have HN8 := Lib.hid hn8; have HO8 := Lib.hid (Sl.of_own ho8); clear hn8 ho8)
              replace HO7 := Lib.hid (HO7.out.keep hq.size hq.block)
              replace hB8 := hB8.below hq hB8.lt; replace hU8 := hU8.below hq hU8.lt
              have hb10 := hb9.trans (hq.mono hb9.size)
              replace HUT := Lib.hid (HUT.out.keep hq)
              clear u8 u9 hq
              have b8 := hB8.cell 0; have b9 := hB8.cell 1
              have u8 := hU8.cell 0; have u9 := hU8.cell 1
              have k7 := run_convI (c := c7) HO7.out HN7.out (by rw [← HN7.out]; exact tree_pos _ _)
              have k8 := run_convI (c := c8) HO8.out HN8.out (by rw [← HN8.out]; exact tree_pos _ _)
              obtain ⟨S7, hS7⟩ : ∃ S7, strOfNums (treeI ⟨nodes, files, some ⟨xb, xo, none⟩, nn, nc, FA, fn, fc⟩ ds) = S7 := ⟨_, rfl⟩
              obtain ⟨S8, hS8⟩ : ∃ S8, strOfNums (treeI u' es') = S8 := ⟨_, rfl⟩
              have hs78 := HSTR.out
              rw [hS8, show strOfNums (treeI ⟨nodes, files, some ⟨xb, xo, none⟩, nn, nc, FA, fn, fc⟩ ds) = S7 from hS7] at hs78
              rw [hS7] at k7; rw [hS8] at k8
              have HS7 := Lib.hid hS7; have HS8 := Lib.hid hS8; clear hS7 hS8
              go_upto_region 21 with (go_at_call 18; refine (numT _ _).mono ?_; rintro e w11 ⟨rfl, rfl⟩)
              go_wp2_with (go_at_call 22; rw [HVAL.out]; refine (same_any ⟨nodes, files, some ⟨xb, xo, none⟩, nn, nc, FA, fn, fc⟩ u' ds es' _ (HTD.out.keep hb10) HUT.out).mono ?_; rintro e w12 ⟨rfl, hq⟩; rw [HSAME.out])
              go_ret
              exact ⟨rfl, hb10.trans (hq.mono hb10.size)⟩
            · have hsame : sameB ⟨nodes, files, some ⟨xb, xo, none⟩, nn, nc, FA, fn, fc⟩ u' ds es' = false := by rw [sameB, HNE.out]; simp
              obtain ⟨F, hF⟩ : ∃ F, looseE u' = F := ⟨_, rfl⟩
              rw [hF] at e7
              have f2 : (F == 0) = false := beq_eq_false_iff_ne.2 e7
              have f3 : (F != 0) = true := bne_iff_ne.2 e7
              have HF7 := Lib.hid hF; have HSAME := Lib.hid hsame; have HE7 := Lib.hid (show looseE u' ≠ 0 by rw [hF]; exact e7)
              clear e7 hsame hF hes hul2 hfl2 hdl
              go_upto_region 18 with (go_at_call 32; refine (bytes_yes ⟨nodes, files, some ⟨xb, xo, none⟩, nn, nc, FA, fn, fc⟩ ds _ (HTD.out.keep hb8) HL.out).mono ?_; rintro e w9 ⟨A7, n7, c7, rfl, hn7, ho7, hq⟩; clear hn7 ho7)
              replace hB8 := hB8.below hq hB8.lt; replace hU8 := hU8.below hq hU8.lt
              have hb9 := hb8.trans (hq.mono hb8.size)
              replace HUT := Lib.hid (HUT.out.keep hq)
              clear b8 b9 u8 u9 hq
              have u8 := hU8.cell 0; have u9 := hU8.cell 1
              go_upto_region 19 with (go_at_call 32; rw [HVAL.out]; refine (bytes_no u' _ HUT.out.tree HE7.out).mono ?_; rintro e w10 ⟨rfl, hq⟩; rw [HF7.out])
              replace hB8 := hB8.below hq hB8.lt; replace hU8 := hU8.below hq hU8.lt
              have hb10 := hb9.trans (hq.mono hb9.size)
              replace HUT := Lib.hid (HUT.out.keep hq)
              clear u8 u9 hq
              have b8 := hB8.cell 0; have b9 := hB8.cell 1
              have u8 := hU8.cell 0; have u9 := hU8.cell 1
              go_wp2_with (first | (go_at_call 18; refine (numT _ _).mono ?_; rintro e w11 ⟨rfl, rfl⟩) | (go_at_call 22; rw [HVAL.out]; refine (same_any ⟨nodes, files, some ⟨xb, xo, none⟩, nn, nc, FA, fn, fc⟩ u' ds es' _ (HTD.out.keep hb10) HUT.out).mono ?_; rintro e w12 ⟨rfl, hq⟩; rw [HSAME.out]))
              go_ret
              exact ⟨rfl, hb10.trans (hq.mono hb10.size)⟩


set_option maxRecDepth 100000 in
theorem lifted (os : Os) (started : os.Started) (H : Type) (enc : TypeId × Value → H) :
    ReturnsInHanded {} Try.checked os 8 .any (Rows.treeTurnedSpec.pre6 enc Try.prog Try.f8 Rows.treeTurnedRow.domain false) (Rows.treeTurnedSpec.post enc Try.prog Try.f8 false true false false) := by
  refine returnsInHanded_of_change (C := Try.checked) own started (by kernel_rfl) Try.func8
    (ChangeSpec.witness6 (enc := enc) (C := Try.checked) false ⟨#[], #[.agg #[.slice none 0 0, .slice none 0 0], .int .i64 0, .int .i64 0], []⟩ 8 (by kernel_rfl) (by kernel_rfl) (by kernel_rfl) (by kernel_rfl)) ?_
  intro W base args ds gs before hval0 hW hcnd _
  have hval : ∀ (j : Nat) t v, Try.f8.params[j]? = some t → args[j]? = some v → Value.okWide Try.prog W .any base t v := hval0
  have hW' := hW
  obtain ⟨p, q, hA0, hV, rfl, hfz, hnd⟩ := hW
  have hA : DataW.TrodAll enc Try.prog W 0 (fun _ => true) true Try.f8.params.toList args.toList ds p := hA0
  rw [Try.params8] at hA hval
  obtain ⟨v0, vs0, d0, ds0, p0, q0, hargs, rfl, rfl, h0, r0⟩ := trodAll_cons hA
  obtain ⟨v1, vs1, d1, ds1, p1, q1, rfl, rfl, rfl, h1, r1⟩ := trodAll_cons r0
  obtain ⟨v2, vs2, d2, ds2, p2, q2, rfl, rfl, rfl, h2, r2⟩ := trodAll_cons r1
  obtain ⟨rfl, rfl, rfl⟩ := trodAll_nil r2
  obtain rfl : args = #[v0, v1, v2] := by cases args; simp_all
  obtain ⟨rfl, rfl⟩ := trodVars_none hV
  have k0 := h0
  have lt0 : ∀ x ∈ p0, x.block < W.heap.size := by obtain ⟨m, hm⟩ := k0; exact DataW.trod_lt m _ _ _ hm
  obtain ⟨t0, ds0', rfl, hT0⟩ := open_tree (hval 0 26 v0 rfl rfl) h0 lt0
  obtain ⟨a1, rfl, rfl, rfl, w1⟩ := open_int Try.underlying3 (hval 1 3 v1 rfl rfl) h1
  obtain ⟨a2, rfl, rfl, rfl, w2⟩ := open_int Try.underlying3 (hval 2 3 v2 rfl rfl) h2
  clear hA0 hval0
  refine (walk t0 ds0' a1 a2 W hT0 w1 w2).mono fun e W' ⟨he, bel⟩ => ?_
  subst he
  exact ⟨_, rfl, _, _, _, [], _, [], hW', trodAll_mk1 (shut_bool Try.underlying4 _), (trodAll_cons_mk (Below.trod laidOut (by kernel_rfl) (of_decide_eq_true (by kernel_rfl)) k0 bel lt0) (trodAll_cons_mk (shut_int Try.underlying3 w1) (trodAll_cons_mk (shut_int Try.underlying3 w2) trodAll_mk0))), rfl, bel.frame _, fun h => by cases h⟩

theorem over : Rows.treeTurnedRow.holds Try.pinned (OpenSpec.ofChange Rows.treeTurnedSpec) :=
  OpenClaim.holds_of_wide 8 Try.f8 rfl rfl rfl rfl rfl rfl rfl ⟨rfl, rfl, rfl, rfl, rfl⟩ rfl rfl rfl rfl rfl (by kernel_rfl) Try.func8 (by kernel_rfl)
    (of_decide_eq_true (by kernel_rfl)) (by unfold Func.isWrapper; first | (rw [if_pos (by decide +kernel)]; kernel_rfl) | (rw [if_neg (by decide +kernel)]; exact ⟨rfl, rfl⟩))
    (fun os started H enc _ => lifted os started H enc)

theorem proved : Rows.TreeTurnedSaid := over
#print axioms proved
end Go.Proofs.Ytdjlchbgdehccaa.treeTurnedDone
