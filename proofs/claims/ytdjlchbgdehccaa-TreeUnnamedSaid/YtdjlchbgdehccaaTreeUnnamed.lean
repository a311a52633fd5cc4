/- TreeUnnamed: files that no node names go; a node of a file that there is not is refused. -/
import Derived.Test.YtdjlchbgdehccaaShufP
import Derived.Test.YtdjlchbgdehccaaCanonL
import Derived.Test.YtdjlchbgdehccaaSame
import Derived.Test.YtdjlchbgdehccaaBig
import Derived.Test.YtdjlchbgdehccaaAliveT
import Derived.Test.YtdjlchbgdehccaaOpenT
import Derived.Deep.DeepCutAuto
namespace Go.Proofs.Ytdjlchbgdehccaa.treeUnnamedDone
open Go.ChangeShapes Go.WideShapes Go.ChangeAt Go.ChangeMaps Go.RowKit Go.Deep

/-- The copy with some files more. -/
structure MoreAt (w wr : World) (base ub k : Nat) (nodes : List Node) (files : List FC) (ds : List ByteArray) (NB : Option Addr) (nn nc2 fn : Nat) (tb : Nat) (tv : Array Value) : Prop where
  it : ∃ (FB : Option Addr) (fc2 : Nat) (gs : List FC) (ms : List Int) (xs : List ByteArray), Blk wr ub 26 #[.slice NB nn nc2, .slice FB (fn + k) fc2] ∧ wr.ownsRow base 29 3 (.slice NB nn nc2) nn (nodes.flatMap Node.list) ∧ wr.ownsRow base 39 2 (.slice FB (fn + k) fc2) (fn + k) (gs.flatMap FC.list) ∧
    gs.length = fn + k ∧ gs.map (·.mode) = files.map (·.mode) ++ ms ∧ FRows wr base gs (ds ++ xs) ∧ xs.length = k ∧ (∀ x ∈ gs, x.n ≤ 8192)
  b : Blk wr tb 26 tv
  sz : base ≤ wr.heap.size
  below : Below w.heap.size w wr
theorem own_cell1 {w : World} {base : Nat} {x : Int} (hb : base ≤ w.heap.size) : (w.alloc (.cells #[.int .u8 x] 5)).ownsRow base 5 1 (.slice (some ⟨w.heap.size, 0, none⟩) 1 1) 1 [.int .u8 x] :=
  ⟨rfl, .inr ⟨w.heap.size, 1, #[.int .u8 x], rfl, hb, Blk.new w 5 #[.int .u8 x], Nat.le_refl _, by decide, rfl, rfl⟩⟩
theorem snocD {w : World} {base : Nat} {fs : List FC} {ds : List ByteArray} (h : FRows w base fs ds) (hl : fs.length = ds.length) (e : ByteArray) : FRows w base fs (ds ++ [e]) :=
  ⟨fun k f d hf hd => h.row k f d hf (by rw [List.getElem?_append_left (by have := (List.getElem?_eq_some_iff.1 hf).1; omega)] at hd; exact hd), h.apart, h.low⟩
theorem last_one' (s : ByteArray) (m : Int) : ∀ u ∈ (#[.string s, .int .i64 m, .int .i64 0] : Array Value).toList, u.oneCell' = true := by
  intro u hu
  simp only [List.mem_cons, List.not_mem_nil, or_false] at hu
  rcases hu with rfl | rfl | rfl <;> rfl
def oneB (x : Int) : ByteArray := ⟨#[UInt8.ofNat x.toNat]⟩
theorem oneB_cells {x : Int} (h0 : 0 ≤ x) (h1 : x < 256) : bytesC (oneB x) = [.int .u8 x] := by
  obtain ⟨n, rfl⟩ := Int.eq_ofNat_of_zero_le h0
  simp [bytesC, oneB]
  omega
set_option maxRecDepth 100000 in
set_option maxHeartbeats 8000000 in
theorem walk (t : TV) (ds : List ByteArray) (more : Int) (w : World) (hT : TreeD w t ds) (_hw : (Lit.int .i64 more).wf = true) :
    Calls Try.prog 12 #[t.val, .int .i64 more] w fun e w' => e = .returned (.bool true) ∧ Below w.heap.size w w' := by
  have HTD := Lib.hid hT
  have hnl := hT.tree.nl; have hfl := hT.tree.fl; have hdl := hT.dat.len
  have Hdl := Lib.hid hdl
  clear hT hdl
  obtain ⟨E, hE⟩ : ∃ E, looseE t = E := ⟨_, rfl⟩
  have HE := Lib.hid hE
  have HG0 := Lib.hid (show E = 0 → Good t from fun h => good_of_loose (hE.trans h))
  clear hE
  obtain ⟨nodes, files, NA, nn, nc, FA, fn, fc⟩ := t
  simp only at hnl hfl
  have Hn := Lib.hid hnl; have Hf := Lib.hid hfl; clear hnl hfl
  unfold TV.val
  have hB := Blk.new w 26 #[.slice NA nn nc, .slice FA fn fc]
  have hb := (Below.refl w.heap.size w).alloc (Nat.le_refl _) (.cells #[.slice NA nn nc, .slice FA fn fc] 26)
  have b0 := hB.cell 0
  have b1 := hB.cell 1
  go_enter Try.func12, Try.ntmps12
  go_upto_region 3 with (first | (go_at_call 14; refine (alive_t _).mono ?_; rintro e w1 ⟨rfl, hb1⟩; replace hB := hB.below hb1 hB.lt; replace hb := hb.trans (hb1.mono hb.size); have b0 := hB.cell 0; have b1 := hB.cell 1) | (go_at_call 19; refine (lbig_any ⟨nodes, files, NA, nn, nc, FA, fn, fc⟩ _ (HTD.out.tree.keep hb)).mono ?_; rintro e w2 ⟨x, rfl, _, hb2⟩; replace hB := hB.below hb2 hB.lt; replace hb := hb.trans (hb2.mono hb.size); have b0 := hB.cell 0; have b1 := hB.cell 1))
  cases x
  rotate_left
  · go_wp2
    go_ret
    exact ⟨rfl, hb⟩
  by_cases h0 : more < 0
  · go_wp2
    go_ret
    exact ⟨rfl, hb⟩
  obtain ⟨m, rfl⟩ := Int.eq_ofNat_of_zero_le (show 0 ≤ more by omega)
  by_cases h5 : (5 : Int) < m
  · go_wp2
    go_ret
    exact ⟨rfl, hb⟩
  by_cases h2 : (200 : Int) < fn
  · go_wp2
    go_ret
    exact ⟨rfl, hb⟩
  by_cases e1 : E = 0
  case neg =>
    have e2 : (E == 0) = false := beq_eq_false_iff_ne.2 e1
    have e3 : (E != 0) = true := bne_iff_ne.2 e1
    clear HG0
    go_wp2_with (first | (go_at_call 16; refine (loose_any ⟨nodes, files, NA, nn, nc, FA, fn, fc⟩ _ (HTD.out.tree.keep hb)).mono ?_; rintro e w3 ⟨rfl, hb3⟩; rw [HE.out]) | (go_at_call 18; refine (numT _ _).mono ?_; rintro e w6 ⟨rfl, hw⟩; rw [hw]; clear hw))
    go_ret
    exact ⟨rfl, hb.trans (hb3.mono hb.size)⟩
  have HG := Lib.hid (HG0.out e1)
  have HL := Lib.hid (HE.out.trans e1)
  have hn256 : nn ≤ 256 := HG.out.nn
  have hm5 : m ≤ 5 := by omega
  have hf200 : fn ≤ 200 := by omega
  have e2 : (E == 0) = true := beq_iff_eq.2 e1
  have e3 : (E != 0) = false := by rw [bne, e2]; rfl
  clear HG0
  replace e1 := Lib.hid e1
  go_upto_region 5 with (first | (go_at_call 16; refine (loose_any ⟨nodes, files, NA, nn, nc, FA, fn, fc⟩ _ (HTD.out.tree.keep hb)).mono ?_; rintro e w3 ⟨rfl, hb3⟩; rw [HE.out]; replace hB := hB.below hb3 hB.lt; replace hb := hb.trans (hb3.mono hb.size); have b0 := hB.cell 0; have b1 := hB.cell 1) | (go_at_call 18; refine (numT _ _).mono ?_; rintro e w6 ⟨rfl, hw⟩; rw [hw]; clear hw))
  have hs3 := hb.size
  have HT3 := Lib.hid (HTD.out.keep hb)
  go_upto_region 6 with (go_at_call 31; refine (copy_any ⟨nodes, files, NA, nn, nc, FA, fn, fc⟩ ds _ (HTD.out.keep hb) (by show nn ≤ _; omega) (by show fn ≤ _; omega) (fun x hx => Nat.le_trans (HG.out.small x hx) (by omega))).mono ?_; rintro e w4 ⟨⟨un, ufs, NB, unn, nc2, FB, ufn, fc2⟩, rfl, en, enn, efn, hul, hum, hoN, hoF, hFR, hb4⟩; simp only [TV.val])
  simp only at en enn efn hul hum hoN hoF hFR
  replace en := en.symm; replace enn := enn.symm; replace efn := efn.symm
  subst en enn efn
  have HUL := Lib.hid hul; have HUM := Lib.hid hum
  have hs4 := hb4.size
  have hBl0 := hB.lt
  replace hB := (hB.below hb4 hBl0).alloc (.cells #[.slice NB nn nc2, .slice FB fn fc2] 26)
  have hU := Blk.new w4 26 #[.slice NB nn nc2, .slice FB fn fc2]
  obtain ⟨base, hbase⟩ : ∃ base, w3.heap.size = base := ⟨_, rfl⟩
  rw [hbase] at hoN hoF hFR hs4
  have hbw : w.heap.size < base := by have := hBl0; have := hb3.size; omega
  have hubb : base ≤ w4.heap.size := hs4
  replace hb := (hb.trans (hb4.mono hb.size)).alloc (by omega) (.cells #[.slice NB nn nc2, .slice FB fn fc2] 26)
  have hdlt : ∀ x ∈ ufs, x.n ≤ 8192 := fun x hx => by
    obtain ⟨i, hi⟩ := List.getElem?_of_mem hx
    have h1 := (List.getElem?_eq_some_iff.1 hi).1
    have h2 : ds.length = files.length := Hdl.out
    have h3 := Hf.out; have h4 := HUL.out
    have hr := (hFR.row i x _ hi (List.getElem?_eq_getElem (by omega))).1
    have hd := (HTD.out.dat.at_ i _ _ (List.getElem?_eq_getElem (show i < files.length by omega)) (List.getElem?_eq_getElem (by omega))).1
    rw [hr, hd]
    exact HG.out.small _ (List.getElem_mem _)
  have H0 : MoreAt w (w4.alloc (.cells #[.slice NB nn nc2, .slice FB fn fc2] 26)) base w4.heap.size 0 nodes files ds NB nn nc2 fn w.heap.size #[.slice NA nn nc, .slice FA fn fc] :=
    ⟨⟨FB, fc2, ufs, [], [], hU, hoN.alloc _, hoF.alloc _, hul, by rw [List.append_nil]; exact hum, by rw [List.append_nil]; exact hFR.grown (World.grownBy_alloc w4 _ none) (fun k f b _ _ e => by cases e), rfl, hdlt⟩, hB, by simp; omega, hb⟩
  obtain ⟨ub, hub⟩ : ∃ ub, w4.heap.size = ub := ⟨_, rfl⟩
  obtain ⟨W5, hW5⟩ : ∃ W5, w4.alloc (.cells #[.slice NB nn nc2, .slice FB fn fc2] 26) = W5 := ⟨_, rfl⟩
  rw [hW5] at H0 ⊢
  rw [hub] at H0 hubb ⊢
  clear hW5 hub hbase hul hum hoN hoF hFR hb4 hs4 hU hB hb hb1 hb2 hb3 hs3 hdlt hBl0 b0 b1 HUL HUM
  have H0' := Lib.hid H0; clear H0
  go_wp2
  go_loopw [8] (fun v wr => ∃ k : Nat, k ≤ m ∧ v = .int .i64 k ∧ MoreAt w wr base ub k nodes files ds NB nn nc2 fn w.heap.size #[.slice NA nn nc, .slice FA fn fc]) (fun v _ => m - (intOf v).toNat)
  case atStart => exact ⟨0, Nat.zero_le _, rfl, H0'.out⟩
  case round =>
    clear H0'
    obtain ⟨k, hk, rfl, ⟨FB, fc2, gs, ms, xs, hU, hoN, hoF, hgl, hgm, hFR, hxl, hsm⟩, hB, hsz, hb⟩ := hrel
    have HoN := Lib.hid hoN; have HoF := Lib.hid hoF; have HGL := Lib.hid hgl; have HGM := Lib.hid hgm; have HFR := Lib.hid hFR; have HXL := Lib.hid hxl; have HSM := Lib.hid hsm
    clear hoN hoF hgl hgm hFR hxl hsm
    have hUl := hU.lt; have hBl := hB.lt
    have u1 := hU.cell 1
    by_cases hlt : k < m
    · have hki : (k : Int) < m := by omega
      have hneU : ¬ some ub = blkOf FB := hU.ne_row HoF.out (by decide)
      have hneB : ¬ some w.heap.size = blkOf FB := hB.ne_row HoF.out (by decide)
      have hgl2 : gs.length = (ds ++ xs).length := by have h1 := HGL.out; have h2 : ds.length = files.length := Hdl.out; have h3 := Hf.out; have h4 := HXL.out; rw [List.length_append]; omega
      have HGL2 := Lib.hid hgl2; clear hgl2
      have hgA := World.grownBy_alloc wr (.cells #[.int .u8 (k : Int)] 5) none
      have hA1 := own_cell1 (x := (k : Int)) hsz
      have HA1 := Lib.hid hA1
      have hUA := hU.alloc (.cells #[.int .u8 (k : Int)] 5)
      have HoFA := Lib.hid (HoF.out.alloc (.cells #[.int .u8 (k : Int)] 5))
      clear hA1
      go_wp2_with (at_builtin; refine wpList_append_one rfl _ _ _ rfl Try.fileT rfl HoFA.out #[.int .i64 (-5), .slice (some ⟨wr.heap.size, 0, none⟩) 1 1] rfl (by simp) rfl (file_one _ _ _ _) (by unfold maxLen; omega) (by omega) (Nat.le_trans hsz hgA.size) ?_; intro g6 c6 w6 ho6 hg6 hat6; have hU6 := hUA.grown hg6 hneU; have q1 := hU6.cell 1; have q1f := hU6.frozen 1)
      have hG : wr.grownBy w6 (blkOf FB) := grown_trans (grown_any hgA) hg6
      have hdl : gs.length ≤ (ds ++ xs).length := Nat.le_of_eq HGL2.out
      have HNA := Lib.hid (HoN.out.alloc (.cells #[.int .u8 (k : Int)] 5))
      have HN6 := Lib.hid (own_keep HNA.out fun g o e => hg6.block g (own_lt2 (by rw [← e]; exact HNA.out)).2.1 (row_ne_row HNA.out HoFA.out (by decide) (by rw [e]; rfl)))
      have HR1 := Lib.hid (HFR.out.grown hgA (fun k f b _ _ e => by cases e))
      have HR6 := Lib.hid (HR1.out.grown hg6 (HR1.out.not_row hdl HoFA.out (by decide)))
      have HA6 := Lib.hid (own_keep HA1.out fun g o e => hg6.block g (own_lt2 (by rw [← e]; exact HA1.out)).2.1 (row_ne_row HA1.out HoFA.out (by decide) (by rw [e]; rfl)))
      have hlow : ∀ b, blkOf (some ⟨wr.heap.size, 0, none⟩ : Option Addr) = some b → b < w6.heap.size ∧ ∀ (j : Nat) (g : FC), gs[j]? = some g → blkOf g.A ≠ some b := fun b hb => by
        simp only [blkOf, Option.some.injEq] at hb
        subst hb
        have h1 := hg6.size
        rw [World.size_alloc] at h1
        exact ⟨by omega, fun j g hj hg => by have := HFR.out.low j g _ hj hg; omega⟩
      have hcell := oneB_cells (x := (k : Int)) (by omega) (by omega)
      have HR7 := Lib.hid ((snocD HR6.out HGL2.out (oneB k)).snoc (f := ⟨-5, some ⟨wr.heap.size, 0, none⟩, 1, 1⟩) (d := oneB k) (by rw [HGL2.out, List.getElem?_append_right (Nat.le_refl _), Nat.sub_self]; rfl) rfl (by rw [hcell]; exact HA6.out) hlow)
      have hdl2 : (gs ++ [(⟨-5, some ⟨wr.heap.size, 0, none⟩, 1, 1⟩ : FC)]).length ≤ (ds ++ xs ++ [oneB k]).length := by have h := HGL2.out; simp only [List.length_append, List.length_cons, List.length_nil] at h ⊢; omega
      have hB6 := hB.grown hG hneB
      have hb6 := hb.trans (below_grown hG hb.size (fun g e => by have := own_blk1 HoF.out g e; omega))
      have HO6 := Lib.hid ho6
      have HFS2 := Lib.hid (show (gs ++ [(⟨-5, some ⟨wr.heap.size, 0, none⟩, 1, 1⟩ : FC)]).flatMap FC.list = gs.flatMap FC.list ++ [.int .i64 (-5), .slice (some ⟨wr.heap.size, 0, none⟩) 1 1] by simp [FC.list])
      have hsz6 := hG.size
      clear q1 q1f u1 hg6 hat6 ho6 hlow hcell hG hgA hUA hdl
      go_roundw
      case rel =>
        refine ⟨k + 1, by omega, by go_num, ⟨⟨some ⟨g6, 0, none⟩, c6, _, ms ++ [-5], xs ++ [oneB k], hU6.set 1 _, own_blkset HN6.out hU6 (by decide) _ _, by rw [HFS2.out]; exact own_blkset HO6.out hU6 (by decide) _ _, by rw [List.length_append, HGL.out]; rfl, by rw [List.map_append, HGM.out, List.append_assoc]; rfl, by rw [← List.append_assoc]; exact HR7.out.blkset hdl2 hU6 (by decide) _ _, by rw [List.length_append, HXL.out]; rfl, fun x hx => ?_⟩, hB6.set_ne _ _ (by show w.heap.size ≠ ub; omega), by simp [World.setCell]; omega, hb6.setCell (p := ⟨ub, 1, none⟩) (by show w.heap.size ≤ ub; omega) _⟩⟩
        rcases List.mem_append.1 hx with hx | hx
        · exact HSM.out x hx
        · rw [List.mem_singleton.1 hx]; show 1 ≤ 8192; omega
      case measure => simp [intOf]; omega
    · obtain rfl : k = m := by omega
      have hki : ¬ (k : Int) < k := by omega
      have u0 := hU.cell 0
      have hTu : TreeD wr ⟨nodes, gs, NB, nn, nc2, FB, fn + k, fc2⟩ (ds ++ xs) :=
        ⟨⟨Hn.out, HGL.out, Sl.of_own HoN.out, Sl.of_own HoF.out, by show nn ≤ _; omega, by show fn + k ≤ _; omega⟩, ⟨by have h1 := HGL.out; have h2 : ds.length = files.length := Hdl.out; have h3 := Hf.out; have h4 := HXL.out; rw [List.length_append]; show _ = gs.length; omega, fun j x d hx hd => ⟨(HFR.out.row j x d hx hd).1.symm, Sl.of_own (HFR.out.row j x d hx hd).2⟩⟩⟩
      have HTu := Lib.hid hTu
      clear hTu
      have HF := Lib.hid (show ∀ i : Nat, i < fn → treeF ⟨nodes, gs, NB, nn, nc2, FB, fn + k, fc2⟩ (ds ++ xs) i = treeF ⟨nodes, files, NA, nn, nc, FA, fn, fc⟩ ds i from fun i hi => by
        have h2 : ds.length = files.length := Hdl.out
        have h3 := Hf.out
        have hm := congrArg (fun l : List Int => l[i]?) HGM.out
        simp only [List.getElem?_map] at hm
        rw [List.getElem?_append_left (by rw [List.length_map]; omega), List.getElem?_map] at hm
        unfold treeF
        simp only [Int.toNat_natCast]
        rw [hm, List.getElem?_append_left (by omega)])
      have HB0 := Lib.hid (show ∀ x ∈ nodes, badFile (fn + k) x = false from fun x hx => by
        have h1 := HG.out.kind x hx
        simp only at h1
        unfold badFile
        rcases h1 with ⟨e, _⟩ | ⟨e1, e2, _⟩ <;> simp only [Bool.or_eq_false_iff, decide_eq_false_iff_not] <;> omega)
      have HT6 := Lib.hid (HTD.out.keep hb)
      clear HGM
      have hDL := Lib.hid (show (ds ++ xs).length = gs.length from HTu.out.dat.len)
      go_upto_region 10 with (fail)
      go_upto_region 11 with (go_at_call 41; refine (tcanon_any ⟨nodes, gs, NB, nn, nc2, FB, fn + k, fc2⟩ (ds ++ xs) _ HTu.out).mono ?_; intro e w6 hc6; obtain ⟨hb6, ⟨vn, vf, vNA, vnn, vnc, vFA, vfn, vfc⟩, E1, es, rfl, hO, hC, hSm⟩ := tcanon_out HTu.out hc6; clear hc6; unfold TV.val)
      obtain ⟨rfl, hX1, hX2⟩ := cout_self (t := ⟨nodes, files, NA, nn, nc, FA, fn, fc⟩) (u := ⟨nodes, gs, NB, nn, nc2, FB, fn + k, fc2⟩) (ds' := ds ++ xs) (g := fun i => i) (ds := ds) HL.out Hn.out Hf.out Hdl.out (List.Perm.of_eq (turn_id _).symm) (by show nn ≤ 256; omega) (by show fn + k ≤ 256; omega) HSM.out HB0.out (fun i _ => Int.natCast_nonneg i) (fun i i' _ _ h => by omega) HF.out HTu.out hC
      have HSame := Lib.hid (show sameB ⟨vn, vf, vNA, vnn, vnc, vFA, vfn, vfc⟩ ⟨nodes, files, NA, nn, nc, FA, fn, fc⟩ es ds = true by unfold sameB; rw [hX1, hX2, HL.out]; rfl)
      have hV := Blk.new w6 26 #[.slice vNA vnn vnc, .slice vFA vfn vfc]
      have hg6 := (Below.refl w6.heap.size w6).alloc (Nat.le_refl _) (.cells #[.slice vNA vnn vnc, .slice vFA vfn vfc] 26)
      have hbe := hb6.trans (hg6.mono hb6.size)
      have HO := Lib.hid (hO.below hg6)
      obtain ⟨W6, hW6⟩ : ∃ W, w6.alloc (.cells #[.slice vNA vnn vnc, .slice vFA vfn vfc] 26) = W := ⟨_, rfl⟩
      obtain ⟨gv, hgv⟩ : ∃ g, w6.heap.size = g := ⟨_, rfl⟩
      rw [hW6] at hV hbe HO ⊢
      rw [hgv] at hV ⊢
      clear hW6 hgv hg6 hb6 hO hC hSm hX1 hX2 u0 u1
      replace hB := hB.below hbe hBl; replace hU := hU.below hbe hUl
      have HT7 := Lib.hid (HT6.out.keep hbe)
      have hVl := hV.lt; have hBl7 := hB.lt; have hUl7 := hU.lt
      have b0 := hB.cell 0; have b1 := hB.cell 1; have v0 := hV.cell 0; have v1 := hV.cell 1
      go_upto_region 13 with (first | (go_at_call 18; refine (numT _ _).mono ?_; rintro e w7 ⟨rfl, hw⟩; rw [hw]; clear hw) | (go_at_call 22; refine (same_any ⟨vn, vf, vNA, vnn, vnc, vFA, vfn, vfc⟩ ⟨nodes, files, NA, nn, nc, FA, fn, fc⟩ _ _ _ HO.out.tree HT7.out).mono ?_; rintro e w8 ⟨rfl, hb8⟩; rw [HSame.out]))
      replace hB := hB.below hb8 hBl7; replace hU := hU.below hb8 hUl7
      replace hbe := hbe.trans (hb8.mono hbe.size)
      clear hb8 hV hVl hBl7 hUl7 b0 b1 v0 v1 HO HT7 HSame
      have b0 := hB.cell 0
      by_cases h255 : (255 : Int) ≤ nn
      · go_wp2
        go_ret
        exact ⟨rfl, hb.trans (hbe.mono hb.size)⟩
      have HoN8 := Lib.hid (own_keep HoN.out fun g o e => by subst e; exact hbe.block g (own_lt2 HoN.out).2.1)
      have HoF8 := Lib.hid (own_keep HoF.out fun g o e => by subst e; exact hbe.block g (own_lt2 HoF.out).2.1)
      have HFR8 := Lib.hid (HFR.out.keep hbe.size fun j f b hf hb => hbe.block b (HFR.out.low j f b hf hb))
      have hb8 := hb.trans (hbe.mono hb.size)
      have hsz8 := Nat.le_trans hsz hbe.size
      clear HoN HoF HFR hbe HT6 HTu hb hsz
      have u0 := hU.cell 0; have u1 := hU.cell 1
      have hneU : ¬ some ub = blkOf NB := hU.ne_row HoN8.out (by decide)
      have hUl := hU.lt
      go_upto_region 15 with (fail)
      go_upto_region 16 with (at_builtin; refine wpList_append_one rfl _ _ _ rfl Try.nodeT rfl HoN8.out #[.string ⟨#[122, 122, 45, 110, 111, 110, 101]⟩, .int .i64 ((fn + k : Nat) : Int), .int .i64 0] rfl (by simp) rfl (last_one' _ _) (by unfold maxLen; omega) (by omega) hsz8 ?_; intro g9 c9 w9 ho9 hg9 hat9; have hU9 := hU.grown hg9 hneU; have q1 := hU9.cell 0; have q1f := hU9.frozen 0)
      have HU9 := Lib.hid (hU9.set 0 (.slice (some ⟨g9, 0, none⟩) (nn + 1) c9))
      have hFa := own_keep HoF8.out fun g o e => hg9.block g (own_lt2 (by rw [← e]; exact HoF8.out)).2.1 (row_ne_row HoF8.out HoN8.out (by decide) (by rw [e]; rfl))
      have hNz : (w9.setCell ⟨ub, 0, none⟩ (.slice (some ⟨g9, 0, none⟩) (nn + 1) c9)).ownsRow base 29 3 (.slice (some ⟨g9, 0, none⟩) (nn + 1) c9) (nn + 1) ((nodes ++ [(⟨⟨#[122, 122, 45, 110, 111, 110, 101]⟩, ((fn + k : Nat) : Int), 0, by decide⟩ : Node)]).flatMap Node.list) := by
        rw [List.flatMap_append]
        exact own_blkset ho9 hU9 (by decide) _ _
      have hFz := own_blkset hFa hU9 (by decide) 0 (.slice (some ⟨g9, 0, none⟩) (nn + 1) c9)
      have hRz := (HFR8.out.grown hg9 (HFR8.out.not_row (Nat.le_of_eq hDL.out.symm) HoN8.out (by decide))).blkset (Nat.le_of_eq hDL.out.symm) hU9 (by decide) 0 (.slice (some ⟨g9, 0, none⟩) (nn + 1) c9)
      have hbz := (hb8.trans (below_grown hg9 hb8.size (fun g e => by have := own_blk1 HoN8.out g e; omega))).setCell (p := ⟨ub, 0, none⟩) (show w.heap.size ≤ ub by omega) (.slice (some ⟨g9, 0, none⟩) (nn + 1) c9)
      obtain ⟨Wz, hWz⟩ : ∃ W, w9.setCell ⟨ub, 0, none⟩ (.slice (some ⟨g9, 0, none⟩) (nn + 1) c9) = W := ⟨_, rfl⟩
      rw [hWz] at HU9 hNz hFz hRz hbz ⊢
      have hUz : Blk Wz ub 26 #[.slice (some ⟨g9, 0, none⟩) (nn + 1) c9, .slice FB (fn + k) fc2] := HU9.out
      have hTz : TreeD Wz ⟨nodes ++ [⟨⟨#[122, 122, 45, 110, 111, 110, 101]⟩, ((fn + k : Nat) : Int), 0, by decide⟩], gs, some ⟨g9, 0, none⟩, nn + 1, c9, FB, fn + k, fc2⟩ (ds ++ xs) :=
        ⟨⟨by rw [List.length_append, Hn.out]; rfl, HGL.out, Sl.of_own hNz, Sl.of_own hFz, by show nn + 1 ≤ _; omega, by show fn + k ≤ _; omega⟩, ⟨hDL.out, fun j x d hx hd => ⟨(hRz.row j x d hx hd).1.symm, Sl.of_own (hRz.row j x d hx hd).2⟩⟩⟩
      have HTz := Lib.hid hTz
      clear hWz q1 q1f hU9 hFa hNz hFz hRz hTz hg9 ho9 hat9 HU9 u0 u1 hU hB b0 HoN8 HoF8 HFR8 hsz8
      have u0 := hUz.cell 0; have u1 := hUz.cell 1
      go_upto_region 17 with (go_at_call 41; refine (tcanon_any ⟨nodes ++ [⟨⟨#[122, 122, 45, 110, 111, 110, 101]⟩, ((fn + k : Nat) : Int), 0, by decide⟩], gs, some ⟨g9, 0, none⟩, nn + 1, c9, FB, fn + k, fc2⟩ (ds ++ xs) _ HTz.out).mono ?_; intro e wx hcx; obtain ⟨hbx, ⟨yn, yf, yNA, ynn, ync, yFA, yfn, yfc⟩, E2, es2, rfl, hO2, hC2, hSm2⟩ := tcanon_out HTz.out hcx; clear hcx; unfold TV.val)
      obtain rfl : E2 = 30 := by
        rcases hC2 with ⟨_, h2, _⟩ | ⟨h2, _⟩ | ⟨_, _, h2, _⟩
        · exfalso
          unfold boundB anyLong at h2
          simp only [Bool.or_eq_true, decide_eq_true_eq, List.any_eq_true] at h2
          rcases h2 with (h2 | h2) | ⟨x, hx, h2⟩
          · omega
          · omega
          · have := HSM.out x hx; omega
        · exact h2
        · exfalso
          have h3 := h2 ⟨⟨#[122, 122, 45, 110, 111, 110, 101]⟩, ((fn + k : Nat) : Int), 0, by decide⟩ (by simp)
          unfold badFile at h3
          simp only [Bool.or_eq_false_iff, decide_eq_false_iff_not] at h3
          omega
      go_wp2_with (go_at_call 18; refine (numT _ _).mono ?_; rintro e wy ⟨rfl, hw⟩; rw [hw]; clear hw)
      go_ret
      exact ⟨rfl, (hbz.trans (hbx.mono hbz.size)).alloc (Nat.le_trans hbz.size hbx.size) _⟩

set_option maxRecDepth 100000 in
theorem lifted (os : Os) (started : os.Started) (H : Type) (enc : TypeId × Value → H) :
    ReturnsInHanded {} Try.checked os 12 .any (Rows.treeUnnamedSpec.pre6 enc Try.prog Try.f12 Rows.treeUnnamedRow.domain false) (Rows.treeUnnamedSpec.post enc Try.prog Try.f12 false true false false) := by
  refine returnsInHanded_of_change (C := Try.checked) own started (by kernel_rfl) Try.func12
    (ChangeSpec.witness6 (enc := enc) (C := Try.checked) false ⟨#[], #[.agg #[.slice none 0 0, .slice none 0 0], .int .i64 0], []⟩ 8 (by kernel_rfl) (by kernel_rfl) (by kernel_rfl) (by kernel_rfl)) ?_
  intro W base args ds gs before hval0 hW hcnd _
  have hval : ∀ (j : Nat) t v, Try.f12.params[j]? = some t → args[j]? = some v → Value.okWide Try.prog W .any base t v := hval0
  have hW' := hW
  obtain ⟨p, q, hA0, hV, rfl, hfz, hnd⟩ := hW
  have hA : DataW.TrodAll enc Try.prog W 0 (fun _ => true) true Try.f12.params.toList args.toList ds p := hA0
  rw [Try.params12] at hA hval
  obtain ⟨v0, vs0, d0, ds0, p0, q0, hargs, rfl, rfl, h0, r0⟩ := trodAll_cons hA
  obtain ⟨v1, vs1, d1, ds1, p1, q1, rfl, rfl, rfl, h1, r1⟩ := trodAll_cons r0
  obtain ⟨rfl, rfl, rfl⟩ := trodAll_nil r1
  obtain rfl : args = #[v0, v1] := by cases args; simp_all
  obtain ⟨rfl, rfl⟩ := trodVars_none hV
  have k0 := h0
  have lt0 : ∀ x ∈ p0, x.block < W.heap.size := by obtain ⟨m, hm⟩ := k0; exact DataW.trod_lt m _ _ _ hm
  obtain ⟨t0, ds0', rfl, hT0⟩ := open_tree (hval 0 26 v0 rfl rfl) h0 lt0
  obtain ⟨a1, rfl, rfl, rfl, w1⟩ := open_int Try.underlying3 (hval 1 3 v1 rfl rfl) h1
  clear hA0 hval0
  refine (walk t0 ds0' a1 W hT0 w1).mono fun e W' ⟨he, bel⟩ => ?_
  subst he
  exact ⟨_, rfl, _, _, _, [], _, [], hW', trodAll_mk1 (shut_bool Try.underlying4 _), (trodAll_cons_mk (Below.trod laidOut (by kernel_rfl) (of_decide_eq_true (by kernel_rfl)) k0 bel lt0) (trodAll_cons_mk (shut_int Try.underlying3 w1) trodAll_mk0)), rfl, bel.frame _, fun h => by cases h⟩

theorem over : Rows.treeUnnamedRow.holds Try.pinned (OpenSpec.ofChange Rows.treeUnnamedSpec) :=
  OpenClaim.holds_of_wide 12 Try.f12 rfl rfl rfl rfl rfl rfl rfl ⟨rfl, rfl, rfl, rfl, rfl⟩ rfl rfl rfl rfl rfl (by kernel_rfl) Try.func12 (by kernel_rfl)
    (of_decide_eq_true (by kernel_rfl)) (by unfold Func.isWrapper; first | (rw [if_pos (by decide +kernel)]; kernel_rfl) | (rw [if_neg (by decide +kernel)]; exact ⟨rfl, rfl⟩))
    (fun os started H enc _ => lifted os started H enc)

theorem proved : Rows.TreeUnnamedSaid := over
#print axioms proved
end Go.Proofs.Ytdjlchbgdehccaa.treeUnnamedDone
